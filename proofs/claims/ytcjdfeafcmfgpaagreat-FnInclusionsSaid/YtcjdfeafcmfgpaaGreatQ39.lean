/- Contracts and plain laws of this seat; no condition. -/
import Derived.Test.YtcjdfeafcmfgpaaGreatQ38
set_option linter.unusedVariables false
set_option linter.unusedSimpArgs false
set_option maxRecDepth 100000
namespace Go.Proofs.YtcjdfeafcmfgpaaGreatD
open Go Go.Proofs
theorem get_setM (x y v : Int) : ∀ m : List (Int × Int), getM (setM m x y) v = if x = v then some y else getM m v
 | [] => by
  by_cases h : x = v
  ·subst h; simp [setM, getM]
  ·have hb : (x == v) = false := by rw [beq_eq_false_iff_ne]; exact h
   simp [setM, getM, h, hb]
 | (k, w) :: r => by
  have ih := get_setM x y v r
  simp only [setM]
  cases hb : (k == x) with
  | true =>
   have hk : k = x := by simpa using hb
   subst hk
   by_cases h : k = v
   ·subst h; simp [getM]
   ·have hb2 : (k == v) = false := by rw [beq_eq_false_iff_ne]; exact h
    simp [getM, h, hb2]
  | false =>
   have hk : k ≠ x := by rw [beq_eq_false_iff_ne] at hb; exact hb
   simp only [cond_false, getM]
   cases hb2 : (k == v) with
   | true =>
    have hkv : k = v := by simpa using hb2
    subst hkv
    simp [Ne.symm hk]
   | false => simpa using ih
def onesM (l : List Int) : List (Int × Int) := l.foldl (fun m v => setM m v 1) []
theorem onesM_snoc (l : List Int) (x : Int) : onesM (l ++ [x]) = setM (onesM l) x 1 := by
 unfold onesM; rw [List.foldl_append]; rfl
theorem get_ones_aux : ∀ (l : List Int) (m : List (Int × Int)) (v : Int), getM (l.foldl (fun m v => setM m v 1) m) v = if has l v then some 1 else getM m v
 | [], m, v => by simp [has]
 | x :: l, m, v => by
  rw [List.foldl_cons, get_ones_aux l, get_setM]
  have e : has (x :: l) v = (x == v || has l v) := rfl
  rw [e]
  cases hl : has l v with
  | true => simp
  | false =>
   by_cases h : x = v
   ·subst h; simp
   ·have hb : (x == v) = false := by rw [beq_eq_false_iff_ne]; exact h
    simp [h, hb]
theorem get_ones (l : List Int) (v : Int) : getM (onesM l) v = if has l v then some 1 else none := by
 unfold onesM; rw [get_ones_aux]; simp [getM]
def wAdd : Option AtomC → V
 | none => .tup [wAtom (0, []), cb false]
 | some a => .tup [wAtom a, cb true]
def dV (o : Option Int) : Int := o.getD 0
theorem set_bL {m : List Bool} {q : Nat} (hq : q < m.length) (u : Bool) : setC (rows bL m) (0 + q * 1) [cb u] = rows bL (m.set q u) :=
 (congrArg (fun o => setC (rows bL m) o (bL u)) (Nat.zero_add _)).trans (setC_rows bL_len (by omega) hq _)
theorem add_none {u : Nat → Bool} {T : Nat} (os : List (Option Int)) (h : 20 ≤ T) : ¬ (fillP u os (T + 1)).2 ≤ 20 := by
 have := fillP_ge u os (T + 1)
 omega
set_option maxHeartbeats 8000000 in
theorem addition_spec (s : List Int) (q : QueryT) (fr : Int) (P Q : List Int) (to : Nat) (a : AtomC) (hq : cQuery q ≤ 1048576) (hs : s.length ≤ 1099511627776) (hx : pIsInclusion s (fr, P, (to : Int), Q) = true) (hf : a.1 = fr) (ha : isAtom s a = true) : Spec Tryz.prog 124 [vSchema s, vQuery q, vInclusion (fr, P, (to : Int), Q), vAtom a] (wAdd (addP s q (fr, P, (to : Int), Q) a)) := by
 have hsch := incl_schema hx
 obtain ⟨_, _, _, hto, hPQ, hP, hQ⟩ := incl_ok hx
 simp only at hto hPQ hP hQ
 have hto' : to < s.length := by omega
 obtain ⟨a1, a2, a3⟩ := atom_fine ha
 rw [hf] at a2
 rw [Int.toNat_natCast] at hQ
 have hP3 := (arePl_at hP).2
 have hn3 := isSchema_le hsch (i := to)
 obtain ⟨n, hn⟩ : ∃ n : Nat, s.getD to 0 = (n : Int) := by
  refine ⟨(s.getD to 0).toNat, ?_⟩
  have := List.all_eq_true.1 (Bool.and_eq_true _ _ ▸ hsch : (s.all fun x => inR x 1 3) = true ∧ _).1 s[to] (List.getElem_mem hto')
  simp only [inR, Bool.and_eq_true, decide_eq_true_eq] at this
  rw [getD_at' hto']
  omega
 have hsn : s[to] = (n : Int) := by rw [← getD_at' hto']; exact hn
 unfold addP addArgs
 rw [show s.getD ((fr, P, (to : Int), Q) : InclL).2.2.1.toNat 0 = (n : Int) from by show s.getD ((to : Int)).toNat 0 = _; rw [Int.toNat_natCast]; exact hn, Int.toNat_natCast]
 show Spec _ _ _ (wAdd (if (fillP (uOf q) (slotK (fr, P, (to : Int), Q) a.2 n) 0).2 ≤ 20 then some ((to : Int), (fillP (uOf q) (slotK (fr, P, (to : Int), Q) a.2 n) 0).1) else none))
 generalize hX : fillP (uOf q) (slotK (fr, P, (to : Int), Q) a.2 n) 0 = X
 show Spec _ _ [vSchema s, vQuery q, .agg [ci fr, ints P, ci to, ints Q], vAtom a] _
 refine Spec_of mx Γ_ok Tryz.func124 rfl ?_
 conv => whnf
 refine ⟨[0, 1, 2, 3, 4, 5, 6, 7, 8, 9, 1000, 10, 1000, 11], by kernel_rfl, ?_⟩
 conv => whnf
 refine ⟨by omega, rows_len ciL_len _, ?_⟩
 conv => whnf
 refine ⟨_, takeN_rp (k := to) ciL_len hto', ?_⟩
 rw [hsn]
 conv => whnf
 refine ⟨by omega, _, repl_rows (f := ciL) (d := 0) rfl _, ?_⟩
 conv => whnf
 refine ⟨by omega, _, rows_bL _, ?_⟩
 conv => whnf
 refine ⟨[(4,0),(5,0),(6,0),(7,0),(8,0),(10,0),(11,0),(34,0),(35,0),(36,0)], fun m st => ∃ (k : Nat) (e : Int) (r1 r2 : List V), e = k ∧ m + k = Q.length ∧ r1 = rows ciL ((slots (fr, P, (to : Int), Q) a.2 n k).map dV) ∧ r2 = rows bL ((slots (fr, P, (to : Int), Q) a.2 n k).map Option.isSome) ∧
  st = ⟨101, [(4, .ptr 0 0), (5, .ptr 1 0), (6, .ptr 2 0), (7, .ptr 3 0), (8, .ptr 4 0), (10, .ptr 5 0), (11, .own 6 1 0 n n none), (34, ints Q), (35, ci Q.length), (36, ci e)], [some ⟨true, [ints s]⟩, some ⟨true, rQuery q⟩, some ⟨true, [ci fr, ints P, ci to, ints Q]⟩, some ⟨true, rAtom a⟩, some ⟨true, [ci 0, cnil]⟩, some ⟨true, [ci to, .own 7 1 0 n n none]⟩, some ⟨false, r2⟩, some ⟨false, r1⟩]⟩,
  Q.length, ⟨0, 0, rows ciL (List.replicate n 0), rows bL (List.replicate n false), rfl, rfl, by rw [slots_zero]; simp [dV], by rw [slots_zero]; simp, by kernel_rfl⟩, ?_⟩
 rintro m st ⟨k, _, _, _, rfl, hm, rfl, rfl, rfl⟩
 conv => whnf
 split <;> rename_i h1
 all_goals simp only [decide_eq_true_eq, decide_eq_false_iff_not] at h1
 ·have hk : k < Q.length := by omega
  have hkP : k < P.length := by omega
  obtain ⟨pj, hpj, hpl⟩ := pl_nat hP hkP
  obtain ⟨pq, hpq, hql⟩ := pl_nat hQ hk
  have hpa : pj < a.2.length := by omega
  have hpn : pq < n := by omega
  have hl1 : pq < ((slots (fr, P, (to : Int), Q) a.2 n k).map dV).length := by rw [List.length_map, slots_len]; exact hpn
  have hl2 : pq < ((slots (fr, P, (to : Int), Q) a.2 n k).map Option.isSome).length := by rw [List.length_map, slots_len]; exact hpn
  have hs1 : slots (fr, P, (to : Int), Q) a.2 n (k + 1) = (slots (fr, P, (to : Int), Q) a.2 n k).set pq (some a.2[pj]) := by
   rw [slots_succ _ _ _ _ (p := pq) (by show Q.getD k 0 = _; rw [getD_at' hk]; exact hpq) hpn]
   congr 2
   show getI _ (P.getD k 0) = _
   rw [getD_at' hkP, hpj, getI, Int.toNat_natCast, getD_at' hpa]
  conv => whnf
  refine ⟨by omega, rows_len ciL_len _, ?_⟩
  conv => whnf
  refine ⟨_, takeN_rp (k := k) ciL_len hk, ?_⟩
  rw [hpq]
  conv => whnf
  refine ⟨List.range 14, by kernel_rfl, ?_⟩
  conv => whnf
  refine ⟨by omega, rows_len ciL_len _, ?_⟩
  conv => whnf
  refine ⟨_, takeN_rp (k := k) ciL_len hkP, ?_⟩
  rw [hpj]
  conv => whnf
  refine ⟨by omega, rows_len ciL_len _, ?_⟩
  conv => whnf
  refine ⟨_, takeN_rp (k := pj) ciL_len hpa, ?_⟩
  conv => whnf
  refine ⟨by omega, ?_⟩
  conv => whnf
  refine ⟨_, takeN_own (k := pq) (d := 0) (xs := (slots (fr, P, (to : Int), Q) a.2 n k).map dV) ciL_len (Nat.zero_add _) hl1 (Nat.le_refl _) rfl, _, set_ciL hl1 _, ?_⟩
  conv => whnf
  refine ⟨by omega, ?_⟩
  conv => whnf
  refine ⟨_, takeN_own (k := pq) (d := 0) (xs := (slots (fr, P, (to : Int), Q) a.2 n k).map Option.isSome) bL_len (Nat.zero_add _) hl2 (Nat.le_refl _) rfl, _, set_bL hl2 _, ?_⟩
  conv => whnf
  exact ⟨m - 1, by omega, k + 1, IntKind.i64.wrap ((k : Int) + 1), rows ciL (((slots (fr, P, (to : Int), Q) a.2 n k).map dV).set pq a.2[pj]), rows bL (((slots (fr, P, (to : Int), Q) a.2 n k).map Option.isSome).set pq true), wrap_id (by omega) (by omega), by omega, by rw [hs1, List.map_set]; rfl, by rw [hs1, List.map_set]; rfl, by kernel_rfl⟩
 ·have hkQ : k = Q.length := by omega
  subst hkQ
  have hSl : (slots (fr, P, (to : Int), Q) a.2 n Q.length).length = n := slots_len _ _ _ _
  have hX' : fillP (uOf q) (slots (fr, P, (to : Int), Q) a.2 n Q.length) 0 = X := hX
  clear hX
  generalize slots (fr, P, (to : Int), Q) a.2 n Q.length = S at hSl hX'
  have hvl := varsTo_len20 q
  conv => whnf
  refine ⟨_, implVarsOf_spec q hq, .inl rfl, .inl ?_⟩
  rw [intsT_ro]
  conv => whnf
  refine ⟨[(8,0),(10,0),(11,0),(14,0),(60,0),(61,0),(62,0)], fun m st => ∃ (j : Nat) (e : Int) (M : List (Int × Int)), e = j ∧ m + j = (varsOf q).length ∧ M = onesM ((varsOf q).take j) ∧
   st = ⟨101, [(8, .ptr 0 0), (10, .ptr 1 0), (11, .own 2 1 0 n n none), (14, .mref 3), (60, ints (varsOf q)), (61, ci (varsOf q).length), (62, ci e)], [some ⟨true, [ci 0, cnil]⟩, some ⟨true, [ci to, .own 4 1 0 n n none]⟩, some ⟨false, rows bL (S.map Option.isSome)⟩, some ⟨true, [.bp (encM M)]⟩, some ⟨false, rows ciL (S.map dV)⟩]⟩,
   (varsOf q).length, ⟨0, 0, [], rfl, rfl, rfl, by kernel_rfl⟩, ?_⟩
  rintro m2 st ⟨j, _, M, rfl, hm2, hM, rfl⟩
  conv => whnf
  split <;> rename_i h2
  all_goals simp only [decide_eq_true_eq, decide_eq_false_iff_not] at h2
  ·have hj : j < (varsOf q).length := by omega
   conv => whnf
   refine ⟨by omega, rows_len ciL_len _, ?_⟩
   conv => whnf
   refine ⟨_, takeN_rp (k := j) ciL_len hj, ?_⟩
   conv => whnf
   refine ⟨M, rfl, _, rfl, ?_⟩
   conv => whnf
   exact ⟨m2 - 1, by omega, j + 1, IntKind.i64.wrap ((j : Int) + 1), setM M (varsOf q)[j] 1, wrap_id (by omega) (by omega), by omega, by rw [List.take_succ_eq_append_getElem hj, onesM_snoc, hM], by kernel_rfl⟩
  ·have hget : ∀ w : Nat, getM M (w : Int) = if uOf q w then some 1 else none := fun w => by
    rw [hM, List.take_of_length_le (by omega), get_ones]; rfl
   clear hM
   conv => whnf
   refine ⟨[(8,0),(10,0),(11,0),(14,0),(17,0),(71,0),(72,0)], fun m st => ∃ (p nx : Nat) (e f : Int) (A : List Int) (rA : List V), e = p ∧ f = nx ∧ m + p = n ∧ A.length = p ∧ nx ≤ 20 ∧ X = (A ++ (fillP (uOf q) (S.drop p) nx).1, (fillP (uOf q) (S.drop p) nx).2) ∧ rA = rows ciL (A ++ (S.drop p).map dV) ∧
    st = ⟨101, [(8, .ptr 0 0), (10, .ptr 1 0), (11, .own 2 1 0 n n none), (14, .mref 3), (17, ci f), (71, ci n), (72, ci e)], [some ⟨true, [ci 0, cnil]⟩, some ⟨true, [ci to, .own 4 1 0 n n none]⟩, some ⟨false, rows bL (S.map Option.isSome)⟩, some ⟨true, [.bp (encM M)]⟩, some ⟨false, rA⟩]⟩,
    n, ⟨0, 0, 0, 0, [], rows ciL (S.map dV), rfl, rfl, rfl, rfl, by omega, by rw [← hX']; rfl, rfl, by kernel_rfl⟩, ?_⟩
   rintro m3 st ⟨p, nx, _, _, A, _, rfl, rfl, hm3, hA, hnx, hXp, rfl, rfl⟩
   conv => whnf
   split <;> rename_i h3
   all_goals simp only [decide_eq_true_eq, decide_eq_false_iff_not] at h3
   ·have hpn : p < n := by omega
    have hpS : p < S.length := by omega
    have hpB : p < (S.map Option.isSome).length := by rw [List.length_map]; exact hpS
    rw [List.drop_eq_getElem_cons hpS] at hXp
    have hrow : A ++ (S.drop p).map dV = (A ++ [dV S[p]]) ++ (S.drop (p + 1)).map dV := by
     rw [List.drop_eq_getElem_cons hpS, List.map_cons, List.append_assoc]
     rfl
    have hsm : (S.map Option.isSome)[p] = S[p].isSome := by simp
    have hdr := List.drop_eq_getElem_cons hpS
    conv => whnf
    refine ⟨by omega, ?_⟩
    conv => whnf
    refine ⟨_, takeN_own (k := p) (d := 0) (xs := S.map Option.isSome) bL_len (Nat.zero_add _) hpB (Nat.le_refl _) rfl, ?_⟩
    rw [hsm]
    generalize S[p] = o at hXp hrow hdr
    cases o with
    | some t =>
     conv => whnf
     exact ⟨m3 - 1, by omega, p + 1, nx, IntKind.i64.wrap ((p : Int) + 1), nx, A ++ [t], rows ciL (A ++ (S.drop p).map dV), wrap_id (by omega) (by omega), rfl, by omega, by simp [hA], hnx, by rw [hXp]; simp [fillP], by rw [hrow]; rfl, by kernel_rfl⟩
    | none =>
     have t1 := nextW_ge (uOf q) (20 - nx) nx
     have t2 := nextW_le (uOf q) (20 - nx) nx
     have t3 := nextW_used (uOf q) (20 - nx) nx
     have t4 := nextW_free (uOf q) (uOf_20 q) (20 - nx) nx (by omega)
     rw [fillP] at hXp
     generalize nextW (uOf q) (20 - nx) nx = T at t1 t2 t3 t4 hXp
     conv => whnf
     refine ⟨[(8,0),(10,0),(11,0),(14,0),(17,0),(18,0),(71,0),(72,0)], fun m st => ∃ (w : Nat) (f : Int), f = w ∧ m + w = T ∧ nx ≤ w ∧
      st = ⟨101, [(8, .ptr 0 0), (10, .ptr 1 0), (11, .own 2 1 0 n n none), (14, .mref 3), (17, ci f), (18, ci p), (71, ci n), (72, ci p)], [some ⟨true, [ci 0, cnil]⟩, some ⟨true, [ci to, .own 4 1 0 n n none]⟩, some ⟨false, rows bL (S.map Option.isSome)⟩, some ⟨true, [.bp (encM M)]⟩, some ⟨false, rows ciL (A ++ (S.drop p).map dV)⟩]⟩,
      T - nx, ⟨nx, nx, rfl, by omega, Nat.le_refl _, by kernel_rfl⟩, ?_⟩
     rintro m4 st ⟨w, _, rfl, hm4, hnw, rfl⟩
     have done : w = T → T < 20 → ∃ m', m' < m3 ∧ True := fun _ _ => ⟨m3 - 1, by omega, trivial⟩
     conv => whnf
     rcases Nat.lt_or_ge w 20 with hw20 | hw20
     ·rw [show decide ((w : Int) < 20) = true from decide_eq_true (by omega)]
      conv => whnf
      refine ⟨M, rfl, ?_⟩
      rw [hget w]
      rcases Nat.lt_or_ge w T with hwT | hwT
      ·rw [t3 w hnw hwT, show (if true = true then some (1 : Int) else none) = some 1 from rfl]
       conv => whnf
       exact ⟨m4 - 1, by omega, w + 1, IntKind.i64.wrap ((w : Int) + 1), wrap_id (by omega) (by omega), by omega, by omega, by kernel_rfl⟩
      ·have hwe : w = T := by omega
       subst hwe
       rw [t4, show (if false = true then some (1 : Int) else none) = none from rfl]
       conv => whnf
       rw [show ((w : Int) == 20) = false from by rw [beq_eq_false_iff_ne]; omega]
       conv => whnf
       have hlr : p < (A ++ (S.drop p).map dV).length := by rw [List.length_append, List.length_map, List.length_drop]; omega
       have hset : (A ++ (S.drop p).map dV).set p (w : Int) = (A ++ [(w : Int)]) ++ (S.drop (p + 1)).map dV := by
        rw [hdr, List.map_cons, List.set_append_right _ _ (by omega), hA, Nat.sub_self, List.set_cons_zero, List.append_assoc]
        rfl
       refine ⟨by omega, ?_⟩
       conv => whnf
       refine ⟨_, takeN_own (k := p) (d := 0) (xs := A ++ (S.drop p).map dV) ciL_len (Nat.zero_add _) hlr (Nat.le_refl _) rfl, _, set_ciL hlr _, ?_⟩
       conv => whnf
       exact ⟨m3 - 1, by omega, p + 1, w + 1, IntKind.i64.wrap ((p : Int) + 1), IntKind.i64.wrap ((w : Int) + 1), A ++ [(w : Int)], rows ciL ((A ++ (S.drop p).map dV).set p (w : Int)), wrap_id (by omega) (by omega), wrap_id (by omega) (by omega), by omega, by simp [hA], by omega, by rw [hXp]; simp, by rw [hset], by kernel_rfl⟩
     ·have hwe : w = T := by omega
      subst hwe
      rw [show decide ((w : Int) < 20) = false from decide_eq_false (by omega)]
      conv => whnf
      rw [show ((w : Int) == 20) = true from by rw [beq_iff_eq]; omega]
      conv => whnf
      rw [hXp, if_neg (add_none _ hw20)]
      exact .inr ⟨1, rfl⟩
   ·have hpn : p = n := by omega
    subst hpn
    have hdr : S.drop p = [] := List.drop_eq_nil_of_le (by omega)
    rw [hdr] at hXp
    simp only [fillP, List.append_nil] at hXp
    rw [hXp, if_pos hnx, hdr, List.map_nil, List.append_nil]
    conv => whnf
    refine ⟨by rw [rows_len ciL_len, hA, Nat.mul_one], ?_⟩
    rw [← hA]
    rfl
end Go.Proofs.YtcjdfeafcmfgpaaGreatD
