/- Contracts and plain laws of this seat; no condition. -/
import Derived.Test.YtcjdfeafcmfgpaaGreatQ37
set_option linter.unusedVariables false
set_option linter.unusedSimpArgs false
set_option maxRecDepth 100000
namespace Go.Proofs.YtcjdfeafcmfgpaaGreatD
open Go Go.Proofs
theorem arePl_at {n : Int} {l : List Int} (h : arePl n l = true) : (∀ x ∈ l, 0 ≤ x ∧ x < n) ∧ l.length ≤ 3 := by
 rw [arePl_eq] at h
 simp only [Bool.and_eq_true, List.all_eq_true, inR, decide_eq_true_eq] at h
 obtain ⟨⟨h1, _⟩, h3⟩ := h
 exact ⟨fun x hx => by have := h1 x hx; omega, by omega⟩
theorem pl_nat {n : Int} {l : List Int} (h : arePl n l = true) {j : Nat} (hj : j < l.length) : ∃ p : Nat, l[j] = (p : Int) ∧ (p : Int) < n := by
 have := (arePl_at h).1 _ (List.getElem_mem hj)
 exact ⟨l[j].toNat, by omega, by omega⟩
theorem atom_fine {s : List Int} {a : AtomC} (h : isAtom s a = true) : a.2.length ≤ 3 ∧ (a.2.length : Int) = s.getD a.1.toNat 0 ∧ ∀ t ∈ a.2, -80 ≤ t ∧ t < 20 := by
 simp only [isAtom, takesS, Bool.and_eq_true, decide_eq_true_eq] at h
 obtain ⟨⟨h0, h1, h2⟩, h3⟩ := h
 have := isSchema_le h0 (i := a.1.toNat)
 refine ⟨by omega, h2.symm, fun t ht => ?_⟩
 have := List.all_eq_true.1 h3 t ht
 simp only [isTerm, inR, Bool.and_eq_true, decide_eq_true_eq] at this
 omega
theorem incl_schema {s : List Int} {x : InclL} (h : pIsInclusion s x = true) : isSchema s = true := by
 simp only [pIsInclusion, isIncl, Bool.and_eq_true] at h
 exact h.1.1.1.1.1
def uOf (q : QueryT) (v : Nat) : Bool := has (varsOf q) (v : Int)
theorem uOf_20 (q : QueryT) (w : Nat) (h : 20 ≤ w) : uOf q w = false := by
 cases h2 : uOf q w with
 | false => rfl
 | true =>
  have h3 : top (varsOf q) ≤ 20 := top_fine (varsOf_fine q)
  have := top_has h2
  omega
def sTo (x : InclL) (a : List Int) (k p : Nat) : Int := (srcTo x a k p).getD (-1000)
theorem sTo_hit {x : InclL} {a : List Int} {k p : Nat} (h : x.2.2.2.getD k 0 = (p : Int)) : sTo x a (k + 1) p = getI a (x.2.1.getD k 0) := by
 unfold sTo; rw [srcTo, if_pos h]; rfl
theorem sTo_miss {x : InclL} {a : List Int} {k p : Nat} (h : x.2.2.2.getD k 0 ≠ (p : Int)) : sTo x a (k + 1) p = sTo x a k p := by
 unfold sTo; rw [srcTo, if_neg h]
theorem srcTo_term {x : InclL} {a : List Int} (hx : ∀ k, k < x.2.1.length → ∃ j : Nat, x.2.1.getD k 0 = (j : Int) ∧ j < a.length) (ha : ∀ t ∈ a, -80 ≤ t ∧ t < 20) : ∀ (k : Nat), k ≤ x.2.1.length → ∀ {p : Nat} {t : Int}, srcTo x a k p = some t → -80 ≤ t ∧ t < 20
 | 0, _, p, t, h => by cases h
 | k + 1, hk, p, t, h => by
  rw [srcTo] at h
  split at h
  ·obtain ⟨j, h1, h2⟩ := hx k (by omega)
   rw [h1, getI, Int.toNat_natCast, getD_at' h2] at h
   cases h
   exact ha _ (List.getElem_mem h2)
  ·exact srcTo_term hx ha k (by omega) h
def addS (s : List Int) (q : QueryT) (x : InclL) (a : List Int) : V :=
 .tup [wQuery (q.1, q.2 ++ [(x.2.2.1, (addArgs q x a (s.getD x.2.2.1.toNat 0).toNat).1)]), cb (decide ((addArgs q x a (s.getD x.2.2.1.toNat 0).toNat).2 ≤ 20) && decide (q.2.length + 1 ≤ 8))]
def slotK (x : InclL) (a : List Int) (n : Nat) : List (Option Int) := slots x a n x.2.2.2.length
theorem slot_at (x : InclL) (a : List Int) {n p : Nat} (h : p < n) : (slotK x a n).drop p = srcTo x a x.2.2.2.length p :: (slotK x a n).drop (p + 1) := by
 have hl : p < (slotK x a n).length := by rw [slotK, slots_len]; exact h
 rw [List.drop_eq_getElem_cons hl]
 congr 1
 simp [slotK, slots]
set_option maxHeartbeats 8000000 in
theorem l14Add_spec (s : List Int) (q : QueryT) (fr : Int) (P Q : List Int) (to i : Nat) (hq : cQuery q ≤ 1048576) (hs : s.length ≤ 1099511627776) (hi : i < q.2.length) (hx : pIsInclusion s (fr, P, (to : Int), Q) = true) (hf : q.2[i].1 = fr) (ha : allA s q.2) : Spec Tryz.prog 128 [vSchema s, vQuery q, vInclusion (fr, P, (to : Int), Q), ci i] (addS s q (fr, P, (to : Int), Q) q.2[i].2) := by
 have hsch := incl_schema hx
 obtain ⟨_, _, _, hto, hPQ, hP, hQ⟩ := incl_ok hx
 simp only at hto hPQ hP hQ
 have hto' : to < s.length := by omega
 obtain ⟨a1, a2, a3⟩ := atom_fine (ha _ (List.getElem_mem hi))
 rw [hf] at a2
 rw [Int.toNat_natCast] at hQ
 have hP3 := (arePl_at hP).2
 have hq' := hq
 unfold cQuery cAtomS at hq'
 have hn3 := isSchema_le hsch (i := to)
 obtain ⟨n, hn⟩ : ∃ n : Nat, s.getD to 0 = (n : Int) := by
  refine ⟨(s.getD to 0).toNat, ?_⟩
  have := List.all_eq_true.1 (Bool.and_eq_true _ _ ▸ hsch : (s.all fun x => inR x 1 3) = true ∧ _).1 s[to] (List.getElem_mem hto')
  simp only [inR, Bool.and_eq_true, decide_eq_true_eq] at this
  rw [getD_at' hto']
  omega
 have hsn : s[to] = (n : Int) := by rw [← getD_at' hto']; exact hn
 have hterm : ∀ {p : Nat} {t : Int}, srcTo (fr, P, (to : Int), Q) q.2[i].2 Q.length p = some t → -80 ≤ t ∧ t < 20 := fun {p t} h => by
  refine srcTo_term (x := (fr, P, (to : Int), Q)) (fun k hk => ?_) a3 Q.length (by show Q.length ≤ P.length; omega) h
  obtain ⟨j, h1, h2⟩ := pl_nat hP hk
  refine ⟨j, ?_, by omega⟩
  show P.getD k 0 = _
  rw [getD_at' hk]; exact h1
 unfold addS addArgs
 rw [show s.getD ((to : Int)).toNat 0 = (n : Int) from by rw [Int.toNat_natCast]; exact hn, Int.toNat_natCast]
 show Spec _ _ _ (.tup [wQuery (q.1, q.2 ++ [((to : Int), (fillP (uOf q) (slotK (fr, P, (to : Int), Q) q.2[i].2 n) 0).1)]), cb (decide ((fillP (uOf q) (slotK (fr, P, (to : Int), Q) q.2[i].2 n) 0).2 ≤ 20) && decide (q.2.length + 1 ≤ 8))])
 generalize hX : fillP (uOf q) (slotK (fr, P, (to : Int), Q) q.2[i].2 n) 0 = X
 refine Spec_of mx Γ_ok Tryz.func128 rfl ?_
 conv => whnf
 refine ⟨_, specVarsOf_spec q hq, .inl rfl, .inr ?_⟩
 conv => whnf
 have hvl := varsTo_len20 q
 refine ⟨[(3,0),(4,0),(5,0),(6,0),(8,0),(10,0),(11,201),(12,0),(13,0)], fun m st => ∃ (p nx v nu k : Nat) (e f : Int) (U A : List Int) (rU rA : List V), e = p ∧ f = v ∧ m + p = n ∧ nu = U.length ∧ k = A.length ∧ k = p ∧ nx ≤ 21 + p ∧ nu ≤ 20 + p ∧ X = (A ++ (fillP (uOf q) ((slotK (fr, P, (to : Int), Q) q.2[i].2 n).drop p) nx).1, (fillP (uOf q) ((slotK (fr, P, (to : Int), Q) q.2[i].2 n).drop p) nx).2) ∧
  (∀ w : Nat, nx ≤ w → has U (w : Int) = uOf q w) ∧ ((nx = 0 ∧ v = 0) ∨ (nx = v + 1 ∧ has U (v : Int) = true)) ∧ rU = rows ciL U ∧ rA = rows ciL A ∧
  st = ⟨94, [(3, ci i), (4, .ptr 0 0), (5, .ptr 1 0), (6, .ptr 2 0), (8, .ptr 3 0), (10, .own 4 1 0 nu nu none), (11, .ptr 5 0), (12, ci f), (13, ci e)], [some ⟨true, [ints s]⟩, some ⟨true, rQuery q⟩, some ⟨true, rInclusion (fr, P, (to : Int), Q)⟩, some ⟨true, [cnil, cnil]⟩, some ⟨false, rU⟩, some ⟨true, [ci to, .own 6 1 0 k k none]⟩, some ⟨false, rA⟩]⟩,
  n, ⟨0, 0, 0, (varsOf q).length, 0, 0, 0, varsOf q, [], rows ciL (varsOf q), [], rfl, rfl, rfl, rfl, rfl, rfl, by omega, by omega, by rw [← hX]; rfl, fun w _ => rfl, .inl ⟨rfl, rfl⟩, rfl, rfl, by kernel_rfl⟩, ?_⟩
 rintro m st ⟨p, nx, v, nu, k, _, _, U, A, _, _, rfl, rfl, hm, hnu, hk, hkp, hnx, hnub, hXp, hhas, hvx, rfl, rfl, rfl⟩
 conv => whnf
 refine ⟨by dsimp only; omega, rows_len ciL_len _, ?_⟩
 conv => whnf
 refine ⟨_, takeN_rp (k := to) ciL_len hto', ?_⟩
 rw [hsn]
 conv => whnf
 split <;> rename_i h1
 all_goals simp only [decide_eq_true_eq, decide_eq_false_iff_not] at h1
 ·have hpn : p < n := by omega
  rw [slot_at _ _ hpn] at hXp
  conv => whnf
  refine ⟨[(3,0),(4,0),(5,0),(6,0),(8,0),(10,0),(11,201),(12,0),(13,0),(14,0),(15,0)], fun m' st => ∃ (j : Nat) (e g : Int), e = j ∧ g = sTo (fr, P, (to : Int), Q) q.2[i].2 j p ∧ m' + j = Q.length ∧
   st = ⟨94, [(3, ci i), (4, .ptr 0 0), (5, .ptr 1 0), (6, .ptr 2 0), (8, .ptr 3 0), (10, .own 4 1 0 nu nu none), (11, .ptr 5 0), (12, ci v), (13, ci p), (14, ci g), (15, ci e)], [some ⟨true, [ints s]⟩, some ⟨true, rQuery q⟩, some ⟨true, rInclusion (fr, P, (to : Int), Q)⟩, some ⟨true, [cnil, cnil]⟩, some ⟨false, rows ciL U⟩, some ⟨true, [ci to, .own 6 1 0 k k none]⟩, some ⟨false, rows ciL A⟩]⟩,
   Q.length, ⟨0, 0, -1000, rfl, rfl, rfl, by kernel_rfl⟩, ?_⟩
  rintro m' st ⟨j, _, g, rfl, hg, hm', rfl⟩
  conv => whnf
  split <;> rename_i h2
  all_goals simp only [decide_eq_true_eq, decide_eq_false_iff_not] at h2
  ·have hj : j < Q.length := by omega
   have hjP : j < P.length := by omega
   obtain ⟨pj, hpj, hpl⟩ := pl_nat hP hjP
   have hpa : pj < q.2[i].2.length := by omega
   have hhit : Q[j] = (p : Int) → sTo (fr, P, (to : Int), Q) q.2[i].2 (j + 1) p = q.2[i].2[pj] := fun h => by
    rw [sTo_hit (by show Q.getD j 0 = _; rw [getD_at' hj]; exact h)]
    show getI _ (P.getD j 0) = _
    rw [getD_at' hjP, hpj, getI, Int.toNat_natCast, getD_at' hpa]
   have hmiss : Q[j] ≠ (p : Int) → sTo (fr, P, (to : Int), Q) q.2[i].2 (j + 1) p = g := fun h => by
    rw [sTo_miss (by show Q.getD j 0 ≠ _; rw [getD_at' hj]; exact h), hg]
   conv => whnf
   refine ⟨by dsimp only; omega, rows_len ciL_len _, ?_⟩
   conv => whnf
   refine ⟨_, takeN_rp (k := j) ciL_len hj, ?_⟩
   conv => whnf
   generalize hb : (Q[j] == (p : Int)) = b
   cases b with
   | false =>
    conv => whnf
    exact ⟨m' - 1, by omega, j + 1, IntKind.i64.wrap ((j : Int) + 1), g, wrap_id (by omega) (by omega), (hmiss (by simpa using hb)).symm, by omega, by kernel_rfl⟩
   | true =>
    conv => whnf
    refine ⟨List.range 14, by kernel_rfl, ?_⟩
    conv => whnf
    refine ⟨by omega, rows_len rAtom_len _, ?_⟩
    conv => whnf
    refine ⟨_, takeN_rp_field (k := i) (d := 1) (m := 1) (r := [ints q.2[i].2]) rAtom_len hi (by omega) rfl, ?_⟩
    conv => whnf
    refine ⟨by dsimp only; omega, rows_len ciL_len _, ?_⟩
    conv => whnf
    refine ⟨_, takeN_rp (k := j) ciL_len hjP, ?_⟩
    rw [hpj]
    conv => whnf
    refine ⟨by omega, rows_len ciL_len _, ?_⟩
    conv => whnf
    refine ⟨_, takeN_rp (k := pj) ciL_len hpa, ?_⟩
    conv => whnf
    exact ⟨m' - 1, by omega, j + 1, IntKind.i64.wrap ((j : Int) + 1), q.2[i].2[pj], wrap_id (by omega) (by omega), (hhit (by simpa using hb)).symm, by omega, by kernel_rfl⟩
  ·have hjQ : j = Q.length := by omega
   subst hjQ
   unfold sTo at hg
   have hsrc : srcTo (fr, P, (to : Int), Q) q.2[i].2 (fr, P, (to : Int), Q).2.2.2.length p = srcTo (fr, P, (to : Int), Q) q.2[i].2 Q.length p := rfl
   rw [hsrc] at hXp
   conv => whnf
   cases ho : srcTo (fr, P, (to : Int), Q) q.2[i].2 Q.length p with
   | some t =>
    rw [ho] at hg hXp
    have ht := hterm ho
    have hgt : g = t := hg
    subst hgt
    have hb : (g == (-1000 : Int)) = false := by rw [beq_eq_false_iff_ne]; omega
    rw [hb]
    conv => whnf
    refine ⟨_, rfl, .inl ⟨flat1 rfl, ?_⟩⟩
    conv => whnf
    refine ⟨by omega, by rw [rows_len ciL_len, hk], _, snoc_ci _ _, ?_⟩
    conv => whnf
    exact ⟨m - 1, by omega, p + 1, nx, v, nu, k + 1, IntKind.i64.wrap ((p : Int) + 1), v, U, A ++ [g], rows ciL U, rows ciL (A ++ [g]), wrap_id (by omega) (by omega), rfl, by omega, hnu, by simp [hk], by omega, by omega, by omega, by rw [hXp]; simp [fillP], hhas, hvx, rfl, rfl, by kernel_rfl⟩
   | none =>
    rw [ho] at hg hXp
    have hgt : g = -1000 := hg
    subst hgt
    have hb : ((-1000 : Int) == (-1000 : Int)) = true := rfl
    rw [hb]
    have t1 := nextW_ge (uOf q) (20 - nx) nx
    have t2 := nextW_le (uOf q) (20 - nx) nx
    have t3 := nextW_used (uOf q) (20 - nx) nx
    have t4 := nextW_free (uOf q) (uOf_20 q) (20 - nx) nx (by omega)
    rw [fillP] at hXp
    generalize nextW (uOf q) (20 - nx) nx = T at t1 t2 t3 t4 hXp
    have hused : ∀ w : Nat, v ≤ w → w < T → has U (w : Int) = true := fun w h3 h4 => by
     rcases Nat.lt_or_ge w nx with h5 | h5
     ·rcases hvx with ⟨h6, h7⟩ | ⟨h6, h7⟩
      ·omega
      ·have : w = v := by omega
       rw [this]; exact h7
     ·rw [hhas w h5]; exact t3 w h5 h4
    have hfree : has U (T : Int) = false := by rw [hhas T t1]; exact t4
    have hvT : v ≤ T := by omega
    conv => whnf
    refine ⟨[(3,0),(4,0),(5,0),(6,0),(8,0),(10,0),(11,201),(12,0),(13,0)], fun m' st => ∃ (w : Nat) (f : Int), f = w ∧ m' + w = T ∧ v ≤ w ∧
     st = ⟨94, [(3, ci i), (4, .ptr 0 0), (5, .ptr 1 0), (6, .ptr 2 0), (8, .ptr 3 0), (10, .own 4 1 0 nu nu none), (11, .ptr 5 0), (12, ci f), (13, ci p)], [some ⟨true, [ints s]⟩, some ⟨true, rQuery q⟩, some ⟨true, rInclusion (fr, P, (to : Int), Q)⟩, some ⟨true, [cnil, cnil]⟩, some ⟨false, rows ciL U⟩, some ⟨true, [ci to, .own 6 1 0 k k none]⟩, some ⟨false, rows ciL A⟩]⟩,
     T - v, ⟨v, v, rfl, by omega, Nat.le_refl _, by kernel_rfl⟩, ?_⟩
    rintro m1 st ⟨w, _, rfl, hm1, hvw, rfl⟩
    conv => whnf
    refine .inl ?_
    conv => whnf
    refine ⟨_, _, takeN_all (by rw [rows_len ciL_len, hnu]), roVs_ci _, ?_⟩
    conv => whnf
    have hsp := l2Has_spec U w (by omega)
    unfold ints at hsp
    rw [← hnu] at hsp
    refine ⟨_, hsp, .inr trivial, .inl ?_⟩
    conv => whnf
    rcases Nat.lt_or_ge w T with hwT | hwT
    ·rw [hused w hvw hwT]
     conv => whnf
     exact ⟨m1 - 1, by omega, w + 1, IntKind.i64.wrap ((w : Int) + 1), wrap_id (by omega) (by omega), by omega, by omega, by kernel_rfl⟩
    ·have hwe : w = T := by omega
     subst hwe
     rw [hfree]
     conv => whnf
     refine ⟨_, rfl, .inl ⟨flat1 rfl, ?_⟩⟩
     conv => whnf
     refine ⟨by omega, by rw [rows_len ciL_len, hnu], _, snoc_ci _ _, ?_⟩
     conv => whnf
     refine ⟨_, rfl, .inl ⟨flat1 rfl, ?_⟩⟩
     conv => whnf
     refine ⟨by omega, by rw [rows_len ciL_len, hk], _, snoc_ci _ _, ?_⟩
     conv => whnf
     refine ⟨m - 1, by omega, p + 1, w + 1, w, nu + 1, k + 1, IntKind.i64.wrap ((p : Int) + 1), w, U ++ [(w : Int)], A ++ [(w : Int)], rows ciL (U ++ [(w : Int)]), rows ciL (A ++ [(w : Int)]), wrap_id (by omega) (by omega), rfl, by omega, by simp [hnu], by simp [hk], by omega, by omega, by omega, by rw [hXp]; simp, fun w1 h3 => ?_, .inr ⟨rfl, ?_⟩, rfl, rfl, by kernel_rfl⟩
     ·rw [has_append, hhas w1 (by omega), has_one]
      have : ((w : Int) == (w1 : Int)) = false := by rw [beq_eq_false_iff_ne]; omega
      rw [this, Bool.or_false]
     ·rw [has_append, has_one]
      simp
 ·have hpn : p = n := by omega
  subst hpn
  have hdr : (slotK (fr, P, (to : Int), Q) q.2[i].2 p).drop p = [] := by
   apply List.drop_eq_nil_of_le
   rw [slotK, slots_len]
   exact Nat.le_refl _
  rw [hdr] at hXp
  simp only [fillP, List.append_nil] at hXp
  subst hXp
  conv => whnf
  refine ⟨_, l4Copy_spec q hq, .inl rfl, .inr ?_⟩
  conv => whnf
  subst hk
  refine ⟨by rw [rows_len ciL_len, Nat.mul_one], ?_⟩
  conv => whnf
  refine ⟨_, rfl, .inr ⟨solid_tAtom ((to : Int), A), ?_⟩⟩
  conv => whnf
  refine ⟨by omega, by rw [rows_len tAtom_len], _, snoc_rows tAtom _ ((to : Int), A), ?_⟩
  conv => whnf
  refine ⟨2003 :: List.range 11, by kernel_rfl, ?_⟩
  conv => whnf
  have hv : decide ((A, nx).2 ≤ 20) = decide ((v : Int) < 20) := by
   show decide (nx ≤ 20) = _
   rw [decide_eq_decide]
   rcases hvx with ⟨h6, h7⟩ | ⟨h6, h7⟩
   ·omega
   ·omega
  have e : wQuery (q.1, q.2 ++ [((to : Int), (A, nx).1)]) = .agg [intsT q.1, .tr 2 (q.2.length + 1) (rows tAtom (q.2 ++ [((to : Int), A)]))] := by
   show V.agg [_, .tr 2 (q.2 ++ [_]).length _] = _
   rw [List.length_append]
   rfl
  have h8 : decide (q.2.length + 1 ≤ 8) = decide (((q.2.length + 1 : Nat) : Int) ≤ 8) := by
   rw [decide_eq_decide]; omega
  rw [hv, e, h8]
  generalize decide ((v : Int) < 20) = b
  cases b with
  | true =>
   conv => whnf
   refine ⟨rfl, ?_⟩
   conv => whnf
   exact ⟨by rw [rows_len ciL_len, Nat.mul_one], by rw [rows_len tAtom_len, List.length_append]; rfl, rfl⟩
  | false =>
   conv => whnf
   refine ⟨rfl, ?_⟩
   conv => whnf
   exact ⟨by rw [rows_len ciL_len, Nat.mul_one], by rw [rows_len tAtom_len, List.length_append]; rfl, rfl⟩
end Go.Proofs.YtcjdfeafcmfgpaaGreatD
