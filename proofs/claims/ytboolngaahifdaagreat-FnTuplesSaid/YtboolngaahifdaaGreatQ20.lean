/- Contracts and plain laws of this seat; no condition. -/
import Derived.Test.YtboolngaahifdaaGreatQ19
import Derived.Test.YtboolngaahifdaaGreatQ11
import Derived.Test.YtboolngaahifdaaGreatQ10
set_option linter.unusedVariables false
set_option linter.unusedSimpArgs false
set_option maxRecDepth 100000
namespace Go.Proofs.YtboolngaahifdaaGreatD
open Go Go.Proofs
def eqP (q : QueryT) (t u : Int) : Option QueryT :=
 if t == u then some q else if !isVar t && !isVar u then none
 else if !isVar t || (isVar u && decide (t < u)) then some (pReplaceTerm q u t) else some (pReplaceTerm q t u)
def wEq : Option QueryT → V
 | none => .tup [wQuery ([], []), cb false]
 | some y => .tup [wQuery y, cb true]
def wEqS (q : QueryT) : Option QueryT → V
 | none => .tup [vQuery q, cb false]
 | some y => .tup [wQuery y, cb true]
theorem isVar_iff {t : Int} (h : t < 20) : isVar t = decide (0 ≤ t) := by
 simp only [isVar, inR]
 by_cases h0 : 0 ≤ t
 ·rw [decide_eq_true h0, decide_eq_true (by omega)]
  rfl
 ·rw [decide_eq_false h0]
  rfl
theorem l13Equate_same (q : QueryT) (t : Int) : Spec Tryz.prog 185 [vQuery q, ci t, ci t] (.tup [vQuery q, cb true]) := by
 refine Spec_of mx Γ_ok Tryz.func185 rfl ?_
 conv => whnf
 rw [beq_self_eq_true]
 conv => whnf
 rfl
set_option maxHeartbeats 2000000 in
theorem l13Equate_spec (q : QueryT) (t u : Int) (hq : cQuery q ≤ 1048576) (hne : t ≠ u) (ht : t < 20) (hu : u < 20) : Spec Tryz.prog 185 [vQuery q, ci t, ci u] (wEqS q (eqP q t u)) := by
 have h0 : (t == u) = false := by simpa using hne
 refine Spec_of mx Γ_ok Tryz.func185 rfl ?_
 conv => whnf
 rw [h0]
 conv => whnf
 unfold eqP
 rw [h0, if_neg (by simp), isVar_iff ht, isVar_iff hu]
 by_cases h1 : t < 0
 ·rw [decide_eq_true h1, decide_eq_false (show ¬ 0 ≤ t from by omega)]
  conv => whnf
  by_cases h2 : u < 0
  ·rw [decide_eq_true h2, decide_eq_false (show ¬ 0 ≤ u from by omega)]
   conv => whnf
   rfl
  ·rw [decide_eq_false h2, decide_eq_true (show 0 ≤ u from by omega)]
   conv => whnf
   rw [decide_eq_true h1]
   conv => whnf
   refine ⟨_, specReplaceTerm_spec q u t hq, .inl rfl, .inr ?_⟩
   conv => whnf
   exact ⟨by rw [rows_len ciL_len], by rw [rows_len tAtom_len], rfl⟩
 ·rw [decide_eq_false h1, decide_eq_true (show 0 ≤ t from by omega)]
  conv => whnf
  rw [decide_eq_false h1]
  conv => whnf
  by_cases h2 : u < 0
  ·rw [decide_eq_true h2, decide_eq_false (show ¬ 0 ≤ u from by omega)]
   conv => whnf
   refine ⟨_, specReplaceTerm_spec q t u hq, .inl rfl, .inr ?_⟩
   conv => whnf
   exact ⟨by rw [rows_len ciL_len], by rw [rows_len tAtom_len], rfl⟩
  ·rw [decide_eq_false h2, decide_eq_true (show 0 ≤ u from by omega)]
   conv => whnf
   by_cases h3 : t < u
   ·rw [if_pos (show u > t from h3), if_neg (show ¬ u < t from by omega), decide_eq_true h3]
    refine ⟨_, specReplaceTerm_spec q u t hq, .inl rfl, .inr ?_⟩
    conv => whnf
    exact ⟨by rw [rows_len ciL_len], by rw [rows_len tAtom_len], rfl⟩
   ·rw [if_neg (show ¬ u > t from h3), if_pos (show u < t from by omega), decide_eq_false h3]
    refine ⟨_, specReplaceTerm_spec q t u hq, .inl rfl, .inr ?_⟩
    conv => whnf
    exact ⟨by rw [rows_len ciL_len], by rw [rows_len tAtom_len], rfl⟩
theorem occurs_mem {q : QueryT} {v : Int} : occurs q v = true ↔ ∃ a ∈ q.2, v ∈ a.2 := by
 simp only [occurs, List.any_eq_true, hasA, has]
 constructor
 ·rintro ⟨a, ha, w, hw, he⟩
  have : w = v := by simpa [eqV] using he
  exact ⟨a, ha, this ▸ hw⟩
 ·rintro ⟨a, ha, hv⟩
  exact ⟨a, ha, v, hv, by simp [eqV]⟩
abbrev QueryD := List Int × List AtomC
def eqA (a b : AtomC) : Bool := decide (a.1 = b.1) && decide (a.2 = b.2)
theorem eqA_comm (a b : AtomC) : eqA a b = eqA b a := by
 unfold eqA
 rw [show decide (a.1 = b.1) = decide (b.1 = a.1) from decide_eq_decide.2 eq_comm, show decide (a.2 = b.2) = decide (b.2 = a.2) from decide_eq_decide.2 eq_comm]
theorem specEqualAtoms_spec (a b : AtomC) (ha : a.2.length ≤ 1099511627776) (hb : b.2.length ≤ 1099511627776) : Spec Tryz.prog 125 [vAtom a, vAtom b] (cb (eqA a b)) := by
 refine Spec_of mx Γ_ok Tryz.func125 rfl ?_
 conv => whnf
 generalize hb1 : (a.1 == b.1) = b1
 cases b1 with
 | false =>
  conv => whnf
  rw [eqA, decide_eq_false (p := a.1 = b.1) (by simpa using hb1)]
  rfl
 | true =>
  conv => whnf
  refine ⟨_, l2Ints_spec a.2 b.2 ha hb, .inl rfl, .inl ?_⟩
  conv => whnf
  rw [eqA, decide_eq_true (p := a.1 = b.1) (by simpa using hb1)]
  rfl
theorem implEqualAtoms_spec (a b : AtomC) (ha : a.2.length ≤ 1099511627776) (hb : b.2.length ≤ 1099511627776) : Spec Tryz.prog 43 [vAtom a, vAtom b] (cb (eqA a b)) := by
 refine Spec_of mx Γ_ok Tryz.func43 rfl ?_
 conv => whnf
 generalize hb1 : (a.1 == b.1) = b1
 cases b1 with
 | false =>
  conv => whnf
  rw [eqA, decide_eq_false (p := a.1 = b.1) (by simpa using hb1)]
  rfl
 | true =>
  conv => whnf
  refine ⟨_, slicesEq_spec a.2 b.2 ha hb, .inl rfl, .inl ?_⟩
  conv => whnf
  rw [eqA, decide_eq_true (p := a.1 = b.1) (by simpa using hb1)]
  rfl
def dedS (acc : List AtomC) (a : AtomC) : List AtomC := if acc.any (eqA a) then acc else acc ++ [a]
def dedup (xs : List AtomC) : List AtomC := xs.foldl dedS []
def pDedupeAtoms (q : QueryD) : QueryD := (q.1, dedup q.2)
theorem dedup_at {xs : List AtomC} {k : Nat} (hk : k < xs.length) : dedup (xs.take (k + 1)) = dedS (dedup (xs.take k)) xs[k] := by
 unfold dedup
 rw [List.take_succ_eq_append_getElem hk, List.foldl_append]
 rfl
theorem dedS_bound (acc : List AtomC) (a : AtomC) (c : AtomC → Nat) : (dedS acc a).length ≤ acc.length + 1 ∧ sumB c (dedS acc a) ≤ sumB c acc + c a := by
 unfold dedS
 split
 ·exact ⟨by omega, by omega⟩
 ·refine ⟨by simp, ?_⟩
  have : ∀ l : List AtomC, sumB c (l ++ [a]) = sumB c l + c a := by
   intro l
   induction l with
   | nil => simp [sumB]
   | cons x l ih => simp only [List.cons_append, sumB, ih]; omega
  rw [this]
  exact Nat.le_refl _
theorem foldl_bound (c : AtomC → Nat) : ∀ (xs acc : List AtomC), (xs.foldl dedS acc).length ≤ acc.length + xs.length ∧ sumB c (xs.foldl dedS acc) ≤ sumB c acc + sumB c xs
 | [], acc => ⟨Nat.le_refl _, by simp [sumB]⟩
 | x :: xs, acc => by
  have h1 := dedS_bound acc x c
  have h2 := foldl_bound c xs (dedS acc x)
  simp only [List.foldl_cons, List.length_cons, sumB]
  omega
theorem dedup_bound (c : AtomC → Nat) (xs : List AtomC) : (dedup xs).length ≤ xs.length ∧ sumB c (dedup xs) ≤ sumB c xs := by
 have := foldl_bound c xs []
 simpa [dedup, sumB] using this
theorem dedup_take (c : AtomC → Nat) (xs : List AtomC) (k : Nat) : (dedup (xs.take k)).length ≤ xs.length ∧ sumB c (dedup (xs.take k)) ≤ sumB c xs := by
 have h1 := dedup_bound c (xs.take k)
 have h2 := sumB_take (f := c) xs k
 rw [List.length_take] at h1
 omega
set_option maxHeartbeats 4000000 in
theorem specDedupeAtoms_spec (x0 : QueryD) (h0 : cQuery x0 ≤ 1048576) : Spec Tryz.prog 132 [vQuery x0] (wQuery (pDedupeAtoms x0)) := by
 unfold cQuery cAtomS at h0
 refine Spec_of mx Γ_ok Tryz.func132 rfl ?_
 conv => whnf
 refine ⟨rows_len ciL_len _, solid_ci _, ?_⟩
 conv => whnf
 refine ⟨by omega, rfl, _, app_ci [] x0.1, ?_⟩
 conv => whnf
 refine ⟨[(1,0),(2,0),(3,202),(4,0)], fun m s => ∃ (k : Nat) (e : Int) (n1 n : Nat) (r1 r : List V), e = k ∧ m + k = x0.2.length ∧ n1 = x0.1.length ∧ n = (dedup (x0.2.take k)).length ∧ r1 = rows ciL x0.1 ∧ r = rows tAtom (dedup (x0.2.take k)) ∧
  s = ⟨63, [(1, .ptr 0 0), (2, .ptr 1 0), (3, .ptr 2 0), (4, ci e)], [some ⟨true, rQuery x0⟩, some ⟨true, [cnil, cnil]⟩, some ⟨true, [.own 3 1 0 n1 n1 none, .own 4 2 0 n n none]⟩, some ⟨false, r1⟩, some ⟨false, r⟩]⟩, x0.2.length, ⟨0, 0, 0 + x0.1.length, 0, _, _, rfl, rfl, Nat.zero_add _, rfl, by rw [List.nil_append], rfl, rfl⟩, ?_⟩
 rintro m s ⟨k, _, n1, n, _, _, rfl, hm, hn1, hn, rfl, rfl, rfl⟩
 conv => whnf
 split <;> rename_i h1
 all_goals simp only [decide_eq_true_eq, decide_eq_false_iff_not] at h1
 ·conv => whnf
  have hk : k < x0.2.length := by omega
  have hb := sumB_one (f := cAtom) hk
  have hcb : cAtom x0.2[k] = x0.2[k].2.length := rfl
  have hdt := dedup_take cAtom x0.2 k
  generalize hL : dedup (x0.2.take k) = L at hn hdt
  refine ⟨[(1,0),(2,0),(3,202),(4,0),(5,0),(6,0)], fun m s => ∃ (j : Nat) (e : Int) (fl : Bool), e = j ∧ m + j = L.length ∧ L.any (eqA x0.2[k]) = (fl || (L.drop j).any (eqA x0.2[k])) ∧
   s = ⟨63, [(1, .ptr 0 0), (2, .ptr 1 0), (3, .ptr 2 0), (4, ci k), (5, cb fl), (6, ci e)], [some ⟨true, rQuery x0⟩, some ⟨true, [cnil, cnil]⟩, some ⟨true, [.own 3 1 0 n1 n1 none, .own 4 2 0 n n none]⟩, some ⟨false, rows ciL x0.1⟩, some ⟨false, rows tAtom L⟩]⟩, L.length, ⟨0, 0, false, rfl, rfl, rfl, rfl⟩, ?_⟩
  rintro m' s ⟨j, _, fl, rfl, hm', hany, rfl⟩
  conv => whnf
  split <;> rename_i h2
  all_goals simp only [decide_eq_true_eq, decide_eq_false_iff_not] at h2
  ·conv => whnf
   have hj : j < L.length := by omega
   have hbj := sumB_one (f := cAtom) hj
   have hcj : cAtom L[j] = L[j].2.length := rfl
   rw [drop_any hj] at hany
   refine ⟨List.range 15, by kernel_rfl, ?_⟩
   conv => whnf
   cases fl with
   | true =>
    conv => whnf
    exact ⟨m' - 1, by omega, j + 1, _, true, wrap_id (by omega) (by omega), by omega, by rw [hany, Bool.true_or, Bool.true_or], rfl⟩
   | false =>
   conv => whnf
   rw [Bool.false_or] at hany
   refine ⟨by omega, ?_⟩
   conv => whnf
   refine ⟨_, takeN_own (k := j) (d := 0) (m := 2) (xs := L) tAtom_len (Nat.zero_add _) hj (by omega) rfl, ?_⟩
   conv => whnf
   refine ⟨by omega, rows_len rAtom_len _, ?_⟩
   conv => whnf
   refine ⟨_, takeN_rp (k := k) rAtom_len hk, ?_⟩
   conv => whnf
   refine ⟨_, _, _, _, rows_cell (v := intsT L[j].2) tAtom_len (k := j) (d := 1) (by show 0 + j * 2 + 1 = _; omega) hj rfl, roVs_ci _, ?_⟩
   conv => whnf
   refine ⟨_, specEqualAtoms_spec L[j] x0.2[k] (by omega) (by omega), .inr trivial, .inl ?_⟩
   conv => whnf
   refine ⟨m' - 1, by omega, j + 1, _, eqA L[j] x0.2[k], wrap_id (by omega) (by omega), by omega, ?_, rfl⟩
   rw [hany, eqA_comm]
  ·conv => whnf
   rw [drop_end (by omega), List.any_nil, Bool.or_false] at hany
   cases fl with
   | true =>
    conv => whnf
    refine ⟨m - 1, by omega, k + 1, _, n1, n, _, _, wrap_id (by omega) (by omega), by omega, hn1, ?_, rfl, ?_, rfl⟩
    ·rw [dedup_at hk, hL, dedS, hany, if_pos rfl, hn]
    ·rw [dedup_at hk, hL, dedS, hany, if_pos rfl]
   | false =>
   conv => whnf
   have hstep : dedup (x0.2.take (k + 1)) = L ++ [x0.2[k]] := by rw [dedup_at hk, hL, dedS, hany, if_neg (by simp)]
   refine ⟨[0, 1, 2, 3, 4, 5, 6, 7, 9, 10, 11, 12, 13, 14, 8, 15, 16, 17, 18, 19, 20], by kernel_rfl, ?_⟩
   conv => whnf
   refine ⟨by omega, rows_len rAtom_len _, ?_⟩
   conv => whnf
   refine ⟨_, takeN_rp_field (k := k) (d := 0) (m := 1) (r := [ci x0.2[k].1]) rAtom_len hk (by omega) rfl, ?_⟩
   conv => whnf
   refine ⟨by omega, rows_len rAtom_len _, ?_⟩
   conv => whnf
   refine ⟨_, takeN_rp_field (k := k) (d := 1) (m := 1) (r := [ints x0.2[k].2]) rAtom_len hk (by omega) rfl, ?_⟩
   conv => whnf
   refine ⟨rows_len ciL_len _, solid_ci _, ?_⟩
   conv => whnf
   refine ⟨by omega, rfl, _, app_ci [] _, ?_⟩
   conv => whnf
   refine ⟨by rw [rows_len ciL_len, List.nil_append, Nat.zero_add]; rfl, ?_⟩
   conv => whnf
   refine ⟨_, rfl, .inr ⟨fun c hc => ?_, ?_⟩⟩
   ·have hc : c ∈ [ci x0.2[k].1, V.tr 1 (0 + x0.2[k].2.length) (rows ciL ([] ++ x0.2[k].2))] := hc
    simp only [List.mem_cons, List.not_mem_nil, or_false] at hc
    rcases hc with rfl | rfl <;> rfl
   conv => whnf
   refine ⟨by omega, by rw [rows_len tAtom_len, hn], rows tAtom (L ++ [x0.2[k]]), ?_, ?_⟩
   ·rw [List.nil_append, Nat.zero_add]
    exact snoc_rows tAtom _ _
   conv => whnf
   refine ⟨m - 1, by omega, k + 1, _, n1, _, _, _, wrap_id (by omega) (by omega), by omega, hn1, ?_, rfl, ?_, rfl⟩
   ·rw [hstep, List.length_append, hn]
    rfl
   ·rw [hstep]
 ·conv => whnf
  have hkk : k = x0.2.length := by omega
  rw [hkk, List.take_length] at hn ⊢
  subst hn1
  subst hn
  refine ⟨by rw [rows_len ciL_len], by rw [rows_len tAtom_len], rfl⟩
def okT (q : QueryT) : Prop := q.1.all isTerm = true ∧ ∀ a ∈ q.2, a.2.all isTerm = true
structure IsImg (h : Int → Int) (q y : QueryT) : Prop where
 hom : IsHom h q y
 onto : ∀ a ∈ y.2, ∃ c ∈ q.2, appA h c = a
 trm : ∀ t, isTerm t = true → isTerm (app h t) = true
theorem app_rep {a b : Int} (ha : isVar a = true) (t : Int) : app (fun x => if x = a then b else x) t = rep1 a b t := by
 unfold app rep1
 by_cases h : t = a
 ·subst h
  rw [if_pos ha]
  simp
 ·cases hv : isVar t <;> simp [h]
theorem dedS_mem (acc : List AtomC) (x y : AtomC) : y ∈ dedS acc x ↔ y = x ∨ y ∈ acc := by
 unfold dedS
 split
 ·rename_i h
  obtain ⟨z, hz, he⟩ := List.any_eq_true.1 h
  have hxz : x = z := by
   simp only [eqA, Bool.and_eq_true, decide_eq_true_eq] at he
   exact Prod.ext he.1 he.2
  subst hxz
  exact ⟨.inr, fun h => h.elim (fun e => e ▸ hz) id⟩
 ·simp only [List.mem_append, List.mem_singleton]
  exact or_comm
theorem dedF_mem (y : AtomC) : ∀ (xs acc : List AtomC), y ∈ xs.foldl dedS acc ↔ y ∈ xs ∨ y ∈ acc
 | [], acc => by simp
 | x :: xs, acc => by
  rw [List.foldl_cons, dedF_mem y xs, dedS_mem, List.mem_cons]
  constructor
  ·rintro (h | h | h) <;> simp [h]
  ·rintro ((h | h) | h) <;> simp [h]
theorem mem_dedup (y : AtomC) (xs : List AtomC) : y ∈ dedup xs ↔ y ∈ xs := by
 unfold dedup
 rw [dedF_mem]
 simp
theorem dedup_pos {xs : List AtomC} (h : 1 ≤ xs.length) : 1 ≤ (dedup xs).length := by
 cases xs with
 | nil => simp at h
 | cons x xs =>
  have := (mem_dedup x (x :: xs)).2 (by simp)
  exact List.length_pos_of_mem this
theorem nonvar_neg {t : Int} (ht : isTerm t = true) (h : isVar t = false) : t < 0 := by
 have := var_iff ht
 rw [h] at this
 by_cases h0 : 0 ≤ t
 ·exact absurd (this.2 h0) (by simp)
 ·omega
theorem val_rep {v : Int → Int} {a b : Int} (h : val v a = val v b) (x : Int) : val v (rep1 a b x) = val v x := by
 unfold rep1
 split
 ·rename_i he
  have : x = a := by simpa using he
  rw [this, h]
 ·rfl
theorem sat_dedup {v : Int → Int} {q : QueryT} {db : List FactC} : Sat v db (pDedupeAtoms q).2 ↔ Sat v db q.2 :=
 ⟨fun h a ha => h a ((mem_dedup a q.2).2 ha), fun h a ha => h a ((mem_dedup a q.2).1 ha)⟩
theorem isQuery_iff (s : List Int) (q : QueryT) : isQuery s q = true ↔ isSchema s = true ∧ (q.1.all isTerm = true ∧ q.1.length ≤ 3) ∧ (1 ≤ q.2.length ∧ q.2.length ≤ 4) ∧ (∀ a ∈ q.2, takesS s a.1 a.2.length = true ∧ a.2.all isTerm = true) ∧ ∀ t ∈ q.1, isVar t = true → occurs q t = true := by
 simp only [isQuery, fineQ, terms3, Bool.and_eq_true, decide_eq_true_eq, List.all_eq_true, isAtom, safeV]
 constructor
 ·rintro ⟨h1, ⟨h2, h3⟩, h4, h5, h6⟩
  have h7 : (1 : Int) ≤ q.2.length ∧ (q.2.length : Int) ≤ 4 := by simpa [inR] using h4
  refine ⟨h1, ⟨h2, h3⟩, ⟨by omega, by omega⟩, h5, fun t ht hv => ?_⟩
  have := h6 t ht
  simpa [hv] using this
 ·rintro ⟨h1, ⟨h2, h3⟩, h4, h5, h6⟩
  refine ⟨h1, ⟨h2, h3⟩, by simp [inR]; omega, h5, fun t ht => ?_⟩
  cases hv : isVar t with
  | false => simp [hv]
  | true => simp [hv, h6 t ht hv]
theorem app_neg {h : Int → Int} {t : Int} (ht : isVar t = false) : app h t = t := by unfold app; rw [ht]; simp
theorem isQuery_okT {s : List Int} {q : QueryT} (h : isQuery s q = true) : okT q := by
 obtain ⟨_, ⟨q2, _⟩, _, q5, _⟩ := (isQuery_iff s q).1 h
 exact ⟨q2, fun a ha => (q5 a ha).2⟩
abbrev QueryR := List Int × List AtomC
def ren1 (to : List Int) (x : Int) : Int := if inR x 0 (to.length - 1) then to.getD x.toNat 0 else x
def renA (to : List Int) (a : AtomC) : AtomC := (a.1, a.2.map (ren1 to))
def renQ (to : List Int) (q : QueryR) : QueryR := (q.1.map (ren1 to), q.2.map (renA to))
theorem l4Term_spec (x : Int) (to : List Int) (h : to.length ≤ 1099511627776) : Spec Tryz.prog 239 [ci x, ints to] (ci (ren1 to x)) := by
 have hw : IntKind.i64.wrap ((to.length : Int) - 1) = to.length - 1 := wrap_id (by omega) (by omega)
 refine Spec_of mx Γ_ok Tryz.func239 rfl ?_
 conv => whnf
 refine ⟨_, l1In_spec _ _ _, .inl rfl, .inl ?_⟩
 rw [hw]
 conv => whnf
 unfold ren1
 generalize hb1 : inR x 0 (to.length - 1) = b1
 cases b1 with
 | false =>
  conv => whnf
  rfl
 | true =>
  conv => whnf
  have hr : 0 ≤ x ∧ x ≤ (to.length : Int) - 1 := by simpa [inR] using hb1
  obtain ⟨q, rfl⟩ : ∃ q : Nat, x = q := ⟨x.toNat, by omega⟩
  have hq : q < to.length := by omega
  refine ⟨by omega, rows_len ciL_len to, ?_⟩
  conv => whnf
  refine ⟨_, takeN_rp (k := q) ciL_len hq, ?_⟩
  conv => whnf
  rw [if_pos rfl, Int.toNat_natCast, getD_at hq]
  rfl
theorem l4Terms_spec (xs to : List Int) (h : xs.length ≤ 1048576) (ht : to.length ≤ 1099511627776) : Spec Tryz.prog 218 [ints xs, ints to] (intsT (xs.map (ren1 to))) := by
 refine Spec_of mx Γ_ok Tryz.func218 rfl ?_
 conv => whnf
 refine ⟨[(0,0),(1,0),(4,0),(5,0),(6,0)], fun m s => ∃ (k : Nat) (e : Int) (n : Nat) (r : List V), e = k ∧ m + k = xs.length ∧ n = k ∧ r = rows ciL ((xs.take k).map (ren1 to)) ∧
  s = ⟨26, [(0, ints xs), (1, ints to), (4, cnil), (5, .own 0 1 0 n n none), (6, ci e)], [some ⟨false, r⟩]⟩, xs.length, ⟨0, 0, 0, _, rfl, rfl, rfl, rfl, rfl⟩, ?_⟩
 rintro m s ⟨k, _, n, _, rfl, hm, rfl, rfl, rfl⟩
 conv => whnf
 split <;> rename_i h1
 all_goals simp only [decide_eq_true_eq, decide_eq_false_iff_not] at h1
 ·conv => whnf
  have hk : n < xs.length := by omega
  refine ⟨by omega, rows_len ciL_len _, ?_⟩
  conv => whnf
  refine ⟨_, takeN_rp (k := n) ciL_len hk, ?_⟩
  conv => whnf
  refine ⟨_, l4Term_spec xs[n] to ht, .inl rfl, .inl ?_⟩
  conv => whnf
  refine ⟨_, rfl, .inl ⟨flat1 rfl, ?_⟩⟩
  conv => whnf
  refine ⟨by omega, by rw [rows_len ciL_len, List.length_map, List.length_take, Nat.min_eq_left (by omega)], _, snoc_ci _ _, ?_⟩
  conv => whnf
  refine ⟨m - 1, by omega, n + 1, _, _, _, wrap_id (by omega) (by omega), by omega, rfl, ?_, rfl⟩
  rw [List.take_succ_eq_append_getElem hk, List.map_append]
  rfl
 ·conv => whnf
  have hkk : n = xs.length := by omega
  subst hkk
  rw [List.take_length]
  refine ⟨by rw [rows_len ciL_len, List.length_map], ?_⟩
  simp only [intsT, List.length_map]
  rfl
set_option maxHeartbeats 4000000 in
theorem renameQuery_spec (x0 : QueryR) (to : List Int) (h0 : cQuery x0 ≤ 1048576) (ht : to.length ≤ 1099511627776) : Spec Tryz.prog 187 [vQuery x0, ints to] (wQuery (renQ to x0)) := by
 unfold cQuery cAtomS at h0
 refine Spec_of mx Γ_ok Tryz.func187 rfl ?_
 conv => whnf
 refine ⟨_, l4Terms_spec x0.1 to (by omega) ht, .inl rfl, .inr ?_⟩
 conv => whnf
 refine ⟨[(1,0),(2,0),(4,0),(5,202),(6,0)], fun m s => ∃ (k : Nat) (e : Int) (n1 n : Nat) (r1 r : List V), e = k ∧ m + k = x0.2.length ∧ n1 = (x0.1.map (ren1 to)).length ∧ n = k ∧ r1 = rows ciL (x0.1.map (ren1 to)) ∧ r = rows tAtom ((x0.2.take k).map (renA to)) ∧
  s = ⟨40, [(1, ints to), (2, .ptr 0 0), (4, .ptr 1 0), (5, .ptr 2 0), (6, ci e)], [some ⟨true, rQuery x0⟩, some ⟨true, [cnil, cnil]⟩, some ⟨true, [.own 3 1 0 n1 n1 none, .own 4 2 0 n n none]⟩, some ⟨false, r1⟩, some ⟨false, r⟩]⟩, x0.2.length, ⟨0, 0, _, 0, _, _, rfl, rfl, rfl, rfl, rfl, rfl, rfl⟩, ?_⟩
 rintro m s ⟨k, _, n1, n, _, _, rfl, hm, hn1, rfl, rfl, rfl, rfl⟩
 conv => whnf
 split <;> rename_i h1
 all_goals simp only [decide_eq_true_eq, decide_eq_false_iff_not] at h1
 ·conv => whnf
  have hk : n < x0.2.length := by omega
  have hb := sumB_one (f := cAtom) hk
  have hcb : cAtom x0.2[n] = x0.2[n].2.length := rfl
  refine ⟨List.range 21, by kernel_rfl, ?_⟩
  conv => whnf
  refine ⟨by omega, rows_len rAtom_len _, ?_⟩
  conv => whnf
  refine ⟨_, takeN_rp_field (k := n) (d := 0) (m := 1) (r := [ci x0.2[n].1]) rAtom_len hk (by omega) rfl, ?_⟩
  conv => whnf
  refine ⟨by omega, rows_len rAtom_len _, ?_⟩
  conv => whnf
  refine ⟨_, takeN_rp_field (k := n) (d := 1) (m := 1) (r := [ints x0.2[n].2]) rAtom_len hk (by omega) rfl, ?_⟩
  conv => whnf
  refine ⟨_, l4Terms_spec x0.2[n].2 to (by omega) ht, .inl rfl, .inr ?_⟩
  conv => whnf
  refine ⟨by rw [rows_len ciL_len], ?_⟩
  conv => whnf
  refine ⟨_, rfl, .inr ⟨solid_tAtom (renA to x0.2[n]), ?_⟩⟩
  conv => whnf
  refine ⟨by omega, by rw [rows_len tAtom_len, List.length_map, List.length_take, Nat.min_eq_left (by omega)], _, snoc_rows tAtom _ (renA to x0.2[n]), ?_⟩
  conv => whnf
  refine ⟨m - 1, by omega, n + 1, _, n1, _, _, _, wrap_id (by omega) (by omega), by omega, hn1, rfl, rfl, ?_, rfl⟩
  rw [List.take_succ_eq_append_getElem hk, List.map_append]
  rfl
 ·conv => whnf
  have hkk : n = x0.2.length := by omega
  rw [hkk, List.take_length]
  subst hn1
  refine ⟨by rw [rows_len ciL_len], by rw [rows_len tAtom_len, List.length_map], ?_⟩
  have e : wQuery (renQ to x0) = .agg [.tr 1 (x0.1.map (ren1 to)).length (rows ciL (x0.1.map (ren1 to))), .tr 2 x0.2.length (rows tAtom (x0.2.map (renA to)))] := by
   simp only [wQuery, tQuery, renQ, wAtomS, intsT, List.length_map]
  rw [e]
  rfl
theorem ren1_nil (x : Int) : ren1 [] x = x := by
 unfold ren1
 rw [if_neg]
 simp [inR]
 omega
theorem renQ_nil (q : QueryR) : renQ [] q = q := by
 have h1 : ∀ xs : List Int, xs.map (ren1 []) = xs := fun xs => by
  rw [List.map_congr_left (g := id) (fun x _ => ren1_nil x), List.map_id]
 have h2 : ∀ xs : List AtomC, xs.map (renA []) = xs := fun xs => by
  rw [List.map_congr_left (g := id) (fun x _ => by simp only [renA, h1]; rfl), List.map_id]
 unfold renQ
 rw [h1, h2]
theorem l4Copy_spec (x0 : QueryR) (h0 : cQuery x0 ≤ 1048576) : Spec Tryz.prog 181 [vQuery x0] (wQuery x0) := by
 have hs := renameQuery_spec x0 [] h0 (by simp)
 rw [renQ_nil] at hs
 refine Spec_of mx Γ_ok Tryz.func181 rfl ?_
 conv => whnf
 refine .inl ?_
 conv => whnf
 refine ⟨_, _, rfl, rfl, ?_⟩
 conv => whnf
 refine ⟨_, hs, .inr (closed_wQuery _), .inr ?_⟩
 conv => whnf
 refine ⟨by rw [rows_len ciL_len], by rw [rows_len tAtom_len], rfl⟩
def pvar (q : QueryT) (v : Nat) : Bool := occurs q (v : Int) || has q.1 (v : Int)
def varsTo (q : QueryT) (k : Nat) : List Int := ((List.range k).filter (pvar q)).map Int.ofNat
def varsOf (q : QueryT) : List Int := varsTo q 20
theorem varsTo_succ (q : QueryT) (k : Nat) : varsTo q (k + 1) = if pvar q k then varsTo q k ++ [(k : Int)] else varsTo q k := by
 unfold varsTo
 rw [List.range_succ, List.filter_append, List.map_append]
 by_cases h : pvar q k = true
 ·simp [h]
 ·simp [h]
theorem varsTo_len (q : QueryT) (k : Nat) : (varsTo q k).length ≤ k := by
 unfold varsTo
 rw [List.length_map]
 exact Nat.le_trans (List.length_filter_le _ _) (by simp)
theorem has_varsOf (q : QueryT) (k : Nat) (hk : k < 20) : has (varsOf q) (k : Int) = pvar q k := by
 cases h : pvar q k with
 | true =>
  simp only [has, List.any_eq_true, varsOf, varsTo, List.mem_map, List.mem_filter, List.mem_range]
  exact ⟨k, ⟨k, ⟨hk, h⟩, rfl⟩, by simp [eqV]⟩
 | false =>
  cases h2 : has (varsOf q) (k : Int) with
  | false => rfl
  | true =>
   simp only [has, List.any_eq_true, varsOf, varsTo, List.mem_map, List.mem_filter, List.mem_range] at h2
   obtain ⟨_, ⟨j, ⟨_, hj⟩, rfl⟩, he⟩ := h2
   have : j = k := by
    have h3 : (j : Int) = k := by simpa [eqV] using he
    omega
   subst this
   rw [h] at hj
   cases hj
theorem specVarsOf_spec (q : QueryT) (h : cQuery q ≤ 1048576) : Spec Tryz.prog 183 [vQuery q] (intsT (varsOf q)) := by
 have h' := h
 unfold cQuery cAtomS at h'
 have hbl : (bodyVars q).length ≤ 1048576 := by
  have h1 := bodyVars_len q (termsL q.2) []
  rw [termsL_len] at h1
  simp only [List.length_nil] at h1
  unfold bodyVars
  omega
 refine Spec_of mx Γ_ok Tryz.func183 rfl ?_
 conv => whnf
 refine ⟨[(1,0),(2,0),(3,0),(4,0)], fun m s => ∃ (k : Nat) (e : Int) (n : Nat) (r : List V), e = k ∧ m + k = 20 ∧ n = (varsTo q k).length ∧ r = rows ciL (varsTo q k) ∧
  s = ⟨25, [(1, .ptr 0 0), (2, cnil), (3, .own 1 1 0 n n none), (4, ci e)], [some ⟨true, rQuery q⟩, some ⟨false, r⟩]⟩, 20, ⟨0, 0, 0, _, rfl, rfl, rfl, rfl, rfl⟩, ?_⟩
 rintro m s ⟨k, _, n, _, rfl, hm, rfl, rfl, rfl⟩
 have hvl := varsTo_len q k
 have hnx := varsTo_succ q k
 conv => whnf
 split <;> rename_i h1
 all_goals simp only [decide_eq_true_eq, decide_eq_false_iff_not] at h1
 ·conv => whnf
  refine ⟨_, bodyVars_spec q h, .inl rfl, .inl ?_⟩
  rw [intsT_ro]
  conv => whnf
  refine ⟨_, l2Has_spec (bodyVars q) k (by omega), .inl rfl, .inl ?_⟩
  conv => whnf
  have hiv : isVar (k : Int) = true := by simp only [isVar, inR, Bool.and_eq_true, decide_eq_true_eq]; omega
  rw [has_bodyVars q _ hiv]
  unfold pvar at hnx
  generalize occurs q (k : Int) = b1 at hnx
  cases b1 with
  | true =>
   conv => whnf
   refine ⟨_, rfl, .inl ⟨flat1 rfl, ?_⟩⟩
   conv => whnf
   refine ⟨by omega, rows_len ciL_len _, _, snoc_ci _ _, ?_⟩
   conv => whnf
   rw [Bool.true_or, if_pos rfl] at hnx
   refine ⟨m - 1, by omega, k + 1, _, _, _, wrap_id (by omega) (by omega), by omega, ?_, by rw [hnx], rfl⟩
   rw [hnx, List.length_append]
   rfl
  | false =>
   conv => whnf
   refine ⟨_, l2Has_spec q.1 k (by omega), .inl rfl, .inl ?_⟩
   conv => whnf
   rw [Bool.false_or] at hnx
   generalize has q.1 (k : Int) = b2 at hnx
   cases b2 with
   | true =>
    conv => whnf
    refine ⟨_, rfl, .inl ⟨flat1 rfl, ?_⟩⟩
    conv => whnf
    refine ⟨by omega, rows_len ciL_len _, _, snoc_ci _ _, ?_⟩
    conv => whnf
    rw [if_pos rfl] at hnx
    refine ⟨m - 1, by omega, k + 1, _, _, _, wrap_id (by omega) (by omega), by omega, ?_, by rw [hnx], rfl⟩
    rw [hnx, List.length_append]
    rfl
   | false =>
    conv => whnf
    rw [if_neg (by simp)] at hnx
    exact ⟨m - 1, by omega, k + 1, _, _, _, wrap_id (by omega) (by omega), by omega, by rw [hnx], by rw [hnx], rfl⟩
 ·conv => whnf
  have hkk : k = 20 := by omega
  subst hkk
  refine ⟨by rw [rows_len ciL_len], ?_⟩
  rfl
end Go.Proofs.YtboolngaahifdaaGreatD
