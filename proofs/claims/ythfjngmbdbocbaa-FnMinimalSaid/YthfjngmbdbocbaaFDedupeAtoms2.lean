/- DedupeAtoms, twice. -/
import Derived.Test.YthfjngmbdbocbaaFCopy
import Derived.Test.YthfjngmbdbocbaaFSameEq
set_option linter.unusedVariables false
set_option linter.unusedSimpArgs false
set_option maxRecDepth 100000
namespace Go.Proofs.YthfjngmbdbocbaaD
open Go Go.Proofs

abbrev QueryD := List Int × List AtomC
def eqA (a b : AtomC) : Bool := decide (a.1 = b.1) && decide (a.2 = b.2)
theorem eqA_comm (a b : AtomC) : eqA a b = eqA b a := by
  unfold eqA
  rw [show decide (a.1 = b.1) = decide (b.1 = a.1) from decide_eq_decide.2 eq_comm, show decide (a.2 = b.2) = decide (b.2 = a.2) from decide_eq_decide.2 eq_comm]
theorem specEqualAtoms_spec (a b : AtomC) (ha : a.2.length ≤ 1099511627776) (hb : b.2.length ≤ 1099511627776) : Spec Try.prog 102 [vAtom a, vAtom b] (cb (eqA a b)) := by
  refine Spec_of mx Γ_ok Try.func102 rfl ?_
  conv => whnf
  generalize hb1 : (a.1 == b.1) = b1
  cases b1 with
  | false =>
    conv => whnf
    rw [eqA, decide_eq_false (p := a.1 = b.1) (by simpa using hb1)]
    rfl
  | true =>
    conv => whnf
    refine ⟨_, l2Ints_spec a.2 b.2 ha hb, .inl rfl, .inl ?_⟩
    conv => whnf
    rw [eqA, decide_eq_true (p := a.1 = b.1) (by simpa using hb1)]
    rfl
theorem implEqualAtoms_spec (a b : AtomC) (ha : a.2.length ≤ 1099511627776) (hb : b.2.length ≤ 1099511627776) : Spec Try.prog 129 [vAtom a, vAtom b] (cb (eqA a b)) := by
  refine Spec_of mx Γ_ok Try.func129 rfl ?_
  conv => whnf
  generalize hb1 : (a.1 == b.1) = b1
  cases b1 with
  | false =>
    conv => whnf
    rw [eqA, decide_eq_false (p := a.1 = b.1) (by simpa using hb1)]
    rfl
  | true =>
    conv => whnf
    refine ⟨_, slicesEq_spec a.2 b.2 ha hb, .inl rfl, .inl ?_⟩
    conv => whnf
    rw [eqA, decide_eq_true (p := a.1 = b.1) (by simpa using hb1)]
    rfl
def dedS (acc : List AtomC) (a : AtomC) : List AtomC := if acc.any (eqA a) then acc else acc ++ [a]
def dedup (xs : List AtomC) : List AtomC := xs.foldl dedS []
def pDedupeAtoms (q : QueryD) : QueryD := (q.1, dedup q.2)
theorem dedup_at {xs : List AtomC} {k : Nat} (hk : k < xs.length) : dedup (xs.take (k + 1)) = dedS (dedup (xs.take k)) xs[k] := by
  unfold dedup
  rw [List.take_succ_eq_append_getElem hk, List.foldl_append]
  rfl
theorem dedS_bound (acc : List AtomC) (a : AtomC) (c : AtomC → Nat) : (dedS acc a).length ≤ acc.length + 1 ∧ sumB c (dedS acc a) ≤ sumB c acc + c a := by
  unfold dedS
  split
  · exact ⟨by omega, by omega⟩
  · refine ⟨by simp, ?_⟩
    have : ∀ l : List AtomC, sumB c (l ++ [a]) = sumB c l + c a := by
      intro l
      induction l with
      | nil => simp [sumB]
      | cons x l ih => simp only [List.cons_append, sumB, ih]; omega
    rw [this]
    exact Nat.le_refl _
theorem foldl_bound (c : AtomC → Nat) : ∀ (xs acc : List AtomC), (xs.foldl dedS acc).length ≤ acc.length + xs.length ∧ sumB c (xs.foldl dedS acc) ≤ sumB c acc + sumB c xs
  | [], acc => ⟨Nat.le_refl _, by simp [sumB]⟩
  | x :: xs, acc => by
    have h1 := dedS_bound acc x c
    have h2 := foldl_bound c xs (dedS acc x)
    simp only [List.foldl_cons, List.length_cons, sumB]
    omega
theorem dedup_bound (c : AtomC → Nat) (xs : List AtomC) : (dedup xs).length ≤ xs.length ∧ sumB c (dedup xs) ≤ sumB c xs := by
  have := foldl_bound c xs []
  simpa [dedup, sumB] using this
theorem small_DedupeAtoms (x0 : QueryD) (h0 : cQuery x0 ≤ 1048576) : cQuery (pDedupeAtoms x0) ≤ 2147483648 := by
  have := dedup_bound cAtom x0.2
  unfold cQuery cAtomS at *
  simp only [pDedupeAtoms]
  omega
theorem dedup_take (c : AtomC → Nat) (xs : List AtomC) (k : Nat) : (dedup (xs.take k)).length ≤ xs.length ∧ sumB c (dedup (xs.take k)) ≤ sumB c xs := by
  have h1 := dedup_bound c (xs.take k)
  have h2 := sumB_take (f := c) xs k
  rw [List.length_take] at h1
  omega
set_option maxHeartbeats 4000000 in
theorem specDedupeAtoms_spec (x0 : QueryD) (h0 : cQuery x0 ≤ 1048576) : Spec Try.prog 72 [vQuery x0] (wQuery (pDedupeAtoms x0)) := by
  unfold cQuery cAtomS at h0
  refine Spec_of mx Γ_ok Try.func72 rfl ?_
  conv => whnf
  refine ⟨rows_len ciL_len _, solid_ci _, ?_⟩
  conv => whnf
  refine ⟨by omega, rfl, _, app_ci [] x0.1, ?_⟩
  conv => whnf
  refine ⟨[(1,0),(2,0),(3,202),(4,0)], fun m s => ∃ (k : Nat) (e : Int) (n1 n : Nat) (r1 r : List V), e = k ∧ m + k = x0.2.length ∧ n1 = x0.1.length ∧ n = (dedup (x0.2.take k)).length ∧ r1 = rows ciL x0.1 ∧ r = rows tAtom (dedup (x0.2.take k)) ∧
    s = ⟨63, [(1, .ptr 0 0), (2, .ptr 1 0), (3, .ptr 2 0), (4, ci e)], [some ⟨true, rQuery x0⟩, some ⟨true, [cnil, cnil]⟩, some ⟨true, [.own 3 1 0 n1 n1 none, .own 4 2 0 n n none]⟩, some ⟨false, r1⟩, some ⟨false, r⟩]⟩, x0.2.length, ⟨0, 0, 0 + x0.1.length, 0, _, _, rfl, rfl, Nat.zero_add _, rfl, by rw [List.nil_append], rfl, rfl⟩, ?_⟩
  rintro m s ⟨k, _, n1, n, _, _, rfl, hm, hn1, hn, rfl, rfl, rfl⟩
  conv => whnf
  split <;> rename_i h1
  all_goals simp only [decide_eq_true_eq, decide_eq_false_iff_not] at h1
  · conv => whnf
    have hk : k < x0.2.length := by omega
    have hb := sumB_one (f := cAtom) hk
    have hcb : cAtom x0.2[k] = x0.2[k].2.length := rfl
    have hdt := dedup_take cAtom x0.2 k
    generalize hL : dedup (x0.2.take k) = L at hn hdt
    refine ⟨[(1,0),(2,0),(3,202),(4,0),(5,0),(6,0)], fun m s => ∃ (j : Nat) (e : Int) (fl : Bool), e = j ∧ m + j = L.length ∧ L.any (eqA x0.2[k]) = (fl || (L.drop j).any (eqA x0.2[k])) ∧
      s = ⟨63, [(1, .ptr 0 0), (2, .ptr 1 0), (3, .ptr 2 0), (4, ci k), (5, cb fl), (6, ci e)], [some ⟨true, rQuery x0⟩, some ⟨true, [cnil, cnil]⟩, some ⟨true, [.own 3 1 0 n1 n1 none, .own 4 2 0 n n none]⟩, some ⟨false, rows ciL x0.1⟩, some ⟨false, rows tAtom L⟩]⟩, L.length, ⟨0, 0, false, rfl, rfl, rfl, rfl⟩, ?_⟩
    rintro m' s ⟨j, _, fl, rfl, hm', hany, rfl⟩
    conv => whnf
    split <;> rename_i h2
    all_goals simp only [decide_eq_true_eq, decide_eq_false_iff_not] at h2
    · conv => whnf
      have hj : j < L.length := by omega
      have hbj := sumB_one (f := cAtom) hj
      have hcj : cAtom L[j] = L[j].2.length := rfl
      rw [drop_any hj] at hany
      refine ⟨List.range 15, by kernel_rfl, ?_⟩
      conv => whnf
      cases fl with
      | true =>
        conv => whnf
        exact ⟨m' - 1, by omega, j + 1, _, true, wrap_id (by omega) (by omega), by omega, by rw [hany, Bool.true_or, Bool.true_or], rfl⟩
      | false =>
      conv => whnf
      rw [Bool.false_or] at hany
      refine ⟨by omega, ?_⟩
      conv => whnf
      refine ⟨_, takeN_own (k := j) (d := 0) (m := 2) (xs := L) tAtom_len (Nat.zero_add _) hj (by omega) rfl, ?_⟩
      conv => whnf
      refine ⟨by omega, rows_len rAtom_len _, ?_⟩
      conv => whnf
      refine ⟨_, takeN_rp (k := k) rAtom_len hk, ?_⟩
      conv => whnf
      refine ⟨_, _, _, _, rows_cell (v := intsT L[j].2) tAtom_len (k := j) (d := 1) (by show 0 + j * 2 + 1 = _; omega) hj rfl, roVs_ci _, ?_⟩
      conv => whnf
      refine ⟨_, specEqualAtoms_spec L[j] x0.2[k] (by omega) (by omega), .inr trivial, .inl ?_⟩
      conv => whnf
      refine ⟨m' - 1, by omega, j + 1, _, eqA L[j] x0.2[k], wrap_id (by omega) (by omega), by omega, ?_, rfl⟩
      rw [hany, eqA_comm]
    · conv => whnf
      rw [drop_end (by omega), List.any_nil, Bool.or_false] at hany
      cases fl with
      | true =>
        conv => whnf
        refine ⟨m - 1, by omega, k + 1, _, n1, n, _, _, wrap_id (by omega) (by omega), by omega, hn1, ?_, rfl, ?_, rfl⟩
        · rw [dedup_at hk, hL, dedS, hany, if_pos rfl, hn]
        · rw [dedup_at hk, hL, dedS, hany, if_pos rfl]
      | false =>
      conv => whnf
      have hstep : dedup (x0.2.take (k + 1)) = L ++ [x0.2[k]] := by rw [dedup_at hk, hL, dedS, hany, if_neg (by simp)]
      refine ⟨[0, 1, 2, 3, 4, 5, 6, 7, 9, 10, 11, 12, 13, 14, 8, 15, 16, 17, 18, 19, 20], by kernel_rfl, ?_⟩
      conv => whnf
      refine ⟨by omega, rows_len rAtom_len _, ?_⟩
      conv => whnf
      refine ⟨_, takeN_rp_field (k := k) (d := 0) (m := 1) (r := [ci x0.2[k].1]) rAtom_len hk (by omega) rfl, ?_⟩
      conv => whnf
      refine ⟨by omega, rows_len rAtom_len _, ?_⟩
      conv => whnf
      refine ⟨_, takeN_rp_field (k := k) (d := 1) (m := 1) (r := [ints x0.2[k].2]) rAtom_len hk (by omega) rfl, ?_⟩
      conv => whnf
      refine ⟨rows_len ciL_len _, solid_ci _, ?_⟩
      conv => whnf
      refine ⟨by omega, rfl, _, app_ci [] _, ?_⟩
      conv => whnf
      refine ⟨by rw [rows_len ciL_len, List.nil_append, Nat.zero_add]; rfl, ?_⟩
      conv => whnf
      refine ⟨_, rfl, .inr ⟨fun c hc => ?_, ?_⟩⟩
      · have hc : c ∈ [ci x0.2[k].1, V.tr 1 (0 + x0.2[k].2.length) (rows ciL ([] ++ x0.2[k].2))] := hc
        simp only [List.mem_cons, List.not_mem_nil, or_false] at hc
        rcases hc with rfl | rfl <;> rfl
      conv => whnf
      refine ⟨by omega, by rw [rows_len tAtom_len, hn], rows tAtom (L ++ [x0.2[k]]), ?_, ?_⟩
      · rw [List.nil_append, Nat.zero_add]
        exact snoc_rows tAtom _ _
      conv => whnf
      refine ⟨m - 1, by omega, k + 1, _, n1, _, _, _, wrap_id (by omega) (by omega), by omega, hn1, ?_, rfl, ?_, rfl⟩
      · rw [hstep, List.length_append, hn]
        rfl
      · rw [hstep]
  · conv => whnf
    have hkk : k = x0.2.length := by omega
    rw [hkk, List.take_length] at hn ⊢
    subst hn1
    subst hn
    refine ⟨by rw [rows_len ciL_len], by rw [rows_len tAtom_len], rfl⟩
end Go.Proofs.YthfjngmbdbocbaaD

/- DedupeAtoms: the second program. -/
set_option linter.unusedVariables false
set_option linter.unusedSimpArgs false
set_option maxRecDepth 100000
namespace Go.Proofs.YthfjngmbdbocbaaD
open Go Go.Proofs

/-- An atom whose terms may have been moved away. -/
def tM (p : AtomC × Bool) : List V := [ci p.1.1, if p.2 then .any else intsT p.1.2]
theorem tM_len (p : AtomC × Bool) : (tM p).length = 2 := rfl
theorem rows_tM (xs : List AtomC) : rows tAtom xs = rows tM (xs.map fun a => (a, false)) := by
  induction xs with
  | nil => rfl
  | cons x xs ih =>
    have h1 : rows tAtom (x :: xs) = tAtom x ++ rows tAtom xs := by simp [rows]
    have h2 : rows tM ((x :: xs).map fun a => (a, false)) = tM (x, false) ++ rows tM (xs.map fun a => (a, false)) := by simp [rows]
    rw [h1, h2, ih]
    rfl
set_option maxHeartbeats 40000000 in
theorem implDedupeAtoms_spec (x0 : QueryD) (h0 : cQuery x0 ≤ 1048576) : Spec Try.prog 71 [vQuery x0] (wQuery (pDedupeAtoms x0)) := by
  unfold cQuery at h0
  have h0' := h0
  unfold cAtomS at h0
  refine Spec_of mx Γ_ok Try.func71 rfl ?_
  conv => whnf
  refine ⟨_, copyInts_spec x0.1 (by omega), .inl rfl, .inr ?_⟩
  conv => whnf
  refine ⟨_, copyAtoms_spec x0.2 (by omega), .inl rfl, .inr ?_⟩
  conv => whnf
  refine ⟨[(2,0),(3,202),(15,0),(16,0),(17,0)], fun m s => ∃ (k : Nat) (e : Int) (n : Nat) (r : List V) (ps : List (AtomC × Bool)) (r0 : List V), e = k ∧ m + k = x0.2.length ∧ n = (dedup (x0.2.take k)).length ∧ r = rows tAtom (dedup (x0.2.take k)) ∧ ps.length = x0.2.length ∧ (∀ j, k ≤ j → ∀ (h : j < x0.2.length), ps[j]? = some (x0.2[j], false)) ∧ r0 = rows tM ps ∧
    s = ⟨45, [(2, .ptr 0 0), (3, .ptr 1 0), (15, .own 2 2 0 x0.2.length x0.2.length none), (16, ci x0.2.length), (17, ci e)], [some ⟨true, [cnil, cnil]⟩, some ⟨true, [.own 3 1 0 x0.1.length x0.1.length none, .own 4 2 0 n n none]⟩, some ⟨false, r0⟩, some ⟨false, rows ciL x0.1⟩, some ⟨false, r⟩]⟩, x0.2.length, ⟨0, 0, 0, _, x0.2.map fun a => (a, false), _, rfl, rfl, rfl, rfl, by rw [List.length_map], fun j _ h => by rw [List.getElem?_map, List.getElem?_eq_getElem h]; rfl, (rows_tM x0.2), rfl⟩, ?_⟩
  rintro m s ⟨k, _, n, _, ps, _, rfl, hm, hn, rfl, hpl, hps, rfl, rfl⟩
  conv => whnf
  split <;> rename_i h1
  all_goals simp only [decide_eq_true_eq, decide_eq_false_iff_not] at h1
  · conv => whnf
    have hk : k < x0.2.length := by omega
    have hkp : k < ps.length := by omega
    have hpk : ps[k] = (x0.2[k], false) := by
      have := hps k (Nat.le_refl _) hk
      rw [List.getElem?_eq_getElem hkp] at this
      exact Option.some.inj this
    have hb := sumB_one (f := cAtom) hk
    have hcb : cAtom x0.2[k] = x0.2[k].2.length := rfl
    have hdt := dedup_take cAtom x0.2 k
    generalize hL : dedup (x0.2.take k) = L at hn hdt
    refine ⟨by omega, ?_⟩
    conv => whnf
    refine ⟨tAtom x0.2[k], takeN_own (k := k) (d := 0) (m := 2) (xs := ps) tM_len (Nat.zero_add _) hkp (by omega) (by rw [hpk]; rfl), ?_⟩
    conv => whnf
    refine ⟨[(2,0),(3,0),(5,0),(6,0),(15,0),(16,0),(17,0),(22,0),(23,0),(24,0)], fun m s => ∃ (j : Nat) (e : Int) (o : Nat) (fl : Bool), e = j ∧ m + j = L.length ∧ o = k * 2 + 1 ∧ L.any (eqA x0.2[k]) = (fl || (L.drop j).any (eqA x0.2[k])) ∧
      s = ⟨45, [(2, .ptr 0 0), (3, .ptr 1 0), (5, .ptr 2 0), (6, cb fl), (15, .own 3 2 0 x0.2.length x0.2.length none), (16, ci x0.2.length), (17, ci k), (22, .own 4 2 0 n n none), (23, ci n), (24, ci e)], [some ⟨true, [cnil, cnil]⟩, some ⟨true, [.own 5 1 0 x0.1.length x0.1.length none, .own 4 2 0 n n none]⟩, some ⟨true, [ci x0.2[k].1, .sub 3 o]⟩, some ⟨false, rows tM ps⟩, some ⟨false, rows tAtom L⟩, some ⟨false, rows ciL x0.1⟩]⟩, L.length, ⟨0, 0, 0 + k * 2 + 1, false, rfl, rfl, by omega, rfl, rfl⟩, ?_⟩
    rintro m' s ⟨j, _, o, fl, rfl, hm', ho, hany, rfl⟩
    have hcell : (rows tM ps)[o]? = some (V.tr 1 x0.2[k].2.length (rows ciL x0.2[k].2)) := rows_cell tM_len (k := k) (d := 1) (by omega) hkp (by rw [hpk]; rfl)
    conv => whnf
    split <;> rename_i h2
    all_goals simp only [decide_eq_true_eq, decide_eq_false_iff_not] at h2
    · conv => whnf
      have hj : j < L.length := by omega
      have hbj := sumB_one (f := cAtom) hj
      have hcj : cAtom L[j] = L[j].2.length := rfl
      rw [drop_any hj] at hany
      refine ⟨by omega, ?_⟩
      conv => whnf
      refine ⟨_, takeN_own (k := j) (d := 0) (m := 2) (xs := L) tAtom_len (Nat.zero_add _) hj (by omega) rfl, ?_⟩
      conv => whnf
      cases fl with
      | true =>
        conv => whnf
        exact ⟨m' - 1, by omega, j + 1, _, o, true, wrap_id (by omega) (by omega), by omega, ho, by rw [hany, Bool.true_or, Bool.true_or], rfl⟩
      | false =>
      conv => whnf
      rw [Bool.false_or] at hany
      refine .inl ?_
      conv => whnf
      refine ⟨_, _, _, _, hcell, roVs_ci _, ?_⟩
      conv => whnf
      refine ⟨_, _, _, _, rows_cell (v := intsT L[j].2) tAtom_len (k := j) (d := 1) (by show 0 + j * 2 + 1 = _; omega) hj rfl, roVs_ci _, ?_⟩
      conv => whnf
      refine ⟨_, implEqualAtoms_spec x0.2[k] L[j] (by omega) (by omega), .inr trivial, .inl ?_⟩
      conv => whnf
      exact ⟨m' - 1, by omega, j + 1, _, o, eqA x0.2[k] L[j], wrap_id (by omega) (by omega), by omega, ho, hany, rfl⟩
    · conv => whnf
      rw [drop_end (by omega), List.any_nil, Bool.or_false] at hany
      cases fl with
      | true =>
        conv => whnf
        refine ⟨m - 1, by omega, k + 1, _, n, _, ps, _, wrap_id (by omega) (by omega), by omega, ?_, ?_, hpl, fun i hi h => hps i (by omega) h, rfl, rfl⟩
        · rw [dedup_at hk, hL, dedS, hany, if_pos rfl, hn]
        · rw [dedup_at hk, hL, dedS, hany, if_pos rfl]
      | false =>
      conv => whnf
      have hstep : dedup (x0.2.take (k + 1)) = L ++ [x0.2[k]] := by rw [dedup_at hk, hL, dedS, hany, if_neg (by simp)]
      refine ⟨_, _, _, hcell, ?_⟩
      conv => whnf
      refine ⟨_, rfl, .inr ⟨solid_tAtom x0.2[k], ?_⟩⟩
      conv => whnf
      refine ⟨by omega, by rw [rows_len tAtom_len, hn], _, snoc_rows tAtom _ x0.2[k], ?_⟩
      conv => whnf
      refine ⟨m - 1, by omega, k + 1, _, _, _, ps.set k (x0.2[k], true), _, wrap_id (by omega) (by omega), by omega, ?_, ?_, by rw [List.length_set, hpl], fun i hi h => ?_, rows_setCell (y := (x0.2[k], true)) tM_len (k := k) (d := 1) (by omega) hkp (by rw [hpk]; rfl) (by omega), rfl⟩
      · rw [hstep, List.length_append, hn]
        rfl
      · rw [hstep]
      · rw [List.getElem?_set, if_neg (by omega)]
        exact hps i (by omega) h
  · conv => whnf
    have hkk : k = x0.2.length := by omega
    rw [hkk, List.take_length] at hn ⊢
    subst hn
    refine ⟨by rw [rows_len ciL_len], by rw [rows_len tAtom_len], rfl⟩
end Go.Proofs.YthfjngmbdbocbaaD
