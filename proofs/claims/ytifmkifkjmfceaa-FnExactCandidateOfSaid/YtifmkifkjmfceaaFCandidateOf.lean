/- CandidateOf, twice. -/
import Derived.Test.YtifmkifkjmfceaaFCopy
import Derived.Test.YtifmkifkjmfceaaFBase
set_option linter.unusedVariables false
set_option linter.unusedSimpArgs false
set_option maxRecDepth 100000
namespace Go.Proofs.YtifmkifkjmfceaaD
open Go Go.Proofs

abbrev QueryC := List Int × List AtomC
def getA (l : List AtomC) (i : Int) : AtomC := l.getD i.toNat (0, [])
def candS (l : List AtomC) (acc : List AtomC) (i : Int) : List AtomC := if inR i 0 (l.length - 1) then acc ++ [getA l i] else acc
def candL (l : List AtomC) (is : List Int) : List AtomC := is.foldl (candS l) []
def pCandidateOf (q : QueryC) (l : List AtomC) (is : List Int) : QueryC := (q.1, candL l is)
theorem candL_at (l : List AtomC) {is : List Int} {k : Nat} (hk : k < is.length) : candL l (is.take (k + 1)) = candS l (candL l (is.take k)) is[k] := by
  unfold candL
  rw [List.take_succ_eq_append_getElem hk, List.foldl_append]
  rfl
theorem candF_len (l : List AtomC) : ∀ (is : List Int) (acc : List AtomC), (is.foldl (candS l) acc).length ≤ acc.length + is.length
  | [], acc => Nat.le_refl _
  | i :: is, acc => by
    have h1 := candF_len l is (candS l acc i)
    have h2 : (candS l acc i).length ≤ acc.length + 1 := by unfold candS; split <;> simp
    rw [List.foldl_cons, List.length_cons]
    omega
theorem candL_len (l : List AtomC) (is : List Int) (k : Nat) : (candL l (is.take k)).length ≤ k := by
  have h1 := candF_len l (is.take k) []
  rw [List.length_take] at h1
  unfold candL
  simp only [List.length_nil] at h1
  omega
theorem getA_at {l : List AtomC} {q : Nat} (hq : q < l.length) : getA l (q : Int) = l[q] := by
  unfold getA
  rw [Int.toNat_natCast]
  simp [List.getD_eq_getElem?_getD, hq]
theorem candF_sum (c : AtomC → Nat) (l : List AtomC) (B : Nat) (hB : ∀ (j : Nat) (h : j < l.length), c l[j] ≤ B) : ∀ (is : List Int) (acc : List AtomC), sumB c (is.foldl (candS l) acc) ≤ sumB c acc + is.length * B
  | [], acc => by simp
  | i :: is, acc => by
    have h1 := candF_sum c l B hB is (candS l acc i)
    have h2 : sumB c (candS l acc i) ≤ sumB c acc + B := by
      unfold candS
      split
      · rename_i hi
        have hr : 0 ≤ i ∧ i ≤ (l.length : Int) - 1 := by simpa [inR] using hi
        obtain ⟨q, rfl⟩ : ∃ q : Nat, i = q := ⟨i.toNat, by omega⟩
        have hq : q < l.length := by omega
        rw [getA_at hq]
        have h3 := hB q hq
        have : ∀ (xs : List AtomC) (x : AtomC), sumB c (xs ++ [x]) = sumB c xs + c x := by
          intro xs x
          induction xs with
          | nil => simp [sumB]
          | cons y xs ih => simp only [List.cons_append, sumB, ih]; omega
        rw [this]
        omega
      · omega
    rw [List.foldl_cons, List.length_cons, Nat.succ_mul]
    omega
theorem sumB_eAtom : ∀ l : List AtomC, sumB eAtom l = l.length + sumB cAtom l
  | [] => rfl
  | a :: l => by
    have : eAtom a = 1 + cAtom a := rfl
    simp only [sumB, List.length_cons, sumB_eAtom l, this]
    omega
theorem smallj_CandidateOf (x0 : QueryC) (x1 : List AtomC) (x2 : List Int) (hj : cQuery x0 + cAtomS x1 ≤ 1048576 ∧ x2.length ≤ 1048576) : cQuery (pCandidateOf x0 x1 x2) ≤ 1099511627776 ∧ mQuery (pCandidateOf x0 x1 x2) ≤ 1099511627776 := by
  obtain ⟨hj, h0⟩ := hj
  unfold cQuery at hj
  unfold cAtomS at hj
  have hB : ∀ (j : Nat) (h : j < x1.length), cAtom x1[j] ≤ sumB cAtom x1 := fun j h => sumB_one h
  have h1 := candF_sum cAtom x1 _ hB x2 []
  have h2 := candF_len x1 x2 []
  have h4 : sumB cAtom ([] : List AtomC) = 0 := rfl
  rw [h4] at h1
  simp only [List.length_nil] at h2
  unfold cQuery mQuery cAtomS mAtomS
  simp only [pCandidateOf, candL, sumB_eAtom]
  rcases Nat.eq_zero_or_pos x1.length with h5 | h5
  · obtain rfl : x1 = [] := List.eq_nil_of_length_eq_zero h5
    have h6 : ∀ (is : List Int) (acc : List AtomC), is.foldl (candS []) acc = acc := by
      intro is
      induction is with
      | nil => intro acc; rfl
      | cons i is ih =>
        intro acc
        have : candS [] acc i = acc := by
          unfold candS
          rw [if_neg]
          simp [inR]
          omega
        rw [List.foldl_cons, this, ih]
    rw [h6]
    simp only [List.length_nil, h4]
    omega
  · have h7 : x2.length * sumB cAtom x1 + x2.length ≤ 1048576 * (1048576 - x0.1.length) := by
      have : x2.length * sumB cAtom x1 + x2.length = x2.length * (sumB cAtom x1 + 1) := by rw [Nat.mul_add, Nat.mul_one]
      rw [this]
      exact Nat.mul_le_mul h0 (by omega)
    omega
set_option maxHeartbeats 8000000 in
theorem specCandidateOf_spec (x0 : QueryC) (x1 : List AtomC) (x2 : List Int) (h0 : cQuery x0 ≤ 1048576) (h1 : cAtomS x1 ≤ 1048576) (h2 : x2.length ≤ 1048576) (q0 : qQuery x0) (q1 : qAtomS x1) (q2 : x2.length ≤ maxLen ∧ ∀ y ∈ x2, (Lit.int .i64 y).wf = true) : Spec Try.prog 50 [vQuery x0, vAtomS x1, ints x2] (wQuery (pCandidateOf x0 x1 x2)) := by
  unfold cQuery cAtomS at h0
  unfold cAtomS at h1
  refine Spec_of mx Γ_ok Try.func50 rfl ?_
  conv => whnf
  refine ⟨rows_len ciL_len _, solid_ci _, ?_⟩
  conv => whnf
  refine ⟨by omega, rfl, _, app_ci [] x0.1, ?_⟩
  conv => whnf
  refine ⟨[(1,0),(2,0),(6,0),(7,202),(8,0)], fun m s => ∃ (k : Nat) (e : Int) (n1 n : Nat) (r1 r : List V), e = k ∧ m + k = x2.length ∧ n1 = x0.1.length ∧ n = (candL x1 (x2.take k)).length ∧ r1 = rows ciL x0.1 ∧ r = rows tAtom (candL x1 (x2.take k)) ∧
    s = ⟨49, [(1, vAtomS x1), (2, ints x2), (6, .ptr 0 0), (7, .ptr 1 0), (8, ci e)], [some ⟨true, [cnil, cnil]⟩, some ⟨true, [.own 2 1 0 n1 n1 none, .own 3 2 0 n n none]⟩, some ⟨false, r1⟩, some ⟨false, r⟩]⟩, x2.length, ⟨0, 0, 0 + x0.1.length, 0, _, _, rfl, rfl, Nat.zero_add _, rfl, by rw [List.nil_append], rfl, rfl⟩, ?_⟩
  rintro m s ⟨k, _, n1, n, _, _, rfl, hm, hn1, hn, rfl, rfl, rfl⟩
  conv => whnf
  split <;> rename_i h3
  all_goals simp only [decide_eq_true_eq, decide_eq_false_iff_not] at h3
  · conv => whnf
    have hk : k < x2.length := by omega
    have hcl := candL_len x1 x2 k
    have hw : IntKind.i64.wrap ((x1.length : Int) - 1) = x1.length - 1 := wrap_id (by omega) (by omega)
    generalize hL : candL x1 (x2.take k) = L at hn hcl
    refine ⟨by omega, rows_len ciL_len _, ?_⟩
    conv => whnf
    refine ⟨_, takeN_rp (k := k) ciL_len hk, ?_⟩
    conv => whnf
    refine ⟨_, l1In_spec _ _ _, .inl rfl, .inl ?_⟩
    rw [hw]
    conv => whnf
    generalize hb1 : inR x2[k] 0 (x1.length - 1) = b1
    have hst : candL x1 (x2.take (k + 1)) = if b1 then L ++ [getA x1 x2[k]] else L := by rw [candL_at x1 hk, hL, candS, hb1]
    cases b1 with
    | false =>
      conv => whnf
      refine ⟨m - 1, by omega, k + 1, _, n1, n, _, _, wrap_id (by omega) (by omega), by omega, hn1, ?_, rfl, ?_, rfl⟩
      · rw [hst, hn]; rfl
      · rw [hst]; rfl
    | true =>
    conv => whnf
    have hr : 0 ≤ x2[k] ∧ x2[k] ≤ (x1.length : Int) - 1 := by simpa [inR] using hb1
    obtain ⟨q, hqa⟩ : ∃ q : Nat, x2[k] = q := ⟨x2[k].toNat, by omega⟩
    have hq : q < x1.length := by omega
    have hb := sumB_one (f := cAtom) hq
    have hcb : cAtom x1[q] = x1[q].2.length := rfl
    rw [if_pos rfl, hqa, getA_at hq] at hst
    refine ⟨by omega, rows_len ciL_len _, ?_⟩
    conv => whnf
    refine ⟨_, takeN_rp (k := k) ciL_len hk, ?_⟩
    rw [hqa]
    conv => whnf
    refine ⟨by omega, rows_len rAtom_len _, ?_⟩
    conv => whnf
    refine ⟨_, takeN_rp (k := q) rAtom_len hq, ?_⟩
    conv => whnf
    refine ⟨[0, 1, 2, 3, 5, 6, 4, 7, 8, 9, 10, 11, 12], by kernel_rfl, ?_⟩
    conv => whnf
    refine ⟨rows_len ciL_len _, solid_ci _, ?_⟩
    conv => whnf
    refine ⟨by omega, rfl, _, app_ci [] _, ?_⟩
    conv => whnf
    refine ⟨by rw [rows_len ciL_len, List.nil_append, Nat.zero_add]; rfl, ?_⟩
    conv => whnf
    refine ⟨_, rfl, .inr ⟨fun c hc => ?_, ?_⟩⟩
    · have hc : c ∈ [ci x1[q].1, V.tr 1 (0 + x1[q].2.length) (rows ciL ([] ++ x1[q].2))] := hc
      simp only [List.mem_cons, List.not_mem_nil, or_false] at hc
      rcases hc with rfl | rfl <;> rfl
    conv => whnf
    refine ⟨by omega, by rw [rows_len tAtom_len, hn], rows tAtom (L ++ [x1[q]]), ?_, ?_⟩
    · rw [List.nil_append, Nat.zero_add]
      exact snoc_rows tAtom _ _
    conv => whnf
    refine ⟨m - 1, by omega, k + 1, _, n1, _, _, _, wrap_id (by omega) (by omega), by omega, hn1, ?_, rfl, ?_, rfl⟩
    · rw [hst, List.length_append, hn]
      rfl
    · rw [hst]
  · conv => whnf
    have hkk : k = x2.length := by omega
    rw [hkk, List.take_length] at hn ⊢
    subst hn1
    subst hn
    refine ⟨by rw [rows_len ciL_len], by rw [rows_len tAtom_len], rfl⟩
set_option maxHeartbeats 8000000 in
theorem implCandidateOf_spec (x0 : QueryC) (x1 : List AtomC) (x2 : List Int) (h0 : cQuery x0 ≤ 1048576) (h1 : cAtomS x1 ≤ 1048576) (h2 : x2.length ≤ 1048576) (q0 : qQuery x0) (q1 : qAtomS x1) (q2 : x2.length ≤ maxLen ∧ ∀ y ∈ x2, (Lit.int .i64 y).wf = true) : Spec Try.prog 53 [vQuery x0, vAtomS x1, ints x2] (wQuery (pCandidateOf x0 x1 x2)) := by
  unfold cQuery cAtomS at h0
  unfold cAtomS at h1
  refine Spec_of mx Γ_ok Try.func53 rfl ?_
  conv => whnf
  refine ⟨_, copyInts_spec x0.1 (by omega), .inl rfl, .inr ?_⟩
  conv => whnf
  refine ⟨[(1,0),(6,0),(7,202),(14,0),(15,0),(16,0)], fun m s => ∃ (k : Nat) (e : Int) (n : Nat) (r : List V), e = k ∧ m + k = x2.length ∧ n = (candL x1 (x2.take k)).length ∧ r = rows tAtom (candL x1 (x2.take k)) ∧
    s = ⟨37, [(1, vAtomS x1), (6, .ptr 0 0), (7, .ptr 1 0), (14, ints x2), (15, ci x2.length), (16, ci e)], [some ⟨true, [cnil, cnil]⟩, some ⟨true, [.own 2 1 0 x0.1.length x0.1.length none, .own 3 2 0 n n none]⟩, some ⟨false, rows ciL x0.1⟩, some ⟨false, r⟩]⟩, x2.length, ⟨0, 0, 0, _, rfl, rfl, rfl, rfl, rfl⟩, ?_⟩
  rintro m s ⟨k, _, n, _, rfl, hm, hn, rfl, rfl⟩
  conv => whnf
  split <;> rename_i h3
  all_goals simp only [decide_eq_true_eq, decide_eq_false_iff_not] at h3
  · conv => whnf
    have hk : k < x2.length := by omega
    have hcl := candL_len x1 x2 k
    have hw : IntKind.i64.wrap ((x1.length : Int) - 1) = x1.length - 1 := wrap_id (by omega) (by omega)
    generalize hL : candL x1 (x2.take k) = L at hn hcl
    refine ⟨by omega, rows_len ciL_len _, ?_⟩
    conv => whnf
    refine ⟨_, takeN_rp (k := k) ciL_len hk, ?_⟩
    conv => whnf
    refine ⟨_, within_spec _ _ _, .inl rfl, .inl ?_⟩
    rw [hw]
    conv => whnf
    generalize hb1 : inR x2[k] 0 (x1.length - 1) = b1
    have hst : candL x1 (x2.take (k + 1)) = if b1 then L ++ [getA x1 x2[k]] else L := by rw [candL_at x1 hk, hL, candS, hb1]
    cases b1 with
    | false =>
      conv => whnf
      refine ⟨m - 1, by omega, k + 1, _, n, _, wrap_id (by omega) (by omega), by omega, ?_, ?_, rfl⟩
      · rw [hst, hn]; rfl
      · rw [hst]; rfl
    | true =>
    conv => whnf
    have hr : 0 ≤ x2[k] ∧ x2[k] ≤ (x1.length : Int) - 1 := by simpa [inR] using hb1
    obtain ⟨q, hqa⟩ : ∃ q : Nat, x2[k] = q := ⟨x2[k].toNat, by omega⟩
    have hq : q < x1.length := by omega
    have hb := sumB_one (f := cAtom) hq
    rw [if_pos rfl, hqa, getA_at hq] at hst
    rw [hqa]
    have hw2 : IntKind.i64.wrap ((q : Int) + 1) = q + 1 := wrap_id (by omega) (by omega)
    refine ⟨List.range 11, by kernel_rfl, ?_⟩
    conv => whnf
    rw [hw2, show ((q : Int) + 1).toNat - (q : Int).toNat = 1 from by omega]
    refine ⟨by omega, rows_len rAtom_len _, rows rAtom [x1[q]], takeN_own (k := q) (d := 0) (m := 2) (xs := x1) rAtom_len rfl hq (by omega) rfl, ?_⟩
    conv => whnf
    refine ⟨_, copyAtoms_spec [x1[q]] (by unfold cAtomS; simp only [sumB, List.length_singleton]; omega), .inl rfl, .inr ?_⟩
    conv => whnf
    refine ⟨rows tAtom [x1[q]], rfl, .inr ⟨fun c hc => ?_, ?_⟩⟩
    · exact solid_tAtom x1[q] c hc
    conv => whnf
    refine ⟨by rw [List.length_singleton]; omega, by rw [rows_len tAtom_len, hn], rows tAtom (L ++ [x1[q]]), (rows_append tAtom [x1[q]] L).symm, ?_⟩
    conv => whnf
    refine ⟨m - 1, by omega, k + 1, _, _, _, wrap_id (by omega) (by omega), by omega, ?_, ?_, rfl⟩
    · rw [hst, List.length_append, hn]
    · rw [hst]
  · conv => whnf
    have hkk : k = x2.length := by omega
    rw [hkk, List.take_length] at hn ⊢
    subst hn
    refine ⟨by rw [rows_len ciL_len], by rw [rows_len tAtom_len], rfl⟩
end Go.Proofs.YtifmkifkjmfceaaD
