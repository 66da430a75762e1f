/- Equal queries: both programs. -/
import Derived.Test.YthfjngmbdbocbaaFSame
import Derived.Test.YthfjngmbdbocbaaFDedupeAtoms2
set_option linter.unusedVariables false
set_option linter.unusedSimpArgs false
set_option maxRecDepth 100000
namespace Go.Proofs.YthfjngmbdbocbaaD
open Go Go.Proofs

abbrev QueryE := List Int × List (Int × List Int)
theorem eqA_dec (a b : AtomC) : eqA a b = decide (a = b) := by
  obtain ⟨a1, a2⟩ := a
  obtain ⟨b1, b2⟩ := b
  unfold eqA
  simp only [Prod.mk.injEq, Bool.decide_and]
theorem eqQ_dec (a b : QueryE) : decide (a = b) = (decide (a.1 = b.1) && decide (a.2 = b.2)) := by
  obtain ⟨a1, a2⟩ := a
  obtain ⟨b1, b2⟩ := b
  simp only [Prod.mk.injEq, Bool.decide_and]
theorem q_sizes {a : QueryE} (h : cQuery a ≤ 1048576) : a.1.length ≤ 1048576 ∧ a.2.length ≤ 1048576 ∧ ∀ {k : Nat} (hk : k < a.2.length), a.2[k].2.length ≤ 1048576 := by
  unfold cQuery cAtomS at h
  refine ⟨by omega, by omega, fun {k} hk => ?_⟩
  have := sumB_one (f := cAtom) hk
  have e : cAtom a.2[k] = a.2[k].2.length := rfl
  omega
set_option maxHeartbeats 2000000 in
theorem specEqualQueries_spec (a b : QueryE) (ha : cQuery a ≤ 1048576) (hb : cQuery b ≤ 1048576) : Spec Try.prog 31 [vQuery a, vQuery b] (cb (decide (a = b))) := by
  obtain ⟨a1, a2, a3⟩ := q_sizes ha
  obtain ⟨b1, b2, b3⟩ := q_sizes hb
  rw [eqQ_dec]
  refine Spec_of mx Γ_ok Try.func31 rfl ?_
  conv => whnf
  refine ⟨_, l2Ints_spec a.1 b.1 (by omega) (by omega), .inl rfl, .inl ?_⟩
  generalize decide (a.1 = b.1) = c1
  cases c1 with
  | false =>
    conv => whnf
    rfl
  | true =>
  conv => whnf
  rw [Bool.true_and]
  generalize hc2 : ((a.2.length : Int) != (b.2.length : Int)) = c2
  cases c2 with
  | true =>
    conv => whnf
    rw [ne_len (by intro h; rw [h] at hc2; simp at hc2)]
    rfl
  | false =>
  have hlen : a.2.length = b.2.length := by
    have : (a.2.length : Int) = b.2.length := by simpa using hc2
    omega
  conv => whnf
  refine ⟨[(2,0),(3,0),(5,0)], fun m st => ∃ (k : Nat) (e : Int), e = k ∧ m + k = a.2.length ∧ decide (a.2 = b.2) = decide (a.2.drop k = b.2.drop k) ∧
    st = ⟨40, [(2, .ptr 0 0), (3, .ptr 1 0), (5, ci e)], [some ⟨true, rQuery a⟩, some ⟨true, rQuery b⟩]⟩, a.2.length, ⟨0, 0, rfl, rfl, rfl, by kernel_rfl⟩, ?_⟩
  rintro m st ⟨k, _, rfl, hm, hj, rfl⟩
  conv => whnf
  split <;> rename_i h1
  all_goals simp only [decide_eq_true_eq, decide_eq_false_iff_not] at h1
  · have hk : k < a.2.length := by omega
    have hk' : k < b.2.length := by omega
    have h3 := a3 hk
    have h4 := b3 hk'
    rw [drop_eq_at hk hk'] at hj
    conv => whnf
    refine ⟨List.range 12, by kernel_rfl, ?_⟩
    conv => whnf
    refine ⟨by omega, rows_len rAtom_len _, ?_⟩
    conv => whnf
    refine ⟨_, takeN_rp (k := k) rAtom_len hk, ?_⟩
    conv => whnf
    refine ⟨by omega, rows_len rAtom_len _, ?_⟩
    conv => whnf
    refine ⟨_, takeN_rp (k := k) rAtom_len hk', ?_⟩
    conv => whnf
    refine ⟨_, specEqualAtoms_spec a.2[k] b.2[k] (by omega) (by omega), .inl rfl, .inl ?_⟩
    rw [eqA_dec]
    generalize decide (a.2[k] = b.2[k]) = c3 at hj
    cases c3 with
    | false =>
      conv => whnf
      rw [hj]
      rfl
    | true =>
      conv => whnf
      exact ⟨m - 1, by omega, k + 1, IntKind.i64.wrap ((k : Int) + 1), wrap_id (by omega) (by omega), by omega, by rw [hj, Bool.true_and], by kernel_rfl⟩
  · conv => whnf
    rw [hj, List.drop_eq_nil_of_le (by omega), List.drop_eq_nil_of_le (by omega)]
    rfl
theorem equalFuncA_spec (xs ys : List AtomC) (hx : xs.length ≤ 1048576) (hy : ys.length ≤ 1048576) (h1 : ∀ {k : Nat} (hk : k < xs.length), xs[k].2.length ≤ 1048576) (h2 : ∀ {k : Nat} (hk : k < ys.length), ys[k].2.length ≤ 1048576) :
    Spec Try.prog 144 [vAtomS xs, vAtomS ys, .fn 129 []] (cb (decide (xs = ys))) := by
  refine Spec_of mx Γ_ok Try.func144 rfl ?_
  conv => whnf
  generalize hc2 : ((xs.length : Int) != (ys.length : Int)) = c2
  cases c2 with
  | true =>
    conv => whnf
    rw [ne_len (by intro h; rw [h] at hc2; simp at hc2)]
    rfl
  | false =>
  have hlen : xs.length = ys.length := by
    have : (xs.length : Int) = ys.length := by simpa using hc2
    omega
  conv => whnf
  refine ⟨[(1,0),(2,0),(15,0),(16,0),(17,0)], fun m st => ∃ (k : Nat) (e : Int), e = k ∧ m + k = xs.length ∧ decide (xs = ys) = decide (xs.drop k = ys.drop k) ∧
    st = ⟨32, [(1, vAtomS ys), (2, .fn 129 []), (15, vAtomS xs), (16, ci xs.length), (17, ci e)], []⟩, xs.length, ⟨0, 0, rfl, rfl, rfl, by kernel_rfl⟩, ?_⟩
  rintro m st ⟨k, _, rfl, hm, hj, rfl⟩
  conv => whnf
  split <;> rename_i h3
  all_goals simp only [decide_eq_true_eq, decide_eq_false_iff_not] at h3
  · have hk : k < xs.length := by omega
    have hk' : k < ys.length := by omega
    have h4 := h1 hk
    have h5 := h2 hk'
    rw [drop_eq_at hk hk'] at hj
    conv => whnf
    refine ⟨by omega, rows_len rAtom_len _, ?_⟩
    conv => whnf
    refine ⟨_, takeN_rp (k := k) rAtom_len hk, ?_⟩
    conv => whnf
    refine ⟨by omega, rows_len rAtom_len _, ?_⟩
    conv => whnf
    refine ⟨_, takeN_rp (k := k) rAtom_len hk', ?_⟩
    conv => whnf
    refine ⟨_, implEqualAtoms_spec xs[k] ys[k] (by omega) (by omega), .inl rfl, .inl ?_⟩
    rw [eqA_dec]
    generalize decide (xs[k] = ys[k]) = c3 at hj
    cases c3 with
    | false =>
      conv => whnf
      rw [hj]
      rfl
    | true =>
      conv => whnf
      exact ⟨m - 1, by omega, k + 1, IntKind.i64.wrap ((k : Int) + 1), wrap_id (by omega) (by omega), by omega, by rw [hj, Bool.true_and], by kernel_rfl⟩
  · conv => whnf
    rw [hj, List.drop_eq_nil_of_le (by omega), List.drop_eq_nil_of_le (by omega)]
    rfl
theorem implEqualQueries_spec (a b : QueryE) (ha : cQuery a ≤ 1048576) (hb : cQuery b ≤ 1048576) : Spec Try.prog 119 [vQuery a, vQuery b] (cb (decide (a = b))) := by
  obtain ⟨a1, a2, a3⟩ := q_sizes ha
  obtain ⟨b1, b2, b3⟩ := q_sizes hb
  rw [eqQ_dec]
  refine Spec_of mx Γ_ok Try.func119 rfl ?_
  conv => whnf
  refine ⟨_, slicesEq_spec a.1 b.1 (by omega) (by omega), .inl rfl, .inl ?_⟩
  generalize decide (a.1 = b.1) = c1
  cases c1 with
  | false =>
    conv => whnf
    rfl
  | true =>
  conv => whnf
  refine ⟨_, equalFuncA_spec a.2 b.2 a2 b2 a3 b3, .inl rfl, .inl ?_⟩
  conv => whnf
  rw [Bool.true_and]
  rfl
end Go.Proofs.YthfjngmbdbocbaaD
