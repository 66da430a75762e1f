/- SameCounts, twice. -/
import Derived.Test.YtnailmlgfpdnoaaFSameEq
set_option linter.unusedVariables false
set_option linter.unusedSimpArgs false
set_option maxRecDepth 100000
namespace Go.Proofs.YtnailmlgfpdnoaaD
open Go Go.Proofs

abbrev CountedL := List Int × Int
def pSameCounts (xs ys : List CountedL) : Bool := decide (xs = ys)
theorem eqC (x y : CountedL) : decide (x = y) = (decide (x.2 = y.2) && decide (x.1 = y.1)) := by
  rw [← Bool.decide_and, decide_eq_decide]
  constructor
  · rintro rfl; exact ⟨rfl, rfl⟩
  · rintro ⟨a, b⟩; exact Prod.ext b a
theorem specSameCounts_spec (xs ys : List CountedL) (h0 : cCountedS xs ≤ 1048576) (h1 : cCountedS ys ≤ 1048576) (q0 : qCountedS xs) (q1 : qCountedS ys) : Spec Try.prog 28 [vCountedS xs, vCountedS ys] (cb (pSameCounts xs ys)) := by
  unfold cCountedS at h0 h1
  unfold pSameCounts
  refine Spec_of mx Γ_ok Try.func28 rfl ?_
  conv => whnf
  split <;> rename_i h0
  · conv => whnf
    simp only [bne_iff_ne, ne_eq] at h0
    show cb false = _
    rw [ne_len (by omega)]
  conv => whnf
  have h0' : xs.length = ys.length := by
    have h3 : (xs.length : Int) = ys.length := by simpa using h0
    omega
  refine ⟨[(0,0),(1,0),(4,0),(5,0)], fun m s => ∃ (k : Nat) (e : Int), e = k ∧ m + k = xs.length ∧ decide (xs = ys) = decide (xs.drop k = ys.drop k) ∧
    s = ⟨42, [(0, vCountedS xs), (1, vCountedS ys), (4, cb false), (5, ci e)], []⟩, xs.length, ⟨0, 0, rfl, rfl, rfl, rfl⟩, ?_⟩
  rintro m s ⟨k, _, rfl, hm, hj, rfl⟩
  conv => whnf
  split <;> rename_i h1
  all_goals simp only [decide_eq_true_eq, decide_eq_false_iff_not] at h1
  · conv => whnf
    have hk : k < xs.length := by omega
    have hk' : k < ys.length := by omega
    have hbx := sumB_one (f := cCounted) hk
    have hby := sumB_one (f := cCounted) hk'
    have hcx : cCounted xs[k] = xs[k].1.length := rfl
    have hcy : cCounted ys[k] = ys[k].1.length := rfl
    rw [drop_eq_at hk hk', eqC] at hj
    refine ⟨List.range 25, by kernel_rfl, ?_⟩
    conv => whnf
    refine ⟨by omega, rows_len rCounted_len xs, ?_⟩
    conv => whnf
    refine ⟨_, takeN_rp_field (k := k) (d := 1) (m := 1) (r := [ci xs[k].2]) rCounted_len hk (by omega) rfl, ?_⟩
    conv => whnf
    refine ⟨by omega, rows_len rCounted_len ys, ?_⟩
    conv => whnf
    refine ⟨_, takeN_rp_field (k := k) (d := 1) (m := 1) (r := [ci ys[k].2]) rCounted_len hk' (by omega) rfl, ?_⟩
    conv => whnf
    generalize hb1 : (xs[k].2 != ys[k].2) = b1
    cases b1 with
    | true =>
      conv => whnf
      show cb false = _
      rw [hj, decide_eq_false (p := xs[k].2 = ys[k].2) (by simpa using hb1), Bool.false_and, Bool.false_and]
    | false =>
    conv => whnf
    rw [decide_eq_true (p := xs[k].2 = ys[k].2) (by simpa using hb1), Bool.true_and] at hj
    refine ⟨by omega, rows_len rCounted_len xs, ?_⟩
    conv => whnf
    refine ⟨_, takeN_rp_field (k := k) (d := 0) (m := 1) (r := [ints xs[k].1]) rCounted_len hk (by omega) rfl, ?_⟩
    conv => whnf
    refine ⟨by omega, rows_len rCounted_len ys, ?_⟩
    conv => whnf
    refine ⟨_, takeN_rp_field (k := k) (d := 0) (m := 1) (r := [ints ys[k].1]) rCounted_len hk' (by omega) rfl, ?_⟩
    conv => whnf
    refine ⟨_, l2Ints_spec xs[k].1 ys[k].1 (by omega) (by omega), .inl rfl, .inl ?_⟩
    conv => whnf
    generalize decide (xs[k].1 = ys[k].1) = b2 at hj
    cases b2 with
    | false =>
      conv => whnf
      show cb false = _
      rw [hj, Bool.false_and]
    | true =>
      conv => whnf
      rw [Bool.true_and] at hj
      exact ⟨m - 1, by omega, k + 1, _, wrap_id (by omega) (by omega), by omega, hj, rfl⟩
  · conv => whnf
    rw [hj, drop_end (by omega), drop_end (by omega)]
    rfl
theorem sameC_spec (x y : CountedL) (hx : x.1.length ≤ 1099511627776) (hy : y.1.length ≤ 1099511627776) : Spec Try.prog 48 [vCounted x, vCounted y] (cb (decide (x = y))) := by
  rw [eqC]
  refine Spec_of mx Γ_ok Try.func48 rfl ?_
  conv => whnf
  generalize hb1 : (x.2 == y.2) = b1
  cases b1 with
  | false =>
    conv => whnf
    rw [decide_eq_false (p := x.2 = y.2) (by simpa using hb1)]
    rfl
  | true =>
    conv => whnf
    refine ⟨_, slicesEq_spec x.1 y.1 hx hy, .inl rfl, .inl ?_⟩
    conv => whnf
    rw [decide_eq_true (p := x.2 = y.2) (by simpa using hb1)]
    rfl
theorem equalFunc_spec (xs ys : List CountedL) (h0 : cCountedS xs ≤ 1048576) (h1 : cCountedS ys ≤ 1048576) : Spec Try.prog 47 [vCountedS xs, vCountedS ys, .fn 48 []] (cb (decide (xs = ys))) := by
  unfold cCountedS at h0 h1
  refine Spec_of mx Γ_ok Try.func47 rfl ?_
  conv => whnf
  split <;> rename_i h0
  · conv => whnf
    simp only [bne_iff_ne, ne_eq] at h0
    show cb false = _
    rw [ne_len (by omega)]
  conv => whnf
  have h0' : xs.length = ys.length := by
    have h3 : (xs.length : Int) = ys.length := by simpa using h0
    omega
  refine ⟨[(1,0),(2,0),(6,0),(15,0),(16,0),(17,0)], fun m s => ∃ (k : Nat) (e : Int), e = k ∧ m + k = xs.length ∧ decide (xs = ys) = decide (xs.drop k = ys.drop k) ∧
    s = ⟨32, [(1, vCountedS ys), (2, .fn 48 []), (6, cb false), (15, vCountedS xs), (16, ci xs.length), (17, ci e)], []⟩, xs.length, ⟨0, 0, rfl, rfl, rfl, rfl⟩, ?_⟩
  rintro m s ⟨k, _, rfl, hm, hj, rfl⟩
  conv => whnf
  split <;> rename_i h1
  all_goals simp only [decide_eq_true_eq, decide_eq_false_iff_not] at h1
  · conv => whnf
    have hk : k < xs.length := by omega
    have hk' : k < ys.length := by omega
    have hbx := sumB_one (f := cCounted) hk
    have hby := sumB_one (f := cCounted) hk'
    have hcx : cCounted xs[k] = xs[k].1.length := rfl
    have hcy : cCounted ys[k] = ys[k].1.length := rfl
    rw [drop_eq_at hk hk'] at hj
    refine ⟨by omega, rows_len rCounted_len xs, ?_⟩
    conv => whnf
    refine ⟨_, takeN_rp (k := k) rCounted_len hk, ?_⟩
    conv => whnf
    refine ⟨by omega, rows_len rCounted_len ys, ?_⟩
    conv => whnf
    refine ⟨_, takeN_rp (k := k) rCounted_len hk', ?_⟩
    conv => whnf
    refine ⟨_, sameC_spec xs[k] ys[k] (by omega) (by omega), .inl rfl, .inl ?_⟩
    conv => whnf
    generalize decide (xs[k] = ys[k]) = b2 at hj
    cases b2 with
    | false =>
      conv => whnf
      show cb false = _
      rw [hj, Bool.false_and]
    | true =>
      conv => whnf
      rw [Bool.true_and] at hj
      exact ⟨m - 1, by omega, k + 1, _, wrap_id (by omega) (by omega), by omega, hj, rfl⟩
  · conv => whnf
    rw [hj, drop_end (by omega), drop_end (by omega)]
    rfl
theorem implSameCounts_spec (xs ys : List CountedL) (h0 : cCountedS xs ≤ 1048576) (h1 : cCountedS ys ≤ 1048576) (q0 : qCountedS xs) (q1 : qCountedS ys) : Spec Try.prog 29 [vCountedS xs, vCountedS ys] (cb (pSameCounts xs ys)) := by
  refine Spec_of mx Γ_ok Try.func29 rfl ?_
  conv => whnf
  refine ⟨_, equalFunc_spec xs ys h0 h1, .inl rfl, .inl ?_⟩
  conv => whnf
  rfl
end Go.Proofs.YtnailmlgfpdnoaaD
