/- Does a slice hold an int? -/
import Derived.Test.YthfjngmbdbocbaaFGen
set_option linter.unusedVariables false
set_option linter.unusedSimpArgs false
namespace Go.Proofs.YthfjngmbdbocbaaD
open Go Go.Proofs
def eqV (v : Int) (y : Int) : Bool := y == v
def has (xs : List Int) (v : Int) : Bool := xs.any (eqV v)
theorem l2Has_spec (xs : List Int) (v : Int) (hl : xs.length ≤ 1099511627776) : Spec Try.prog 108 [ints xs, ci v] (cb (has xs v)) := by
  refine Spec_of mx Γ_ok Try.func108 rfl ?_
  conv => whnf
  refine ⟨[(0,0),(1,0),(4,0),(5,0)], fun m s => ∃ (k : Nat) (e : Int), e = k ∧ m + k = xs.length ∧ has xs v = (xs.drop k).any (eqV v) ∧ s = ⟨18, [(0, ints xs), (1, ci v), (4, cb false), (5, ci e)], []⟩, xs.length, ⟨0, 0, rfl, rfl, rfl, rfl⟩, ?_⟩
  rintro m s ⟨k, _, rfl, hm, hj, rfl⟩
  conv => whnf
  split <;> rename_i h1
  all_goals simp only [decide_eq_true_eq, decide_eq_false_iff_not] at h1
  · conv => whnf
    have hk : k < xs.length := by omega
    rw [drop_any hk] at hj
    refine ⟨by omega, rows_len ciL_len xs, ?_⟩
    conv => whnf
    refine ⟨_, takeN_rp (k := k) ciL_len hk, ?_⟩
    conv => whnf
    split <;> rename_i h2
    · conv => whnf
      rw [hj, show eqV v xs[k] = true from h2]
      rfl
    · conv => whnf
      rw [show eqV v xs[k] = false from h2, Bool.false_or] at hj
      exact ⟨m - 1, by omega, k + 1, _, wrap_id (by omega) (by omega), by omega, hj, rfl⟩
  · conv => whnf
    rw [hj, drop_end (by omega)]
    rfl
end Go.Proofs.YthfjngmbdbocbaaD
