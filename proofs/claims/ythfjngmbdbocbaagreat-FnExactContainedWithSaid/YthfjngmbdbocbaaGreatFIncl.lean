/- Inclusions. -/
import Derived.Test.YthfjngmbdbocbaaGreatFPlaces
set_option linter.unusedVariables false
set_option linter.unusedSimpArgs false
set_option maxRecDepth 100000
namespace Go.Proofs.YthfjngmbdbocbaaGreatD
open Go Go.Proofs

def incl (f : Int) (fa : List Int) (t : Int) (ta : List Int) : V := .agg [ci f, ints fa, ci t, ints ta]
theorem areIn_spec (l : List Int) (n : Int) (hl : l.length ≤ 1099511627776) (hn : -9223372036854775807 ≤ n ∧ n ≤ 9223372036854775807) : Spec Tryz.prog 106 [ints l, ci n] (cb (l.all fun x => inR x 0 (n - 1))) := by
  refine Spec_of mx Γ_ok Tryz.func106 rfl ?_
  conv => whnf
  refine ⟨[(1,0),(4,0),(7,0),(8,0),(9,0)], fun m s => ∃ (k : Nat) (e : Int), e = k ∧ m + k = l.length ∧ (∀ j y, j < k → l[j]? = some y → inR y 0 (n - 1) = true) ∧
    s = ⟨19, [(1, ci n), (4, cb false), (7, ints l), (8, ci l.length), (9, ci e)], []⟩, l.length, ⟨0, 0, rfl, rfl, by simp, rfl⟩, ?_⟩
  rintro m s ⟨k, _, rfl, hm, hj, rfl⟩
  conv => whnf
  split <;> rename_i h1
  all_goals simp only [decide_eq_true_eq, decide_eq_false_iff_not] at h1
  · conv => whnf
    have hk : k < l.length := by omega
    refine ⟨by omega, rows_len ciL_len l, ?_⟩
    conv => whnf
    refine ⟨_, takeN_rp (k := k) ciL_len hk, ?_⟩
    conv => whnf
    have hw : IntKind.i64.wrap (n - 1) = n - 1 := wrap_id (by omega) (by omega)
    refine ⟨_, within_spec _ _ _, .inl rfl, .inl ?_⟩
    rw [hw]
    conv => whnf
    split <;> rename_i h2
    all_goals simp only [Bool.not_eq_true', Bool.not_eq_false'] at h2
    · conv => whnf
      show cb false = _
      rw [all_false (p := fun x => inR x 0 (n - 1)) hk h2]
    · conv => whnf
      exact ⟨m - 1, by omega, k + 1, _, wrap_id (by omega) (by omega), by omega, step_inv (p := fun x => inR x 0 (n - 1)) hk hj h2, rfl⟩
  · conv => whnf
    show cb true = _
    rw [all_true (p := fun x => inR x 0 (n - 1)) fun j y h hy => hj j y (by omega) hy]
end Go.Proofs.YthfjngmbdbocbaaGreatD
