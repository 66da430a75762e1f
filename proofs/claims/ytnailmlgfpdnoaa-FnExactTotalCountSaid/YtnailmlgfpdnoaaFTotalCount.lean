/- TotalCount, twice. -/
import Derived.Test.YtnailmlgfpdnoaaFGen
set_option linter.unusedVariables false
set_option linter.unusedSimpArgs false
set_option maxRecDepth 100000
namespace Go.Proofs.YtnailmlgfpdnoaaD
open Go Go.Proofs

def totStep (a : Int) (x : List Int × Int) : Int := IntKind.i64.wrap (a + x.2)
def pTotalCount (xs : List (List Int × Int)) : Int := xs.foldl totStep 0
theorem specTotalCount_spec (x0 : List (List Int × Int)) (h0 : cCountedS x0 ≤ 1048576) (q0 : qCountedS x0) : Spec Try.prog 16 [vCountedS x0] (ci (pTotalCount x0)) := by
  unfold cCountedS at h0
  refine Spec_of mx Γ_ok Try.func16 rfl ?_
  conv => whnf
  refine ⟨[(0,0),(2,0),(3,0),(4,0)], fun m s => ∃ (k : Nat) (e f : Int), e = k ∧ m + k = x0.length ∧ pTotalCount x0 = (x0.drop k).foldl totStep f ∧
    s = ⟨19, [(0, vCountedS x0), (2, ci 0), (3, ci f), (4, ci e)], []⟩, x0.length, ⟨0, 0, 0, rfl, rfl, rfl, rfl⟩, ?_⟩
  rintro m s ⟨k, _, f, rfl, hm, hall, rfl⟩
  conv => whnf
  split <;> rename_i h3
  all_goals simp only [decide_eq_true_eq, decide_eq_false_iff_not] at h3
  · conv => whnf
    have hk : k < x0.length := by omega
    rw [List.drop_eq_getElem_cons hk, List.foldl_cons] at hall
    refine ⟨by omega, rows_len rCounted_len _, ?_⟩
    conv => whnf
    refine ⟨_, takeN_rp_field (k := k) (d := 1) (m := 1) (r := [ci x0[k].2]) rCounted_len hk (by omega) rfl, ?_⟩
    conv => whnf
    refine ⟨m - 1, by omega, k + 1, _, totStep f x0[k], wrap_id (by omega) (by omega), by omega, hall, rfl⟩
  · conv => whnf
    rw [List.drop_eq_nil_of_le (by omega), List.foldl_nil] at hall
    rw [hall]
    rfl
theorem implTotalCount_spec (x0 : List (List Int × Int)) (h0 : cCountedS x0 ≤ 1048576) (q0 : qCountedS x0) : Spec Try.prog 18 [vCountedS x0] (ci (pTotalCount x0)) := by
  unfold cCountedS at h0
  refine Spec_of mx Γ_ok Try.func18 rfl ?_
  conv => whnf
  refine ⟨[(2,0),(3,0),(6,0),(7,0),(8,0)], fun m s => ∃ (k : Nat) (e f : Int), e = k ∧ m + k = x0.length ∧ pTotalCount x0 = (x0.drop k).foldl totStep f ∧
    s = ⟨18, [(2, ci 0), (3, ci f), (6, vCountedS x0), (7, ci x0.length), (8, ci e)], []⟩, x0.length, ⟨0, 0, 0, rfl, rfl, rfl, rfl⟩, ?_⟩
  rintro m s ⟨k, _, f, rfl, hm, hall, rfl⟩
  conv => whnf
  split <;> rename_i h3
  all_goals simp only [decide_eq_true_eq, decide_eq_false_iff_not] at h3
  · conv => whnf
    have hk : k < x0.length := by omega
    rw [List.drop_eq_getElem_cons hk, List.foldl_cons] at hall
    refine ⟨by omega, rows_len rCounted_len _, ?_⟩
    conv => whnf
    refine ⟨_, takeN_rp (k := k) rCounted_len hk, ?_⟩
    conv => whnf
    refine ⟨m - 1, by omega, k + 1, _, totStep f x0[k], wrap_id (by omega) (by omega), by omega, hall, rfl⟩
  · conv => whnf
    rw [List.drop_eq_nil_of_le (by omega), List.foldl_nil] at hall
    rw [hall]
    rfl
end Go.Proofs.YtnailmlgfpdnoaaD
