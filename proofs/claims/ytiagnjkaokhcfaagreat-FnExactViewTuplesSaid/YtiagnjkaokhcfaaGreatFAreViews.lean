/- AreViews, twice. -/
import Derived.Test.YtiagnjkaokhcfaaGreatFQueryOk2
set_option linter.unusedVariables false
set_option linter.unusedSimpArgs false
set_option maxRecDepth 100000
namespace Go.Proofs.YtiagnjkaokhcfaaGreatD
open Go Go.Proofs

def viewOk (s : List Int) (v : QueryT) : Bool := isQuery s v && !((v.1.length : Int) == 0)
def pAreViews (s : List Int) (vs : List QueryT) : Bool := vs.all (viewOk s) && (isSchema s && inR vs.length 1 4)
theorem specAreViews_spec (x0 : List Int) (x1 : List QueryT) (h0 : cSchema x0 ≤ 1048576) (h1 : cQueryS x1 ≤ 1048576) (q0 : qSchema x0) (q1 : qQueryS x1) : Spec Tryz.prog 29 [vSchema x0, vQueryS x1] (cb (pAreViews x0 x1)) := by
  have h0' := h0
  unfold cSchema at h0'
  unfold cQueryS at h1
  refine Spec_of mx Γ_ok Tryz.func29 rfl ?_
  conv => whnf
  refine ⟨[(1,0),(2,0),(4,0),(5,0)], fun m s => ∃ (k : Nat) (e : Int), e = k ∧ m + k = x1.length ∧ x1.all (viewOk x0) = (x1.drop k).all (viewOk x0) ∧
    s = ⟨35, [(1, vQueryS x1), (2, .ptr 0 0), (4, cb false), (5, ci e)], [some ⟨true, [ints x0]⟩]⟩, x1.length, ⟨0, 0, rfl, rfl, rfl, rfl⟩, ?_⟩
  rintro m s ⟨k, _, rfl, hm, hall, rfl⟩
  conv => whnf
  split <;> rename_i h3
  all_goals simp only [decide_eq_true_eq, decide_eq_false_iff_not] at h3
  · conv => whnf
    have hk : k < x1.length := by omega
    have hb := sumB_one (f := cQuery) hk
    rw [drop_all hk] at hall
    refine ⟨List.range 16, by kernel_rfl, ?_⟩
    conv => whnf
    refine ⟨by omega, rows_len rQuery_len _, ?_⟩
    conv => whnf
    refine ⟨_, takeN_rp (k := k) rQuery_len hk, ?_⟩
    conv => whnf
    refine ⟨_, specIsQuery_spec x0 x1[k] h0 (by omega), .inl rfl, .inl ?_⟩
    conv => whnf
    rw [viewOk] at hall
    generalize isQuery x0 x1[k] = b1 at hall
    cases b1 with
    | false =>
      conv => whnf
      unfold pAreViews
      rw [hall]
      rfl
    | true =>
    conv => whnf
    refine ⟨by omega, rows_len rQuery_len _, ?_⟩
    conv => whnf
    refine ⟨_, takeN_rp_field (k := k) (d := 0) (m := 1) (r := [ints x1[k].1]) rQuery_len hk (by omega) rfl, ?_⟩
    conv => whnf
    generalize ((x1[k].1.length : Int) == 0) = b2 at hall
    cases b2 with
    | true =>
      conv => whnf
      unfold pAreViews
      rw [hall]
      rfl
    | false =>
      conv => whnf
      exact ⟨m - 1, by omega, k + 1, _, wrap_id (by omega) (by omega), by omega, hall, rfl⟩
  · conv => whnf
    rw [drop_end (by omega)] at hall
    refine ⟨_, specIsSchema_spec x0 (by omega), .inl rfl, .inl ?_⟩
    conv => whnf
    unfold pAreViews
    rw [hall]
    generalize isSchema x0 = b2
    cases b2 with
    | false =>
      conv => whnf
      rfl
    | true =>
      conv => whnf
      refine ⟨_, l1In_spec (x1.length : Int) 1 4, .inl rfl, .inl ?_⟩
      conv => whnf
      rfl
theorem implAreViews_spec (x0 : List Int) (x1 : List QueryT) (h0 : cSchema x0 ≤ 1048576) (h1 : cQueryS x1 ≤ 1048576) (q0 : qSchema x0) (q1 : qQueryS x1) : Spec Tryz.prog 28 [vSchema x0, vQueryS x1] (cb (pAreViews x0 x1)) := by
  have h0' := h0
  unfold cSchema at h0'
  unfold cQueryS at h1
  refine Spec_of mx Γ_ok Tryz.func28 rfl ?_
  conv => whnf
  refine ⟨[(1,0),(2,0),(4,0),(7,0),(8,0),(9,0)], fun m s => ∃ (k : Nat) (e : Int), e = k ∧ m + k = x1.length ∧ x1.all (viewOk x0) = (x1.drop k).all (viewOk x0) ∧
    s = ⟨31, [(1, vQueryS x1), (2, .ptr 0 0), (4, cb false), (7, vQueryS x1), (8, ci x1.length), (9, ci e)], [some ⟨true, [ints x0]⟩]⟩, x1.length, ⟨0, 0, rfl, rfl, rfl, rfl⟩, ?_⟩
  rintro m s ⟨k, _, rfl, hm, hall, rfl⟩
  conv => whnf
  split <;> rename_i h3
  all_goals simp only [decide_eq_true_eq, decide_eq_false_iff_not] at h3
  · conv => whnf
    have hk : k < x1.length := by omega
    have hb := sumB_one (f := cQuery) hk
    rw [drop_all hk] at hall
    refine ⟨by omega, rows_len rQuery_len _, ?_⟩
    conv => whnf
    refine ⟨_, takeN_rp (k := k) rQuery_len hk, ?_⟩
    conv => whnf
    refine ⟨_, implIsQuery_spec x0 x1[k] h0 (by omega), .inl rfl, .inl ?_⟩
    conv => whnf
    rw [viewOk] at hall
    generalize isQuery x0 x1[k] = b1 at hall
    cases b1 with
    | false =>
      conv => whnf
      unfold pAreViews
      rw [hall]
      rfl
    | true =>
    conv => whnf
    generalize ((x1[k].1.length : Int) == 0) = b2 at hall
    cases b2 with
    | true =>
      conv => whnf
      unfold pAreViews
      rw [hall]
      rfl
    | false =>
      conv => whnf
      exact ⟨m - 1, by omega, k + 1, _, wrap_id (by omega) (by omega), by omega, hall, rfl⟩
  · conv => whnf
    rw [drop_end (by omega)] at hall
    refine ⟨_, implIsSchema_spec x0 (by omega), .inl rfl, .inl ?_⟩
    conv => whnf
    unfold pAreViews
    rw [hall]
    generalize isSchema x0 = b2
    cases b2 with
    | false =>
      conv => whnf
      rfl
    | true =>
      conv => whnf
      refine ⟨_, within_spec (x1.length : Int) 1 4, .inl rfl, .inl ?_⟩
      conv => whnf
      rfl
end Go.Proofs.YtiagnjkaokhcfaaGreatD
