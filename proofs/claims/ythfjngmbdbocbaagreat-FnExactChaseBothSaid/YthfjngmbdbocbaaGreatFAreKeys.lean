/- AreKeys, twice. -/
import Derived.Test.YthfjngmbdbocbaaGreatFIsKey
set_option linter.unusedVariables false
set_option linter.unusedSimpArgs false
set_option maxRecDepth 100000
namespace Go.Proofs.YthfjngmbdbocbaaGreatD
open Go Go.Proofs

def isKeyOf (s : List Int) (k : Int × List Int) : Bool := isKey s k.1 k.2
def pAreKeys (s : List Int) (ks : List (Int × List Int)) : Bool := ks.all (isKeyOf s) && (isSchema s && decide (ks.length ≤ 4))
theorem specAreKeys_spec (x0 : List Int) (x1 : List (Int × List Int)) (h0 : cSchema x0 ≤ 1048576) (h1 : cKeyS x1 ≤ 1048576) (q0 : qSchema x0) (q1 : qKeyS x1) : Spec Tryz.prog 31 [vSchema x0, vKeyS x1] (cb (pAreKeys x0 x1)) := by
  unfold cSchema at h0
  unfold cKeyS at h1
  have hwf : ∀ x ∈ x0, -9223372036854775808 ≤ x ∧ x ≤ 9223372036854775807 := fun x hx => wf_i64 (q0.2 x hx)
  refine Spec_of mx Γ_ok Tryz.func31 rfl ?_
  conv => whnf
  refine ⟨[(1,0),(2,0),(4,0),(5,0)], fun m s => ∃ (k : Nat) (e : Int), e = k ∧ m + k = x1.length ∧ x1.all (isKeyOf x0) = (x1.drop k).all (isKeyOf x0) ∧
    s = ⟨26, [(1, vKeyS x1), (2, .ptr 0 0), (4, cb false), (5, ci e)], [some ⟨true, [ints x0]⟩]⟩, x1.length, ⟨0, 0, rfl, rfl, rfl, rfl⟩, ?_⟩
  rintro m s ⟨k, _, rfl, hm, hall, rfl⟩
  conv => whnf
  split <;> rename_i h3
  all_goals simp only [decide_eq_true_eq, decide_eq_false_iff_not] at h3
  · conv => whnf
    have hk : k < x1.length := by omega
    have hb := sumB_one (f := cKey) hk
    rw [drop_all hk] at hall
    have hck : cKey x1[k] = x1[k].2.length := rfl
    refine ⟨List.range 7, by kernel_rfl, ?_⟩
    conv => whnf
    refine ⟨by omega, rows_len rKey_len _, ?_⟩
    conv => whnf
    refine ⟨_, takeN_rp (k := k) rKey_len hk, ?_⟩
    conv => whnf
    refine ⟨_, specIsKey_spec x0 x1[k].1 x1[k].2 (by omega) (by omega) hwf, .inl rfl, .inl ?_⟩
    conv => whnf
    generalize hb1 : (!isKey x0 x1[k].1 x1[k].2) = b1
    cases b1 with
    | true =>
      conv => whnf
      simp only [Bool.not_eq_true'] at hb1
      show cb false = _
      unfold pAreKeys
      rw [hall, show isKeyOf x0 x1[k] = false from hb1]
      rfl
    | false =>
      conv => whnf
      simp only [Bool.not_eq_false'] at hb1
      refine ⟨m - 1, by omega, k + 1, _, wrap_id (by omega) (by omega), by omega, ?_, rfl⟩
      rw [hall, show isKeyOf x0 x1[k] = true from hb1, Bool.true_and]
  · conv => whnf
    rw [drop_end (by omega)] at hall
    refine ⟨_, specIsSchema_spec x0 (by omega), .inl rfl, .inl ?_⟩
    conv => whnf
    unfold pAreKeys
    rw [hall]
    generalize isSchema x0 = b2
    cases b2 with
    | true =>
      conv => whnf
      show cb _ = cb _
      congr 1
      simp only [List.all_nil, Bool.true_and, decide_eq_decide]
      omega
    | false =>
      conv => whnf
      rfl
theorem implAreKeys_spec (x0 : List Int) (x1 : List (Int × List Int)) (h0 : cSchema x0 ≤ 1048576) (h1 : cKeyS x1 ≤ 1048576) (q0 : qSchema x0) (q1 : qKeyS x1) : Spec Tryz.prog 42 [vSchema x0, vKeyS x1] (cb (pAreKeys x0 x1)) := by
  unfold cSchema at h0
  unfold cKeyS at h1
  have hwf : ∀ x ∈ x0, -9223372036854775808 ≤ x ∧ x ≤ 9223372036854775807 := fun x hx => wf_i64 (q0.2 x hx)
  refine Spec_of mx Γ_ok Tryz.func42 rfl ?_
  conv => whnf
  refine ⟨[(1,0),(2,0),(4,0),(7,0),(8,0),(9,0)], fun m s => ∃ (k : Nat) (e : Int), e = k ∧ m + k = x1.length ∧ x1.all (isKeyOf x0) = (x1.drop k).all (isKeyOf x0) ∧
    s = ⟨25, [(1, vKeyS x1), (2, .ptr 0 0), (4, cb false), (7, vKeyS x1), (8, ci x1.length), (9, ci e)], [some ⟨true, [ints x0]⟩]⟩, x1.length, ⟨0, 0, rfl, rfl, rfl, rfl⟩, ?_⟩
  rintro m s ⟨k, _, rfl, hm, hall, rfl⟩
  conv => whnf
  split <;> rename_i h3
  all_goals simp only [decide_eq_true_eq, decide_eq_false_iff_not] at h3
  · conv => whnf
    have hk : k < x1.length := by omega
    have hb := sumB_one (f := cKey) hk
    rw [drop_all hk] at hall
    have hck : cKey x1[k] = x1[k].2.length := rfl
    refine ⟨by omega, rows_len rKey_len _, ?_⟩
    conv => whnf
    refine ⟨_, takeN_rp (k := k) rKey_len hk, ?_⟩
    conv => whnf
    refine ⟨_, implIsKey_spec x0 x1[k].1 x1[k].2 (by omega) (by omega) hwf, .inl rfl, .inl ?_⟩
    conv => whnf
    generalize hb1 : (!isKey x0 x1[k].1 x1[k].2) = b1
    cases b1 with
    | true =>
      conv => whnf
      simp only [Bool.not_eq_true'] at hb1
      show cb false = _
      unfold pAreKeys
      rw [hall, show isKeyOf x0 x1[k] = false from hb1]
      rfl
    | false =>
      conv => whnf
      simp only [Bool.not_eq_false'] at hb1
      refine ⟨m - 1, by omega, k + 1, _, wrap_id (by omega) (by omega), by omega, ?_, rfl⟩
      rw [hall, show isKeyOf x0 x1[k] = true from hb1, Bool.true_and]
  · conv => whnf
    rw [drop_end (by omega)] at hall
    refine ⟨_, implIsSchema_spec x0 (by omega), .inl rfl, .inl ?_⟩
    conv => whnf
    unfold pAreKeys
    rw [hall]
    generalize isSchema x0 = b2
    cases b2 with
    | true =>
      conv => whnf
      show cb _ = cb _
      congr 1
      simp only [List.all_nil, Bool.true_and, decide_eq_decide]
      omega
    | false =>
      conv => whnf
      rfl
end Go.Proofs.YthfjngmbdbocbaaGreatD
