/- Ranges and schemas. -/
import Derived.Test.YthfjngmbdbocbaaFGen
set_option linter.unusedVariables false
set_option linter.unusedSimpArgs false
namespace Go.Proofs.YthfjngmbdbocbaaD
open Go Go.Proofs

def schema (xs : List Int) : V := .agg [ints xs]
def key (r : Int) (xs : List Int) : V := .agg [ci r, ints xs]
theorem roVs_ints (xs : List Int) : roVs (rows ciL xs) = rows ciL xs := roVs_ci xs
theorem wf_i64 {x : Int} (h : (Lit.int .i64 x).wf = true) : -9223372036854775808 ≤ x ∧ x ≤ 9223372036854775807 := by
  have h1 : IntKind.i64.min = -9223372036854775808 := by decide
  have h2 : IntKind.i64.max = 9223372036854775807 := by decide
  simpa [Lit.wf, h1, h2] using h
def inR (x lo hi : Int) : Bool := decide (lo ≤ x) && decide (x ≤ hi)
theorem inR_of {x lo hi : Int} {b : Bool} (h : decide (x ≥ lo) = b) : inR x lo hi = (b && decide (x ≤ hi)) := by
  unfold inR
  rw [show decide (lo ≤ x) = b from h]
theorem l1In_spec (x lo hi : Int) : Spec Try.prog 91 [ci x, ci lo, ci hi] (cb (inR x lo hi)) := by
  refine Spec_of mx Γ_ok Try.func91 rfl ?_
  (repeat' ((conv => whnf); (split <;> rename_i hsplit <;> (try rw [hsplit]))))
  all_goals conv => whnf
  · rw [inR_of hsplit, Bool.true_and]
    rfl
  · rw [inR_of hsplit, Bool.false_and]
    rfl
theorem within_spec (x lo hi : Int) : Spec Try.prog 90 [ci x, ci lo, ci hi] (cb (inR x lo hi)) := by
  refine Spec_of mx Γ_ok Try.func90 rfl ?_
  (repeat' ((conv => whnf); (split <;> rename_i hsplit <;> (try rw [hsplit]))))
  all_goals conv => whnf
  · rw [inR_of hsplit, Bool.true_and]
    rfl
  · rw [inR_of hsplit, Bool.false_and]
    rfl

def isSchema (xs : List Int) : Bool := xs.all (fun x => inR x 1 3) && inR xs.length 1 4
theorem all_true {α : Type} {p : α → Bool} {xs : List α} (h : ∀ j y, j < xs.length → xs[j]? = some y → p y = true) : xs.all p = true := by
  rw [List.all_eq_true]
  intro y hy
  obtain ⟨j, hj⟩ := List.getElem?_of_mem hy
  exact h j y (List.getElem?_eq_some_iff.1 hj).1 hj
theorem all_false {α : Type} {p : α → Bool} {xs : List α} {k : Nat} (hk : k < xs.length) (h : p xs[k] = false) : xs.all p = false := by
  rw [Bool.eq_false_iff]
  intro ha
  rw [List.all_eq_true] at ha
  rw [ha _ (List.getElem_mem hk)] at h
  cases h
theorem step_inv {α : Type} {p : α → Bool} {xs : List α} {k : Nat} (hk : k < xs.length) (hj : ∀ j y, j < k → xs[j]? = some y → p y = true) (h : p xs[k] = true) : ∀ j y, j < k + 1 → xs[j]? = some y → p y = true := by
  intro j y hlt hy
  rcases Nat.lt_succ_iff_lt_or_eq.1 hlt with h1 | rfl
  · exact hj j y h1 hy
  · rw [List.getElem?_eq_getElem hk] at hy
    cases hy
    exact h
theorem specIsSchema_spec (xs : List Int) (hl : xs.length ≤ 1099511627776) : Spec Try.prog 44 [schema xs] (cb (isSchema xs)) := by
  refine Spec_of mx Γ_ok Try.func44 rfl ?_
  conv => whnf
  refine ⟨[(1,0),(2,0),(3,0)], fun m s => ∃ (k : Nat) (e : Int), e = k ∧ m + k = xs.length ∧ (∀ j y, j < k → xs[j]? = some y → inR y 1 3 = true) ∧
    s = ⟨22, [(1, .ptr 0 0), (2, cb false), (3, ci e)], [some ⟨true, [ints xs]⟩]⟩, xs.length, ⟨0, 0, rfl, rfl, by simp, rfl⟩, ?_⟩
  rintro m s ⟨k, _, rfl, hm, hj, rfl⟩
  conv => whnf
  split <;> rename_i h1
  all_goals simp only [decide_eq_true_eq, decide_eq_false_iff_not] at h1
  · conv => whnf
    have hk : k < xs.length := by omega
    refine ⟨by omega, rows_len ciL_len xs, ?_⟩
    conv => whnf
    refine ⟨_, takeN_rp (k := k) ciL_len hk, ?_⟩
    conv => whnf
    refine ⟨_, l1In_spec _ _ _, .inl rfl, .inl ?_⟩
    conv => whnf
    split <;> rename_i h2
    all_goals simp only [Bool.not_eq_true', Bool.not_eq_false'] at h2
    · conv => whnf
      show cb false = _
      unfold isSchema
      rw [all_false (p := fun x => inR x 1 3) hk h2, Bool.false_and]
    · conv => whnf
      exact ⟨m - 1, by omega, k + 1, _, wrap_id (by omega) (by omega), by omega, step_inv hk hj h2, rfl⟩
  · conv => whnf
    refine ⟨_, l1In_spec _ _ _, .inl rfl, .inl ?_⟩
    conv => whnf
    show cb (inR xs.length 1 4) = _
    unfold isSchema
    rw [all_true (p := fun x => inR x 1 3) fun j y h hy => hj j y (by omega) hy, Bool.true_and]
theorem implIsSchema_spec (xs : List Int) (hl : xs.length ≤ 1099511627776) : Spec Try.prog 43 [schema xs] (cb (isSchema xs)) := by
  refine Spec_of mx Γ_ok Try.func43 rfl ?_
  conv => whnf
  refine ⟨[(1,0),(2,0),(6,0),(7,0),(8,0)], fun m s => ∃ (k : Nat) (e : Int), e = k ∧ m + k = xs.length ∧ (∀ j y, j < k → xs[j]? = some y → inR y 1 3 = true) ∧
    s = ⟨20, [(1, .ptr 0 0), (2, cb false), (6, ints xs), (7, ci xs.length), (8, ci e)], [some ⟨true, [ints xs]⟩]⟩, xs.length, ⟨0, 0, rfl, rfl, by simp, rfl⟩, ?_⟩
  rintro m s ⟨k, _, rfl, hm, hj, rfl⟩
  conv => whnf
  split <;> rename_i h1
  all_goals simp only [decide_eq_true_eq, decide_eq_false_iff_not] at h1
  · conv => whnf
    have hk : k < xs.length := by omega
    refine ⟨by omega, rows_len ciL_len xs, ?_⟩
    conv => whnf
    refine ⟨_, takeN_rp (k := k) ciL_len hk, ?_⟩
    conv => whnf
    refine ⟨_, within_spec _ _ _, .inl rfl, .inl ?_⟩
    conv => whnf
    split <;> rename_i h2
    all_goals simp only [Bool.not_eq_true', Bool.not_eq_false'] at h2
    · conv => whnf
      show cb false = _
      unfold isSchema
      rw [all_false (p := fun x => inR x 1 3) hk h2, Bool.false_and]
    · conv => whnf
      exact ⟨m - 1, by omega, k + 1, _, wrap_id (by omega) (by omega), by omega, step_inv hk hj h2, rfl⟩
  · conv => whnf
    refine ⟨_, within_spec _ _ _, .inl rfl, .inl ?_⟩
    conv => whnf
    show cb (inR xs.length 1 4) = _
    unfold isSchema
    rw [all_true (p := fun x => inR x 1 3) fun j y h hy => hj j y (by omega) hy, Bool.true_and]
end Go.Proofs.YthfjngmbdbocbaaD
