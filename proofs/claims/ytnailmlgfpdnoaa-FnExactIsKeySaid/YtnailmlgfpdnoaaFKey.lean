/- Schemas and keys. -/
import Derived.Test.YtnailmlgfpdnoaaFInts
set_option linter.unusedVariables false
set_option linter.unusedSimpArgs false
namespace Go.Proofs.YtnailmlgfpdnoaaD
open Go Go.Proofs

/-- A schema: a struct of one list. -/
def schema (xs : List Int) : V := .agg [ints xs]
def schemaT (xs : List Int) : V := .agg [intsT xs]
def key (r : Int) (xs : List Int) : V := .agg [ci r, ints xs]
def keyT (r : Int) (xs : List Int) : V := .agg [ci r, intsT xs]
def sz1 (n : Nat) (left : Int) : Int := if left - n < 0 then -1 else left - n

theorem roVs_ints (xs : List Int) : roVs (rows ciL xs) = rows ciL xs := roVs_rows (fun _ => rfl) xs
theorem closed_intsT (xs : List Int) : closed (intsT xs) := closeds_rows (f := ciL) (fun _ => ⟨trivial, trivial⟩) xs

theorem ro_schema (xs : List Int) : roV (schemaT xs) = schema xs := by simp only [schemaT, schema, intsT, ints, roV, roVs, roVs_ints]
theorem ro_key (r : Int) (xs : List Int) : roV (keyT r xs) = key r xs := by simp only [keyT, key, intsT, ints, ci, roV, roVs, roVs_ints]
theorem szSchema_spec (xs : List Int) (left : Int) (hl : xs.length ≤ 9223372036854775807) (h1 : 0 ≤ left) (h2 : left ≤ 1099511627776) : Spec Try.prog 20 [schema xs, ci left] (ci (sz1 xs.length left)) := by
  refine Spec_of mx Γ_ok Try.func20 rfl ?_
  conv => whnf
  refine ⟨_, szIntS_spec xs left hl h1 h2, .inl rfl, .inl ?_⟩
  conv => whnf
  split <;> rename_i h0
  all_goals simp only [decide_eq_true_eq, decide_eq_false_iff_not] at h0
  · conv => whnf
    show ci (-1) = _
    unfold sz1
    split at h0
    · rw [if_pos (by assumption)]
    · omega
  · conv => whnf
    rfl
theorem szKey_spec (r : Int) (xs : List Int) (left : Int) (hl : xs.length ≤ 9223372036854775807) (h1 : 0 ≤ left) (h2 : left ≤ 1099511627776) : Spec Try.prog 21 [key r xs, ci left] (ci (sz1 xs.length left)) := by
  refine Spec_of mx Γ_ok Try.func21 rfl ?_
  conv => whnf
  refine ⟨_, szIntS_spec xs left hl h1 h2, .inl rfl, .inl ?_⟩
  conv => whnf
  split <;> rename_i h0
  all_goals simp only [decide_eq_true_eq, decide_eq_false_iff_not] at h0
  · conv => whnf
    show ci (-1) = _
    unfold sz1
    split at h0
    · rw [if_pos (by assumption)]
    · omega
  · conv => whnf
    rfl
theorem toSchema_spec (xs : List Int) (hl : xs.length ≤ 1099511627776) : Spec Try.prog 23 [schema xs] (schemaT xs) := by
  refine Spec_of mx Γ_ok Try.func23 rfl ?_
  conv => whnf
  refine ⟨_, toIntS_spec xs hl, .inl rfl, .inr ?_⟩
  conv => whnf
  refine ⟨by rw [rows_len ciL_len], rfl⟩
theorem toKey_spec (r : Int) (xs : List Int) (hl : xs.length ≤ 1099511627776) : Spec Try.prog 24 [key r xs] (keyT r xs) := by
  refine Spec_of mx Γ_ok Try.func24 rfl ?_
  conv => whnf
  refine ⟨_, toIntS_spec xs hl, .inl rfl, .inr ?_⟩
  conv => whnf
  refine ⟨by rw [rows_len ciL_len], rfl⟩
theorem eqSchema_spec (xs ys : List Int) (hl : xs.length ≤ 1099511627776) (hl' : ys.length ≤ 1099511627776) : Spec Try.prog 26 [schema xs, schema ys] (cb (xs == ys)) := by
  refine Spec_of mx Γ_ok Try.func26 rfl ?_
  conv => whnf
  refine ⟨_, eqIntS_spec xs ys hl hl', .inl rfl, .inl ?_⟩
  conv => whnf
  split <;> rename_i h0
  all_goals simp at h0
  · conv => whnf
    show cb false = _
    rw [beq_eq_false_iff_ne.2 h0]
  · conv => whnf
    show cb true = _
    rw [beq_iff_eq.2 h0]
theorem eqKey_spec (r q : Int) (xs ys : List Int) (hl : xs.length ≤ 1099511627776) (hl' : ys.length ≤ 1099511627776) : Spec Try.prog 27 [key r xs, key q ys] (cb (r == q && xs == ys)) := by
  refine Spec_of mx Γ_ok Try.func27 rfl ?_
  conv => whnf
  split <;> rename_i h0
  · conv => whnf
    show cb false = _
    simp at h0
    rw [beq_eq_false_iff_ne.2 h0]
    rfl
  conv => whnf
  refine ⟨_, eqIntS_spec xs ys hl hl', .inl rfl, .inl ?_⟩
  conv => whnf
  simp at h0
  split <;> rename_i h1
  all_goals simp at h1
  · conv => whnf
    show cb false = _
    rw [beq_eq_false_iff_ne.2 h1, Bool.and_false]
  · conv => whnf
    show cb true = _
    rw [beq_iff_eq.2 h0, beq_iff_eq.2 h1]
    rfl
def inR (x lo hi : Int) : Bool := decide (lo ≤ x) && decide (x ≤ hi)
theorem inR_of {x lo hi : Int} {b : Bool} (h : decide (x ≥ lo) = b) : inR x lo hi = (b && decide (x ≤ hi)) := by
  unfold inR
  rw [show decide (lo ≤ x) = b from h]
theorem l1In_spec (x lo hi : Int) : Spec Try.prog 43 [ci x, ci lo, ci hi] (cb (inR x lo hi)) := by
  refine Spec_of mx Γ_ok Try.func43 rfl ?_
  (repeat' ((conv => whnf); (split <;> rename_i hsplit <;> (try rw [hsplit]))))
  all_goals conv => whnf
  · rw [inR_of hsplit, Bool.true_and]
    rfl
  · rw [inR_of hsplit, Bool.false_and]
    rfl
theorem within_spec (x lo hi : Int) : Spec Try.prog 45 [ci x, ci lo, ci hi] (cb (inR x lo hi)) := by
  refine Spec_of mx Γ_ok Try.func45 rfl ?_
  (repeat' ((conv => whnf); (split <;> rename_i hsplit <;> (try rw [hsplit]))))
  all_goals conv => whnf
  · rw [inR_of hsplit, Bool.true_and]
    rfl
  · rw [inR_of hsplit, Bool.false_and]
    rfl

def isSchema (xs : List Int) : Bool := xs.all (fun x => inR x 1 3) && inR xs.length 1 4
theorem all_true {α : Type} {p : α → Bool} {xs : List α} (h : ∀ j y, j < xs.length → xs[j]? = some y → p y = true) : xs.all p = true := by
  rw [List.all_eq_true]
  intro y hy
  obtain ⟨j, hj⟩ := List.getElem?_of_mem hy
  exact h j y (List.getElem?_eq_some_iff.1 hj).1 hj
theorem all_false {α : Type} {p : α → Bool} {xs : List α} {k : Nat} (hk : k < xs.length) (h : p xs[k] = false) : xs.all p = false := by
  rw [Bool.eq_false_iff]
  intro ha
  rw [List.all_eq_true] at ha
  rw [ha _ (List.getElem_mem hk)] at h
  cases h
theorem step_inv {α : Type} {p : α → Bool} {xs : List α} {k : Nat} (hk : k < xs.length) (hj : ∀ j y, j < k → xs[j]? = some y → p y = true) (h : p xs[k] = true) : ∀ j y, j < k + 1 → xs[j]? = some y → p y = true := by
  intro j y hlt hy
  rcases Nat.lt_succ_iff_lt_or_eq.1 hlt with h1 | rfl
  · exact hj j y h1 hy
  · rw [List.getElem?_eq_getElem hk] at hy
    cases hy
    exact h
theorem specIsSchema_spec (xs : List Int) (hl : xs.length ≤ 1099511627776) : Spec Try.prog 42 [schema xs] (cb (isSchema xs)) := by
  refine Spec_of mx Γ_ok Try.func42 rfl ?_
  conv => whnf
  refine ⟨[(1,0),(2,0),(3,0)], fun m s => ∃ (k : Nat) (e : Int), e = k ∧ m + k = xs.length ∧ (∀ j y, j < k → xs[j]? = some y → inR y 1 3 = true) ∧
    s = ⟨22, [(1, .ptr 0 0), (2, cb false), (3, ci e)], [some ⟨true, [ints xs]⟩]⟩, xs.length, ⟨0, 0, rfl, rfl, by simp, rfl⟩, ?_⟩
  rintro m s ⟨k, _, rfl, hm, hj, rfl⟩
  conv => whnf
  split <;> rename_i h1
  all_goals simp only [decide_eq_true_eq, decide_eq_false_iff_not] at h1
  · conv => whnf
    have hk : k < xs.length := by omega
    refine ⟨by omega, rows_len ciL_len xs, ?_⟩
    conv => whnf
    refine ⟨_, takeN_rp (k := k) ciL_len hk, ?_⟩
    conv => whnf
    refine ⟨_, l1In_spec _ _ _, .inl rfl, .inl ?_⟩
    conv => whnf
    split <;> rename_i h2
    all_goals simp only [Bool.not_eq_true', Bool.not_eq_false'] at h2
    · conv => whnf
      show cb false = _
      unfold isSchema
      rw [all_false (p := fun x => inR x 1 3) hk h2, Bool.false_and]
    · conv => whnf
      exact ⟨m - 1, by omega, k + 1, _, wrap_id (by omega) (by omega), by omega, step_inv hk hj h2, rfl⟩
  · conv => whnf
    refine ⟨_, l1In_spec _ _ _, .inl rfl, .inl ?_⟩
    conv => whnf
    show cb (inR xs.length 1 4) = _
    unfold isSchema
    rw [all_true (p := fun x => inR x 1 3) fun j y h hy => hj j y (by omega) hy, Bool.true_and]
theorem implIsSchema_spec (xs : List Int) (hl : xs.length ≤ 1099511627776) : Spec Try.prog 44 [schema xs] (cb (isSchema xs)) := by
  refine Spec_of mx Γ_ok Try.func44 rfl ?_
  conv => whnf
  refine ⟨[(1,0),(2,0),(6,0),(7,0),(8,0)], fun m s => ∃ (k : Nat) (e : Int), e = k ∧ m + k = xs.length ∧ (∀ j y, j < k → xs[j]? = some y → inR y 1 3 = true) ∧
    s = ⟨20, [(1, .ptr 0 0), (2, cb false), (6, ints xs), (7, ci xs.length), (8, ci e)], [some ⟨true, [ints xs]⟩]⟩, xs.length, ⟨0, 0, rfl, rfl, by simp, rfl⟩, ?_⟩
  rintro m s ⟨k, _, rfl, hm, hj, rfl⟩
  conv => whnf
  split <;> rename_i h1
  all_goals simp only [decide_eq_true_eq, decide_eq_false_iff_not] at h1
  · conv => whnf
    have hk : k < xs.length := by omega
    refine ⟨by omega, rows_len ciL_len xs, ?_⟩
    conv => whnf
    refine ⟨_, takeN_rp (k := k) ciL_len hk, ?_⟩
    conv => whnf
    refine ⟨_, within_spec _ _ _, .inl rfl, .inl ?_⟩
    conv => whnf
    split <;> rename_i h2
    all_goals simp only [Bool.not_eq_true', Bool.not_eq_false'] at h2
    · conv => whnf
      show cb false = _
      unfold isSchema
      rw [all_false (p := fun x => inR x 1 3) hk h2, Bool.false_and]
    · conv => whnf
      exact ⟨m - 1, by omega, k + 1, _, wrap_id (by omega) (by omega), by omega, step_inv hk hj h2, rfl⟩
  · conv => whnf
    refine ⟨_, within_spec _ _ _, .inl rfl, .inl ?_⟩
    conv => whnf
    show cb (inR xs.length 1 4) = _
    unfold isSchema
    rw [all_true (p := fun x => inR x 1 3) fun j y h hy => hj j y (by omega) hy, Bool.true_and]
end Go.Proofs.YtnailmlgfpdnoaaD
