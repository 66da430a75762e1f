/- What a violation says: plain laws. -/
import Derived.Test.YtphphphnnnaagaaFHoldsKey
set_option linter.unusedVariables false
set_option linter.unusedSimpArgs false
set_option maxRecDepth 100000
namespace Go.Proofs.YtphphphnnnaagaaD
open Go Go.Proofs

theorem tripJ_none {x0 x1 : List FactK} {k i : Nat} : ∀ {js : List Nat}, tripJ x0 x1 k i js = none ↔ ∀ j ∈ js, violP (getF x1 k) (getF x0 i) (getF x0 j) = false
  | [] => by simp [tripJ]
  | j :: js => by
    unfold tripJ
    cases h : violP (getF x1 k) (getF x0 i) (getF x0 j) with
    | true => simp [h]
    | false => simp [h, tripJ_none (js := js)]
theorem tripI_none {x0 x1 : List FactK} {k : Nat} : ∀ {is : List Nat}, tripI x0 x1 k is = none ↔ ∀ i ∈ is, ∀ j ∈ ran (i + 1) x0.length, violP (getF x1 k) (getF x0 i) (getF x0 j) = false
  | [] => by simp [tripI]
  | i :: is => by
    unfold tripI
    rw [Option.or_eq_none_iff, tripJ_none, tripI_none (is := is)]
    simp
theorem tripK_none {x0 x1 : List FactK} : ∀ {ks : List Nat}, tripK x0 x1 ks = none ↔ ∀ k ∈ ks, tripI x0 x1 k (ran 0 x0.length) = none
  | [] => by simp [tripK]
  | k :: ks => by
    unfold tripK
    rw [Option.or_eq_none_iff, tripK_none (ks := ks)]
    simp
theorem ran_mem' {k n i : Nat} : i ∈ ran k n ↔ k ≤ i ∧ i < n := by
  unfold ran
  simp only [List.mem_range']
  constructor
  · rintro ⟨j, h1, h2⟩; omega
  · rintro ⟨h1, h2⟩; exact ⟨i - k, by omega, by omega⟩
theorem holds_iff (x0 : List FactK) (x1 : FactK) : pHoldsKey x0 x1 = true ↔ tripI x0 [x1] 0 (ran 0 x0.length) = none := by
  unfold pHoldsKey pFirstViolation
  have e : tripK x0 [x1] (ran 0 [x1].length) = (tripI x0 [x1] 0 (ran 0 x0.length)).or none := rfl
  rw [e]
  cases h : tripI x0 [x1] 0 (ran 0 x0.length) with
  | none => simp [out3]
  | some r =>
    obtain ⟨a, b, c⟩ := r
    constructor
    · intro hd
      exact absurd (of_decide_eq_true hd) (by show ¬ ((b : Int) < 0); omega)
    · intro hd
      cases hd
/-- Without a violation all keys hold. -/
theorem none_holds {x0 x1 : List FactK} (h : tripK x0 x1 (ran 0 x1.length) = none) {k : Nat} (hk : k < x1.length) : pHoldsKey x0 x1[k] = true := by
  rw [holds_iff, tripI_none]
  have h1 := tripI_none.1 (tripK_none.1 h k (ran_mem'.2 ⟨Nat.zero_le _, hk⟩))
  rw [getF_at hk] at h1
  exact h1
theorem tripJ_is {x0 x1 : List FactK} {k i : Nat} : ∀ {js : List Nat} {r : Nat × Nat × Nat}, tripJ x0 x1 k i js = some r → r.1 = k ∧ r.2.1 = i ∧ r.2.2 ∈ js ∧ violP (getF x1 k) (getF x0 i) (getF x0 r.2.2) = true
  | [], r, h => by cases h
  | j :: js, r, h => by
    unfold tripJ at h
    split at h
    · rename_i hv
      cases h
      exact ⟨rfl, rfl, by simp, hv⟩
    · obtain ⟨h1, h2, h3, h4⟩ := tripJ_is h
      exact ⟨h1, h2, by simp [h3], h4⟩
theorem tripI_is {x0 x1 : List FactK} {k : Nat} : ∀ {is : List Nat} {r : Nat × Nat × Nat}, tripI x0 x1 k is = some r → r.1 = k ∧ r.2.1 ∈ is ∧ r.2.2 ∈ ran (r.2.1 + 1) x0.length ∧ violP (getF x1 k) (getF x0 r.2.1) (getF x0 r.2.2) = true
  | [], r, h => by cases h
  | i :: is, r, h => by
    unfold tripI at h
    cases hj : tripJ x0 x1 k i (ran (i + 1) x0.length) with
    | some q =>
      rw [hj] at h
      cases h
      obtain ⟨h1, h2, h3, h4⟩ := tripJ_is hj
      rw [h2]
      exact ⟨h1, by simp, h3, h4⟩
    | none =>
      rw [hj] at h
      obtain ⟨h1, h2, h3, h4⟩ := tripI_is (r := r) (by simpa using h)
      exact ⟨h1, by simp [h2], h3, h4⟩
theorem tripK_is {x0 x1 : List FactK} : ∀ {ks : List Nat} {r : Nat × Nat × Nat}, tripK x0 x1 ks = some r → r.1 ∈ ks ∧ r.2.1 ∈ ran 0 x0.length ∧ r.2.2 ∈ ran (r.2.1 + 1) x0.length ∧ violP (getF x1 r.1) (getF x0 r.2.1) (getF x0 r.2.2) = true
  | [], r, h => by cases h
  | k :: ks, r, h => by
    unfold tripK at h
    cases hi : tripI x0 x1 k (ran 0 x0.length) with
    | some q =>
      rw [hi] at h
      cases h
      obtain ⟨h1, h2, h3, h4⟩ := tripI_is hi
      rw [h1]
      exact ⟨by simp, h2, h3, h4⟩
    | none =>
      rw [hi] at h
      obtain ⟨h1, h2, h3, h4⟩ := tripK_is (r := r) (by simpa using h)
      exact ⟨by simp [h1], h2, h3, h4⟩
/-- What is reported violates its key. -/
theorem some_violates {x0 x1 : List FactK} {n i k : Nat} (h : tripK x0 x1 (ran 0 x1.length) = some (n, i, k)) : ∃ (hn : n < x1.length) (hi : i < x0.length) (hk : k < x0.length), i < k ∧ x0[i].1 = x1[n].1 ∧ x0[k].1 = x1[n].1 ∧ pHoldsKey x0 x1[n] = false := by
  obtain ⟨h1, h2, h3, h4⟩ := tripK_is h
  simp only [ran_mem'] at h1 h2 h3
  refine ⟨h1.2, h2.2, h3.2, by omega, ?_⟩
  rw [getF_at h1.2, getF_at h2.2, getF_at h3.2] at h4
  have h5 := h4
  simp only [violP, Bool.and_eq_true, decide_eq_true_eq] at h5
  refine ⟨h5.1, h5.2.1, ?_⟩
  rw [Bool.eq_false_iff]
  intro hc
  have h6 := tripI_none.1 ((holds_iff _ _).1 hc) i (ran_mem'.2 ⟨Nat.zero_le _, h2.2⟩) k (ran_mem'.2 ⟨h3.1, h3.2⟩)
  rw [getF_at h2.2, getF_at h3.2] at h6
  rw [show getF [x1[n]] 0 = x1[n] from rfl, h4] at h6
  cases h6
end Go.Proofs.YtphphphnnnaagaaD
