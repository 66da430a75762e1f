/- Total orders of lists and facts. -/
import Derived.Test.YthfjngmbdbocbaaFFz2
set_option linter.unusedVariables false
set_option linter.unusedSimpArgs false
namespace Go.Proofs.YthfjngmbdbocbaaD
open Go Go.Proofs

structure Tot {α : Type} (lt : α → α → Bool) : Prop where
  irr : ∀ a, lt a a = false
  tr : ∀ a b c, lt a b = true → lt b c = true → lt a c = true
  tri : ∀ a b, lt a b = true ∨ a = b ∨ lt b a = true
section
variable {α : Type} {lt : α → α → Bool}
theorem Tot.asym (h : Tot lt) {a b : α} (h1 : lt a b = true) : lt b a = false := by
  cases h2 : lt b a with
  | false => rfl
  | true => have := h.tr _ _ _ h1 h2; rw [h.irr] at this; cases this
def Strict (lt : α → α → Bool) (l : List α) : Prop := l.Pairwise fun a b => lt a b = true
theorem strict_unique (h : Tot lt) : ∀ {l m : List α}, Strict lt l → Strict lt m → (∀ a, a ∈ l ↔ a ∈ m) → l = m
  | [], [], _, _, _ => rfl
  | [], y :: m, _, _, hm => absurd ((hm y).2 (by simp)) (by simp)
  | x :: l, [], _, _, hm => absurd ((hm x).1 (by simp)) (by simp)
  | x :: l, y :: m, hl, hr, hm => by
    obtain ⟨hx, hl'⟩ := List.pairwise_cons.1 hl
    obtain ⟨hy, hr'⟩ := List.pairwise_cons.1 hr
    have hxy : x = y := by
      have h1 : x = y ∨ x ∈ m := by have := (hm x).1 (by simp); simpa using this
      have h2 : y = x ∨ y ∈ l := by have := (hm y).2 (by simp); simpa using this
      rcases h1 with h1 | h1
      · exact h1
      · rcases h2 with h2 | h2
        · exact h2.symm
        · have := h.asym (hx y h2)
          rw [hy x h1] at this; cases this
    subst hxy
    congr 1
    refine strict_unique h hl' hr' fun a => ?_
    have := hm a
    simp only [List.mem_cons] at this
    constructor
    · intro ha
      rcases this.1 (.inr ha) with rfl | h2
      · have := hx a ha; rw [h.irr] at this; cases this
      · exact h2
    · intro ha
      rcases this.2 (.inr ha) with rfl | h2
      · have := hy a ha; rw [h.irr] at this; cases this
      · exact h2
end

/-! ### Ints and facts -/
theorem cmpI_anti : ∀ xs ys : List Int, cmpI ys xs = - cmpI xs ys
  | [], [] => rfl
  | [], _ :: _ => rfl
  | _ :: _, [] => rfl
  | x :: xs, y :: ys => by
    simp only [cmpI]
    have := cmpI_anti xs ys
    rcases Int.lt_trichotomy x y with h | h | h
    · rw [if_neg (by omega), if_pos h, if_pos h]; omega
    · subst h; simp [this]
    · rw [if_pos h, if_neg (by omega), if_pos h]
theorem cmpI_zero : ∀ xs ys : List Int, cmpI xs ys = 0 → xs = ys
  | [], [], _ => rfl
  | [], _ :: _, h => by simp [cmpI] at h
  | _ :: _, [], h => by simp [cmpI] at h
  | x :: xs, y :: ys, h => by
    simp only [cmpI] at h
    split at h
    · omega
    · split at h
      · omega
      · rw [cmpI_zero xs ys h, show x = y from by omega]
theorem cmpI_self (xs : List Int) : cmpI xs xs = 0 := by have := cmpI_anti xs xs; omega
theorem ltI_iff : ∀ xs ys : List Int, ltI xs ys = true ↔ cmpI xs ys < 0
  | [], [] => by simp [ltI, cmpI]
  | [], _ :: _ => by simp [ltI, cmpI]
  | _ :: _, [] => by simp [ltI, cmpI]
  | x :: xs, y :: ys => by
    simp only [ltI, cmpI]
    have ih := ltI_iff xs ys
    split
    · rename_i h
      rw [if_neg (by omega), if_neg (by omega)]; exact ih
    · rename_i h
      simp only [decide_eq_true_eq]
      constructor
      · intro h1; rw [if_pos h1]; omega
      · intro h1
        split at h1
        · assumption
        · rw [if_pos (by omega)] at h1; omega
theorem ltI_cmp (xs ys : List Int) : ltI xs ys = decide (cmpI xs ys < 0) := by
  rw [Bool.eq_iff_iff, ltI_iff, decide_eq_true_eq]
theorem cmpI_tr : ∀ xs ys zs : List Int, cmpI xs ys < 0 → cmpI ys zs < 0 → cmpI xs zs < 0
  | _, ys, [], _, h2 => by cases ys <;> simp [cmpI] at h2
  | [], _, _ :: _, _, _ => by simp [cmpI]
  | x :: xs, [], z :: zs, h1, _ => by simp [cmpI] at h1
  | x :: xs, y :: ys, z :: zs, h1, h2 => by
    have ih := cmpI_tr xs ys zs
    simp only [cmpI] at h1 h2 ⊢
    split at h1 <;> split at h2 <;> (try split at h1) <;> (try split at h2) <;> (split <;> try split) <;> first | omega | exact ih h1 h2
theorem totI : Tot ltI where
  irr := fun a => by rw [ltI_cmp, cmpI_self]; rfl
  tr := fun a b c h1 h2 => by rw [ltI_cmp] at h1 h2 ⊢; exact decide_eq_true (cmpI_tr a b c (of_decide_eq_true h1) (of_decide_eq_true h2))
  tri := fun a b => by
    rw [ltI_cmp, ltI_cmp, cmpI_anti a b]
    by_cases h : cmpI a b = 0
    · exact .inr (.inl (cmpI_zero a b h))
    · by_cases h1 : cmpI a b < 0
      · exact .inl (decide_eq_true h1)
      · exact .inr (.inr (decide_eq_true (by omega)))
theorem ltF_cmp (a b : FactC) : ltF a b = decide (cmpF a b < 0) := by
  rw [Bool.eq_iff_iff, decide_eq_true_eq]
  unfold ltF cmpF
  split
  · rename_i h
    rw [if_neg (by omega), if_neg (by omega)]; exact ltI_iff _ _
  · rename_i h
    simp only [decide_eq_true_eq]
    constructor
    · intro h1; rw [if_pos h1]; omega
    · intro h1
      split at h1
      · assumption
      · rw [if_pos (by omega)] at h1; omega
theorem totF : Tot ltF where
  irr := fun a => by unfold ltF; rw [if_pos rfl, totI.irr]
  tr := fun a b c h1 h2 => by
    unfold ltF at h1 h2 ⊢
    split at h1 <;> split at h2 <;> split <;> first
      | exact totI.tr _ _ _ h1 h2
      | (have h1 := of_decide_eq_true h1; have h2 := of_decide_eq_true h2; first | omega | exact decide_eq_true (by omega))
      | (have h1 := of_decide_eq_true h1; first | omega | exact decide_eq_true (by omega))
      | (have h2 := of_decide_eq_true h2; first | omega | exact decide_eq_true (by omega))
      | omega
  tri := fun a b => by
    unfold ltF
    rcases Int.lt_trichotomy a.1 b.1 with h | h | h
    · rw [if_neg (by omega)]; exact .inl (decide_eq_true h)
    · rw [if_pos h, if_pos h.symm]
      rcases totI.tri a.2 b.2 with h1 | h1 | h1
      · exact .inl h1
      · exact .inr (.inl (Prod.ext h h1))
      · exact .inr (.inr h1)
    · rw [if_neg (by omega), if_neg (by omega)]; exact .inr (.inr (decide_eq_true h))
/-- Facts put in their places, one by one. -/
theorem putGo_false (f : FactC) : ∀ (l : List FactC), Strict ltF l → Strict ltF (putGo f false l) ∧ ∀ a, a ∈ putGo f false l ↔ a = f ∨ a ∈ l
  | [], _ => ⟨by simp [putGo, Strict], fun a => by simp [putGo]⟩
  | x :: r, hs => by
    obtain ⟨hx, hr⟩ := List.pairwise_cons.1 hs
    obtain ⟨i1, i2⟩ := putGo_false f r hr
    simp only [putGo, Bool.not_false, Bool.true_and]
    cases hxf : ltF x f with
    | true =>
      simp only [Bool.not_true, Bool.false_eq_true, if_false]
      refine ⟨List.pairwise_cons.2 ⟨fun a ha => ?_, i1⟩, fun a => ?_⟩
      · rcases (i2 a).1 ha with rfl | h1
        · exact hxf
        · exact hx a h1
      · simp only [List.mem_cons, i2 a]
        constructor
        · rintro (h1 | h1 | h1) <;> simp [h1]
        · rintro (h1 | h1 | h1) <;> simp [h1]
    | false =>
      simp only [Bool.not_false, if_true, putGo_true]
      by_cases e : x = f
      · subst e
        simp only [eqF, decide_true, if_true, List.nil_append]
        exact ⟨hs, fun a => by simp⟩
      · simp only [eqF, e, decide_false, Bool.false_eq_true, if_false, List.singleton_append]
        have hfx : ltF f x = true := by
          rcases totF.tri f x with h1 | h1 | h1
          · exact h1
          · exact absurd h1.symm e
          · rw [hxf] at h1; cases h1
        refine ⟨List.pairwise_cons.2 ⟨fun a ha => ?_, hs⟩, fun a => by simp⟩
        rcases List.mem_cons.1 ha with rfl | h1
        · exact hfx
        · exact totF.tr _ _ _ hfx (hx a h1)
theorem putAll : ∀ (fs db : List FactC), Strict ltF db → Strict ltF (fs.foldl putF db) ∧ ∀ a, a ∈ fs.foldl putF db ↔ a ∈ fs ∨ a ∈ db
  | [], db, hs => ⟨hs, fun a => by simp⟩
  | f :: fs, db, hs => by
    obtain ⟨h1, h2⟩ := putGo_false f db hs
    obtain ⟨i1, i2⟩ := putAll fs (putF db f) h1
    refine ⟨i1, fun a => ?_⟩
    rw [List.foldl_cons, i2 a]
    have := h2 a
    simp only [putF, List.mem_cons, this]
    constructor
    · rintro (h | h | h) <;> simp [h]
    · rintro ((h | h) | h) <;> simp [h]
end Go.Proofs.YthfjngmbdbocbaaD
