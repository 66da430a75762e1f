/- Answers are the same, in plain terms. -/
import Derived.Test.YtiagnjkaokhcfaaGreatFEv10
set_option linter.unusedVariables false
set_option linter.unusedSimpArgs false
namespace Go.Proofs.YtiagnjkaokhcfaaGreatD
open Go Go.Proofs

theorem scanL_ok (v : List Int) (out : List (List Int)) : ∀ n, n ≤ out.length → scanL v out n ≤ n ∧ (∀ j, scanL v out n ≤ j → j < n → ∀ h : j < out.length, ltI v out[j] = true) ∧ (0 < scanL v out n → ltI v (out.getD (scanL v out n - 1) []) = false)
  | 0, _ => ⟨Nat.le_refl _, fun j _ h => absurd h (Nat.not_lt_zero _), fun h => absurd h (by simp [scanL])⟩
  | n + 1, hn => by
    obtain ⟨i1, i2, i3⟩ := scanL_ok v out n (by omega)
    have hg : out.getD n [] = out[n] := by rw [List.getD_eq_getElem?_getD, List.getElem?_eq_getElem (by omega)]; rfl
    simp only [scanL]
    split
    · rename_i h
      refine ⟨by omega, fun j h1 h2 h3 => ?_, i3⟩
      by_cases e : j = n
      · subst e; rw [← hg]; exact h
      · exact i2 j h1 (by omega) h3
    · rename_i h
      exact ⟨Nat.le_refl _, fun j h1 h2 => by omega, fun _ => by simpa using h⟩
theorem insL_ok {out : List (List Int)} (hs : Strict ltI out) (v : List Int) : Strict ltI (insL true out v) ∧ ∀ x, x ∈ insL true out v ↔ x = v ∨ x ∈ out := by
  obtain ⟨h1, h2, h3⟩ := scanL_ok v out out.length (Nat.le_refl _)
  unfold insL
  generalize scanL v out out.length = k at *
  have hpw := List.pairwise_iff_getElem.1 hs
  by_cases hc : (true && decide (0 < k) && decide (out.getD (k - 1) [] = v)) = true
  · rw [if_pos hc]
    simp only [Bool.and_eq_true, decide_eq_true_eq, true_and] at hc
    have hk1 : k - 1 < out.length := by omega
    have hg : out.getD (k - 1) [] = out[k - 1] := by rw [List.getD_eq_getElem?_getD, List.getElem?_eq_getElem hk1]; rfl
    refine ⟨hs, fun x => ⟨.inr, ?_⟩⟩
    rintro (rfl | h)
    · rw [← hc.2, hg]; exact List.getElem_mem hk1
    · exact h
  · rw [if_neg hc]
    have hlow : ∀ j (h : j < out.length), j < k → ltI out[j] v = true := by
      intro j h hj
      have hk0 : 0 < k := by omega
      have hk1 : k - 1 < out.length := by omega
      have hg : out.getD (k - 1) [] = out[k - 1] := by rw [List.getD_eq_getElem?_getD, List.getElem?_eq_getElem hk1]; rfl
      have h4 := h3 hk0
      rw [hg] at h4
      have h5 : ¬ out[k - 1] = v := fun e => hc (by rw [hg]; simp [hk0, e])
      have h6 : ltI out[k - 1] v = true := by
        rcases totI.tri out[k - 1] v with h | h | h
        · exact h
        · exact absurd h h5
        · rw [h4] at h; cases h
      by_cases e : j = k - 1
      · subst e; exact h6
      · exact totI.tr _ _ _ (hpw j (k - 1) h hk1 (by omega)) h6
    refine ⟨?_, fun x => ?_⟩
    · refine List.pairwise_append.2 ⟨hs.sublist (List.take_sublist _ _), List.pairwise_cons.2 ⟨fun x hx => ?_, hs.sublist (List.drop_sublist _ _)⟩, fun x hx y hy => ?_⟩
      · obtain ⟨j, hj, rfl⟩ := List.getElem_of_mem hx
        rw [List.length_drop] at hj
        rw [List.getElem_drop]
        exact h2 (k + j) (by omega) (by omega) (by omega)
      · obtain ⟨j, hj, rfl⟩ := List.getElem_of_mem hx
        rw [List.length_take] at hj
        rw [List.getElem_take]
        have h4 := hlow j (by omega) (by omega)
        rcases List.mem_cons.1 hy with rfl | hy
        · exact h4
        · obtain ⟨p, hp, rfl⟩ := List.getElem_of_mem hy
          rw [List.length_drop] at hp
          rw [List.getElem_drop]
          exact totI.tr _ _ _ h4 (h2 (k + p) (by omega) (by omega) (by omega))
    · rw [List.mem_append, List.mem_cons]
      constructor
      · rintro (h | h | h)
        · exact .inr (List.mem_of_mem_take h)
        · exact .inl h
        · exact .inr (List.mem_of_mem_drop h)
      · rintro (h | h)
        · exact .inr (.inl h)
        · rw [← List.take_append_drop k out] at h
          rcases List.mem_append.1 h with h | h
          · exact .inl h
          · exact .inr (.inr h)
theorem sortL_ok (l : List (List Int)) : Strict ltI (sortL true l) ∧ ∀ x, x ∈ sortL true l ↔ x ∈ l := by
  have : ∀ (l out : List (List Int)), Strict ltI out → Strict ltI (l.foldl (insL true) out) ∧ ∀ x, x ∈ l.foldl (insL true) out ↔ x ∈ l ∨ x ∈ out := by
    intro l
    induction l with
    | nil => intro out h; exact ⟨h, fun x => by simp⟩
    | cons v l ih =>
      intro out h
      obtain ⟨h1, h2⟩ := insL_ok h v
      obtain ⟨i1, i2⟩ := ih _ h1
      refine ⟨i1, fun x => ?_⟩
      rw [List.foldl_cons, i2 x, h2 x, List.mem_cons]
      constructor
      · rintro (h | h | h) <;> simp [h]
      · rintro ((h | h) | h) <;> simp [h]
  obtain ⟨h1, h2⟩ := this l [] List.Pairwise.nil
  exact ⟨h1, fun x => by rw [sortL, h2 x]; simp⟩
end Go.Proofs.YtiagnjkaokhcfaaGreatD
