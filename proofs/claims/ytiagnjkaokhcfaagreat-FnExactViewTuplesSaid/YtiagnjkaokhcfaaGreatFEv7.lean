/- What a search binds, in plain terms. -/
import Derived.Test.YtiagnjkaokhcfaaGreatFEv6
set_option linter.unusedVariables false
set_option linter.unusedSimpArgs false
namespace Go.Proofs.YtiagnjkaokhcfaaGreatD
open Go Go.Proofs

theorem bindGo_ok : ∀ (ts vs : List Int) (b b2 : Bnd), ts.length = vs.length → bindGo ts vs b = (b2, true) → (∀ k u, b k = some u → b2 k = some u) ∧ ∀ t ∈ ts, 0 ≤ t → (b2 t.toNat).isSome = true
  | [], vs, b, b2, _, h => by
    have : b = b2 := by cases vs <;> simpa [bindGo] using h
    subst this
    exact ⟨fun _ _ h => h, fun t ht => by cases ht⟩
  | t :: ts, [], b, b2, hl, _ => by simp at hl
  | t :: ts, v :: vs, b, b2, hl, h => by
    have hl' : ts.length = vs.length := by simpa using hl
    simp only [bindGo] at h
    split at h
    · rename_i h0
      split at h
      · obtain ⟨i1, i2⟩ := bindGo_ok ts vs b b2 hl' h
        refine ⟨i1, fun x hx h1 => ?_⟩
        rcases List.mem_cons.1 hx with rfl | hx
        · omega
        · exact i2 x hx h1
      · cases h
    · rename_i h0
      split at h
      · rename_i hn
        obtain ⟨i1, i2⟩ := bindGo_ok ts vs _ b2 hl' h
        refine ⟨fun k u hk => i1 k u ?_, fun x hx h1 => ?_⟩
        · by_cases e : k = t.toNat
          · subst e; rw [hn] at hk; cases hk
          · rw [bset_ne e]; exact hk
        · rcases List.mem_cons.1 hx with rfl | hx
          · rw [i1 x.toNat v (bset_same _ _ _)]; rfl
          · exact i2 x hx h1
      · rename_i u hu
        split at h
        · obtain ⟨i1, i2⟩ := bindGo_ok ts vs b b2 hl' h
          refine ⟨i1, fun x hx h1 => ?_⟩
          rcases List.mem_cons.1 hx with rfl | hx
          · rw [i1 _ _ hu]; rfl
          · exact i2 x hx h1
        · cases h
theorem mch_ok {b b2 : Bnd} {a f : FactC} (h : mch b a f = (b2, true)) : (∀ k u, b k = some u → b2 k = some u) ∧ ∀ t ∈ a.2, 0 ≤ t → (b2 t.toNat).isSome = true := by
  unfold mch at h
  split at h
  · rename_i h0
    exact bindGo_ok a.2 f.2 b b2 h0.2 h
  · cases h
theorem visitL_ok (db : List FactC) : ∀ (body : List FactC) (b b2 : Bnd), b2 ∈ visitL db body b → (∀ k u, b k = some u → b2 k = some u) ∧ ∀ a ∈ body, ∀ t ∈ a.2, 0 ≤ t → (b2 t.toNat).isSome = true
  | [], b, b2, h => by
    have : b2 = b := by simpa [visitL] using h
    subst this
    exact ⟨fun _ _ h => h, fun a ha => by cases ha⟩
  | a :: body, b, b2, h => by
    simp only [visitL, List.mem_flatMap] at h
    obtain ⟨f, _, h⟩ := h
    split at h
    · rename_i hm
      obtain ⟨m1, m2⟩ := mch_ok (b := b) (b2 := (mch b a f).1) (a := a) (f := f) (Prod.ext rfl hm)
      obtain ⟨i1, i2⟩ := visitL_ok db body _ b2 h
      refine ⟨fun k u hk => i1 k u (m1 k u hk), fun x hx t ht h0 => ?_⟩
      rcases List.mem_cons.1 hx with rfl | hx
      · have := m2 t ht h0
        cases hc : (mch b x f).1 t.toNat with
        | none => rw [hc] at this; cases this
        | some u => rw [i1 _ _ hc]; rfl
      · exact i2 x hx t ht h0
    · cases h
theorem sV_at (b : Bnd) {k : Nat} (hk : k < 20) : (sV b).getD k 0 = (b k).getD (-1) := by
  have h1 := sB_at b k
  rw [if_pos hk] at h1
  unfold sV
  rw [List.getD_eq_getElem?_getD, List.getElem?_take, if_pos hk, h1]
  rfl
/-- A bound term has the same value in both programs. -/
theorem tS_valOf (b : Bnd) (t : Int) (ht : isTerm t = true) (hb : 0 ≤ t → (b t.toNat).isSome = true) : tS (sV b) t = valOf b t := by
  have hr : -80 ≤ t ∧ t ≤ 19 := by simpa [isTerm, inR] using ht
  unfold tS valOf
  by_cases h0 : t < 0
  · rw [if_pos h0, if_neg (by simp [isVar, inR]; omega)]
    unfold constOf
    rw [if_pos (by simp [inR]; omega)]
  · rw [if_neg h0, if_pos (by simp [isVar, inR]; omega), sV_at b (by omega)]
    have := hb (by omega)
    unfold ba
    cases hc : b t.toNat with
    | none => rw [hc] at this; cases this
    | some u => rfl
end Go.Proofs.YtiagnjkaokhcfaaGreatD
