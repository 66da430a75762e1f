/- Contracts and plain laws of this seat; no condition. -/
import Derived.Test.YtcjdfeafcmfgpaaGreatQ23
set_option linter.unusedVariables false
set_option linter.unusedSimpArgs false
set_option maxRecDepth 100000
namespace Go.Proofs.YtcjdfeafcmfgpaaGreatD
open Go Go.Proofs
def safeS (s : List Int) : List Int := if isSchema s then s else [2, 1]
theorem safeS_ok (s : List Int) : sOk (safeS s) := by
 unfold safeS
 split
 ·rename_i h
  simp only [isSchema, Bool.and_eq_true] at h
  obtain ⟨h1, h2⟩ := h
  have h3 : 1 ≤ (s.length : Int) ∧ (s.length : Int) ≤ 4 := by simpa [inR] using h2
  refine ⟨fun x hx => ?_, by omega, by omega⟩
  have := List.all_eq_true.1 h1 x hx
  simpa [inR] using this
 ·exact ⟨by decide, by decide, by decide⟩
theorem l4SafeG_spec (s : List Int) (hs : s.length ≤ 1099511627776) : ∃ r, Spec Tryz.prog 219 [vSchema s] r ∧ roV r = vSchema (safeS s) := by
 cases h : isSchema s with
 | true =>
  refine ⟨vSchema s, ?_, by unfold safeS; rw [h, ints_roV]; rfl⟩
  refine Spec_of mx Γ_ok Tryz.func219 rfl ?_
  conv => whnf
  refine ⟨_, specIsSchema_spec s hs, .inl rfl, .inl ?_⟩
  rw [h]
  conv => whnf
  rfl
 | false =>
  refine ⟨wSchema [2, 1], ?_, by unfold safeS; rw [h, wSchema_ro]; rfl⟩
  refine Spec_of mx Γ_ok Tryz.func219 rfl ?_
  conv => whnf
  refine ⟨_, specIsSchema_spec s hs, .inl rfl, .inl ?_⟩
  rw [h]
  conv => whnf
  exact ⟨rfl, rfl⟩
theorem rKey_roD (x : Int × List Int) : roVs (rKey x) = rKey x := by simp only [rKey, roVs, roV, ints, roVs_ci, ci_ro]
theorem vKeyS_roD (ks : List (Int × List Int)) : roV (vKeyS ks) = vKeyS ks := congrArg (V.ro ks.length) (roVs_rows rKey_roD ks)
theorem keysP_short {s : List Int} (hs : sOk s) {c : Cur} (hc : goodC c) : goodC (keysP s c).2 ∧ short2 (keysP s c).1 ∧ (keysP s c).1.length ≤ 2 := by
 have hb := belowP_bd c (n := 3) (by omega) (by omega)
 obtain ⟨h1, h2, h3⟩ := keysGo_ok hs (belowP c 3).1.toNat [] (belowP c 3).2 (belowP_good hc 3) (fun x hx => by cases hx)
 refine ⟨h1, h2, ?_⟩
 show (keysGo s (belowP c 3).1.toNat [] (belowP c 3).2).1.length ≤ 2
 simp only [List.length_nil] at h3
 omega
end Go.Proofs.YtcjdfeafcmfgpaaGreatD
