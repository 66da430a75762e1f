/- The law FnExactFormatKey; printed by wip/lawgen.py. -/
import Derived.Test.YtnailmlgfpdnoaaFFormatKey
set_option linter.unusedVariables false
set_option linter.unusedSimpArgs false
set_option maxRecDepth 100000
namespace Go.Proofs.YtnailmlgfpdnoaaD
open Go Go.Proofs

theorem law_FormatKey (x0 : (Int × (List Int))) (q0 : qKey x0) : Spec Try.prog 7 [vKey (x0)] (cb true) := by
  refine Spec_of mx Γ_ok Try.func7 rfl ?_
  conv => whnf
  refine ⟨_, szKey_spec x0 (1048576) q0 (by omega) (by omega), .inl rfl, .inl ?_⟩
  conv => whnf
  generalize hb0 : decide (sz1 (cKey (x0)) (1048576) < 0) = b0
  rcases sz1_dec hb0 with ⟨rfl, hn0⟩ | ⟨rfl, hs0, hl0⟩
  · conv => whnf
    rfl
  rw [hs0]
  conv => whnf
  have h0 : cKey (x0) ≤ 1048576 := by omega
  have hm0 := mKey_le (x0)
  have hc0 : cKey (x0) ≤ 1099511627776 := by omega
  refine ⟨_, toKey_spec x0 hc0, .inl rfl, .inl ?_⟩
  rw [wKey_ro]
  conv => whnf
  refine ⟨_, specFormatKey_spec x0 h0 q0, .inl rfl, .inl ?_⟩
  conv => whnf
  refine ⟨_, toKey_spec x0 hc0, .inl rfl, .inl ?_⟩
  rw [wKey_ro]
  conv => whnf
  refine ⟨_, implFormatKey_spec x0 h0 q0, .inl rfl, .inl ?_⟩
  conv => whnf
  rw [beq_self_eq_true]
  conv => whnf
  refine ⟨[0,1,2,3,4], by kernel_rfl, ?_⟩
  conv => whnf
  refine ⟨_, toKey_spec x0 hc0, .inl rfl, .inl ?_⟩
  rw [wKey_ro]
  conv => whnf
  refine ⟨_, eqKey_spec (x0) hc0, .inl rfl, .inl ?_⟩
  conv => whnf
  rfl
end Go.Proofs.YtnailmlgfpdnoaaD
