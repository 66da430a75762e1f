/- The law FnExactFormatInclusion; printed by wip/lawgen.py. -/
import Derived.Test.YtifmkifkjmfceaaFFormatInclusion
set_option linter.unusedVariables false
set_option linter.unusedSimpArgs false
set_option maxRecDepth 100000
namespace Go.Proofs.YtifmkifkjmfceaaD
open Go Go.Proofs

theorem law_FormatInclusion (x0 : (Int × (List Int) × Int × (List Int))) (q0 : qInclusion x0) : Spec Try.prog 6 [vInclusion (x0)] (cb true) := by
  refine Spec_of mx Γ_ok Try.func6 rfl ?_
  conv => whnf
  refine ⟨_, szInclusion_spec x0 (1048576) q0 (by omega) (by omega), .inl rfl, .inl ?_⟩
  conv => whnf
  generalize hb0 : decide (sz1 (cInclusion (x0)) (1048576) < 0) = b0
  rcases sz1_dec hb0 with ⟨rfl, hn0⟩ | ⟨rfl, hs0, hl0⟩
  · conv => whnf
    rfl
  rw [hs0]
  conv => whnf
  have h0 : cInclusion (x0) ≤ 1048576 := by omega
  have hm0 := mInclusion_le (x0)
  have hc0 : cInclusion (x0) ≤ 1099511627776 := by omega
  refine ⟨_, toInclusion_spec x0 hc0, .inl rfl, .inl ?_⟩
  rw [wInclusion_ro]
  conv => whnf
  refine ⟨_, specFormatInclusion_spec x0 h0 q0, .inl rfl, .inl ?_⟩
  conv => whnf
  refine ⟨_, toInclusion_spec x0 hc0, .inl rfl, .inl ?_⟩
  rw [wInclusion_ro]
  conv => whnf
  refine ⟨_, implFormatInclusion_spec x0 h0 q0, .inl rfl, .inl ?_⟩
  conv => whnf
  rw [beq_self_eq_true]
  conv => whnf
  refine ⟨[0,1,2,3,4], by kernel_rfl, ?_⟩
  conv => whnf
  refine ⟨_, toInclusion_spec x0 hc0, .inl rfl, .inl ?_⟩
  rw [wInclusion_ro]
  conv => whnf
  refine ⟨_, eqInclusion_spec (x0) hc0, .inl rfl, .inl ?_⟩
  conv => whnf
  rfl
end Go.Proofs.YtifmkifkjmfceaaD
