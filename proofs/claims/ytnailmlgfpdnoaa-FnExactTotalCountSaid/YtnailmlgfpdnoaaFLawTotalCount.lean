/- The law FnExactTotalCount; printed by wip/lawgen.py. -/
import Derived.Test.YtnailmlgfpdnoaaFTotalCount
set_option linter.unusedVariables false
set_option linter.unusedSimpArgs false
set_option maxRecDepth 100000
namespace Go.Proofs.YtnailmlgfpdnoaaD
open Go Go.Proofs

theorem law_TotalCount (x0 : (List ((List Int) × Int))) (q0 : qCountedS x0) : Spec Try.prog 4 [vCountedS (x0)] (cb true) := by
  refine Spec_of mx Γ_ok Try.func4 rfl ?_
  conv => whnf
  refine ⟨_, szCountedS_spec x0 (1048576) q0 (by omega) (by omega), .inl rfl, .inl ?_⟩
  conv => whnf
  generalize hb0 : decide (sz1 (cCountedS (x0)) (1048576) < 0) = b0
  rcases sz1_dec hb0 with ⟨rfl, hn0⟩ | ⟨rfl, hs0, hl0⟩
  · conv => whnf
    rfl
  rw [hs0]
  conv => whnf
  have h0 : cCountedS (x0) ≤ 1048576 := by omega
  have hm0 := mCountedS_le (x0)
  have hc0 : cCountedS (x0) ≤ 1099511627776 := by omega
  refine ⟨_, toCountedS_spec x0 hc0, .inl rfl, .inl ?_⟩
  rw [wCountedS_ro]
  conv => whnf
  refine ⟨_, specTotalCount_spec x0 h0 q0, .inl rfl, .inl ?_⟩
  conv => whnf
  refine ⟨_, toCountedS_spec x0 hc0, .inl rfl, .inl ?_⟩
  rw [wCountedS_ro]
  conv => whnf
  refine ⟨_, implTotalCount_spec x0 h0 q0, .inl rfl, .inl ?_⟩
  conv => whnf
  rw [bne_self_eq_false]
  conv => whnf
  refine ⟨_, toCountedS_spec x0 hc0, .inl rfl, .inl ?_⟩
  rw [wCountedS_ro]
  conv => whnf
  refine ⟨_, eqCountedS_spec (x0) hc0, .inl rfl, .inl ?_⟩
  conv => whnf
  rfl
end Go.Proofs.YtnailmlgfpdnoaaD
