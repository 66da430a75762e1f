/- The law FnExactSameCounts; printed by wip/lawgen.py. -/
import Derived.Test.YtnailmlgfpdnoaaFSameCounts
set_option linter.unusedVariables false
set_option linter.unusedSimpArgs false
set_option maxRecDepth 100000
namespace Go.Proofs.YtnailmlgfpdnoaaD
open Go Go.Proofs

theorem law_SameCounts (x0 : (List ((List Int) × Int))) (x1 : (List ((List Int) × Int))) (q0 : qCountedS x0) (q1 : qCountedS x1) : Spec Try.prog 6 [vCountedS (x0), vCountedS (x1)] (cb true) := by
  refine Spec_of mx Γ_ok Try.func6 rfl ?_
  conv => whnf
  refine ⟨_, szCountedS_spec x0 (1048576) q0 (by omega) (by omega), .inl rfl, .inl ?_⟩
  conv => whnf
  generalize hb0 : decide (sz1 (cCountedS (x0)) (1048576) < 0) = b0
  rcases sz1_dec hb0 with ⟨rfl, hn0⟩ | ⟨rfl, hs0, hl0⟩
  · conv => whnf
    rfl
  rw [hs0]
  conv => whnf
  refine ⟨_, szCountedS_spec x1 (1048576 - (cCountedS (x0) : Nat)) q1 (by omega) (by omega), .inl rfl, .inl ?_⟩
  conv => whnf
  generalize hb1 : decide (sz1 (cCountedS (x1)) (1048576 - (cCountedS (x0) : Nat)) < 0) = b1
  rcases sz1_dec hb1 with ⟨rfl, hn1⟩ | ⟨rfl, hs1, hl1⟩
  · conv => whnf
    rfl
  rw [hs1]
  conv => whnf
  have h0 : cCountedS (x0) ≤ 1048576 := by omega
  have hm0 := mCountedS_le (x0)
  have hc0 : cCountedS (x0) ≤ 1099511627776 := by omega
  have h1 : cCountedS (x1) ≤ 1048576 := by omega
  have hm1 := mCountedS_le (x1)
  have hc1 : cCountedS (x1) ≤ 1099511627776 := by omega
  refine ⟨_, toCountedS_spec x0 hc0, .inl rfl, .inl ?_⟩
  rw [wCountedS_ro]
  conv => whnf
  refine ⟨_, toCountedS_spec x1 hc1, .inl rfl, .inl ?_⟩
  rw [wCountedS_ro]
  conv => whnf
  refine ⟨_, specSameCounts_spec x0 x1 h0 h1 q0 q1, .inl rfl, .inl ?_⟩
  conv => whnf
  refine ⟨_, toCountedS_spec x0 hc0, .inl rfl, .inl ?_⟩
  rw [wCountedS_ro]
  conv => whnf
  refine ⟨_, toCountedS_spec x1 hc1, .inl rfl, .inl ?_⟩
  rw [wCountedS_ro]
  conv => whnf
  refine ⟨_, implSameCounts_spec x0 x1 h0 h1 q0 q1, .inl rfl, .inl ?_⟩
  conv => whnf
  rw [bne_self_eq_false]
  conv => whnf
  refine ⟨_, toCountedS_spec x0 hc0, .inl rfl, .inl ?_⟩
  rw [wCountedS_ro]
  conv => whnf
  refine ⟨_, eqCountedS_spec (x0) hc0, .inl rfl, .inl ?_⟩
  conv => whnf
  refine ⟨_, toCountedS_spec x1 hc1, .inl rfl, .inl ?_⟩
  rw [wCountedS_ro]
  conv => whnf
  refine ⟨_, eqCountedS_spec (x1) hc1, .inl rfl, .inl ?_⟩
  conv => whnf
  rfl
end Go.Proofs.YtnailmlgfpdnoaaD
