/- The law FnExactHoldsKey; printed by wip/lawgen.py. -/
import Derived.Test.YtifmkifkjmfceaaFHoldsKey
set_option linter.unusedVariables false
set_option linter.unusedSimpArgs false
set_option maxRecDepth 100000
namespace Go.Proofs.YtifmkifkjmfceaaD
open Go Go.Proofs

theorem law_HoldsKey (x0 : (List (Int × (List Int)))) (x1 : (Int × (List Int))) (q0 : qFactS x0) (q1 : qKey x1) : Spec Try.prog 8 [vFactS (x0), vKey (x1)] (cb true) := by
  refine Spec_of mx Γ_ok Try.func8 rfl ?_
  conv => whnf
  refine ⟨_, szFactS_spec x0 (1048576) q0 (by omega) (by omega), .inl rfl, .inl ?_⟩
  conv => whnf
  generalize hb0 : decide (sz1 (cFactS (x0)) (1048576) < 0) = b0
  rcases sz1_dec hb0 with ⟨rfl, hn0⟩ | ⟨rfl, hs0, hl0⟩
  · conv => whnf
    rfl
  rw [hs0]
  conv => whnf
  refine ⟨_, szKey_spec x1 (1048576 - (cFactS (x0) : Nat)) q1 (by omega) (by omega), .inl rfl, .inl ?_⟩
  conv => whnf
  generalize hb1 : decide (sz1 (cKey (x1)) (1048576 - (cFactS (x0) : Nat)) < 0) = b1
  rcases sz1_dec hb1 with ⟨rfl, hn1⟩ | ⟨rfl, hs1, hl1⟩
  · conv => whnf
    rfl
  rw [hs1]
  conv => whnf
  have h0 : cFactS (x0) ≤ 1048576 := by omega
  have hm0 := mFactS_le (x0)
  have hc0 : cFactS (x0) ≤ 1099511627776 := by omega
  have h1 : cKey (x1) ≤ 1048576 := by omega
  have hm1 := mKey_le (x1)
  have hc1 : cKey (x1) ≤ 1099511627776 := by omega
  refine ⟨[0,2,1,3,4,5], by kernel_rfl, ?_⟩
  conv => whnf
  refine ⟨_, toFactS_spec x0 hc0, .inl rfl, .inl ?_⟩
  rw [wFactS_ro]
  conv => whnf
  refine ⟨_, toKey_spec x1 hc1, .inl rfl, .inl ?_⟩
  rw [wKey_ro]
  conv => whnf
  refine ⟨_, specHoldsKey_spec x0 x1 h0 h1 q0 q1, .inl rfl, .inl ?_⟩
  conv => whnf
  refine ⟨_, toFactS_spec x0 hc0, .inl rfl, .inl ?_⟩
  rw [wFactS_ro]
  conv => whnf
  refine ⟨_, toKey_spec x1 hc1, .inl rfl, .inl ?_⟩
  rw [wKey_ro]
  conv => whnf
  refine ⟨_, implHoldsKey_spec x0 x1 h0 h1 q0 q1, .inl rfl, .inl ?_⟩
  conv => whnf
  rw [bne_self_eq_false]
  conv => whnf
  refine ⟨_, toFactS_spec x0 hc0, .inl rfl, .inl ?_⟩
  rw [wFactS_ro]
  conv => whnf
  refine ⟨_, eqFactS_spec (x0) hc0, .inl rfl, .inl ?_⟩
  conv => whnf
  refine ⟨[0,1,2,3,4], by kernel_rfl, ?_⟩
  conv => whnf
  refine ⟨_, toKey_spec x1 hc1, .inl rfl, .inl ?_⟩
  rw [wKey_ro]
  conv => whnf
  refine ⟨_, eqKey_spec (x1) hc1, .inl rfl, .inl ?_⟩
  conv => whnf
  rfl
end Go.Proofs.YtifmkifkjmfceaaD
