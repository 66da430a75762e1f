/- The law FnExactContainedWith; printed by wip/lawgen.py. -/
import Derived.Test.YthfjngmbdbocbaaGreatFBoth6
set_option linter.unusedVariables false
set_option linter.unusedSimpArgs false
set_option maxRecDepth 100000
namespace Go.Proofs.YthfjngmbdbocbaaGreatD
open Go Go.Proofs

set_option maxHeartbeats 4000000 in
theorem law_ContainedWith (x0 : (List Int)) (x1 : ((List Int) × (List (Int × (List Int))))) (x2 : ((List Int) × (List (Int × (List Int))))) (x3 : (List (Int × (List Int)))) (x4 : (List (Int × (List Int) × Int × (List Int)))) (q0 : qSchema x0) (q1 : qQuery x1) (q2 : qQuery x2) (q3 : qKeyS x3) (q4 : qInclusionS x4) : Spec Tryz.prog 4 [vSchema (x0), vQuery (x1), vQuery (x2), vKeyS (x3), vInclusionS (x4)] (cb true) := by
  refine Spec_of mx Γ_ok Tryz.func4 rfl ?_
  conv => whnf
  refine ⟨_, szSchema_spec x0 (1048576) q0 (by omega) (by omega), .inl rfl, .inl ?_⟩
  conv => whnf
  generalize hb0 : decide (sz1 (cSchema (x0)) (1048576) < 0) = b0
  rcases sz1_dec hb0 with ⟨rfl, hn0⟩ | ⟨rfl, hs0, hl0⟩
  · conv => whnf
    rfl
  rw [hs0]
  conv => whnf
  refine ⟨_, szQuery_spec x1 (1048576 - (cSchema (x0) : Nat)) q1 (by omega) (by omega), .inl rfl, .inl ?_⟩
  conv => whnf
  generalize hb1 : decide (sz1 (cQuery (x1)) (1048576 - (cSchema (x0) : Nat)) < 0) = b1
  rcases sz1_dec hb1 with ⟨rfl, hn1⟩ | ⟨rfl, hs1, hl1⟩
  · conv => whnf
    rfl
  rw [hs1]
  conv => whnf
  refine ⟨_, szQuery_spec x2 (1048576 - (cSchema (x0) : Nat) - (cQuery (x1) : Nat)) q2 (by omega) (by omega), .inl rfl, .inl ?_⟩
  conv => whnf
  generalize hb2 : decide (sz1 (cQuery (x2)) (1048576 - (cSchema (x0) : Nat) - (cQuery (x1) : Nat)) < 0) = b2
  rcases sz1_dec hb2 with ⟨rfl, hn2⟩ | ⟨rfl, hs2, hl2⟩
  · conv => whnf
    rfl
  rw [hs2]
  conv => whnf
  refine ⟨_, szKeyS_spec x3 (1048576 - (cSchema (x0) : Nat) - (cQuery (x1) : Nat) - (cQuery (x2) : Nat)) q3 (by omega) (by omega), .inl rfl, .inl ?_⟩
  conv => whnf
  generalize hb3 : decide (sz1 (cKeyS (x3)) (1048576 - (cSchema (x0) : Nat) - (cQuery (x1) : Nat) - (cQuery (x2) : Nat)) < 0) = b3
  rcases sz1_dec hb3 with ⟨rfl, hn3⟩ | ⟨rfl, hs3, hl3⟩
  · conv => whnf
    rfl
  rw [hs3]
  conv => whnf
  refine ⟨_, szInclusionS_spec x4 (1048576 - (cSchema (x0) : Nat) - (cQuery (x1) : Nat) - (cQuery (x2) : Nat) - (cKeyS (x3) : Nat)) q4 (by omega) (by omega), .inl rfl, .inl ?_⟩
  conv => whnf
  generalize hb4 : decide (sz1 (cInclusionS (x4)) (1048576 - (cSchema (x0) : Nat) - (cQuery (x1) : Nat) - (cQuery (x2) : Nat) - (cKeyS (x3) : Nat)) < 0) = b4
  rcases sz1_dec hb4 with ⟨rfl, hn4⟩ | ⟨rfl, hs4, hl4⟩
  · conv => whnf
    rfl
  rw [hs4]
  conv => whnf
  have h0 : cSchema (x0) ≤ 1048576 := by omega
  have hm0 := mSchema_le (x0)
  have hc0 : cSchema (x0) ≤ 1099511627776 := by omega
  have h1 : cQuery (x1) ≤ 1048576 := by omega
  have hm1 := mQuery_le (x1)
  have hc1 : cQuery (x1) ≤ 1099511627776 := by omega
  have h2 : cQuery (x2) ≤ 1048576 := by omega
  have hm2 := mQuery_le (x2)
  have hc2 : cQuery (x2) ≤ 1099511627776 := by omega
  have h3 : cKeyS (x3) ≤ 1048576 := by omega
  have hm3 := mKeyS_le (x3)
  have hc3 : cKeyS (x3) ≤ 1099511627776 := by omega
  have h4 : cInclusionS (x4) ≤ 1048576 := by omega
  have hm4 := mInclusionS_le (x4)
  have hc4 : cInclusionS (x4) ≤ 1099511627776 := by omega
  refine ⟨[0,2,4,6,8,1,3,5,7,9,10,11], by kernel_rfl, ?_⟩
  conv => whnf
  refine ⟨_, toSchema_spec x0 hc0, .inl rfl, .inl ?_⟩
  rw [wSchema_ro]
  conv => whnf
  refine ⟨_, toQuery_spec x1 hc1, .inl rfl, .inl ?_⟩
  rw [wQuery_ro]
  conv => whnf
  refine ⟨_, toQuery_spec x2 hc2, .inl rfl, .inl ?_⟩
  rw [wQuery_ro]
  conv => whnf
  refine ⟨_, toKeyS_spec x3 hc3, .inl rfl, .inl ?_⟩
  rw [wKeyS_ro]
  conv => whnf
  refine ⟨_, toInclusionS_spec x4 hc4, .inl rfl, .inl ?_⟩
  rw [wInclusionS_ro]
  conv => whnf
  refine ⟨_, specContainedWith_law x0 x1 x2 x3 x4 h0 h1 h2 h3 h4 q0 q1 q2 q3 q4, .inl rfl, .inl ?_⟩
  conv => whnf
  refine ⟨_, toSchema_spec x0 hc0, .inl rfl, .inl ?_⟩
  rw [wSchema_ro]
  conv => whnf
  refine ⟨_, toQuery_spec x1 hc1, .inl rfl, .inl ?_⟩
  rw [wQuery_ro]
  conv => whnf
  refine ⟨_, toQuery_spec x2 hc2, .inl rfl, .inl ?_⟩
  rw [wQuery_ro]
  conv => whnf
  refine ⟨_, toKeyS_spec x3 hc3, .inl rfl, .inl ?_⟩
  rw [wKeyS_ro]
  conv => whnf
  refine ⟨_, toInclusionS_spec x4 hc4, .inl rfl, .inl ?_⟩
  rw [wInclusionS_ro]
  conv => whnf
  refine ⟨_, implContainedWith_law x0 x1 x2 x3 x4 h0 h1 h2 h3 h4 q0 q1 q2 q3 q4, .inl rfl, .inl ?_⟩
  conv => whnf
  rw [bne_self_eq_false]
  conv => whnf
  refine ⟨[0,1,2,3,4], by kernel_rfl, ?_⟩
  conv => whnf
  refine ⟨_, toSchema_spec x0 hc0, .inl rfl, .inl ?_⟩
  rw [wSchema_ro]
  conv => whnf
  refine ⟨_, eqSchema_spec (x0) hc0, .inl rfl, .inl ?_⟩
  conv => whnf
  refine ⟨[0,1,2,3,4], by kernel_rfl, ?_⟩
  conv => whnf
  refine ⟨_, toQuery_spec x1 hc1, .inl rfl, .inl ?_⟩
  rw [wQuery_ro]
  conv => whnf
  refine ⟨_, eqQuery_spec (x1) hc1, .inl rfl, .inl ?_⟩
  conv => whnf
  refine ⟨[0,1,2,3,4], by kernel_rfl, ?_⟩
  conv => whnf
  refine ⟨_, toQuery_spec x2 hc2, .inl rfl, .inl ?_⟩
  rw [wQuery_ro]
  conv => whnf
  refine ⟨_, eqQuery_spec (x2) hc2, .inl rfl, .inl ?_⟩
  conv => whnf
  refine ⟨_, toKeyS_spec x3 hc3, .inl rfl, .inl ?_⟩
  rw [wKeyS_ro]
  conv => whnf
  refine ⟨_, eqKeyS_spec (x3) hc3, .inl rfl, .inl ?_⟩
  conv => whnf
  refine ⟨_, toInclusionS_spec x4 hc4, .inl rfl, .inl ?_⟩
  rw [wInclusionS_ro]
  conv => whnf
  refine ⟨_, eqInclusionS_spec (x4) hc4, .inl rfl, .inl ?_⟩
  conv => whnf
  rfl
end Go.Proofs.YthfjngmbdbocbaaGreatD
