/- Contracts and plain laws of this seat; no condition. -/
import Derived.Test.YtboolngaahifdaaGreatQ27
set_option linter.unusedVariables false
set_option linter.unusedSimpArgs false
set_option maxRecDepth 100000
namespace Go.Proofs.YtboolngaahifdaaGreatD
open Go Go.Proofs
set_option maxHeartbeats 4000000 in
theorem law_BagWitness (x0 : (List Int)) (x1 : ((List Int) × (List (Int × (List Int))))) (x2 : ((List Int) × (List (Int × (List Int))))) (q0 : qSchema x0) (q1 : qQuery x1) (q2 : qQuery x2) : Spec Tryz.prog 4 [vSchema (x0), vQuery (x1), vQuery (x2)] (cb true) := by
 refine Spec_of mx Γ_ok Tryz.func4 rfl ?_
 conv => whnf
 refine ⟨_, szSchema_spec x0 (1048576) q0 (by omega) (by omega), .inl rfl, .inl ?_⟩
 conv => whnf
 generalize hb0 : decide (sz1 (cSchema (x0)) (1048576) < 0) = b0
 rcases sz1_dec hb0 with ⟨rfl, hn0⟩ | ⟨rfl, hs0, hl0⟩
 ·conv => whnf
  rfl
 rw [hs0]
 conv => whnf
 refine ⟨_, szQuery_spec x1 (1048576 - (cSchema (x0) : Nat)) q1 (by omega) (by omega), .inl rfl, .inl ?_⟩
 conv => whnf
 generalize hb1 : decide (sz1 (cQuery (x1)) (1048576 - (cSchema (x0) : Nat)) < 0) = b1
 rcases sz1_dec hb1 with ⟨rfl, hn1⟩ | ⟨rfl, hs1, hl1⟩
 ·conv => whnf
  rfl
 rw [hs1]
 conv => whnf
 refine ⟨_, szQuery_spec x2 (1048576 - (cSchema (x0) : Nat) - (cQuery (x1) : Nat)) q2 (by omega) (by omega), .inl rfl, .inl ?_⟩
 conv => whnf
 generalize hb2 : decide (sz1 (cQuery (x2)) (1048576 - (cSchema (x0) : Nat) - (cQuery (x1) : Nat)) < 0) = b2
 rcases sz1_dec hb2 with ⟨rfl, hn2⟩ | ⟨rfl, hs2, hl2⟩
 ·conv => whnf
  rfl
 rw [hs2]
 conv => whnf
 have h0 : cSchema (x0) ≤ 1048576 := by omega
 have hm0 := mSchema_le (x0)
 have hc0 : cSchema (x0) ≤ 1099511627776 := by omega
 have h1 : cQuery (x1) ≤ 1048576 := by omega
 have hm1 := mQuery_le (x1)
 have hc1 : cQuery (x1) ≤ 1099511627776 := by omega
 have h2 : cQuery (x2) ≤ 1048576 := by omega
 have hm2 := mQuery_le (x2)
 have hc2 : cQuery (x2) ≤ 1099511627776 := by omega
 have hsm := small_BagWitness x0 x1 x2 h0 h1 h2
 have hr0 := hsm
 have hrm0 := mFactS_le ((pBagWitness x0 x1 x2).1)
 have hrc0 : cFactS ((pBagWitness x0 x1 x2).1) ≤ 1099511627776 := by omega
 refine ⟨[0,2,4,1,3,5,6,7,8,9,10,11], by kernel_rfl, ?_⟩
 conv => whnf
 refine ⟨_, toSchema_spec x0 hc0, .inl rfl, .inl ?_⟩
 rw [wSchema_ro]
 conv => whnf
 refine ⟨_, toQuery_spec x1 hc1, .inl rfl, .inl ?_⟩
 rw [wQuery_ro]
 conv => whnf
 refine ⟨_, toQuery_spec x2 hc2, .inl rfl, .inl ?_⟩
 rw [wQuery_ro]
 conv => whnf
 refine ⟨_, specBagWitness_law x0 x1 x2 h0 h1 h2 q0 q1 q2, .inl rfl, .inl ?_⟩
 simp only [roV, roVs, wFactS_ro, ci_ro]
 conv => whnf
 refine ⟨_, toSchema_spec x0 hc0, .inl rfl, .inr ?_⟩
 conv => whnf
 refine ⟨_, toQuery_spec x1 hc1, .inl rfl, .inr ?_⟩
 conv => whnf
 refine ⟨_, toQuery_spec x2 hc2, .inl rfl, .inr ?_⟩
 conv => whnf
 refine .inl ?_
 conv => whnf
 refine ⟨_, _, takeN_all (rows_len ciL_len _), roVs_ci _, ?_⟩
 conv => whnf
 refine ⟨_, _, takeN_all (rows_len ciL_len _), roVs_ci _, ?_⟩
 conv => whnf
 refine ⟨_, _, takeN_all (rows_len tAtom_len _), roVs_rows tAtom_ro _, ?_⟩
 conv => whnf
 refine ⟨_, _, takeN_all (rows_len ciL_len _), roVs_ci _, ?_⟩
 conv => whnf
 refine ⟨_, _, takeN_all (rows_len tAtom_len _), roVs_rows tAtom_ro _, ?_⟩
 conv => whnf
 refine ⟨_, implBagWitness_law x0 x1 x2 h0 h1 h2 q0 q1 q2, .inr ⟨(closed_wFactS _), (trivial), trivial⟩, .inr ?_⟩
 conv => whnf
 refine .inl ?_
 conv => whnf
 refine ⟨_, _, takeN_all (rows_len tFact_len _), roVs_rows tFact_ro _, ?_⟩
 conv => whnf
 refine ⟨_, eqFactS_spec ((pBagWitness x0 x1 x2).1) hrc0, .inr trivial, .inl ?_⟩
 conv => whnf
 rw [bne_self_eq_false]
 conv => whnf
 refine ⟨[0,1,2,3,4], by kernel_rfl, ?_⟩
 conv => whnf
 refine ⟨_, toSchema_spec x0 hc0, .inl rfl, .inl ?_⟩
 rw [wSchema_ro]
 conv => whnf
 refine ⟨_, _, takeN_all (rows_len ciL_len _), roVs_ci _, ?_⟩
 conv => whnf
 refine ⟨_, eqSchema_spec (x0) hc0, .inr trivial, .inl ?_⟩
 conv => whnf
 refine ⟨[0,1,2,3,4], by kernel_rfl, ?_⟩
 conv => whnf
 refine ⟨_, toQuery_spec x1 hc1, .inl rfl, .inl ?_⟩
 rw [wQuery_ro]
 conv => whnf
 refine ⟨_, _, takeN_all (rows_len ciL_len _), roVs_ci _, ?_⟩
 conv => whnf
 refine ⟨_, _, takeN_all (rows_len tAtom_len _), roVs_rows tAtom_ro _, ?_⟩
 conv => whnf
 refine ⟨_, eqQuery_spec (x1) hc1, .inr trivial, .inl ?_⟩
 conv => whnf
 refine ⟨[0,1,2,3,4], by kernel_rfl, ?_⟩
 conv => whnf
 refine ⟨_, toQuery_spec x2 hc2, .inl rfl, .inl ?_⟩
 rw [wQuery_ro]
 conv => whnf
 refine ⟨_, _, takeN_all (rows_len ciL_len _), roVs_ci _, ?_⟩
 conv => whnf
 refine ⟨_, _, takeN_all (rows_len tAtom_len _), roVs_rows tAtom_ro _, ?_⟩
 conv => whnf
 refine ⟨_, eqQuery_spec (x2) hc2, .inr trivial, .inl ?_⟩
 conv => whnf
 refine .inr (.inl ?_)
 conv => whnf
 refine ⟨by rw [rows_len ciL_len], ?_⟩
 conv => whnf
 refine ⟨_, _, _, markSchema_spec (x0) (1) (by omega) hc0 (by omega), ?_⟩
 conv => whnf
 refine .inl ?_
 conv => whnf
 refine .inr (.inl ?_)
 conv => whnf
 refine ⟨by rw [rows_len ciL_len], ?_⟩
 conv => whnf
 refine ⟨by rw [rows_len tAtom_len], ?_⟩
 conv => whnf
 refine ⟨_, _, _, markQuery_spec (x1) (1 + (mSchema (x0) : Nat)) (by omega) hc1 (by omega), ?_⟩
 conv => whnf
 refine .inl ?_
 conv => whnf
 refine .inr (.inl ?_)
 conv => whnf
 refine ⟨by rw [rows_len ciL_len], ?_⟩
 conv => whnf
 refine ⟨by rw [rows_len tAtom_len], ?_⟩
 conv => whnf
 refine ⟨_, _, _, markQuery_spec (x2) (1 + (mSchema (x0) : Nat) + (mQuery (x1) : Nat)) (by omega) hc2 (by omega), ?_⟩
 conv => whnf
 refine .inl ?_
 conv => whnf
 rw [decide_eq_false (by omega)]
 conv => whnf
 refine .inl ?_
 conv => whnf
 refine ⟨_, _, takeN_all (rows_len tFact_len _), roVs_rows tFact_ro _, ?_⟩
 conv => whnf
 refine ⟨_, eqFactS_spec ((pBagWitness x0 x1 x2).1) hrc0, .inr trivial, .inl ?_⟩
 conv => whnf
 rw [bne_self_eq_false]
 conv => whnf
 refine .inr (.inl ?_)
 conv => whnf
 refine ⟨by rw [rows_len tFact_len], ?_⟩
 conv => whnf
 refine ⟨_, _, _, markFactS_spec ((pBagWitness x0 x1 x2).1) (1) (by omega) hrc0 (by omega), ?_⟩
 conv => whnf
 refine .inl ?_
 conv => whnf
 refine .inl ?_
 conv => whnf
 refine ⟨_, _, takeN_all (by rw [rows_len tFact_len]; exact congrArg (· * 2) (mkL_len _ _ _ _)), roVs_rows tFact_ro _, ?_⟩
 conv => whnf
 refine ⟨_, heldFactS_own ((pBagWitness x0 x1 x2).1) (1) (by omega) hrc0 (by omega), .inr trivial, .inl ?_⟩
 conv => whnf
 rw [decide_eq_false (by omega)]
 conv => whnf
 rw [bne_self_eq_false]
 conv => whnf
 refine ⟨[0,2,4,1,3,5,6,7,8,9,10,11], by kernel_rfl, ?_⟩
 conv => whnf
 refine ⟨_, toSchema_spec x0 hc0, .inl rfl, .inl ?_⟩
 rw [wSchema_ro]
 conv => whnf
 refine ⟨_, toQuery_spec x1 hc1, .inl rfl, .inl ?_⟩
 rw [wQuery_ro]
 conv => whnf
 refine ⟨_, toQuery_spec x2 hc2, .inl rfl, .inl ?_⟩
 rw [wQuery_ro]
 conv => whnf
 refine ⟨_, implBagWitness_law x0 x1 x2 h0 h1 h2 q0 q1 q2, .inl rfl, .inl ?_⟩
 simp only [roV, roVs, wFactS_ro, ci_ro]
 conv => whnf
 refine ⟨_, eqFactS_spec ((pBagWitness x0 x1 x2).1) hrc0, .inl rfl, .inl ?_⟩
 conv => whnf
 rw [bne_self_eq_false]
 conv => whnf
 refine .inl ?_
 conv => whnf
 refine ⟨_, _, takeN_all (by rw [rows_len tFact_len]; exact congrArg (· * 2) (mkL_len _ _ _ _)), roVs_rows tFact_ro _, ?_⟩
 conv => whnf
 refine ⟨_, heldFactS_own ((pBagWitness x0 x1 x2).1) (1) (by omega) hrc0 (by omega), .inr trivial, .inl ?_⟩
 conv => whnf
 rw [decide_eq_false (by omega)]
 conv => whnf
 rw [bne_self_eq_false]
 conv => whnf
 rfl
end Go.Proofs.YtboolngaahifdaaGreatD
