/- The law FnExactNormalForm; printed by wip/lawgen.py. -/
import Derived.Test.YtphphphnnnaagaaFNorm4
set_option linter.unusedVariables false
set_option linter.unusedSimpArgs false
set_option maxRecDepth 100000
namespace Go.Proofs.YtphphphnnnaagaaD
open Go Go.Proofs

set_option maxHeartbeats 4000000 in
theorem law_NormalForm (x0 : (List Int)) (x1 : ((List Int) × (List (Int × (List Int))))) (q0 : qSchema x0) (q1 : qQuery x1) : Spec Try.prog 8 [vSchema (x0), vQuery (x1)] (cb true) := by
  refine Spec_of mx Γ_ok Try.func8 rfl ?_
  conv => whnf
  refine ⟨_, szSchema_spec x0 (1048576) q0 (by omega) (by omega), .inl rfl, .inl ?_⟩
  conv => whnf
  generalize hb0 : decide (sz1 (cSchema (x0)) (1048576) < 0) = b0
  rcases sz1_dec hb0 with ⟨rfl, hn0⟩ | ⟨rfl, hs0, hl0⟩
  · conv => whnf
    rfl
  rw [hs0]
  conv => whnf
  refine ⟨_, szQuery_spec x1 (1048576 - (cSchema (x0) : Nat)) q1 (by omega) (by omega), .inl rfl, .inl ?_⟩
  conv => whnf
  generalize hb1 : decide (sz1 (cQuery (x1)) (1048576 - (cSchema (x0) : Nat)) < 0) = b1
  rcases sz1_dec hb1 with ⟨rfl, hn1⟩ | ⟨rfl, hs1, hl1⟩
  · conv => whnf
    rfl
  rw [hs1]
  conv => whnf
  have h0 : cSchema (x0) ≤ 1048576 := by omega
  have hm0 := mSchema_le (x0)
  have hc0 : cSchema (x0) ≤ 1099511627776 := by omega
  have h1 : cQuery (x1) ≤ 1048576 := by omega
  have hm1 := mQuery_le (x1)
  have hc1 : cQuery (x1) ≤ 1099511627776 := by omega
  have hsm := small_NormalForm x0 x1 h0 h1
  have hr0 := hsm
  have hrm0 := mQuery_le ((pNormalForm x0 x1).1)
  have hrc0 : cQuery ((pNormalForm x0 x1).1) ≤ 1099511627776 := by omega
  refine ⟨[0,2,1,3,4,5,6,7,1000,8,1000,9,10], by kernel_rfl, ?_⟩
  conv => whnf
  refine ⟨_, toSchema_spec x0 hc0, .inl rfl, .inl ?_⟩
  rw [wSchema_ro]
  conv => whnf
  refine ⟨_, toQuery_spec x1 hc1, .inl rfl, .inl ?_⟩
  rw [wQuery_ro]
  conv => whnf
  refine ⟨_, specNormalForm_law x0 x1 h0 h1 q0 q1, .inl rfl, .inl ?_⟩
  simp only [roV, roVs, wQuery_ro, ci_ro]
  conv => whnf
  refine ⟨_, toSchema_spec x0 hc0, .inl rfl, .inr ?_⟩
  conv => whnf
  refine ⟨_, toQuery_spec x1 hc1, .inl rfl, .inr ?_⟩
  conv => whnf
  refine .inl ?_
  conv => whnf
  refine ⟨_, _, takeN_all (rows_len ciL_len _), roVs_ci _, ?_⟩
  conv => whnf
  refine ⟨_, _, takeN_all (rows_len ciL_len _), roVs_ci _, ?_⟩
  conv => whnf
  refine ⟨_, _, takeN_all (rows_len tAtom_len _), roVs_rows tAtom_ro _, ?_⟩
  conv => whnf
  refine ⟨_, implNormalForm_law x0 x1 h0 h1 q0 q1, .inr ⟨(closed_wQuery _), (trivial), trivial⟩, .inr ?_⟩
  conv => whnf
  refine .inl ?_
  conv => whnf
  refine ⟨_, _, takeN_all (rows_len ciL_len _), roVs_ci _, ?_⟩
  conv => whnf
  refine ⟨_, _, takeN_all (rows_len tAtom_len _), roVs_rows tAtom_ro _, ?_⟩
  conv => whnf
  refine ⟨_, eqQuery_spec ((pNormalForm x0 x1).1) hrc0, .inr trivial, .inl ?_⟩
  conv => whnf
  rw [bne_self_eq_false]
  conv => whnf
  refine ⟨[0,1,2,3,4], by kernel_rfl, ?_⟩
  conv => whnf
  refine ⟨_, toSchema_spec x0 hc0, .inl rfl, .inl ?_⟩
  rw [wSchema_ro]
  conv => whnf
  refine ⟨_, _, takeN_all (rows_len ciL_len _), roVs_ci _, ?_⟩
  conv => whnf
  refine ⟨_, eqSchema_spec (x0) hc0, .inr trivial, .inl ?_⟩
  conv => whnf
  refine ⟨[0,1,2,3,4], by kernel_rfl, ?_⟩
  conv => whnf
  refine ⟨_, toQuery_spec x1 hc1, .inl rfl, .inl ?_⟩
  rw [wQuery_ro]
  conv => whnf
  refine ⟨_, _, takeN_all (rows_len ciL_len _), roVs_ci _, ?_⟩
  conv => whnf
  refine ⟨_, _, takeN_all (rows_len tAtom_len _), roVs_rows tAtom_ro _, ?_⟩
  conv => whnf
  refine ⟨_, eqQuery_spec (x1) hc1, .inr trivial, .inl ?_⟩
  conv => whnf
  refine .inr (.inl ?_)
  conv => whnf
  refine ⟨by rw [rows_len ciL_len], ?_⟩
  conv => whnf
  refine ⟨_, _, _, markSchema_spec (x0) (1) (by omega) hc0 (by omega), ?_⟩
  conv => whnf
  refine .inl ?_
  conv => whnf
  refine .inr (.inl ?_)
  conv => whnf
  refine ⟨by rw [rows_len ciL_len], ?_⟩
  conv => whnf
  refine ⟨by rw [rows_len tAtom_len], ?_⟩
  conv => whnf
  refine ⟨_, _, _, markQuery_spec (x1) (1 + (mSchema (x0) : Nat)) (by omega) hc1 (by omega), ?_⟩
  conv => whnf
  refine .inl ?_
  conv => whnf
  rw [decide_eq_false (by omega)]
  conv => whnf
  refine .inl ?_
  conv => whnf
  refine ⟨_, _, takeN_all (rows_len ciL_len _), roVs_ci _, ?_⟩
  conv => whnf
  refine ⟨_, _, takeN_all (rows_len tAtom_len _), roVs_rows tAtom_ro _, ?_⟩
  conv => whnf
  refine ⟨_, eqQuery_spec ((pNormalForm x0 x1).1) hrc0, .inr trivial, .inl ?_⟩
  conv => whnf
  rw [bne_self_eq_false]
  conv => whnf
  refine .inr (.inl ?_)
  conv => whnf
  refine ⟨by rw [rows_len ciL_len], ?_⟩
  conv => whnf
  refine ⟨by rw [rows_len tAtom_len], ?_⟩
  conv => whnf
  refine ⟨_, _, _, markQuery_spec ((pNormalForm x0 x1).1) (1) (by omega) hrc0 (by omega), ?_⟩
  conv => whnf
  refine .inl ?_
  conv => whnf
  refine .inl ?_
  conv => whnf
  refine ⟨_, _, takeN_all (by rw [rows_len ciL_len]; exact congrArg (· * 1) (mkI_len _ _)), roVs_ci _, ?_⟩
  conv => whnf
  refine ⟨_, _, takeN_all (by rw [rows_len tAtom_len]; exact congrArg (· * 2) (mkL_len _ _ _ _)), roVs_rows tAtom_ro _, ?_⟩
  conv => whnf
  refine ⟨_, heldQuery_own ((pNormalForm x0 x1).1) (1) (by omega) hrc0 (by omega), .inr trivial, .inl ?_⟩
  conv => whnf
  rw [decide_eq_false (by omega)]
  conv => whnf
  rw [bne_self_eq_false]
  conv => whnf
  refine ⟨[0,2,1,3,4,5,6,7,1000,8,1000,9,10], by kernel_rfl, ?_⟩
  conv => whnf
  refine ⟨_, toSchema_spec x0 hc0, .inl rfl, .inl ?_⟩
  rw [wSchema_ro]
  conv => whnf
  refine ⟨_, toQuery_spec x1 hc1, .inl rfl, .inl ?_⟩
  rw [wQuery_ro]
  conv => whnf
  refine ⟨_, implNormalForm_law x0 x1 h0 h1 q0 q1, .inl rfl, .inl ?_⟩
  simp only [roV, roVs, wQuery_ro, ci_ro]
  conv => whnf
  refine ⟨_, eqQuery_spec ((pNormalForm x0 x1).1) hrc0, .inl rfl, .inl ?_⟩
  conv => whnf
  rw [bne_self_eq_false]
  conv => whnf
  refine .inl ?_
  conv => whnf
  refine ⟨_, _, takeN_all (by rw [rows_len ciL_len]; exact congrArg (· * 1) (mkI_len _ _)), roVs_ci _, ?_⟩
  conv => whnf
  refine ⟨_, _, takeN_all (by rw [rows_len tAtom_len]; exact congrArg (· * 2) (mkL_len _ _ _ _)), roVs_rows tAtom_ro _, ?_⟩
  conv => whnf
  refine ⟨_, heldQuery_own ((pNormalForm x0 x1).1) (1) (by omega) hrc0 (by omega), .inr trivial, .inl ?_⟩
  conv => whnf
  rw [decide_eq_false (by omega)]
  conv => whnf
  rw [bne_self_eq_false]
  conv => whnf
  rfl
end Go.Proofs.YtphphphnnnaagaaD
