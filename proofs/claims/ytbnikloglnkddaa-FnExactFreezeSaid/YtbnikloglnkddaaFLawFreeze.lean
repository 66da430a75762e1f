/- The law FnExactFreeze; printed by wip/lawgen.py. -/
import Derived.Test.YtbnikloglnkddaaFFreeze
set_option linter.unusedVariables false
set_option linter.unusedSimpArgs false
set_option maxRecDepth 100000
namespace Go.Proofs.YtbnikloglnkddaaD
open Go Go.Proofs

set_option maxHeartbeats 4000000 in
theorem law_Freeze (x0 : ((List Int) × (List (Int × (List Int))))) (q0 : qQuery x0) : Spec Try.prog 8 [vQuery (x0)] (cb true) := by
  refine Spec_of mx Γ_ok Try.func8 rfl ?_
  conv => whnf
  refine ⟨_, szQuery_spec x0 (1048576) q0 (by omega) (by omega), .inl rfl, .inl ?_⟩
  conv => whnf
  generalize hb0 : decide (sz1 (cQuery (x0)) (1048576) < 0) = b0
  rcases sz1_dec hb0 with ⟨rfl, hn0⟩ | ⟨rfl, hs0, hl0⟩
  · conv => whnf
    rfl
  rw [hs0]
  conv => whnf
  have h0 : cQuery (x0) ≤ 1048576 := by omega
  have hm0 := mQuery_le (x0)
  have hc0 : cQuery (x0) ≤ 1099511627776 := by omega
  have hsm := small_Freeze x0 h0
  obtain ⟨hr0, hr1⟩ := hsm
  have hrm0 := mFactS_le ((pFreeze x0).1)
  have hrc0 : cFactS ((pFreeze x0).1) ≤ 1099511627776 := by omega
  have hrc1 : ((pFreeze x0).2).length ≤ 1099511627776 := by omega
  refine ⟨_, toQuery_spec x0 hc0, .inl rfl, .inl ?_⟩
  rw [wQuery_ro]
  conv => whnf
  refine ⟨_, specFreeze_law x0 h0 q0, .inl rfl, .inl ?_⟩
  simp only [roV, roVs, wFactS_ro, intsT_ro]
  conv => whnf
  refine ⟨_, toQuery_spec x0 hc0, .inl rfl, .inr ?_⟩
  conv => whnf
  refine .inl ?_
  conv => whnf
  refine ⟨_, _, takeN_all (rows_len ciL_len _), roVs_ci _, ?_⟩
  conv => whnf
  refine ⟨_, _, takeN_all (rows_len tAtom_len _), roVs_rows tAtom_ro _, ?_⟩
  conv => whnf
  refine ⟨_, implFreeze_law x0 h0 q0, .inr ⟨(closed_wFactS _), (closeds_rows (f := ciL) (fun _ => ⟨trivial, trivial⟩) _), trivial⟩, .inr ?_⟩
  conv => whnf
  refine .inl ?_
  conv => whnf
  refine ⟨_, _, takeN_all (rows_len tFact_len _), roVs_rows tFact_ro _, ?_⟩
  conv => whnf
  refine ⟨_, eqFactS_spec ((pFreeze x0).1) hrc0, .inr trivial, .inl ?_⟩
  conv => whnf
  refine .inl ?_
  conv => whnf
  refine ⟨_, _, takeN_all (rows_len ciL_len _), roVs_ci _, ?_⟩
  conv => whnf
  refine ⟨_, eqIntS_refl ((pFreeze x0).2) hrc1, .inr trivial, .inl ?_⟩
  conv => whnf
  refine ⟨[0,1,2,3,4], by kernel_rfl, ?_⟩
  conv => whnf
  refine ⟨_, toQuery_spec x0 hc0, .inl rfl, .inl ?_⟩
  rw [wQuery_ro]
  conv => whnf
  refine ⟨_, _, takeN_all (rows_len ciL_len _), roVs_ci _, ?_⟩
  conv => whnf
  refine ⟨_, _, takeN_all (rows_len tAtom_len _), roVs_rows tAtom_ro _, ?_⟩
  conv => whnf
  refine ⟨_, eqQuery_spec (x0) hc0, .inr trivial, .inl ?_⟩
  conv => whnf
  refine .inr (.inl ?_)
  conv => whnf
  refine ⟨by rw [rows_len ciL_len], ?_⟩
  conv => whnf
  refine ⟨by rw [rows_len tAtom_len], ?_⟩
  conv => whnf
  refine ⟨_, _, _, markQuery_spec (x0) (1) (by omega) hc0 (by omega), ?_⟩
  conv => whnf
  refine .inl ?_
  conv => whnf
  rw [decide_eq_false (by omega)]
  conv => whnf
  refine .inl ?_
  conv => whnf
  refine ⟨_, _, takeN_all (rows_len tFact_len _), roVs_rows tFact_ro _, ?_⟩
  conv => whnf
  refine ⟨_, eqFactS_spec ((pFreeze x0).1) hrc0, .inr trivial, .inl ?_⟩
  conv => whnf
  refine .inl ?_
  conv => whnf
  refine ⟨_, _, takeN_all (rows_len ciL_len _), roVs_ci _, ?_⟩
  conv => whnf
  refine ⟨_, eqIntS_refl ((pFreeze x0).2) hrc1, .inr trivial, .inl ?_⟩
  conv => whnf
  refine .inr (.inl ?_)
  conv => whnf
  refine ⟨by rw [rows_len tFact_len], ?_⟩
  conv => whnf
  refine ⟨_, _, _, markFactS_spec ((pFreeze x0).1) (1) (by omega) hrc0 (by omega), ?_⟩
  conv => whnf
  refine .inl ?_
  conv => whnf
  refine .inr (.inl ?_)
  conv => whnf
  refine ⟨by rw [rows_len ciL_len], ?_⟩
  conv => whnf
  refine ⟨_, _, _, markIntS_spec ((pFreeze x0).2) (1 + (mFactS ((pFreeze x0).1) : Nat)) hrc1 (by omega) (by omega), ?_⟩
  conv => whnf
  refine .inl ?_
  conv => whnf
  refine .inl ?_
  conv => whnf
  refine ⟨_, _, takeN_all (by rw [rows_len tFact_len]; exact congrArg (· * 2) (mkL_len _ _ _ _)), roVs_rows tFact_ro _, ?_⟩
  conv => whnf
  refine ⟨_, heldFactS_own ((pFreeze x0).1) (1) (by omega) hrc0 (by omega), .inr trivial, .inl ?_⟩
  conv => whnf
  rw [decide_eq_false (by omega)]
  conv => whnf
  refine .inl ?_
  conv => whnf
  refine ⟨_, _, takeN_all (by rw [rows_len ciL_len]; exact congrArg (· * 1) (mkI_len _ _)), roVs_ci _, ?_⟩
  conv => whnf
  refine ⟨_, heldIntS_own ((pFreeze x0).2) (1 + (mFactS ((pFreeze x0).1) : Nat)) hrc1 (by omega) (by omega), .inr trivial, .inl ?_⟩
  conv => whnf
  rw [decide_eq_false (by omega)]
  conv => whnf
  rw [bne_self_eq_false]
  conv => whnf
  refine ⟨_, toQuery_spec x0 hc0, .inl rfl, .inl ?_⟩
  rw [wQuery_ro]
  conv => whnf
  refine ⟨_, implFreeze_law x0 h0 q0, .inl rfl, .inl ?_⟩
  simp only [roV, roVs, wFactS_ro, intsT_ro]
  conv => whnf
  refine ⟨_, eqFactS_spec ((pFreeze x0).1) hrc0, .inl rfl, .inl ?_⟩
  conv => whnf
  refine ⟨_, eqIntS_refl ((pFreeze x0).2) hrc1, .inl rfl, .inl ?_⟩
  conv => whnf
  refine .inl ?_
  conv => whnf
  refine ⟨_, _, takeN_all (by rw [rows_len tFact_len]; exact congrArg (· * 2) (mkL_len _ _ _ _)), roVs_rows tFact_ro _, ?_⟩
  conv => whnf
  refine ⟨_, heldFactS_own ((pFreeze x0).1) (1) (by omega) hrc0 (by omega), .inr trivial, .inl ?_⟩
  conv => whnf
  rw [decide_eq_false (by omega)]
  conv => whnf
  refine .inl ?_
  conv => whnf
  refine ⟨_, _, takeN_all (by rw [rows_len ciL_len]; exact congrArg (· * 1) (mkI_len _ _)), roVs_ci _, ?_⟩
  conv => whnf
  refine ⟨_, heldIntS_own ((pFreeze x0).2) (1 + (mFactS ((pFreeze x0).1) : Nat)) hrc1 (by omega) (by omega), .inr trivial, .inl ?_⟩
  conv => whnf
  rw [decide_eq_false (by omega)]
  conv => whnf
  rw [bne_self_eq_false]
  conv => whnf
  rfl
end Go.Proofs.YtbnikloglnkddaaD
