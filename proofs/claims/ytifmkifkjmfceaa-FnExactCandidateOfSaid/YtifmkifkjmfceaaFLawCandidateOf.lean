/- The law FnExactCandidateOf; printed by wip/lawgen.py. -/
import Derived.Test.YtifmkifkjmfceaaFCandidateOf
set_option linter.unusedVariables false
set_option linter.unusedSimpArgs false
set_option maxRecDepth 100000
namespace Go.Proofs.YtifmkifkjmfceaaD
open Go Go.Proofs

set_option maxHeartbeats 4000000 in
theorem law_CandidateOf (x0 : ((List Int) × (List (Int × (List Int))))) (x1 : (List (Int × (List Int)))) (x2 : (List Int)) (q0 : qQuery x0) (q1 : qAtomS x1) (q2 : (x2.length ≤ maxLen ∧ ∀ y ∈ x2, (Lit.int .i64 y).wf = true)) : Spec Try.prog 9 [vQuery (x0), vAtomS (x1), ints (x2)] (cb true) := by
  refine Spec_of mx Γ_ok Try.func9 rfl ?_
  conv => whnf
  by_cases hz2 : (x2.length : Int) > 1048576
  · rw [decide_eq_true hz2]
    conv => whnf
    rfl
  rw [decide_eq_false hz2]
  conv => whnf
  refine ⟨_, szQuery_spec x0 (1048576) q0 (by omega) (by omega), .inl rfl, .inl ?_⟩
  conv => whnf
  generalize hb0 : decide (sz1 (cQuery (x0)) (1048576) < 0) = b0
  rcases sz1_dec hb0 with ⟨rfl, hn0⟩ | ⟨rfl, hs0, hl0⟩
  · conv => whnf
    rfl
  rw [hs0]
  conv => whnf
  refine ⟨_, szAtomS_spec x1 (1048576 - (cQuery (x0) : Nat)) q1 (by omega) (by omega), .inl rfl, .inl ?_⟩
  conv => whnf
  generalize hb1 : decide (sz1 (cAtomS (x1)) (1048576 - (cQuery (x0) : Nat)) < 0) = b1
  rcases sz1_dec hb1 with ⟨rfl, hn1⟩ | ⟨rfl, hs1, hl1⟩
  · conv => whnf
    rfl
  rw [hs1]
  conv => whnf
  have h0 : cQuery (x0) ≤ 1048576 := by omega
  have hm0 := mQuery_le (x0)
  have hc0 : cQuery (x0) ≤ 1099511627776 := by omega
  have h1 : cAtomS (x1) ≤ 1048576 := by omega
  have hm1 := mAtomS_le (x1)
  have hc1 : cAtomS (x1) ≤ 1099511627776 := by omega
  have h2 : (x2).length ≤ 1048576 := by omega
  have hc2 : (x2).length ≤ 1099511627776 := by omega
  obtain ⟨hr0, hrm0⟩ := smallj_CandidateOf x0 x1 x2 (by repeat (first | omega | constructor))
  have hrc0 : cQuery ((pCandidateOf x0 x1 x2)) ≤ 1099511627776 := by omega
  refine ⟨_, toQuery_spec x0 hc0, .inl rfl, .inl ?_⟩
  rw [wQuery_ro]
  conv => whnf
  refine ⟨_, toAtomS_spec x1 hc1, .inl rfl, .inl ?_⟩
  rw [wAtomS_ro]
  conv => whnf
  refine ⟨_, toIntS_spec x2 hc2, .inl rfl, .inl ?_⟩
  rw [intsT_ro]
  conv => whnf
  refine ⟨_, specCandidateOf_spec x0 x1 x2 h0 h1 h2 q0 q1 q2, .inl rfl, .inl ?_⟩
  rw [wQuery_ro]
  conv => whnf
  refine ⟨_, toQuery_spec x0 hc0, .inl rfl, .inr ?_⟩
  conv => whnf
  refine ⟨_, toAtomS_spec x1 hc1, .inl rfl, .inr ?_⟩
  conv => whnf
  refine ⟨_, toIntS_spec x2 hc2, .inl rfl, .inr ?_⟩
  conv => whnf
  refine .inl ?_
  conv => whnf
  refine ⟨_, _, takeN_all (rows_len ciL_len _), roVs_ci _, ?_⟩
  conv => whnf
  refine ⟨_, _, takeN_all (rows_len tAtom_len _), roVs_rows tAtom_ro _, ?_⟩
  conv => whnf
  refine ⟨_, _, takeN_all (rows_len tAtom_len _), roVs_rows tAtom_ro _, ?_⟩
  conv => whnf
  refine ⟨_, _, takeN_all (rows_len ciL_len _), roVs_ci _, ?_⟩
  conv => whnf
  refine ⟨_, implCandidateOf_spec x0 x1 x2 h0 h1 h2 q0 q1 q2, .inr (closed_wQuery _), .inr ?_⟩
  conv => whnf
  refine .inl ?_
  conv => whnf
  refine ⟨_, _, takeN_all (rows_len ciL_len _), roVs_ci _, ?_⟩
  conv => whnf
  refine ⟨_, _, takeN_all (rows_len tAtom_len _), roVs_rows tAtom_ro _, ?_⟩
  conv => whnf
  refine ⟨_, eqQuery_spec ((pCandidateOf x0 x1 x2)) hrc0, .inr trivial, .inl ?_⟩
  conv => whnf
  refine ⟨[0,1,2,3,4], by kernel_rfl, ?_⟩
  conv => whnf
  refine ⟨_, toQuery_spec x0 hc0, .inl rfl, .inl ?_⟩
  rw [wQuery_ro]
  conv => whnf
  refine ⟨_, _, takeN_all (rows_len ciL_len _), roVs_ci _, ?_⟩
  conv => whnf
  refine ⟨_, _, takeN_all (rows_len tAtom_len _), roVs_rows tAtom_ro _, ?_⟩
  conv => whnf
  refine ⟨_, eqQuery_spec (x0) hc0, .inr trivial, .inl ?_⟩
  conv => whnf
  refine ⟨_, toAtomS_spec x1 hc1, .inl rfl, .inl ?_⟩
  rw [wAtomS_ro]
  conv => whnf
  refine .inl ?_
  conv => whnf
  refine ⟨_, _, takeN_all (rows_len tAtom_len _), roVs_rows tAtom_ro _, ?_⟩
  conv => whnf
  refine ⟨_, eqAtomS_spec (x1) hc1, .inr trivial, .inl ?_⟩
  conv => whnf
  refine ⟨_, toIntS_spec x2 hc2, .inl rfl, .inl ?_⟩
  rw [intsT_ro]
  conv => whnf
  refine .inl ?_
  conv => whnf
  refine ⟨_, _, takeN_all (rows_len ciL_len _), roVs_ci _, ?_⟩
  conv => whnf
  refine ⟨_, eqIntS_refl (x2) hc2, .inr trivial, .inl ?_⟩
  conv => whnf
  refine .inr ?_
  conv => whnf
  refine ⟨by rw [rows_len ciL_len], ?_⟩
  conv => whnf
  refine ⟨by rw [rows_len tAtom_len], ?_⟩
  conv => whnf
  refine ⟨_, _, _, markQuery_spec (x0) (1) (by omega) hc0 (by omega), ?_⟩
  conv => whnf
  refine .inl ?_
  conv => whnf
  refine .inr ?_
  conv => whnf
  refine ⟨by rw [rows_len tAtom_len], ?_⟩
  conv => whnf
  refine ⟨_, _, _, markAtomS_spec (x1) (1 + (mQuery (x0) : Nat)) (by omega) hc1 (by omega), ?_⟩
  conv => whnf
  refine .inl ?_
  conv => whnf
  refine .inr ?_
  conv => whnf
  refine ⟨by rw [rows_len ciL_len], ?_⟩
  conv => whnf
  refine ⟨_, _, _, markIntS_spec (x2) (1 + (mQuery (x0) : Nat) + (mAtomS (x1) : Nat)) hc2 (by omega) (by omega), ?_⟩
  conv => whnf
  refine .inl ?_
  conv => whnf
  rw [decide_eq_false (by omega)]
  conv => whnf
  refine .inl ?_
  conv => whnf
  refine ⟨_, _, takeN_all (rows_len ciL_len _), roVs_ci _, ?_⟩
  conv => whnf
  refine ⟨_, _, takeN_all (rows_len tAtom_len _), roVs_rows tAtom_ro _, ?_⟩
  conv => whnf
  refine ⟨_, eqQuery_spec ((pCandidateOf x0 x1 x2)) hrc0, .inr trivial, .inl ?_⟩
  conv => whnf
  refine .inr ?_
  conv => whnf
  refine ⟨by rw [rows_len ciL_len], ?_⟩
  conv => whnf
  refine ⟨by rw [rows_len tAtom_len], ?_⟩
  conv => whnf
  refine ⟨_, _, _, markQuery_spec ((pCandidateOf x0 x1 x2)) (1) (by omega) hrc0 (by omega), ?_⟩
  conv => whnf
  refine .inl ?_
  conv => whnf
  refine .inl ?_
  conv => whnf
  refine ⟨_, _, takeN_all (by rw [rows_len ciL_len]; exact congrArg (· * 1) (mkI_len _ _)), roVs_ci _, ?_⟩
  conv => whnf
  refine ⟨_, _, takeN_all (by rw [rows_len tAtom_len]; exact congrArg (· * 2) (mkL_len _ _ _ _)), roVs_rows tAtom_ro _, ?_⟩
  conv => whnf
  refine ⟨_, heldQuery_own ((pCandidateOf x0 x1 x2)) (1) (by omega) hrc0 (by omega), .inr trivial, .inl ?_⟩
  conv => whnf
  rw [decide_eq_false (by omega)]
  conv => whnf
  rw [bne_self_eq_false]
  conv => whnf
  refine ⟨_, toQuery_spec x0 hc0, .inl rfl, .inl ?_⟩
  rw [wQuery_ro]
  conv => whnf
  refine ⟨_, toAtomS_spec x1 hc1, .inl rfl, .inl ?_⟩
  rw [wAtomS_ro]
  conv => whnf
  refine ⟨_, toIntS_spec x2 hc2, .inl rfl, .inl ?_⟩
  rw [intsT_ro]
  conv => whnf
  refine ⟨_, implCandidateOf_spec x0 x1 x2 h0 h1 h2 q0 q1 q2, .inl rfl, .inl ?_⟩
  rw [wQuery_ro]
  conv => whnf
  refine ⟨_, eqQuery_spec ((pCandidateOf x0 x1 x2)) hrc0, .inl rfl, .inl ?_⟩
  conv => whnf
  refine .inl ?_
  conv => whnf
  refine ⟨_, _, takeN_all (by rw [rows_len ciL_len]; exact congrArg (· * 1) (mkI_len _ _)), roVs_ci _, ?_⟩
  conv => whnf
  refine ⟨_, _, takeN_all (by rw [rows_len tAtom_len]; exact congrArg (· * 2) (mkL_len _ _ _ _)), roVs_rows tAtom_ro _, ?_⟩
  conv => whnf
  refine ⟨_, heldQuery_own ((pCandidateOf x0 x1 x2)) (1) (by omega) hrc0 (by omega), .inr trivial, .inl ?_⟩
  conv => whnf
  rw [decide_eq_false (by omega)]
  conv => whnf
  rw [bne_self_eq_false]
  conv => whnf
  rfl
end Go.Proofs.YtifmkifkjmfceaaD
