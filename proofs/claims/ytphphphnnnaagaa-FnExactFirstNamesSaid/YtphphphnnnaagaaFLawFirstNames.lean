/- The law FnExactFirstNames; printed by wip/lawgen.py. -/
import Derived.Test.YtphphphnnnaagaaFNames2
set_option linter.unusedVariables false
set_option linter.unusedSimpArgs false
set_option maxRecDepth 100000
namespace Go.Proofs.YtphphphnnnaagaaD
open Go Go.Proofs

set_option maxHeartbeats 4000000 in
theorem law_FirstNames (x0 : ((List Int) × (List (Int × (List Int))))) (q0 : qQuery x0) : Spec Try.prog 5 [vQuery (x0)] (cb true) := by
  refine Spec_of mx Γ_ok Try.func5 rfl ?_
  conv => whnf
  refine ⟨_, szQuery_spec x0 (1048576) q0 (by omega) (by omega), .inl rfl, .inl ?_⟩
  conv => whnf
  generalize hb0 : decide (sz1 (cQuery (x0)) (1048576) < 0) = b0
  rcases sz1_dec hb0 with ⟨rfl, hn0⟩ | ⟨rfl, hs0, hl0⟩
  · conv => whnf
    rfl
  rw [hs0]
  conv => whnf
  have h0 : cQuery (x0) ≤ 1048576 := by omega
  have hm0 := mQuery_le (x0)
  have hc0 : cQuery (x0) ≤ 1099511627776 := by omega
  have hsm := small_FirstNames x0 h0
  have hr0 := hsm
  have hrm0 := mQuery_le ((pFirstNames x0))
  have hrc0 : cQuery ((pFirstNames x0)) ≤ 1099511627776 := by omega
  refine ⟨_, toQuery_spec x0 hc0, .inl rfl, .inl ?_⟩
  rw [wQuery_ro]
  conv => whnf
  refine ⟨_, specFirstNames_law x0 h0 q0, .inl rfl, .inl ?_⟩
  rw [wQuery_ro]
  conv => whnf
  refine ⟨_, toQuery_spec x0 hc0, .inl rfl, .inr ?_⟩
  conv => whnf
  refine .inl ?_
  conv => whnf
  refine ⟨_, _, takeN_all (rows_len ciL_len _), roVs_ci _, ?_⟩
  conv => whnf
  refine ⟨_, _, takeN_all (rows_len tAtom_len _), roVs_rows tAtom_ro _, ?_⟩
  conv => whnf
  refine ⟨_, implFirstNames_law x0 h0 q0, .inr (closed_wQuery _), .inr ?_⟩
  conv => whnf
  refine .inl ?_
  conv => whnf
  refine ⟨_, _, takeN_all (rows_len ciL_len _), roVs_ci _, ?_⟩
  conv => whnf
  refine ⟨_, _, takeN_all (rows_len tAtom_len _), roVs_rows tAtom_ro _, ?_⟩
  conv => whnf
  refine ⟨_, eqQuery_spec ((pFirstNames x0)) hrc0, .inr trivial, .inl ?_⟩
  conv => whnf
  refine ⟨[0,1,2,3,4], by kernel_rfl, ?_⟩
  conv => whnf
  refine ⟨_, toQuery_spec x0 hc0, .inl rfl, .inl ?_⟩
  rw [wQuery_ro]
  conv => whnf
  refine ⟨_, _, takeN_all (rows_len ciL_len _), roVs_ci _, ?_⟩
  conv => whnf
  refine ⟨_, _, takeN_all (rows_len tAtom_len _), roVs_rows tAtom_ro _, ?_⟩
  conv => whnf
  refine ⟨_, eqQuery_spec (x0) hc0, .inr trivial, .inl ?_⟩
  conv => whnf
  refine .inr (.inl ?_)
  conv => whnf
  refine ⟨by rw [rows_len ciL_len], ?_⟩
  conv => whnf
  refine ⟨by rw [rows_len tAtom_len], ?_⟩
  conv => whnf
  refine ⟨_, _, _, markQuery_spec (x0) (1) (by omega) hc0 (by omega), ?_⟩
  conv => whnf
  refine .inl ?_
  conv => whnf
  rw [decide_eq_false (by omega)]
  conv => whnf
  refine .inl ?_
  conv => whnf
  refine ⟨_, _, takeN_all (rows_len ciL_len _), roVs_ci _, ?_⟩
  conv => whnf
  refine ⟨_, _, takeN_all (rows_len tAtom_len _), roVs_rows tAtom_ro _, ?_⟩
  conv => whnf
  refine ⟨_, eqQuery_spec ((pFirstNames x0)) hrc0, .inr trivial, .inl ?_⟩
  conv => whnf
  refine .inr (.inl ?_)
  conv => whnf
  refine ⟨by rw [rows_len ciL_len], ?_⟩
  conv => whnf
  refine ⟨by rw [rows_len tAtom_len], ?_⟩
  conv => whnf
  refine ⟨_, _, _, markQuery_spec ((pFirstNames x0)) (1) (by omega) hrc0 (by omega), ?_⟩
  conv => whnf
  refine .inl ?_
  conv => whnf
  refine .inl ?_
  conv => whnf
  refine ⟨_, _, takeN_all (by rw [rows_len ciL_len]; exact congrArg (· * 1) (mkI_len _ _)), roVs_ci _, ?_⟩
  conv => whnf
  refine ⟨_, _, takeN_all (by rw [rows_len tAtom_len]; exact congrArg (· * 2) (mkL_len _ _ _ _)), roVs_rows tAtom_ro _, ?_⟩
  conv => whnf
  refine ⟨_, heldQuery_own ((pFirstNames x0)) (1) (by omega) hrc0 (by omega), .inr trivial, .inl ?_⟩
  conv => whnf
  rw [decide_eq_false (by omega)]
  conv => whnf
  rw [bne_self_eq_false]
  conv => whnf
  refine ⟨_, toQuery_spec x0 hc0, .inl rfl, .inl ?_⟩
  rw [wQuery_ro]
  conv => whnf
  refine ⟨_, implFirstNames_law x0 h0 q0, .inl rfl, .inl ?_⟩
  rw [wQuery_ro]
  conv => whnf
  refine ⟨_, eqQuery_spec ((pFirstNames x0)) hrc0, .inl rfl, .inl ?_⟩
  conv => whnf
  refine .inl ?_
  conv => whnf
  refine ⟨_, _, takeN_all (by rw [rows_len ciL_len]; exact congrArg (· * 1) (mkI_len _ _)), roVs_ci _, ?_⟩
  conv => whnf
  refine ⟨_, _, takeN_all (by rw [rows_len tAtom_len]; exact congrArg (· * 2) (mkL_len _ _ _ _)), roVs_rows tAtom_ro _, ?_⟩
  conv => whnf
  refine ⟨_, heldQuery_own ((pFirstNames x0)) (1) (by omega) hrc0 (by omega), .inr trivial, .inl ?_⟩
  conv => whnf
  rw [decide_eq_false (by omega)]
  conv => whnf
  rw [bne_self_eq_false]
  conv => whnf
  rfl
end Go.Proofs.YtphphphnnnaagaaD
