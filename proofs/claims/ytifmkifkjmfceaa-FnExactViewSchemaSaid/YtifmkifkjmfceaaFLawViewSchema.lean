/- The law FnExactViewSchema; printed by wip/lawgen.py. -/
import Derived.Test.YtifmkifkjmfceaaFViewSchema
set_option linter.unusedVariables false
set_option linter.unusedSimpArgs false
set_option maxRecDepth 100000
namespace Go.Proofs.YtifmkifkjmfceaaD
open Go Go.Proofs

theorem law_ViewSchema (x0 : (List ((List Int) × (List (Int × (List Int)))))) (q0 : qQueryS x0) : Spec Try.prog 10 [vQueryS (x0)] (cb true) := by
  refine Spec_of mx Γ_ok Try.func10 rfl ?_
  conv => whnf
  refine ⟨_, szQueryS_spec x0 (1048576) q0 (by omega) (by omega), .inl rfl, .inl ?_⟩
  conv => whnf
  generalize hb0 : decide (sz1 (cQueryS (x0)) (1048576) < 0) = b0
  rcases sz1_dec hb0 with ⟨rfl, hn0⟩ | ⟨rfl, hs0, hl0⟩
  · conv => whnf
    rfl
  rw [hs0]
  conv => whnf
  have h0 : cQueryS (x0) ≤ 1048576 := by omega
  have hm0 := mQueryS_le (x0)
  have hc0 : cQueryS (x0) ≤ 1099511627776 := by omega
  have hsm := small_ViewSchema x0 h0
  have hr0 := hsm
  have hrm0 := mSchema_le ((pViewSchema x0))
  have hrc0 : cSchema ((pViewSchema x0)) ≤ 1099511627776 := by omega
  refine ⟨_, toQueryS_spec x0 hc0, .inl rfl, .inl ?_⟩
  rw [wQueryS_ro]
  conv => whnf
  refine ⟨_, specViewSchema_spec x0 h0 q0, .inl rfl, .inl ?_⟩
  rw [wSchema_ro]
  conv => whnf
  refine ⟨_, toQueryS_spec x0 hc0, .inl rfl, .inr ?_⟩
  conv => whnf
  refine .inl ?_
  conv => whnf
  refine ⟨_, _, takeN_all (rows_len tQuery_len _), roVs_rows tQuery_ro _, ?_⟩
  conv => whnf
  refine ⟨_, implViewSchema_spec x0 h0 q0, .inr (closed_wSchema _), .inr ?_⟩
  conv => whnf
  refine .inl ?_
  conv => whnf
  refine ⟨_, _, takeN_all (rows_len ciL_len _), roVs_ci _, ?_⟩
  conv => whnf
  refine ⟨_, eqSchema_spec ((pViewSchema x0)) hrc0, .inr trivial, .inl ?_⟩
  conv => whnf
  refine ⟨_, toQueryS_spec x0 hc0, .inl rfl, .inl ?_⟩
  rw [wQueryS_ro]
  conv => whnf
  refine .inl ?_
  conv => whnf
  refine ⟨_, _, takeN_all (rows_len tQuery_len _), roVs_rows tQuery_ro _, ?_⟩
  conv => whnf
  refine ⟨_, eqQueryS_spec (x0) hc0, .inr trivial, .inl ?_⟩
  conv => whnf
  refine .inr ?_
  conv => whnf
  refine ⟨by rw [rows_len tQuery_len], ?_⟩
  conv => whnf
  refine ⟨_, _, _, markQueryS_spec (x0) (1) (by omega) hc0 (by omega), ?_⟩
  conv => whnf
  refine .inl ?_
  conv => whnf
  rw [decide_eq_false (by omega)]
  conv => whnf
  refine .inl ?_
  conv => whnf
  refine ⟨_, _, takeN_all (rows_len ciL_len _), roVs_ci _, ?_⟩
  conv => whnf
  refine ⟨_, eqSchema_spec ((pViewSchema x0)) hrc0, .inr trivial, .inl ?_⟩
  conv => whnf
  refine .inr ?_
  conv => whnf
  refine ⟨by rw [rows_len ciL_len], ?_⟩
  conv => whnf
  refine ⟨_, _, _, markSchema_spec ((pViewSchema x0)) (1) (by omega) hrc0 (by omega), ?_⟩
  conv => whnf
  refine .inl ?_
  conv => whnf
  refine .inl ?_
  conv => whnf
  refine ⟨_, _, takeN_all (by rw [rows_len ciL_len]; exact congrArg (· * 1) (mkI_len _ _)), roVs_ci _, ?_⟩
  conv => whnf
  refine ⟨_, heldSchema_own ((pViewSchema x0)) (1) (by omega) hrc0 (by omega), .inr trivial, .inl ?_⟩
  conv => whnf
  rw [decide_eq_false (by omega)]
  conv => whnf
  rw [bne_self_eq_false]
  conv => whnf
  refine ⟨_, toQueryS_spec x0 hc0, .inl rfl, .inl ?_⟩
  rw [wQueryS_ro]
  conv => whnf
  refine ⟨_, implViewSchema_spec x0 h0 q0, .inl rfl, .inl ?_⟩
  rw [wSchema_ro]
  conv => whnf
  refine ⟨_, eqSchema_spec ((pViewSchema x0)) hrc0, .inl rfl, .inl ?_⟩
  conv => whnf
  refine .inl ?_
  conv => whnf
  refine ⟨_, _, takeN_all (by rw [rows_len ciL_len]; exact congrArg (· * 1) (mkI_len _ _)), roVs_ci _, ?_⟩
  conv => whnf
  refine ⟨_, heldSchema_own ((pViewSchema x0)) (1) (by omega) hrc0 (by omega), .inr trivial, .inl ?_⟩
  conv => whnf
  rw [decide_eq_false (by omega)]
  conv => whnf
  rw [bne_self_eq_false]
  conv => whnf
  rfl
end Go.Proofs.YtifmkifkjmfceaaD
