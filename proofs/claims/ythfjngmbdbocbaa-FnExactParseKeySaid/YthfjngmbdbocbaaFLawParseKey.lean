/- The law FnExactParseKey; printed by wip/lawgen.py. -/
import Derived.Test.YthfjngmbdbocbaaFParseKey
set_option linter.unusedVariables false
set_option linter.unusedSimpArgs false
set_option maxRecDepth 100000
namespace Go.Proofs.YthfjngmbdbocbaaD
open Go Go.Proofs

set_option maxHeartbeats 4000000 in
theorem law_ParseKey (x0 : (List Int)) (x1 : ByteArray) (q0 : qSchema x0) (q1 : x1.size ≤ maxLen) : Spec Try.prog 3 [vSchema (x0), str (x1)] (cb true) := by
  refine Spec_of mx Γ_ok Try.func3 rfl ?_
  conv => whnf
  conv => whnf
  generalize hg1 : decide ((x1.size : Int) > 1048576) = bg1
  cases bg1 with
  | true =>
    conv => whnf
    rfl
  | false =>
  have q1 : x1.size ≤ 1048576 := by simp only [decide_eq_false_iff_not] at hg1; omega
  conv => whnf
  refine ⟨_, szSchema_spec x0 (1048576) q0 (by omega) (by omega), .inl rfl, .inl ?_⟩
  conv => whnf
  generalize hb0 : decide (sz1 (cSchema (x0)) (1048576) < 0) = b0
  rcases sz1_dec hb0 with ⟨rfl, hn0⟩ | ⟨rfl, hs0, hl0⟩
  · conv => whnf
    rfl
  rw [hs0]
  conv => whnf
  have h0 : cSchema (x0) ≤ 1048576 := by omega
  have hm0 := mSchema_le (x0)
  have hc0 : cSchema (x0) ≤ 1099511627776 := by omega
  have hsm := small_ParseKey x0 x1 h0
  have hr0 := hsm
  have hrm0 := mKey_le ((pParseKey x0 x1).1)
  have hrc0 : cKey ((pParseKey x0 x1).1) ≤ 1099511627776 := by omega
  refine ⟨_, toSchema_spec x0 hc0, .inl rfl, .inl ?_⟩
  rw [wSchema_ro]
  conv => whnf
  refine ⟨_, specParseKey_spec x0 x1 h0 q1 q0, .inl rfl, .inl ?_⟩
  simp only [roV, roVs, wKey_ro, ci_ro]
  conv => whnf
  refine ⟨_, toSchema_spec x0 hc0, .inl rfl, .inr ?_⟩
  conv => whnf
  refine .inl ?_
  conv => whnf
  refine ⟨_, _, takeN_all (rows_len ciL_len _), roVs_ci _, ?_⟩
  conv => whnf
  refine ⟨_, implParseKey_spec x0 x1 h0 q1 q0, .inr ⟨(closed_wKey _), (trivial), trivial⟩, .inr ?_⟩
  conv => whnf
  refine .inl ?_
  conv => whnf
  refine ⟨_, _, takeN_all (rows_len ciL_len _), roVs_ci _, ?_⟩
  conv => whnf
  refine ⟨_, eqKey_spec ((pParseKey x0 x1).1) hrc0, .inr trivial, .inl ?_⟩
  conv => whnf
  rw [bne_self_eq_false]
  conv => whnf
  refine ⟨[0,1,2,3,4], by kernel_rfl, ?_⟩
  conv => whnf
  refine ⟨_, toSchema_spec x0 hc0, .inl rfl, .inl ?_⟩
  rw [wSchema_ro]
  conv => whnf
  refine ⟨_, _, takeN_all (rows_len ciL_len _), roVs_ci _, ?_⟩
  conv => whnf
  refine ⟨_, eqSchema_spec (x0) hc0, .inr trivial, .inl ?_⟩
  conv => whnf
  refine .inr (.inl ?_)
  conv => whnf
  refine ⟨by rw [rows_len ciL_len], ?_⟩
  conv => whnf
  refine ⟨_, _, _, markSchema_spec (x0) (1) (by omega) hc0 (by omega), ?_⟩
  conv => whnf
  refine .inl ?_
  conv => whnf
  rw [decide_eq_false (by omega)]
  conv => whnf
  refine .inl ?_
  conv => whnf
  refine ⟨_, _, takeN_all (rows_len ciL_len _), roVs_ci _, ?_⟩
  conv => whnf
  refine ⟨_, eqKey_spec ((pParseKey x0 x1).1) hrc0, .inr trivial, .inl ?_⟩
  conv => whnf
  rw [bne_self_eq_false]
  conv => whnf
  refine .inr (.inl ?_)
  conv => whnf
  refine ⟨by rw [rows_len ciL_len], ?_⟩
  conv => whnf
  refine ⟨_, _, _, markKey_spec ((pParseKey x0 x1).1) (1) (by omega) hrc0 (by omega), ?_⟩
  conv => whnf
  refine .inl ?_
  conv => whnf
  refine .inl ?_
  conv => whnf
  refine ⟨_, _, takeN_all (by rw [rows_len ciL_len]; exact congrArg (· * 1) (mkI_len _ _)), roVs_ci _, ?_⟩
  conv => whnf
  refine ⟨_, heldKey_own ((pParseKey x0 x1).1) (1) (by omega) hrc0 (by omega), .inr trivial, .inl ?_⟩
  conv => whnf
  rw [decide_eq_false (by omega)]
  conv => whnf
  rw [bne_self_eq_false]
  conv => whnf
  refine ⟨_, toSchema_spec x0 hc0, .inl rfl, .inl ?_⟩
  rw [wSchema_ro]
  conv => whnf
  refine ⟨_, implParseKey_spec x0 x1 h0 q1 q0, .inl rfl, .inl ?_⟩
  simp only [roV, roVs, wKey_ro, ci_ro]
  conv => whnf
  refine ⟨_, eqKey_spec ((pParseKey x0 x1).1) hrc0, .inl rfl, .inl ?_⟩
  conv => whnf
  rw [bne_self_eq_false]
  conv => whnf
  refine .inl ?_
  conv => whnf
  refine ⟨_, _, takeN_all (by rw [rows_len ciL_len]; exact congrArg (· * 1) (mkI_len _ _)), roVs_ci _, ?_⟩
  conv => whnf
  refine ⟨_, heldKey_own ((pParseKey x0 x1).1) (1) (by omega) hrc0 (by omega), .inr trivial, .inl ?_⟩
  conv => whnf
  rw [decide_eq_false (by omega)]
  conv => whnf
  rw [bne_self_eq_false]
  conv => whnf
  rfl
end Go.Proofs.YthfjngmbdbocbaaD
