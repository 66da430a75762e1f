/- ReplaceTerm: both programs. -/
import Derived.Test.YthfjngmbdbocbaaFReplaceTerm2
set_option linter.unusedVariables false
set_option linter.unusedSimpArgs false
set_option maxRecDepth 100000
namespace Go.Proofs.YthfjngmbdbocbaaD
open Go Go.Proofs

theorem implReplaceTerm_spec (x0 : QueryC) (x1 x2 : Int) (h0 : cQuery x0 ≤ 1048576) : Spec Try.prog 27 [vQuery x0, ci x1, ci x2] (wQuery (pReplaceTerm x0 x1 x2)) := by
  refine Spec_of mx Γ_ok Try.func27 rfl ?_
  conv => whnf
  refine .inl ?_
  conv => whnf
  refine ⟨_, rfl, ?_⟩
  conv => whnf
  refine ⟨_, rfl, ?_⟩
  conv => whnf
  refine ⟨_, changed_spec x0 x1 x2 h0, .inr (closed_wQuery _), .inr ?_⟩
  conv => whnf
  refine ⟨by rw [rows_len ciL_len], by rw [rows_len tAtom_len], rfl⟩
end Go.Proofs.YthfjngmbdbocbaaD
