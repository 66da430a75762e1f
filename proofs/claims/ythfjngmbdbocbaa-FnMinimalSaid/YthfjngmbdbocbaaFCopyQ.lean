/- The copy of a query. -/
import Derived.Test.YthfjngmbdbocbaaFCopy
set_option linter.unusedVariables false
set_option linter.unusedSimpArgs false
set_option maxRecDepth 100000
namespace Go.Proofs.YthfjngmbdbocbaaD
open Go Go.Proofs

theorem copyQuery_spec (q : List Int × List AtomC) (h : cQuery q ≤ 1099511627776) : Spec Try.prog 123 [vQuery q] (wQuery q) := by
  unfold cQuery at h
  refine Spec_of mx Γ_ok Try.func123 rfl ?_
  conv => whnf
  refine ⟨[0,1,3,4,2,5,6,7], by kernel_rfl, ?_⟩
  conv => whnf
  refine ⟨_, copyInts_spec q.1 (by omega), .inl rfl, .inr ?_⟩
  conv => whnf
  refine ⟨_, copyAtoms_spec q.2 (by omega), .inl rfl, .inr ?_⟩
  conv => whnf
  refine ⟨by rw [rows_len ciL_len], by rw [rows_len tAtom_len], rfl⟩
end Go.Proofs.YthfjngmbdbocbaaD
