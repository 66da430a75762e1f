/- HoldsKey, twice. -/
import Derived.Test.YtphphphnnnaagaaFFirstViolation2
set_option linter.unusedVariables false
set_option linter.unusedSimpArgs false
set_option maxRecDepth 100000
namespace Go.Proofs.YtphphphnnnaagaaD
open Go Go.Proofs

def pHoldsKey (x0 : List FactK) (x1 : FactK) : Bool := decide ((pFirstViolation x0 [x1]).2.1 < 0)
theorem out3_neg : ∀ o, decide ((out3 o).1 < 0) = decide ((out3 o).2.1 < 0)
  | none => rfl
  | some (a, b, c) => by
    show decide ((a : Int) < 0) = decide ((b : Int) < 0)
    rw [decide_eq_false (by omega), decide_eq_false (by omega)]
theorem one_key {x1 : FactK} (h : cKey x1 ≤ 1048576) (q : qKey x1) : cKeyS [x1] ≤ 1048577 ∧ qKeyS [x1] := by
  refine ⟨by unfold cKeyS; simp [sumB]; omega, by show 1 ≤ maxLen; decide, fun y hy => ?_⟩
  rw [List.mem_singleton] at hy
  rwa [hy]
theorem roVs_rKey1 (x1 : FactK) : roVs (rows rKey [x1]) = rows rKey [x1] := by simp [rows, rKey, roVs, roV, ci_ro, ints, roVs_ci]
theorem specHoldsKey_gen (x0 : List FactK) (x1 : FactK) (h0 : cFactS x0 ≤ 1048576) (h1 : cKey x1 ≤ 1048576) : Spec Try.prog 23 [vFactS x0, vKey x1] (cb (pHoldsKey x0 x1)) := by
  have h2 : cKeyS [x1] ≤ 1048577 := by unfold cKeyS; simp [sumB]; omega
  have hs := specFirstViolation_gen x0 [x1] h0 h2
  revert hs
  unfold pHoldsKey
  generalize pFirstViolation x0 [x1] = o
  intro hs
  refine Spec_of mx Γ_ok Try.func23 rfl ?_
  conv => whnf
  refine .inl ?_
  conv => whnf
  refine ⟨rows rKey [x1], rows rKey [x1], rfl, roVs_rKey1 x1, ?_⟩
  conv => whnf
  refine ⟨_, hs, .inr ⟨trivial, trivial, trivial, trivial⟩, .inl ?_⟩
  conv => whnf
  rfl
theorem implHoldsKey_gen (x0 : List FactK) (x1 : FactK) (h0 : cFactS x0 ≤ 1048576) (h1 : cKey x1 ≤ 1048576) : Spec Try.prog 21 [vFactS x0, vKey x1] (cb (pHoldsKey x0 x1)) := by
  have h2 : cKeyS [x1] ≤ 1048577 := by unfold cKeyS; simp [sumB]; omega
  have hp : pHoldsKey x0 x1 = decide ((pFirstViolation x0 [x1]).1 < 0) := (out3_neg _).symm
  rw [hp]
  clear hp
  have hs := implFirstViolation_gen x0 [x1] h0 h2
  revert hs
  generalize pFirstViolation x0 [x1] = o
  intro hs
  refine Spec_of mx Γ_ok Try.func21 rfl ?_
  conv => whnf
  refine .inl ?_
  conv => whnf
  refine ⟨rows rKey [x1], rows rKey [x1], rfl, roVs_rKey1 x1, ?_⟩
  conv => whnf
  refine ⟨_, hs, .inr ⟨trivial, trivial, trivial, trivial⟩, .inl ?_⟩
  conv => whnf
  rfl
theorem specHoldsKey_spec (x0 : List FactK) (x1 : FactK) (h0 : cFactS x0 ≤ 1048576) (h1 : cKey x1 ≤ 1048576) (q0 : qFactS x0) (q1 : qKey x1) : Spec Try.prog 23 [vFactS x0, vKey x1] (cb (pHoldsKey x0 x1)) := specHoldsKey_gen x0 x1 h0 h1
theorem implHoldsKey_spec (x0 : List FactK) (x1 : FactK) (h0 : cFactS x0 ≤ 1048576) (h1 : cKey x1 ≤ 1048576) (q0 : qFactS x0) (q1 : qKey x1) : Spec Try.prog 21 [vFactS x0, vKey x1] (cb (pHoldsKey x0 x1)) := implHoldsKey_gen x0 x1 h0 h1
end Go.Proofs.YtphphphnnnaagaaD
