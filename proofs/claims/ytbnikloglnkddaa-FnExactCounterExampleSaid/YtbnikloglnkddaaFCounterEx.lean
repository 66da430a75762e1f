/- Counterexamples to containment. -/
import Derived.Test.YtbnikloglnkddaaFFreeze
import Derived.Test.YtbnikloglnkddaaFMap5
set_option linter.unusedVariables false
set_option linter.unusedSimpArgs false
set_option maxRecDepth 100000
namespace Go.Proofs.YtbnikloglnkddaaD
open Go Go.Proofs

def cexOk (s : List Int) (a b : QueryT) : Bool := isQuery s a && isQuery s b && decide (a.1.length = b.1.length) && !contP s a b
def pCounterExample (s : List Int) (a b : QueryT) : List FactC × List Int × Bool := if cexOk s a b then ((pFreeze a).1, (pFreeze a).2, true) else ([], [], false)
theorem specCounterExample_spec (s : List Int) (a b : QueryT) (hs : cSchema s ≤ 1048576) (ha : cQuery a ≤ 1048576) (hb : cQuery b ≤ 1048576) : Spec Try.prog 44 [vSchema s, vQuery a, vQuery b] (.tup [wFactS (pCounterExample s a b).1, intsT (pCounterExample s a b).2.1, cb (pCounterExample s a b).2.2]) := by
  refine Spec_of mx Γ_ok Try.func44 rfl ?_
  conv => whnf
  refine ⟨_, specIsQuery_spec s a hs ha, .inl rfl, .inl ?_⟩
  conv => whnf
  unfold pCounterExample cexOk
  generalize isQuery s a = b1
  cases b1 with
  | false =>
    conv => whnf
    exact ⟨rfl, rfl, rfl⟩
  | true =>
    conv => whnf
    refine ⟨_, specIsQuery_spec s b hs hb, .inl rfl, .inl ?_⟩
    conv => whnf
    generalize isQuery s b = b2
    cases b2 with
    | false =>
      conv => whnf
      exact ⟨rfl, rfl, rfl⟩
    | true =>
      conv => whnf
      have he : ((a.1.length : Int) != (b.1.length : Int)) = !decide (a.1.length = b.1.length) := by
        rw [Bool.eq_iff_iff]; simp; omega
      rw [he]
      generalize decide (a.1.length = b.1.length) = b3
      cases b3 with
      | false =>
        conv => whnf
        exact ⟨rfl, rfl, rfl⟩
      | true =>
        conv => whnf
        refine ⟨_, specIsContained_spec s a b hs ha hb, .inl rfl, .inl ?_⟩
        conv => whnf
        generalize contP s a b = b4
        cases b4 with
        | true =>
          conv => whnf
          exact ⟨rfl, rfl, rfl⟩
        | false =>
          conv => whnf
          refine ⟨_, specFreeze_spec a ha, .inl rfl, .inr ?_⟩
          conv => whnf
          refine ⟨by rw [rows_len tFact_len], by rw [rows_len ciL_len], rfl⟩
theorem implCounterExample_spec (s : List Int) (a b : QueryT) (hs : cSchema s ≤ 1048576) (ha : cQuery a ≤ 1048576) (hb : cQuery b ≤ 1048576) : Spec Try.prog 45 [vSchema s, vQuery a, vQuery b] (.tup [wFactS (pCounterExample s a b).1, intsT (pCounterExample s a b).2.1, cb (pCounterExample s a b).2.2]) := by
  refine Spec_of mx Γ_ok Try.func45 rfl ?_
  conv => whnf
  refine ⟨_, implIsQuery_spec s a hs ha, .inl rfl, .inl ?_⟩
  conv => whnf
  unfold pCounterExample cexOk
  generalize isQuery s a = b1
  cases b1 with
  | false =>
    conv => whnf
    exact ⟨rfl, rfl, rfl⟩
  | true =>
    conv => whnf
    refine ⟨_, implIsQuery_spec s b hs hb, .inl rfl, .inl ?_⟩
    conv => whnf
    generalize isQuery s b = b2
    cases b2 with
    | false =>
      conv => whnf
      exact ⟨rfl, rfl, rfl⟩
    | true =>
      conv => whnf
      have he : ((a.1.length : Int) != (b.1.length : Int)) = !decide (a.1.length = b.1.length) := by
        rw [Bool.eq_iff_iff]; simp; omega
      rw [he]
      generalize decide (a.1.length = b.1.length) = b3
      cases b3 with
      | false =>
        conv => whnf
        exact ⟨rfl, rfl, rfl⟩
      | true =>
        conv => whnf
        refine ⟨_, implIsContained_spec s a b hs ha hb, .inl rfl, .inl ?_⟩
        conv => whnf
        generalize contP s a b = b4
        cases b4 with
        | true =>
          conv => whnf
          exact ⟨rfl, rfl, rfl⟩
        | false =>
          conv => whnf
          refine ⟨_, implFreeze_spec a ha, .inl rfl, .inr ?_⟩
          conv => whnf
          refine ⟨by rw [rows_len tFact_len], by rw [rows_len ciL_len], rfl⟩
theorem small_CounterExample (x0 : List Int) (x1 x2 : QueryT) (h0 : cSchema x0 ≤ 1048576) (h1 : cQuery x1 ≤ 1048576) (h2 : cQuery x2 ≤ 1048576) : cFactS (pCounterExample x0 x1 x2).1 ≤ 1048576 ∧ (pCounterExample x0 x1 x2).2.1.length ≤ 1048576 := by
  unfold pCounterExample
  split
  · exact small_Freeze x1 h1
  · exact ⟨by show (0 : Nat) + 0 ≤ _; omega, by show (0 : Nat) ≤ _; omega⟩
theorem specCounterExample_law (x0 : List Int) (x1 x2 : QueryT) (h0 : cSchema x0 ≤ 1048576) (h1 : cQuery x1 ≤ 1048576) (h2 : cQuery x2 ≤ 1048576) (q0 : qSchema x0) (q1 : qQuery x1) (q2 : qQuery x2) : Spec Try.prog 44 [vSchema x0, vQuery x1, vQuery x2] (.tup [wFactS (pCounterExample x0 x1 x2).1, intsT (pCounterExample x0 x1 x2).2.1, cb (pCounterExample x0 x1 x2).2.2]) := specCounterExample_spec x0 x1 x2 h0 h1 h2
theorem implCounterExample_law (x0 : List Int) (x1 x2 : QueryT) (h0 : cSchema x0 ≤ 1048576) (h1 : cQuery x1 ≤ 1048576) (h2 : cQuery x2 ≤ 1048576) (q0 : qSchema x0) (q1 : qQuery x1) (q2 : qQuery x2) : Spec Try.prog 45 [vSchema x0, vQuery x1, vQuery x2] (.tup [wFactS (pCounterExample x0 x1 x2).1, intsT (pCounterExample x0 x1 x2).2.1, cb (pCounterExample x0 x1 x2).2.2]) := implCounterExample_spec x0 x1 x2 h0 h1 h2
end Go.Proofs.YtbnikloglnkddaaD
