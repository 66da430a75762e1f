/- The law BagEquivalent. -/
import Derived.Test.YtphphphnnnaagaaFNorm4
import Derived.Test.YtphphphnnnaagaaFDedupeAtoms2
set_option linter.unusedVariables false
set_option linter.unusedSimpArgs false
set_option maxRecDepth 100000
namespace Go.Proofs.YtphphphnnnaagaaD
open Go Go.Proofs

theorem dd_size {q : QueryC} (h : cQuery q ≤ 1048576) : cQuery (pDedupeAtoms q) ≤ 1048576 := by
  obtain ⟨h1, h2⟩ := dedup_bound cAtom q.2
  unfold cQuery cAtomS at h
  show q.1.length + ((dedup q.2).length + sumB cAtom (dedup q.2)) ≤ _
  omega
def pBagEquivalent (s : List Int) (a b : QueryC) : Bool := isQuery s a && (isQuery s b && pIsIsomorphic s (pDedupeAtoms a) (pDedupeAtoms b))
theorem specBagEquivalent_law (x0 : List Int) (x1 x2 : QueryC) (h0 : cSchema x0 ≤ 1048576) (h1 : cQuery x1 ≤ 1048576) (h2 : cQuery x2 ≤ 1048576) (q0 : qSchema x0) (q1 : qQuery x1) (q2 : qQuery x2) : Spec Try.prog 72 [vSchema x0, vQuery x1, vQuery x2] (cb (pBagEquivalent x0 x1 x2)) := by
  unfold pBagEquivalent
  refine Spec_of mx Γ_ok Try.func72 rfl ?_
  conv => whnf
  refine ⟨[0, 1, 2, 3, 4, 5, 6, 7, 8, 9, 10, 12, 11, 13, 14, 15, 16], by kernel_rfl, ?_⟩
  conv => whnf
  refine ⟨_, specIsQuery_spec x0 x1 h0 h1, .inl rfl, .inl ?_⟩
  conv => whnf
  generalize isQuery x0 x1 = c1
  cases c1 with
  | false =>
    conv => whnf
    rfl
  | true =>
  conv => whnf
  refine ⟨_, specIsQuery_spec x0 x2 h0 h2, .inl rfl, .inl ?_⟩
  conv => whnf
  generalize isQuery x0 x2 = c2
  cases c2 with
  | false =>
    conv => whnf
    rfl
  | true =>
  conv => whnf
  refine ⟨_, specDedupeAtoms_spec x1 h1, .inl rfl, .inl ?_⟩
  rw [wQuery_ro]
  conv => whnf
  refine ⟨_, specDedupeAtoms_spec x2 h2, .inl rfl, .inl ?_⟩
  rw [wQuery_ro]
  conv => whnf
  refine ⟨_, specIsIsomorphic_gen x0 (pDedupeAtoms x1) (pDedupeAtoms x2) h0 (dd_size h1) (dd_size h2), .inl rfl, .inl ?_⟩
  conv => whnf
  rfl
theorem implBagEquivalent_law (x0 : List Int) (x1 x2 : QueryC) (h0 : cSchema x0 ≤ 1048576) (h1 : cQuery x1 ≤ 1048576) (h2 : cQuery x2 ≤ 1048576) (q0 : qSchema x0) (q1 : qQuery x1) (q2 : qQuery x2) : Spec Try.prog 73 [vSchema x0, vQuery x1, vQuery x2] (cb (pBagEquivalent x0 x1 x2)) := by
  unfold pBagEquivalent
  refine Spec_of mx Γ_ok Try.func73 rfl ?_
  conv => whnf
  refine ⟨[0, 1, 2, 3, 4, 5, 6, 7, 8, 9, 10, 12, 11, 13, 14, 15, 16], by kernel_rfl, ?_⟩
  conv => whnf
  refine ⟨_, implIsQuery_spec x0 x1 h0 h1, .inl rfl, .inl ?_⟩
  conv => whnf
  generalize isQuery x0 x1 = c1
  cases c1 with
  | false =>
    conv => whnf
    rfl
  | true =>
  conv => whnf
  refine ⟨_, implIsQuery_spec x0 x2 h0 h2, .inl rfl, .inl ?_⟩
  conv => whnf
  generalize isQuery x0 x2 = c2
  cases c2 with
  | false =>
    conv => whnf
    rfl
  | true =>
  conv => whnf
  refine ⟨_, implDedupeAtoms_spec x1 h1, .inl rfl, .inl ?_⟩
  rw [wQuery_ro]
  conv => whnf
  refine ⟨_, implDedupeAtoms_spec x2 h2, .inl rfl, .inl ?_⟩
  rw [wQuery_ro]
  conv => whnf
  refine ⟨_, implIsIsomorphic_gen x0 (pDedupeAtoms x1) (pDedupeAtoms x2) h0 (dd_size h1) (dd_size h2), .inl rfl, .inl ?_⟩
  conv => whnf
  rfl
end Go.Proofs.YtphphphnnnaagaaD
