/- Equal queries; the laws NormalForm and IsIsomorphic. -/
import Derived.Test.YthfjngmbdbocbaaFNorm3
import Derived.Test.YthfjngmbdbocbaaFEqQ
set_option linter.unusedVariables false
set_option linter.unusedSimpArgs false
set_option maxRecDepth 100000
namespace Go.Proofs.YthfjngmbdbocbaaD
open Go Go.Proofs

def pNormalForm (s : List Int) (q : QueryC) : QueryC × Bool := (if isQuery s q then normQ q else ([], []), isQuery s q)
theorem nf_size (s : List Int) (q : QueryC) (h1 : cQuery q ≤ 1048576) : cQuery (pNormalForm s q).1 ≤ 1048576 := by
  unfold pNormalForm
  simp only
  split
  · exact normQ_size h1
  · decide
theorem small_NormalForm (x0 : List Int) (x1 : QueryC) (h0 : cSchema x0 ≤ 1048576) (h1 : cQuery x1 ≤ 1048576) : cQuery (pNormalForm x0 x1).1 ≤ 2147483648 := by
  have := nf_size x0 x1 h1
  omega
theorem specNormalForm_law (x0 : List Int) (x1 : QueryC) (h0 : cSchema x0 ≤ 1048576) (h1 : cQuery x1 ≤ 1048576) (q0 : qSchema x0) (q1 : qQuery x1) : Spec Try.prog 47 [vSchema x0, vQuery x1] (.tup [wQuery (pNormalForm x0 x1).1, cb (pNormalForm x0 x1).2]) := specNormalForm_spec x0 x1 h0 h1
theorem implNormalForm_law (x0 : List Int) (x1 : QueryC) (h0 : cSchema x0 ≤ 1048576) (h1 : cQuery x1 ≤ 1048576) (q0 : qSchema x0) (q1 : qQuery x1) : Spec Try.prog 46 [vSchema x0, vQuery x1] (.tup [wQuery (pNormalForm x0 x1).1, cb (pNormalForm x0 x1).2]) := implNormalForm_spec x0 x1 h0 h1
theorem wNf_ro (s : List Int) (q : QueryC) : roV (.tup [wQuery (pNormalForm s q).1, cb (pNormalForm s q).2]) = .tup [vQuery (pNormalForm s q).1, cb (pNormalForm s q).2] := by
  show V.tup [roV _, roV _] = _
  rw [wQuery_ro]
  rfl
def pIsIsomorphic (s : List Int) (a b : QueryC) : Bool := (pNormalForm s a).2 && ((pNormalForm s b).2 && decide ((pNormalForm s a).1 = (pNormalForm s b).1))
theorem specIsIsomorphic_gen (s : List Int) (a b : QueryC) (hs : cSchema s ≤ 1048576) (ha : cQuery a ≤ 1048576) (hb : cQuery b ≤ 1048576) : Spec Try.prog 53 [vSchema s, vQuery a, vQuery b] (cb (pIsIsomorphic s a b)) := by
  have h1 := nf_size s a ha
  have h2 := nf_size s b hb
  have hs1 := specNormalForm_spec s a hs ha
  have hs2 := specNormalForm_spec s b hs hb
  rw [show V.tup [wQuery (if isQuery s a then normQ a else ([], [])), cb (isQuery s a)] = .tup [wQuery (pNormalForm s a).1, cb (pNormalForm s a).2] from rfl] at hs1
  rw [show V.tup [wQuery (if isQuery s b then normQ b else ([], [])), cb (isQuery s b)] = .tup [wQuery (pNormalForm s b).1, cb (pNormalForm s b).2] from rfl] at hs2
  unfold pIsIsomorphic
  refine Spec_of mx Γ_ok Try.func53 rfl ?_
  conv => whnf
  refine ⟨_, hs1, .inl rfl, .inl ?_⟩
  rw [wNf_ro]
  generalize pNormalForm s a = x at h1
  obtain ⟨x, c1⟩ := x
  conv => whnf
  refine ⟨_, hs2, .inl rfl, .inl ?_⟩
  rw [wNf_ro]
  generalize pNormalForm s b = y at h2
  obtain ⟨y, c2⟩ := y
  simp only at h1 h2 ⊢
  conv => whnf
  cases c1 with
  | false =>
    conv => whnf
    rfl
  | true =>
  conv => whnf
  cases c2 with
  | false =>
    conv => whnf
    rfl
  | true =>
  conv => whnf
  refine ⟨_, specEqualQueries_spec x y h1 h2, .inl rfl, .inl ?_⟩
  conv => whnf
  rfl
theorem implIsIsomorphic_gen (s : List Int) (a b : QueryC) (hs : cSchema s ≤ 1048576) (ha : cQuery a ≤ 1048576) (hb : cQuery b ≤ 1048576) : Spec Try.prog 48 [vSchema s, vQuery a, vQuery b] (cb (pIsIsomorphic s a b)) := by
  have h1 := nf_size s a ha
  have h2 := nf_size s b hb
  have hs1 := implNormalForm_spec s a hs ha
  have hs2 := implNormalForm_spec s b hs hb
  rw [show V.tup [wQuery (if isQuery s a then normQ a else ([], [])), cb (isQuery s a)] = .tup [wQuery (pNormalForm s a).1, cb (pNormalForm s a).2] from rfl] at hs1
  rw [show V.tup [wQuery (if isQuery s b then normQ b else ([], [])), cb (isQuery s b)] = .tup [wQuery (pNormalForm s b).1, cb (pNormalForm s b).2] from rfl] at hs2
  unfold pIsIsomorphic
  refine Spec_of mx Γ_ok Try.func48 rfl ?_
  conv => whnf
  refine ⟨_, hs1, .inl rfl, .inl ?_⟩
  rw [wNf_ro]
  generalize pNormalForm s a = x at h1
  obtain ⟨x, c1⟩ := x
  conv => whnf
  refine ⟨_, hs2, .inl rfl, .inl ?_⟩
  rw [wNf_ro]
  generalize pNormalForm s b = y at h2
  obtain ⟨y, c2⟩ := y
  simp only at h1 h2 ⊢
  conv => whnf
  cases c1 with
  | false =>
    conv => whnf
    rfl
  | true =>
  conv => whnf
  cases c2 with
  | false =>
    conv => whnf
    rfl
  | true =>
  conv => whnf
  refine ⟨_, implEqualQueries_spec x y h1 h2, .inl rfl, .inl ?_⟩
  conv => whnf
  rfl
theorem specIsIsomorphic_law (x0 : List Int) (x1 x2 : QueryC) (h0 : cSchema x0 ≤ 1048576) (h1 : cQuery x1 ≤ 1048576) (h2 : cQuery x2 ≤ 1048576) (q0 : qSchema x0) (q1 : qQuery x1) (q2 : qQuery x2) : Spec Try.prog 53 [vSchema x0, vQuery x1, vQuery x2] (cb (pIsIsomorphic x0 x1 x2)) := specIsIsomorphic_gen x0 x1 x2 h0 h1 h2
theorem implIsIsomorphic_law (x0 : List Int) (x1 x2 : QueryC) (h0 : cSchema x0 ≤ 1048576) (h1 : cQuery x1 ≤ 1048576) (h2 : cQuery x2 ≤ 1048576) (q0 : qSchema x0) (q1 : qQuery x1) (q2 : qQuery x2) : Spec Try.prog 48 [vSchema x0, vQuery x1, vQuery x2] (cb (pIsIsomorphic x0 x1 x2)) := implIsIsomorphic_gen x0 x1 x2 h0 h1 h2
end Go.Proofs.YthfjngmbdbocbaaD
