/- ChaseKeys, ContainedUnder, EquivalentUnder: both programs. -/
import Derived.Test.YticfknanflhadaaFChase2
import Derived.Test.YticfknanflhadaaFChase3
set_option linter.unusedVariables false
set_option linter.unusedSimpArgs false
set_option maxRecDepth 100000
namespace Go.Proofs.YticfknanflhadaaD
open Go Go.Proofs

def chO : Option QueryT → QueryT × Bool
  | none => (([], []), false)
  | some y => (y, true)
theorem wCh_eq (o : Option QueryT) : wCh o = .tup [wQuery (chO o).1, cb (chO o).2] := by cases o <;> rfl
def pChaseKeys (s : List Int) (q : QueryT) (ks : List FactK) : QueryT × Bool := if isQuery s q && pAreKeys s ks then chO (chZ ks q) else (([], []), false)
theorem pChaseKeys_bound (x0 : List Int) (x1 : QueryT) (x2 : List FactK) (h1 : cQuery x1 ≤ 1048576) : cQuery (pChaseKeys x0 x1 x2).1 ≤ 1048576 := by
  unfold pChaseKeys
  split
  · rename_i h
    simp only [Bool.and_eq_true] at h
    cases hc : chZ x2 x1 with
    | none => exact Nat.zero_le _
    | some y => exact (chZ_bound (isQuery_ok h.1) h1 hc).1
  · exact Nat.zero_le _
theorem small_ChaseKeys (x0 : List Int) (x1 : QueryT) (x2 : List FactK) (h0 : cSchema x0 ≤ 1048576) (h1 : cQuery x1 ≤ 1048576) (h2 : cKeyS x2 ≤ 1048576) : cQuery (pChaseKeys x0 x1 x2).1 ≤ 2147483648 := by
  have := pChaseKeys_bound x0 x1 x2 h1
  omega
theorem specChaseKeys_law (x0 : List Int) (x1 : QueryT) (x2 : List FactK) (h0 : cSchema x0 ≤ 1048576) (h1 : cQuery x1 ≤ 1048576) (h2 : cKeyS x2 ≤ 1048576) (q0 : qSchema x0) (q1 : qQuery x1) (q2 : qKeyS x2) : Spec Try.prog 12 [vSchema x0, vQuery x1, vKeyS x2] (.tup [wQuery (pChaseKeys x0 x1 x2).1, cb (pChaseKeys x0 x1 x2).2]) := by
  refine Spec_of mx Γ_ok Try.func12 rfl ?_
  conv => whnf
  refine ⟨_, specIsQuery_spec x0 x1 h0 h1, .inl rfl, .inl ?_⟩
  conv => whnf
  unfold pChaseKeys
  generalize hb1 : isQuery x0 x1 = b1
  cases b1 with
  | false =>
    conv => whnf
    exact .inr ⟨1, .inr ⟨2, rfl⟩⟩
  | true =>
  conv => whnf
  refine ⟨_, specAreKeys_spec x0 x2 h0 h2 q0 q2, .inl rfl, .inl ?_⟩
  conv => whnf
  generalize hb2 : pAreKeys x0 x2 = b2
  cases b2 with
  | false =>
    conv => whnf
    exact .inr ⟨1, .inr ⟨2, rfl⟩⟩
  | true =>
  conv => whnf
  have hs := l13Chase_spec x1 x2 h1 h2 (isQuery_ok hb1)
  rw [wCh_eq] at hs
  refine ⟨_, hs, .inl rfl, .inr ?_⟩
  rw [Bool.true_and, if_pos rfl]
  generalize chO (chZ x2 x1) = r
  obtain ⟨y, ok⟩ := r
  conv => whnf
  exact ⟨by rw [rows_len ciL_len], by rw [rows_len tAtom_len], rfl⟩
theorem implChaseKeys_law (x0 : List Int) (x1 : QueryT) (x2 : List FactK) (h0 : cSchema x0 ≤ 1048576) (h1 : cQuery x1 ≤ 1048576) (h2 : cKeyS x2 ≤ 1048576) (q0 : qSchema x0) (q1 : qQuery x1) (q2 : qKeyS x2) : Spec Try.prog 16 [vSchema x0, vQuery x1, vKeyS x2] (.tup [wQuery (pChaseKeys x0 x1 x2).1, cb (pChaseKeys x0 x1 x2).2]) := by
  refine Spec_of mx Γ_ok Try.func16 rfl ?_
  conv => whnf
  refine ⟨_, implIsQuery_spec x0 x1 h0 h1, .inl rfl, .inl ?_⟩
  conv => whnf
  unfold pChaseKeys
  generalize hb1 : isQuery x0 x1 = b1
  cases b1 with
  | false =>
    conv => whnf
    exact .inr ⟨1, .inr ⟨2, rfl⟩⟩
  | true =>
  conv => whnf
  refine ⟨_, implAreKeys_spec x0 x2 h0 h2 q0 q2, .inl rfl, .inl ?_⟩
  conv => whnf
  generalize hb2 : pAreKeys x0 x2 = b2
  cases b2 with
  | false =>
    conv => whnf
    exact .inr ⟨1, .inr ⟨2, rfl⟩⟩
  | true =>
  conv => whnf
  have hs := chase_spec x1 x2 h1 h2 (isQuery_ok hb1)
  rw [wCh_eq] at hs
  refine ⟨_, hs, .inl rfl, .inr ?_⟩
  rw [Bool.true_and, if_pos rfl]
  generalize chO (chZ x2 x1) = r
  obtain ⟨y, ok⟩ := r
  conv => whnf
  exact ⟨by rw [rows_len ciL_len], by rw [rows_len tAtom_len], rfl⟩

def underP (a b : QueryT) (ks : List FactK) : Bool := match chZ ks a with
  | none => true
  | some x => (mapP b x).isSome
def pContainedUnder (s : List Int) (a b : QueryT) (ks : List FactK) : Bool := isQuery s a && (isQuery s b && (pAreKeys s ks && (!((a.1.length : Int) != b.1.length) && underP a b ks)))
set_option maxHeartbeats 2000000 in
theorem specContainedUnder_spec (x0 : List Int) (x1 x2 : QueryT) (x3 : List FactK) (h0 : cSchema x0 ≤ 1048576) (h1 : cQuery x1 ≤ 1048576) (h2 : cQuery x2 ≤ 1048576) (h3 : cKeyS x3 ≤ 1048576) (q0 : qSchema x0) (q1 : qQuery x1) (q2 : qQuery x2) (q3 : qKeyS x3) : Spec Try.prog 24 [vSchema x0, vQuery x1, vQuery x2, vKeyS x3] (cb (pContainedUnder x0 x1 x2 x3)) := by
  refine Spec_of mx Γ_ok Try.func24 rfl ?_
  conv => whnf
  refine ⟨_, specIsQuery_spec x0 x1 h0 h1, .inl rfl, .inl ?_⟩
  conv => whnf
  unfold pContainedUnder
  generalize hb1 : isQuery x0 x1 = b1
  cases b1 with
  | false =>
    conv => whnf
    rfl
  | true =>
  conv => whnf
  refine ⟨_, specIsQuery_spec x0 x2 h0 h2, .inl rfl, .inl ?_⟩
  conv => whnf
  generalize hb2 : isQuery x0 x2 = b2
  cases b2 with
  | false =>
    conv => whnf
    rfl
  | true =>
  conv => whnf
  refine ⟨_, specAreKeys_spec x0 x3 h0 h3 q0 q3, .inl rfl, .inl ?_⟩
  conv => whnf
  generalize hb3 : pAreKeys x0 x3 = b3
  cases b3 with
  | false =>
    conv => whnf
    rfl
  | true =>
  conv => whnf
  generalize hb4 : ((x1.1.length : Int) != x2.1.length) = b4
  cases b4 with
  | true =>
    conv => whnf
    rfl
  | false =>
  conv => whnf
  refine ⟨_, l13Chase_spec x1 x3 h1 h3 (isQuery_ok hb1), .inl rfl, .inl ?_⟩
  obtain ⟨f1, f2⟩ := isQuery_fine hb2
  unfold underP
  generalize hc : chZ x3 x1 = o
  cases o with
  | none =>
    simp only [wCh, roV, roVs, wQuery_ro, ci_ro]
    conv => whnf
    rfl
  | some y =>
    simp only [wCh, roV, roVs, wQuery_ro, ci_ro]
    conv => whnf
    have hy := (chZ_bound (isQuery_ok hb1) h1 hc).1
    refine ⟨_, l7Find_spec x2 y h2 hy f1 f2, .inl rfl, .inl ?_⟩
    generalize mapP x2 y = r
    cases r <;> rfl
set_option maxHeartbeats 2000000 in
theorem implContainedUnder_spec (x0 : List Int) (x1 x2 : QueryT) (x3 : List FactK) (h0 : cSchema x0 ≤ 1048576) (h1 : cQuery x1 ≤ 1048576) (h2 : cQuery x2 ≤ 1048576) (h3 : cKeyS x3 ≤ 1048576) (q0 : qSchema x0) (q1 : qQuery x1) (q2 : qQuery x2) (q3 : qKeyS x3) : Spec Try.prog 25 [vSchema x0, vQuery x1, vQuery x2, vKeyS x3] (cb (pContainedUnder x0 x1 x2 x3)) := by
  refine Spec_of mx Γ_ok Try.func25 rfl ?_
  conv => whnf
  refine ⟨_, implIsQuery_spec x0 x1 h0 h1, .inl rfl, .inl ?_⟩
  conv => whnf
  unfold pContainedUnder
  generalize hb1 : isQuery x0 x1 = b1
  cases b1 with
  | false =>
    conv => whnf
    rfl
  | true =>
  conv => whnf
  refine ⟨_, implIsQuery_spec x0 x2 h0 h2, .inl rfl, .inl ?_⟩
  conv => whnf
  generalize hb2 : isQuery x0 x2 = b2
  cases b2 with
  | false =>
    conv => whnf
    rfl
  | true =>
  conv => whnf
  refine ⟨_, implAreKeys_spec x0 x3 h0 h3 q0 q3, .inl rfl, .inl ?_⟩
  conv => whnf
  generalize hb3 : pAreKeys x0 x3 = b3
  cases b3 with
  | false =>
    conv => whnf
    rfl
  | true =>
  conv => whnf
  generalize hb4 : ((x1.1.length : Int) != x2.1.length) = b4
  cases b4 with
  | true =>
    conv => whnf
    rfl
  | false =>
  conv => whnf
  refine ⟨_, chase_spec x1 x3 h1 h3 (isQuery_ok hb1), .inl rfl, .inl ?_⟩
  obtain ⟨f1, f2⟩ := isQuery_fine hb2
  unfold underP
  generalize hc : chZ x3 x1 = o
  cases o with
  | none =>
    simp only [wCh, roV, roVs, wQuery_ro, ci_ro]
    conv => whnf
    rfl
  | some y =>
    simp only [wCh, roV, roVs, wQuery_ro, ci_ro]
    conv => whnf
    have hy := (chZ_bound (isQuery_ok hb1) h1 hc).1
    refine ⟨_, mapping_spec x2 y h2 hy f1 f2, .inl rfl, .inl ?_⟩
    generalize mapP x2 y = r
    cases r <;> rfl
def pEquivalentUnder (s : List Int) (a b : QueryT) (ks : List FactK) : Bool := pContainedUnder s a b ks && pContainedUnder s b a ks
theorem specEquivalentUnder_spec (x0 : List Int) (x1 x2 : QueryT) (x3 : List FactK) (h0 : cSchema x0 ≤ 1048576) (h1 : cQuery x1 ≤ 1048576) (h2 : cQuery x2 ≤ 1048576) (h3 : cKeyS x3 ≤ 1048576) (q0 : qSchema x0) (q1 : qQuery x1) (q2 : qQuery x2) (q3 : qKeyS x3) : Spec Try.prog 31 [vSchema x0, vQuery x1, vQuery x2, vKeyS x3] (cb (pEquivalentUnder x0 x1 x2 x3)) := by
  refine Spec_of mx Γ_ok Try.func31 rfl ?_
  conv => whnf
  refine ⟨_, specContainedUnder_spec x0 x1 x2 x3 h0 h1 h2 h3 q0 q1 q2 q3, .inl rfl, .inl ?_⟩
  conv => whnf
  unfold pEquivalentUnder
  generalize pContainedUnder x0 x1 x2 x3 = b1
  cases b1 with
  | false =>
    conv => whnf
    rfl
  | true =>
    conv => whnf
    refine ⟨_, specContainedUnder_spec x0 x2 x1 x3 h0 h2 h1 h3 q0 q2 q1 q3, .inl rfl, .inl ?_⟩
    conv => whnf
    rfl
theorem implEquivalentUnder_spec (x0 : List Int) (x1 x2 : QueryT) (x3 : List FactK) (h0 : cSchema x0 ≤ 1048576) (h1 : cQuery x1 ≤ 1048576) (h2 : cQuery x2 ≤ 1048576) (h3 : cKeyS x3 ≤ 1048576) (q0 : qSchema x0) (q1 : qQuery x1) (q2 : qQuery x2) (q3 : qKeyS x3) : Spec Try.prog 32 [vSchema x0, vQuery x1, vQuery x2, vKeyS x3] (cb (pEquivalentUnder x0 x1 x2 x3)) := by
  refine Spec_of mx Γ_ok Try.func32 rfl ?_
  conv => whnf
  refine ⟨_, implContainedUnder_spec x0 x1 x2 x3 h0 h1 h2 h3 q0 q1 q2 q3, .inl rfl, .inl ?_⟩
  conv => whnf
  unfold pEquivalentUnder
  generalize pContainedUnder x0 x1 x2 x3 = b1
  cases b1 with
  | false =>
    conv => whnf
    rfl
  | true =>
    conv => whnf
    refine ⟨_, implContainedUnder_spec x0 x2 x1 x3 h0 h2 h1 h3 q0 q2 q1 q3, .inl rfl, .inl ?_⟩
    conv => whnf
    rfl
end Go.Proofs.YticfknanflhadaaD
