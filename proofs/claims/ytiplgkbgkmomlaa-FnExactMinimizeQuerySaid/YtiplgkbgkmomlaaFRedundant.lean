/- Redundant atoms; minimal queries. -/
import Derived.Test.YtiplgkbgkmomlaaFWithoutAtom2
import Derived.Test.YtiplgkbgkmomlaaFMap5
set_option linter.unusedVariables false
set_option linter.unusedSimpArgs false
set_option maxRecDepth 100000
namespace Go.Proofs.YtiplgkbgkmomlaaD
open Go Go.Proofs

def pIsRedundant (s : List Int) (q : QueryT) (i : Int) : Bool := let r := pWithoutAtom s q i; r.2 && (contP s q r.1 && contP s r.1 q)
theorem specIsRedundant_spec (s : List Int) (q : QueryT) (i : Int) (hs : cSchema s ≤ 1048576) (hq : cQuery q ≤ 1048576) : Spec Try.prog 68 [vSchema s, vQuery q, ci i] (cb (pIsRedundant s q i)) := by
  have hb := pWithoutAtom_bound s q i hq
  refine Spec_of mx Γ_ok Try.func68 rfl ?_
  conv => whnf
  refine ⟨_, specWithoutAtom_spec s q i hs hq, .inl rfl, .inl ?_⟩
  unfold pIsRedundant
  generalize pWithoutAtom s q i = r at hb
  obtain ⟨x, ok⟩ := r
  simp only at hb
  simp only [wt, roV, roVs, wQuery_ro, ci_ro]
  cases ok with
  | false =>
    conv => whnf
    rfl
  | true =>
    conv => whnf
    refine ⟨_, specIsEquivalent_spec s x q hs hb hq, .inl rfl, .inl ?_⟩
    conv => whnf
    simp only [Bool.true_and, Bool.and_comm (contP s q x)]
    rfl
theorem implIsRedundant_spec (s : List Int) (q : QueryT) (i : Int) (hs : cSchema s ≤ 1048576) (hq : cQuery q ≤ 1048576) : Spec Try.prog 69 [vSchema s, vQuery q, ci i] (cb (pIsRedundant s q i)) := by
  have hb := pWithoutAtom_bound s q i hq
  refine Spec_of mx Γ_ok Try.func69 rfl ?_
  conv => whnf
  refine ⟨_, implWithoutAtom_spec s q i hs hq, .inl rfl, .inl ?_⟩
  unfold pIsRedundant
  generalize pWithoutAtom s q i = r at hb
  obtain ⟨x, ok⟩ := r
  simp only at hb
  simp only [wt, roV, roVs, wQuery_ro, ci_ro]
  cases ok with
  | false =>
    conv => whnf
    rfl
  | true =>
    conv => whnf
    refine ⟨_, implIsEquivalent_spec s q x hs hq hb, .inl rfl, .inl ?_⟩
    conv => whnf
    rfl
theorem specIsRedundant_law (x0 : List Int) (x1 : QueryT) (x2 : Int) (h0 : cSchema x0 ≤ 1048576) (h1 : cQuery x1 ≤ 1048576) (q0 : qSchema x0) (q1 : qQuery x1) (q2 : (Lit.int .i64 x2).wf = true) : Spec Try.prog 68 [vSchema x0, vQuery x1, ci x2] (cb (pIsRedundant x0 x1 x2)) := specIsRedundant_spec x0 x1 x2 h0 h1
theorem implIsRedundant_law (x0 : List Int) (x1 : QueryT) (x2 : Int) (h0 : cSchema x0 ≤ 1048576) (h1 : cQuery x1 ≤ 1048576) (q0 : qSchema x0) (q1 : qQuery x1) (q2 : (Lit.int .i64 x2).wf = true) : Spec Try.prog 69 [vSchema x0, vQuery x1, ci x2] (cb (pIsRedundant x0 x1 x2)) := implIsRedundant_spec x0 x1 x2 h0 h1

def notRed (s : List Int) (q : QueryT) (k : Nat) : Bool := !pIsRedundant s q k
def pIsMinimal (s : List Int) (q : QueryT) : Bool := (List.range q.2.length).all (notRed s q) && isQuery s q
theorem minimal_no {s : List Int} {q : QueryT} {k : Nat} (hk : k < q.2.length) (h : pIsRedundant s q k = true) : pIsMinimal s q = false := by
  unfold pIsMinimal
  rw [show (List.range q.2.length).all (notRed s q) = false from ?_]
  · rfl
  · rw [List.all_eq_false]
    exact ⟨k, List.mem_range.2 hk, by simp [notRed, h]⟩
theorem minimal_yes {s : List Int} {q : QueryT} (h : ∀ k, k < q.2.length → pIsRedundant s q k = false) : pIsMinimal s q = isQuery s q := by
  unfold pIsMinimal
  rw [show (List.range q.2.length).all (notRed s q) = true from ?_, Bool.true_and]
  rw [List.all_eq_true]
  intro k hk
  simp [notRed, h k (List.mem_range.1 hk)]
set_option maxHeartbeats 1000000 in
theorem specIsMinimal_spec (s : List Int) (q : QueryT) (hs : cSchema s ≤ 1048576) (hq : cQuery q ≤ 1048576) (q0 : qSchema s) (q1 : qQuery q) : Spec Try.prog 70 [vSchema s, vQuery q] (cb (pIsMinimal s q)) := by
  have hq' := hq
  unfold cQuery cAtomS at hq'
  refine Spec_of mx Γ_ok Try.func70 rfl ?_
  conv => whnf
  refine ⟨[(2,0),(3,0),(4,0),(5,0)], fun m st => ∃ (k : Nat) (e : Int), e = k ∧ m + k = q.2.length ∧ (∀ j, j < k → pIsRedundant s q j = false) ∧ st = ⟨20, [(2, .ptr 0 0), (3, .ptr 1 0), (4, cb false), (5, ci e)], [some ⟨true, [ints s]⟩, some ⟨true, rQuery q⟩]⟩, q.2.length, ⟨0, 0, rfl, rfl, by simp, rfl⟩, ?_⟩
  rintro m st ⟨k, _, rfl, hm, hj, rfl⟩
  conv => whnf
  split <;> rename_i h3
  all_goals simp only [decide_eq_true_eq, decide_eq_false_iff_not] at h3
  · conv => whnf
    have hk : k < q.2.length := by omega
    refine ⟨_, specIsRedundant_spec s q k hs hq, .inl rfl, .inl ?_⟩
    conv => whnf
    generalize hb : pIsRedundant s q k = b
    cases b with
    | true =>
      conv => whnf
      rw [minimal_no hk hb]
      rfl
    | false =>
      conv => whnf
      refine ⟨m - 1, by omega, k + 1, _, wrap_id (by omega) (by omega), by omega, fun j hjk => ?_, rfl⟩
      rcases Nat.lt_or_ge j k with h4 | h4
      · exact hj j h4
      · rw [show j = k from by omega]
        exact hb
  · conv => whnf
    have hkk : k = q.2.length := by omega
    rw [hkk] at hj
    refine ⟨_, specIsQuery_spec s q hs hq, .inl rfl, .inl ?_⟩
    conv => whnf
    rw [minimal_yes hj]
    rfl
set_option maxHeartbeats 1000000 in
theorem implIsMinimal_spec (s : List Int) (q : QueryT) (hs : cSchema s ≤ 1048576) (hq : cQuery q ≤ 1048576) (q0 : qSchema s) (q1 : qQuery q) : Spec Try.prog 71 [vSchema s, vQuery q] (cb (pIsMinimal s q)) := by
  have hq' := hq
  unfold cQuery cAtomS at hq'
  refine Spec_of mx Γ_ok Try.func71 rfl ?_
  conv => whnf
  refine ⟨[(2,0),(3,0),(4,0),(8,0),(9,0)], fun m st => ∃ (k : Nat) (e : Int), e = k ∧ m + k = q.2.length ∧ (∀ j, j < k → pIsRedundant s q j = false) ∧ st = ⟨20, [(2, .ptr 0 0), (3, .ptr 1 0), (4, cb false), (8, ci q.2.length), (9, ci e)], [some ⟨true, [ints s]⟩, some ⟨true, rQuery q⟩]⟩, q.2.length, ⟨0, 0, rfl, rfl, by simp, rfl⟩, ?_⟩
  rintro m st ⟨k, _, rfl, hm, hj, rfl⟩
  conv => whnf
  split <;> rename_i h3
  all_goals simp only [decide_eq_true_eq, decide_eq_false_iff_not] at h3
  · conv => whnf
    have hk : k < q.2.length := by omega
    refine ⟨_, implIsRedundant_spec s q k hs hq, .inl rfl, .inl ?_⟩
    conv => whnf
    generalize hb : pIsRedundant s q k = b
    cases b with
    | true =>
      conv => whnf
      rw [minimal_no hk hb]
      rfl
    | false =>
      conv => whnf
      refine ⟨m - 1, by omega, k + 1, _, wrap_id (by omega) (by omega), by omega, fun j hjk => ?_, rfl⟩
      rcases Nat.lt_or_ge j k with h4 | h4
      · exact hj j h4
      · rw [show j = k from by omega]
        exact hb
  · conv => whnf
    have hkk : k = q.2.length := by omega
    rw [hkk] at hj
    refine ⟨_, implIsQuery_spec s q hs hq, .inl rfl, .inl ?_⟩
    conv => whnf
    rw [minimal_yes hj]
    rfl
end Go.Proofs.YtiplgkbgkmomlaaD
