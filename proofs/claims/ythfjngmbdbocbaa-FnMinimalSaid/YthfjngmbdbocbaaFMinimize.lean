/- Redundant atoms; minimal queries. -/
import Derived.Test.YthfjngmbdbocbaaFWithoutAtom2
import Derived.Test.YthfjngmbdbocbaaFMap5
set_option linter.unusedVariables false
set_option linter.unusedSimpArgs false
set_option maxRecDepth 100000
namespace Go.Proofs.YthfjngmbdbocbaaD
open Go Go.Proofs

def pIsRedundant (s : List Int) (q : QueryT) (i : Int) : Bool := let r := pWithoutAtom s q i; r.2 && (contP s q r.1 && contP s r.1 q)
theorem specIsRedundant_spec (s : List Int) (q : QueryT) (i : Int) (hs : cSchema s ≤ 1048576) (hq : cQuery q ≤ 1048576) : Spec Try.prog 70 [vSchema s, vQuery q, ci i] (cb (pIsRedundant s q i)) := by
  have hb := pWithoutAtom_bound s q i hq
  refine Spec_of mx Γ_ok Try.func70 rfl ?_
  conv => whnf
  refine ⟨_, specWithoutAtom_spec s q i hs hq, .inl rfl, .inl ?_⟩
  unfold pIsRedundant
  generalize pWithoutAtom s q i = r at hb
  obtain ⟨x, ok⟩ := r
  simp only at hb
  simp only [wt, roV, roVs, wQuery_ro, ci_ro]
  cases ok with
  | false =>
    conv => whnf
    rfl
  | true =>
    conv => whnf
    refine ⟨_, specIsEquivalent_spec s x q hs hb hq, .inl rfl, .inl ?_⟩
    conv => whnf
    simp only [Bool.true_and, Bool.and_comm (contP s q x)]
    rfl
theorem implIsRedundant_spec (s : List Int) (q : QueryT) (i : Int) (hs : cSchema s ≤ 1048576) (hq : cQuery q ≤ 1048576) : Spec Try.prog 69 [vSchema s, vQuery q, ci i] (cb (pIsRedundant s q i)) := by
  have hb := pWithoutAtom_bound s q i hq
  refine Spec_of mx Γ_ok Try.func69 rfl ?_
  conv => whnf
  refine ⟨_, implWithoutAtom_spec s q i hs hq, .inl rfl, .inl ?_⟩
  unfold pIsRedundant
  generalize pWithoutAtom s q i = r at hb
  obtain ⟨x, ok⟩ := r
  simp only at hb
  simp only [wt, roV, roVs, wQuery_ro, ci_ro]
  cases ok with
  | false =>
    conv => whnf
    rfl
  | true =>
    conv => whnf
    refine ⟨_, implIsEquivalent_spec s q x hs hq hb, .inl rfl, .inl ?_⟩
    conv => whnf
    rfl
theorem specIsRedundant_law (x0 : List Int) (x1 : QueryT) (x2 : Int) (h0 : cSchema x0 ≤ 1048576) (h1 : cQuery x1 ≤ 1048576) (q0 : qSchema x0) (q1 : qQuery x1) (q2 : (Lit.int .i64 x2).wf = true) : Spec Try.prog 70 [vSchema x0, vQuery x1, ci x2] (cb (pIsRedundant x0 x1 x2)) := specIsRedundant_spec x0 x1 x2 h0 h1
theorem implIsRedundant_law (x0 : List Int) (x1 : QueryT) (x2 : Int) (h0 : cSchema x0 ≤ 1048576) (h1 : cQuery x1 ≤ 1048576) (q0 : qSchema x0) (q1 : qQuery x1) (q2 : (Lit.int .i64 x2).wf = true) : Spec Try.prog 69 [vSchema x0, vQuery x1, ci x2] (cb (pIsRedundant x0 x1 x2)) := implIsRedundant_spec x0 x1 x2 h0 h1

def notRed (s : List Int) (q : QueryT) (k : Nat) : Bool := !pIsRedundant s q k
def pIsMinimal (s : List Int) (q : QueryT) : Bool := (List.range q.2.length).all (notRed s q) && isQuery s q
theorem minimal_no {s : List Int} {q : QueryT} {k : Nat} (hk : k < q.2.length) (h : pIsRedundant s q k = true) : pIsMinimal s q = false := by
  unfold pIsMinimal
  rw [show (List.range q.2.length).all (notRed s q) = false from ?_]
  · rfl
  · rw [List.all_eq_false]
    exact ⟨k, List.mem_range.2 hk, by simp [notRed, h]⟩
theorem minimal_yes {s : List Int} {q : QueryT} (h : ∀ k, k < q.2.length → pIsRedundant s q k = false) : pIsMinimal s q = isQuery s q := by
  unfold pIsMinimal
  rw [show (List.range q.2.length).all (notRed s q) = true from ?_, Bool.true_and]
  rw [List.all_eq_true]
  intro k hk
  simp [notRed, h k (List.mem_range.1 hk)]
set_option maxHeartbeats 1000000 in
theorem specIsMinimal_gen (s : List Int) (q : QueryT) (hs : cSchema s ≤ 1048576) (hq : cQuery q ≤ 1048576) : Spec Try.prog 73 [vSchema s, vQuery q] (cb (pIsMinimal s q)) := by
  have hq' := hq
  unfold cQuery cAtomS at hq'
  refine Spec_of mx Γ_ok Try.func73 rfl ?_
  conv => whnf
  refine ⟨[(2,0),(3,0),(4,0),(5,0)], fun m st => ∃ (k : Nat) (e : Int), e = k ∧ m + k = q.2.length ∧ (∀ j, j < k → pIsRedundant s q j = false) ∧ st = ⟨20, [(2, .ptr 0 0), (3, .ptr 1 0), (4, cb false), (5, ci e)], [some ⟨true, [ints s]⟩, some ⟨true, rQuery q⟩]⟩, q.2.length, ⟨0, 0, rfl, rfl, by simp, rfl⟩, ?_⟩
  rintro m st ⟨k, _, rfl, hm, hj, rfl⟩
  conv => whnf
  split <;> rename_i h3
  all_goals simp only [decide_eq_true_eq, decide_eq_false_iff_not] at h3
  · conv => whnf
    have hk : k < q.2.length := by omega
    refine ⟨_, specIsRedundant_spec s q k hs hq, .inl rfl, .inl ?_⟩
    conv => whnf
    generalize hb : pIsRedundant s q k = b
    cases b with
    | true =>
      conv => whnf
      rw [minimal_no hk hb]
      rfl
    | false =>
      conv => whnf
      refine ⟨m - 1, by omega, k + 1, _, wrap_id (by omega) (by omega), by omega, fun j hjk => ?_, rfl⟩
      rcases Nat.lt_or_ge j k with h4 | h4
      · exact hj j h4
      · rw [show j = k from by omega]
        exact hb
  · conv => whnf
    have hkk : k = q.2.length := by omega
    rw [hkk] at hj
    refine ⟨_, specIsQuery_spec s q hs hq, .inl rfl, .inl ?_⟩
    conv => whnf
    rw [minimal_yes hj]
    rfl
set_option maxHeartbeats 1000000 in
theorem implIsMinimal_gen (s : List Int) (q : QueryT) (hs : cSchema s ≤ 1048576) (hq : cQuery q ≤ 1048576) : Spec Try.prog 62 [vSchema s, vQuery q] (cb (pIsMinimal s q)) := by
  have hq' := hq
  unfold cQuery cAtomS at hq'
  refine Spec_of mx Γ_ok Try.func62 rfl ?_
  conv => whnf
  refine ⟨[(2,0),(3,0),(4,0),(8,0),(9,0)], fun m st => ∃ (k : Nat) (e : Int), e = k ∧ m + k = q.2.length ∧ (∀ j, j < k → pIsRedundant s q j = false) ∧ st = ⟨20, [(2, .ptr 0 0), (3, .ptr 1 0), (4, cb false), (8, ci q.2.length), (9, ci e)], [some ⟨true, [ints s]⟩, some ⟨true, rQuery q⟩]⟩, q.2.length, ⟨0, 0, rfl, rfl, by simp, rfl⟩, ?_⟩
  rintro m st ⟨k, _, rfl, hm, hj, rfl⟩
  conv => whnf
  split <;> rename_i h3
  all_goals simp only [decide_eq_true_eq, decide_eq_false_iff_not] at h3
  · conv => whnf
    have hk : k < q.2.length := by omega
    refine ⟨_, implIsRedundant_spec s q k hs hq, .inl rfl, .inl ?_⟩
    conv => whnf
    generalize hb : pIsRedundant s q k = b
    cases b with
    | true =>
      conv => whnf
      rw [minimal_no hk hb]
      rfl
    | false =>
      conv => whnf
      refine ⟨m - 1, by omega, k + 1, _, wrap_id (by omega) (by omega), by omega, fun j hjk => ?_, rfl⟩
      rcases Nat.lt_or_ge j k with h4 | h4
      · exact hj j h4
      · rw [show j = k from by omega]
        exact hb
  · conv => whnf
    have hkk : k = q.2.length := by omega
    rw [hkk] at hj
    refine ⟨_, implIsQuery_spec s q hs hq, .inl rfl, .inl ?_⟩
    conv => whnf
    rw [minimal_yes hj]
    rfl
theorem specIsMinimal_spec (s : List Int) (q : QueryT) (hs : cSchema s ≤ 1048576) (hq : cQuery q ≤ 1048576) (q0 : qSchema s) (q1 : qQuery q) : Spec Try.prog 73 [vSchema s, vQuery q] (cb (pIsMinimal s q)) := specIsMinimal_gen s q hs hq
theorem implIsMinimal_spec (s : List Int) (q : QueryT) (hs : cSchema s ≤ 1048576) (hq : cQuery q ≤ 1048576) (q0 : qSchema s) (q1 : qQuery q) : Spec Try.prog 62 [vSchema s, vQuery q] (cb (pIsMinimal s q)) := implIsMinimal_gen s q hs hq
end Go.Proofs.YthfjngmbdbocbaaD

/- Queries made minimal. -/
set_option linter.unusedVariables false
set_option linter.unusedSimpArgs false
set_option maxRecDepth 100000
namespace Go.Proofs.YthfjngmbdbocbaaD
open Go Go.Proofs

theorem wo_len {l : List AtomC} {k : Nat} (hk : k < l.length) : (wo l (k : Int) l.length).length + 1 = l.length := by
  rw [wo_split hk]
  simp
  omega
theorem red_len {s : List Int} {q : QueryT} {k : Nat} (hk : k < q.2.length) (h : pIsRedundant s q k = true) : (pWithoutAtom s q k).1.2.length + 1 = q.2.length := by
  simp only [pIsRedundant, Bool.and_eq_true] at h
  have h1 := h.1
  unfold pWithoutAtom at h1 ⊢
  split
  · exact wo_len hk
  · rename_i hn
    rw [if_neg hn] at h1
    cases h1
theorem red_query {s : List Int} {q : QueryT} {i : Int} (h : pIsRedundant s q i = true) : isQuery s q = true := by
  simp only [pIsRedundant, Bool.and_eq_true] at h
  have h1 := h.1
  unfold pWithoutAtom at h1
  split at h1
  · rename_i hn
    simp only [Bool.and_eq_true] at hn
    exact hn.1.1
  · cases h1
/-- The first redundant atom from the i-th on is left out, and all is begun again. -/
def minz (s : List Int) : Nat → QueryT → Nat → QueryT
  | 0, x, _ => x
  | n + 1, x, i => if i < x.2.length then (if pIsRedundant s x i then minz s n (pWithoutAtom s x i).1 0 else minz s n x (i + 1)) else x
def meas (x : QueryT) (i : Nat) : Nat := x.2.length * (x.2.length + 1) + (x.2.length - i)
theorem meas_red {s : List Int} {x : QueryT} {i : Nat} (hi : i < x.2.length) (h : pIsRedundant s x i = true) : meas (pWithoutAtom s x i).1 0 < meas x i := by
  have h1 := red_len hi h
  unfold meas
  generalize (pWithoutAtom s x i).1.2.length = a at h1
  rw [← h1]
  have : (a + 1) * (a + 1 + 1) = a * (a + 1) + 2 * (a + 1) := by
    rw [Nat.mul_add, Nat.mul_add (a + 1) (a) 1, Nat.mul_comm (a + 1) a]
    omega
  omega
theorem meas_no {x : QueryT} {i : Nat} (hi : i < x.2.length) : meas x (i + 1) < meas x i := by
  unfold meas
  omega
/-- With room enough it does not matter how much. -/
theorem minz_any (s : List Int) : ∀ (n m : Nat) (x : QueryT) (i : Nat), meas x i < n → meas x i < m → minz s n x i = minz s m x i
  | 0, m, x, i, h, _ => absurd h (Nat.not_lt_zero _)
  | n + 1, 0, x, i, _, h => absurd h (Nat.not_lt_zero _)
  | n + 1, m + 1, x, i, h1, h2 => by
    simp only [minz]
    split
    · rename_i hi
      split
      · rename_i hr
        have := meas_red hi hr
        exact minz_any s n m _ _ (by omega) (by omega)
      · have := meas_no hi
        exact minz_any s n m _ _ (by omega) (by omega)
    · rfl
def minZ (s : List Int) (x : QueryT) (i : Nat) : QueryT := minz s (meas x i + 1) x i
theorem minZ_red {s : List Int} {x : QueryT} {i : Nat} (hi : i < x.2.length) (h : pIsRedundant s x i = true) : minZ s x i = minZ s (pWithoutAtom s x i).1 0 := by
  have := meas_red hi h
  unfold minZ
  rw [minz, if_pos hi, if_pos h]
  exact minz_any s _ _ _ _ (by omega) (by omega)
theorem minZ_no {s : List Int} {x : QueryT} {i : Nat} (hi : i < x.2.length) (h : pIsRedundant s x i = false) : minZ s x i = minZ s x (i + 1) := by
  have := meas_no hi
  unfold minZ
  rw [minz, if_pos hi, h, if_neg (by simp)]
  exact minz_any s _ _ _ _ (by omega) (by omega)
theorem minZ_end {s : List Int} {x : QueryT} {i : Nat} (hi : ¬ i < x.2.length) : minZ s x i = x := by
  unfold minZ
  rw [minz, if_neg hi]
theorem minz_notq {s : List Int} {x : QueryT} (h : isQuery s x = false) : ∀ (n i : Nat), minz s n x i = x
  | 0, i => rfl
  | n + 1, i => by
    simp only [minz]
    split
    · rw [if_neg (fun hr => by have := red_query hr; rw [h] at this; cases this)]
      exact minz_notq h n (i + 1)
    · rfl
theorem minZ_notq {s : List Int} {x : QueryT} (h : isQuery s x = false) (i : Nat) : minZ s x i = x := minz_notq h _ i
theorem minz_bound {s : List Int} : ∀ (n : Nat) (x : QueryT) (i : Nat), cQuery x ≤ 1048576 → cQuery (minz s n x i) ≤ 1048576
  | 0, x, i, h => h
  | n + 1, x, i, h => by
    simp only [minz]
    split
    · split
      · exact minz_bound n _ _ (pWithoutAtom_bound s x i h)
      · exact minz_bound n _ _ h
    · exact h
def pMinimizeQuery (s : List Int) (q : QueryT) : QueryT := minZ s q 0
theorem small_MinimizeQuery (x0 : List Int) (x1 : QueryT) (h0 : cSchema x0 ≤ 1048576) (h1 : cQuery x1 ≤ 1048576) : cQuery (pMinimizeQuery x0 x1) ≤ 2147483648 := by
  have := minz_bound (s := x0) (meas x1 0 + 1) x1 0 h1
  unfold pMinimizeQuery minZ
  omega
set_option maxHeartbeats 4000000 in
theorem specMinimizeQuery_gen (x0 : List Int) (x1 : QueryT) (h0 : cSchema x0 ≤ 1048576) (h1 : cQuery x1 ≤ 1048576) : Spec Try.prog 60 [vSchema x0, vQuery x1] (wQuery (pMinimizeQuery x0 x1)) := by
  refine Spec_of mx Γ_ok Try.func60 rfl ?_
  conv => whnf
  refine ⟨_, l4Copy_spec x1 h1, .inl rfl, .inr ?_⟩
  conv => whnf
  refine ⟨[(2,0),(3,0),(4,0),(5,0),(6,0)], fun m st => ∃ (x : QueryT) (k n1 n2 : Nat) (e : Int) (r1 r2 : List V), e = k ∧ m = meas x k ∧ k ≤ x.2.length ∧ cQuery x ≤ 1048576 ∧ minZ x0 x k = pMinimizeQuery x0 x1 ∧ n1 = x.1.length ∧ n2 = x.2.length ∧ r1 = rows ciL x.1 ∧ r2 = rows tAtom x.2 ∧
    st = ⟨37, [(2, .ptr 0 0), (3, .ptr 1 0), (4, .ptr 2 0), (5, .ptr 3 0), (6, ci e)], [some ⟨true, [ints x0]⟩, some ⟨true, rQuery x1⟩, some ⟨true, [cnil, cnil]⟩, some ⟨true, [.own 4 1 0 n1 n1 none, .own 5 2 0 n2 n2 none]⟩, some ⟨false, r1⟩, some ⟨false, r2⟩]⟩, meas x1 0, ⟨x1, 0, _, _, 0, _, _, rfl, rfl, Nat.zero_le _, h1, rfl, rfl, rfl, rfl, rfl, rfl⟩, ?_⟩
  rintro m st ⟨x, k, n1, n2, _, _, _, rfl, rfl, hk0, hx, hz, rfl, rfl, rfl, rfl, rfl⟩
  have hx' := hx
  unfold cQuery cAtomS at hx'
  conv => whnf
  generalize hd : decide ((k : Int) < x.2.length) = bd
  cases bd with
  | true =>
    have h3 := of_decide_eq_true hd
    conv => whnf
    have hk : k < x.2.length := by omega
    refine .inl ?_
    conv => whnf
    refine ⟨_, _, takeN_all (rows_len ciL_len _), roVs_ci _, ?_⟩
    conv => whnf
    refine ⟨_, _, takeN_all (rows_len tAtom_len _), roVs_rows tAtom_ro _, ?_⟩
    conv => whnf
    refine ⟨_, specIsQuery_spec x0 x h0 hx, .inr trivial, .inl ?_⟩
    conv => whnf
    generalize hb1 : isQuery x0 x = b1
    cases b1 with
    | false =>
      conv => whnf
      rw [minZ_notq hb1] at hz
      rw [← hz]
      refine ⟨by rw [rows_len ciL_len], by rw [rows_len tAtom_len], rfl⟩
    | true =>
    conv => whnf
    refine .inl ?_
    conv => whnf
    refine ⟨_, _, takeN_all (rows_len ciL_len _), roVs_ci _, ?_⟩
    conv => whnf
    refine ⟨_, _, takeN_all (rows_len tAtom_len _), roVs_rows tAtom_ro _, ?_⟩
    conv => whnf
    refine ⟨_, specIsRedundant_spec x0 x k h0 hx, .inr trivial, .inl ?_⟩
    conv => whnf
    generalize hb2 : pIsRedundant x0 x k = b2
    cases b2 with
    | false =>
      conv => whnf
      exact ⟨_, meas_no hk, x, k + 1, _, _, _, _, _, wrap_id (by omega) (by omega), rfl, by omega, hx, by rw [← minZ_no hk hb2, hz], rfl, rfl, rfl, rfl, rfl⟩
    | true =>
      conv => whnf
      refine .inl ?_
      conv => whnf
      refine ⟨_, _, takeN_all (rows_len ciL_len _), roVs_ci _, ?_⟩
      conv => whnf
      refine ⟨_, _, takeN_all (rows_len tAtom_len _), roVs_rows tAtom_ro _, ?_⟩
      conv => whnf
      refine ⟨_, specWithoutAtom_spec x0 x k h0 hx, .inr ⟨closed_wQuery _, trivial, trivial⟩, .inr ?_⟩
      have hm := meas_red hk hb2
      have hwb := pWithoutAtom_bound x0 x k hx
      rw [minZ_red hk hb2] at hz
      generalize pWithoutAtom x0 x k = r at hm hwb hz
      obtain ⟨y, ok⟩ := r
      conv => whnf
      exact ⟨_, hm, y, 0, _, _, _, _, _, rfl, rfl, Nat.zero_le _, hwb, hz, rfl, rfl, rfl, rfl, rfl⟩
  | false =>
    have h3 := of_decide_eq_false hd
    conv => whnf
    rw [minZ_end (by omega)] at hz
    rw [← hz]
    refine ⟨by rw [rows_len ciL_len], by rw [rows_len tAtom_len], rfl⟩
set_option maxHeartbeats 4000000 in
theorem implMinimizeQuery_gen (x0 : List Int) (x1 : QueryT) (h0 : cSchema x0 ≤ 1048576) (h1 : cQuery x1 ≤ 1048576) : Spec Try.prog 59 [vSchema x0, vQuery x1] (wQuery (pMinimizeQuery x0 x1)) := by
  refine Spec_of mx Γ_ok Try.func59 rfl ?_
  conv => whnf
  refine ⟨_, copyQuery_spec x1 (by omega), .inl rfl, .inr ?_⟩
  conv => whnf
  refine ⟨[(2,0),(3,0),(4,0),(5,0),(6,0)], fun m st => ∃ (x : QueryT) (k n1 n2 : Nat) (e : Int) (r1 r2 : List V), e = k ∧ m = meas x k ∧ k ≤ x.2.length ∧ cQuery x ≤ 1048576 ∧ minZ x0 x k = pMinimizeQuery x0 x1 ∧ n1 = x.1.length ∧ n2 = x.2.length ∧ r1 = rows ciL x.1 ∧ r2 = rows tAtom x.2 ∧
    st = ⟨28, [(2, .ptr 0 0), (3, .ptr 1 0), (4, .ptr 2 0), (5, .ptr 3 0), (6, ci e)], [some ⟨true, [ints x0]⟩, some ⟨true, rQuery x1⟩, some ⟨true, [cnil, cnil]⟩, some ⟨true, [.own 4 1 0 n1 n1 none, .own 5 2 0 n2 n2 none]⟩, some ⟨false, r1⟩, some ⟨false, r2⟩]⟩, meas x1 0, ⟨x1, 0, _, _, 0, _, _, rfl, rfl, Nat.zero_le _, h1, rfl, rfl, rfl, rfl, rfl, rfl⟩, ?_⟩
  rintro m st ⟨x, k, n1, n2, _, _, _, rfl, rfl, hk0, hx, hz, rfl, rfl, rfl, rfl, rfl⟩
  have hx' := hx
  unfold cQuery cAtomS at hx'
  conv => whnf
  split <;> rename_i h3
  all_goals simp only [decide_eq_true_eq, decide_eq_false_iff_not] at h3
  · conv => whnf
    have hk : k < x.2.length := by omega
    refine .inl ?_
    conv => whnf
    refine ⟨_, _, takeN_all (rows_len ciL_len _), roVs_ci _, ?_⟩
    conv => whnf
    refine ⟨_, _, takeN_all (rows_len tAtom_len _), roVs_rows tAtom_ro _, ?_⟩
    conv => whnf
    refine ⟨_, implIsRedundant_spec x0 x k h0 hx, .inr trivial, .inl ?_⟩
    conv => whnf
    generalize hb2 : pIsRedundant x0 x k = b2
    cases b2 with
    | false =>
      conv => whnf
      exact ⟨_, meas_no hk, x, k + 1, _, _, _, _, _, wrap_id (by omega) (by omega), rfl, by omega, hx, by rw [← minZ_no hk hb2, hz], rfl, rfl, rfl, rfl, rfl⟩
    | true =>
      conv => whnf
      refine .inl ?_
      conv => whnf
      refine ⟨_, _, takeN_all (rows_len ciL_len _), roVs_ci _, ?_⟩
      conv => whnf
      refine ⟨_, _, takeN_all (rows_len tAtom_len _), roVs_rows tAtom_ro _, ?_⟩
      conv => whnf
      refine ⟨_, implWithoutAtom_spec x0 x k h0 hx, .inr ⟨closed_wQuery _, trivial, trivial⟩, .inr ?_⟩
      have hm := meas_red hk hb2
      have hwb := pWithoutAtom_bound x0 x k hx
      rw [minZ_red hk hb2] at hz
      generalize pWithoutAtom x0 x k = r at hm hwb hz
      obtain ⟨y, ok⟩ := r
      conv => whnf
      exact ⟨_, hm, y, 0, _, _, _, _, _, rfl, rfl, Nat.zero_le _, hwb, hz, rfl, rfl, rfl, rfl, rfl⟩
  · conv => whnf
    rw [minZ_end (by omega)] at hz
    rw [← hz]
    refine ⟨by rw [rows_len ciL_len], by rw [rows_len tAtom_len], rfl⟩
theorem specMinimizeQuery_spec (x0 : List Int) (x1 : QueryT) (h0 : cSchema x0 ≤ 1048576) (h1 : cQuery x1 ≤ 1048576) (q0 : qSchema x0) (q1 : qQuery x1) : Spec Try.prog 60 [vSchema x0, vQuery x1] (wQuery (pMinimizeQuery x0 x1)) := specMinimizeQuery_gen x0 x1 h0 h1
theorem implMinimizeQuery_spec (x0 : List Int) (x1 : QueryT) (h0 : cSchema x0 ≤ 1048576) (h1 : cQuery x1 ≤ 1048576) (q0 : qSchema x0) (q1 : qQuery x1) : Spec Try.prog 59 [vSchema x0, vQuery x1] (wQuery (pMinimizeQuery x0 x1)) := implMinimizeQuery_gen x0 x1 h0 h1
end Go.Proofs.YthfjngmbdbocbaaD
