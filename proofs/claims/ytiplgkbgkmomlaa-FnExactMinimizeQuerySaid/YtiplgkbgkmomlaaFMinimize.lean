/- Queries made minimal. -/
import Derived.Test.YtiplgkbgkmomlaaFRedundant
set_option linter.unusedVariables false
set_option linter.unusedSimpArgs false
set_option maxRecDepth 100000
namespace Go.Proofs.YtiplgkbgkmomlaaD
open Go Go.Proofs

theorem wo_len {l : List AtomC} {k : Nat} (hk : k < l.length) : (wo l (k : Int) l.length).length + 1 = l.length := by
  rw [wo_split hk]
  simp
  omega
theorem red_len {s : List Int} {q : QueryT} {k : Nat} (hk : k < q.2.length) (h : pIsRedundant s q k = true) : (pWithoutAtom s q k).1.2.length + 1 = q.2.length := by
  simp only [pIsRedundant, Bool.and_eq_true] at h
  have h1 := h.1
  unfold pWithoutAtom at h1 ⊢
  split
  · exact wo_len hk
  · rename_i hn
    rw [if_neg hn] at h1
    cases h1
theorem red_query {s : List Int} {q : QueryT} {i : Int} (h : pIsRedundant s q i = true) : isQuery s q = true := by
  simp only [pIsRedundant, Bool.and_eq_true] at h
  have h1 := h.1
  unfold pWithoutAtom at h1
  split at h1
  · rename_i hn
    simp only [Bool.and_eq_true] at hn
    exact hn.1.1
  · cases h1
/-- The first redundant atom from the i-th on is left out, and all is begun again. -/
def minz (s : List Int) : Nat → QueryT → Nat → QueryT
  | 0, x, _ => x
  | n + 1, x, i => if i < x.2.length then (if pIsRedundant s x i then minz s n (pWithoutAtom s x i).1 0 else minz s n x (i + 1)) else x
def meas (x : QueryT) (i : Nat) : Nat := x.2.length * (x.2.length + 1) + (x.2.length - i)
theorem meas_red {s : List Int} {x : QueryT} {i : Nat} (hi : i < x.2.length) (h : pIsRedundant s x i = true) : meas (pWithoutAtom s x i).1 0 < meas x i := by
  have h1 := red_len hi h
  unfold meas
  generalize (pWithoutAtom s x i).1.2.length = a at h1
  rw [← h1]
  have : (a + 1) * (a + 1 + 1) = a * (a + 1) + 2 * (a + 1) := by
    rw [Nat.mul_add, Nat.mul_add (a + 1) (a) 1, Nat.mul_comm (a + 1) a]
    omega
  omega
theorem meas_no {x : QueryT} {i : Nat} (hi : i < x.2.length) : meas x (i + 1) < meas x i := by
  unfold meas
  omega
/-- With room enough it does not matter how much. -/
theorem minz_any (s : List Int) : ∀ (n m : Nat) (x : QueryT) (i : Nat), meas x i < n → meas x i < m → minz s n x i = minz s m x i
  | 0, m, x, i, h, _ => absurd h (Nat.not_lt_zero _)
  | n + 1, 0, x, i, _, h => absurd h (Nat.not_lt_zero _)
  | n + 1, m + 1, x, i, h1, h2 => by
    simp only [minz]
    split
    · rename_i hi
      split
      · rename_i hr
        have := meas_red hi hr
        exact minz_any s n m _ _ (by omega) (by omega)
      · have := meas_no hi
        exact minz_any s n m _ _ (by omega) (by omega)
    · rfl
def minZ (s : List Int) (x : QueryT) (i : Nat) : QueryT := minz s (meas x i + 1) x i
theorem minZ_red {s : List Int} {x : QueryT} {i : Nat} (hi : i < x.2.length) (h : pIsRedundant s x i = true) : minZ s x i = minZ s (pWithoutAtom s x i).1 0 := by
  have := meas_red hi h
  unfold minZ
  rw [minz, if_pos hi, if_pos h]
  exact minz_any s _ _ _ _ (by omega) (by omega)
theorem minZ_no {s : List Int} {x : QueryT} {i : Nat} (hi : i < x.2.length) (h : pIsRedundant s x i = false) : minZ s x i = minZ s x (i + 1) := by
  have := meas_no hi
  unfold minZ
  rw [minz, if_pos hi, h, if_neg (by simp)]
  exact minz_any s _ _ _ _ (by omega) (by omega)
theorem minZ_end {s : List Int} {x : QueryT} {i : Nat} (hi : ¬ i < x.2.length) : minZ s x i = x := by
  unfold minZ
  rw [minz, if_neg hi]
theorem minz_notq {s : List Int} {x : QueryT} (h : isQuery s x = false) : ∀ (n i : Nat), minz s n x i = x
  | 0, i => rfl
  | n + 1, i => by
    simp only [minz]
    split
    · rw [if_neg (fun hr => by have := red_query hr; rw [h] at this; cases this)]
      exact minz_notq h n (i + 1)
    · rfl
theorem minZ_notq {s : List Int} {x : QueryT} (h : isQuery s x = false) (i : Nat) : minZ s x i = x := minz_notq h _ i
theorem minz_bound {s : List Int} : ∀ (n : Nat) (x : QueryT) (i : Nat), cQuery x ≤ 1048576 → cQuery (minz s n x i) ≤ 1048576
  | 0, x, i, h => h
  | n + 1, x, i, h => by
    simp only [minz]
    split
    · split
      · exact minz_bound n _ _ (pWithoutAtom_bound s x i h)
      · exact minz_bound n _ _ h
    · exact h
def pMinimizeQuery (s : List Int) (q : QueryT) : QueryT := minZ s q 0
theorem small_MinimizeQuery (x0 : List Int) (x1 : QueryT) (h0 : cSchema x0 ≤ 1048576) (h1 : cQuery x1 ≤ 1048576) : cQuery (pMinimizeQuery x0 x1) ≤ 2147483648 := by
  have := minz_bound (s := x0) (meas x1 0 + 1) x1 0 h1
  unfold pMinimizeQuery minZ
  omega
set_option maxHeartbeats 4000000 in
theorem specMinimizeQuery_spec (x0 : List Int) (x1 : QueryT) (h0 : cSchema x0 ≤ 1048576) (h1 : cQuery x1 ≤ 1048576) (q0 : qSchema x0) (q1 : qQuery x1) : Spec Try.prog 78 [vSchema x0, vQuery x1] (wQuery (pMinimizeQuery x0 x1)) := by
  refine Spec_of mx Γ_ok Try.func78 rfl ?_
  conv => whnf
  refine ⟨_, l4Copy_spec x1 h1, .inl rfl, .inr ?_⟩
  conv => whnf
  refine ⟨[(2,0),(3,0),(4,0),(5,0),(6,0)], fun m st => ∃ (x : QueryT) (k n1 n2 : Nat) (e : Int) (r1 r2 : List V), e = k ∧ m = meas x k ∧ k ≤ x.2.length ∧ cQuery x ≤ 1048576 ∧ minZ x0 x k = pMinimizeQuery x0 x1 ∧ n1 = x.1.length ∧ n2 = x.2.length ∧ r1 = rows ciL x.1 ∧ r2 = rows tAtom x.2 ∧
    st = ⟨37, [(2, .ptr 0 0), (3, .ptr 1 0), (4, .ptr 2 0), (5, .ptr 3 0), (6, ci e)], [some ⟨true, [ints x0]⟩, some ⟨true, rQuery x1⟩, some ⟨true, [cnil, cnil]⟩, some ⟨true, [.own 4 1 0 n1 n1 none, .own 5 2 0 n2 n2 none]⟩, some ⟨false, r1⟩, some ⟨false, r2⟩]⟩, meas x1 0, ⟨x1, 0, _, _, 0, _, _, rfl, rfl, Nat.zero_le _, h1, rfl, rfl, rfl, rfl, rfl, rfl⟩, ?_⟩
  rintro m st ⟨x, k, n1, n2, _, _, _, rfl, rfl, hk0, hx, hz, rfl, rfl, rfl, rfl, rfl⟩
  have hx' := hx
  unfold cQuery cAtomS at hx'
  conv => whnf
  generalize hd : decide ((k : Int) < x.2.length) = bd
  cases bd with
  | true =>
    have h3 := of_decide_eq_true hd
    conv => whnf
    have hk : k < x.2.length := by omega
    refine .inl ?_
    conv => whnf
    refine ⟨_, _, takeN_all (rows_len ciL_len _), roVs_ci _, ?_⟩
    conv => whnf
    refine ⟨_, _, takeN_all (rows_len tAtom_len _), roVs_rows tAtom_ro _, ?_⟩
    conv => whnf
    refine ⟨_, specIsQuery_spec x0 x h0 hx, .inr trivial, .inl ?_⟩
    conv => whnf
    generalize hb1 : isQuery x0 x = b1
    cases b1 with
    | false =>
      conv => whnf
      rw [minZ_notq hb1] at hz
      rw [← hz]
      refine ⟨by rw [rows_len ciL_len], by rw [rows_len tAtom_len], rfl⟩
    | true =>
    conv => whnf
    refine .inl ?_
    conv => whnf
    refine ⟨_, _, takeN_all (rows_len ciL_len _), roVs_ci _, ?_⟩
    conv => whnf
    refine ⟨_, _, takeN_all (rows_len tAtom_len _), roVs_rows tAtom_ro _, ?_⟩
    conv => whnf
    refine ⟨_, specIsRedundant_spec x0 x k h0 hx, .inr trivial, .inl ?_⟩
    conv => whnf
    generalize hb2 : pIsRedundant x0 x k = b2
    cases b2 with
    | false =>
      conv => whnf
      exact ⟨_, meas_no hk, x, k + 1, _, _, _, _, _, wrap_id (by omega) (by omega), rfl, by omega, hx, by rw [← minZ_no hk hb2, hz], rfl, rfl, rfl, rfl, rfl⟩
    | true =>
      conv => whnf
      refine .inl ?_
      conv => whnf
      refine ⟨_, _, takeN_all (rows_len ciL_len _), roVs_ci _, ?_⟩
      conv => whnf
      refine ⟨_, _, takeN_all (rows_len tAtom_len _), roVs_rows tAtom_ro _, ?_⟩
      conv => whnf
      refine ⟨_, specWithoutAtom_spec x0 x k h0 hx, .inr ⟨closed_wQuery _, trivial, trivial⟩, .inr ?_⟩
      have hm := meas_red hk hb2
      have hwb := pWithoutAtom_bound x0 x k hx
      rw [minZ_red hk hb2] at hz
      generalize pWithoutAtom x0 x k = r at hm hwb hz
      obtain ⟨y, ok⟩ := r
      conv => whnf
      exact ⟨_, hm, y, 0, _, _, _, _, _, rfl, rfl, Nat.zero_le _, hwb, hz, rfl, rfl, rfl, rfl, rfl⟩
  | false =>
    have h3 := of_decide_eq_false hd
    conv => whnf
    rw [minZ_end (by omega)] at hz
    rw [← hz]
    refine ⟨by rw [rows_len ciL_len], by rw [rows_len tAtom_len], rfl⟩
set_option maxHeartbeats 4000000 in
theorem implMinimizeQuery_spec (x0 : List Int) (x1 : QueryT) (h0 : cSchema x0 ≤ 1048576) (h1 : cQuery x1 ≤ 1048576) (q0 : qSchema x0) (q1 : qQuery x1) : Spec Try.prog 79 [vSchema x0, vQuery x1] (wQuery (pMinimizeQuery x0 x1)) := by
  refine Spec_of mx Γ_ok Try.func79 rfl ?_
  conv => whnf
  refine ⟨_, copyQuery_spec x1 (by omega), .inl rfl, .inr ?_⟩
  conv => whnf
  refine ⟨[(2,0),(3,0),(4,0),(5,0),(6,0)], fun m st => ∃ (x : QueryT) (k n1 n2 : Nat) (e : Int) (r1 r2 : List V), e = k ∧ m = meas x k ∧ k ≤ x.2.length ∧ cQuery x ≤ 1048576 ∧ minZ x0 x k = pMinimizeQuery x0 x1 ∧ n1 = x.1.length ∧ n2 = x.2.length ∧ r1 = rows ciL x.1 ∧ r2 = rows tAtom x.2 ∧
    st = ⟨28, [(2, .ptr 0 0), (3, .ptr 1 0), (4, .ptr 2 0), (5, .ptr 3 0), (6, ci e)], [some ⟨true, [ints x0]⟩, some ⟨true, rQuery x1⟩, some ⟨true, [cnil, cnil]⟩, some ⟨true, [.own 4 1 0 n1 n1 none, .own 5 2 0 n2 n2 none]⟩, some ⟨false, r1⟩, some ⟨false, r2⟩]⟩, meas x1 0, ⟨x1, 0, _, _, 0, _, _, rfl, rfl, Nat.zero_le _, h1, rfl, rfl, rfl, rfl, rfl, rfl⟩, ?_⟩
  rintro m st ⟨x, k, n1, n2, _, _, _, rfl, rfl, hk0, hx, hz, rfl, rfl, rfl, rfl, rfl⟩
  have hx' := hx
  unfold cQuery cAtomS at hx'
  conv => whnf
  split <;> rename_i h3
  all_goals simp only [decide_eq_true_eq, decide_eq_false_iff_not] at h3
  · conv => whnf
    have hk : k < x.2.length := by omega
    refine .inl ?_
    conv => whnf
    refine ⟨_, _, takeN_all (rows_len ciL_len _), roVs_ci _, ?_⟩
    conv => whnf
    refine ⟨_, _, takeN_all (rows_len tAtom_len _), roVs_rows tAtom_ro _, ?_⟩
    conv => whnf
    refine ⟨_, implIsRedundant_spec x0 x k h0 hx, .inr trivial, .inl ?_⟩
    conv => whnf
    generalize hb2 : pIsRedundant x0 x k = b2
    cases b2 with
    | false =>
      conv => whnf
      exact ⟨_, meas_no hk, x, k + 1, _, _, _, _, _, wrap_id (by omega) (by omega), rfl, by omega, hx, by rw [← minZ_no hk hb2, hz], rfl, rfl, rfl, rfl, rfl⟩
    | true =>
      conv => whnf
      refine .inl ?_
      conv => whnf
      refine ⟨_, _, takeN_all (rows_len ciL_len _), roVs_ci _, ?_⟩
      conv => whnf
      refine ⟨_, _, takeN_all (rows_len tAtom_len _), roVs_rows tAtom_ro _, ?_⟩
      conv => whnf
      refine ⟨_, implWithoutAtom_spec x0 x k h0 hx, .inr ⟨closed_wQuery _, trivial, trivial⟩, .inr ?_⟩
      have hm := meas_red hk hb2
      have hwb := pWithoutAtom_bound x0 x k hx
      rw [minZ_red hk hb2] at hz
      generalize pWithoutAtom x0 x k = r at hm hwb hz
      obtain ⟨y, ok⟩ := r
      conv => whnf
      exact ⟨_, hm, y, 0, _, _, _, _, _, rfl, rfl, Nat.zero_le _, hwb, hz, rfl, rfl, rfl, rfl, rfl⟩
  · conv => whnf
    rw [minZ_end (by omega)] at hz
    rw [← hz]
    refine ⟨by rw [rows_len ciL_len], by rw [rows_len tAtom_len], rfl⟩
end Go.Proofs.YtiplgkbgkmomlaaD
