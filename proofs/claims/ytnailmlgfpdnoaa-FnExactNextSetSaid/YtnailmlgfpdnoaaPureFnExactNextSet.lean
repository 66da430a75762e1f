/- For every slice of ints and every int the program's NextSet and the reference's NextSet return the same, and the result shares no memory with the argument; no condition. -/
import Derived.Test.YtnailmlgfpdnoaaPFnExactNextSetx3
namespace Go.Proofs.Ytnailmlgfpdnoaa.PFnExactNextSet
open Go.RowKit Go.Proofs.YtnailmlgfpdnoaaW.PrintWords Go.Proofs.YtnailmlgfpdnoaaW.PrintLast
set_option linter.unusedVariables false
set_option linter.unusedSimpArgs false


theorem pc_w1 (i : Nat) (h : i < 4611686018427387904) : wrap64 ((i : Int) + 1) = ((i + 1 : Nat) : Int) := by unfold wrap64; omega
theorem pc_rd (xs : List Int) (i : Nat) (h : i < xs.length) : rd xs (i : Int) = xs[i] := by simp [rd, h]

theorem pc_toIntS_l (l : List Int) (hl : l.length ≤ 1048576) : ∀ (d k i : Nat) (y : List Int), i + d = l.length → y.length = l.length → y.take i = l.take i → d < k → laws_toIntS.l0 k l y i = some l := by
  intro d
  induction d with
  | zero =>
    intro k i y hi hy ht hk
    obtain ⟨k, rfl⟩ : ∃ m, k = m + 1 := ⟨k - 1, by omega⟩
    rw [laws_toIntS.l0, if_neg (by omega)]
    rw [List.take_of_length_le (by omega), List.take_of_length_le (by omega)] at ht
    rw [ht]
  | succ d ih =>
    intro k i y hi hy ht hk
    obtain ⟨k, rfl⟩ : ∃ m, k = m + 1 := ⟨k - 1, by omega⟩
    rw [laws_toIntS.l0, if_pos (by omega), if_pos (by omega), if_pos (by omega), pc_w1 _ (by omega)]
    refine ih k (i + 1) _ (by omega) (by simpa using hy) ?_ (by omega)
    rw [pc_rd _ _ (by omega), Int.toNat_natCast]
    rw [List.take_succ_eq_append_getElem (by simp; omega), List.take_succ_eq_append_getElem (by omega), List.take_set_of_le (by omega), ht]
    simp
theorem pc_toIntS (l : List Int) (hl : l.length ≤ 1048576) (k : Nat) (hk : l.length < k) : laws_toIntS.f k l = some l := by
  unfold laws_toIntS.f
  rw [if_pos (by omega), if_pos (by omega)]
  exact pc_toIntS_l l hl l.length k 0 _ (by omega) (by simp) rfl hk

theorem pc_eqIntS_l (a b : List Int) (hl : a.length ≤ 1048576) (hab : a.length = b.length) : ∀ (d k i : Nat), i + d = a.length → a.take i = b.take i → d < k → laws_eqIntS.l0 k a b i = some (decide (a = b)) := by
  intro d
  induction d with
  | zero =>
    intro k i hi ht hk
    obtain ⟨k, rfl⟩ : ∃ m, k = m + 1 := ⟨k - 1, by omega⟩
    rw [laws_eqIntS.l0, if_neg (by omega)]
    rw [List.take_of_length_le (by omega), List.take_of_length_le (by omega)] at ht
    rw [decide_eq_true ht]
  | succ d ih =>
    intro k i hi ht hk
    obtain ⟨k, rfl⟩ : ∃ m, k = m + 1 := ⟨k - 1, by omega⟩
    rw [laws_eqIntS.l0, if_pos (by omega), if_pos (by omega), if_pos (by omega), pc_rd _ _ (by omega), pc_rd _ _ (by omega)]
    by_cases e : a[i]'(by omega) = b[i]'(by omega)
    · rw [if_pos e, pc_w1 _ (by omega)]
      refine ih k (i + 1) (by omega) ?_ (by omega)
      rw [List.take_succ_eq_append_getElem (by omega), List.take_succ_eq_append_getElem (by omega), ht, e]
    · rw [if_neg e]
      have : a ≠ b := by
        intro h
        subst h
        exact e rfl
      rw [decide_eq_false this]
theorem pc_eqIntS (a b : List Int) (hl : a.length ≤ 1048576) (k : Nat) (hk : a.length < k) : laws_eqIntS.f k a b = some (decide (a = b)) := by
  unfold laws_eqIntS.f
  by_cases h : a.length = b.length
  · rw [if_pos (by omega)]
    exact pc_eqIntS_l a b hl h a.length k 0 (by omega) rfl hk
  · rw [if_neg (by omega), decide_eq_false]
    intro e
    exact h (by rw [e])


/-- The marks: i, i + 1, .. -/
def pc_marks (i : Int) : Nat → List Int
  | 0 => []
  | n + 1 => i :: pc_marks (i + 1) n
theorem pc_marks_length : ∀ (n : Nat) (i : Int), (pc_marks i n).length = n
  | 0, _ => rfl
  | n + 1, i => by simp [pc_marks, pc_marks_length n]
theorem pc_marks_get : ∀ (n : Nat) (i : Int) (j : Nat) (h : j < (pc_marks i n).length), (pc_marks i n)[j] = i + j
  | 0, _, _, h => absurd h (by simp [pc_marks])
  | n + 1, i, 0, _ => by simp [pc_marks]
  | n + 1, i, j + 1, h => by
    simp only [pc_marks, List.getElem_cons_succ]
    rw [pc_marks_get n]
    omega
theorem pc_markIntS_l (m n : Nat) (hl : n ≤ 1048576) (hm : m ≤ 1099511627776) : ∀ (d k i : Nat) (y : List Int), i + d = n → y.length = n → y.take i = (pc_marks m n).take i → d < k → laws_markIntS.l0 k y ((m + i : Nat) : Int) i = some (((m + n : Nat) : Int), pc_marks m n) := by
  intro d
  induction d with
  | zero =>
    intro k i y hi hy ht hk
    obtain ⟨k, rfl⟩ : ∃ m, k = m + 1 := ⟨k - 1, by omega⟩
    rw [laws_markIntS.l0, if_neg (by omega)]
    rw [List.take_of_length_le (by omega), List.take_of_length_le (by rw [pc_marks_length]; omega)] at ht
    rw [ht, show m + i = m + n from by omega]
  | succ d ih =>
    intro k i y hi hy ht hk
    obtain ⟨k, rfl⟩ : ∃ m, k = m + 1 := ⟨k - 1, by omega⟩
    rw [laws_markIntS.l0, if_pos (by omega), if_pos (by omega), pc_w1 _ (by omega), pc_w1 _ (by omega)]
    refine ih k (i + 1) _ (by omega) (by simpa using hy) ?_ (by omega)
    rw [Int.toNat_natCast]
    rw [List.take_succ_eq_append_getElem (by simp; omega), List.take_succ_eq_append_getElem (by rw [pc_marks_length]; omega), pc_marks_get, List.take_set_of_le (by omega), ht]
    simp
theorem pc_markIntS (y : List Int) (m : Nat) (hl : y.length ≤ 1048576) (hm : m ≤ 1099511627776) (k : Nat) (hk : y.length < k) : laws_markIntS.f k y (m : Int) = some (((m + y.length : Nat) : Int), pc_marks m y.length) := by
  unfold laws_markIntS.f
  exact pc_markIntS_l m y.length hl hm y.length k 0 y (by omega) rfl rfl hk
theorem pc_heldIntS_l (m n : Nat) (hl : n ≤ 1048576) (hm : m ≤ 1099511627776) : ∀ (d k i : Nat), i + d = n → d < k → laws_heldIntS.l0 k (pc_marks m n) ((m + i : Nat) : Int) i = some ((m + n : Nat) : Int) := by
  intro d
  induction d with
  | zero =>
    intro k i hi hk
    obtain ⟨k, rfl⟩ : ∃ m, k = m + 1 := ⟨k - 1, by omega⟩
    rw [laws_heldIntS.l0, if_neg (by rw [pc_marks_length]; omega), show m + i = m + n from by omega]
  | succ d ih =>
    intro k i hi hk
    obtain ⟨k, rfl⟩ : ∃ m, k = m + 1 := ⟨k - 1, by omega⟩
    rw [laws_heldIntS.l0, if_pos (by rw [pc_marks_length]; omega), if_pos (by omega), pc_rd _ _ (by rw [pc_marks_length]; omega), pc_marks_get, if_pos (by omega), pc_w1 _ (by omega), pc_w1 _ (by omega)]
    exact ih k (i + 1) (by omega) (by omega)
theorem pc_heldIntS (m n : Nat) (hl : n ≤ 1048576) (hm : m ≤ 1099511627776) (k : Nat) (hk : n < k) : laws_heldIntS.f k (pc_marks m n) (m : Int) = some ((m + n : Nat) : Int) := by
  unfold laws_heldIntS.f
  exact pc_heldIntS_l m n hl hm n k 0 (by omega) hk
theorem pc_mark1 (y : List Int) (hl : y.length ≤ 1048576) (k : Nat) (hk : y.length < k) : laws_markIntS.f k y 1 = some (((1 + y.length : Nat) : Int), pc_marks 1 y.length) := pc_markIntS y 1 hl (by omega) k hk
theorem pc_held1 (n : Nat) (hl : n ≤ 1048576) (k : Nat) (hk : n < k) : laws_heldIntS.f k (pc_marks 1 n) 1 = some ((1 + n : Nat) : Int) := pc_heldIntS 1 n hl (by omega) k hk
theorem pc_mneg (n : Nat) : (((1 + n : Nat) : Int) < 0) = False := eq_false (by omega)

/-- Both run the same checks, find the same place, and write the same numbers from there on. -/
def ns_row (x0 : List Int) (i j : Nat) (s : Int) : List Int := x0.mapIdx fun p v => if i ≤ p ∧ p < j then wrap64 (s + 1 + ((p - i : Nat) : Int)) else v
theorem ns_row_length (x0 : List Int) (i j : Nat) (s : Int) : (ns_row x0 i j s).length = x0.length := by simp [ns_row]
theorem ns_row_get (x0 : List Int) (i j : Nat) (s : Int) (p : Nat) (h : p < (ns_row x0 i j s).length) : (ns_row x0 i j s)[p] = if i ≤ p ∧ p < j then wrap64 (s + 1 + ((p - i : Nat) : Int)) else x0[p]'(by rw [ns_row_length] at h; exact h) := by
  simp [ns_row]
theorem ns_row_set (x0 : List Int) (i j : Nat) (s v : Int) (hij : i ≤ j) (hv : v = wrap64 (s + 1 + ((j - i : Nat) : Int))) : (ns_row x0 i j s).set j v = ns_row x0 i (j + 1) s := by
  apply List.ext_getElem
  · simp [ns_row_length]
  · intro p h1 h2
    rw [List.getElem_set, ns_row_get, ns_row_get]
    split
    · rename_i e
      subst e
      rw [if_pos (by omega), hv]
    · split <;> split <;> first | rfl | omega
theorem ns_row_none (x0 : List Int) (i : Nat) (s : Int) : ns_row x0 i i s = x0 := by
  apply List.ext_getElem
  · simp [ns_row_length]
  · intro p h1 h2
    rw [ns_row_get, if_neg (by omega)]
theorem ns_wrap (a b : Int) : wrap64 (wrap64 a + b) = wrap64 (a + b) := by unfold wrap64; omega
theorem ns_wrap' (a b : Int) : wrap64 (wrap64 a - b) = wrap64 (a - b) := by unfold wrap64; omega
theorem ns_wm (n : Nat) (h : n < 4611686018427387904 := by omega) : wrap64 ((n : Int) - 1) = (n : Int) - 1 := by unfold wrap64; omega

theorem ns_spec2 (x0 : List Int) (hl : x0.length ≤ 1048576) (i : Nat) (s : Int) : ∀ (d k j : Nat), j + d = x0.length → i < j → d < k → spec_NextSet.l2 k x0.length (ns_row x0 i j s) j = some (ns_row x0 i x0.length s, true) := by
  intro d
  induction d with
  | zero =>
    intro k j hj hij hk
    obtain ⟨k, rfl⟩ : ∃ m, k = m + 1 := ⟨k - 1, by omega⟩
    rw [spec_NextSet.l2, if_neg (by omega), show j = x0.length from by omega]
  | succ d ih =>
    intro k j hj hij hk
    obtain ⟨k, rfl⟩ : ∃ m, k = m + 1 := ⟨k - 1, by omega⟩
    rw [spec_NextSet.l2, if_pos (by omega), ns_wm _ (by omega), if_pos (by omega), if_pos (by rw [ns_row_length]; omega), if_pos (by omega), if_pos (by rw [ns_row_length]; omega), pc_w1 _ (by omega)]
    rw [show ((j : Int) - 1) = ((j - 1 : Nat) : Int) from by omega, pc_rd _ _ (by rw [ns_row_length]; omega), ns_row_get, if_pos (by omega), ns_wrap, Int.toNat_natCast, ns_row_set _ _ _ _ _ (by omega) (by congr 1; omega)]
    exact ih k (j + 1) (by omega) (by omega) (by omega)
theorem ns_impl2 (x0 : List Int) (hl : x0.length ≤ 1048576) (i : Nat) (hi : i < x0.length) : ∀ (d k j : Nat), j + d = x0.length → i ≤ j → d < k → impl_NextSet.l2 k x0 x0.length i (ns_row x0 i j x0[i]) j = some (ns_row x0 i x0.length x0[i], true) := by
  intro d
  induction d with
  | zero =>
    intro k j hj hij hk
    obtain ⟨k, rfl⟩ : ∃ m, k = m + 1 := ⟨k - 1, by omega⟩
    rw [impl_NextSet.l2, if_neg (by omega), show j = x0.length from by omega]
  | succ d ih =>
    intro k j hj hij hk
    obtain ⟨k, rfl⟩ : ∃ m, k = m + 1 := ⟨k - 1, by omega⟩
    rw [impl_NextSet.l2, if_pos (by omega), if_pos (by omega), if_pos (by omega), if_pos (by omega), if_pos (by rw [ns_row_length]; omega), pc_w1 _ (by omega), pc_rd _ _ hi, ns_wrap, ns_wrap', Int.toNat_natCast, ns_row_set _ _ _ _ _ (by omega) (by congr 1; omega)]
    exact ih k (j + 1) (by omega) (by omega) (by omega)

theorem ns_copy (x0 : List Int) (hl : x0.length ≤ 1048576) : impl_copyInts.f x0 = some x0 := by
  unfold impl_copyInts.f
  simp only [Option.bind_some, List.nil_append, List.length_nil]
  rw [if_pos (by omega)]

theorem ns_one (x0 : List Int) (hl : x0.length ≤ 1048576) (x1 : Int) : ∀ (i k : Nat), i ≤ x0.length → i + x0.length + 2 ≤ k → ∃ r, spec_NextSet.l1 k x1 x0.length x0 ((i : Int) - 1) = some r ∧ impl_NextSet.l1 k x0 x1 x0.length ((i : Int) - 1) = some r ∧ r.1.length ≤ x0.length := by
  intro i
  induction i with
  | zero =>
    intro k hi hk
    obtain ⟨k, rfl⟩ : ∃ m, k = m + 1 := ⟨k - 1, by omega⟩
    refine ⟨([], false), ?_, ?_, by simp⟩
    · rw [spec_NextSet.l1, if_neg (by omega)]
    · rw [impl_NextSet.l1, if_neg (by omega)]
  | succ i ih =>
    intro k hi hk
    obtain ⟨k, rfl⟩ : ∃ m, k = m + 1 := ⟨k - 1, by omega⟩
    rw [show (((i + 1 : Nat) : Int) - 1) = (i : Int) from by omega]
    by_cases h : rd x0 i < wrap64 (wrap64 (x1 - x0.length) + i)
    · refine ⟨(ns_row x0 i x0.length x0[i], true), ?_, ?_, by simp [ns_row_length]⟩
      · rw [spec_NextSet.l1, if_pos (by omega), if_pos (by omega), if_pos (by omega), if_pos h, pc_w1 _ (by omega), pc_rd _ _ (by omega), Int.toNat_natCast]
        have e := ns_row_set x0 i i x0[i] (wrap64 (x0[i] + 1)) (by omega) (by congr 1; omega)
        rw [ns_row_none] at e
        rw [e]
        exact ns_spec2 x0 hl i x0[i] (x0.length - (i + 1)) k (i + 1) (by omega) (by omega) (by omega)
      · rw [impl_NextSet.l1, if_pos (by omega), if_pos (by omega), if_pos (by omega), if_pos h, ns_copy _ hl, Option.bind_some]
        have e := ns_impl2 x0 hl i (by omega) (x0.length - i) k i (by omega) (by omega) (by omega)
        rwa [ns_row_none] at e
    · obtain ⟨r, h1, h2, h3⟩ := ih k (by omega) (by omega)
      refine ⟨r, ?_, ?_, h3⟩
      · rw [spec_NextSet.l1, if_pos (by omega), if_pos (by omega), if_pos (by omega), if_neg h, ns_wm _ (by omega)]
        exact h1
      · rw [impl_NextSet.l1, if_pos (by omega), if_pos (by omega), if_pos (by omega), if_neg h, ns_wm _ (by omega)]
        exact h2

theorem ns_zero (x0 : List Int) (hl : x0.length ≤ 1048576) (x1 : Int) : ∀ (d k i : Nat), i + d = x0.length → d + 2 * x0.length + 3 ≤ k → ∃ r, spec_NextSet.l0 k x0 x1 x0.length i = some r ∧ impl_NextSet.l0 k x0 x1 x0 x0.length i = some r ∧ r.1.length ≤ x0.length := by
  intro d
  induction d with
  | zero =>
    intro k i hi hk
    obtain ⟨k, rfl⟩ : ∃ m, k = m + 1 := ⟨k - 1, by omega⟩
    obtain ⟨r, h1, h2, h3⟩ := ns_one x0 hl x1 x0.length k (by omega) (by omega)
    refine ⟨r, ?_, ?_, h3⟩
    · rw [spec_NextSet.l0, if_neg (by omega)]
      simp only [Option.bind_some, List.nil_append, List.length_nil]
      rw [if_pos (by omega), ns_wm _ (by omega)]
      exact h1
    · rw [impl_NextSet.l0, if_neg (by omega), ns_wm _ (by omega)]
      exact h2
  | succ d ih =>
    intro k i hi hk
    obtain ⟨k, rfl⟩ : ∃ m, k = m + 1 := ⟨k - 1, by omega⟩
    obtain ⟨r, h1, h2, h3⟩ := ih k (i + 1) (by omega) (by omega)
    have q1 : (i : Int) < x0.length := by omega
    have q2 : (0 : Int) ≤ i := by omega
    simp only [spec_NextSet.l0, impl_NextSet.l0, if_pos q1, if_pos q2]
    by_cases c1 : rd x0 i < 0
    · rw [if_pos c1, if_pos c1]
      exact ⟨_, rfl, rfl, by simp⟩
    · rw [if_neg c1, if_neg c1]
      by_cases c2 : rd x0 i ≥ x1
      · rw [if_pos c2, if_pos c2]
        exact ⟨_, rfl, rfl, by simp⟩
      · rw [if_neg c2, if_neg c2]
        by_cases c3 : (i : Int) > 0
        · have q3 : (0 : Int) ≤ (i : Int) - 1 := by omega
          have q4 : (i : Int) - 1 < x0.length := by omega
          simp only [if_pos c3, ns_wm i (by omega), if_pos q3, if_pos q4]
          by_cases c4 : rd x0 i ≤ rd x0 ((i : Int) - 1)
          · rw [if_pos c4, if_pos (by omega)]
            exact ⟨_, rfl, rfl, by simp⟩
          · rw [if_neg c4, if_neg (by omega), pc_w1 _ (by omega)]
            exact ⟨r, h1, h2, h3⟩
        · rw [if_neg c3, if_neg c3, pc_w1 _ (by omega)]
          exact ⟨r, h1, h2, h3⟩

theorem FnExactNextSet (l : List Int) (a : Int) (_ : l.length ≤ maxLen ∧ ∀ x ∈ l, (Lit.int .i64 x).wf = true) (_ : (Lit.int .i64 a).wf = true) : ∃ k, laws_FnExactNextSet.f k l a = some true := by
  by_cases hl : l.length ≤ 1048576
  · obtain ⟨r, h1, h2, h3⟩ := ns_zero l hl a l.length (3 * l.length + 3) 0 (by omega) (by omega)
    obtain ⟨K, hK⟩ : ∃ K, K = 3 * l.length + 3 := ⟨_, rfl⟩
    have H1 : ∀ k, K ≤ k → spec_NextSet.f k l a = some r := fun k hk => at_rounds (spec_NextSet.mono l a) (by omega) h1
    have H2 : ∀ k, K ≤ k → impl_NextSet.f k l a = some r := fun k hk => at_rounds (impl_NextSet.mono l a) (by omega) h2
    have c1 : ¬ ((l.length : Int) > 1048576) := by omega
    refine ⟨K + 4, ?_⟩
    unfold laws_FnExactNextSet.f
    rw [if_neg c1]
    simp (disch := omega) only [pc_toIntS, H1, H2, pc_eqIntS, Option.bind_some, decide_true, if_true, bne_self_eq_false, Bool.false_eq_true, if_false, pc_mark1, pc_held1, pc_mneg]
    rw [laws_FnExactNextSet.j0]
    simp (disch := omega) only [pc_toIntS, H1, H2, pc_eqIntS, Option.bind_some, decide_true, if_true, bne_self_eq_false, Bool.false_eq_true, if_false, pc_mark1, pc_held1, pc_mneg]
    rw [laws_FnExactNextSet.j1]
    simp (disch := omega) only [pc_toIntS, H1, H2, pc_eqIntS, Option.bind_some, decide_true, if_true, bne_self_eq_false, Bool.false_eq_true, if_false, pc_mark1, pc_held1, pc_mneg]
    rw [laws_FnExactNextSet.j2]
    simp (disch := omega) only [pc_toIntS, H1, H2, pc_eqIntS, Option.bind_some, decide_true, if_true, bne_self_eq_false, Bool.false_eq_true, if_false, pc_mark1, pc_held1, pc_mneg]
  · refine ⟨0, ?_⟩
    unfold laws_FnExactNextSet.f
    rw [if_pos (by omega)]

end Go.Proofs.Ytnailmlgfpdnoaa.PFnExactNextSet
