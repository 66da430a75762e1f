/- WithoutAtom: the second program. -/
import Derived.Test.YtiplgkbgkmomlaaFWithoutAtom
import Derived.Test.YtiplgkbgkmomlaaFCopyQ
set_option linter.unusedVariables false
set_option linter.unusedSimpArgs false
set_option maxRecDepth 100000
namespace Go.Proofs.YtiplgkbgkmomlaaD
open Go Go.Proofs

theorem wo_erase (l : List AtomC) (k : Nat) : ∀ j, j ≤ l.length → wo l (k : Int) j = (l.take j).eraseIdx k
  | 0, _ => by simp [wo]
  | j + 1, hj => by
    have hj' : j < l.length := by omega
    rw [wo, wo_erase l k j (by omega), wo1, List.take_succ_eq_append_getElem hj', getD_atom hj']
    rcases Nat.lt_trichotomy k j with h | h | h
    · rw [List.eraseIdx_append_of_lt_length (by simp; omega), if_pos (by simp; omega)]
    · subst h
      rw [if_neg (by simp), List.append_nil, List.eraseIdx_append_of_length_le (by simp; omega), List.eraseIdx_of_length_le (by simp; omega)]
      have : k - (l.take k).length = 0 := by simp; omega
      rw [this]
      simp
    · rw [if_pos (by simp; omega), List.eraseIdx_of_length_le (by simp; omega), List.eraseIdx_of_length_le (by simp; omega)]
theorem wo_split {l : List AtomC} {k : Nat} (hk : k < l.length) : wo l (k : Int) l.length = l.take k ++ l.drop (k + 1) := by
  rw [wo_erase l k l.length (Nat.le_refl _), List.take_length, List.eraseIdx_eq_take_drop_succ]
theorem rows_take {α : Type} {f : α → List V} {n : Nat} (h : ∀ x, (f x).length = n) (xs : List α) (k : Nat) (hk : k ≤ xs.length) : (rows f xs).take (k * n) = rows f (xs.take k) := by
  have : rows f xs = rows f (xs.take k) ++ rows f (xs.drop k) := by rw [← rows_append, List.take_append_drop]
  rw [this, List.take_append_of_le_length (by rw [rows_len h]; simp [Nat.min_eq_left hk]), List.take_of_length_le (by rw [rows_len h]; simp [Nat.min_eq_left hk])]
theorem takeN_drop {α : Type} {f : α → List V} {n : Nat} (h : ∀ x, (f x).length = n) (xs : List α) {k o m : Nat} (hk : k ≤ xs.length) (ho : o = k * n) (hm : m = (xs.length - k) * n) : takeN (rows f xs) o m = some (rows f (xs.drop k)) := by
  subst ho; subst hm
  have hle : k * n + (xs.length - k) * n ≤ (rows f xs).length := by
    rw [rows_len h, ← Nat.add_mul]
    exact Nat.le_of_eq (by congr 1; omega)
  unfold takeN
  rw [Nat.ble_eq_true_of_le hle, cond_true]
  have hd : (rows f xs).drop (k * n) = rows f (xs.drop k) := by
    have : rows f xs = rows f (xs.take k) ++ rows f (xs.drop k) := by rw [← rows_append, List.take_append_drop]
    rw [this, List.drop_append_of_le_length (by rw [rows_len h]; simp [Nat.min_eq_left hk]), List.drop_of_length_le (by rw [rows_len h]; simp [Nat.min_eq_left hk]), List.nil_append]
  rw [hd, List.take_of_length_le (by rw [rows_len h]; simp)]
theorem solid_rows {xs : List AtomC} {c : V} (h : c ∈ rows tAtom xs) : solid c = true := by
  induction xs with
  | nil => cases h
  | cons x xs ih =>
    rcases List.mem_append.1 h with h | h
    · exact solid_tAtom x c h
    · exact ih h
set_option maxHeartbeats 8000000 in
theorem implWithoutAtom_spec (x0 : List Int) (x1 : QueryR) (x2 : Int) (h0 : cSchema x0 ≤ 1048576) (h1 : cQuery x1 ≤ 1048576) : Spec Try.prog 39 [vSchema x0, vQuery x1, ci x2] (wt (pWithoutAtom x0 x1 x2)) := by
  have h1' := h1
  unfold cQuery cAtomS at h1'
  have hcopy := copyQuery_spec x1 (by omega)
  have hwb := woQ_bound x1 x2 h1
  refine Spec_of mx Γ_ok Try.func39 rfl ?_
  conv => whnf
  refine ⟨_, hcopy, .inl rfl, .inr ?_⟩
  conv => whnf
  refine ⟨_, implIsQuery_spec x0 x1 h0 h1, .inl rfl, .inl ?_⟩
  conv => whnf
  unfold pWithoutAtom
  generalize isQuery x0 x1 = b1
  cases b1 with
  | false =>
    conv => whnf
    refine ⟨by rw [rows_len ciL_len], by rw [rows_len tAtom_len], rfl⟩
  | true =>
  conv => whnf
  have hw : IntKind.i64.wrap ((x1.2.length : Int) - 1) = x1.2.length - 1 := wrap_id (by omega) (by omega)
  refine ⟨_, within_spec _ _ _, .inl rfl, .inl ?_⟩
  rw [hw]
  conv => whnf
  generalize hb2 : inR x2 0 (x1.2.length - 1) = b2
  cases b2 with
  | false =>
    conv => whnf
    refine ⟨by rw [rows_len ciL_len], by rw [rows_len tAtom_len], rfl⟩
  | true =>
  conv => whnf
  rw [Bool.true_and, Bool.true_and]
  have hr : 0 ≤ x2 ∧ x2 ≤ (x1.2.length : Int) - 1 := by simpa [inR] using hb2
  obtain ⟨q, rfl⟩ : ∃ q : Nat, x2 = q := ⟨x2.toNat, by omega⟩
  have hq : q < x1.2.length := by omega
  have hw2 : IntKind.i64.wrap ((q : Int) + 1) = q + 1 := wrap_id (by omega) (by omega)
  refine ⟨List.range 12, by kernel_rfl, ?_⟩
  conv => whnf
  refine ⟨by omega, ?_⟩
  conv => whnf
  rw [hw2]
  refine ⟨by omega, ?_⟩
  conv => whnf
  rw [show (q : Int).toNat - ((0 : Nat) : Int).toNat = q from by omega, show (x1.2.length : Int).toNat - ((q : Int) + 1).toNat = x1.2.length - (q + 1) from by omega]
  refine ⟨⟨by omega, by omega, by rw [rows_len tAtom_len]; omega⟩, _, takeN_drop tAtom_len x1.2 (k := q + 1) (by omega) (by omega) rfl, fun c hc => ?_, rows tAtom (wo x1.2 q x1.2.length), ?_, ?_⟩
  · exact solid_rows hc
  · rw [rows_take tAtom_len _ _ (by omega), wo_split hq]
    exact (rows_append _ _ _).symm
  rw [show q + (x1.2.length - (q + 1)) = (wo x1.2 q x1.2.length).length from by rw [wo_split hq]; simp; omega]
  conv => whnf
  refine .inl ?_
  conv => whnf
  refine ⟨_, _, takeN_all (rows_len ciL_len _), roVs_ci _, ?_⟩
  conv => whnf
  refine ⟨_, _, takeN_all (rows_len tAtom_len _), roVs_rows tAtom_ro _, ?_⟩
  conv => whnf
  refine ⟨_, implIsQuery_spec x0 (woQ x1 q) h0 hwb, .inr trivial, .inl ?_⟩
  conv => whnf
  generalize isQuery x0 (woQ x1 q) = b4
  cases b4 with
  | false =>
    conv => whnf
    refine ⟨_, hcopy, .inl rfl, .inr ?_⟩
    conv => whnf
    refine ⟨by rw [rows_len ciL_len], by rw [rows_len tAtom_len], rfl⟩
  | true =>
    conv => whnf
    refine ⟨by rw [rows_len ciL_len], by rw [rows_len tAtom_len], rfl⟩
theorem specWithoutAtom_law (x0 : List Int) (x1 : QueryR) (x2 : Int) (h0 : cSchema x0 ≤ 1048576) (h1 : cQuery x1 ≤ 1048576) (q0 : qSchema x0) (q1 : qQuery x1) (q2 : (Lit.int .i64 x2).wf = true) : Spec Try.prog 38 [vSchema x0, vQuery x1, ci x2] (.tup [wQuery (pWithoutAtom x0 x1 x2).1, cb (pWithoutAtom x0 x1 x2).2]) := specWithoutAtom_spec x0 x1 x2 h0 h1
theorem implWithoutAtom_law (x0 : List Int) (x1 : QueryR) (x2 : Int) (h0 : cSchema x0 ≤ 1048576) (h1 : cQuery x1 ≤ 1048576) (q0 : qSchema x0) (q1 : qQuery x1) (q2 : (Lit.int .i64 x2).wf = true) : Spec Try.prog 39 [vSchema x0, vQuery x1, ci x2] (.tup [wQuery (pWithoutAtom x0 x1 x2).1, cb (pWithoutAtom x0 x1 x2).2]) := implWithoutAtom_spec x0 x1 x2 h0 h1
theorem pWithoutAtom_bound (x0 : List Int) (x1 : QueryR) (x2 : Int) (h1 : cQuery x1 ≤ 1048576) : cQuery (pWithoutAtom x0 x1 x2).1 ≤ 1048576 := by
  unfold pWithoutAtom
  split
  · exact woQ_bound x1 x2 h1
  · exact h1
theorem small_WithoutAtom (x0 : List Int) (x1 : QueryR) (x2 : Int) (h0 : cSchema x0 ≤ 1048576) (h1 : cQuery x1 ≤ 1048576) : cQuery (pWithoutAtom x0 x1 x2).1 ≤ 2147483648 := by
  have := pWithoutAtom_bound x0 x1 x2 h1
  omega
end Go.Proofs.YtiplgkbgkmomlaaD
