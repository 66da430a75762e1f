/- WithoutAtom: the first program. -/
import Derived.Test.YthfjngmbdbocbaaFQueryOk2
import Derived.Test.YthfjngmbdbocbaaFRename
import Derived.Test.YthfjngmbdbocbaaFCopyQ
set_option linter.unusedVariables false
set_option linter.unusedSimpArgs false
set_option maxRecDepth 100000
namespace Go.Proofs.YthfjngmbdbocbaaD
open Go Go.Proofs

def wo1 (l : List AtomC) (i : Int) (k : Nat) : List AtomC := if ((k : Int) != i) = true then [l.getD k (0, [])] else []
def wo (l : List AtomC) (i : Int) : Nat → List AtomC
  | 0 => []
  | k + 1 => wo l i k ++ wo1 l i k
def woQ (q : QueryR) (i : Int) : QueryR := (q.1, wo q.2 i q.2.length)
def pWithoutAtom (s : List Int) (q : QueryR) (i : Int) : QueryR × Bool := if isQuery s q && inR i 0 (q.2.length - 1) && isQuery s (woQ q i) then (woQ q i, true) else (q, false)
theorem getD_atom {l : List AtomC} {k : Nat} (hk : k < l.length) : l.getD k (0, []) = l[k] := by simp [List.getD_eq_getElem?_getD, hk]
theorem sumB_snoc (c : AtomC → Nat) (x : AtomC) : ∀ l : List AtomC, sumB c (l ++ [x]) = sumB c l + c x
  | [] => by simp [sumB]
  | y :: l => by simp only [List.cons_append, sumB, sumB_snoc c x l]; omega
theorem wo_bound (c : AtomC → Nat) (l : List AtomC) (i : Int) : ∀ k, k ≤ l.length → (wo l i k).length ≤ k ∧ sumB c (wo l i k) ≤ sumB c (l.take k)
  | 0, _ => ⟨Nat.le_refl _, by simp [wo, sumB]⟩
  | k + 1, hk => by
    have h1 := wo_bound c l i k (by omega)
    have hk' : k < l.length := by omega
    rw [List.take_succ_eq_append_getElem hk', sumB_snoc, wo, wo1]
    split
    · rw [getD_atom hk', List.length_append, sumB_snoc, List.length_singleton]
      omega
    · rw [List.append_nil]
      omega
theorem woQ_bound (q : QueryR) (i : Int) (h : cQuery q ≤ 1048576) : cQuery (woQ q i) ≤ 1048576 := by
  have h1 := wo_bound cAtom q.2 i q.2.length (Nat.le_refl _)
  rw [List.take_length] at h1
  unfold cQuery cAtomS at *
  simp only [woQ]
  omega
def wt (p : QueryR × Bool) : V := .tup [wQuery p.1, cb p.2]
set_option maxHeartbeats 8000000 in
theorem specWithoutAtom_spec (x0 : List Int) (x1 : QueryR) (x2 : Int) (h0 : cSchema x0 ≤ 1048576) (h1 : cQuery x1 ≤ 1048576) : Spec Try.prog 67 [vSchema x0, vQuery x1, ci x2] (wt (pWithoutAtom x0 x1 x2)) := by
  have h1' := h1
  unfold cQuery cAtomS at h1'
  have hcopy := l4Copy_spec x1 h1
  have hwb := woQ_bound x1 x2 h1
  refine Spec_of mx Γ_ok Try.func67 rfl ?_
  conv => whnf
  refine ⟨_, specIsQuery_spec x0 x1 h0 h1, .inl rfl, .inl ?_⟩
  conv => whnf
  unfold pWithoutAtom
  generalize isQuery x0 x1 = b1
  cases b1 with
  | false =>
    conv => whnf
    refine ⟨_, hcopy, .inl rfl, .inr ?_⟩
    conv => whnf
    refine ⟨by rw [rows_len ciL_len], by rw [rows_len tAtom_len], rfl⟩
  | true =>
  conv => whnf
  have hw : IntKind.i64.wrap ((x1.2.length : Int) - 1) = x1.2.length - 1 := wrap_id (by omega) (by omega)
  refine ⟨_, l1In_spec _ _ _, .inl rfl, .inl ?_⟩
  rw [hw]
  conv => whnf
  generalize inR x2 0 (x1.2.length - 1) = b2
  cases b2 with
  | false =>
    conv => whnf
    refine ⟨_, hcopy, .inl rfl, .inr ?_⟩
    conv => whnf
    refine ⟨by rw [rows_len ciL_len], by rw [rows_len tAtom_len], rfl⟩
  | true =>
  conv => whnf
  rw [Bool.true_and, Bool.true_and]
  refine ⟨rows_len ciL_len _, solid_ci _, ?_⟩
  conv => whnf
  refine ⟨by omega, rfl, _, app_ci [] x1.1, ?_⟩
  conv => whnf
  refine ⟨[(2,0),(3,0),(4,0),(6,0),(7,0),(8,202),(9,0)], fun m s => ∃ (k : Nat) (e : Int) (n1 n : Nat) (r1 r : List V), e = k ∧ m + k = x1.2.length ∧ n1 = x1.1.length ∧ n = (wo x1.2 x2 k).length ∧ r1 = rows ciL x1.1 ∧ r = rows tAtom (wo x1.2 x2 k) ∧
    s = ⟨67, [(2, ci x2), (3, .ptr 0 0), (4, .ptr 1 0), (6, .ptr 2 0), (7, cb false), (8, .ptr 3 0), (9, ci e)], [some ⟨true, [ints x0]⟩, some ⟨true, rQuery x1⟩, some ⟨true, [cnil, cnil]⟩, some ⟨true, [.own 4 1 0 n1 n1 none, .own 5 2 0 n n none]⟩, some ⟨false, r1⟩, some ⟨false, r⟩]⟩, x1.2.length, ⟨0, 0, 0 + x1.1.length, 0, _, _, rfl, rfl, Nat.zero_add _, rfl, by rw [List.nil_append], rfl, rfl⟩, ?_⟩
  rintro m s ⟨k, _, n1, n, _, _, rfl, hm, hn1, hn, rfl, rfl, rfl⟩
  conv => whnf
  split <;> rename_i h3
  all_goals simp only [decide_eq_true_eq, decide_eq_false_iff_not] at h3
  · conv => whnf
    have hk : k < x1.2.length := by omega
    have hb := sumB_one (f := cAtom) hk
    have hcb : cAtom x1.2[k] = x1.2[k].2.length := rfl
    have hcl := (wo_bound cAtom x1.2 x2 k (by omega)).1
    have hst : wo x1.2 x2 (k + 1) = wo x1.2 x2 k ++ wo1 x1.2 x2 k := rfl
    rw [wo1, getD_atom hk] at hst
    generalize wo x1.2 x2 k = L at hn hcl hst
    generalize hb3 : ((k : Int) != x2) = b3
    rw [hb3] at hst
    cases b3 with
    | false =>
      conv => whnf
      rw [if_neg (by simp), List.append_nil] at hst
      exact ⟨m - 1, by omega, k + 1, _, n1, n, _, _, wrap_id (by omega) (by omega), by omega, hn1, by rw [hst, hn], rfl, by rw [hst], rfl⟩
    | true =>
    conv => whnf
    rw [if_pos rfl] at hst
    refine ⟨[0, 1, 2, 3, 4, 5, 6, 7, 9, 10, 11, 12, 13, 14, 8, 15, 16, 17, 18, 19, 20], by kernel_rfl, ?_⟩
    conv => whnf
    refine ⟨by omega, rows_len rAtom_len _, ?_⟩
    conv => whnf
    refine ⟨_, takeN_rp_field (k := k) (d := 0) (m := 1) (r := [ci x1.2[k].1]) rAtom_len hk (by omega) rfl, ?_⟩
    conv => whnf
    refine ⟨by omega, rows_len rAtom_len _, ?_⟩
    conv => whnf
    refine ⟨_, takeN_rp_field (k := k) (d := 1) (m := 1) (r := [ints x1.2[k].2]) rAtom_len hk (by omega) rfl, ?_⟩
    conv => whnf
    refine ⟨rows_len ciL_len _, solid_ci _, ?_⟩
    conv => whnf
    refine ⟨by omega, rfl, _, app_ci [] _, ?_⟩
    conv => whnf
    refine ⟨by rw [rows_len ciL_len, List.nil_append, Nat.zero_add]; rfl, ?_⟩
    conv => whnf
    refine ⟨_, rfl, .inr ⟨fun c hc => ?_, ?_⟩⟩
    · have hc : c ∈ [ci x1.2[k].1, V.tr 1 (0 + x1.2[k].2.length) (rows ciL ([] ++ x1.2[k].2))] := hc
      simp only [List.mem_cons, List.not_mem_nil, or_false] at hc
      rcases hc with rfl | rfl <;> rfl
    conv => whnf
    refine ⟨by omega, by rw [rows_len tAtom_len, hn], rows tAtom (L ++ [x1.2[k]]), ?_, ?_⟩
    · rw [List.nil_append, Nat.zero_add]
      exact snoc_rows tAtom _ _
    conv => whnf
    refine ⟨m - 1, by omega, k + 1, _, n1, _, _, _, wrap_id (by omega) (by omega), by omega, hn1, ?_, rfl, ?_, rfl⟩
    · rw [hst, List.length_append, hn]
      rfl
    · rw [hst]
  · conv => whnf
    have hkk : k = x1.2.length := by omega
    rw [hkk] at hn ⊢
    subst hn1
    subst hn
    refine .inl ?_
    conv => whnf
    refine ⟨_, _, takeN_all (rows_len ciL_len _), roVs_ci _, ?_⟩
    conv => whnf
    refine ⟨_, _, takeN_all (rows_len tAtom_len _), roVs_rows tAtom_ro _, ?_⟩
    conv => whnf
    refine ⟨_, specIsQuery_spec x0 (woQ x1 x2) h0 hwb, .inr trivial, .inl ?_⟩
    conv => whnf
    generalize isQuery x0 (woQ x1 x2) = b4
    cases b4 with
    | false =>
      conv => whnf
      refine ⟨_, hcopy, .inl rfl, .inr ?_⟩
      conv => whnf
      refine ⟨by rw [rows_len ciL_len], by rw [rows_len tAtom_len], rfl⟩
    | true =>
      conv => whnf
      refine ⟨by rw [rows_len ciL_len], by rw [rows_len tAtom_len], rfl⟩
end Go.Proofs.YthfjngmbdbocbaaD

/- WithoutAtom: the second program. -/
set_option linter.unusedVariables false
set_option linter.unusedSimpArgs false
set_option maxRecDepth 100000
namespace Go.Proofs.YthfjngmbdbocbaaD
open Go Go.Proofs

theorem wo_erase (l : List AtomC) (k : Nat) : ∀ j, j ≤ l.length → wo l (k : Int) j = (l.take j).eraseIdx k
  | 0, _ => by simp [wo]
  | j + 1, hj => by
    have hj' : j < l.length := by omega
    rw [wo, wo_erase l k j (by omega), wo1, List.take_succ_eq_append_getElem hj', getD_atom hj']
    rcases Nat.lt_trichotomy k j with h | h | h
    · rw [List.eraseIdx_append_of_lt_length (by simp; omega), if_pos (by simp; omega)]
    · subst h
      rw [if_neg (by simp), List.append_nil, List.eraseIdx_append_of_length_le (by simp; omega), List.eraseIdx_of_length_le (by simp; omega)]
      have : k - (l.take k).length = 0 := by simp; omega
      rw [this]
      simp
    · rw [if_pos (by simp; omega), List.eraseIdx_of_length_le (by simp; omega), List.eraseIdx_of_length_le (by simp; omega)]
theorem wo_split {l : List AtomC} {k : Nat} (hk : k < l.length) : wo l (k : Int) l.length = l.take k ++ l.drop (k + 1) := by
  rw [wo_erase l k l.length (Nat.le_refl _), List.take_length, List.eraseIdx_eq_take_drop_succ]
theorem rows_take {α : Type} {f : α → List V} {n : Nat} (h : ∀ x, (f x).length = n) (xs : List α) (k : Nat) (hk : k ≤ xs.length) : (rows f xs).take (k * n) = rows f (xs.take k) := by
  have : rows f xs = rows f (xs.take k) ++ rows f (xs.drop k) := by rw [← rows_append, List.take_append_drop]
  rw [this, List.take_append_of_le_length (by rw [rows_len h]; simp [Nat.min_eq_left hk]), List.take_of_length_le (by rw [rows_len h]; simp [Nat.min_eq_left hk])]
theorem takeN_drop {α : Type} {f : α → List V} {n : Nat} (h : ∀ x, (f x).length = n) (xs : List α) {k o m : Nat} (hk : k ≤ xs.length) (ho : o = k * n) (hm : m = (xs.length - k) * n) : takeN (rows f xs) o m = some (rows f (xs.drop k)) := by
  subst ho; subst hm
  have hle : k * n + (xs.length - k) * n ≤ (rows f xs).length := by
    rw [rows_len h, ← Nat.add_mul]
    exact Nat.le_of_eq (by congr 1; omega)
  unfold takeN
  rw [Nat.ble_eq_true_of_le hle, cond_true]
  have hd : (rows f xs).drop (k * n) = rows f (xs.drop k) := by
    have : rows f xs = rows f (xs.take k) ++ rows f (xs.drop k) := by rw [← rows_append, List.take_append_drop]
    rw [this, List.drop_append_of_le_length (by rw [rows_len h]; simp [Nat.min_eq_left hk]), List.drop_of_length_le (by rw [rows_len h]; simp [Nat.min_eq_left hk]), List.nil_append]
  rw [hd, List.take_of_length_le (by rw [rows_len h]; simp)]
theorem solid_rows {xs : List AtomC} {c : V} (h : c ∈ rows tAtom xs) : solid c = true := by
  induction xs with
  | nil => cases h
  | cons x xs ih =>
    rcases List.mem_append.1 h with h | h
    · exact solid_tAtom x c h
    · exact ih h
set_option maxHeartbeats 8000000 in
theorem implWithoutAtom_spec (x0 : List Int) (x1 : QueryR) (x2 : Int) (h0 : cSchema x0 ≤ 1048576) (h1 : cQuery x1 ≤ 1048576) : Spec Try.prog 66 [vSchema x0, vQuery x1, ci x2] (wt (pWithoutAtom x0 x1 x2)) := by
  have h1' := h1
  unfold cQuery cAtomS at h1'
  have hcopy := copyQuery_spec x1 (by omega)
  have hwb := woQ_bound x1 x2 h1
  refine Spec_of mx Γ_ok Try.func66 rfl ?_
  conv => whnf
  refine ⟨_, hcopy, .inl rfl, .inr ?_⟩
  conv => whnf
  refine ⟨_, implIsQuery_spec x0 x1 h0 h1, .inl rfl, .inl ?_⟩
  conv => whnf
  unfold pWithoutAtom
  generalize isQuery x0 x1 = b1
  cases b1 with
  | false =>
    conv => whnf
    refine ⟨by rw [rows_len ciL_len], by rw [rows_len tAtom_len], rfl⟩
  | true =>
  conv => whnf
  have hw : IntKind.i64.wrap ((x1.2.length : Int) - 1) = x1.2.length - 1 := wrap_id (by omega) (by omega)
  refine ⟨_, within_spec _ _ _, .inl rfl, .inl ?_⟩
  rw [hw]
  conv => whnf
  generalize hb2 : inR x2 0 (x1.2.length - 1) = b2
  cases b2 with
  | false =>
    conv => whnf
    refine ⟨by rw [rows_len ciL_len], by rw [rows_len tAtom_len], rfl⟩
  | true =>
  conv => whnf
  rw [Bool.true_and, Bool.true_and]
  have hr : 0 ≤ x2 ∧ x2 ≤ (x1.2.length : Int) - 1 := by simpa [inR] using hb2
  obtain ⟨q, rfl⟩ : ∃ q : Nat, x2 = q := ⟨x2.toNat, by omega⟩
  have hq : q < x1.2.length := by omega
  have hw2 : IntKind.i64.wrap ((q : Int) + 1) = q + 1 := wrap_id (by omega) (by omega)
  refine ⟨List.range 12, by kernel_rfl, ?_⟩
  conv => whnf
  refine ⟨by omega, ?_⟩
  conv => whnf
  rw [hw2]
  refine ⟨by omega, ?_⟩
  conv => whnf
  rw [show (q : Int).toNat - ((0 : Nat) : Int).toNat = q from by omega, show (x1.2.length : Int).toNat - ((q : Int) + 1).toNat = x1.2.length - (q + 1) from by omega]
  refine ⟨⟨by omega, by omega, by rw [rows_len tAtom_len]; omega⟩, _, takeN_drop tAtom_len x1.2 (k := q + 1) (by omega) (by omega) rfl, fun c hc => ?_, rows tAtom (wo x1.2 q x1.2.length), ?_, ?_⟩
  · exact solid_rows hc
  · rw [rows_take tAtom_len _ _ (by omega), wo_split hq]
    exact (rows_append _ _ _).symm
  rw [show q + (x1.2.length - (q + 1)) = (wo x1.2 q x1.2.length).length from by rw [wo_split hq]; simp; omega]
  conv => whnf
  refine .inl ?_
  conv => whnf
  refine ⟨_, _, takeN_all (rows_len ciL_len _), roVs_ci _, ?_⟩
  conv => whnf
  refine ⟨_, _, takeN_all (rows_len tAtom_len _), roVs_rows tAtom_ro _, ?_⟩
  conv => whnf
  refine ⟨_, implIsQuery_spec x0 (woQ x1 q) h0 hwb, .inr trivial, .inl ?_⟩
  conv => whnf
  generalize isQuery x0 (woQ x1 q) = b4
  cases b4 with
  | false =>
    conv => whnf
    refine ⟨_, hcopy, .inl rfl, .inr ?_⟩
    conv => whnf
    refine ⟨by rw [rows_len ciL_len], by rw [rows_len tAtom_len], rfl⟩
  | true =>
    conv => whnf
    refine ⟨by rw [rows_len ciL_len], by rw [rows_len tAtom_len], rfl⟩
theorem specWithoutAtom_law (x0 : List Int) (x1 : QueryR) (x2 : Int) (h0 : cSchema x0 ≤ 1048576) (h1 : cQuery x1 ≤ 1048576) (q0 : qSchema x0) (q1 : qQuery x1) (q2 : (Lit.int .i64 x2).wf = true) : Spec Try.prog 67 [vSchema x0, vQuery x1, ci x2] (.tup [wQuery (pWithoutAtom x0 x1 x2).1, cb (pWithoutAtom x0 x1 x2).2]) := specWithoutAtom_spec x0 x1 x2 h0 h1
theorem implWithoutAtom_law (x0 : List Int) (x1 : QueryR) (x2 : Int) (h0 : cSchema x0 ≤ 1048576) (h1 : cQuery x1 ≤ 1048576) (q0 : qSchema x0) (q1 : qQuery x1) (q2 : (Lit.int .i64 x2).wf = true) : Spec Try.prog 66 [vSchema x0, vQuery x1, ci x2] (.tup [wQuery (pWithoutAtom x0 x1 x2).1, cb (pWithoutAtom x0 x1 x2).2]) := implWithoutAtom_spec x0 x1 x2 h0 h1
theorem pWithoutAtom_bound (x0 : List Int) (x1 : QueryR) (x2 : Int) (h1 : cQuery x1 ≤ 1048576) : cQuery (pWithoutAtom x0 x1 x2).1 ≤ 1048576 := by
  unfold pWithoutAtom
  split
  · exact woQ_bound x1 x2 h1
  · exact h1
theorem small_WithoutAtom (x0 : List Int) (x1 : QueryR) (x2 : Int) (h0 : cSchema x0 ≤ 1048576) (h1 : cQuery x1 ≤ 1048576) : cQuery (pWithoutAtom x0 x1 x2).1 ≤ 2147483648 := by
  have := pWithoutAtom_bound x0 x1 x2 h1
  omega
end Go.Proofs.YthfjngmbdbocbaaD
