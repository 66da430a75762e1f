/- Places of inclusions. -/
import Derived.Test.YthfjngmbdbocbaaGreatFIsKey
set_option linter.unusedVariables false
set_option linter.unusedSimpArgs false
set_option maxRecDepth 100000
namespace Go.Proofs.YthfjngmbdbocbaaGreatD
open Go Go.Proofs

def inclT (f : Int) (fa : List Int) (t : Int) (ta : List Int) : V := .agg [ci f, intsT fa, ci t, intsT ta]
theorem l2HasC_spec (xs : List Int) (v : Int) (hl : xs.length ≤ 1099511627776) : Spec Tryz.prog 69 [ints xs, ci v] (cb (xs.contains v)) := by
  refine Spec_of mx Γ_ok Tryz.func69 rfl ?_
  conv => whnf
  refine ⟨[(0,0),(1,0),(4,0),(5,0)], fun m s => ∃ (k : Nat) (e : Int), e = k ∧ m + k = xs.length ∧ (∀ j y, j < k → xs[j]? = some y → (y != v) = true) ∧ s = ⟨18, [(0, ints xs), (1, ci v), (4, cb false), (5, ci e)], []⟩, xs.length, ⟨0, 0, rfl, rfl, by simp, rfl⟩, ?_⟩
  rintro m s ⟨k, _, rfl, hm, hj, rfl⟩
  conv => whnf
  split <;> rename_i h1
  all_goals simp only [decide_eq_true_eq, decide_eq_false_iff_not] at h1
  · conv => whnf
    have hk : k < xs.length := by omega
    refine ⟨by omega, rows_len ciL_len xs, ?_⟩
    conv => whnf
    refine ⟨_, takeN_rp (k := k) ciL_len hk, ?_⟩
    conv => whnf
    split <;> rename_i h2
    · conv => whnf
      show cb true = _
      rw [List.contains_eq_mem, decide_eq_true (by rw [← eq_of_beq h2]; exact List.getElem_mem hk)]
    · conv => whnf
      exact ⟨m - 1, by omega, k + 1, _, wrap_id (by omega) (by omega), by omega, step_inv (p := fun y => y != v) hk hj (by simp [bne, h2]), rfl⟩
  · conv => whnf
    show cb false = _
    have : xs.contains v = false := by
      rw [List.contains_eq_mem, decide_eq_false_iff_not]
      intro hmem
      obtain ⟨j, hjj⟩ := List.getElem?_of_mem hmem
      have := hj j v (by have := (List.getElem?_eq_some_iff.1 hjj).1; omega) hjj
      simp at this
    rw [this]
theorem rows_take {α : Type} {f : α → List V} {n : Nat} (h : ∀ x, (f x).length = n) : ∀ (xs : List α) (k : Nat), (rows f xs).take (k * n) = rows f (xs.take k)
  | [], k => by simp [rows]
  | x :: xs, 0 => by simp [rows]
  | x :: xs, k + 1 => by
    simp only [rows, List.take_succ_cons]
    rw [← rows_take h xs k, Nat.succ_mul, Nat.add_comm, List.take_append, h x]
    rw [List.take_of_length_le (by rw [h x]; omega)]
    congr 2
    omega
/-- A slice expression's cells. -/
theorem takeN_upto {α : Type} {f : α → List V} {n : Nat} (h : ∀ x, (f x).length = n) {xs : List α} {k : Nat} (hk : k ≤ xs.length) : takeN (rows f xs) 0 (k * n) = some (rows f (xs.take k)) :=
  takeN_eq (by rw [rows_len h, Nat.zero_add]; exact Nat.mul_le_mul_right _ hk) (by rw [List.drop_zero, rows_take h])
theorem ints_upto {xs : List Int} {k : Nat} (hk : k ≤ xs.length) : V.ro k (rows ciL (xs.take k)) = ints (xs.take k) := by
  unfold ints
  rw [List.length_take, Nat.min_eq_left hk]
def plAt (n : Int) (l : List Int) (i : Nat) : Bool := inR (l.getD i 0) 0 (n - 1) && !(l.take i).contains (l.getD i 0)
def arePl (n : Int) (l : List Int) : Bool := (List.range l.length).all (plAt n l) && inR l.length 1 3
theorem l14Places_spec (l : List Int) (n : Int) (hl : l.length ≤ 1099511627776) (hn : -9223372036854775807 ≤ n ∧ n ≤ 9223372036854775807) : Spec Tryz.prog 96 [ints l, ci n] (cb (arePl n l)) := by
  refine Spec_of mx Γ_ok Tryz.func96 rfl ?_
  conv => whnf
  refine ⟨[(0,0),(1,0),(4,0),(5,0)], fun m s => ∃ (k : Nat) (e : Int), e = k ∧ m + k = l.length ∧ (∀ j, j < k → plAt n l j = true) ∧ s = ⟨33, [(0, ints l), (1, ci n), (4, cb false), (5, ci e)], []⟩, l.length, ⟨0, 0, rfl, rfl, by simp, rfl⟩, ?_⟩
  rintro m s ⟨k, _, rfl, hm, hj, rfl⟩
  conv => whnf
  split <;> rename_i h1
  all_goals simp only [decide_eq_true_eq, decide_eq_false_iff_not] at h1
  · conv => whnf
    have hk : k < l.length := by omega
    have hfalse : plAt n l k = false → cb false = cb (arePl n l) := by
      intro h
      unfold arePl
      have : (List.range l.length).all (plAt n l) = false := by
        rw [Bool.eq_false_iff]
        intro ha
        rw [List.all_eq_true] at ha
        rw [ha k (by simpa using hk)] at h
        cases h
      rw [this, Bool.false_and]
    refine ⟨List.range 18, by kernel_rfl, ?_⟩
    conv => whnf
    refine ⟨by omega, rows_len ciL_len l, ?_⟩
    conv => whnf
    refine ⟨_, takeN_rp (k := k) ciL_len hk, ?_⟩
    conv => whnf
    have hw : IntKind.i64.wrap (n - 1) = n - 1 := wrap_id (by omega) (by omega)
    refine ⟨_, l1In_spec _ _ _, .inl rfl, .inl ?_⟩
    rw [hw]
    conv => whnf
    generalize hb1 : (!inR l[k] 0 (n - 1)) = b1
    cases b1 with
    | true =>
      conv => whnf
      refine hfalse ?_
      simp only [Bool.not_eq_true'] at hb1
      unfold plAt
      rw [getD_at hk, hb1, Bool.false_and]
    | false =>
    conv => whnf
    simp only [Bool.not_eq_false'] at hb1
    refine ⟨by omega, rows_len ciL_len l, _, takeN_upto (k := k) ciL_len (by omega), ?_⟩
    conv => whnf
    refine ⟨by omega, rows_len ciL_len l, ?_⟩
    conv => whnf
    refine ⟨_, takeN_rp (k := k) ciL_len hk, ?_⟩
    conv => whnf
    have hs := l2HasC_spec (l.take k) l[k] (by rw [List.length_take]; omega)
    rw [← ints_upto (by omega)] at hs
    refine ⟨_, hs, .inl rfl, .inl ?_⟩
    conv => whnf
    generalize hb2 : (l.take k).contains l[k] = b2
    cases b2 with
    | true =>
      conv => whnf
      refine hfalse ?_
      unfold plAt
      rw [getD_at hk, hb2, Bool.not_true, Bool.and_false]
    | false =>
      conv => whnf
      refine ⟨m - 1, by omega, k + 1, _, wrap_id (by omega) (by omega), by omega, fun j hlt => ?_, rfl⟩
      rcases Nat.lt_succ_iff_lt_or_eq.1 hlt with h2 | rfl
      · exact hj j h2
      · unfold plAt
        rw [getD_at hk, hb1, hb2]
        rfl
  · conv => whnf
    refine ⟨_, l1In_spec _ _ _, .inl rfl, .inl ?_⟩
    conv => whnf
    show cb (inR l.length 1 3) = _
    unfold arePl
    have : (List.range l.length).all (plAt n l) = true := by
      rw [List.all_eq_true]
      intro j hjm
      exact hj j (by simp at hjm; omega)
    rw [this, Bool.true_and]
def difAt (l : List Int) (i : Nat) : Bool := !(l.take i).contains (l.getD i 0)
def differ (l : List Int) : Bool := (List.range l.length).all (difAt l)
theorem range_false {p : Nat → Bool} {n k : Nat} (hk : k < n) (h : p k = false) : (List.range n).all p = false := by
  rw [Bool.eq_false_iff]
  intro ha
  rw [List.all_eq_true] at ha
  rw [ha k (by simpa using hk)] at h
  cases h
theorem range_true {p : Nat → Bool} {n : Nat} (h : ∀ k, k < n → p k = true) : (List.range n).all p = true := by
  rw [List.all_eq_true]
  intro j hj
  exact h j (by simpa using hj)
theorem step_all {p : Nat → Bool} {k : Nat} (hj : ∀ j, j < k → p j = true) (h : p k = true) : ∀ j, j < k + 1 → p j = true := by
  intro j hlt
  rcases Nat.lt_succ_iff_lt_or_eq.1 hlt with h1 | rfl
  · exact hj j h1
  · exact h
theorem areDifferent_spec (l : List Int) (hl : l.length ≤ 1099511627776) : Spec Tryz.prog 105 [ints l] (cb (differ l)) := by
  refine Spec_of mx Γ_ok Tryz.func105 rfl ?_
  conv => whnf
  refine ⟨[(0,0),(2,0),(7,0),(8,0),(9,0)], fun m s => ∃ (k : Nat) (e : Int), e = k ∧ m + k = l.length ∧ (∀ j, j < k → difAt l j = true) ∧
    s = ⟨27, [(0, ints l), (2, cb false), (7, ints l), (8, ci l.length), (9, ci e)], []⟩, l.length, ⟨0, 0, rfl, rfl, by simp, rfl⟩, ?_⟩
  rintro m s ⟨k, _, rfl, hm, hj, rfl⟩
  conv => whnf
  split <;> rename_i h1
  all_goals simp only [decide_eq_true_eq, decide_eq_false_iff_not] at h1
  · conv => whnf
    have hk : k < l.length := by omega
    refine ⟨by omega, rows_len ciL_len l, ?_⟩
    conv => whnf
    refine ⟨_, takeN_rp (k := k) ciL_len hk, ?_⟩
    conv => whnf
    refine ⟨by omega, rows_len ciL_len l, _, takeN_upto (k := k) ciL_len (by omega), ?_⟩
    conv => whnf
    refine ⟨[(0,0),(2,0),(4,0),(7,0),(8,0),(9,0),(16,0),(17,0),(18,0)], fun m' s => ∃ (i : Nat) (e : Int), e = i ∧ m' + i = k ∧ (∀ j y, j < i → (l.take k)[j]? = some y → (y != l[k]) = true) ∧
      s = ⟨27, [(0, ints l), (2, cb false), (4, ci l[k]), (7, ints l), (8, ci l.length), (9, ci k), (16, .ro k (rows ciL (l.take k))), (17, ci k), (18, ci e)], []⟩, k, ⟨0, 0, rfl, rfl, by simp, rfl⟩, ?_⟩
    rintro m' s ⟨i, _, rfl, hm', hi, rfl⟩
    conv => whnf
    split <;> rename_i h2
    all_goals simp only [decide_eq_true_eq, decide_eq_false_iff_not] at h2
    · conv => whnf
      have hlen : (l.take k).length = k := by rw [List.length_take]; omega
      have hik : i < (l.take k).length := by omega
      refine ⟨by omega, (rows_len ciL_len _).trans (by rw [hlen]; rfl), ?_⟩
      conv => whnf
      refine ⟨_, takeN_rp (k := i) ciL_len hik, ?_⟩
      conv => whnf
      split <;> rename_i h3
      · conv => whnf
        show cb false = _
        unfold differ
        rw [range_false hk]
        unfold difAt
        rw [getD_at hk, List.contains_eq_mem, decide_eq_true (by rw [eq_of_beq h3]; exact List.getElem_mem hik)]
        rfl
      · conv => whnf
        exact ⟨m' - 1, by omega, i + 1, _, wrap_id (by omega) (by omega), by omega, step_inv (p := fun y => y != l[k]) hik hi (by rw [bne, Bool.not_eq_true']; rw [Bool.eq_false_iff] at h3 ⊢; intro h4; exact h3 (by rw [beq_iff_eq] at h4 ⊢; exact h4.symm)), rfl⟩
    · conv => whnf
      refine ⟨m - 1, by omega, k + 1, _, wrap_id (by omega) (by omega), by omega, step_all hj ?_, rfl⟩
      unfold difAt
      have : (l.take k).contains l[k] = false := by
        rw [List.contains_eq_mem, decide_eq_false_iff_not]
        intro hmem
        obtain ⟨j, hjj⟩ := List.getElem?_of_mem hmem
        have hlt := (List.getElem?_eq_some_iff.1 hjj).1
        rw [List.length_take] at hlt
        have := hi j _ (by omega) hjj
        simp at this
      rw [getD_at hk, this]
      rfl
  · conv => whnf
    show cb true = _
    unfold differ
    rw [range_true fun j h => hj j (by omega)]
theorem arePl_eq (n : Int) (l : List Int) : arePl n l = ((l.all fun x => inR x 0 (n - 1)) && differ l && inR l.length 1 3) := by
  unfold arePl differ
  congr 1
  rw [Bool.eq_iff_iff]
  simp only [Bool.and_eq_true, List.all_eq_true, List.mem_range]
  constructor
  · intro h
    refine ⟨fun x hx => ?_, fun j hj => ?_⟩
    · obtain ⟨j, hj⟩ := List.getElem?_of_mem hx
      have hlt := (List.getElem?_eq_some_iff.1 hj).1
      have := h j hlt
      unfold plAt at this
      rw [getD_at hlt] at this
      simp only [Bool.and_eq_true] at this
      rw [List.getElem?_eq_getElem hlt] at hj
      cases hj
      exact this.1
    · have := h j hj
      unfold plAt at this
      simp only [Bool.and_eq_true] at this
      exact this.2
  · rintro ⟨h1, h2⟩ j hj
    unfold plAt
    rw [getD_at hj, h1 _ (List.getElem_mem hj), Bool.true_and]
    have := h2 j hj
    unfold difAt at this
    rwa [getD_at hj] at this
end Go.Proofs.YthfjngmbdbocbaaGreatD
