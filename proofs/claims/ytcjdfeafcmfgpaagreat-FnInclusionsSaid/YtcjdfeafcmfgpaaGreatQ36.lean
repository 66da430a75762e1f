/- Contracts and plain laws of this seat; no condition. -/
import Derived.Test.YtcjdfeafcmfgpaaGreatQ29
import Derived.Test.YtcjdfeafcmfgpaaGreatQ19
import Derived.Test.YtcjdfeafcmfgpaaGreatQ11
set_option linter.unusedVariables false
set_option linter.unusedSimpArgs false
set_option maxRecDepth 100000
namespace Go.Proofs.YtcjdfeafcmfgpaaGreatD
open Go Go.Proofs
def pvar (q : QueryT) (v : Nat) : Bool := occurs q (v : Int) || has q.1 (v : Int)
def varsTo (q : QueryT) (k : Nat) : List Int := ((List.range k).filter (pvar q)).map Int.ofNat
def varsOf (q : QueryT) : List Int := varsTo q 20
theorem varsTo_succ (q : QueryT) (k : Nat) : varsTo q (k + 1) = if pvar q k then varsTo q k ++ [(k : Int)] else varsTo q k := by
 unfold varsTo
 rw [List.range_succ, List.filter_append, List.map_append]
 by_cases h : pvar q k = true
 ·simp [h]
 ·simp [h]
theorem varsTo_len (q : QueryT) (k : Nat) : (varsTo q k).length ≤ k := by
 unfold varsTo
 rw [List.length_map]
 exact Nat.le_trans (List.length_filter_le _ _) (by simp)
theorem has_varsOf (q : QueryT) (k : Nat) (hk : k < 20) : has (varsOf q) (k : Int) = pvar q k := by
 cases h : pvar q k with
 | true =>
  simp only [has, List.any_eq_true, varsOf, varsTo, List.mem_map, List.mem_filter, List.mem_range]
  exact ⟨k, ⟨k, ⟨hk, h⟩, rfl⟩, by simp [eqV]⟩
 | false =>
  cases h2 : has (varsOf q) (k : Int) with
  | false => rfl
  | true =>
   simp only [has, List.any_eq_true, varsOf, varsTo, List.mem_map, List.mem_filter, List.mem_range] at h2
   obtain ⟨_, ⟨j, ⟨_, hj⟩, rfl⟩, he⟩ := h2
   have : j = k := by
    have h3 : (j : Int) = k := by simpa [eqV] using he
    omega
   subst this
   rw [h] at hj
   cases hj
theorem implVarsOf_spec (q : QueryT) (h : cQuery q ≤ 1048576) : Spec Tryz.prog 143 [vQuery q] (intsT (varsOf q)) := by
 have h' := h
 unfold cQuery cAtomS at h'
 refine Spec_of mx Γ_ok Tryz.func143 rfl ?_
 conv => whnf
 refine ⟨[(1,0),(2,0),(3,0),(6,0)], fun m s => ∃ (k : Nat) (e : Int) (n : Nat) (r : List V), e = k ∧ m + k = 20 ∧ n = (varsTo q k).length ∧ r = rows ciL (varsTo q k) ∧
  s = ⟨24, [(1, .ptr 0 0), (2, cnil), (3, .own 1 1 0 n n none), (6, ci e)], [some ⟨true, rQuery q⟩, some ⟨false, r⟩]⟩, 20, ⟨0, 0, 0, _, rfl, rfl, rfl, rfl, rfl⟩, ?_⟩
 rintro m s ⟨k, _, n, _, rfl, hm, rfl, rfl, rfl⟩
 have hvl := varsTo_len q k
 have hnx := varsTo_succ q k
 conv => whnf
 split <;> rename_i h1
 all_goals simp only [decide_eq_true_eq, decide_eq_false_iff_not] at h1
 ·conv => whnf
  refine ⟨_, occurs_spec q k h, .inl rfl, .inl ?_⟩
  conv => whnf
  unfold pvar at hnx
  generalize occurs q (k : Int) = b1 at hnx
  cases b1 with
  | true =>
   conv => whnf
   refine ⟨_, rfl, .inl ⟨flat1 rfl, ?_⟩⟩
   conv => whnf
   refine ⟨by omega, rows_len ciL_len _, _, snoc_ci _ _, ?_⟩
   conv => whnf
   rw [Bool.true_or, if_pos rfl] at hnx
   refine ⟨m - 1, by omega, k + 1, _, _, _, wrap_id (by omega) (by omega), by omega, ?_, by rw [hnx], rfl⟩
   rw [hnx, List.length_append]
   rfl
  | false =>
   conv => whnf
   refine ⟨_, slicesContains_spec q.1 k (by omega), .inl rfl, .inl ?_⟩
   conv => whnf
   rw [Bool.false_or] at hnx
   generalize has q.1 (k : Int) = b2 at hnx
   cases b2 with
   | true =>
    conv => whnf
    refine ⟨_, rfl, .inl ⟨flat1 rfl, ?_⟩⟩
    conv => whnf
    refine ⟨by omega, rows_len ciL_len _, _, snoc_ci _ _, ?_⟩
    conv => whnf
    rw [if_pos rfl] at hnx
    refine ⟨m - 1, by omega, k + 1, _, _, _, wrap_id (by omega) (by omega), by omega, ?_, by rw [hnx], rfl⟩
    rw [hnx, List.length_append]
    rfl
   | false =>
    conv => whnf
    rw [if_neg (by simp)] at hnx
    exact ⟨m - 1, by omega, k + 1, _, _, _, wrap_id (by omega) (by omega), by omega, by rw [hnx], by rw [hnx], rfl⟩
 ·conv => whnf
  have hkk : k = 20 := by omega
  subst hkk
  refine ⟨by rw [rows_len ciL_len], ?_⟩
  rfl
theorem specVarsOf_spec (q : QueryT) (h : cQuery q ≤ 1048576) : Spec Tryz.prog 234 [vQuery q] (intsT (varsOf q)) := by
 have h' := h
 unfold cQuery cAtomS at h'
 have hbl : (bodyVars q).length ≤ 1048576 := by
  have h1 := bodyVars_len q (termsL q.2) []
  rw [termsL_len] at h1
  simp only [List.length_nil] at h1
  unfold bodyVars
  omega
 refine Spec_of mx Γ_ok Tryz.func234 rfl ?_
 conv => whnf
 refine ⟨[(1,0),(2,0),(3,0),(4,0)], fun m s => ∃ (k : Nat) (e : Int) (n : Nat) (r : List V), e = k ∧ m + k = 20 ∧ n = (varsTo q k).length ∧ r = rows ciL (varsTo q k) ∧
  s = ⟨25, [(1, .ptr 0 0), (2, cnil), (3, .own 1 1 0 n n none), (4, ci e)], [some ⟨true, rQuery q⟩, some ⟨false, r⟩]⟩, 20, ⟨0, 0, 0, _, rfl, rfl, rfl, rfl, rfl⟩, ?_⟩
 rintro m s ⟨k, _, n, _, rfl, hm, rfl, rfl, rfl⟩
 have hvl := varsTo_len q k
 have hnx := varsTo_succ q k
 conv => whnf
 split <;> rename_i h1
 all_goals simp only [decide_eq_true_eq, decide_eq_false_iff_not] at h1
 ·conv => whnf
  refine ⟨_, bodyVars_spec q h, .inl rfl, .inl ?_⟩
  rw [intsT_ro]
  conv => whnf
  refine ⟨_, l2Has_spec (bodyVars q) k (by omega), .inl rfl, .inl ?_⟩
  conv => whnf
  have hiv : isVar (k : Int) = true := by simp only [isVar, inR, Bool.and_eq_true, decide_eq_true_eq]; omega
  rw [has_bodyVars q _ hiv]
  unfold pvar at hnx
  generalize occurs q (k : Int) = b1 at hnx
  cases b1 with
  | true =>
   conv => whnf
   refine ⟨_, rfl, .inl ⟨flat1 rfl, ?_⟩⟩
   conv => whnf
   refine ⟨by omega, rows_len ciL_len _, _, snoc_ci _ _, ?_⟩
   conv => whnf
   rw [Bool.true_or, if_pos rfl] at hnx
   refine ⟨m - 1, by omega, k + 1, _, _, _, wrap_id (by omega) (by omega), by omega, ?_, by rw [hnx], rfl⟩
   rw [hnx, List.length_append]
   rfl
  | false =>
   conv => whnf
   refine ⟨_, l2Has_spec q.1 k (by omega), .inl rfl, .inl ?_⟩
   conv => whnf
   rw [Bool.false_or] at hnx
   generalize has q.1 (k : Int) = b2 at hnx
   cases b2 with
   | true =>
    conv => whnf
    refine ⟨_, rfl, .inl ⟨flat1 rfl, ?_⟩⟩
    conv => whnf
    refine ⟨by omega, rows_len ciL_len _, _, snoc_ci _ _, ?_⟩
    conv => whnf
    rw [if_pos rfl] at hnx
    refine ⟨m - 1, by omega, k + 1, _, _, _, wrap_id (by omega) (by omega), by omega, ?_, by rw [hnx], rfl⟩
    rw [hnx, List.length_append]
    rfl
   | false =>
    conv => whnf
    rw [if_neg (by simp)] at hnx
    exact ⟨m - 1, by omega, k + 1, _, _, _, wrap_id (by omega) (by omega), by omega, by rw [hnx], by rw [hnx], rfl⟩
 ·conv => whnf
  have hkk : k = 20 := by omega
  subst hkk
  refine ⟨by rw [rows_len ciL_len], ?_⟩
  rfl
theorem l2HasC_spec (xs : List Int) (v : Int) (hl : xs.length ≤ 1099511627776) : Spec Tryz.prog 157 [ints xs, ci v] (cb (xs.contains v)) := by
 refine Spec_of mx Γ_ok Tryz.func157 rfl ?_
 conv => whnf
 refine ⟨[(0,0),(1,0),(4,0),(5,0)], fun m s => ∃ (k : Nat) (e : Int), e = k ∧ m + k = xs.length ∧ (∀ j y, j < k → xs[j]? = some y → (y != v) = true) ∧ s = ⟨18, [(0, ints xs), (1, ci v), (4, cb false), (5, ci e)], []⟩, xs.length, ⟨0, 0, rfl, rfl, by simp, rfl⟩, ?_⟩
 rintro m s ⟨k, _, rfl, hm, hj, rfl⟩
 conv => whnf
 split <;> rename_i h1
 all_goals simp only [decide_eq_true_eq, decide_eq_false_iff_not] at h1
 ·conv => whnf
  have hk : k < xs.length := by omega
  refine ⟨by omega, rows_len ciL_len xs, ?_⟩
  conv => whnf
  refine ⟨_, takeN_rp (k := k) ciL_len hk, ?_⟩
  conv => whnf
  split <;> rename_i h2
  ·conv => whnf
   show cb true = _
   rw [List.contains_eq_mem, decide_eq_true (by rw [← eq_of_beq h2]; exact List.getElem_mem hk)]
  ·conv => whnf
   exact ⟨m - 1, by omega, k + 1, _, wrap_id (by omega) (by omega), by omega, step_inv (p := fun y => y != v) hk hj (by simp [bne, h2]), rfl⟩
 ·conv => whnf
  show cb false = _
  have : xs.contains v = false := by
   rw [List.contains_eq_mem, decide_eq_false_iff_not]
   intro hmem
   obtain ⟨j, hjj⟩ := List.getElem?_of_mem hmem
   have := hj j v (by have := (List.getElem?_eq_some_iff.1 hjj).1; omega) hjj
   simp at this
  rw [this]
theorem rows_take {α : Type} {f : α → List V} {n : Nat} (h : ∀ x, (f x).length = n) : ∀ (xs : List α) (k : Nat), (rows f xs).take (k * n) = rows f (xs.take k)
 | [], k => by simp [rows]
 | x :: xs, 0 => by simp [rows]
 | x :: xs, k + 1 => by
  simp only [rows, List.take_succ_cons]
  rw [← rows_take h xs k, Nat.succ_mul, Nat.add_comm, List.take_append, h x]
  rw [List.take_of_length_le (by rw [h x]; omega)]
  congr 2
  omega
theorem takeN_upto {α : Type} {f : α → List V} {n : Nat} (h : ∀ x, (f x).length = n) {xs : List α} {k : Nat} (hk : k ≤ xs.length) : takeN (rows f xs) 0 (k * n) = some (rows f (xs.take k)) :=
 takeN_eq (by rw [rows_len h, Nat.zero_add]; exact Nat.mul_le_mul_right _ hk) (by rw [List.drop_zero, rows_take h])
theorem ints_upto {xs : List Int} {k : Nat} (hk : k ≤ xs.length) : V.ro k (rows ciL (xs.take k)) = ints (xs.take k) := by
 unfold ints
 rw [List.length_take, Nat.min_eq_left hk]
def plAt (n : Int) (l : List Int) (i : Nat) : Bool := inR (l.getD i 0) 0 (n - 1) && !(l.take i).contains (l.getD i 0)
def arePl (n : Int) (l : List Int) : Bool := (List.range l.length).all (plAt n l) && inR l.length 1 3
theorem l14Places_spec (l : List Int) (n : Int) (hl : l.length ≤ 1099511627776) (hn : -9223372036854775807 ≤ n ∧ n ≤ 9223372036854775807) : Spec Tryz.prog 134 [ints l, ci n] (cb (arePl n l)) := by
 refine Spec_of mx Γ_ok Tryz.func134 rfl ?_
 conv => whnf
 refine ⟨[(0,0),(1,0),(4,0),(5,0)], fun m s => ∃ (k : Nat) (e : Int), e = k ∧ m + k = l.length ∧ (∀ j, j < k → plAt n l j = true) ∧ s = ⟨33, [(0, ints l), (1, ci n), (4, cb false), (5, ci e)], []⟩, l.length, ⟨0, 0, rfl, rfl, by simp, rfl⟩, ?_⟩
 rintro m s ⟨k, _, rfl, hm, hj, rfl⟩
 conv => whnf
 split <;> rename_i h1
 all_goals simp only [decide_eq_true_eq, decide_eq_false_iff_not] at h1
 ·conv => whnf
  have hk : k < l.length := by omega
  have hfalse : plAt n l k = false → cb false = cb (arePl n l) := by
   intro h
   unfold arePl
   have : (List.range l.length).all (plAt n l) = false := by
    rw [Bool.eq_false_iff]
    intro ha
    rw [List.all_eq_true] at ha
    rw [ha k (by simpa using hk)] at h
    cases h
   rw [this, Bool.false_and]
  refine ⟨List.range 18, by kernel_rfl, ?_⟩
  conv => whnf
  refine ⟨by omega, rows_len ciL_len l, ?_⟩
  conv => whnf
  refine ⟨_, takeN_rp (k := k) ciL_len hk, ?_⟩
  conv => whnf
  have hw : IntKind.i64.wrap (n - 1) = n - 1 := wrap_id (by omega) (by omega)
  refine ⟨_, l1In_spec _ _ _, .inl rfl, .inl ?_⟩
  rw [hw]
  conv => whnf
  generalize hb1 : (!inR l[k] 0 (n - 1)) = b1
  cases b1 with
  | true =>
   conv => whnf
   refine hfalse ?_
   simp only [Bool.not_eq_true'] at hb1
   unfold plAt
   rw [getD_at hk, hb1, Bool.false_and]
  | false =>
  conv => whnf
  simp only [Bool.not_eq_false'] at hb1
  refine ⟨by omega, rows_len ciL_len l, _, takeN_upto (k := k) ciL_len (by omega), ?_⟩
  conv => whnf
  refine ⟨by omega, rows_len ciL_len l, ?_⟩
  conv => whnf
  refine ⟨_, takeN_rp (k := k) ciL_len hk, ?_⟩
  conv => whnf
  have hs := l2HasC_spec (l.take k) l[k] (by rw [List.length_take]; omega)
  rw [← ints_upto (by omega)] at hs
  refine ⟨_, hs, .inl rfl, .inl ?_⟩
  conv => whnf
  generalize hb2 : (l.take k).contains l[k] = b2
  cases b2 with
  | true =>
   conv => whnf
   refine hfalse ?_
   unfold plAt
   rw [getD_at hk, hb2, Bool.not_true, Bool.and_false]
  | false =>
   conv => whnf
   refine ⟨m - 1, by omega, k + 1, _, wrap_id (by omega) (by omega), by omega, fun j hlt => ?_, rfl⟩
   rcases Nat.lt_succ_iff_lt_or_eq.1 hlt with h2 | rfl
   ·exact hj j h2
   ·unfold plAt
    rw [getD_at hk, hb1, hb2]
    rfl
 ·conv => whnf
  refine ⟨_, l1In_spec _ _ _, .inl rfl, .inl ?_⟩
  conv => whnf
  show cb (inR l.length 1 3) = _
  unfold arePl
  have : (List.range l.length).all (plAt n l) = true := by
   rw [List.all_eq_true]
   intro j hjm
   exact hj j (by simp at hjm; omega)
  rw [this, Bool.true_and]
def difAt (l : List Int) (i : Nat) : Bool := !(l.take i).contains (l.getD i 0)
def differ (l : List Int) : Bool := (List.range l.length).all (difAt l)
theorem range_false {p : Nat → Bool} {n k : Nat} (hk : k < n) (h : p k = false) : (List.range n).all p = false := by
 rw [Bool.eq_false_iff]
 intro ha
 rw [List.all_eq_true] at ha
 rw [ha k (by simpa using hk)] at h
 cases h
theorem range_true {p : Nat → Bool} {n : Nat} (h : ∀ k, k < n → p k = true) : (List.range n).all p = true := by
 rw [List.all_eq_true]
 intro j hj
 exact h j (by simpa using hj)
theorem step_all {p : Nat → Bool} {k : Nat} (hj : ∀ j, j < k → p j = true) (h : p k = true) : ∀ j, j < k + 1 → p j = true := by
 intro j hlt
 rcases Nat.lt_succ_iff_lt_or_eq.1 hlt with h1 | rfl
 ·exact hj j h1
 ·exact h
theorem areDifferent_spec (l : List Int) (hl : l.length ≤ 1099511627776) : Spec Tryz.prog 280 [ints l] (cb (differ l)) := by
 refine Spec_of mx Γ_ok Tryz.func280 rfl ?_
 conv => whnf
 refine ⟨[(0,0),(2,0),(7,0),(8,0),(9,0)], fun m s => ∃ (k : Nat) (e : Int), e = k ∧ m + k = l.length ∧ (∀ j, j < k → difAt l j = true) ∧
  s = ⟨27, [(0, ints l), (2, cb false), (7, ints l), (8, ci l.length), (9, ci e)], []⟩, l.length, ⟨0, 0, rfl, rfl, by simp, rfl⟩, ?_⟩
 rintro m s ⟨k, _, rfl, hm, hj, rfl⟩
 conv => whnf
 split <;> rename_i h1
 all_goals simp only [decide_eq_true_eq, decide_eq_false_iff_not] at h1
 ·conv => whnf
  have hk : k < l.length := by omega
  refine ⟨by omega, rows_len ciL_len l, ?_⟩
  conv => whnf
  refine ⟨_, takeN_rp (k := k) ciL_len hk, ?_⟩
  conv => whnf
  refine ⟨by omega, rows_len ciL_len l, _, takeN_upto (k := k) ciL_len (by omega), ?_⟩
  conv => whnf
  refine ⟨[(0,0),(2,0),(4,0),(7,0),(8,0),(9,0),(16,0),(17,0),(18,0)], fun m' s => ∃ (i : Nat) (e : Int), e = i ∧ m' + i = k ∧ (∀ j y, j < i → (l.take k)[j]? = some y → (y != l[k]) = true) ∧
   s = ⟨27, [(0, ints l), (2, cb false), (4, ci l[k]), (7, ints l), (8, ci l.length), (9, ci k), (16, .ro k (rows ciL (l.take k))), (17, ci k), (18, ci e)], []⟩, k, ⟨0, 0, rfl, rfl, by simp, rfl⟩, ?_⟩
  rintro m' s ⟨i, _, rfl, hm', hi, rfl⟩
  conv => whnf
  split <;> rename_i h2
  all_goals simp only [decide_eq_true_eq, decide_eq_false_iff_not] at h2
  ·conv => whnf
   have hlen : (l.take k).length = k := by rw [List.length_take]; omega
   have hik : i < (l.take k).length := by omega
   refine ⟨by omega, (rows_len ciL_len _).trans (by rw [hlen]; rfl), ?_⟩
   conv => whnf
   refine ⟨_, takeN_rp (k := i) ciL_len hik, ?_⟩
   conv => whnf
   split <;> rename_i h3
   ·conv => whnf
    show cb false = _
    unfold differ
    rw [range_false hk]
    unfold difAt
    rw [getD_at hk, List.contains_eq_mem, decide_eq_true (by rw [eq_of_beq h3]; exact List.getElem_mem hik)]
    rfl
   ·conv => whnf
    exact ⟨m' - 1, by omega, i + 1, _, wrap_id (by omega) (by omega), by omega, step_inv (p := fun y => y != l[k]) hik hi (by rw [bne, Bool.not_eq_true']; rw [Bool.eq_false_iff] at h3 ⊢; intro h4; exact h3 (by rw [beq_iff_eq] at h4 ⊢; exact h4.symm)), rfl⟩
  ·conv => whnf
   refine ⟨m - 1, by omega, k + 1, _, wrap_id (by omega) (by omega), by omega, step_all hj ?_, rfl⟩
   unfold difAt
   have : (l.take k).contains l[k] = false := by
    rw [List.contains_eq_mem, decide_eq_false_iff_not]
    intro hmem
    obtain ⟨j, hjj⟩ := List.getElem?_of_mem hmem
    have hlt := (List.getElem?_eq_some_iff.1 hjj).1
    rw [List.length_take] at hlt
    have := hi j _ (by omega) hjj
    simp at this
   rw [getD_at hk, this]
   rfl
 ·conv => whnf
  show cb true = _
  unfold differ
  rw [range_true fun j h => hj j (by omega)]
theorem arePl_eq (n : Int) (l : List Int) : arePl n l = ((l.all fun x => inR x 0 (n - 1)) && differ l && inR l.length 1 3) := by
 unfold arePl differ
 congr 1
 rw [Bool.eq_iff_iff]
 simp only [Bool.and_eq_true, List.all_eq_true, List.mem_range]
 constructor
 ·intro h
  refine ⟨fun x hx => ?_, fun j hj => ?_⟩
  ·obtain ⟨j, hj⟩ := List.getElem?_of_mem hx
   have hlt := (List.getElem?_eq_some_iff.1 hj).1
   have := h j hlt
   unfold plAt at this
   rw [getD_at hlt] at this
   simp only [Bool.and_eq_true] at this
   rw [List.getElem?_eq_getElem hlt] at hj
   cases hj
   exact this.1
  ·have := h j hj
   unfold plAt at this
   simp only [Bool.and_eq_true] at this
   exact this.2
 ·rintro ⟨h1, h2⟩ j hj
  unfold plAt
  rw [getD_at hj, h1 _ (List.getElem_mem hj), Bool.true_and]
  have := h2 j hj
  unfold difAt at this
  rwa [getD_at hj] at this
def incl (f : Int) (fa : List Int) (t : Int) (ta : List Int) : V := .agg [ci f, ints fa, ci t, ints ta]
theorem areIn_spec (l : List Int) (n : Int) (hl : l.length ≤ 1099511627776) (hn : -9223372036854775807 ≤ n ∧ n ≤ 9223372036854775807) : Spec Tryz.prog 281 [ints l, ci n] (cb (l.all fun x => inR x 0 (n - 1))) := by
 refine Spec_of mx Γ_ok Tryz.func281 rfl ?_
 conv => whnf
 refine ⟨[(1,0),(4,0),(7,0),(8,0),(9,0)], fun m s => ∃ (k : Nat) (e : Int), e = k ∧ m + k = l.length ∧ (∀ j y, j < k → l[j]? = some y → inR y 0 (n - 1) = true) ∧
  s = ⟨19, [(1, ci n), (4, cb false), (7, ints l), (8, ci l.length), (9, ci e)], []⟩, l.length, ⟨0, 0, rfl, rfl, by simp, rfl⟩, ?_⟩
 rintro m s ⟨k, _, rfl, hm, hj, rfl⟩
 conv => whnf
 split <;> rename_i h1
 all_goals simp only [decide_eq_true_eq, decide_eq_false_iff_not] at h1
 ·conv => whnf
  have hk : k < l.length := by omega
  refine ⟨by omega, rows_len ciL_len l, ?_⟩
  conv => whnf
  refine ⟨_, takeN_rp (k := k) ciL_len hk, ?_⟩
  conv => whnf
  have hw : IntKind.i64.wrap (n - 1) = n - 1 := wrap_id (by omega) (by omega)
  refine ⟨_, within_spec _ _ _, .inl rfl, .inl ?_⟩
  rw [hw]
  conv => whnf
  split <;> rename_i h2
  all_goals simp only [Bool.not_eq_true', Bool.not_eq_false'] at h2
  ·conv => whnf
   show cb false = _
   rw [all_false (p := fun x => inR x 0 (n - 1)) hk h2]
  ·conv => whnf
   exact ⟨m - 1, by omega, k + 1, _, wrap_id (by omega) (by omega), by omega, step_inv (p := fun x => inR x 0 (n - 1)) hk hj h2, rfl⟩
 ·conv => whnf
  show cb true = _
  rw [all_true (p := fun x => inR x 0 (n - 1)) fun j y h hy => hj j y (by omega) hy]
def isIncl (xs : List Int) (f : Int) (fa : List Int) (t : Int) (ta : List Int) : Bool := isSchema xs && inR f 0 (xs.length - 1) && inR t 0 (xs.length - 1) && (fa.length == ta.length) && arePl (xs.getD f.toNat 0) fa && arePl (xs.getD t.toNat 0) ta
theorem specIsInclusion_gen (xs : List Int) (f : Int) (fa : List Int) (t : Int) (ta : List Int) (hl : xs.length ≤ 1099511627776) (hf : fa.length ≤ 1099511627776) (ht : ta.length ≤ 1099511627776) : Spec Tryz.prog 31 [schema xs, incl f fa t ta] (cb (isIncl xs f fa t ta)) := by
 refine Spec_of mx Γ_ok Tryz.func31 rfl ?_
 conv => whnf
 refine ⟨_, specIsSchema_spec xs hl, .inl rfl, .inl ?_⟩
 conv => whnf
 generalize hb1 : (!isSchema xs) = b1
 cases b1 with
 | true =>
  conv => whnf
  show cb false = _
  simp at hb1
  unfold isIncl
  rw [hb1]
  rfl
 | false =>
 conv => whnf
 have hw : IntKind.i64.wrap ((xs.length : Int) - 1) = xs.length - 1 := wrap_id (by omega) (by omega)
 refine ⟨_, l1In_spec _ _ _, .inl rfl, .inl ?_⟩
 rw [hw]
 conv => whnf
 generalize hb2 : (!inR f 0 (xs.length - 1)) = b2
 cases b2 with
 | true =>
  conv => whnf
  show cb false = _
  simp at hb2
  unfold isIncl
  rw [hb2]
  simp
 | false =>
 conv => whnf
 refine ⟨_, l1In_spec _ _ _, .inl rfl, .inl ?_⟩
 rw [hw]
 conv => whnf
 generalize hb3 : (!inR t 0 (xs.length - 1)) = b3
 cases b3 with
 | true =>
  conv => whnf
  show cb false = _
  simp at hb3
  unfold isIncl
  rw [hb3]
  simp
 | false =>
 conv => whnf
 simp only [Bool.not_eq_false'] at hb1 hb2 hb3
 split <;> rename_i hb4
 ·conv => whnf
  show cb false = _
  have : (fa.length == ta.length) = false := by
   rw [beq_eq_false_iff_ne]
   intro h
   rw [h] at hb4
   simp at hb4
  unfold isIncl
  rw [this]
  simp
 have hlen : (fa.length == ta.length) = true := by
  have : (fa.length : Int) = ta.length := by simpa using hb4
  rw [beq_iff_eq]
  omega
 have hr : 0 ≤ f ∧ f ≤ (xs.length : Int) - 1 := by simpa [inR] using hb2
 have hs : 0 ≤ t ∧ t ≤ (xs.length : Int) - 1 := by simpa [inR] using hb3
 obtain ⟨p, rfl⟩ : ∃ p : Nat, f = p := ⟨f.toNat, by omega⟩
 obtain ⟨q, rfl⟩ : ∃ q : Nat, t = q := ⟨t.toNat, by omega⟩
 have hp : p < xs.length := by omega
 have hq : q < xs.length := by omega
 have hxp := schema_at hb1 hp
 have hxq := schema_at hb1 hq
 have hres : isIncl xs p fa q ta = (arePl xs[p] fa && arePl xs[q] ta) := by
  unfold isIncl
  rw [hb1, hb2, hb3, hlen, show ((p : Int)).toNat = p from rfl, show ((q : Int)).toNat = q from rfl, getD_at hp, getD_at hq]
  simp
 rw [hres]
 conv => whnf
 refine ⟨List.range 21, by kernel_rfl, ?_⟩
 conv => whnf
 refine ⟨by omega, rows_len ciL_len xs, ?_⟩
 conv => whnf
 refine ⟨_, takeN_rp (k := p) ciL_len hp, ?_⟩
 conv => whnf
 refine ⟨_, l14Places_spec fa xs[p] hf (by omega), .inl rfl, .inl ?_⟩
 conv => whnf
 generalize hb5 : arePl xs[p] fa = b5
 cases b5 with
 | false =>
  conv => whnf
  rfl
 | true =>
 conv => whnf
 refine ⟨by omega, rows_len ciL_len xs, ?_⟩
 conv => whnf
 refine ⟨_, takeN_rp (k := q) ciL_len hq, ?_⟩
 conv => whnf
 refine ⟨_, l14Places_spec ta xs[q] ht (by omega), .inl rfl, .inl ?_⟩
 conv => whnf
 rfl
theorem implIsInclusion_gen (xs : List Int) (f : Int) (fa : List Int) (t : Int) (ta : List Int) (hl : xs.length ≤ 1099511627776) (hf : fa.length ≤ 1099511627776) (ht : ta.length ≤ 1099511627776) : Spec Tryz.prog 223 [schema xs, incl f fa t ta] (cb (isIncl xs f fa t ta)) := by
 refine Spec_of mx Γ_ok Tryz.func223 rfl ?_
 conv => whnf
 refine ⟨_, implIsSchema_spec xs hl, .inl rfl, .inl ?_⟩
 conv => whnf
 generalize hb1 : (!isSchema xs) = b1
 cases b1 with
 | true =>
  conv => whnf
  show cb false = _
  simp at hb1
  unfold isIncl
  rw [hb1]
  rfl
 | false =>
 conv => whnf
 have hw : IntKind.i64.wrap ((xs.length : Int) - 1) = xs.length - 1 := wrap_id (by omega) (by omega)
 refine ⟨_, within_spec _ _ _, .inl rfl, .inl ?_⟩
 rw [hw]
 conv => whnf
 generalize hb2 : (!inR f 0 (xs.length - 1)) = b2
 cases b2 with
 | true =>
  conv => whnf
  show cb false = _
  simp at hb2
  unfold isIncl
  rw [hb2]
  simp
 | false =>
 conv => whnf
 refine ⟨_, within_spec _ _ _, .inl rfl, .inl ?_⟩
 rw [hw]
 conv => whnf
 generalize hb3 : (!inR t 0 (xs.length - 1)) = b3
 cases b3 with
 | true =>
  conv => whnf
  show cb false = _
  simp at hb3
  unfold isIncl
  rw [hb3]
  simp
 | false =>
 conv => whnf
 simp only [Bool.not_eq_false'] at hb1 hb2 hb3
 conv => whnf
 have hr : 0 ≤ f ∧ f ≤ (xs.length : Int) - 1 := by simpa [inR] using hb2
 have hs : 0 ≤ t ∧ t ≤ (xs.length : Int) - 1 := by simpa [inR] using hb3
 obtain ⟨p, rfl⟩ : ∃ p : Nat, f = p := ⟨f.toNat, by omega⟩
 obtain ⟨q, rfl⟩ : ∃ q : Nat, t = q := ⟨t.toNat, by omega⟩
 have hp : p < xs.length := by omega
 have hq : q < xs.length := by omega
 have hxp := schema_at hb1 hp
 have hxq := schema_at hb1 hq
 have hres : isIncl xs p fa q ta = ((fa.length == ta.length) && arePl xs[p] fa && arePl xs[q] ta) := by
  unfold isIncl
  rw [hb1, hb2, hb3, show ((p : Int)).toNat = p from rfl, show ((q : Int)).toNat = q from rfl, getD_at hp, getD_at hq]
  simp
 refine ⟨List.range 46, by kernel_rfl, ?_⟩
 conv => whnf
 generalize hb4 : ((fa.length : Int) == ta.length) = b4
 cases b4 with
 | false =>
  conv => whnf
  show cb false = _
  have : (fa.length == ta.length) = false := by
   rw [beq_eq_false_iff_ne]
   intro h
   rw [h] at hb4
   simp at hb4
  rw [hres, this]
  rfl
 | true =>
 have hb4' : (fa.length == ta.length) = true := by
  have : (fa.length : Int) = ta.length := by simpa using hb4
  rw [beq_iff_eq]
  omega
 conv => whnf
 refine ⟨_, within_spec _ _ _, .inl rfl, .inl ?_⟩
 conv => whnf
 generalize hb5 : inR fa.length 1 3 = b5
 cases b5 with
 | false =>
  conv => whnf
  show cb false = _
  rw [hres, arePl_eq, arePl_eq, hb5]
  simp
 | true =>
 conv => whnf
 refine ⟨_, areDifferent_spec fa hf, .inl rfl, .inl ?_⟩
 conv => whnf
 generalize hb6 : differ fa = b6
 cases b6 with
 | false =>
  conv => whnf
  show cb false = _
  rw [hres, arePl_eq, arePl_eq, hb6]
  simp
 | true =>
 conv => whnf
 refine ⟨_, areDifferent_spec ta ht, .inl rfl, .inl ?_⟩
 conv => whnf
 generalize hb7 : differ ta = b7
 cases b7 with
 | false =>
  conv => whnf
  show cb false = _
  rw [hres, arePl_eq, arePl_eq, hb7]
  simp
 | true =>
 conv => whnf
 refine ⟨by omega, rows_len ciL_len xs, ?_⟩
 conv => whnf
 refine ⟨_, takeN_rp (k := p) ciL_len hp, ?_⟩
 conv => whnf
 refine ⟨_, areIn_spec fa xs[p] hf (by omega), .inl rfl, .inl ?_⟩
 conv => whnf
 generalize hb8 : (fa.all fun x => inR x 0 (xs[p] - 1)) = b8
 cases b8 with
 | false =>
  conv => whnf
  show cb false = _
  rw [hres, arePl_eq, hb8]
  simp
 | true =>
 conv => whnf
 refine ⟨by omega, rows_len ciL_len xs, ?_⟩
 conv => whnf
 refine ⟨_, takeN_rp (k := q) ciL_len hq, ?_⟩
 conv => whnf
 refine ⟨_, areIn_spec ta xs[q] ht (by omega), .inl rfl, .inl ?_⟩
 conv => whnf
 show cb (ta.all fun x => inR x 0 (xs[q] - 1)) = _
 have hl5 : inR ta.length 1 3 = true := by
  rw [beq_iff_eq] at hb4'
  rw [← hb4']
  exact hb5
 rw [hres, arePl_eq, arePl_eq, hb4', hb8, hb6, hb7, hb5, hl5]
 simp
abbrev InclQ := Int × List Int × Int × List Int
def pIsInclusion (x0 : List Int) (x1 : InclQ) : Bool := isIncl x0 x1.1 x1.2.1 x1.2.2.1 x1.2.2.2
end Go.Proofs.YtcjdfeafcmfgpaaGreatD
