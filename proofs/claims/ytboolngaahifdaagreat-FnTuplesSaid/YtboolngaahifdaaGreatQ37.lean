/- Contracts and plain laws of this seat; no condition. -/
import Derived.Test.YtboolngaahifdaaGreatQ11
set_option linter.unusedVariables false
set_option linter.unusedSimpArgs false
set_option maxRecDepth 100000
namespace Go.Proofs.YtboolngaahifdaaGreatD
open Go Go.Proofs
theorem getN_at {xs : List Int} {k : Nat} (h : k < xs.length) : xs.getD k 0 = xs[k] := by simp [List.getD_eq_getElem?_getD, h]
def badN (xs : List Int) (n : Int) (k : Nat) : Bool := decide (xs.getD k 0 < 0) || decide (xs.getD k 0 ≥ n) || (decide ((k : Int) > 0) && decide (xs.getD (k - 1) 0 ≥ xs.getD k 0))
def nsRow (xs : List Int) (i j : Nat) (s : Int) : List Int := xs.mapIdx fun p v => if i ≤ p ∧ p < j then s + 1 + ((p - i : Nat) : Int) else v
theorem nsRow_length (xs : List Int) (i j : Nat) (s : Int) : (nsRow xs i j s).length = xs.length := by simp [nsRow]
theorem nsRow_get (xs : List Int) (i j : Nat) (s : Int) (p : Nat) (h : p < (nsRow xs i j s).length) : (nsRow xs i j s)[p] = if i ≤ p ∧ p < j then s + 1 + ((p - i : Nat) : Int) else xs[p]'(by rw [nsRow_length] at h; exact h) := by
 simp [nsRow]
theorem nsRow_set (xs : List Int) (i j : Nat) (s v : Int) (hij : i ≤ j) (hv : v = s + 1 + ((j - i : Nat) : Int)) : (nsRow xs i j s).set j v = nsRow xs i (j + 1) s := by
 apply List.ext_getElem
 ·simp [nsRow_length]
 ·intro p h1 h2
  rw [List.getElem_set, nsRow_get, nsRow_get]
  split
  ·rename_i e
   subst e
   rw [if_pos (by omega), hv]
  ·split <;> split <;> first | rfl | omega
theorem nsRow_none (xs : List Int) (i : Nat) (s : Int) : nsRow xs i i s = xs := by
 apply List.ext_getElem
 ·simp [nsRow_length]
 ·intro p h1 h2
  rw [nsRow_get, if_neg (by omega)]
def nsScan (xs : List Int) (n : Int) : Nat → List Int × Bool
 | 0 => ([], false)
 | i + 1 => if xs.getD i 0 < n - xs.length + i then (nsRow xs i xs.length (xs.getD i 0), true) else nsScan xs n i
def pNext (xs : List Int) (n : Int) : List Int × Bool := if (List.range xs.length).any (badN xs n) then ([], false) else nsScan xs n xs.length
theorem nsScan_length (xs : List Int) (n : Int) : ∀ i, (nsScan xs n i).1.length ≤ xs.length
 | 0 => Nat.zero_le _
 | i + 1 => by
  rw [nsScan]
  split
  ·rw [nsRow_length]; exact Nat.le_refl _
  ·exact nsScan_length xs n i
theorem pNext_length (xs : List Int) (n : Int) : (pNext xs n).1.length ≤ xs.length := by
 unfold pNext
 split
 ·exact Nat.zero_le _
 ·exact nsScan_length xs n _
theorem any_range {f : Nat → Bool} {n k : Nat} (hk : k < n) (h : f k = true) : (List.range n).any f = true := List.any_eq_true.2 ⟨k, List.mem_range.2 hk, h⟩
theorem no_range {f : Nat → Bool} {n : Nat} (h : ∀ k, k < n → f k = false) : (List.range n).any f = false := by
 rw [List.any_eq_false]
 intro k hk
 simp [h k (List.mem_range.1 hk)]
def smN (xs : List Int) : Prop := xs.length ≤ 1000 ∧ ∀ x ∈ xs, -1000 ≤ x ∧ x ≤ 1000
theorem smN_at {xs : List Int} (h : smN xs) {k : Nat} (hk : k < xs.length) : -1000 ≤ xs[k] ∧ xs[k] ≤ 1000 := h.2 _ (List.getElem_mem hk)
def wNext (r : List Int × Bool) : V := .tup [intsT r.1, cb r.2]
set_option maxHeartbeats 4000000 in
theorem implNextSet_spec (xs : List Int) (n : Int) (h : smN xs) (hn : -1000 ≤ n ∧ n ≤ 1000) : Spec Tryz.prog 48 [ints xs, ci n] (wNext (pNext xs n)) := by
 have hl := h.1
 refine Spec_of mx Γ_ok Tryz.func48 rfl ?_
 conv => whnf
 refine ⟨[(0,0),(1,0),(4,0),(5,0),(12,0),(13,0),(14,0)], fun m s => ∃ (k : Nat) (e : Int), e = k ∧ m + k = xs.length ∧ (∀ j, j < k → badN xs n j = false) ∧
  s = ⟨81, [(0, ints xs), (1, ci n), (4, cnil), (5, cb false), (12, ints xs), (13, ci xs.length), (14, ci e)], []⟩, xs.length, ⟨0, 0, rfl, rfl, by intro j hj; omega, rfl⟩, ?_⟩
 rintro m s ⟨k, _, rfl, hm, hno, rfl⟩
 conv => whnf
 split <;> rename_i h1
 all_goals simp only [decide_eq_true_eq, decide_eq_false_iff_not] at h1
 ·conv => whnf
  have hk : k < xs.length := by omega
  refine ⟨by omega, rows_len ciL_len xs, ?_⟩
  conv => whnf
  refine ⟨_, takeN_rp (k := k) ciL_len hk, ?_⟩
  conv => whnf
  have e0 : xs.getD k 0 = xs[k] := getN_at hk
  have hbk : badN xs n k = (decide (xs[k] < 0) || decide (xs[k] ≥ n) || (decide ((k : Int) > 0) && decide (xs.getD (k - 1) 0 ≥ xs[k]))) := by unfold badN; rw [e0]
  have hbad : badN xs n k = true → pNext xs n = ([], false) := fun hb => by unfold pNext; rw [if_pos (any_range hk hb)]
  have hgo : badN xs n k = false → ∃ m', m' < m ∧ ∃ (k' : Nat) (e : Int), e = k' ∧ m' + k' = xs.length ∧ (∀ j, j < k' → badN xs n j = false) ∧
    (⟨81, [(0, ints xs), (1, ci n), (4, cnil), (5, cb false), (12, ints xs), (13, ci xs.length), (14, ci (IntKind.i64.wrap ((k : Int) + 1)))], []⟩ : St) = ⟨81, [(0, ints xs), (1, ci n), (4, cnil), (5, cb false), (12, ints xs), (13, ci xs.length), (14, ci e)], []⟩ := fun hb =>
   ⟨m - 1, by omega, k + 1, _, wrap_id (by omega) (by omega), by omega, fun j hj => by
    rcases Nat.lt_or_ge j k with h2 | h2
    ·exact hno j h2
    ·obtain rfl : j = k := by omega
     exact hb, rfl⟩
  generalize hb1 : decide (xs[k] < 0) = b1 at hbk
  cases b1 with
  | true =>
   conv => whnf
   rw [hbad (by rw [hbk]; rfl)]
   exact ⟨rfl, rfl⟩
  | false =>
  conv => whnf
  generalize hb2 : decide (xs[k] ≥ n) = b2 at hbk
  cases b2 with
  | true =>
   conv => whnf
   rw [hbad (by rw [hbk]; rfl)]
   exact ⟨rfl, rfl⟩
  | false =>
  conv => whnf
  generalize hb3 : decide ((k : Int) > 0) = b3 at hbk
  cases b3 with
  | false =>
   conv => whnf
   exact hgo (by rw [hbk]; rfl)
  | true =>
  conv => whnf
  have hk0 : 0 < k := by have := of_decide_eq_true hb3; omega
  rw [show IntKind.i64.wrap ((k : Int) - 1) = ((k - 1 : Nat) : Int) from (wrap_id (by omega) (by omega)).trans (by omega)]
  rw [getN_at (show k - 1 < xs.length by omega)] at hbk
  refine ⟨by omega, rows_len ciL_len xs, ?_⟩
  conv => whnf
  refine ⟨_, takeN_rp (k := k - 1) ciL_len (by omega), ?_⟩
  conv => whnf
  generalize hb4 : decide (xs[k - 1] ≥ xs[k]) = b4 at hbk
  cases b4 with
  | true =>
   conv => whnf
   rw [hbad (by rw [hbk]; rfl)]
   exact ⟨rfl, rfl⟩
  | false =>
   conv => whnf
   exact hgo (by rw [hbk]; rfl)
 ·conv => whnf
  have hkk : k = xs.length := by omega
  subst hkk
  have hP : pNext xs n = nsScan xs n xs.length := by unfold pNext; rw [no_range hno]; rfl
  rw [show IntKind.i64.wrap ((xs.length : Int) - 1) = (xs.length : Int) - 1 from wrap_id (by omega) (by omega)]
  refine ⟨[(0,0),(1,0),(4,0),(5,0),(8,0),(9,0)], fun m s => ∃ (i : Nat) (e : Int), e = (i : Int) - 1 ∧ m = i ∧ i ≤ xs.length ∧ pNext xs n = nsScan xs n i ∧
   s = ⟨81, [(0, ints xs), (1, ci n), (4, cnil), (5, cb false), (8, ci xs.length), (9, ci e)], []⟩, xs.length, ⟨xs.length, _, rfl, rfl, Nat.le_refl _, hP, rfl⟩, ?_⟩
  rintro m s ⟨i, _, rfl, him, hi, hP, rfl⟩
  conv => whnf
  split <;> rename_i h2
  all_goals simp only [decide_eq_true_eq, decide_eq_false_iff_not] at h2
  ·conv => whnf
   obtain ⟨i, rfl⟩ : ∃ j, i = j + 1 := ⟨i - 1, by omega⟩
   have hil : i < xs.length := by omega
   have hx := smN_at h hil
   rw [nsScan, getN_at hil] at hP
   rw [show (((i + 1 : Nat) : Int) - 1) = (i : Int) from by omega]
   refine ⟨by omega, rows_len ciL_len xs, ?_⟩
   conv => whnf
   refine ⟨_, takeN_rp (k := i) ciL_len hil, ?_⟩
   conv => whnf
   rw [show IntKind.i64.wrap (IntKind.i64.wrap (n - xs.length) + i) = n - xs.length + i from by rw [wrap_id (x := n - xs.length) (by omega) (by omega), wrap_id (by omega) (by omega)]]
   generalize hb5 : decide (xs[i] < n - xs.length + i) = b5
   cases b5 with
   | false =>
    conv => whnf
    rw [if_neg (of_decide_eq_false hb5)] at hP
    exact ⟨i, by omega, i, _, wrap_id (by omega) (by omega), rfl, by omega, hP, rfl⟩
   | true =>
    conv => whnf
    rw [if_pos (of_decide_eq_true hb5)] at hP
    refine ⟨_, copyInts_spec xs (by omega), .inl rfl, .inr ?_⟩
    conv => whnf
    refine ⟨[(0,0),(1,0),(8,0),(9,0),(10,0),(11,0)], fun m s => ∃ (j : Nat) (e : Int) (ys : List Int) (r : List V), e = (j : Int) ∧ m + j = xs.length ∧ i ≤ j ∧ ys = nsRow xs i j xs[i] ∧ r = rows ciL ys ∧
     s = ⟨81, [(0, ints xs), (1, ci n), (8, ci xs.length), (9, ci i), (10, .own 0 1 0 xs.length xs.length none), (11, ci e)], [some ⟨false, r⟩]⟩, xs.length - i, ⟨i, _, xs, _, rfl, by omega, Nat.le_refl _, (nsRow_none _ _ _).symm, rfl, rfl⟩, ?_⟩
    rintro m' s ⟨j, _, ys, _, rfl, hm', hij, hys, rfl, rfl⟩
    have hyl : ys.length = xs.length := by rw [hys, nsRow_length]
    conv => whnf
    split <;> rename_i h3
    all_goals simp only [decide_eq_true_eq, decide_eq_false_iff_not] at h3
    ·conv => whnf
     have hjl : j < xs.length := by omega
     refine ⟨by omega, rows_len ciL_len xs, ?_⟩
     conv => whnf
     refine ⟨_, takeN_rp (k := i) ciL_len hil, ?_⟩
     conv => whnf
     rw [show IntKind.i64.wrap (IntKind.i64.wrap (IntKind.i64.wrap (xs[i] + 1) + j) - i) = xs[i] + 1 + ((j - i : Nat) : Int) from by rw [wrap_id (x := xs[i] + 1) (by omega) (by omega), wrap_id (x := xs[i] + 1 + j) (by omega) (by omega), wrap_id (by omega) (by omega)]; omega]
     refine ⟨by omega, ?_⟩
     conv => whnf
     refine ⟨_, takeN_own (k := j) (d := 0) (xs := ys) ciL_len (Nat.zero_add _) (by omega) (Nat.le_refl _) rfl, _, rfl, ?_⟩
     conv => whnf
     refine ⟨m' - 1, by omega, j + 1, _, ys.set j (xs[i] + 1 + ((j - i : Nat) : Int)), _, wrap_id (by omega) (by omega), by omega, by omega, ?_, ?_, rfl⟩
     ·rw [hys]
      exact nsRow_set _ _ _ _ _ hij rfl
     ·exact (congrArg (fun o => setC (rows ciL ys) o (ciL (xs[i] + 1 + ((j - i : Nat) : Int)))) (Nat.zero_add _)).trans (setC_rows ciL_len (by omega) (by omega) _)
    ·conv => whnf
     refine ⟨by rw [rows_len ciL_len, hyl], ?_⟩
     obtain rfl : j = xs.length := by omega
     rw [hP, hys]
     show _ = V.tup [.tr 1 (nsRow xs i xs.length xs[i]).length _, _]
     rw [nsRow_length]
     rfl
  ·conv => whnf
   obtain rfl : i = 0 := by omega
   rw [hP]
   exact ⟨rfl, rfl⟩
set_option maxHeartbeats 4000000 in
theorem specNextSet_spec (xs : List Int) (n : Int) (h : smN xs) (hn : -1000 ≤ n ∧ n ≤ 1000) : Spec Tryz.prog 49 [ints xs, ci n] (wNext (pNext xs n)) := by
 have hl := h.1
 refine Spec_of mx Γ_ok Tryz.func49 rfl ?_
 conv => whnf
 refine ⟨[(0,0),(1,0),(4,0),(5,0),(6,0),(7,0)], fun m s => ∃ (k : Nat) (e : Int), e = k ∧ m + k = xs.length ∧ (∀ j, j < k → badN xs n j = false) ∧
  s = ⟨93, [(0, ints xs), (1, ci n), (4, cnil), (5, cb false), (6, ci xs.length), (7, ci e)], []⟩, xs.length, ⟨0, 0, rfl, rfl, by intro j hj; omega, rfl⟩, ?_⟩
 rintro m s ⟨k, _, rfl, hm, hno, rfl⟩
 conv => whnf
 split <;> rename_i h1
 all_goals simp only [decide_eq_true_eq, decide_eq_false_iff_not] at h1
 ·conv => whnf
  have hk : k < xs.length := by omega
  refine ⟨[0, 1, 2, 3, 4, 5, 6, 7, 8, 9, 10, 11, 12, 13, 14, 15, 16, 17, 18, 19, 20, 21, 22, 23, 24, 25, 26, 27, 28], by kernel_rfl, ?_⟩
  conv => whnf
  refine ⟨by omega, rows_len ciL_len xs, ?_⟩
  conv => whnf
  refine ⟨_, takeN_rp (k := k) ciL_len hk, ?_⟩
  conv => whnf
  have e0 : xs.getD k 0 = xs[k] := getN_at hk
  have hbk : badN xs n k = (decide (xs[k] < 0) || decide (xs[k] ≥ n) || (decide ((k : Int) > 0) && decide (xs.getD (k - 1) 0 ≥ xs[k]))) := by unfold badN; rw [e0]
  have hbad : badN xs n k = true → pNext xs n = ([], false) := fun hb => by unfold pNext; rw [if_pos (any_range hk hb)]
  have hgo : badN xs n k = false → ∃ m', m' < m ∧ ∃ (k' : Nat) (e : Int), e = k' ∧ m' + k' = xs.length ∧ (∀ j, j < k' → badN xs n j = false) ∧
    (⟨93, [(0, ints xs), (1, ci n), (4, cnil), (5, cb false), (6, ci xs.length), (7, ci (IntKind.i64.wrap ((k : Int) + 1)))], []⟩ : St) = ⟨93, [(0, ints xs), (1, ci n), (4, cnil), (5, cb false), (6, ci xs.length), (7, ci e)], []⟩ := fun hb =>
   ⟨m - 1, by omega, k + 1, _, wrap_id (by omega) (by omega), by omega, fun j hj => by
    rcases Nat.lt_or_ge j k with h2 | h2
    ·exact hno j h2
    ·obtain rfl : j = k := by omega
     exact hb, rfl⟩
  generalize hb1 : decide (xs[k] < 0) = b1 at hbk
  cases b1 with
  | true =>
   conv => whnf
   rw [hbad (by rw [hbk]; rfl)]
   exact ⟨rfl, rfl⟩
  | false =>
  conv => whnf
  refine ⟨by omega, rows_len ciL_len xs, ?_⟩
  conv => whnf
  refine ⟨_, takeN_rp (k := k) ciL_len hk, ?_⟩
  conv => whnf
  generalize hb2 : decide (xs[k] ≥ n) = b2 at hbk
  cases b2 with
  | true =>
   conv => whnf
   rw [hbad (by rw [hbk]; rfl)]
   exact ⟨rfl, rfl⟩
  | false =>
  conv => whnf
  generalize hb3 : decide ((k : Int) > 0) = b3 at hbk
  cases b3 with
  | false =>
   conv => whnf
   exact hgo (by rw [hbk]; rfl)
  | true =>
  conv => whnf
  have hk0 : 0 < k := by have := of_decide_eq_true hb3; omega
  refine ⟨by omega, rows_len ciL_len xs, ?_⟩
  conv => whnf
  refine ⟨_, takeN_rp (k := k) ciL_len hk, ?_⟩
  conv => whnf
  rw [show IntKind.i64.wrap ((k : Int) - 1) = ((k - 1 : Nat) : Int) from (wrap_id (by omega) (by omega)).trans (by omega)]
  rw [getN_at (show k - 1 < xs.length by omega)] at hbk
  refine ⟨by omega, rows_len ciL_len xs, ?_⟩
  conv => whnf
  refine ⟨_, takeN_rp (k := k - 1) ciL_len (by omega), ?_⟩
  conv => whnf
  generalize hb4 : decide (xs[k] ≤ xs[k - 1]) = b4
  have hb4' : decide (xs[k - 1] ≥ xs[k]) = b4 := hb4
  rw [hb4'] at hbk
  cases b4 with
  | true =>
   conv => whnf
   rw [hbad (by rw [hbk]; rfl)]
   exact ⟨rfl, rfl⟩
  | false =>
   conv => whnf
   exact hgo (by rw [hbk]; rfl)
 ·conv => whnf
  have hkk : k = xs.length := by omega
  subst hkk
  have hP : pNext xs n = nsScan xs n xs.length := by unfold pNext; rw [no_range hno]; rfl
  refine ⟨rows_len ciL_len _, solid_ci _, ?_⟩
  conv => whnf
  refine ⟨by omega, rfl, _, app_ci [] xs, ?_⟩
  conv => whnf
  rw [show IntKind.i64.wrap ((xs.length : Int) - 1) = (xs.length : Int) - 1 from wrap_id (by omega) (by omega)]
  refine ⟨[(0,0),(1,0),(4,0),(5,0),(6,0),(8,0),(9,0)], fun m s => ∃ (i n1 : Nat) (e : Int) (r : List V), e = (i : Int) - 1 ∧ m = i ∧ i ≤ xs.length ∧ pNext xs n = nsScan xs n i ∧ n1 = xs.length ∧ r = rows ciL xs ∧
   s = ⟨93, [(0, ints xs), (1, ci n), (4, cnil), (5, cb false), (6, ci xs.length), (8, .own 0 1 0 n1 n1 none), (9, ci e)], [some ⟨false, r⟩]⟩, xs.length, ⟨xs.length, 0 + xs.length, _, rows ciL ([] ++ xs), rfl, rfl, Nat.le_refl _, hP, Nat.zero_add _, rfl, rfl⟩, ?_⟩
  rintro m s ⟨i, n1, _, _, rfl, him, hi, hP, rfl, rfl, rfl⟩
  conv => whnf
  split <;> rename_i h2
  all_goals simp only [decide_eq_true_eq, decide_eq_false_iff_not] at h2
  ·conv => whnf
   obtain ⟨i, rfl⟩ : ∃ j, i = j + 1 := ⟨i - 1, by omega⟩
   have hil : i < xs.length := by omega
   have hx := smN_at h hil
   rw [nsScan, getN_at hil] at hP
   rw [show (((i + 1 : Nat) : Int) - 1) = (i : Int) from by omega]
   refine ⟨by omega, ?_⟩
   conv => whnf
   refine ⟨_, takeN_own (k := i) (d := 0) (m := 1) (xs := xs) ciL_len (Nat.zero_add _) hil (Nat.le_refl _) rfl, ?_⟩
   conv => whnf
   rw [show IntKind.i64.wrap (IntKind.i64.wrap (n - xs.length) + i) = n - xs.length + i from by rw [wrap_id (x := n - xs.length) (by omega) (by omega), wrap_id (by omega) (by omega)]]
   generalize hb5 : decide (xs[i] < n - xs.length + i) = b5
   cases b5 with
   | false =>
    conv => whnf
    rw [if_neg (of_decide_eq_false hb5)] at hP
    exact ⟨i, by omega, i, _, _, _, wrap_id (by omega) (by omega), rfl, by omega, hP, rfl, rfl, rfl⟩
   | true =>
    conv => whnf
    rw [if_pos (of_decide_eq_true hb5)] at hP
    refine ⟨by omega, ?_⟩
    conv => whnf
    refine ⟨_, takeN_own (k := i) (d := 0) (m := 1) (xs := xs) ciL_len (Nat.zero_add _) hil (Nat.le_refl _) rfl, ?_⟩
    conv => whnf
    rw [show IntKind.i64.wrap (xs[i] + 1) = xs[i] + 1 from wrap_id (by omega) (by omega)]
    refine ⟨by omega, ?_⟩
    conv => whnf
    refine ⟨_, takeN_own (k := i) (d := 0) (xs := xs) ciL_len (Nat.zero_add _) hil (Nat.le_refl _) rfl, _, rfl, ?_⟩
    conv => whnf
    have hrow : setC (rows ciL xs) (0 + i * 1) [ci (xs[i] + 1)] = rows ciL (nsRow xs i (i + 1) xs[i]) := by
     have h5 := nsRow_set xs i i xs[i] (xs[i] + 1) (Nat.le_refl _) (by omega)
     rw [nsRow_none] at h5
     rw [← h5]
     exact (congrArg (fun o => setC (rows ciL xs) o (ciL (xs[i] + 1))) (Nat.zero_add _)).trans (setC_rows ciL_len (by omega) hil _)
    refine ⟨[(0,0),(1,0),(6,0),(8,0),(9,0),(10,0)], fun m s => ∃ (j : Nat) (e : Int) (ys : List Int) (r : List V), e = (j : Int) ∧ m + j = xs.length ∧ i < j ∧ ys = nsRow xs i j xs[i] ∧ r = rows ciL ys ∧
     s = ⟨93, [(0, ints xs), (1, ci n), (6, ci xs.length), (8, .own 0 1 0 xs.length xs.length none), (9, ci i), (10, ci e)], [some ⟨false, r⟩]⟩, xs.length - (i + 1), ⟨i + 1, _, _, _, wrap_id (by omega) (by omega), by omega, by omega, rfl, hrow, rfl⟩, ?_⟩
    rintro m' s ⟨j, _, ys, _, rfl, hm', hij, hys, rfl, rfl⟩
    have hyl : ys.length = xs.length := by rw [hys, nsRow_length]
    conv => whnf
    split <;> rename_i h3
    all_goals simp only [decide_eq_true_eq, decide_eq_false_iff_not] at h3
    ·conv => whnf
     have hjl : j < xs.length := by omega
     have hj1 : j - 1 < ys.length := by omega
     rw [show IntKind.i64.wrap ((j : Int) - 1) = ((j - 1 : Nat) : Int) from (wrap_id (by omega) (by omega)).trans (by omega)]
     refine ⟨by omega, ?_⟩
     conv => whnf
     refine ⟨_, takeN_own (k := j - 1) (d := 0) (m := 1) (xs := ys) ciL_len (Nat.zero_add _) hj1 (Nat.le_refl _) rfl, ?_⟩
     conv => whnf
     have hv : ys[j - 1] = xs[i] + 1 + ((j - 1 - i : Nat) : Int) := by
      subst hys
      rw [nsRow_get, if_pos (by omega)]
     rw [hv]
     rw [show IntKind.i64.wrap (xs[i] + 1 + ((j - 1 - i : Nat) : Int) + 1) = xs[i] + 1 + ((j - i : Nat) : Int) from (wrap_id (by omega) (by omega)).trans (by omega)]
     refine ⟨by omega, ?_⟩
     conv => whnf
     refine ⟨_, takeN_own (k := j) (d := 0) (xs := ys) ciL_len (Nat.zero_add _) (by omega) (Nat.le_refl _) rfl, _, rfl, ?_⟩
     conv => whnf
     refine ⟨m' - 1, by omega, j + 1, _, ys.set j (xs[i] + 1 + ((j - i : Nat) : Int)), _, wrap_id (by omega) (by omega), by omega, by omega, ?_, ?_, rfl⟩
     ·rw [hys]
      exact nsRow_set _ _ _ _ _ (by omega) rfl
     ·exact (congrArg (fun o => setC (rows ciL ys) o (ciL (xs[i] + 1 + ((j - i : Nat) : Int)))) (Nat.zero_add _)).trans (setC_rows ciL_len (by omega) (by omega) _)
    ·conv => whnf
     refine ⟨by rw [rows_len ciL_len, hyl], ?_⟩
     obtain rfl : j = xs.length := by omega
     rw [hP, hys]
     show _ = V.tup [.tr 1 (nsRow xs i xs.length xs[i]).length _, _]
     rw [nsRow_length]
     rfl
  ·conv => whnf
   obtain rfl : i = 0 := by omega
   rw [hP]
   exact ⟨rfl, rfl⟩
end Go.Proofs.YtboolngaahifdaaGreatD
