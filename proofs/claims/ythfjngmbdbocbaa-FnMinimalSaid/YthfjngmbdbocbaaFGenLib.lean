/- Lists of numbers: how the laws copy, compare and count them. -/
import Derived.Test.YthfjngmbdbocbaaTab
import Derived.Test.YthfjngmbdbocbaaD22
set_option linter.unusedVariables false
set_option linter.unusedSimpArgs false
namespace Go.Proofs.YthfjngmbdbocbaaD
open Go Go.Proofs

theorem repl_rows {α : Type} {f : α → List V} {d : α} {z : List V} (h : f d = z) : ∀ n : Nat, repl n z = rows f (List.replicate n d)
  | 0 => rfl
  | n + 1 => by simp only [repl, List.replicate_succ, rows, h, repl_rows h n]
theorem list_eq {xs ys : List Int} (hl : ys.length = xs.length) (h : ∀ j, j < xs.length → ys[j]? = xs[j]?) : ys = xs := by
  apply List.ext_getElem?
  intro j
  rcases Nat.lt_or_ge j xs.length with h1 | h1
  · exact h j h1
  · rw [List.getElem?_eq_none h1, List.getElem?_eq_none (by omega)]
theorem toIntS_spec (xs : List Int) (hl : xs.length ≤ 1099511627776) : Spec Try.prog 79 [ints xs] (intsT xs) := by
  refine Spec_of mx Γ_ok Try.func79 rfl ?_
  conv => whnf
  refine ⟨by omega, _, repl_rows (f := ciL) (d := 0) rfl _, ?_⟩
  conv => whnf
  refine ⟨[(0,0),(2,0),(3,0),(4,0)], fun m s => ∃ (k : Nat) (e : Int) (ys : List Int) (r : List V), e = k ∧ m + k = xs.length ∧ ys.length = xs.length ∧ (∀ j, j < k → ys[j]? = xs[j]?) ∧ r = rows ciL ys ∧
    s = ⟨22, [(0, ints xs), (2, cnil), (3, .own 0 1 0 xs.length xs.length none), (4, ci e)], [some ⟨false, r⟩]⟩, xs.length, ⟨0, 0, List.replicate xs.length 0, _, rfl, rfl, by simp, by simp, rfl, rfl⟩, ?_⟩
  rintro m s ⟨k, _, ys, _, rfl, hm, hy, hj, rfl, rfl⟩
  conv => whnf
  split <;> rename_i h1
  all_goals simp only [decide_eq_true_eq, decide_eq_false_iff_not] at h1
  · conv => whnf
    have hk : k < xs.length := by omega
    refine ⟨by omega, rows_len ciL_len xs, ?_⟩
    conv => whnf
    refine ⟨_, takeN_rp (k := k) ciL_len hk, ?_⟩
    conv => whnf
    refine ⟨by omega, ?_⟩
    conv => whnf
    refine ⟨_, takeN_own (k := k) (d := 0) (xs := ys) ciL_len (Nat.zero_add _) (by omega) (Nat.le_refl _) rfl, _, rfl, ?_⟩
    conv => whnf
    refine ⟨m - 1, by omega, k + 1, _, ys.set k xs[k], _, wrap_id (by omega) (by omega), by omega, by simp [hy], ?_, ?_, rfl⟩
    · intro j hj'
      rw [List.getElem?_set]
      by_cases h2 : k = j
      · subst h2
        rw [if_pos rfl, if_pos (by omega), List.getElem?_eq_getElem hk]
      · rw [if_neg h2]
        exact hj j (by omega)
    · exact (congrArg (fun o => setC (rows ciL ys) o (ciL xs[k])) (Nat.zero_add _)).trans (setC_rows ciL_len (by omega) (by omega) _)
  · conv => whnf
    refine ⟨by rw [rows_len ciL_len, hy], ?_⟩
    have : ys = xs := list_eq hy fun j h => hj j (by omega)
    rw [this]
    rfl
theorem beq_len {xs ys : List Int} (h : xs.length ≠ ys.length) : (xs == ys) = false := by
  rw [beq_eq_false_iff_ne]
  intro he
  exact h (congrArg List.length he)
theorem eqIntS_spec (xs ys : List Int) (hl : xs.length ≤ 1099511627776) (hl' : ys.length ≤ 1099511627776) : Spec Try.prog 84 [ints xs, ints ys] (cb (xs == ys)) := by
  refine Spec_of mx Γ_ok Try.func84 rfl ?_
  conv => whnf
  split <;> rename_i h0
  · conv => whnf
    simp only [bne_iff_ne, ne_eq] at h0
    show cb false = _
    rw [beq_len (by omega)]
  conv => whnf
  have h0' : xs.length = ys.length := by
    have h3 : (xs.length : Int) = ys.length := by simpa using h0
    omega
  refine ⟨[(0,0),(1,0),(4,0),(5,0)], fun m s => ∃ (k : Nat) (e : Int), e = k ∧ m + k = xs.length ∧ (∀ j, j < k → ys[j]? = xs[j]?) ∧
    s = ⟨26, [(0, ints xs), (1, ints ys), (4, cb false), (5, ci e)], []⟩, xs.length, ⟨0, 0, rfl, rfl, by simp, rfl⟩, ?_⟩
  rintro m s ⟨k, _, rfl, hm, hj, rfl⟩
  conv => whnf
  split <;> rename_i h1
  all_goals simp only [decide_eq_true_eq, decide_eq_false_iff_not] at h1
  · conv => whnf
    have hk : k < xs.length := by omega
    refine ⟨[0,1,2,3,4,5,6,7,8], by kernel_rfl, ?_⟩
    conv => whnf
    refine ⟨by omega, rows_len ciL_len xs, ?_⟩
    conv => whnf
    refine ⟨_, takeN_rp (k := k) ciL_len hk, ?_⟩
    conv => whnf
    refine ⟨by omega, rows_len ciL_len ys, ?_⟩
    conv => whnf
    refine ⟨_, takeN_rp (k := k) ciL_len (by omega), ?_⟩
    conv => whnf
    split <;> rename_i h2
    · conv => whnf
      show cb false = _
      have : (xs == ys) = false := by
        rw [beq_eq_false_iff_ne]
        rintro rfl
        simp at h2
      rw [this]
    · conv => whnf
      refine ⟨m - 1, by omega, k + 1, _, wrap_id (by omega) (by omega), by omega, fun j hj' => ?_, rfl⟩
      rcases Nat.lt_succ_iff_lt_or_eq.1 hj' with h | rfl
      · exact hj j h
      · rw [List.getElem?_eq_getElem hk, List.getElem?_eq_getElem (by omega)]
        simp at h2
        rw [h2]
  · conv => whnf
    show cb true = _
    have : ys = xs := list_eq h0'.symm fun j h => hj j (by omega)
    rw [this, beq_self_eq_true]
def sz1 (n : Nat) (left : Int) : Int := if left - n < 0 then -1 else left - n
theorem szIntS_spec (xs : List Int) (left : Int) (hl : xs.length ≤ 9223372036854775807) (h1 : 0 ≤ left) (h2 : left ≤ 1099511627776) : Spec Try.prog 74 [ints xs, ci left] (ci (sz1 xs.length left)) := by
  refine Spec_of mx Γ_ok Try.func74 rfl ?_
  conv => whnf
  have hw : IntKind.i64.wrap (left - xs.length) = left - xs.length := wrap_id (by omega) (by omega)
  rw [hw]
  split <;> rename_i h0
  all_goals simp only [decide_eq_true_eq, decide_eq_false_iff_not] at h0
  · conv => whnf
    show ci (-1) = _
    unfold sz1
    rw [if_pos h0]
  · conv => whnf
    show ci (left - xs.length) = _
    unfold sz1
    rw [if_neg h0]
end Go.Proofs.YthfjngmbdbocbaaD

/- Lists of numbers: how the laws write into them and look at what is written. -/
set_option linter.unusedVariables false
set_option linter.unusedSimpArgs false
namespace Go.Proofs.YthfjngmbdbocbaaD
open Go Go.Proofs

def mkI : Nat → Int → List Int
  | 0, _ => []
  | n + 1, k => k :: mkI n (k + 1)
theorem mkI_len : ∀ (n : Nat) (k : Int), (mkI n k).length = n
  | 0, _ => rfl
  | n + 1, k => by simp [mkI, mkI_len n]
theorem mkI_get : ∀ (n : Nat) (k : Int) (j : Nat), j < n → (mkI n k)[j]? = some (k + j)
  | n + 1, k, 0, _ => by simp [mkI]
  | n + 1, k, j + 1, h => by
    simp only [mkI, List.getElem?_cons_succ]
    rw [mkI_get n (k + 1) j (by omega)]
    congr 1
    omega
theorem markIntS_spec (xs : List Int) (k : Int) (hl : xs.length ≤ 1099511627776) (h1 : 0 ≤ k) (h2 : k ≤ 4398046511104) : SpecR Try.prog 85 [intsT xs, ci k] (ci (k + xs.length)) [intsT (mkI xs.length k), ci k] := by
  refine SpecL_of mx Γ_ok 2 Try.func85 rfl rfl (by omega) ?_
  conv => whnf
  refine ⟨[(0,0),(1,0),(4,0),(5,0)], fun m s => ∃ (i : Nat) (e f : Int) (ys : List Int) (r : List V), e = i ∧ f = k + i ∧ m + i = xs.length ∧ ys.length = xs.length ∧ (∀ j, j < i → ys[j]? = some (k + j)) ∧ r = rows ciL ys ∧
    s = ⟨19, [(0, .own 0 1 0 xs.length xs.length none), (1, ci f), (4, ci 0), (5, ci e)], [some ⟨false, r⟩, none]⟩, xs.length, ⟨0, 0, k, xs, _, rfl, by simp, rfl, rfl, by simp, rfl, rfl⟩, ?_⟩
  rintro m s ⟨i, _, _, ys, _, rfl, rfl, hm, hy, hj, rfl, rfl⟩
  conv => whnf
  split <;> rename_i h3
  all_goals simp only [decide_eq_true_eq, decide_eq_false_iff_not] at h3
  · conv => whnf
    have hi : i < xs.length := by omega
    refine ⟨by omega, ?_⟩
    conv => whnf
    refine ⟨_, takeN_own (k := i) (d := 0) (xs := ys) ciL_len (Nat.zero_add _) (by omega) (Nat.le_refl _) rfl, _, rfl, ?_⟩
    conv => whnf
    refine ⟨m - 1, by omega, i + 1, _, _, ys.set i (k + i), _, wrap_id (by omega) (by omega), ?_, by omega, by simp [hy], fun j hjj => ?_, ?_, rfl⟩
    · rw [wrap_id (by omega) (by omega)]
      omega
    · rw [List.getElem?_set]
      by_cases h4 : i = j
      · subst h4
        rw [if_pos rfl, if_pos (by omega)]
      · rw [if_neg h4]
        exact hj j (by omega)
    · exact (congrArg (fun o => setC (rows ciL ys) o (ciL (k + i))) (Nat.zero_add _)).trans (setC_rows ciL_len (by omega) (by omega) _)
  · conv => whnf
    have hii : i = xs.length := by omega
    subst hii
    refine ⟨rfl, by rw [rows_len ciL_len, hy], ?_⟩
    have : ys = mkI xs.length k := by
      apply List.ext_getElem?
      intro j
      rcases Nat.lt_or_ge j xs.length with h4 | h4
      · rw [hj j h4, mkI_get _ _ _ h4]
      · rw [List.getElem?_eq_none (by omega), List.getElem?_eq_none (by rw [mkI_len]; exact h4)]
    rw [this]
    unfold intsT
    rw [mkI_len]
    rfl
theorem heldIntS_spec (n : Nat) (k : Int) (hl : n ≤ 1099511627776) (h1 : 0 ≤ k) (h2 : k ≤ 4398046511104) : Spec Try.prog 86 [ints (mkI n k), ci k] (ci (k + n)) := by
  refine Spec_of mx Γ_ok Try.func86 rfl ?_
  conv => whnf
  have hn := mkI_len n k
  refine ⟨[(0,0),(1,0),(4,0),(5,0)], fun m s => ∃ (i : Nat) (e f : Int), e = i ∧ f = k + i ∧ m + i = n ∧
    s = ⟨21, [(0, ints (mkI n k)), (1, ci f), (4, ci 0), (5, ci e)], []⟩, n, ⟨0, 0, k, rfl, by simp, rfl, rfl⟩, ?_⟩
  rintro m s ⟨i, _, _, rfl, rfl, hm, rfl⟩
  conv => whnf
  rw [hn]
  split <;> rename_i h3
  all_goals simp only [decide_eq_true_eq, decide_eq_false_iff_not] at h3
  · conv => whnf
    have hi : i < (mkI n k).length := by omega
    refine ⟨by omega, rows_len ciL_len _, ?_⟩
    conv => whnf
    refine ⟨_, takeN_rp (k := i) ciL_len hi, ?_⟩
    conv => whnf
    have hg : (mkI n k)[i] = k + i := by
      have := mkI_get n k i (by omega)
      rw [List.getElem?_eq_getElem hi] at this
      exact Option.some.inj this
    rw [hg, bne_self_eq_false]
    conv => whnf
    refine ⟨m - 1, by omega, i + 1, _, _, wrap_id (by omega) (by omega), ?_, by omega, rfl⟩
    rw [wrap_id (by omega) (by omega)]
    omega
  · conv => whnf
    show ci (k + i) = _
    have hii : i = n := by omega
    rw [hii]
end Go.Proofs.YthfjngmbdbocbaaD

/- What the printed contracts of the laws' helpers lean on. -/
set_option linter.unusedVariables false
set_option linter.unusedSimpArgs false
namespace Go.Proofs.YthfjngmbdbocbaaD
open Go Go.Proofs

section
variable {α : Type}
def sumB (f : α → Nat) : List α → Nat
  | [] => 0
  | x :: xs => f x + sumB f xs
theorem sumB_at {f : α → Nat} : ∀ {xs : List α} {k : Nat} (hk : k < xs.length), sumB f (xs.take (k + 1)) = sumB f (xs.take k) + f xs[k]
  | x :: xs, 0, _ => by simp [sumB]
  | x :: xs, k + 1, hk => by
    have := sumB_at (f := f) (xs := xs) (k := k) (by simpa using hk)
    simp only [List.take_succ_cons, sumB, List.getElem_cons_succ] at this ⊢
    omega
theorem sumB_take {f : α → Nat} : ∀ (xs : List α) (k : Nat), sumB f (xs.take k) ≤ sumB f xs
  | [], k => by simp
  | x :: xs, 0 => by simp [sumB]
  | x :: xs, k + 1 => by have := sumB_take (f := f) xs k; simp only [List.take_succ_cons, sumB]; omega
theorem sumB_le {f : α → Nat} {xs : List α} {k : Nat} (hk : k < xs.length) : sumB f (xs.take k) + f xs[k] ≤ sumB f xs := by
  rw [← sumB_at hk]; exact sumB_take xs _
theorem sumB_one {f : α → Nat} {xs : List α} {k : Nat} (hk : k < xs.length) : f xs[k] ≤ sumB f xs := by have := sumB_le (f := f) hk; omega
theorem sumB_all {f : α → Nat} {xs : List α} {k : Nat} (hk : k = xs.length) : sumB f (xs.take k) = sumB f xs := by rw [hk, List.take_length]
theorem sumB_zero {f : α → Nat} {xs : List α} : sumB f (xs.take 0) = 0 := by simp [sumB]

theorem sumB_le4 {e c : α → Nat} (h : ∀ x, e x ≤ 2 + 4 * c x) : ∀ xs : List α, sumB e xs ≤ 2 * xs.length + 4 * sumB c xs
  | [] => by simp [sumB]
  | x :: xs => by
    have h1 := h x
    have h2 := sumB_le4 h xs
    simp only [sumB, List.length_cons]
    omega
/-! ### Rows that are filled from the front -/
def optR (z : List V) (f : α → List V) : Option α → List V
  | none => z
  | some x => f x
def doneO (xs : List α) (k : Nat) : List (Option α) := (xs.take k).map some ++ List.replicate (xs.length - k) none
theorem optR_len {z : List V} {f : α → List V} {n : Nat} (hz : z.length = n) (hf : ∀ x, (f x).length = n) : ∀ x, (optR z f x).length = n
  | none => hz
  | some x => hf x
theorem doneO_len {xs : List α} {k : Nat} (hk : k ≤ xs.length) : (doneO xs k).length = xs.length := by
  simp [doneO]; omega
theorem doneO_zero (xs : List α) : doneO xs 0 = List.replicate xs.length none := by simp [doneO]
theorem doneO_set {xs : List α} {k : Nat} (hk : k < xs.length) : (doneO xs k).set k (some xs[k]) = doneO xs (k + 1) := by
  have hl : ((xs.take k).map some).length = k := by simp; omega
  unfold doneO
  have e1 : xs.length - k = (xs.length - (k + 1)) + 1 := by omega
  rw [e1, List.replicate_succ, List.set_append_right _ _ (by omega), hl, Nat.sub_self, List.set_cons_zero, List.take_succ_eq_append_getElem hk, List.map_append, List.append_assoc]
  rfl
theorem rows_some {z : List V} {f : α → List V} : ∀ xs : List α, rows (optR z f) (xs.map some) = rows f xs
  | [] => rfl
  | x :: xs => by simp only [List.map_cons, rows, optR, rows_some xs]
theorem doneO_all {z : List V} {f : α → List V} {xs : List α} {k : Nat} (hk : k = xs.length) : rows (optR z f) (doneO xs k) = rows f xs := by
  subst hk
  simp [doneO, rows_some]

/-! ### Rows that are written from the front -/
def mkL (c : α → Nat) (mk : α → Int → α) : List α → Int → List α
  | [], _ => []
  | x :: xs, k => mk x k :: mkL c mk xs (k + c x)
def mkP (c : α → Nat) (mk : α → Int → α) (xs : List α) (i : Nat) (k : Int) : List α := mkL c mk (xs.take i) k ++ xs.drop i
theorem mkL_len (c : α → Nat) (mk : α → Int → α) : ∀ (xs : List α) (k : Int), (mkL c mk xs k).length = xs.length
  | [], _ => rfl
  | x :: xs, k => by simp [mkL, mkL_len c mk xs]
theorem mkP_len (c : α → Nat) (mk : α → Int → α) {xs : List α} {i : Nat} (k : Int) (hi : i ≤ xs.length) : (mkP c mk xs i k).length = xs.length := by
  simp only [mkP, List.length_append, mkL_len, List.length_take, List.length_drop]; omega
theorem mkP_zero (c : α → Nat) (mk : α → Int → α) (xs : List α) (k : Int) : mkP c mk xs 0 k = xs := by simp [mkP, mkL]
theorem mkP_all (c : α → Nat) (mk : α → Int → α) {xs : List α} {i : Nat} (k : Int) (hi : i = xs.length) : mkP c mk xs i k = mkL c mk xs k := by subst hi; simp [mkP]
theorem mkP_get (c : α → Nat) (mk : α → Int → α) {xs : List α} {i : Nat} (k : Int) (hi : i < xs.length) : (mkP c mk xs i k)[i]? = some xs[i] := by
  have hl : (mkL c mk (xs.take i) k).length = i := by rw [mkL_len, List.length_take]; omega
  rw [mkP, List.getElem?_append_right (by omega), hl, Nat.sub_self, List.getElem?_drop, Nat.add_zero, List.getElem?_eq_getElem hi]
theorem mkP_at (c : α → Nat) (mk : α → Int → α) {xs : List α} {i : Nat} (k : Int) (hi : i < xs.length) (h : i < (mkP c mk xs i k).length) : (mkP c mk xs i k)[i] = xs[i] := by
  have := mkP_get c mk k hi
  rw [List.getElem?_eq_getElem h] at this
  exact Option.some.inj this
theorem mkL_snoc (c : α → Nat) (mk : α → Int → α) : ∀ (xs : List α) (x : α) (k : Int), mkL c mk (xs ++ [x]) k = mkL c mk xs k ++ [mk x (k + sumB c xs)]
  | [], x, k => by simp [mkL, sumB]
  | y :: xs, x, k => by
    simp only [List.cons_append, mkL, mkL_snoc c mk xs x, sumB]
    congr 4
    omega
theorem mkP_set (c : α → Nat) (mk : α → Int → α) {xs : List α} {i : Nat} (k : Int) (hi : i < xs.length) : (mkP c mk xs i k).set i (mk xs[i] (k + sumB c (xs.take i))) = mkP c mk xs (i + 1) k := by
  have hl : (mkL c mk (xs.take i) k).length = i := by rw [mkL_len, List.length_take]; omega
  unfold mkP
  rw [List.set_append_right _ _ (by omega), hl, Nat.sub_self, List.drop_eq_getElem_cons hi, List.set_cons_zero, List.take_succ_eq_append_getElem hi, mkL_snoc, List.append_assoc]
  rfl
theorem mkL_get (c : α → Nat) (mk : α → Int → α) : ∀ {xs : List α} {i : Nat} (k : Int) (hi : i < xs.length), (mkL c mk xs k)[i]? = some (mk xs[i] (k + sumB c (xs.take i)))
  | x :: xs, 0, k, _ => by simp [mkL, sumB]
  | x :: xs, i + 1, k, hi => by
    simp only [mkL, List.getElem?_cons_succ, List.take_succ_cons, sumB, List.getElem_cons_succ]
    rw [mkL_get c mk (k + c x) (by simpa using hi)]
    congr 2
    omega
theorem mkL_at (c : α → Nat) (mk : α → Int → α) {xs : List α} {i : Nat} (k : Int) (hi : i < xs.length) (h : i < (mkL c mk xs k).length) : (mkL c mk xs k)[i] = mk xs[i] (k + sumB c (xs.take i)) := by
  have := mkL_get c mk k hi
  rw [List.getElem?_eq_getElem h] at this
  exact Option.some.inj this

/-! ### Cells of rows -/
theorem rows_cell {f : α → List V} {n : Nat} (h : ∀ x, (f x).length = n) {xs : List α} {k d o : Nat} {v : V} (ho : o = k * n + d) (hk : k < xs.length) (hd : (f xs[k])[d]? = some v) : (rows f xs)[o]? = some v := by
  subst ho
  have hdn : d < n := by rw [← h xs[k]]; exact (List.getElem?_eq_some_iff.1 hd).1
  rw [← List.getElem?_drop, rows_at h xs k hk, List.getElem?_append_left (by rw [h]; exact hdn)]
  exact hd
theorem rows_setCell {f : α → List V} {n : Nat} (h : ∀ x, (f x).length = n) {xs : List α} {k d o : Nat} {v : V} {y : α} (ho : o = k * n + d) (hk : k < xs.length) (hy : f y = (f xs[k]).set d v) (hd : d < n) : (rows f xs).set o v = rows f (xs.set k y) := by
  subst ho
  have hn : n ≠ 0 := by omega
  rw [← setC_rows h hn hk y]
  apply List.ext_getElem?
  intro i
  have hmul : (k + 1) * n ≤ xs.length * n := Nat.mul_le_mul_right _ hk
  rw [Nat.succ_mul] at hmul
  have hlen := rows_len h xs
  rw [List.getElem?_set, setC_get (by rw [h]; omega), h]
  by_cases hi : k * n + d = i
  · subst hi
    rw [if_pos rfl, if_pos (by omega), if_pos (by omega), hy, show k * n + d - k * n = d from by omega, List.getElem?_set, if_pos rfl, if_pos (by rw [h]; exact hd)]
  · rw [if_neg hi]
    by_cases hin : k * n ≤ i ∧ i < k * n + n
    · rw [if_pos hin, hy, List.getElem?_set, if_neg (by omega)]
      obtain ⟨q, rfl⟩ : ∃ q, i = k * n + q := ⟨i - k * n, by omega⟩
      rw [show k * n + q - k * n = q from by omega, ← List.getElem?_drop, rows_at h xs k hk, List.getElem?_append_left (by rw [h]; omega)]
    · rw [if_neg hin]
end

theorem sz1_pos {n : Nat} {left : Int} (h : (n : Int) ≤ left) : sz1 n left = left - n := by unfold sz1; rw [if_neg (by omega)]
theorem sz1_neg {n : Nat} {left : Int} (h : left < (n : Int)) : sz1 n left = -1 := by unfold sz1; rw [if_pos (by omega)]
theorem sz1_dec {n : Nat} {left : Int} {b : Bool} (h : decide (sz1 n left < 0) = b) : (b = true ∧ left < n) ∨ (b = false ∧ sz1 n left = left - n ∧ (n : Int) ≤ left) := by
  unfold sz1 at h ⊢
  by_cases hc : left - (n : Int) < 0
  · left
    rw [if_pos hc] at h
    exact ⟨by rw [← h]; rfl, by omega⟩
  · right
    rw [if_neg hc] at h ⊢
    exact ⟨by rw [← h, decide_eq_false hc], rfl, by omega⟩
theorem eqIntS_refl (xs : List Int) (h : xs.length ≤ 1099511627776) : Spec Try.prog 84 [ints xs, ints xs] (cb true) := by
  have := eqIntS_spec xs xs h h
  rwa [beq_self_eq_true] at this
theorem flat1 {v : V} (h : flat v = true) : ∀ c ∈ [v], flat c = true := fun c hc => by
  simp only [List.mem_singleton] at hc
  rw [hc]; exact h
theorem flat_ci (xs : List Int) : ∀ c ∈ rows ciL xs, flat c = true := all_rows (fun x => flat1 rfl) xs
theorem solid_ci (xs : List Int) : ∀ c ∈ rows ciL xs, solid c = true := all_rows (fun x c hc => by simp only [ciL, List.mem_singleton] at hc; rw [hc]; rfl) xs
theorem snoc_ci (xs : List Int) (x : Int) : rows ciL xs ++ [ci x] = rows ciL (xs ++ [x]) := by rw [rows_append]; rfl
theorem app_ci (xs ys : List Int) : rows ciL xs ++ rows ciL ys = rows ciL (xs ++ ys) := (rows_append ciL ys xs).symm
theorem flatMap_at {α β : Type} {f : α → List β} {xs : List α} {k : Nat} (hk : k < xs.length) : (xs.take (k + 1)).flatMap f = (xs.take k).flatMap f ++ f xs[k] := by
  rw [List.take_succ_eq_append_getElem hk, List.flatMap_append]
  simp
theorem flatMap_len {α β : Type} {f : α → List β} {c : α → Nat} (h : ∀ x, (f x).length = c x) : ∀ xs : List α, (xs.flatMap f).length = sumB c xs
  | [] => rfl
  | x :: xs => by simp only [List.flatMap_cons, List.length_append, h, flatMap_len h xs, sumB]
theorem sumB_le' {α : Type} {e c : α → Nat} {a b : Nat} (h : ∀ x, e x ≤ a + b * c x) : ∀ xs : List α, sumB e xs ≤ a * xs.length + b * sumB c xs
  | [] => by simp [sumB]
  | x :: xs => by
    have h1 := h x
    have h2 := sumB_le' h xs
    simp only [sumB, List.length_cons, Nat.mul_add, Nat.mul_one] at *
    omega
theorem drop_all {α : Type} {p : α → Bool} {xs : List α} {k : Nat} (hk : k < xs.length) : (xs.drop k).all p = (p xs[k] && (xs.drop (k + 1)).all p) := by
  rw [List.drop_eq_getElem_cons hk]
  rfl
theorem drop_any {α : Type} {p : α → Bool} {xs : List α} {k : Nat} (hk : k < xs.length) : (xs.drop k).any p = (p xs[k] || (xs.drop (k + 1)).any p) := by
  rw [List.drop_eq_getElem_cons hk]
  rfl
theorem drop_end {α : Type} {xs : List α} {k : Nat} (hk : xs.length ≤ k) : xs.drop k = [] := List.drop_eq_nil_of_le hk
theorem roVs_ci (xs : List Int) : roVs (rows ciL xs) = rows ciL xs := roVs_rows (fun _ => rfl) xs
theorem heldIntS_own (xs : List Int) (k : Int) (hl : xs.length ≤ 1099511627776) (h1 : 0 ≤ k) (h2 : k ≤ 4398046511104) : Spec Try.prog 86 [.ro xs.length (rows ciL (mkI xs.length k)), ci k] (ci (k + xs.length)) := by
  have := heldIntS_spec xs.length k hl h1 h2
  unfold ints at this
  rwa [mkI_len] at this
end Go.Proofs.YthfjngmbdbocbaaD
