/- Contracts and plain laws of this seat; no condition. -/
import Derived.Test.YtboolngaahifdaaGreatQ10
set_option linter.unusedVariables false
set_option linter.unusedSimpArgs false
namespace Go.Proofs.YtboolngaahifdaaGreatD
open Go Go.Proofs
section
variable {α : Type}
def sumB (f : α → Nat) : List α → Nat
 | [] => 0
 | x :: xs => f x + sumB f xs
theorem sumB_at {f : α → Nat} : ∀ {xs : List α} {k : Nat} (hk : k < xs.length), sumB f (xs.take (k + 1)) = sumB f (xs.take k) + f xs[k]
 | x :: xs, 0, _ => by simp [sumB]
 | x :: xs, k + 1, hk => by
  have := sumB_at (f := f) (xs := xs) (k := k) (by simpa using hk)
  simp only [List.take_succ_cons, sumB, List.getElem_cons_succ] at this ⊢
  omega
theorem sumB_take {f : α → Nat} : ∀ (xs : List α) (k : Nat), sumB f (xs.take k) ≤ sumB f xs
 | [], k => by simp
 | x :: xs, 0 => by simp [sumB]
 | x :: xs, k + 1 => by have := sumB_take (f := f) xs k; simp only [List.take_succ_cons, sumB]; omega
theorem sumB_le {f : α → Nat} {xs : List α} {k : Nat} (hk : k < xs.length) : sumB f (xs.take k) + f xs[k] ≤ sumB f xs := by
 rw [← sumB_at hk]; exact sumB_take xs _
theorem sumB_one {f : α → Nat} {xs : List α} {k : Nat} (hk : k < xs.length) : f xs[k] ≤ sumB f xs := by have := sumB_le (f := f) hk; omega
theorem sumB_all {f : α → Nat} {xs : List α} {k : Nat} (hk : k = xs.length) : sumB f (xs.take k) = sumB f xs := by rw [hk, List.take_length]
theorem sumB_zero {f : α → Nat} {xs : List α} : sumB f (xs.take 0) = 0 := by simp [sumB]
theorem sumB_le4 {e c : α → Nat} (h : ∀ x, e x ≤ 2 + 4 * c x) : ∀ xs : List α, sumB e xs ≤ 2 * xs.length + 4 * sumB c xs
 | [] => by simp [sumB]
 | x :: xs => by
  have h1 := h x
  have h2 := sumB_le4 h xs
  simp only [sumB, List.length_cons]
  omega
def optR (z : List V) (f : α → List V) : Option α → List V
 | none => z
 | some x => f x
def doneO (xs : List α) (k : Nat) : List (Option α) := (xs.take k).map some ++ List.replicate (xs.length - k) none
theorem optR_len {z : List V} {f : α → List V} {n : Nat} (hz : z.length = n) (hf : ∀ x, (f x).length = n) : ∀ x, (optR z f x).length = n
 | none => hz
 | some x => hf x
theorem doneO_len {xs : List α} {k : Nat} (hk : k ≤ xs.length) : (doneO xs k).length = xs.length := by
 simp [doneO]; omega
theorem doneO_zero (xs : List α) : doneO xs 0 = List.replicate xs.length none := by simp [doneO]
theorem doneO_set {xs : List α} {k : Nat} (hk : k < xs.length) : (doneO xs k).set k (some xs[k]) = doneO xs (k + 1) := by
 have hl : ((xs.take k).map some).length = k := by simp; omega
 unfold doneO
 have e1 : xs.length - k = (xs.length - (k + 1)) + 1 := by omega
 rw [e1, List.replicate_succ, List.set_append_right _ _ (by omega), hl, Nat.sub_self, List.set_cons_zero, List.take_succ_eq_append_getElem hk, List.map_append, List.append_assoc]
 rfl
theorem rows_some {z : List V} {f : α → List V} : ∀ xs : List α, rows (optR z f) (xs.map some) = rows f xs
 | [] => rfl
 | x :: xs => by simp only [List.map_cons, rows, optR, rows_some xs]
theorem doneO_all {z : List V} {f : α → List V} {xs : List α} {k : Nat} (hk : k = xs.length) : rows (optR z f) (doneO xs k) = rows f xs := by
 subst hk
 simp [doneO, rows_some]
def mkL (c : α → Nat) (mk : α → Int → α) : List α → Int → List α
 | [], _ => []
 | x :: xs, k => mk x k :: mkL c mk xs (k + c x)
def mkP (c : α → Nat) (mk : α → Int → α) (xs : List α) (i : Nat) (k : Int) : List α := mkL c mk (xs.take i) k ++ xs.drop i
theorem mkL_len (c : α → Nat) (mk : α → Int → α) : ∀ (xs : List α) (k : Int), (mkL c mk xs k).length = xs.length
 | [], _ => rfl
 | x :: xs, k => by simp [mkL, mkL_len c mk xs]
theorem mkP_len (c : α → Nat) (mk : α → Int → α) {xs : List α} {i : Nat} (k : Int) (hi : i ≤ xs.length) : (mkP c mk xs i k).length = xs.length := by
 simp only [mkP, List.length_append, mkL_len, List.length_take, List.length_drop]; omega
theorem mkP_zero (c : α → Nat) (mk : α → Int → α) (xs : List α) (k : Int) : mkP c mk xs 0 k = xs := by simp [mkP, mkL]
theorem mkP_all (c : α → Nat) (mk : α → Int → α) {xs : List α} {i : Nat} (k : Int) (hi : i = xs.length) : mkP c mk xs i k = mkL c mk xs k := by subst hi; simp [mkP]
theorem mkP_get (c : α → Nat) (mk : α → Int → α) {xs : List α} {i : Nat} (k : Int) (hi : i < xs.length) : (mkP c mk xs i k)[i]? = some xs[i] := by
 have hl : (mkL c mk (xs.take i) k).length = i := by rw [mkL_len, List.length_take]; omega
 rw [mkP, List.getElem?_append_right (by omega), hl, Nat.sub_self, List.getElem?_drop, Nat.add_zero, List.getElem?_eq_getElem hi]
theorem mkP_at (c : α → Nat) (mk : α → Int → α) {xs : List α} {i : Nat} (k : Int) (hi : i < xs.length) (h : i < (mkP c mk xs i k).length) : (mkP c mk xs i k)[i] = xs[i] := by
 have := mkP_get c mk k hi
 rw [List.getElem?_eq_getElem h] at this
 exact Option.some.inj this
theorem mkL_snoc (c : α → Nat) (mk : α → Int → α) : ∀ (xs : List α) (x : α) (k : Int), mkL c mk (xs ++ [x]) k = mkL c mk xs k ++ [mk x (k + sumB c xs)]
 | [], x, k => by simp [mkL, sumB]
 | y :: xs, x, k => by
  simp only [List.cons_append, mkL, mkL_snoc c mk xs x, sumB]
  congr 4
  omega
theorem mkP_set (c : α → Nat) (mk : α → Int → α) {xs : List α} {i : Nat} (k : Int) (hi : i < xs.length) : (mkP c mk xs i k).set i (mk xs[i] (k + sumB c (xs.take i))) = mkP c mk xs (i + 1) k := by
 have hl : (mkL c mk (xs.take i) k).length = i := by rw [mkL_len, List.length_take]; omega
 unfold mkP
 rw [List.set_append_right _ _ (by omega), hl, Nat.sub_self, List.drop_eq_getElem_cons hi, List.set_cons_zero, List.take_succ_eq_append_getElem hi, mkL_snoc, List.append_assoc]
 rfl
theorem mkL_get (c : α → Nat) (mk : α → Int → α) : ∀ {xs : List α} {i : Nat} (k : Int) (hi : i < xs.length), (mkL c mk xs k)[i]? = some (mk xs[i] (k + sumB c (xs.take i)))
 | x :: xs, 0, k, _ => by simp [mkL, sumB]
 | x :: xs, i + 1, k, hi => by
  simp only [mkL, List.getElem?_cons_succ, List.take_succ_cons, sumB, List.getElem_cons_succ]
  rw [mkL_get c mk (k + c x) (by simpa using hi)]
  congr 2
  omega
theorem mkL_at (c : α → Nat) (mk : α → Int → α) {xs : List α} {i : Nat} (k : Int) (hi : i < xs.length) (h : i < (mkL c mk xs k).length) : (mkL c mk xs k)[i] = mk xs[i] (k + sumB c (xs.take i)) := by
 have := mkL_get c mk k hi
 rw [List.getElem?_eq_getElem h] at this
 exact Option.some.inj this
theorem rows_cell {f : α → List V} {n : Nat} (h : ∀ x, (f x).length = n) {xs : List α} {k d o : Nat} {v : V} (ho : o = k * n + d) (hk : k < xs.length) (hd : (f xs[k])[d]? = some v) : (rows f xs)[o]? = some v := by
 subst ho
 have hdn : d < n := by rw [← h xs[k]]; exact (List.getElem?_eq_some_iff.1 hd).1
 rw [← List.getElem?_drop, rows_at h xs k hk, List.getElem?_append_left (by rw [h]; exact hdn)]
 exact hd
theorem rows_setCell {f : α → List V} {n : Nat} (h : ∀ x, (f x).length = n) {xs : List α} {k d o : Nat} {v : V} {y : α} (ho : o = k * n + d) (hk : k < xs.length) (hy : f y = (f xs[k]).set d v) (hd : d < n) : (rows f xs).set o v = rows f (xs.set k y) := by
 subst ho
 have hn : n ≠ 0 := by omega
 rw [← setC_rows h hn hk y]
 apply List.ext_getElem?
 intro i
 have hmul : (k + 1) * n ≤ xs.length * n := Nat.mul_le_mul_right _ hk
 rw [Nat.succ_mul] at hmul
 have hlen := rows_len h xs
 rw [List.getElem?_set, setC_get (by rw [h]; omega), h]
 by_cases hi : k * n + d = i
 ·subst hi
  rw [if_pos rfl, if_pos (by omega), if_pos (by omega), hy, show k * n + d - k * n = d from by omega, List.getElem?_set, if_pos rfl, if_pos (by rw [h]; exact hd)]
 ·rw [if_neg hi]
  by_cases hin : k * n ≤ i ∧ i < k * n + n
  ·rw [if_pos hin, hy, List.getElem?_set, if_neg (by omega)]
   obtain ⟨q, rfl⟩ : ∃ q, i = k * n + q := ⟨i - k * n, by omega⟩
   rw [show k * n + q - k * n = q from by omega, ← List.getElem?_drop, rows_at h xs k hk, List.getElem?_append_left (by rw [h]; omega)]
  ·rw [if_neg hin]
end
theorem sz1_pos {n : Nat} {left : Int} (h : (n : Int) ≤ left) : sz1 n left = left - n := by unfold sz1; rw [if_neg (by omega)]
theorem sz1_neg {n : Nat} {left : Int} (h : left < (n : Int)) : sz1 n left = -1 := by unfold sz1; rw [if_pos (by omega)]
theorem sz1_dec {n : Nat} {left : Int} {b : Bool} (h : decide (sz1 n left < 0) = b) : (b = true ∧ left < n) ∨ (b = false ∧ sz1 n left = left - n ∧ (n : Int) ≤ left) := by
 unfold sz1 at h ⊢
 by_cases hc : left - (n : Int) < 0
 ·left
  rw [if_pos hc] at h
  exact ⟨by rw [← h]; rfl, by omega⟩
 ·right
  rw [if_neg hc] at h ⊢
  exact ⟨by rw [← h, decide_eq_false hc], rfl, by omega⟩
theorem eqIntS_refl (xs : List Int) (h : xs.length ≤ 1099511627776) : Spec Tryz.prog 109 [ints xs, ints xs] (cb true) := by
 have := eqIntS_spec xs xs h h
 rwa [beq_self_eq_true] at this
theorem flat1 {v : V} (h : flat v = true) : ∀ c ∈ [v], flat c = true := fun c hc => by
 simp only [List.mem_singleton] at hc
 rw [hc]; exact h
theorem solid_ci (xs : List Int) : ∀ c ∈ rows ciL xs, solid c = true := all_rows (fun x c hc => by simp only [ciL, List.mem_singleton] at hc; rw [hc]; rfl) xs
theorem snoc_ci (xs : List Int) (x : Int) : rows ciL xs ++ [ci x] = rows ciL (xs ++ [x]) := by rw [rows_append]; rfl
theorem app_ci (xs ys : List Int) : rows ciL xs ++ rows ciL ys = rows ciL (xs ++ ys) := (rows_append ciL ys xs).symm
theorem drop_all {α : Type} {p : α → Bool} {xs : List α} {k : Nat} (hk : k < xs.length) : (xs.drop k).all p = (p xs[k] && (xs.drop (k + 1)).all p) := by
 rw [List.drop_eq_getElem_cons hk]
 rfl
theorem drop_any {α : Type} {p : α → Bool} {xs : List α} {k : Nat} (hk : k < xs.length) : (xs.drop k).any p = (p xs[k] || (xs.drop (k + 1)).any p) := by
 rw [List.drop_eq_getElem_cons hk]
 rfl
theorem drop_end {α : Type} {xs : List α} {k : Nat} (hk : xs.length ≤ k) : xs.drop k = [] := List.drop_eq_nil_of_le hk
theorem roVs_ci (xs : List Int) : roVs (rows ciL xs) = rows ciL xs := roVs_rows (fun _ => rfl) xs
end Go.Proofs.YtboolngaahifdaaGreatD
