/- Rows of cells, element by element. -/
import Derived.Test.YtiplgkbgkmomlaaD20
set_option linter.unusedVariables false
set_option linter.unusedSimpArgs false
namespace Go.Proofs.YtiplgkbgkmomlaaD
open Go

section
variable {α : Type}
def rows (f : α → List V) : List α → List V
  | [] => []
  | x :: xs => f x ++ rows f xs
theorem rows_append (f : α → List V) (ys : List α) : ∀ xs : List α, rows f (xs ++ ys) = rows f xs ++ rows f ys
  | [] => rfl
  | x :: xs => by simp [rows, rows_append f ys xs]
theorem rows_one (f : α → List V) (x : α) : rows f [x] = f x := by simp [rows]
theorem rows_len {f : α → List V} {n : Nat} (h : ∀ x, (f x).length = n) : ∀ xs : List α, (rows f xs).length = xs.length * n
  | [] => by simp [rows]
  | x :: xs => by simp [rows, rows_len h xs, h, Nat.succ_mul, Nat.add_comm]
theorem rows_drop {f : α → List V} {n : Nat} (h : ∀ x, (f x).length = n) : ∀ (xs : List α) (k : Nat), (rows f xs).drop (k * n) = rows f (xs.drop k)
  | [], k => by simp [rows]
  | x :: xs, 0 => by simp
  | x :: xs, k + 1 => by
    simp only [rows, List.drop_succ_cons]
    rw [← rows_drop h xs k, Nat.succ_mul, Nat.add_comm, ← List.drop_drop, ← h x, List.drop_left]
theorem rows_at {f : α → List V} {n : Nat} (h : ∀ x, (f x).length = n) (xs : List α) (k : Nat) (hk : k < xs.length) : (rows f xs).drop (k * n) = f xs[k] ++ rows f (xs.drop (k + 1)) := by
  rw [rows_drop h, List.drop_eq_getElem_cons hk]
  rfl
theorem takeN_eq {cs r : List V} {off n : Nat} (h : off + n ≤ cs.length) (hr : (cs.drop off).take n = r) : takeN cs off n = some r := by
  unfold takeN
  rw [show Nat.ble (off + n) cs.length = true from by simpa using h]
  simp [hr]
/-- An element of a row behind an address. -/
theorem takeN_rp {f : α → List V} {n : Nat} (h : ∀ x, (f x).length = n) {xs : List α} {k : Nat} (hk : k < xs.length) : takeN ((rows f xs).drop (k * n)) 0 n = some (f xs[k]) := by
  rw [rows_at h xs k hk]
  refine takeN_eq (by simp [h]) ?_
  rw [List.drop_zero, ← h xs[k], List.take_left]
/-- A field of an element of a row behind an address. -/
theorem takeN_rp_field {f : α → List V} {n d m : Nat} (h : ∀ x, (f x).length = n) {xs : List α} {k : Nat} {r : List V} (hk : k < xs.length) (hd : d + m ≤ n) (hr : ((f xs[k]).drop d).take m = r) : takeN (((rows f xs).drop (k * n)).drop d) 0 m = some r := by
  rw [rows_at h xs k hk]
  have hl := h xs[k]
  refine takeN_eq (by simp; omega) ?_
  rw [List.drop_zero, List.drop_append_of_le_length (by omega), List.take_append_of_le_length (by simp; omega)]
  exact hr
/-- A part of a row of the state's own. -/
theorem takeN_own {f : α → List V} {n d m o : Nat} (h : ∀ x, (f x).length = n) {xs : List α} {k : Nat} {r : List V} (ho : o = k * n + d) (hk : k < xs.length) (hd : d + m ≤ n) (hr : ((f xs[k]).drop d).take m = r) : takeN (rows f xs) o m = some r := by
  subst ho
  have hl := h xs[k]
  have hlen := rows_len h xs
  have hmul : (k + 1) * n ≤ xs.length * n := Nat.mul_le_mul_right _ hk
  rw [Nat.succ_mul] at hmul
  refine takeN_eq (by omega) ?_
  rw [← List.drop_drop, rows_at h xs k hk, List.drop_append_of_le_length (by omega), List.take_append_of_le_length (by simp; omega)]
  exact hr
theorem takeN_all {cs : List V} {n : Nat} (h : cs.length = n) : takeN cs 0 n = some cs := takeN_eq (by omega) (by rw [List.drop_zero, ← h, List.take_length])
theorem takeN_zero {cs : List V} : takeN cs 0 0 = some [] := takeN_eq (Nat.zero_le _) (by simp)

theorem roVs_append : ∀ cs ds : List V, roVs (cs ++ ds) = roVs cs ++ roVs ds
  | [], ds => rfl
  | c :: cs, ds => by simp [roVs, roVs_append cs ds]
theorem roVs_rows {f g : α → List V} (h : ∀ x, roVs (f x) = g x) : ∀ xs : List α, roVs (rows f xs) = rows g xs
  | [] => rfl
  | x :: xs => by simp [rows, roVs_append, h, roVs_rows h xs]
theorem closeds_append : ∀ {cs ds : List V}, closeds cs → closeds ds → closeds (cs ++ ds)
  | [], _, _, h => h
  | c :: cs, ds, h, h' => ⟨h.1, closeds_append h.2 h'⟩
theorem closeds_rows {f : α → List V} (h : ∀ x, closeds (f x)) : ∀ xs : List α, closeds (rows f xs)
  | [] => trivial
  | x :: xs => closeds_append (h x) (closeds_rows h xs)
theorem all_rows {f : α → List V} {p : V → Prop} (h : ∀ x, ∀ c ∈ f x, p c) : ∀ (xs : List α), ∀ c ∈ rows f xs, p c
  | [], c, hc => by cases hc
  | x :: xs, c, hc => by
    simp only [rows, List.mem_append] at hc
    rcases hc with hc | hc
    · exact h x c hc
    · exact all_rows h xs c hc
theorem setC_rows {f : α → List V} {n : Nat} (h : ∀ x, (f x).length = n) (hn : n ≠ 0) {xs : List α} {k : Nat} (hk : k < xs.length) (y : α) : setC (rows f xs) (k * n) (f y) = rows f (xs.set k y) := by
  have hlen := rows_len h xs
  have hmul : (k + 1) * n ≤ xs.length * n := Nat.mul_le_mul_right _ hk
  rw [Nat.succ_mul] at hmul
  apply List.ext_getElem?
  intro i
  rw [setC_get (by rw [h]; omega), h]
  have hsplit : ∀ zs : List α, zs.length = xs.length → rows f zs = rows f (zs.take k) ++ (rows f (zs.drop k)) := by
    intro zs _
    rw [← rows_append, List.take_append_drop]
  have e1 := hsplit xs rfl
  have e2 := hsplit (xs.set k y) (by simp)
  have t2 : (xs.set k y).take k = xs.take k := by rw [List.take_set_of_le (Nat.le_refl _)]
  have d1 : xs.drop k = xs[k] :: xs.drop (k + 1) := List.drop_eq_getElem_cons hk
  have d2 : (xs.set k y).drop k = y :: xs.drop (k + 1) := by
    rw [List.drop_eq_getElem_cons (by simpa using hk)]
    congr 1
    · simp
    · apply List.ext_getElem?
      intro j
      rw [List.getElem?_drop, List.getElem?_drop, List.getElem?_set, if_neg (by omega)]
  rw [e2, t2, d2]
  rw [e1, d1]
  have hk1 : (rows f (xs.take k)).length = k * n := by rw [rows_len h, List.length_take, Nat.min_eq_left (by omega)]
  simp only [rows]
  by_cases ha : k * n ≤ i ∧ i < k * n + n
  · rw [if_pos ha, List.getElem?_append_right (by omega), hk1, List.getElem?_append_left (by rw [h]; omega)]
  · rw [if_neg ha]
    by_cases hb : i < k * n
    · rw [List.getElem?_append_left (by omega), List.getElem?_append_left (by omega)]
    · have h1 := h xs[k]
      have h2 := h y
      rw [List.getElem?_append_right (by omega), List.getElem?_append_right (by omega), hk1, List.getElem?_append_right (by omega), List.getElem?_append_right (by omega), h1, h2, hk1]
end

/-! ### Numbers -/
def ci (x : Int) : V := .sc (.int .i64 x)
def cb (b : Bool) : V := .sc (.bool b)
def cs (b : ByteArray) : V := .sc (.string b)
def cnil : V := .sc (.slice none 0 0)
def ciL (x : Int) : List V := [ci x]
def ints (xs : List Int) : V := .ro xs.length (rows ciL xs)
def intsT (xs : List Int) : V := .tr 1 xs.length (rows ciL xs)
theorem ciL_len (x : Int) : (ciL x).length = 1 := rfl
theorem wrap_id {x : Int} (h1 : -9223372036854775808 ≤ x) (h2 : x ≤ 9223372036854775807) : IntKind.i64.wrap x = x := by
  have hb : (2 : Int) ^ IntKind.i64.bits = 18446744073709551616 := by decide
  have hc : (2 : Int) ^ (IntKind.i64.bits - 1) = 9223372036854775808 := by decide
  simp only [IntKind.wrap, IntKind.signed, hb, hc, Bool.true_and, decide_eq_true_eq]
  split <;> omega
end Go.Proofs.YtiplgkbgkmomlaaD
