/- Normal forms: both programs try the same orders of the atoms. -/
import Derived.Test.YthfjngmbdbocbaaFNames0
import Derived.Test.YthfjngmbdbocbaaFQueryCode
import Derived.Test.YthfjngmbdbocbaaFOrdT
set_option linter.unusedVariables false
set_option linter.unusedSimpArgs false
set_option maxRecDepth 100000
namespace Go.Proofs.YthfjngmbdbocbaaD
open Go Go.Proofs

/-- The better one by its code; none: there is none yet. -/
def betterQ (o : Option QueryR) (y : QueryR) : Option QueryR := match o with
  | none => some y
  | some b => if ltI (pQueryCode y) (pQueryCode b) then some y else some b
/-- All orders of what is left, behind what is chosen. -/
def tryQ (h : List Int) : Nat → List AtomC → List AtomC → Option QueryR → Option QueryR
  | 0, body, _, o => betterQ o (nmQ (h, body))
  | n + 1, body, left, o => (List.range left.length).foldl (fun o i => tryQ h n (body ++ [left.getD i (0, [])]) (left.eraseIdx i) o) o
def normQ (q : QueryR) : QueryR := (tryQ q.1 q.2.length [] q.2 none).getD ([], [])
theorem betterQ_some (o : Option QueryR) (y : QueryR) : ∃ z, betterQ o y = some z := by
  unfold betterQ
  split
  · exact ⟨_, rfl⟩
  · split <;> exact ⟨_, rfl⟩
theorem tryQ_keeps (h : List Int) : ∀ (n : Nat) (body left : List AtomC) (b : QueryR), ∃ z, tryQ h n body left (some b) = some z
  | 0, body, left, b => betterQ_some _ _
  | n + 1, body, left, b => by
    simp only [tryQ]
    generalize List.range left.length = l
    induction l generalizing b with
    | nil => exact ⟨b, rfl⟩
    | cons i l ih =>
      rw [List.foldl_cons]
      obtain ⟨z, hz⟩ := tryQ_keeps h n (body ++ [left.getD i (0, [])]) (left.eraseIdx i) b
      rw [hz]
      exact ih z
theorem ltI_irr (xs : List Int) : ltI xs xs = false := totI.irr xs
/-- To begin with the first order's query changes nothing. -/
theorem tryQ_start (h : List Int) : ∀ (n : Nat) (body left : List AtomC), left.length = n → tryQ h n body left none = tryQ h n body left (some (nmQ (h, body ++ left)))
  | 0, body, left, hl => by
    have : left = [] := List.length_eq_zero_iff.1 hl
    subst this
    simp only [tryQ, List.append_nil, betterQ, ltI_irr, Bool.false_eq_true, if_false]
  | n + 1, body, a :: left, hl => by
    simp only [List.length_cons, Nat.add_right_cancel_iff] at hl
    have e : List.range (a :: left).length = 0 :: (List.range left.length).map (· + 1) := by
      rw [List.length_cons, List.range_succ_eq_map]
    simp only [tryQ, e, List.foldl_cons]
    have e0 : (a :: left).getD 0 (0, []) = a := rfl
    have e1 : (a :: left).eraseIdx 0 = left := rfl
    rw [e0, e1, tryQ_start h n (body ++ [a]) left hl, List.append_assoc]
    rfl
/-! The second way: atoms are marked as used. -/
def unused : List AtomC → List Bool → List AtomC
  | a :: r, u :: us => if u then unused r us else a :: unused r us
  | _, _ => []
def tryU (q : QueryR) : Nat → List Bool → List AtomC → Option QueryR → Option QueryR
  | 0, _, body, o => betterQ o (nmQ (q.1, body))
  | n + 1, used, body, o => (List.range q.2.length).foldl (fun o i => if used.getD i false then o else tryU q n (used.set i true) (body ++ [q.2.getD i (0, [])]) o) o
theorem unused_len : ∀ (xs : List AtomC) (us : List Bool), us.length = xs.length → (unused xs us).length + (us.filter id).length = xs.length
  | [], [], _ => rfl
  | [], _ :: _, h => by cases h
  | _ :: _, [], h => by cases h
  | a :: r, u :: us, h => by
    have ih := unused_len r us (by simpa using h)
    cases u with
    | true => simp [unused] at ih ⊢; omega
    | false => simp [unused] at ih ⊢; omega
/-- A loop over all places that leaves out the used ones is a loop over what is unused. -/
theorem loop_unused (f : Option QueryR → AtomC → List AtomC → Option QueryR) (g : Option QueryR → Nat → Option QueryR) : ∀ (xs pre : List AtomC) (us upre : List Bool), us.length = xs.length → upre.length = pre.length →
    (∀ (i : Nat) (o : Option QueryR), i < xs.length → us.getD i false = false → g o (pre.length + i) = f o (xs.getD i (0, [])) (unused (pre ++ xs) ((upre ++ us).set (pre.length + i) true))) →
    ∀ o, (List.range xs.length).foldl (fun o i => if us.getD i false then o else g o (pre.length + i)) o =
      (List.range (unused xs us).length).foldl (fun o j => f o ((unused xs us).getD j (0, [])) (unused pre upre ++ (unused xs us).eraseIdx j)) o
  | [], pre, us, upre, _, _, _, o => rfl
  | a :: r, pre, [], upre, h, _, _, o => by cases h
  | a :: r, pre, u :: us, upre, hl, hp, hg, o => by
    have hl' : us.length = r.length := by simpa using hl
    have un_app : ∀ (p : List AtomC) (up : List Bool) (s : List AtomC) (v : List Bool), up.length = p.length → unused (p ++ s) (up ++ v) = unused p up ++ unused s v := by
      intro p
      induction p with
      | nil => intro up s v h; have : up = [] := List.length_eq_zero_iff.1 (by simpa using h); subst this; rfl
      | cons x p ih =>
        intro up s v h
        cases up with
        | nil => cases h
        | cons w up =>
          have := ih up s v (by simpa using h)
          cases w <;> simp [unused, this]
    have ih := fun o => loop_unused f g r (pre ++ [a]) us (upre ++ [u]) hl' (by simp [hp]) (fun i o hi hu => by
      have := hg (i + 1) o (by simpa using hi) (by simpa using hu)
      rw [List.length_append, List.length_cons, List.length_nil, show pre.length + (0 + 1) + i = pre.length + (i + 1) from by omega, this]
      simp [List.append_assoc]) o
    rw [List.length_cons, List.range_succ_eq_map, List.foldl_cons, List.foldl_map]
    have e2 : ∀ o, (List.range r.length).foldl (fun o i => if (u :: us).getD (i + 1) false = true then o else g o (pre.length + (i + 1))) o = (List.range r.length).foldl (fun o i => if us.getD i false = true then o else g o ((pre ++ [a]).length + i)) o := by
      intro o
      congr 1
      funext o i
      rw [List.length_append, List.length_cons, List.length_nil, show pre.length + (0 + 1) + i = pre.length + (i + 1) from by omega]
      rfl
    have ih2 := fun o => (e2 o).trans (ih o)
    cases u with
    | true =>
      simp only [List.getD_cons_zero, if_true]
      refine (ih2 o).trans ?_
      have e3 : unused (pre ++ [a]) (upre ++ [true]) = unused pre upre := by rw [un_app _ _ _ _ hp]; simp [unused]
      simp only [unused, if_true, e3]
    | false =>
      simp only [List.getD_cons_zero, Bool.false_eq_true, if_false]
      have h0 := hg 0 o (by simp) rfl
      simp only [Nat.add_zero, List.getD_cons_zero] at h0 ⊢
      rw [h0]
      have e4 : unused (pre ++ a :: r) ((upre ++ false :: us).set pre.length true) = unused pre upre ++ unused r us := by
        rw [List.set_append_right _ _ (by omega), hp, Nat.sub_self, List.set_cons_zero, un_app _ _ _ _ hp]
        simp [unused]
      rw [e4]
      refine (ih2 _).trans ?_
      have e5 : unused (pre ++ [a]) (upre ++ [false]) = unused pre upre ++ [a] := by rw [un_app _ _ _ _ hp]; simp [unused]
      have e6 : unused (a :: r) (false :: us) = a :: unused r us := rfl
      rw [e6, List.length_cons, List.range_succ_eq_map, List.foldl_cons, List.foldl_map]
      simp only [List.getD_cons_zero, List.eraseIdx_cons_zero, e5]
      congr 1
      funext o j
      simp [List.append_assoc]
theorem tryU_ok (q : QueryR) : ∀ (n : Nat) (used : List Bool) (body : List AtomC) (o : Option QueryR), used.length = q.2.length → (unused q.2 used).length = n → tryU q n used body o = tryQ q.1 n body (unused q.2 used) o
  | 0, used, body, o, _, _ => rfl
  | n + 1, used, body, o, hl, hn => by
    simp only [tryU, tryQ]
    have key := loop_unused (fun o a left => tryQ q.1 n (body ++ [a]) left o) (fun o i => tryU q n (used.set i true) (body ++ [q.2.getD i (0, [])]) o) q.2 [] used [] hl rfl (fun i o hi hu => by
      simp only [List.length_nil, Nat.zero_add, List.nil_append]
      have hus : (unused q.2 (used.set i true)).length = n := by
        have h1 := unused_len q.2 used hl
        have h2 := unused_len q.2 (used.set i true) (by rw [List.length_set]; exact hl)
        have h3 : ∀ (us : List Bool) (i : Nat), i < us.length → us.getD i false = false → ((us.set i true).filter id).length = (us.filter id).length + 1 := by
          intro us
          induction us with
          | nil => intro i hi; cases hi
          | cons u us ih =>
            intro i hi hu
            cases i with
            | zero =>
              simp at hu
              subst hu
              simp
            | succ i =>
              have := ih i (by simpa using hi) (by simpa using hu)
              cases u <;> simp [this] <;> simp at this <;> omega
        have h4 := h3 used i (by omega) hu
        omega
      exact tryU_ok q n (used.set i true) (body ++ [q.2.getD i (0, [])]) o (by rw [List.length_set]; exact hl) hus) o
    simpa [unused] using key
end Go.Proofs.YthfjngmbdbocbaaD
