/- Names in the order of their first use: plain laws. -/
import Derived.Test.YthfjngmbdbocbaaFQueryOk2
import Derived.Test.YthfjngmbdbocbaaFRename
set_option linter.unusedVariables false
set_option linter.unusedSimpArgs false
set_option maxRecDepth 100000
namespace Go.Proofs.YthfjngmbdbocbaaD
open Go Go.Proofs

/-- One term: its name, and the map behind it. -/
def nm (m : List (Int × Int)) (x : Int) : Int × List (Int × Int) := if isVar x then (match getM m x with
  | some n => (n, m)
  | none => ((m.length : Int), setM m x m.length)) else (x, m)
def nmL : List Int → List (Int × Int) → List Int × List (Int × Int)
  | [], m => ([], m)
  | x :: xs, m => ((nm m x).1 :: (nmL xs (nm m x).2).1, (nmL xs (nm m x).2).2)
def nmA : List AtomC → List (Int × Int) → List AtomC × List (Int × Int)
  | [], m => ([], m)
  | a :: r, m => ((a.1, (nmL a.2 m).1) :: (nmA r (nmL a.2 m).2).1, (nmA r (nmL a.2 m).2).2)
def nmQ (q : QueryR) : QueryR := ((nmL q.1 []).1, (nmA q.2 (nmL q.1 []).2).1)
theorem nmL_len : ∀ (xs : List Int) (m : List (Int × Int)), (nmL xs m).1.length = xs.length
  | [], m => rfl
  | x :: xs, m => by simp only [nmL, List.length_cons, nmL_len xs]
theorem nmL_app : ∀ (xs ys : List Int) (m : List (Int × Int)), nmL (xs ++ ys) m = ((nmL xs m).1 ++ (nmL ys (nmL xs m).2).1, (nmL ys (nmL xs m).2).2)
  | [], ys, m => rfl
  | x :: xs, ys, m => by simp only [List.cons_append, nmL, nmL_app xs ys]
theorem nmA_len : ∀ (xs : List AtomC) (m : List (Int × Int)), (nmA xs m).1.length = xs.length
  | [], m => rfl
  | x :: xs, m => by simp only [nmA, List.length_cons, nmA_len xs]
theorem nmA_app : ∀ (xs ys : List AtomC) (m : List (Int × Int)), nmA (xs ++ ys) m = ((nmA xs m).1 ++ (nmA ys (nmA xs m).2).1, (nmA ys (nmA xs m).2).2)
  | [], ys, m => rfl
  | x :: xs, ys, m => by simp only [List.cons_append, nmA, nmA_app xs ys]
/-! The variables in the order of their first use. -/
def posS : List Int → Int → Nat → Nat
  | [], _, j => j
  | x :: r, v, j => if x == v then j else posS r v (j + 1)
def mGo : Nat → List Int → List (Int × Int)
  | _, [] => []
  | j, x :: r => (x, (j : Int)) :: mGo (j + 1) r
def addS (S : List Int) (x : Int) : List Int := if isVar x && !(has S x) then S ++ [x] else S
def renS1 (S : List Int) (x : Int) : Int := if isVar x && has S x then (posS S x 0 : Int) else x
theorem mGo_len : ∀ (S : List Int) (j : Nat), (mGo j S).length = S.length
  | [], j => rfl
  | x :: r, j => by simp only [mGo, List.length_cons, mGo_len r]
theorem has_cons (x v : Int) (r : List Int) : has (x :: r) v = ((x == v) || has r v) := rfl
theorem mGo_get : ∀ (S : List Int) (j : Nat) (v : Int), getM (mGo j S) v = if has S v then some (posS S v j : Int) else none
  | [], j, v => rfl
  | x :: r, j, v => by
    simp only [mGo, getM, posS, has_cons]
    by_cases hb : (x == v) = true
    · simp [hb]
    · have hf : (x == v) = false := by simpa using hb
      simp [hf, mGo_get r (j + 1) v]
theorem mGo_set : ∀ (S : List Int) (j : Nat) (v w : Int), has S v = false → setM (mGo j S) v w = mGo j S ++ [(v, w)]
  | [], j, v, w, _ => rfl
  | x :: r, j, v, w, h => by
    rw [has_cons, Bool.or_eq_false_iff] at h
    simp only [mGo, setM, h.1, cond_false, mGo_set r (j + 1) v w h.2, List.cons_append]
theorem mGo_app : ∀ (S T : List Int) (j : Nat), mGo j (S ++ T) = mGo j S ++ mGo (j + S.length) T
  | [], T, j => by simp [mGo]
  | x :: r, T, j => by simp only [List.cons_append, mGo, mGo_app r T (j + 1), List.length_cons, show j + 1 + r.length = j + (r.length + 1) from by omega]
theorem posS_app : ∀ (S T : List Int) (v : Int) (j : Nat), has S v = true → posS (S ++ T) v j = posS S v j
  | [], T, v, j, h => by cases h
  | x :: r, T, v, j, h => by
    simp only [List.cons_append, posS]
    rw [has_cons] at h
    cases hb : (x == v) with
    | true => rfl
    | false =>
      rw [hb, Bool.false_or] at h
      simp only [Bool.false_eq_true, if_false]
      exact posS_app r T v (j + 1) h
theorem posS_new : ∀ (S : List Int) (v : Int) (j : Nat), has S v = false → posS (S ++ [v]) v j = j + S.length
  | [], v, j, _ => by simp [posS]
  | x :: r, v, j, h => by
    rw [has_cons, Bool.or_eq_false_iff] at h
    simp only [List.cons_append, posS, h.1, Bool.false_eq_true, if_false, posS_new r v (j + 1) h.2, List.length_cons]
    omega
theorem nm_ok (S : List Int) (x : Int) : nm (mGo 0 S) x = (renS1 (addS S x) x, mGo 0 (addS S x)) := by
  unfold nm renS1 addS
  cases hv : isVar x with
  | false => simp
  | true =>
    simp only [if_true, Bool.true_and, mGo_get]
    cases hh : has S x with
    | true => simp [hh]
    | false =>
      have h1 : has (S ++ [x]) x = true := by rw [has_append, has_one]; simp
      simp only [Bool.false_eq_true, if_false, Bool.not_false, if_true, h1, mGo_len, mGo_set S 0 x _ hh, posS_new S x 0 hh, mGo_app, mGo, Nat.zero_add]
theorem addS_more (S : List Int) (x : Int) : ∃ T, addS S x = S ++ T := by
  unfold addS
  split
  · exact ⟨[x], rfl⟩
  · exact ⟨[], by simp⟩
theorem fold_more : ∀ (xs S : List Int), ∃ T, xs.foldl addS S = S ++ T
  | [], S => ⟨[], by simp⟩
  | x :: xs, S => by
    obtain ⟨T, h⟩ := addS_more S x
    obtain ⟨U, h2⟩ := fold_more xs (addS S x)
    exact ⟨T ++ U, by rw [List.foldl_cons, h2, h, List.append_assoc]⟩
theorem addS_has {S : List Int} {x : Int} (hv : isVar x = true) : has (addS S x) x = true := by
  unfold addS
  cases hh : has S x with
  | true => simp [hv, hh]
  | false =>
    simp only [hv, Bool.not_false, Bool.and_self, if_true]
    rw [has_append, has_one]; simp
theorem renS1_more {S T : List Int} {x : Int} (h : isVar x = true → has S x = true) : renS1 (S ++ T) x = renS1 S x := by
  unfold renS1
  cases hv : isVar x with
  | false => simp
  | true =>
    have h1 := h hv
    rw [has_append, h1]
    simp only [Bool.true_or, Bool.and_self, if_true, posS_app S T x 0 h1]
theorem nmL_ok : ∀ (xs S : List Int), nmL xs (mGo 0 S) = (xs.map (renS1 (xs.foldl addS S)), mGo 0 (xs.foldl addS S))
  | [], S => rfl
  | x :: xs, S => by
    simp only [nmL, nm_ok, nmL_ok xs, List.map_cons, List.foldl_cons]
    obtain ⟨T, h⟩ := fold_more xs (addS S x)
    rw [h, renS1_more (fun hv => addS_has hv)]
def allT (q : QueryR) : List Int := q.1 ++ q.2.flatMap (·.2)
theorem nmA_ok : ∀ (r : List AtomC) (S : List Int), nmA r (mGo 0 S) = (r.map fun a => (a.1, a.2.map (renS1 ((r.flatMap (·.2)).foldl addS S))), mGo 0 ((r.flatMap (·.2)).foldl addS S))
  | [], S => rfl
  | a :: r, S => by
    simp only [nmA, nmL_ok, nmA_ok r, List.map_cons, List.flatMap_cons, List.foldl_append]
    obtain ⟨T, h⟩ := fold_more (r.flatMap (·.2)) (a.2.foldl addS S)
    have key : ∀ (xs S : List Int), ∀ x ∈ xs, isVar x = true → has (xs.foldl addS S) x = true := by
      intro xs
      induction xs with
      | nil => intro S x hx; cases hx
      | cons y ys ih =>
        intro S x hx hv
        rw [List.foldl_cons]
        rcases List.mem_cons.1 hx with rfl | hx
        · obtain ⟨T, h⟩ := fold_more ys (addS S x)
          rw [h, has_append, addS_has hv, Bool.true_or]
        · exact ih _ x hx hv
    have h2 : a.2.map (renS1 (a.2.foldl addS S)) = a.2.map (renS1 ((r.flatMap (·.2)).foldl addS (a.2.foldl addS S))) := by
      refine List.map_congr_left fun x hx => ?_
      rw [h]
      exact (renS1_more (fun hv => key a.2 S x hx hv)).symm
    rw [h2]
def seenQ (q : QueryR) : List Int := (allT q).foldl addS []
theorem has_fold_all (xs S : List Int) : ∀ x ∈ xs, isVar x = true → has (xs.foldl addS S) x = true := by
  induction xs generalizing S with
  | nil => intro x hx; cases hx
  | cons y ys ih =>
    intro x hx hv
    rw [List.foldl_cons]
    rcases List.mem_cons.1 hx with rfl | hx
    · obtain ⟨T, h⟩ := fold_more ys (addS S x)
      rw [h, has_append, addS_has hv, Bool.true_or]
    · exact ih _ x hx hv
theorem nmQ_ok (q : QueryR) : nmQ q = (q.1.map (renS1 (seenQ q)), q.2.map fun a => (a.1, a.2.map (renS1 (seenQ q)))) := by
  have h0 : nmL q.1 [] = _ := nmL_ok q.1 []
  have h1 := nmA_ok q.2 (q.1.foldl addS [])
  have e : seenQ q = (q.2.flatMap (·.2)).foldl addS (q.1.foldl addS []) := by unfold seenQ allT; rw [List.foldl_append]
  unfold nmQ
  rw [h0, h1, ← e]
  congr 1
  refine List.map_congr_left fun x hx => ?_
  obtain ⟨T, h⟩ := fold_more (q.2.flatMap (·.2)) (q.1.foldl addS [])
  rw [e, h]
  exact (renS1_more (fun hv => has_fold_all q.1 [] x hx hv)).symm
/-! The same by a list of new names. -/
def toOf (S : List Int) : List Int := (List.range 20).map fun (v : Nat) => if has S (v : Int) then (posS S (v : Int) 0 : Int) else (v : Int)
theorem toOf_len (S : List Int) : (toOf S).length = 20 := by simp [toOf]
theorem toOf_at (S : List Int) {v : Nat} (h : v < 20) : (toOf S)[v]? = some (if has S (v : Int) then (posS S (v : Int) 0 : Int) else (v : Int)) := by
  simp [toOf, h]
theorem toOf_set (S : List Int) {v : Nat} (hv : v < 20) (h : has S (v : Int) = false) : (toOf S).set v (S.length : Int) = toOf (S ++ [(v : Int)]) := by
  refine List.ext_getElem? fun i => ?_
  rw [List.getElem?_set]
  by_cases hi : i < 20
  · rw [toOf_at _ hi, toOf_at _ hi]
    by_cases hvi : v = i
    · subst hvi
      have h1 : has (S ++ [(v : Int)]) (v : Int) = true := by rw [has_append, has_one]; simp
      rw [if_pos rfl, if_pos (by rw [toOf_len]; exact hv), if_pos h1, posS_new S _ 0 h, Nat.zero_add]
    · rw [if_neg hvi, has_append, has_one]
      have hne : ((v : Int) == (i : Int)) = false := by simp; omega
      rw [hne, Bool.or_false]
      cases hh : has S (i : Int) with
      | false => rfl
      | true => simp only [if_true, posS_app S _ _ 0 hh]
  · rw [List.getElem?_eq_none (by rw [toOf_len]; omega), if_neg (by rintro rfl; exact hi hv)]
    exact (List.getElem?_eq_none (by rw [toOf_len]; omega)).symm
theorem ren1_to (S : List Int) (x : Int) : ren1 (toOf S) x = renS1 S x := by
  unfold ren1 renS1
  have e : inR x 0 ((toOf S).length - 1) = isVar x := by rw [toOf_len]; rfl
  rw [e]
  cases hv : isVar x with
  | false => simp
  | true =>
    have hr : 0 ≤ x ∧ x ≤ 19 := by simpa [isVar, inR] using hv
    obtain ⟨v, rfl⟩ : ∃ v : Nat, x = v := ⟨x.toNat, by omega⟩
    have hlt : v < 20 := by omega
    rw [if_pos rfl, Int.toNat_natCast, List.getD_eq_getElem?_getD, toOf_at S hlt]
    simp
theorem renQ_to (q : QueryR) : renQ (toOf (seenQ q)) q = nmQ q := by
  rw [nmQ_ok]
  have h1 : ∀ xs : List Int, xs.map (ren1 (toOf (seenQ q))) = xs.map (renS1 (seenQ q)) := fun xs => List.map_congr_left fun x _ => ren1_to _ x
  unfold renQ
  rw [h1]
  congr 1
  refine List.map_congr_left fun a _ => ?_
  simp only [renA, h1]
theorem addS_len (S : List Int) (x : Int) : (addS S x).length ≤ S.length + 1 := by
  unfold addS
  split
  · simp
  · omega
theorem nmQ_size (q : QueryR) : cQuery (nmQ q) = cQuery q := by
  rw [nmQ_ok]
  unfold cQuery cAtomS
  simp only [List.length_map]
  congr 2
  have key : ∀ (xs : List AtomC) (f : Int → Int), sumB cAtom (xs.map fun a => (a.1, a.2.map f)) = sumB cAtom xs := by
    intro xs f
    induction xs with
    | nil => rfl
    | cons x xs ih =>
      simp only [List.map_cons, sumB, ih]
      congr 1
      exact List.length_map ..
  exact key _ _
end Go.Proofs.YthfjngmbdbocbaaD
