/- Small laws that UnfoldQuery's texts hold, too (for seats without them). -/
import Derived.Test.YthfjngmbdbocbaaGreatFBoth1
import Derived.Test.YthfjngmbdbocbaaGreatFUnfold3
set_option linter.unusedVariables false
set_option linter.unusedSimpArgs false
set_option maxRecDepth 100000
namespace Go.Proofs.YthfjngmbdbocbaaGreatD
open Go Go.Proofs

theorem sumB_append {α : Type} (f : α → Nat) : ∀ xs ys : List α, sumB f (xs ++ ys) = sumB f xs + sumB f ys
  | [], ys => by simp [sumB]
  | x :: xs, ys => by
    rw [List.cons_append]
    simp only [sumB]
    rw [sumB_append f xs ys]
    omega
theorem isSchema_le {s : List Int} (h : isSchema s = true) {i : Nat} : s.getD i 0 ≤ 3 := by
  by_cases hi : i < s.length
  · rw [getD_int hi]
    exact (schema_at h hi).2
  · rw [List.getD_eq_getElem?_getD, List.getElem?_eq_none (by omega)]
    simp
theorem isQuery_small {s : List Int} {q : QueryT} (h : isQuery s q = true) : q.1.length ≤ 3 ∧ q.2.length ≤ 4 ∧ sumB cAtom q.2 ≤ 3 * q.2.length ∧ fineT q.1 ∧ fineA q.2 := by
  have hfn := isQuery_fine h
  simp only [isQuery, fineQ, terms3, Bool.and_eq_true, decide_eq_true_eq] at h
  obtain ⟨h0, ⟨_, h1⟩, h2, h3, _⟩ := h
  have h2' : 1 ≤ (q.2.length : Int) ∧ (q.2.length : Int) ≤ 4 := by simpa [inR] using h2
  refine ⟨h1, by omega, ?_, hfn.1, hfn.2⟩
  have key : ∀ l : List AtomC, l.all (isAtom s) = true → sumB cAtom l ≤ 3 * l.length := by
    intro l
    induction l with
    | nil => intro _; simp [sumB]
    | cons a l ih =>
      intro hl
      simp only [List.all_cons, Bool.and_eq_true] at hl
      have ih' := ih hl.2
      have ha := hl.1
      simp only [isAtom, takesS, Bool.and_eq_true, decide_eq_true_eq] at ha
      have h3 := ha.1.2.2
      have h4 := isSchema_le h0 (i := a.1.toNat)
      simp only [sumB, List.length_cons]
      have : cAtom a = a.2.length := rfl
      omega
  exact key _ h3
theorem fineT_nil : fineT [] := fun t h => absurd h (List.not_mem_nil)
theorem top_fine : ∀ {u : List Int}, fineT u → top u ≤ 20
  | [], _ => Nat.zero_le _
  | x :: u, h => by
    have h1 := h x (by simp)
    have h2 := top_fine (u := u) fun y hy => h y (by simp [hy])
    rw [top_cons]
    omega
theorem varsOf_fine (q : QueryT) : fineT (varsOf q) := fun t ht => by
  simp only [varsOf, varsTo, List.mem_map, List.mem_filter, List.mem_range] at ht
  obtain ⟨j, ⟨h, _⟩, rfl⟩ := ht
  show ((j : Nat) : Int) < 20
  omega
theorem getD_snoc {l : List Int} {x : Int} {i : Nat} (h : i < l.length) : (l ++ [x]).getD i 0 = l.getD i 0 := by
  simp [List.getD_eq_getElem?_getD, List.getElem?_append_left h]
theorem getD_last {l : List Int} {x : Int} {i : Nat} (h : i = l.length) : (l ++ [x]).getD i 0 = x := by
  subst h
  simp [List.getD_eq_getElem?_getD]
theorem getD_set {l : List Int} {x : Int} {i j : Nat} (h : j < l.length) : (l.set j x).getD i 0 = if j = i then x else l.getD i 0 := by
  simp only [List.getD_eq_getElem?_getD, List.getElem?_set]
  split
  · rename_i h1
    subst h1
    simp [h]
  · rfl
def bL (b : Bool) : List V := [cb b]
theorem bL_len (b : Bool) : (bL b).length = 1 := rfl
theorem rows_bL (n : Nat) : repl n [cb false] = rows bL (List.replicate n false) := repl_rows (f := bL) (d := false) rfl n
theorem vars_fine (q : QueryT) {k : Nat} (hk : k < (varsOf q).length) : ∃ j : Nat, (varsOf q)[k] = (j : Int) ∧ j < 20 := by
  have h : (varsOf q)[k] ∈ varsOf q := List.getElem_mem hk
  generalize (varsOf q)[k] = x at h
  simp only [varsOf, varsTo, List.mem_map, List.mem_filter, List.mem_range] at h
  obtain ⟨j, ⟨h1, _⟩, h2⟩ := h
  exact ⟨j, h2.symm, h1⟩
end Go.Proofs.YthfjngmbdbocbaaGreatD
