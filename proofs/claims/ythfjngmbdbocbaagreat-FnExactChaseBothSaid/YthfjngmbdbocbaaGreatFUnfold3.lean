/- l15Fresh: a view's variables get names that are free. -/
import Derived.Test.YthfjngmbdbocbaaGreatFUnfold1
set_option linter.unusedVariables false
set_option linter.unusedSimpArgs false
set_option maxRecDepth 100000
namespace Go.Proofs.YthfjngmbdbocbaaGreatD
open Go Go.Proofs

def top (u : List Int) : Nat := u.foldr (fun x m => max (x.toNat + 1) m) 0
theorem top_cons (x : Int) (u : List Int) : top (x :: u) = max (x.toNat + 1) (top u) := rfl
theorem top_has {v : Nat} : ∀ {u : List Int}, has u (v : Int) = true → v < top u
  | [], h => by cases h
  | x :: u, h => by
    have h' : (eqV (v : Int) x || has u (v : Int)) = true := h
    rw [top_cons]
    rcases Bool.or_eq_true_iff.1 h' with h1 | h1
    · have : x = v := by simpa [eqV] using h1
      omega
    · have := top_has h1
      omega
theorem top_snoc (w : Nat) : ∀ u : List Int, top (u ++ [(w : Int)]) = max (top u) (w + 1)
  | [] => by simp [top]
  | x :: u => by
    rw [List.cons_append, top_cons, top_cons, top_snoc w u]
    omega
def nxtF (u : List Int) : Nat → Nat → Nat
  | 0, v => v
  | f + 1, v => if has u (v : Int) then nxtF u f (v + 1) else v
def nx (u : List Int) (v : Nat) : Nat := nxtF u (top u - v) v
theorem nx_step {u : List Int} {v : Nat} (h : has u (v : Int) = true) : nx u v = nx u (v + 1) := by
  have := top_has h
  unfold nx
  rw [show top u - v = (top u - (v + 1)) + 1 from by omega, nxtF, if_pos h]
theorem nx_stop {u : List Int} {v : Nat} (h : has u (v : Int) = false) : nx u v = v := by
  unfold nx
  cases top u - v with
  | zero => rfl
  | succ n => rw [nxtF, if_neg (by simp [h])]
theorem nxtF_le (u : List Int) : ∀ f v, v ≤ nxtF u f v ∧ nxtF u f v ≤ v + f
  | 0, v => ⟨Nat.le_refl _, Nat.le_refl _⟩
  | f + 1, v => by
    have := nxtF_le u f (v + 1)
    rw [nxtF]
    split
    · omega
    · omega
theorem nx_le (u : List Int) (v : Nat) : v ≤ nx u v ∧ nx u v ≤ max v (top u) := by
  have := nxtF_le u (top u - v) v
  unfold nx
  omega
def frS (vars : List Int) (st : Nat × List Int × List Int) (i : Nat) : Nat × List Int × List Int :=
  if has vars (i : Int) then (nx st.2.1 st.1, st.2.1 ++ [(nx st.2.1 st.1 : Int)], st.2.2 ++ [(nx st.2.1 st.1 : Int)]) else (st.1, st.2.1, st.2.2 ++ [(i : Int)])
def frK (vars u : List Int) (k : Nat) : Nat × List Int × List Int := (List.range k).foldl (frS vars) (0, u, [])
theorem frK_succ (vars u : List Int) (k : Nat) : frK vars u (k + 1) = frS vars (frK vars u k) k := by
  unfold frK
  rw [List.range_succ, List.foldl_append]
  rfl
theorem frK_bd (vars u : List Int) (B : Nat) (h : top u ≤ B) : ∀ k, (frK vars u k).1 ≤ B + k ∧ top (frK vars u k).2.1 ≤ B + k ∧ (frK vars u k).2.1.length ≤ u.length + k ∧ (frK vars u k).2.2.length = k
  | 0 => ⟨Nat.zero_le _, h, Nat.le_refl _, rfl⟩
  | k + 1 => by
    have ih := frK_bd vars u B h k
    have hn := nx_le (frK vars u k).2.1 (frK vars u k).1
    rw [frK_succ, frS]
    split
    · refine ⟨?_, ?_, ?_, ?_⟩
      · show nx _ _ ≤ _
        omega
      · show top (_ ++ [((nx _ _ : Nat) : Int)]) ≤ _
        rw [top_snoc]
        omega
      · show (_ ++ [_]).length ≤ _
        rw [List.length_append, List.length_singleton]
        omega
      · show (_ ++ [_]).length = _
        rw [List.length_append, List.length_singleton]
        omega
    · refine ⟨?_, ?_, ?_, ?_⟩
      · show (frK vars u k).1 ≤ _
        omega
      · show top (frK vars u k).2.1 ≤ _
        omega
      · show (frK vars u k).2.1.length ≤ _
        omega
      · show (_ ++ [_]).length = _
        rw [List.length_append, List.length_singleton]
        omega
def fresh (q : QueryT) (u : List Int) : Nat × List Int × List Int := frK (varsOf q) u 20
def wFresh (q : QueryT) (st : Nat × List Int × List Int) : V := .tup [wQuery (renQ st.2.2 q), intsT st.2.1, cb (decide ((st.1 : Int) < 20))]
theorem frK_cases (vars u : List Int) (k : Nat) (v : Nat) (U T : List Int) (h : frK vars u k = (v, U, T)) : frK vars u (k + 1) = if has vars (k : Int) then (nx U v, U ++ [(nx U v : Int)], T ++ [(nx U v : Int)]) else (v, U, T ++ [(k : Int)]) := by
  rw [frK_succ, h]
  rfl
theorem frK_zero (vars u : List Int) : frK vars u 0 = (0, u, []) := rfl
theorem varsTo_len20 (q : QueryT) : (varsOf q).length ≤ 20 := varsTo_len q 20
attribute [local irreducible] frK nx top varsOf varsTo
def stX (q : QueryT) (vars : List Int) (n nt : Nat) (rU rT : List V) (v e : Int) : Bool → St
  | true => ⟨45, [(1, .own 2 1 0 n n none), (2, .ptr 3 0), (4, .ptr 4 0), (7, .own 5 1 0 nt nt none), (8, ci v), (9, ints vars), (10, ci e)], [none, none, some ⟨false, rU⟩, some ⟨true, rQuery q⟩, some ⟨true, [cnil, cnil]⟩, some ⟨false, rT⟩]⟩
  | false => ⟨45, [(1, .own 3 1 0 n n none), (2, .ptr 4 0), (4, .ptr 5 0), (7, .own 6 1 0 nt nt none), (8, ci v), (9, ints vars), (10, ci e)], [none, none, none, some ⟨false, rU⟩, some ⟨true, rQuery q⟩, some ⟨true, [cnil, cnil]⟩, some ⟨false, rT⟩]⟩
end Go.Proofs.YthfjngmbdbocbaaGreatD
