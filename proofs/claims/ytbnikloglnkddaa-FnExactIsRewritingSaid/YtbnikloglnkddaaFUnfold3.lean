/- l15Fresh: a view's variables get names that are free. -/
import Derived.Test.YtbnikloglnkddaaFUnfold1
set_option linter.unusedVariables false
set_option linter.unusedSimpArgs false
set_option maxRecDepth 100000
namespace Go.Proofs.YtbnikloglnkddaaD
open Go Go.Proofs

def top (u : List Int) : Nat := u.foldr (fun x m => max (x.toNat + 1) m) 0
theorem top_cons (x : Int) (u : List Int) : top (x :: u) = max (x.toNat + 1) (top u) := rfl
theorem top_has {v : Nat} : ∀ {u : List Int}, has u (v : Int) = true → v < top u
  | [], h => by cases h
  | x :: u, h => by
    have h' : (eqV (v : Int) x || has u (v : Int)) = true := h
    rw [top_cons]
    rcases Bool.or_eq_true_iff.1 h' with h1 | h1
    · have : x = v := by simpa [eqV] using h1
      omega
    · have := top_has h1
      omega
theorem top_snoc (w : Nat) : ∀ u : List Int, top (u ++ [(w : Int)]) = max (top u) (w + 1)
  | [] => by simp [top]
  | x :: u => by
    rw [List.cons_append, top_cons, top_cons, top_snoc w u]
    omega
def nxtF (u : List Int) : Nat → Nat → Nat
  | 0, v => v
  | f + 1, v => if has u (v : Int) then nxtF u f (v + 1) else v
def nx (u : List Int) (v : Nat) : Nat := nxtF u (top u - v) v
theorem nx_step {u : List Int} {v : Nat} (h : has u (v : Int) = true) : nx u v = nx u (v + 1) := by
  have := top_has h
  unfold nx
  rw [show top u - v = (top u - (v + 1)) + 1 from by omega, nxtF, if_pos h]
theorem nx_stop {u : List Int} {v : Nat} (h : has u (v : Int) = false) : nx u v = v := by
  unfold nx
  cases top u - v with
  | zero => rfl
  | succ n => rw [nxtF, if_neg (by simp [h])]
theorem nxtF_le (u : List Int) : ∀ f v, v ≤ nxtF u f v ∧ nxtF u f v ≤ v + f
  | 0, v => ⟨Nat.le_refl _, Nat.le_refl _⟩
  | f + 1, v => by
    have := nxtF_le u f (v + 1)
    rw [nxtF]
    split
    · omega
    · omega
theorem nx_le (u : List Int) (v : Nat) : v ≤ nx u v ∧ nx u v ≤ max v (top u) := by
  have := nxtF_le u (top u - v) v
  unfold nx
  omega
def frS (vars : List Int) (st : Nat × List Int × List Int) (i : Nat) : Nat × List Int × List Int :=
  if has vars (i : Int) then (nx st.2.1 st.1, st.2.1 ++ [(nx st.2.1 st.1 : Int)], st.2.2 ++ [(nx st.2.1 st.1 : Int)]) else (st.1, st.2.1, st.2.2 ++ [(i : Int)])
def frK (vars u : List Int) (k : Nat) : Nat × List Int × List Int := (List.range k).foldl (frS vars) (0, u, [])
theorem frK_succ (vars u : List Int) (k : Nat) : frK vars u (k + 1) = frS vars (frK vars u k) k := by
  unfold frK
  rw [List.range_succ, List.foldl_append]
  rfl
theorem frK_bd (vars u : List Int) (B : Nat) (h : top u ≤ B) : ∀ k, (frK vars u k).1 ≤ B + k ∧ top (frK vars u k).2.1 ≤ B + k ∧ (frK vars u k).2.1.length ≤ u.length + k ∧ (frK vars u k).2.2.length = k
  | 0 => ⟨Nat.zero_le _, h, Nat.le_refl _, rfl⟩
  | k + 1 => by
    have ih := frK_bd vars u B h k
    have hn := nx_le (frK vars u k).2.1 (frK vars u k).1
    rw [frK_succ, frS]
    split
    · refine ⟨?_, ?_, ?_, ?_⟩
      · show nx _ _ ≤ _
        omega
      · show top (_ ++ [((nx _ _ : Nat) : Int)]) ≤ _
        rw [top_snoc]
        omega
      · show (_ ++ [_]).length ≤ _
        rw [List.length_append, List.length_singleton]
        omega
      · show (_ ++ [_]).length = _
        rw [List.length_append, List.length_singleton]
        omega
    · refine ⟨?_, ?_, ?_, ?_⟩
      · show (frK vars u k).1 ≤ _
        omega
      · show top (frK vars u k).2.1 ≤ _
        omega
      · show (frK vars u k).2.1.length ≤ _
        omega
      · show (_ ++ [_]).length = _
        rw [List.length_append, List.length_singleton]
        omega
def fresh (q : QueryT) (u : List Int) : Nat × List Int × List Int := frK (varsOf q) u 20
def wFresh (q : QueryT) (st : Nat × List Int × List Int) : V := .tup [wQuery (renQ st.2.2 q), intsT st.2.1, cb (decide ((st.1 : Int) < 20))]
theorem frK_cases (vars u : List Int) (k : Nat) (v : Nat) (U T : List Int) (h : frK vars u k = (v, U, T)) : frK vars u (k + 1) = if has vars (k : Int) then (nx U v, U ++ [(nx U v : Int)], T ++ [(nx U v : Int)]) else (v, U, T ++ [(k : Int)]) := by
  rw [frK_succ, h]
  rfl
theorem frK_zero (vars u : List Int) : frK vars u 0 = (0, u, []) := rfl
theorem varsTo_len20 (q : QueryT) : (varsOf q).length ≤ 20 := varsTo_len q 20
attribute [local irreducible] frK nx top varsOf varsTo
def stX (q : QueryT) (vars : List Int) (n nt : Nat) (rU rT : List V) (v e : Int) : Bool → St
  | true => ⟨45, [(1, .own 2 1 0 n n none), (2, .ptr 3 0), (4, .ptr 4 0), (7, .own 5 1 0 nt nt none), (8, ci v), (9, ints vars), (10, ci e)], [none, none, some ⟨false, rU⟩, some ⟨true, rQuery q⟩, some ⟨true, [cnil, cnil]⟩, some ⟨false, rT⟩]⟩
  | false => ⟨45, [(1, .own 3 1 0 n n none), (2, .ptr 4 0), (4, .ptr 5 0), (7, .own 6 1 0 nt nt none), (8, ci v), (9, ints vars), (10, ci e)], [none, none, none, some ⟨false, rU⟩, some ⟨true, rQuery q⟩, some ⟨true, [cnil, cnil]⟩, some ⟨false, rT⟩]⟩
set_option maxHeartbeats 8000000 in
theorem l15Fresh_spec (q : QueryT) (u : List Int) (h : cQuery q ≤ 1048576) (hu : top u ≤ 1048576) (hul : u.length ≤ 1048576) : SpecR Try.prog 132 [vQuery q, intsT u] (wFresh q (fresh q u)) [vQuery q, .any] := by
  refine SpecL_of mx Γ_ok 3 Try.func132 rfl rfl (by omega) ?_
  conv => whnf
  refine ⟨_, specVarsOf_spec q h, .inl rfl, .inl ?_⟩
  rw [intsT_ro]
  conv => whnf
  refine ⟨[(1,0),(2,0),(4,0),(7,0),(8,0),(9,0),(10,0)], fun m s => ∃ (b : Bool) (k : Nat) (e f : Int) (v : Nat) (U T : List Int) (n nt : Nat) (rU rT : List V), e = k ∧ m + k = 20 ∧ f = v ∧ frK (varsOf q) u k = (v, U, T) ∧ n = U.length ∧ nt = T.length ∧ rU = rows ciL U ∧ rT = rows ciL T ∧
    s = stX q (varsOf q) n nt rU rT f e b, 20, ⟨true, 0, 0, 0, 0, u, [], u.length, 0, rows ciL u, [], rfl, rfl, rfl, frK_zero _ _, rfl, rfl, rfl, rfl, by kernel_rfl⟩, ?_⟩
  rintro m s ⟨b, k, _, _, v, U, T, n, nt, _, _, rfl, hm, rfl, hfr, hn, hnt, rfl, rfl, rfl⟩
  have hbd := frK_bd (varsOf q) u 1048576 hu k
  have hnx := frK_cases (varsOf q) u k v U T hfr
  have hvl := varsTo_len20 q
  rw [hfr] at hbd
  obtain ⟨hb1, hb2, hb3, hb4⟩ := hbd
  simp only at hb1 hb2 hb3 hb4
  obtain ⟨b', hb'⟩ : ∃ b', b' = b := ⟨_, rfl⟩
  cases b
  all_goals
    unfold stX
    conv => whnf
    split <;> rename_i h1
    all_goals simp only [decide_eq_true_eq, decide_eq_false_iff_not] at h1
    · conv => whnf
      refine ⟨_, rfl, .inl ⟨flat1 rfl, ?_⟩⟩
      conv => whnf
      refine ⟨by omega, by rw [rows_len ciL_len, hnt], _, snoc_ci _ _, ?_⟩
      conv => whnf
      refine ⟨_, l2Has_spec (varsOf q) k (by omega), .inl rfl, .inl ?_⟩
      conv => whnf
      generalize has (varsOf q) (k : Int) = b1 at hnx
      cases b1 with
      | false =>
        conv => whnf
        rw [if_neg (by simp)] at hnx
        refine ⟨m - 1, by omega, b', k + 1, IntKind.i64.wrap ((k : Int) + 1), v, v, U, T ++ [(k : Int)], n, nt + 1, rows ciL U, rows ciL (T ++ [(k : Int)]), wrap_id (by omega) (by omega), by omega, rfl, hnx, hn, ?_, rfl, rfl, by subst hb'; kernel_rfl⟩
        rw [List.length_append, hnt]
        rfl
      | true =>
        conv => whnf
        rw [if_pos rfl] at hnx
        have hw := nx_le U v
        refine ⟨[(1,0),(2,0),(4,0),(7,0),(8,0),(9,0),(10,0)], fun m' s => ∃ (v' : Nat) (f : Int) (n1 : Nat) (rT : List V), f = v' ∧ top U ≤ m' + v' ∧ nx U v' = nx U v ∧ n1 = nt + 1 ∧ rT = rows ciL (T ++ [(k : Int)]) ∧
          s = stX q (varsOf q) n n1 (rows ciL U) rT f k b', top U, ⟨v, v, nt + 1, rows ciL (T ++ [(k : Int)]), rfl, by omega, rfl, rfl, rfl, by subst hb'; kernel_rfl⟩, ?_⟩
        rintro m' s ⟨v', _, n1, _, rfl, hm', hv', hn1, rfl, rfl⟩
        have hw' := nx_le U v'
        have hst : has U (v' : Int) = true → nx U v' = nx U (v' + 1) ∧ v' < top U := fun h => ⟨nx_step h, top_has h⟩
        have hsp : has U (v' : Int) = false → nx U v' = v' := nx_stop
        subst hb'
        unfold stX
        conv => whnf
        refine .inl ?_
        conv => whnf
        refine ⟨_, _, takeN_all (by rw [rows_len ciL_len, hn]), roVs_ci _, ?_⟩
        conv => whnf
        subst hn
        refine ⟨_, l2Has_spec U v' (by omega), .inr trivial, .inl ?_⟩
        conv => whnf
        generalize has U (v' : Int) = b2 at hst hsp
        cases b2 with
        | true =>
          conv => whnf
          obtain ⟨h5, h6⟩ := hst rfl
          exact ⟨m' - 1, by omega, v' + 1, IntKind.i64.wrap ((v' : Int) + 1), n1, rows ciL (T ++ [(k : Int)]), wrap_id (by omega) (by omega), by omega, by rw [← h5, hv'], hn1, rfl, by kernel_rfl⟩
        | false =>
          conv => whnf
          have h5 := hsp rfl
          have h6 : nx U v = v' := by rw [← hv', h5]
          rw [h6] at hnx
          have hkl : k < (T ++ [(k : Int)]).length := by rw [List.length_append, hb4]; exact Nat.lt_succ_self k
          have hset : setC (rows ciL (T ++ [(k : Int)])) (0 + k * 1) [ci v'] = rows ciL (T ++ [(v' : Int)]) := by
            rw [set_ciL hkl, List.set_append_right _ _ (by omega), hb4, Nat.sub_self]
            rfl
          refine ⟨by omega, ?_⟩
          conv => whnf
          refine ⟨_, takeN_own (k := k) (d := 0) (xs := T ++ [(k : Int)]) ciL_len (Nat.zero_add _) hkl (Nat.le_refl _) rfl, _, hset, ?_⟩
          conv => whnf
          refine ⟨_, rfl, .inl ⟨flat1 rfl, ?_⟩⟩
          conv => whnf
          refine ⟨by omega, by rw [rows_len ciL_len], _, snoc_ci _ _, ?_⟩
          conv => whnf
          refine ⟨m - 1, by omega, false, k + 1, IntKind.i64.wrap ((k : Int) + 1), v', v', U ++ [(v' : Int)], T ++ [(v' : Int)], U.length + 1, n1, rows ciL (U ++ [(v' : Int)]), rows ciL (T ++ [(v' : Int)]), wrap_id (by omega) (by omega), by omega, rfl, hnx, ?_, ?_, rfl, rfl, by kernel_rfl⟩
          · rw [List.length_append]
            rfl
          · rw [hn1, List.length_append, hnt]
            rfl
    · conv => whnf
      have hkk : k = 20 := by omega
      refine .inl ?_
      conv => whnf
      refine ⟨_, _, takeN_all (by rw [rows_len ciL_len, hnt]), roVs_ci _, ?_⟩
      conv => whnf
      subst hnt
      refine ⟨_, renameQuery_spec q T h (by omega), .inr (closed_wQuery _), .inr ?_⟩
      conv => whnf
      refine ⟨by rw [rows_len ciL_len], by rw [rows_len tAtom_len], ?_⟩
      conv => whnf
      subst hkk
      subst hn
      have e : fresh q u = (v, U, T) := hfr
      rw [e]
      refine ⟨by rw [rows_len ciL_len], ?_, ?_⟩
      · rfl
      · rfl
end Go.Proofs.YtbnikloglnkddaaD
