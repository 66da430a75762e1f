/- Contracts and plain laws of this seat; no condition. -/
import Derived.Test.YtboolngaahifdaaGreatQ20
import Derived.Test.YtboolngaahifdaaGreatQ18
import Derived.Test.YtboolngaahifdaaGreatQ10
import Derived.Test.YtboolngaahifdaaGreatQ19
set_option linter.unusedVariables false
set_option linter.unusedSimpArgs false
set_option maxRecDepth 100000
namespace Go.Proofs.YtboolngaahifdaaGreatD
open Go Go.Proofs
def top (u : List Int) : Nat := u.foldr (fun x m => max (x.toNat + 1) m) 0
theorem top_cons (x : Int) (u : List Int) : top (x :: u) = max (x.toNat + 1) (top u) := rfl
theorem top_has {v : Nat} : ∀ {u : List Int}, has u (v : Int) = true → v < top u
 | [], h => by cases h
 | x :: u, h => by
  have h' : (eqV (v : Int) x || has u (v : Int)) = true := h
  rw [top_cons]
  rcases Bool.or_eq_true_iff.1 h' with h1 | h1
  ·have : x = v := by simpa [eqV] using h1
   omega
  ·have := top_has h1
   omega
theorem top_snoc (w : Nat) : ∀ u : List Int, top (u ++ [(w : Int)]) = max (top u) (w + 1)
 | [] => by simp [top]
 | x :: u => by
  rw [List.cons_append, top_cons, top_cons, top_snoc w u]
  omega
def nxtF (u : List Int) : Nat → Nat → Nat
 | 0, v => v
 | f + 1, v => if has u (v : Int) then nxtF u f (v + 1) else v
def nx (u : List Int) (v : Nat) : Nat := nxtF u (top u - v) v
theorem nx_step {u : List Int} {v : Nat} (h : has u (v : Int) = true) : nx u v = nx u (v + 1) := by
 have := top_has h
 unfold nx
 rw [show top u - v = (top u - (v + 1)) + 1 from by omega, nxtF, if_pos h]
theorem nx_stop {u : List Int} {v : Nat} (h : has u (v : Int) = false) : nx u v = v := by
 unfold nx
 cases top u - v with
 | zero => rfl
 | succ n => rw [nxtF, if_neg (by simp [h])]
theorem nxtF_le (u : List Int) : ∀ f v, v ≤ nxtF u f v ∧ nxtF u f v ≤ v + f
 | 0, v => ⟨Nat.le_refl _, Nat.le_refl _⟩
 | f + 1, v => by
  have := nxtF_le u f (v + 1)
  rw [nxtF]
  split
  ·omega
  ·omega
theorem nx_le (u : List Int) (v : Nat) : v ≤ nx u v ∧ nx u v ≤ max v (top u) := by
 have := nxtF_le u (top u - v) v
 unfold nx
 omega
def frS (vars : List Int) (st : Nat × List Int × List Int) (i : Nat) : Nat × List Int × List Int :=
 if has vars (i : Int) then (nx st.2.1 st.1, st.2.1 ++ [(nx st.2.1 st.1 : Int)], st.2.2 ++ [(nx st.2.1 st.1 : Int)]) else (st.1, st.2.1, st.2.2 ++ [(i : Int)])
def frK (vars u : List Int) (k : Nat) : Nat × List Int × List Int := (List.range k).foldl (frS vars) (0, u, [])
theorem frK_succ (vars u : List Int) (k : Nat) : frK vars u (k + 1) = frS vars (frK vars u k) k := by
 unfold frK
 rw [List.range_succ, List.foldl_append]
 rfl
theorem frK_bd (vars u : List Int) (B : Nat) (h : top u ≤ B) : ∀ k, (frK vars u k).1 ≤ B + k ∧ top (frK vars u k).2.1 ≤ B + k ∧ (frK vars u k).2.1.length ≤ u.length + k ∧ (frK vars u k).2.2.length = k
 | 0 => ⟨Nat.zero_le _, h, Nat.le_refl _, rfl⟩
 | k + 1 => by
  have ih := frK_bd vars u B h k
  have hn := nx_le (frK vars u k).2.1 (frK vars u k).1
  rw [frK_succ, frS]
  split
  ·refine ⟨?_, ?_, ?_, ?_⟩
   ·show nx _ _ ≤ _
    omega
   ·show top (_ ++ [((nx _ _ : Nat) : Int)]) ≤ _
    rw [top_snoc]
    omega
   ·show (_ ++ [_]).length ≤ _
    rw [List.length_append, List.length_singleton]
    omega
   ·show (_ ++ [_]).length = _
    rw [List.length_append, List.length_singleton]
    omega
  ·refine ⟨?_, ?_, ?_, ?_⟩
   ·show (frK vars u k).1 ≤ _
    omega
   ·show top (frK vars u k).2.1 ≤ _
    omega
   ·show (frK vars u k).2.1.length ≤ _
    omega
   ·show (_ ++ [_]).length = _
    rw [List.length_append, List.length_singleton]
    omega
def fresh (q : QueryT) (u : List Int) : Nat × List Int × List Int := frK (varsOf q) u 20
def wFresh (q : QueryT) (st : Nat × List Int × List Int) : V := .tup [wQuery (renQ st.2.2 q), intsT st.2.1, cb (decide ((st.1 : Int) < 20))]
theorem frK_cases (vars u : List Int) (k : Nat) (v : Nat) (U T : List Int) (h : frK vars u k = (v, U, T)) : frK vars u (k + 1) = if has vars (k : Int) then (nx U v, U ++ [(nx U v : Int)], T ++ [(nx U v : Int)]) else (v, U, T ++ [(k : Int)]) := by
 rw [frK_succ, h]
 rfl
theorem frK_zero (vars u : List Int) : frK vars u 0 = (0, u, []) := rfl
theorem varsTo_len20 (q : QueryT) : (varsOf q).length ≤ 20 := varsTo_len q 20
attribute [local irreducible] frK nx top varsOf varsTo
def stX (q : QueryT) (vars : List Int) (n nt : Nat) (rU rT : List V) (v e : Int) : Bool → St
 | true => ⟨45, [(1, .own 2 1 0 n n none), (2, .ptr 3 0), (4, .ptr 4 0), (7, .own 5 1 0 nt nt none), (8, ci v), (9, ints vars), (10, ci e)], [none, none, some ⟨false, rU⟩, some ⟨true, rQuery q⟩, some ⟨true, [cnil, cnil]⟩, some ⟨false, rT⟩]⟩
 | false => ⟨45, [(1, .own 3 1 0 n n none), (2, .ptr 4 0), (4, .ptr 5 0), (7, .own 6 1 0 nt nt none), (8, ci v), (9, ints vars), (10, ci e)], [none, none, none, some ⟨false, rU⟩, some ⟨true, rQuery q⟩, some ⟨true, [cnil, cnil]⟩, some ⟨false, rT⟩]⟩
set_option maxHeartbeats 8000000 in
theorem l15Fresh_spec (q : QueryT) (u : List Int) (h : cQuery q ≤ 1048576) (hu : top u ≤ 1048576) (hul : u.length ≤ 1048576) : SpecR Tryz.prog 184 [vQuery q, intsT u] (wFresh q (fresh q u)) [vQuery q, .any] := by
 refine SpecL_of mx Γ_ok 3 Tryz.func184 rfl rfl (by omega) ?_
 conv => whnf
 refine ⟨_, specVarsOf_spec q h, .inl rfl, .inl ?_⟩
 rw [intsT_ro]
 conv => whnf
 refine ⟨[(1,0),(2,0),(4,0),(7,0),(8,0),(9,0),(10,0)], fun m s => ∃ (b : Bool) (k : Nat) (e f : Int) (v : Nat) (U T : List Int) (n nt : Nat) (rU rT : List V), e = k ∧ m + k = 20 ∧ f = v ∧ frK (varsOf q) u k = (v, U, T) ∧ n = U.length ∧ nt = T.length ∧ rU = rows ciL U ∧ rT = rows ciL T ∧
  s = stX q (varsOf q) n nt rU rT f e b, 20, ⟨true, 0, 0, 0, 0, u, [], u.length, 0, rows ciL u, [], rfl, rfl, rfl, frK_zero _ _, rfl, rfl, rfl, rfl, by kernel_rfl⟩, ?_⟩
 rintro m s ⟨b, k, _, _, v, U, T, n, nt, _, _, rfl, hm, rfl, hfr, hn, hnt, rfl, rfl, rfl⟩
 have hbd := frK_bd (varsOf q) u 1048576 hu k
 have hnx := frK_cases (varsOf q) u k v U T hfr
 have hvl := varsTo_len20 q
 rw [hfr] at hbd
 obtain ⟨hb1, hb2, hb3, hb4⟩ := hbd
 simp only at hb1 hb2 hb3 hb4
 obtain ⟨b', hb'⟩ : ∃ b', b' = b := ⟨_, rfl⟩
 cases b
 all_goals
  unfold stX
  conv => whnf
  split <;> rename_i h1
  all_goals simp only [decide_eq_true_eq, decide_eq_false_iff_not] at h1
  ·conv => whnf
   refine ⟨_, rfl, .inl ⟨flat1 rfl, ?_⟩⟩
   conv => whnf
   refine ⟨by omega, by rw [rows_len ciL_len, hnt], _, snoc_ci _ _, ?_⟩
   conv => whnf
   refine ⟨_, l2Has_spec (varsOf q) k (by omega), .inl rfl, .inl ?_⟩
   conv => whnf
   generalize has (varsOf q) (k : Int) = b1 at hnx
   cases b1 with
   | false =>
    conv => whnf
    rw [if_neg (by simp)] at hnx
    refine ⟨m - 1, by omega, b', k + 1, IntKind.i64.wrap ((k : Int) + 1), v, v, U, T ++ [(k : Int)], n, nt + 1, rows ciL U, rows ciL (T ++ [(k : Int)]), wrap_id (by omega) (by omega), by omega, rfl, hnx, hn, ?_, rfl, rfl, by subst hb'; kernel_rfl⟩
    rw [List.length_append, hnt]
    rfl
   | true =>
    conv => whnf
    rw [if_pos rfl] at hnx
    have hw := nx_le U v
    refine ⟨[(1,0),(2,0),(4,0),(7,0),(8,0),(9,0),(10,0)], fun m' s => ∃ (v' : Nat) (f : Int) (n1 : Nat) (rT : List V), f = v' ∧ top U ≤ m' + v' ∧ nx U v' = nx U v ∧ n1 = nt + 1 ∧ rT = rows ciL (T ++ [(k : Int)]) ∧
     s = stX q (varsOf q) n n1 (rows ciL U) rT f k b', top U, ⟨v, v, nt + 1, rows ciL (T ++ [(k : Int)]), rfl, by omega, rfl, rfl, rfl, by subst hb'; kernel_rfl⟩, ?_⟩
    rintro m' s ⟨v', _, n1, _, rfl, hm', hv', hn1, rfl, rfl⟩
    have hw' := nx_le U v'
    have hst : has U (v' : Int) = true → nx U v' = nx U (v' + 1) ∧ v' < top U := fun h => ⟨nx_step h, top_has h⟩
    have hsp : has U (v' : Int) = false → nx U v' = v' := nx_stop
    subst hb'
    unfold stX
    conv => whnf
    refine .inl ?_
    conv => whnf
    refine ⟨_, _, takeN_all (by rw [rows_len ciL_len, hn]), roVs_ci _, ?_⟩
    conv => whnf
    subst hn
    refine ⟨_, l2Has_spec U v' (by omega), .inr trivial, .inl ?_⟩
    conv => whnf
    generalize has U (v' : Int) = b2 at hst hsp
    cases b2 with
    | true =>
     conv => whnf
     obtain ⟨h5, h6⟩ := hst rfl
     exact ⟨m' - 1, by omega, v' + 1, IntKind.i64.wrap ((v' : Int) + 1), n1, rows ciL (T ++ [(k : Int)]), wrap_id (by omega) (by omega), by omega, by rw [← h5, hv'], hn1, rfl, by kernel_rfl⟩
    | false =>
     conv => whnf
     have h5 := hsp rfl
     have h6 : nx U v = v' := by rw [← hv', h5]
     rw [h6] at hnx
     have hkl : k < (T ++ [(k : Int)]).length := by rw [List.length_append, hb4]; exact Nat.lt_succ_self k
     have hset : setC (rows ciL (T ++ [(k : Int)])) (0 + k * 1) [ci v'] = rows ciL (T ++ [(v' : Int)]) := by
      rw [set_ciL hkl, List.set_append_right _ _ (by omega), hb4, Nat.sub_self]
      rfl
     refine ⟨by omega, ?_⟩
     conv => whnf
     refine ⟨_, takeN_own (k := k) (d := 0) (xs := T ++ [(k : Int)]) ciL_len (Nat.zero_add _) hkl (Nat.le_refl _) rfl, _, hset, ?_⟩
     conv => whnf
     refine ⟨_, rfl, .inl ⟨flat1 rfl, ?_⟩⟩
     conv => whnf
     refine ⟨by omega, by rw [rows_len ciL_len], _, snoc_ci _ _, ?_⟩
     conv => whnf
     refine ⟨m - 1, by omega, false, k + 1, IntKind.i64.wrap ((k : Int) + 1), v', v', U ++ [(v' : Int)], T ++ [(v' : Int)], U.length + 1, n1, rows ciL (U ++ [(v' : Int)]), rows ciL (T ++ [(v' : Int)]), wrap_id (by omega) (by omega), by omega, rfl, hnx, ?_, ?_, rfl, rfl, by kernel_rfl⟩
     ·rw [List.length_append]
      rfl
     ·rw [hn1, List.length_append, hnt]
      rfl
  ·conv => whnf
   have hkk : k = 20 := by omega
   refine .inl ?_
   conv => whnf
   refine ⟨_, _, takeN_all (by rw [rows_len ciL_len, hnt]), roVs_ci _, ?_⟩
   conv => whnf
   subst hnt
   refine ⟨_, renameQuery_spec q T h (by omega), .inr (closed_wQuery _), .inr ?_⟩
   conv => whnf
   refine ⟨by rw [rows_len ciL_len], by rw [rows_len tAtom_len], ?_⟩
   conv => whnf
   subst hkk
   subst hn
   have e : fresh q u = (v, U, T) := hfr
   rw [e]
   refine ⟨by rw [rows_len ciL_len], ?_, ?_⟩
   ·rfl
   ·rfl
end Go.Proofs.YtboolngaahifdaaGreatD
namespace Go.Proofs.YtboolngaahifdaaGreatD
open Go Go.Proofs
def viewOk (s : List Int) (v : QueryT) : Bool := isQuery s v && !((v.1.length : Int) == 0)
def pAreViews (s : List Int) (vs : List QueryT) : Bool := vs.all (viewOk s) && (isSchema s && inR vs.length 1 4)
theorem specAreViews_spec (x0 : List Int) (x1 : List QueryT) (h0 : cSchema x0 ≤ 1048576) (h1 : cQueryS x1 ≤ 1048576) : Spec Tryz.prog 117 [vSchema x0, vQueryS x1] (cb (pAreViews x0 x1)) := by
 have h0' := h0
 unfold cSchema at h0'
 unfold cQueryS at h1
 refine Spec_of mx Γ_ok Tryz.func117 rfl ?_
 conv => whnf
 refine ⟨[(1,0),(2,0),(4,0),(5,0)], fun m s => ∃ (k : Nat) (e : Int), e = k ∧ m + k = x1.length ∧ x1.all (viewOk x0) = (x1.drop k).all (viewOk x0) ∧
  s = ⟨35, [(1, vQueryS x1), (2, .ptr 0 0), (4, cb false), (5, ci e)], [some ⟨true, [ints x0]⟩]⟩, x1.length, ⟨0, 0, rfl, rfl, rfl, rfl⟩, ?_⟩
 rintro m s ⟨k, _, rfl, hm, hall, rfl⟩
 conv => whnf
 split <;> rename_i h3
 all_goals simp only [decide_eq_true_eq, decide_eq_false_iff_not] at h3
 ·conv => whnf
  have hk : k < x1.length := by omega
  have hb := sumB_one (f := cQuery) hk
  rw [drop_all hk] at hall
  refine ⟨List.range 16, by kernel_rfl, ?_⟩
  conv => whnf
  refine ⟨by omega, rows_len rQuery_len _, ?_⟩
  conv => whnf
  refine ⟨_, takeN_rp (k := k) rQuery_len hk, ?_⟩
  conv => whnf
  refine ⟨_, specIsQuery_spec x0 x1[k] h0 (by omega), .inl rfl, .inl ?_⟩
  conv => whnf
  rw [viewOk] at hall
  generalize isQuery x0 x1[k] = b1 at hall
  cases b1 with
  | false =>
   conv => whnf
   unfold pAreViews
   rw [hall]
   rfl
  | true =>
  conv => whnf
  refine ⟨by omega, rows_len rQuery_len _, ?_⟩
  conv => whnf
  refine ⟨_, takeN_rp_field (k := k) (d := 0) (m := 1) (r := [ints x1[k].1]) rQuery_len hk (by omega) rfl, ?_⟩
  conv => whnf
  generalize ((x1[k].1.length : Int) == 0) = b2 at hall
  cases b2 with
  | true =>
   conv => whnf
   unfold pAreViews
   rw [hall]
   rfl
  | false =>
   conv => whnf
   exact ⟨m - 1, by omega, k + 1, _, wrap_id (by omega) (by omega), by omega, hall, rfl⟩
 ·conv => whnf
  rw [drop_end (by omega)] at hall
  refine ⟨_, specIsSchema_spec x0 (by omega), .inl rfl, .inl ?_⟩
  conv => whnf
  unfold pAreViews
  rw [hall]
  generalize isSchema x0 = b2
  cases b2 with
  | false =>
   conv => whnf
   rfl
  | true =>
   conv => whnf
   refine ⟨_, l1In_spec (x1.length : Int) 1 4, .inl rfl, .inl ?_⟩
   conv => whnf
   rfl
theorem implAreViews_spec (x0 : List Int) (x1 : List QueryT) (h0 : cSchema x0 ≤ 1048576) (h1 : cQueryS x1 ≤ 1048576) : Spec Tryz.prog 115 [vSchema x0, vQueryS x1] (cb (pAreViews x0 x1)) := by
 have h0' := h0
 unfold cSchema at h0'
 unfold cQueryS at h1
 refine Spec_of mx Γ_ok Tryz.func115 rfl ?_
 conv => whnf
 refine ⟨[(1,0),(2,0),(4,0),(7,0),(8,0),(9,0)], fun m s => ∃ (k : Nat) (e : Int), e = k ∧ m + k = x1.length ∧ x1.all (viewOk x0) = (x1.drop k).all (viewOk x0) ∧
  s = ⟨31, [(1, vQueryS x1), (2, .ptr 0 0), (4, cb false), (7, vQueryS x1), (8, ci x1.length), (9, ci e)], [some ⟨true, [ints x0]⟩]⟩, x1.length, ⟨0, 0, rfl, rfl, rfl, rfl⟩, ?_⟩
 rintro m s ⟨k, _, rfl, hm, hall, rfl⟩
 conv => whnf
 split <;> rename_i h3
 all_goals simp only [decide_eq_true_eq, decide_eq_false_iff_not] at h3
 ·conv => whnf
  have hk : k < x1.length := by omega
  have hb := sumB_one (f := cQuery) hk
  rw [drop_all hk] at hall
  refine ⟨by omega, rows_len rQuery_len _, ?_⟩
  conv => whnf
  refine ⟨_, takeN_rp (k := k) rQuery_len hk, ?_⟩
  conv => whnf
  refine ⟨_, implIsQuery_spec x0 x1[k] h0 (by omega), .inl rfl, .inl ?_⟩
  conv => whnf
  rw [viewOk] at hall
  generalize isQuery x0 x1[k] = b1 at hall
  cases b1 with
  | false =>
   conv => whnf
   unfold pAreViews
   rw [hall]
   rfl
  | true =>
  conv => whnf
  generalize ((x1[k].1.length : Int) == 0) = b2 at hall
  cases b2 with
  | true =>
   conv => whnf
   unfold pAreViews
   rw [hall]
   rfl
  | false =>
   conv => whnf
   exact ⟨m - 1, by omega, k + 1, _, wrap_id (by omega) (by omega), by omega, hall, rfl⟩
 ·conv => whnf
  rw [drop_end (by omega)] at hall
  refine ⟨_, implIsSchema_spec x0 (by omega), .inl rfl, .inl ?_⟩
  conv => whnf
  unfold pAreViews
  rw [hall]
  generalize isSchema x0 = b2
  cases b2 with
  | false =>
   conv => whnf
   rfl
  | true =>
   conv => whnf
   refine ⟨_, within_spec (x1.length : Int) 1 4, .inl rfl, .inl ?_⟩
   conv => whnf
   rfl
def headLen (q : List Int × List (Int × List Int)) : Int := q.1.length
def pViewSchema (xs : List (List Int × List (Int × List Int))) : List Int := xs.map headLen
theorem map_at {α β : Type} {f : α → β} {xs : List α} {k : Nat} (hk : k < xs.length) : (xs.take (k + 1)).map f = (xs.take k).map f ++ [f xs[k]] := by
 rw [List.take_succ_eq_append_getElem hk, List.map_append]
 rfl
theorem specViewSchema_spec (x0 : List (List Int × List (Int × List Int))) (h0 : cQueryS x0 ≤ 1048576) : Spec Tryz.prog 120 [vQueryS x0] (wSchema (pViewSchema x0)) := by
 unfold cQueryS at h0
 refine Spec_of mx Γ_ok Tryz.func120 rfl ?_
 conv => whnf
 refine ⟨[(0,0),(2,0),(3,1),(4,0)], fun m s => ∃ (k : Nat) (e : Int) (r : List V), e = k ∧ m + k = x0.length ∧ r = rows ciL ((x0.take k).map headLen) ∧
  s = ⟨24, [(0, vQueryS x0), (2, .ptr 0 0), (3, .ptr 1 0), (4, ci e)], [some ⟨true, [cnil]⟩, some ⟨true, [.own 2 1 0 k k none]⟩, some ⟨false, r⟩]⟩, x0.length, ⟨0, 0, _, rfl, rfl, rfl, rfl⟩, ?_⟩
 rintro m s ⟨k, _, _, rfl, hm, rfl, rfl⟩
 conv => whnf
 split <;> rename_i h1
 all_goals simp only [decide_eq_true_eq, decide_eq_false_iff_not] at h1
 ·conv => whnf
  have hk : k < x0.length := by omega
  refine ⟨List.range 12, by kernel_rfl, ?_⟩
  conv => whnf
  refine ⟨by omega, rows_len rQuery_len _, ?_⟩
  conv => whnf
  refine ⟨_, takeN_rp_field (k := k) (d := 0) (m := 1) (r := [ints x0[k].1]) rQuery_len hk (by omega) rfl, ?_⟩
  conv => whnf
  refine ⟨_, rfl, .inl ⟨flat1 rfl, ?_⟩⟩
  conv => whnf
  refine ⟨by omega, by rw [rows_len ciL_len, List.length_map, List.length_take, Nat.min_eq_left (by omega)], _, snoc_ci _ _, ?_⟩
  conv => whnf
  refine ⟨m - 1, by omega, k + 1, _, _, wrap_id (by omega) (by omega), by omega, ?_, rfl⟩
  rw [map_at hk]
  rfl
 ·conv => whnf
  have hkk : k = x0.length := by omega
  subst hkk
  rw [List.take_length]
  refine ⟨by rw [rows_len ciL_len, List.length_map], ?_⟩
  simp only [wSchema, tSchema, intsT, pViewSchema, List.length_map]
  rfl
abbrev U4 := List Int × List Int × List Int × List AtomC
def viewAt (vs : List QueryT) (a : AtomC) : QueryT := vs.getD a.1.toNat ([], [])
def uNext (vs : List QueryT) (st : U4) (a : AtomC) : U4 :=
 ((fresh (viewAt vs a) st.1).2.1, st.2.1 ++ a.2, st.2.2.1 ++ (renQ (fresh (viewAt vs a) st.1).2.2 (viewAt vs a)).1, st.2.2.2 ++ (renQ (fresh (viewAt vs a) st.1).2.2 (viewAt vs a)).2)
def uAll (vs : List QueryT) : List AtomC → U4 → Option U4
 | [], st => some st
 | a :: r, st => if (fresh (viewAt vs a) st.1).1 < 20 then uAll vs r (uNext vs st a) else none
def repE (a b : Int) (e : U4) : U4 := (e.1.map (rep1 a b), e.2.1.map (rep1 a b), e.2.2.1.map (rep1 a b), e.2.2.2.map (repA a b))
def eqE (e : U4) (t u : Int) : Option U4 :=
 if t == u then some e else if !isVar t && !isVar u then none
 else if !isVar t || (isVar u && decide (t < u)) then some (repE u t e) else some (repE t u e)
def specX (e : U4) : QueryT := (e.1, e.2.2.2 ++ [(0, e.2.1), (0, e.2.2.1)])
theorem specX_rep (a b : Int) (e : U4) : pReplaceTerm (specX e) a b = specX (repE a b e) := by
 simp [pReplaceTerm, specX, repE, repA]
theorem eqP_specX (e : U4) (t u : Int) : eqP (specX e) t u = (eqE e t u).map specX := by
 unfold eqP eqE
 rw [specX_rep, specX_rep]
 (repeat' split) <;> rfl
def eqs : Nat → Nat → U4 → Option U4
 | 0, _, e => some e
 | m + 1, i, e => match eqE e (e.2.1.getD i 0) (e.2.2.1.getD i 0) with
  | none => none
  | some y => eqs m (i + 1) y
def pUnf (vs : List QueryT) (q : QueryT) : Option QueryT := match uAll vs q.2 (varsOf q, [], [], []) with
 | none => none
 | some st => match eqs st.2.1.length 0 (q.1, st.2.1, st.2.2.1, st.2.2.2) with
  | none => none
  | some e => some (pDedupeAtoms (e.1, e.2.2.2))
def pUnfO (s : List Int) (vs : List QueryT) (q : QueryT) : Option QueryT := if pAreViews s vs && isQuery (pViewSchema vs) q then pUnf vs q else none
def okE (n c : Nat) (e : U4) : Prop := e.2.1.length = n ∧ e.2.2.1.length = n ∧ e.1.length ≤ 3 ∧ e.2.2.2.length + sumB cAtom e.2.2.2 ≤ c ∧ fineT e.2.1 ∧ fineT e.2.2.1
theorem fineT_map {l : List Int} {a b : Int} (h : fineT l) (hb : b < 20) : fineT (l.map (rep1 a b)) := fun x hx => by
 simp only [List.mem_map] at hx
 obtain ⟨w, hw, rfl⟩ := hx
 unfold rep1
 split
 ·exact hb
 ·exact h w hw
theorem okE_rep {n c : Nat} {e : U4} {a b : Int} (h : okE n c e) (hb : b < 20) : okE n c (repE a b e) := by
 obtain ⟨h1, h2, h3, h4, h5, h6⟩ := h
 refine ⟨by simp [repE, h1], by simp [repE, h2], by simp [repE, h3], ?_, fineT_map h5 hb, fineT_map h6 hb⟩
 show (List.map _ _).length + sumB cAtom (List.map _ _) ≤ c
 rw [List.length_map, sumB_map (c := cAtom) (d := cAtom) (fun x => by simp [cAtom, repA])]
 exact h4
theorem okE_eqE {n c : Nat} {e y : U4} {t u : Int} (h : okE n c e) (ht : t < 20) (hu : u < 20) (he : eqE e t u = some y) : okE n c y := by
 unfold eqE at he
 split at he
 ·cases he; exact h
 ·split at he
  ·cases he
  ·split at he
   ·cases he; exact okE_rep h ht
   ·cases he; exact okE_rep h hu
theorem fine_at {l : List Int} (h : fineT l) {i : Nat} (hi : i < l.length) : l.getD i 0 < 20 := by
 rw [getD_int hi]
 exact h _ (List.getElem_mem hi)
theorem ren1_fine {to : List Int} (h : fineT to) {x : Int} (hx : x < 20) : ren1 to x < 20 := by
 unfold ren1
 split
 ·rename_i h1
  have h1' : 0 ≤ x ∧ x ≤ (to.length : Int) - 1 := by simpa [inR] using h1
  exact fine_at h (by omega)
 ·exact hx
theorem frK_mono (vars u : List Int) (k : Nat) : (frK vars u k).1 ≤ (frK vars u (k + 1)).1 := by
 rw [frK_succ, frS]
 split
 ·exact (nx_le _ _).1
 ·exact Nat.le_refl _
theorem frK_fine (vars u : List Int) : ∀ k, k ≤ 20 → (frK vars u k).1 < 20 → fineT (frK vars u k).2.2
 | 0, _, _ => fun t ht => by cases ht
 | k + 1, hk, hf => by
  have ih := frK_fine vars u k (by omega) (Nat.lt_of_le_of_lt (frK_mono vars u k) hf)
  rw [frK_succ, frS] at hf ⊢
  split
  ·rename_i h1
   rw [if_pos h1] at hf
   intro t ht
   simp only [List.mem_append, List.mem_singleton] at ht
   rcases ht with ht | rfl
   ·exact ih t ht
   ·have : nx (frK vars u k).2.1 (frK vars u k).1 < 20 := hf
    omega
  ·intro t ht
   simp only [List.mem_append, List.mem_singleton] at ht
   rcases ht with ht | rfl
   ·exact ih t ht
   ·omega
theorem sumB_append {α : Type} (f : α → Nat) : ∀ xs ys : List α, sumB f (xs ++ ys) = sumB f xs + sumB f ys
 | [], ys => by simp [sumB]
 | x :: xs, ys => by
  rw [List.cons_append]
  simp only [sumB]
  rw [sumB_append f xs ys]
  omega
theorem isSchema_le {s : List Int} (h : isSchema s = true) {i : Nat} : s.getD i 0 ≤ 3 := by
 by_cases hi : i < s.length
 ·rw [getD_int hi]
  exact (schema_at h hi).2
 ·rw [List.getD_eq_getElem?_getD, List.getElem?_eq_none (by omega)]
  simp
theorem isQuery_small {s : List Int} {q : QueryT} (h : isQuery s q = true) : q.1.length ≤ 3 ∧ q.2.length ≤ 4 ∧ sumB cAtom q.2 ≤ 3 * q.2.length ∧ fineT q.1 ∧ fineA q.2 := by
 have hfn := isQuery_fine h
 simp only [isQuery, fineQ, terms3, Bool.and_eq_true, decide_eq_true_eq] at h
 obtain ⟨h0, ⟨_, h1⟩, h2, h3, _⟩ := h
 have h2' : 1 ≤ (q.2.length : Int) ∧ (q.2.length : Int) ≤ 4 := by simpa [inR] using h2
 refine ⟨h1, by omega, ?_, hfn.1, hfn.2⟩
 have key : ∀ l : List AtomC, l.all (isAtom s) = true → sumB cAtom l ≤ 3 * l.length := by
  intro l
  induction l with
  | nil => intro _; simp [sumB]
  | cons a l ih =>
   intro hl
   simp only [List.all_cons, Bool.and_eq_true] at hl
   have ih' := ih hl.2
   have ha := hl.1
   simp only [isAtom, takesS, Bool.and_eq_true, decide_eq_true_eq] at ha
   have h3 := ha.1.2.2
   have h4 := isSchema_le h0 (i := a.1.toNat)
   simp only [sumB, List.length_cons]
   have : cAtom a = a.2.length := rfl
   omega
 exact key _ h3
def okV (vs : List QueryT) : Prop := ∀ v ∈ vs, v.1.length ≤ 3 ∧ v.2.length ≤ 4 ∧ sumB cAtom v.2 ≤ 12 ∧ fineT v.1 ∧ fineA v.2
def okB (vs : List QueryT) (l : List AtomC) : Prop := ∀ a ∈ l, ∃ j : Nat, a.1 = (j : Int) ∧ j < vs.length ∧ a.2.length = (vs.getD j ([], [])).1.length ∧ fineT a.2
theorem views_ok {s : List Int} {vs : List QueryT} (h : pAreViews s vs = true) : okV vs := fun v hv => by
 simp only [pAreViews, Bool.and_eq_true, List.all_eq_true] at h
 have h1 := h.1 v hv
 simp only [viewOk, Bool.and_eq_true] at h1
 obtain ⟨a, b, c, d, e⟩ := isQuery_small h1.1
 exact ⟨a, b, by omega, d, e⟩
theorem body_ok {vs : List QueryT} {q : QueryT} (h : isQuery (pViewSchema vs) q = true) : okB vs q.2 := fun a ha => by
 have hfn := (isQuery_fine h).2 a ha
 simp only [isQuery, fineQ, Bool.and_eq_true, List.all_eq_true] at h
 obtain ⟨h0, _, _, h3, _⟩ := h
 have h4 := h3 a ha
 simp only [isAtom, takesS, Bool.and_eq_true, decide_eq_true_eq] at h4
 obtain ⟨⟨_, h5, h6⟩, _⟩ := h4
 have h5' : 0 ≤ a.1 ∧ a.1 ≤ ((pViewSchema vs).length : Int) - 1 := by simpa [inR] using h5
 have hl : (pViewSchema vs).length = vs.length := by simp [pViewSchema]
 rw [hl] at h5'
 refine ⟨a.1.toNat, by omega, by omega, ?_, hfn⟩
 have hj : a.1.toNat < vs.length := by omega
 rw [getD_int (by rw [hl]; exact hj)] at h6
 simp only [pViewSchema, List.getElem_map, headLen] at h6
 simp only [List.getD_eq_getElem?_getD, List.getElem?_eq_getElem hj, Option.getD_some]
 omega
def okU (vs : List QueryT) (k : Nat) (st : U4) : Prop := top st.1 ≤ 20 + 20 * k ∧ st.1.length ≤ 20 + 20 * k ∧ st.2.1.length = st.2.2.1.length ∧ st.2.1.length ≤ 3 * k ∧ st.2.2.2.length + sumB cAtom st.2.2.2 ≤ 16 * k ∧ fineT st.2.1 ∧ fineT st.2.2.1
theorem fineT_app {a b : List Int} (ha : fineT a) (hb : fineT b) : fineT (a ++ b) := fun t ht => by
 rcases List.mem_append.1 ht with h | h
 ·exact ha t h
 ·exact hb t h
theorem okU_next {vs : List QueryT} {k : Nat} {st : U4} {a : AtomC} (hv : okV vs) (hb : okB vs [a]) (h : okU vs k st) (hf : (fresh (viewAt vs a) st.1).1 < 20) : okU vs (k + 1) (uNext vs st a) := by
 obtain ⟨h1, h2, h3, h4, h5, h6, h7⟩ := h
 obtain ⟨j, hj, hjl, hal, haf⟩ := hb a (by simp)
 have hva : viewAt vs a = vs.getD j ([], []) := by unfold viewAt; rw [hj, Int.toNat_natCast]
 have hmem : viewAt vs a ∈ vs := by
  rw [hva]
  simp only [List.getD_eq_getElem?_getD, List.getElem?_eq_getElem hjl, Option.getD_some]
  exact List.getElem_mem hjl
 rw [← hva] at hal
 obtain ⟨v1, v2, v3, v4, v5⟩ := hv _ hmem
 have hbd := frK_bd (varsOf (viewAt vs a)) st.1 (20 + 20 * k) h1 20
 have hfi := frK_fine (varsOf (viewAt vs a)) st.1 20 (Nat.le_refl _) hf
 generalize hvd : viewAt vs a = v at *
 unfold fresh at hf
 unfold uNext fresh
 rw [hvd]
 generalize frK (varsOf v) st.1 20 = f at *
 refine ⟨?_, ?_, ?_, ?_, ?_, fineT_app h6 haf, fineT_app h7 ?_⟩
 ·show top f.2.1 ≤ _
  omega
 ·show f.2.1.length ≤ _
  omega
 ·simp only [List.length_append, renQ, List.length_map]
  omega
 ·simp only [List.length_append]
  omega
 ·simp only [List.length_append, renQ, List.length_map]
  rw [sumB_append, sumB_map (c := cAtom) (d := cAtom) (fun x => by simp [cAtom, renA])]
  omega
 ·intro t ht
  simp only [renQ, List.mem_map] at ht
  obtain ⟨w, hw, rfl⟩ := ht
  exact ren1_fine hfi (v4 w hw)
theorem uAll_nil (vs : List QueryT) (st : U4) : uAll vs [] st = some st := rfl
theorem uAll_cons (vs : List QueryT) (a : AtomC) (r : List AtomC) (st : U4) : uAll vs (a :: r) st = if (fresh (viewAt vs a) st.1).1 < 20 then uAll vs r (uNext vs st a) else none := rfl
theorem solid_rAtomS (xs : List AtomC) : ∀ c ∈ rows rAtom xs, solid c = true := by
 induction xs with
 | nil => intro c hc; cases hc
 | cons x xs ih =>
  intro c hc
  rw [show rows rAtom (x :: xs) = rAtom x ++ rows rAtom xs from rfl] at hc
  rcases List.mem_append.1 hc with h | h
  ·simp only [rAtom, List.mem_cons, List.not_mem_nil, or_false] at h
   rcases h with rfl | rfl <;> rfl
  ·exact ih c h
theorem viewAt_eq {vs : List QueryT} {j : Nat} {xs : List Int} (hj : j < vs.length) : viewAt vs ((j : Int), xs) = vs[j] := by
 simp [viewAt, List.getD_eq_getElem?_getD, hj]
theorem rAtomU_ro (x : AtomC) : roVs (rAtom x) = rAtom x := by simp only [rAtom, roVs, ints_ro, ci_ro]
theorem vQueryU_ro (q : QueryT) : roV (vQuery q) = vQuery q := by
 simp only [vQuery, rQuery, roV, roVs, ints_ro, vAtomS, roVs_rows rAtomU_ro]
theorem take_all {cs : List V} {n : Nat} (h : cs.length = n) : cs.take n = cs := by rw [← h, List.take_length]
theorem eqs_succ (m i : Nat) (e : U4) : eqs (m + 1) i e = match eqE e (e.2.1.getD i 0) (e.2.2.1.getD i 0) with
  | none => none
  | some y => eqs m (i + 1) y := rfl
theorem eqs_zero (i : Nat) (e : U4) : eqs 0 i e = some e := rfl
theorem fineT_nil : fineT [] := fun t h => absurd h (List.not_mem_nil)
theorem top_fine : ∀ {u : List Int}, fineT u → top u ≤ 20
 | [], _ => Nat.zero_le _
 | x :: u, h => by
  have h1 := h x (by simp)
  have h2 := top_fine (u := u) fun y hy => h y (by simp [hy])
  rw [top_cons]
  omega
theorem varsOf_fine (q : QueryT) : fineT (varsOf q) := fun t ht => by
 simp only [varsOf, varsTo, List.mem_map, List.mem_filter, List.mem_range] at ht
 obtain ⟨j, ⟨h, _⟩, rfl⟩ := ht
 show ((j : Nat) : Int) < 20
 omega
theorem eqE_len {e y : U4} {t u : Int} (h : eqE e t u = some y) : y.2.2.2.length = e.2.2.2.length := by
 unfold eqE at h
 split at h
 ·cases h; rfl
 ·split at h
  ·cases h
  ·split at h
   ·cases h; simp [repE]
   ·cases h; simp [repE]
end Go.Proofs.YtboolngaahifdaaGreatD
