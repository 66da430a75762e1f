/- Contracts and plain laws of this seat; no condition. -/
import Derived.Test.YtcjdfeafcmfgpaaGreatQ11
import Derived.Test.YtcjdfeafcmfgpaaGreatQ20
import Derived.Test.YtcjdfeafcmfgpaaGreatQ18
set_option linter.unusedVariables false
set_option linter.unusedSimpArgs false
set_option maxRecDepth 100000
namespace Go.Proofs.YtcjdfeafcmfgpaaGreatD
open Go Go.Proofs
abbrev QueryR := List Int × List AtomC
def ren1 (to : List Int) (x : Int) : Int := if inR x 0 (to.length - 1) then to.getD x.toNat 0 else x
def renA (to : List Int) (a : AtomC) : AtomC := (a.1, a.2.map (ren1 to))
def renQ (to : List Int) (q : QueryR) : QueryR := (q.1.map (ren1 to), q.2.map (renA to))
theorem l4Term_spec (x : Int) (to : List Int) (h : to.length ≤ 1099511627776) : Spec Tryz.prog 314 [ci x, ints to] (ci (ren1 to x)) := by
 have hw : IntKind.i64.wrap ((to.length : Int) - 1) = to.length - 1 := wrap_id (by omega) (by omega)
 refine Spec_of mx Γ_ok Tryz.func314 rfl ?_
 conv => whnf
 refine ⟨_, l1In_spec _ _ _, .inl rfl, .inl ?_⟩
 rw [hw]
 conv => whnf
 unfold ren1
 generalize hb1 : inR x 0 (to.length - 1) = b1
 cases b1 with
 | false =>
  conv => whnf
  rfl
 | true =>
  conv => whnf
  have hr : 0 ≤ x ∧ x ≤ (to.length : Int) - 1 := by simpa [inR] using hb1
  obtain ⟨q, rfl⟩ : ∃ q : Nat, x = q := ⟨x.toNat, by omega⟩
  have hq : q < to.length := by omega
  refine ⟨by omega, rows_len ciL_len to, ?_⟩
  conv => whnf
  refine ⟨_, takeN_rp (k := q) ciL_len hq, ?_⟩
  conv => whnf
  rw [if_pos rfl, Int.toNat_natCast, getD_at hq]
  rfl
theorem l4Terms_spec (xs to : List Int) (h : xs.length ≤ 1048576) (ht : to.length ≤ 1099511627776) : Spec Tryz.prog 282 [ints xs, ints to] (intsT (xs.map (ren1 to))) := by
 refine Spec_of mx Γ_ok Tryz.func282 rfl ?_
 conv => whnf
 refine ⟨[(0,0),(1,0),(4,0),(5,0),(6,0)], fun m s => ∃ (k : Nat) (e : Int) (n : Nat) (r : List V), e = k ∧ m + k = xs.length ∧ n = k ∧ r = rows ciL ((xs.take k).map (ren1 to)) ∧
  s = ⟨26, [(0, ints xs), (1, ints to), (4, cnil), (5, .own 0 1 0 n n none), (6, ci e)], [some ⟨false, r⟩]⟩, xs.length, ⟨0, 0, 0, _, rfl, rfl, rfl, rfl, rfl⟩, ?_⟩
 rintro m s ⟨k, _, n, _, rfl, hm, rfl, rfl, rfl⟩
 conv => whnf
 split <;> rename_i h1
 all_goals simp only [decide_eq_true_eq, decide_eq_false_iff_not] at h1
 ·conv => whnf
  have hk : n < xs.length := by omega
  refine ⟨by omega, rows_len ciL_len _, ?_⟩
  conv => whnf
  refine ⟨_, takeN_rp (k := n) ciL_len hk, ?_⟩
  conv => whnf
  refine ⟨_, l4Term_spec xs[n] to ht, .inl rfl, .inl ?_⟩
  conv => whnf
  refine ⟨_, rfl, .inl ⟨flat1 rfl, ?_⟩⟩
  conv => whnf
  refine ⟨by omega, by rw [rows_len ciL_len, List.length_map, List.length_take, Nat.min_eq_left (by omega)], _, snoc_ci _ _, ?_⟩
  conv => whnf
  refine ⟨m - 1, by omega, n + 1, _, _, _, wrap_id (by omega) (by omega), by omega, rfl, ?_, rfl⟩
  rw [List.take_succ_eq_append_getElem hk, List.map_append]
  rfl
 ·conv => whnf
  have hkk : n = xs.length := by omega
  subst hkk
  rw [List.take_length]
  refine ⟨by rw [rows_len ciL_len, List.length_map], ?_⟩
  simp only [intsT, List.length_map]
  rfl
set_option maxHeartbeats 4000000 in
theorem renameQuery_spec (x0 : QueryR) (to : List Int) (h0 : cQuery x0 ≤ 1048576) (ht : to.length ≤ 1099511627776) : Spec Tryz.prog 230 [vQuery x0, ints to] (wQuery (renQ to x0)) := by
 unfold cQuery cAtomS at h0
 refine Spec_of mx Γ_ok Tryz.func230 rfl ?_
 conv => whnf
 refine ⟨_, l4Terms_spec x0.1 to (by omega) ht, .inl rfl, .inr ?_⟩
 conv => whnf
 refine ⟨[(1,0),(2,0),(4,0),(5,202),(6,0)], fun m s => ∃ (k : Nat) (e : Int) (n1 n : Nat) (r1 r : List V), e = k ∧ m + k = x0.2.length ∧ n1 = (x0.1.map (ren1 to)).length ∧ n = k ∧ r1 = rows ciL (x0.1.map (ren1 to)) ∧ r = rows tAtom ((x0.2.take k).map (renA to)) ∧
  s = ⟨40, [(1, ints to), (2, .ptr 0 0), (4, .ptr 1 0), (5, .ptr 2 0), (6, ci e)], [some ⟨true, rQuery x0⟩, some ⟨true, [cnil, cnil]⟩, some ⟨true, [.own 3 1 0 n1 n1 none, .own 4 2 0 n n none]⟩, some ⟨false, r1⟩, some ⟨false, r⟩]⟩, x0.2.length, ⟨0, 0, _, 0, _, _, rfl, rfl, rfl, rfl, rfl, rfl, rfl⟩, ?_⟩
 rintro m s ⟨k, _, n1, n, _, _, rfl, hm, hn1, rfl, rfl, rfl, rfl⟩
 conv => whnf
 split <;> rename_i h1
 all_goals simp only [decide_eq_true_eq, decide_eq_false_iff_not] at h1
 ·conv => whnf
  have hk : n < x0.2.length := by omega
  have hb := sumB_one (f := cAtom) hk
  have hcb : cAtom x0.2[n] = x0.2[n].2.length := rfl
  refine ⟨List.range 21, by kernel_rfl, ?_⟩
  conv => whnf
  refine ⟨by omega, rows_len rAtom_len _, ?_⟩
  conv => whnf
  refine ⟨_, takeN_rp_field (k := n) (d := 0) (m := 1) (r := [ci x0.2[n].1]) rAtom_len hk (by omega) rfl, ?_⟩
  conv => whnf
  refine ⟨by omega, rows_len rAtom_len _, ?_⟩
  conv => whnf
  refine ⟨_, takeN_rp_field (k := n) (d := 1) (m := 1) (r := [ints x0.2[n].2]) rAtom_len hk (by omega) rfl, ?_⟩
  conv => whnf
  refine ⟨_, l4Terms_spec x0.2[n].2 to (by omega) ht, .inl rfl, .inr ?_⟩
  conv => whnf
  refine ⟨by rw [rows_len ciL_len], ?_⟩
  conv => whnf
  refine ⟨_, rfl, .inr ⟨solid_tAtom (renA to x0.2[n]), ?_⟩⟩
  conv => whnf
  refine ⟨by omega, by rw [rows_len tAtom_len, List.length_map, List.length_take, Nat.min_eq_left (by omega)], _, snoc_rows tAtom _ (renA to x0.2[n]), ?_⟩
  conv => whnf
  refine ⟨m - 1, by omega, n + 1, _, n1, _, _, _, wrap_id (by omega) (by omega), by omega, hn1, rfl, rfl, ?_, rfl⟩
  rw [List.take_succ_eq_append_getElem hk, List.map_append]
  rfl
 ·conv => whnf
  have hkk : n = x0.2.length := by omega
  rw [hkk, List.take_length]
  subst hn1
  refine ⟨by rw [rows_len ciL_len], by rw [rows_len tAtom_len, List.length_map], ?_⟩
  have e : wQuery (renQ to x0) = .agg [.tr 1 (x0.1.map (ren1 to)).length (rows ciL (x0.1.map (ren1 to))), .tr 2 x0.2.length (rows tAtom (x0.2.map (renA to)))] := by
   simp only [wQuery, tQuery, renQ, wAtomS, intsT, List.length_map]
  rw [e]
  rfl
def pvar (q : QueryT) (v : Nat) : Bool := occurs q (v : Int) || has q.1 (v : Int)
def varsTo (q : QueryT) (k : Nat) : List Int := ((List.range k).filter (pvar q)).map Int.ofNat
def varsOf (q : QueryT) : List Int := varsTo q 20
theorem varsTo_succ (q : QueryT) (k : Nat) : varsTo q (k + 1) = if pvar q k then varsTo q k ++ [(k : Int)] else varsTo q k := by
 unfold varsTo
 rw [List.range_succ, List.filter_append, List.map_append]
 by_cases h : pvar q k = true
 ·simp [h]
 ·simp [h]
theorem varsTo_len (q : QueryT) (k : Nat) : (varsTo q k).length ≤ k := by
 unfold varsTo
 rw [List.length_map]
 exact Nat.le_trans (List.length_filter_le _ _) (by simp)
theorem has_varsOf (q : QueryT) (k : Nat) (hk : k < 20) : has (varsOf q) (k : Int) = pvar q k := by
 cases h : pvar q k with
 | true =>
  simp only [has, List.any_eq_true, varsOf, varsTo, List.mem_map, List.mem_filter, List.mem_range]
  exact ⟨k, ⟨k, ⟨hk, h⟩, rfl⟩, by simp [eqV]⟩
 | false =>
  cases h2 : has (varsOf q) (k : Int) with
  | false => rfl
  | true =>
   simp only [has, List.any_eq_true, varsOf, varsTo, List.mem_map, List.mem_filter, List.mem_range] at h2
   obtain ⟨_, ⟨j, ⟨_, hj⟩, rfl⟩, he⟩ := h2
   have : j = k := by
    have h3 : (j : Int) = k := by simpa [eqV] using he
    omega
   subst this
   rw [h] at hj
   cases hj
theorem implVarsOf_spec (q : QueryT) (h : cQuery q ≤ 1048576) : Spec Tryz.prog 143 [vQuery q] (intsT (varsOf q)) := by
 have h' := h
 unfold cQuery cAtomS at h'
 refine Spec_of mx Γ_ok Tryz.func143 rfl ?_
 conv => whnf
 refine ⟨[(1,0),(2,0),(3,0),(6,0)], fun m s => ∃ (k : Nat) (e : Int) (n : Nat) (r : List V), e = k ∧ m + k = 20 ∧ n = (varsTo q k).length ∧ r = rows ciL (varsTo q k) ∧
  s = ⟨24, [(1, .ptr 0 0), (2, cnil), (3, .own 1 1 0 n n none), (6, ci e)], [some ⟨true, rQuery q⟩, some ⟨false, r⟩]⟩, 20, ⟨0, 0, 0, _, rfl, rfl, rfl, rfl, rfl⟩, ?_⟩
 rintro m s ⟨k, _, n, _, rfl, hm, rfl, rfl, rfl⟩
 have hvl := varsTo_len q k
 have hnx := varsTo_succ q k
 conv => whnf
 split <;> rename_i h1
 all_goals simp only [decide_eq_true_eq, decide_eq_false_iff_not] at h1
 ·conv => whnf
  refine ⟨_, occurs_spec q k h, .inl rfl, .inl ?_⟩
  conv => whnf
  unfold pvar at hnx
  generalize occurs q (k : Int) = b1 at hnx
  cases b1 with
  | true =>
   conv => whnf
   refine ⟨_, rfl, .inl ⟨flat1 rfl, ?_⟩⟩
   conv => whnf
   refine ⟨by omega, rows_len ciL_len _, _, snoc_ci _ _, ?_⟩
   conv => whnf
   rw [Bool.true_or, if_pos rfl] at hnx
   refine ⟨m - 1, by omega, k + 1, _, _, _, wrap_id (by omega) (by omega), by omega, ?_, by rw [hnx], rfl⟩
   rw [hnx, List.length_append]
   rfl
  | false =>
   conv => whnf
   refine ⟨_, slicesContains_spec q.1 k (by omega), .inl rfl, .inl ?_⟩
   conv => whnf
   rw [Bool.false_or] at hnx
   generalize has q.1 (k : Int) = b2 at hnx
   cases b2 with
   | true =>
    conv => whnf
    refine ⟨_, rfl, .inl ⟨flat1 rfl, ?_⟩⟩
    conv => whnf
    refine ⟨by omega, rows_len ciL_len _, _, snoc_ci _ _, ?_⟩
    conv => whnf
    rw [if_pos rfl] at hnx
    refine ⟨m - 1, by omega, k + 1, _, _, _, wrap_id (by omega) (by omega), by omega, ?_, by rw [hnx], rfl⟩
    rw [hnx, List.length_append]
    rfl
   | false =>
    conv => whnf
    rw [if_neg (by simp)] at hnx
    exact ⟨m - 1, by omega, k + 1, _, _, _, wrap_id (by omega) (by omega), by omega, by rw [hnx], by rw [hnx], rfl⟩
 ·conv => whnf
  have hkk : k = 20 := by omega
  subst hkk
  refine ⟨by rw [rows_len ciL_len], ?_⟩
  rfl
theorem specVarsOf_spec (q : QueryT) (h : cQuery q ≤ 1048576) : Spec Tryz.prog 234 [vQuery q] (intsT (varsOf q)) := by
 have h' := h
 unfold cQuery cAtomS at h'
 have hbl : (bodyVars q).length ≤ 1048576 := by
  have h1 := bodyVars_len q (termsL q.2) []
  rw [termsL_len] at h1
  simp only [List.length_nil] at h1
  unfold bodyVars
  omega
 refine Spec_of mx Γ_ok Tryz.func234 rfl ?_
 conv => whnf
 refine ⟨[(1,0),(2,0),(3,0),(4,0)], fun m s => ∃ (k : Nat) (e : Int) (n : Nat) (r : List V), e = k ∧ m + k = 20 ∧ n = (varsTo q k).length ∧ r = rows ciL (varsTo q k) ∧
  s = ⟨25, [(1, .ptr 0 0), (2, cnil), (3, .own 1 1 0 n n none), (4, ci e)], [some ⟨true, rQuery q⟩, some ⟨false, r⟩]⟩, 20, ⟨0, 0, 0, _, rfl, rfl, rfl, rfl, rfl⟩, ?_⟩
 rintro m s ⟨k, _, n, _, rfl, hm, rfl, rfl, rfl⟩
 have hvl := varsTo_len q k
 have hnx := varsTo_succ q k
 conv => whnf
 split <;> rename_i h1
 all_goals simp only [decide_eq_true_eq, decide_eq_false_iff_not] at h1
 ·conv => whnf
  refine ⟨_, bodyVars_spec q h, .inl rfl, .inl ?_⟩
  rw [intsT_ro]
  conv => whnf
  refine ⟨_, l2Has_spec (bodyVars q) k (by omega), .inl rfl, .inl ?_⟩
  conv => whnf
  have hiv : isVar (k : Int) = true := by simp only [isVar, inR, Bool.and_eq_true, decide_eq_true_eq]; omega
  rw [has_bodyVars q _ hiv]
  unfold pvar at hnx
  generalize occurs q (k : Int) = b1 at hnx
  cases b1 with
  | true =>
   conv => whnf
   refine ⟨_, rfl, .inl ⟨flat1 rfl, ?_⟩⟩
   conv => whnf
   refine ⟨by omega, rows_len ciL_len _, _, snoc_ci _ _, ?_⟩
   conv => whnf
   rw [Bool.true_or, if_pos rfl] at hnx
   refine ⟨m - 1, by omega, k + 1, _, _, _, wrap_id (by omega) (by omega), by omega, ?_, by rw [hnx], rfl⟩
   rw [hnx, List.length_append]
   rfl
  | false =>
   conv => whnf
   refine ⟨_, l2Has_spec q.1 k (by omega), .inl rfl, .inl ?_⟩
   conv => whnf
   rw [Bool.false_or] at hnx
   generalize has q.1 (k : Int) = b2 at hnx
   cases b2 with
   | true =>
    conv => whnf
    refine ⟨_, rfl, .inl ⟨flat1 rfl, ?_⟩⟩
    conv => whnf
    refine ⟨by omega, rows_len ciL_len _, _, snoc_ci _ _, ?_⟩
    conv => whnf
    rw [if_pos rfl] at hnx
    refine ⟨m - 1, by omega, k + 1, _, _, _, wrap_id (by omega) (by omega), by omega, ?_, by rw [hnx], rfl⟩
    rw [hnx, List.length_append]
    rfl
   | false =>
    conv => whnf
    rw [if_neg (by simp)] at hnx
    exact ⟨m - 1, by omega, k + 1, _, _, _, wrap_id (by omega) (by omega), by omega, by rw [hnx], by rw [hnx], rfl⟩
 ·conv => whnf
  have hkk : k = 20 := by omega
  subst hkk
  refine ⟨by rw [rows_len ciL_len], ?_⟩
  rfl
end Go.Proofs.YtcjdfeafcmfgpaaGreatD
namespace Go.Proofs.YtcjdfeafcmfgpaaGreatD
open Go Go.Proofs
def top (u : List Int) : Nat := u.foldr (fun x m => max (x.toNat + 1) m) 0
theorem top_cons (x : Int) (u : List Int) : top (x :: u) = max (x.toNat + 1) (top u) := rfl
theorem top_has {v : Nat} : ∀ {u : List Int}, has u (v : Int) = true → v < top u
 | [], h => by cases h
 | x :: u, h => by
  have h' : (eqV (v : Int) x || has u (v : Int)) = true := h
  rw [top_cons]
  rcases Bool.or_eq_true_iff.1 h' with h1 | h1
  ·have : x = v := by simpa [eqV] using h1
   omega
  ·have := top_has h1
   omega
theorem top_snoc (w : Nat) : ∀ u : List Int, top (u ++ [(w : Int)]) = max (top u) (w + 1)
 | [] => by simp [top]
 | x :: u => by
  rw [List.cons_append, top_cons, top_cons, top_snoc w u]
  omega
def nxtF (u : List Int) : Nat → Nat → Nat
 | 0, v => v
 | f + 1, v => if has u (v : Int) then nxtF u f (v + 1) else v
def nx (u : List Int) (v : Nat) : Nat := nxtF u (top u - v) v
theorem nx_step {u : List Int} {v : Nat} (h : has u (v : Int) = true) : nx u v = nx u (v + 1) := by
 have := top_has h
 unfold nx
 rw [show top u - v = (top u - (v + 1)) + 1 from by omega, nxtF, if_pos h]
theorem nx_stop {u : List Int} {v : Nat} (h : has u (v : Int) = false) : nx u v = v := by
 unfold nx
 cases top u - v with
 | zero => rfl
 | succ n => rw [nxtF, if_neg (by simp [h])]
theorem nxtF_le (u : List Int) : ∀ f v, v ≤ nxtF u f v ∧ nxtF u f v ≤ v + f
 | 0, v => ⟨Nat.le_refl _, Nat.le_refl _⟩
 | f + 1, v => by
  have := nxtF_le u f (v + 1)
  rw [nxtF]
  split
  ·omega
  ·omega
theorem nx_le (u : List Int) (v : Nat) : v ≤ nx u v ∧ nx u v ≤ max v (top u) := by
 have := nxtF_le u (top u - v) v
 unfold nx
 omega
def frS (vars : List Int) (st : Nat × List Int × List Int) (i : Nat) : Nat × List Int × List Int :=
 if has vars (i : Int) then (nx st.2.1 st.1, st.2.1 ++ [(nx st.2.1 st.1 : Int)], st.2.2 ++ [(nx st.2.1 st.1 : Int)]) else (st.1, st.2.1, st.2.2 ++ [(i : Int)])
def frK (vars u : List Int) (k : Nat) : Nat × List Int × List Int := (List.range k).foldl (frS vars) (0, u, [])
theorem frK_succ (vars u : List Int) (k : Nat) : frK vars u (k + 1) = frS vars (frK vars u k) k := by
 unfold frK
 rw [List.range_succ, List.foldl_append]
 rfl
theorem frK_bd (vars u : List Int) (B : Nat) (h : top u ≤ B) : ∀ k, (frK vars u k).1 ≤ B + k ∧ top (frK vars u k).2.1 ≤ B + k ∧ (frK vars u k).2.1.length ≤ u.length + k ∧ (frK vars u k).2.2.length = k
 | 0 => ⟨Nat.zero_le _, h, Nat.le_refl _, rfl⟩
 | k + 1 => by
  have ih := frK_bd vars u B h k
  have hn := nx_le (frK vars u k).2.1 (frK vars u k).1
  rw [frK_succ, frS]
  split
  ·refine ⟨?_, ?_, ?_, ?_⟩
   ·show nx _ _ ≤ _
    omega
   ·show top (_ ++ [((nx _ _ : Nat) : Int)]) ≤ _
    rw [top_snoc]
    omega
   ·show (_ ++ [_]).length ≤ _
    rw [List.length_append, List.length_singleton]
    omega
   ·show (_ ++ [_]).length = _
    rw [List.length_append, List.length_singleton]
    omega
  ·refine ⟨?_, ?_, ?_, ?_⟩
   ·show (frK vars u k).1 ≤ _
    omega
   ·show top (frK vars u k).2.1 ≤ _
    omega
   ·show (frK vars u k).2.1.length ≤ _
    omega
   ·show (_ ++ [_]).length = _
    rw [List.length_append, List.length_singleton]
    omega
def fresh (q : QueryT) (u : List Int) : Nat × List Int × List Int := frK (varsOf q) u 20
def wFresh (q : QueryT) (st : Nat × List Int × List Int) : V := .tup [wQuery (renQ st.2.2 q), intsT st.2.1, cb (decide ((st.1 : Int) < 20))]
theorem frK_cases (vars u : List Int) (k : Nat) (v : Nat) (U T : List Int) (h : frK vars u k = (v, U, T)) : frK vars u (k + 1) = if has vars (k : Int) then (nx U v, U ++ [(nx U v : Int)], T ++ [(nx U v : Int)]) else (v, U, T ++ [(k : Int)]) := by
 rw [frK_succ, h]
 rfl
theorem frK_zero (vars u : List Int) : frK vars u 0 = (0, u, []) := rfl
theorem varsTo_len20 (q : QueryT) : (varsOf q).length ≤ 20 := varsTo_len q 20
attribute [local irreducible] frK nx top varsOf varsTo
def stX (q : QueryT) (vars : List Int) (n nt : Nat) (rU rT : List V) (v e : Int) : Bool → St
 | true => ⟨45, [(1, .own 2 1 0 n n none), (2, .ptr 3 0), (4, .ptr 4 0), (7, .own 5 1 0 nt nt none), (8, ci v), (9, ints vars), (10, ci e)], [none, none, some ⟨false, rU⟩, some ⟨true, rQuery q⟩, some ⟨true, [cnil, cnil]⟩, some ⟨false, rT⟩]⟩
 | false => ⟨45, [(1, .own 3 1 0 n n none), (2, .ptr 4 0), (4, .ptr 5 0), (7, .own 6 1 0 nt nt none), (8, ci v), (9, ints vars), (10, ci e)], [none, none, none, some ⟨false, rU⟩, some ⟨true, rQuery q⟩, some ⟨true, [cnil, cnil]⟩, some ⟨false, rT⟩]⟩
set_option maxHeartbeats 8000000 in
theorem l15Fresh_spec (q : QueryT) (u : List Int) (h : cQuery q ≤ 1048576) (hu : top u ≤ 1048576) (hul : u.length ≤ 1048576) : SpecR Tryz.prog 246 [vQuery q, intsT u] (wFresh q (fresh q u)) [vQuery q, .any] := by
 refine SpecL_of mx Γ_ok 3 Tryz.func246 rfl rfl (by omega) ?_
 conv => whnf
 refine ⟨_, specVarsOf_spec q h, .inl rfl, .inl ?_⟩
 rw [intsT_ro]
 conv => whnf
 refine ⟨[(1,0),(2,0),(4,0),(7,0),(8,0),(9,0),(10,0)], fun m s => ∃ (b : Bool) (k : Nat) (e f : Int) (v : Nat) (U T : List Int) (n nt : Nat) (rU rT : List V), e = k ∧ m + k = 20 ∧ f = v ∧ frK (varsOf q) u k = (v, U, T) ∧ n = U.length ∧ nt = T.length ∧ rU = rows ciL U ∧ rT = rows ciL T ∧
  s = stX q (varsOf q) n nt rU rT f e b, 20, ⟨true, 0, 0, 0, 0, u, [], u.length, 0, rows ciL u, [], rfl, rfl, rfl, frK_zero _ _, rfl, rfl, rfl, rfl, by kernel_rfl⟩, ?_⟩
 rintro m s ⟨b, k, _, _, v, U, T, n, nt, _, _, rfl, hm, rfl, hfr, hn, hnt, rfl, rfl, rfl⟩
 have hbd := frK_bd (varsOf q) u 1048576 hu k
 have hnx := frK_cases (varsOf q) u k v U T hfr
 have hvl := varsTo_len20 q
 rw [hfr] at hbd
 obtain ⟨hb1, hb2, hb3, hb4⟩ := hbd
 simp only at hb1 hb2 hb3 hb4
 obtain ⟨b', hb'⟩ : ∃ b', b' = b := ⟨_, rfl⟩
 cases b
 all_goals
  unfold stX
  conv => whnf
  split <;> rename_i h1
  all_goals simp only [decide_eq_true_eq, decide_eq_false_iff_not] at h1
  ·conv => whnf
   refine ⟨_, rfl, .inl ⟨flat1 rfl, ?_⟩⟩
   conv => whnf
   refine ⟨by omega, by rw [rows_len ciL_len, hnt], _, snoc_ci _ _, ?_⟩
   conv => whnf
   refine ⟨_, l2Has_spec (varsOf q) k (by omega), .inl rfl, .inl ?_⟩
   conv => whnf
   generalize has (varsOf q) (k : Int) = b1 at hnx
   cases b1 with
   | false =>
    conv => whnf
    rw [if_neg (by simp)] at hnx
    refine ⟨m - 1, by omega, b', k + 1, IntKind.i64.wrap ((k : Int) + 1), v, v, U, T ++ [(k : Int)], n, nt + 1, rows ciL U, rows ciL (T ++ [(k : Int)]), wrap_id (by omega) (by omega), by omega, rfl, hnx, hn, ?_, rfl, rfl, by subst hb'; kernel_rfl⟩
    rw [List.length_append, hnt]
    rfl
   | true =>
    conv => whnf
    rw [if_pos rfl] at hnx
    have hw := nx_le U v
    refine ⟨[(1,0),(2,0),(4,0),(7,0),(8,0),(9,0),(10,0)], fun m' s => ∃ (v' : Nat) (f : Int) (n1 : Nat) (rT : List V), f = v' ∧ top U ≤ m' + v' ∧ nx U v' = nx U v ∧ n1 = nt + 1 ∧ rT = rows ciL (T ++ [(k : Int)]) ∧
     s = stX q (varsOf q) n n1 (rows ciL U) rT f k b', top U, ⟨v, v, nt + 1, rows ciL (T ++ [(k : Int)]), rfl, by omega, rfl, rfl, rfl, by subst hb'; kernel_rfl⟩, ?_⟩
    rintro m' s ⟨v', _, n1, _, rfl, hm', hv', hn1, rfl, rfl⟩
    have hw' := nx_le U v'
    have hst : has U (v' : Int) = true → nx U v' = nx U (v' + 1) ∧ v' < top U := fun h => ⟨nx_step h, top_has h⟩
    have hsp : has U (v' : Int) = false → nx U v' = v' := nx_stop
    subst hb'
    unfold stX
    conv => whnf
    refine .inl ?_
    conv => whnf
    refine ⟨_, _, takeN_all (by rw [rows_len ciL_len, hn]), roVs_ci _, ?_⟩
    conv => whnf
    subst hn
    refine ⟨_, l2Has_spec U v' (by omega), .inr trivial, .inl ?_⟩
    conv => whnf
    generalize has U (v' : Int) = b2 at hst hsp
    cases b2 with
    | true =>
     conv => whnf
     obtain ⟨h5, h6⟩ := hst rfl
     exact ⟨m' - 1, by omega, v' + 1, IntKind.i64.wrap ((v' : Int) + 1), n1, rows ciL (T ++ [(k : Int)]), wrap_id (by omega) (by omega), by omega, by rw [← h5, hv'], hn1, rfl, by kernel_rfl⟩
    | false =>
     conv => whnf
     have h5 := hsp rfl
     have h6 : nx U v = v' := by rw [← hv', h5]
     rw [h6] at hnx
     have hkl : k < (T ++ [(k : Int)]).length := by rw [List.length_append, hb4]; exact Nat.lt_succ_self k
     have hset : setC (rows ciL (T ++ [(k : Int)])) (0 + k * 1) [ci v'] = rows ciL (T ++ [(v' : Int)]) := by
      rw [set_ciL hkl, List.set_append_right _ _ (by omega), hb4, Nat.sub_self]
      rfl
     refine ⟨by omega, ?_⟩
     conv => whnf
     refine ⟨_, takeN_own (k := k) (d := 0) (xs := T ++ [(k : Int)]) ciL_len (Nat.zero_add _) hkl (Nat.le_refl _) rfl, _, hset, ?_⟩
     conv => whnf
     refine ⟨_, rfl, .inl ⟨flat1 rfl, ?_⟩⟩
     conv => whnf
     refine ⟨by omega, by rw [rows_len ciL_len], _, snoc_ci _ _, ?_⟩
     conv => whnf
     refine ⟨m - 1, by omega, false, k + 1, IntKind.i64.wrap ((k : Int) + 1), v', v', U ++ [(v' : Int)], T ++ [(v' : Int)], U.length + 1, n1, rows ciL (U ++ [(v' : Int)]), rows ciL (T ++ [(v' : Int)]), wrap_id (by omega) (by omega), by omega, rfl, hnx, ?_, ?_, rfl, rfl, by kernel_rfl⟩
     ·rw [List.length_append]
      rfl
     ·rw [hn1, List.length_append, hnt]
      rfl
  ·conv => whnf
   have hkk : k = 20 := by omega
   refine .inl ?_
   conv => whnf
   refine ⟨_, _, takeN_all (by rw [rows_len ciL_len, hnt]), roVs_ci _, ?_⟩
   conv => whnf
   subst hnt
   refine ⟨_, renameQuery_spec q T h (by omega), .inr (closed_wQuery _), .inr ?_⟩
   conv => whnf
   refine ⟨by rw [rows_len ciL_len], by rw [rows_len tAtom_len], ?_⟩
   conv => whnf
   subst hkk
   subst hn
   have e : fresh q u = (v, U, T) := hfr
   rw [e]
   refine ⟨by rw [rows_len ciL_len], ?_, ?_⟩
   ·rfl
   ·rfl
end Go.Proofs.YtcjdfeafcmfgpaaGreatD
namespace Go.Proofs.YtcjdfeafcmfgpaaGreatD
open Go Go.Proofs
def viewOk (s : List Int) (v : QueryT) : Bool := isQuery s v && !((v.1.length : Int) == 0)
def pAreViews (s : List Int) (vs : List QueryT) : Bool := vs.all (viewOk s) && (isSchema s && inR vs.length 1 4)
theorem specAreViews_spec (x0 : List Int) (x1 : List QueryT) (h0 : cSchema x0 ≤ 1048576) (h1 : cQueryS x1 ≤ 1048576) : Spec Tryz.prog 40 [vSchema x0, vQueryS x1] (cb (pAreViews x0 x1)) := by
 have h0' := h0
 unfold cSchema at h0'
 unfold cQueryS at h1
 refine Spec_of mx Γ_ok Tryz.func40 rfl ?_
 conv => whnf
 refine ⟨[(1,0),(2,0),(4,0),(5,0)], fun m s => ∃ (k : Nat) (e : Int), e = k ∧ m + k = x1.length ∧ x1.all (viewOk x0) = (x1.drop k).all (viewOk x0) ∧
  s = ⟨35, [(1, vQueryS x1), (2, .ptr 0 0), (4, cb false), (5, ci e)], [some ⟨true, [ints x0]⟩]⟩, x1.length, ⟨0, 0, rfl, rfl, rfl, rfl⟩, ?_⟩
 rintro m s ⟨k, _, rfl, hm, hall, rfl⟩
 conv => whnf
 split <;> rename_i h3
 all_goals simp only [decide_eq_true_eq, decide_eq_false_iff_not] at h3
 ·conv => whnf
  have hk : k < x1.length := by omega
  have hb := sumB_one (f := cQuery) hk
  rw [drop_all hk] at hall
  refine ⟨List.range 16, by kernel_rfl, ?_⟩
  conv => whnf
  refine ⟨by omega, rows_len rQuery_len _, ?_⟩
  conv => whnf
  refine ⟨_, takeN_rp (k := k) rQuery_len hk, ?_⟩
  conv => whnf
  refine ⟨_, specIsQuery_spec x0 x1[k] h0 (by omega), .inl rfl, .inl ?_⟩
  conv => whnf
  rw [viewOk] at hall
  generalize isQuery x0 x1[k] = b1 at hall
  cases b1 with
  | false =>
   conv => whnf
   unfold pAreViews
   rw [hall]
   rfl
  | true =>
  conv => whnf
  refine ⟨by omega, rows_len rQuery_len _, ?_⟩
  conv => whnf
  refine ⟨_, takeN_rp_field (k := k) (d := 0) (m := 1) (r := [ints x1[k].1]) rQuery_len hk (by omega) rfl, ?_⟩
  conv => whnf
  generalize ((x1[k].1.length : Int) == 0) = b2 at hall
  cases b2 with
  | true =>
   conv => whnf
   unfold pAreViews
   rw [hall]
   rfl
  | false =>
   conv => whnf
   exact ⟨m - 1, by omega, k + 1, _, wrap_id (by omega) (by omega), by omega, hall, rfl⟩
 ·conv => whnf
  rw [drop_end (by omega)] at hall
  refine ⟨_, specIsSchema_spec x0 (by omega), .inl rfl, .inl ?_⟩
  conv => whnf
  unfold pAreViews
  rw [hall]
  generalize isSchema x0 = b2
  cases b2 with
  | false =>
   conv => whnf
   rfl
  | true =>
   conv => whnf
   refine ⟨_, l1In_spec (x1.length : Int) 1 4, .inl rfl, .inl ?_⟩
   conv => whnf
   rfl
theorem implAreViews_spec (x0 : List Int) (x1 : List QueryT) (h0 : cSchema x0 ≤ 1048576) (h1 : cQueryS x1 ≤ 1048576) : Spec Tryz.prog 39 [vSchema x0, vQueryS x1] (cb (pAreViews x0 x1)) := by
 have h0' := h0
 unfold cSchema at h0'
 unfold cQueryS at h1
 refine Spec_of mx Γ_ok Tryz.func39 rfl ?_
 conv => whnf
 refine ⟨[(1,0),(2,0),(4,0),(7,0),(8,0),(9,0)], fun m s => ∃ (k : Nat) (e : Int), e = k ∧ m + k = x1.length ∧ x1.all (viewOk x0) = (x1.drop k).all (viewOk x0) ∧
  s = ⟨31, [(1, vQueryS x1), (2, .ptr 0 0), (4, cb false), (7, vQueryS x1), (8, ci x1.length), (9, ci e)], [some ⟨true, [ints x0]⟩]⟩, x1.length, ⟨0, 0, rfl, rfl, rfl, rfl⟩, ?_⟩
 rintro m s ⟨k, _, rfl, hm, hall, rfl⟩
 conv => whnf
 split <;> rename_i h3
 all_goals simp only [decide_eq_true_eq, decide_eq_false_iff_not] at h3
 ·conv => whnf
  have hk : k < x1.length := by omega
  have hb := sumB_one (f := cQuery) hk
  rw [drop_all hk] at hall
  refine ⟨by omega, rows_len rQuery_len _, ?_⟩
  conv => whnf
  refine ⟨_, takeN_rp (k := k) rQuery_len hk, ?_⟩
  conv => whnf
  refine ⟨_, implIsQuery_spec x0 x1[k] h0 (by omega), .inl rfl, .inl ?_⟩
  conv => whnf
  rw [viewOk] at hall
  generalize isQuery x0 x1[k] = b1 at hall
  cases b1 with
  | false =>
   conv => whnf
   unfold pAreViews
   rw [hall]
   rfl
  | true =>
  conv => whnf
  generalize ((x1[k].1.length : Int) == 0) = b2 at hall
  cases b2 with
  | true =>
   conv => whnf
   unfold pAreViews
   rw [hall]
   rfl
  | false =>
   conv => whnf
   exact ⟨m - 1, by omega, k + 1, _, wrap_id (by omega) (by omega), by omega, hall, rfl⟩
 ·conv => whnf
  rw [drop_end (by omega)] at hall
  refine ⟨_, implIsSchema_spec x0 (by omega), .inl rfl, .inl ?_⟩
  conv => whnf
  unfold pAreViews
  rw [hall]
  generalize isSchema x0 = b2
  cases b2 with
  | false =>
   conv => whnf
   rfl
  | true =>
   conv => whnf
   refine ⟨_, within_spec (x1.length : Int) 1 4, .inl rfl, .inl ?_⟩
   conv => whnf
   rfl
end Go.Proofs.YtcjdfeafcmfgpaaGreatD
