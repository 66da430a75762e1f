/- Contracts and plain laws of this seat; no condition. -/
import Derived.Test.YtcjdfeafcmfgpaaGreatQ33
import Derived.Test.YtcjdfeafcmfgpaaGreatQ34
import Derived.Test.YtcjdfeafcmfgpaaGreatQ35
set_option linter.unusedVariables false
set_option linter.unusedSimpArgs false
set_option maxRecDepth 100000
namespace Go.Proofs.YtcjdfeafcmfgpaaGreatD
open Go Go.Proofs
theorem equate_all (q : QueryT) (t u : Int) (hq : cQuery q ≤ 1048576) : ∃ r, Spec Tryz.prog 146 [vQuery q, ci t, ci u] r ∧ ((eqP q t u = none ∧ ∃ y, roV r = .tup [vQuery y, cb false]) ∨ (∃ y, eqP q t u = some y ∧ roV r = .tup [vQuery y, cb true])) := by
 by_cases h : t = u
 ·subst h
  refine ⟨_, equate_same q t, .inr ⟨q, ?_, ?_⟩⟩
  ·unfold eqP
   rw [beq_self_eq_true, if_pos rfl]
  ·simp only [roV, roVs, vQueryU_ro]
   rfl
 ·refine ⟨_, equate_spec q t u hq h, ?_⟩
  cases eqP q t u with
  | none =>
   refine .inl ⟨rfl, ([], []), ?_⟩
   simp only [wEq, roV, roVs, wQuery_ro]
   rfl
  | some y =>
   refine .inr ⟨y, rfl, ?_⟩
   simp only [wEq, roV, roVs, wQuery_ro]
   rfl
def stF (vs : List QueryT) (q : QueryT) (nl nr nh nb : Nat) (rF rl rr rh rb : List V) (e : Int) : St :=
 ⟨167, [(1, vQueryS vs), (6, .ptr 0 0), (8, .own 1 1 0 20 20 none), (11, .ptr 2 0), (12, .own 3 1 0 nl nl none), (13, .own 4 1 0 nr nr none), (56, vAtomS q.2), (57, ci q.2.length), (58, ci e)], [some ⟨true, [cnil, cnil]⟩, some ⟨false, rF⟩, some ⟨true, [.own 5 1 0 nh nh none, .own 6 2 0 nb nb none]⟩, some ⟨false, rl⟩, some ⟨false, rr⟩, some ⟨false, rh⟩, some ⟨false, rb⟩]⟩
def stG (vs : List QueryT) (q : QueryT) (nl nr nh nb : Nat) (rF rN rl rr rh rb : List V) (jj : Int) (as' vars : List Int) (v k j : Int) : St :=
 ⟨167, [(1, vQueryS vs), (6, .ptr 0 0), (8, .own 1 1 0 20 20 none), (11, .ptr 2 0), (12, .own 3 1 0 nl nl none), (13, .own 4 1 0 nr nr none), (15, .ptr 5 0), (16, .own 6 1 0 20 20 none), (17, ci v), (56, vAtomS q.2), (57, ci q.2.length), (58, ci k), (68, ints vars), (69, ci vars.length), (70, ci j)], [some ⟨true, [cnil, cnil]⟩, some ⟨false, rF⟩, some ⟨true, [.own 7 1 0 nh nh none, .own 8 2 0 nb nb none]⟩, some ⟨false, rl⟩, some ⟨false, rr⟩, some ⟨true, [ci jj, ints as']⟩, some ⟨false, rN⟩, some ⟨false, rh⟩, some ⟨false, rb⟩]⟩
def stH (vs : List QueryT) (q : QueryT) (nl nr nh nb : Nat) (rF rN rl rr rh rb : List V) (jj : Int) (as' vars : List Int) (v x k j : Int) : St :=
 ⟨167, [(1, vQueryS vs), (6, .ptr 0 0), (8, .own 1 1 0 20 20 none), (11, .ptr 2 0), (12, .own 3 1 0 nl nl none), (13, .own 4 1 0 nr nr none), (15, .ptr 5 0), (16, .own 6 1 0 20 20 none), (17, ci v), (19, ci x), (56, vAtomS q.2), (57, ci q.2.length), (58, ci k), (68, ints vars), (69, ci vars.length), (70, ci j)], [some ⟨true, [cnil, cnil]⟩, some ⟨false, rF⟩, some ⟨true, [.own 7 1 0 nh nh none, .own 8 2 0 nb nb none]⟩, some ⟨false, rl⟩, some ⟨false, rr⟩, some ⟨true, [ci jj, ints as']⟩, some ⟨false, rN⟩, some ⟨false, rh⟩, some ⟨false, rb⟩]⟩
def stK (e : U4) (vh vb : V) (nl : Nat) (c g f : Int) (rl : List V) : St :=
 ⟨167, [(6, .ptr 0 0), (11, .ptr 1 0), (11, .ptr 1 0), (12, .own 2 1 0 nl nl none), (21, ci c), (128, ci g), (129, ci f)], [some ⟨true, [cnil, cnil]⟩, some ⟨true, [vh, vb]⟩, some ⟨false, rl⟩]⟩
theorem frI_nil (u : List Int) : frI u [] = (0, u, zeros) := rfl
theorem zeros_len : zeros.length = 20 := by simp [zeros]
theorem flat_ciS : ∀ (xs : List Int), ∀ c ∈ rows ciL xs, flat c = true
 | [], c, h => by cases h
 | x :: xs, c, h => by
  have h' : c = ci x ∨ c ∈ rows ciL xs := by simpa [rows, ciL] using h
  rcases h' with rfl | h'
  ·rfl
  ·exact flat_ciS xs c h'
attribute [local irreducible] fresh uAll eqs eqE frI flg nx top
set_option maxHeartbeats 4000000 in
theorem implUnfold_spec (s : List Int) (vs : List QueryT) (q : QueryT) (hs : cSchema s ≤ 1048576) (hvs : cQueryS vs ≤ 1048576) (hq : cQuery q ≤ 1048576) : Spec Tryz.prog 37 [vSchema s, vQueryS vs, vQuery q] (wEq (pUnfO s vs q)) := by
 have hq' := hq
 unfold cQuery cAtomS at hq'
 refine Spec_of mx Γ_ok Tryz.func37 rfl ?_
 conv => whnf
 refine ⟨[0,1,2,3,4,5,7,6,8,9,10], by kernel_rfl, ?_⟩
 conv => whnf
 refine ⟨_, implAreViews_spec s vs hs hvs, .inl rfl, .inl ?_⟩
 conv => whnf
 unfold pUnfO
 generalize hA : pAreViews s vs = bA
 cases bA with
 | false =>
  conv => whnf
  exact .inr ⟨1, .inr ⟨2, rfl⟩⟩
 | true =>
 conv => whnf
 refine ⟨_, implViewSchema_spec vs hvs, .inl rfl, .inl ?_⟩
 rw [wSchema_ro]
 conv => whnf
 refine ⟨_, implIsQuery_spec (pViewSchema vs) q (vs_small hA) hq, .inl rfl, .inl ?_⟩
 conv => whnf
 generalize hB : isQuery (pViewSchema vs) q = bB
 cases bB with
 | false =>
  conv => whnf
  exact .inr ⟨1, .inr ⟨2, rfl⟩⟩
 | true =>
 rw [Bool.true_and, if_pos rfl]
 have hv := views_ok hA
 have hb := body_ok hB
 obtain ⟨hq1, hq2⟩ := unf_small (vs := vs) hB
 conv => whnf
 refine ⟨by omega, rows bL (flg []), ?_, ?_⟩
 ·rw [flg_nil]
  exact rows_bL 20
 conv => whnf
 refine ⟨_, implVarsOf_spec q hq, .inl rfl, .inl ?_⟩
 rw [intsT_ro]
 conv => whnf
 have hvl := varsTo_len20 q
 refine ⟨[(1,0),(5,0),(6,0),(8,0),(39,0),(40,0),(41,0)], fun m s => ∃ (k : Nat) (e : Int) (r : List V), e = k ∧ m + k = (varsOf q).length ∧ r = rows bL (flg ((varsOf q).take k)) ∧
  s = ⟨167, [(1, vQueryS vs), (5, .ptr 0 0), (6, .ptr 1 0), (8, .own 2 1 0 20 20 none), (39, ints (varsOf q)), (40, ci (varsOf q).length), (41, ci e)], [some ⟨true, rQuery q⟩, some ⟨true, [cnil, cnil]⟩, some ⟨false, r⟩]⟩, (varsOf q).length,
  ⟨0, 0, rows bL (flg []), rfl, rfl, rfl, by kernel_rfl⟩, ?_⟩
 rintro m s ⟨k, _, _, rfl, hm, rfl, rfl⟩
 conv => whnf
 split <;> rename_i h1
 all_goals simp only [decide_eq_true_eq, decide_eq_false_iff_not] at h1
 ·conv => whnf
  have hk : k < (varsOf q).length := by omega
  obtain ⟨j, hj, hj20⟩ := vars_fine q hk
  refine ⟨by omega, rows_len ciL_len _, ?_⟩
  conv => whnf
  refine ⟨_, takeN_rp (k := k) ciL_len hk, ?_⟩
  rw [hj]
  conv => whnf
  have hjf : j < (flg ((varsOf q).take k)).length := by rw [flg_len]; exact hj20
  refine ⟨by omega, ?_⟩
  conv => whnf
  have hset : setC (rows bL (flg ((varsOf q).take k))) (0 + j * 1) [cb true] = rows bL (flg ((varsOf q).take (k + 1))) := by
   rw [List.take_succ_eq_append_getElem hk, hj, ← flg_set]
   rw [Nat.zero_add]
   exact setC_rows (f := bL) bL_len (by omega) hjf true
  refine ⟨_, takeN_own (k := j) (d := 0) (m := 1) (xs := flg ((varsOf q).take k)) bL_len (Nat.zero_add _) hjf (by omega) rfl, _, hset, ?_⟩
  conv => whnf
  exact ⟨m - 1, by omega, k + 1, IntKind.i64.wrap ((k : Int) + 1), _, wrap_id (by omega) (by omega), by omega, rfl, by kernel_rfl⟩
 ·conv => whnf
  rw [show (varsOf q).take k = varsOf q from List.take_of_length_le (by omega)]
  refine ⟨_, copyInts_spec q.1 (by omega), .inl rfl, .inr ?_⟩
  conv => whnf
  refine ⟨[(1,0),(6,0),(8,0),(11,202),(12,0),(13,0),(56,0),(57,0),(58,0)], fun m s => ∃ (k : Nat) (e : Int) (st : U4) (nl nr nh nb : Nat) (rF rl rr rh rb : List V), e = k ∧ m + k = q.2.length ∧ uAll vs q.2 (varsOf q, [], [], []) = uAll vs (q.2.drop k) st ∧ okU vs k st ∧
   nl = st.2.1.length ∧ nr = st.2.2.1.length ∧ nh = q.1.length ∧ nb = st.2.2.2.length ∧ rF = rows bL (flg st.1) ∧ rl = rows ciL st.2.1 ∧ rr = rows ciL st.2.2.1 ∧ rh = rows ciL q.1 ∧ rb = rows rAtom st.2.2.2 ∧
   s = stF vs q nl nr nh nb rF rl rr rh rb e, q.2.length,
   ⟨0, 0, (varsOf q, [], [], []), 0, 0, q.1.length, 0, rows bL (flg (varsOf q)), [], [], rows ciL q.1, [], rfl, rfl, rfl, ?_, rfl, rfl, rfl, rfl, rfl, rfl, rfl, rfl, rfl, by kernel_rfl⟩, ?_⟩
  ·exact ⟨Nat.le_trans (top_fine (varsOf_fine q)) (by omega), Nat.le_trans (varsTo_len20 q) (by omega), rfl, Nat.zero_le _, Nat.le_refl _, fineT_nil, fineT_nil⟩
  clear h1 hm
  rintro m s ⟨k, _, st, nl, nr, nh, nb, _, _, _, _, _, rfl, hm, hpend, hok, hnl, hnr, hnh, hnb, rfl, rfl, rfl, rfl, rfl, rfl⟩
  unfold stF
  conv => whnf
  split <;> rename_i h1
  all_goals simp only [decide_eq_true_eq, decide_eq_false_iff_not] at h1
  ·conv => whnf
   have hk : k < q.2.length := by omega
   refine ⟨by omega, rows_len rAtom_len _, ?_⟩
   conv => whnf
   refine ⟨_, takeN_rp (k := k) rAtom_len hk, ?_⟩
   conv => whnf
   rw [List.drop_eq_getElem_cons hk, uAll_cons] at hpend
   obtain ⟨j, hj, hjl, hal, haf⟩ := hb q.2[k] (List.getElem_mem hk)
   have hnxt := @okU_next vs k st q.2[k] hv (fun x hx => by
    rw [List.mem_singleton] at hx
    subst hx
    exact hb _ (List.getElem_mem hk)) hok
   have hva : viewAt vs q.2[k] = vs[j] := by
    rw [← viewAt_eq (xs := q.2[k].2) hjl, ← hj]
   have hku : k ≤ 4 := by omega
   have hal' : q.2[k].2.length = vs[j].1.length := by
    rw [hal]
    simp [List.getD_eq_getElem?_getD, hjl]
   obtain ⟨c1, c2, c3, c4, c5⟩ := hv vs[j] (List.getElem_mem hjl)
   obtain ⟨o1, o2, o3, o4, o5, o6, o7⟩ := id hok
   have hc : cQuery vs[j] ≤ 1048576 := by
    unfold cQuery cAtomS
    omega
   unfold uNext at hnxt hpend
   rw [hva] at hnxt hpend
   rw [hj]
   refine ⟨by omega, rows ciL zeros, rfl, ?_⟩
   conv => whnf
   refine ⟨by omega, rows_len rQuery_len _, ?_⟩
   conv => whnf
   refine ⟨_, takeN_rp (k := j) rQuery_len hjl, ?_⟩
   conv => whnf
   refine ⟨_, implVarsOf_spec vs[j] hc, .inl rfl, .inl ?_⟩
   rw [intsT_ro]
   conv => whnf
   have hvj := varsTo_len20 vs[j]
   refine ⟨[(1,0),(6,0),(8,0),(11,0),(12,0),(13,0),(15,0),(16,0),(17,0),(56,0),(57,0),(58,0),(68,0),(69,0),(70,0)], fun m s => ∃ (i : Nat) (e f : Int) (v : Nat) (U N : List Int) (rF rN : List V), e = i ∧ f = v ∧ m + i = (varsOf vs[j]).length ∧ frI st.1 ((varsOf vs[j]).take i) = (v, U, N) ∧ v < 20 ∧ N.length = 20 ∧ rF = rows bL (flg U) ∧ rN = rows ciL N ∧
    s = stG vs q nl nr nh nb rF rN (rows ciL st.2.1) (rows ciL st.2.2.1) (rows ciL q.1) (rows rAtom st.2.2.2) j q.2[k].2 (varsOf vs[j]) f k e, (varsOf vs[j]).length,
    ⟨0, 0, 0, 0, st.1, zeros, rows bL (flg st.1), rows ciL zeros, rfl, rfl, rfl, frI_nil _, by omega, zeros_len, rfl, rfl, by kernel_rfl⟩, ?_⟩
   rintro m1 s ⟨i, _, _, v, U, N, _, _, rfl, rfl, hm1, hfr, hv20, hNl, rfl, rfl, rfl⟩
   unfold stG
   conv => whnf
   split <;> rename_i h2
   all_goals simp only [decide_eq_true_eq, decide_eq_false_iff_not] at h2
   ·conv => whnf
    have hi : i < (varsOf vs[j]).length := by omega
    obtain ⟨x, hx, hx20⟩ := vars_fine vs[j] hi
    refine ⟨by omega, rows_len ciL_len _, ?_⟩
    conv => whnf
    refine ⟨_, takeN_rp (k := i) ciL_len hi, ?_⟩
    have hfr2 : frI st.1 ((varsOf vs[j]).take (i + 1)) = (nx U v, U ++ [(nx U v : Int)], N.set x (nx U v : Int)) := by
     rw [List.take_succ_eq_append_getElem hi, frI_snoc, hfr, hx]
     rfl
    have hmono : nx U v ≤ (fresh vs[j] st.1).1 := by
     have h3 := frI_app st.1 ((varsOf vs[j]).take (i + 1)) ((varsOf vs[j]).drop (i + 1))
     rw [List.take_append_drop, hfr2, (frI_fresh vs[j] st.1).1] at h3
     exact h3
    rw [hx]
    conv => whnf
    refine ⟨[(1,0),(6,0),(8,0),(11,0),(12,0),(13,0),(15,0),(16,0),(17,0),(19,0),(56,0),(57,0),(58,0),(68,0),(69,0),(70,0)], fun m' s => ∃ (w : Nat) (f : Int), f = w ∧ m' + w = 20 ∧ nx U w = nx U v ∧
     s = stH vs q nl nr nh nb (rows bL (flg U)) (rows ciL N) (rows ciL st.2.1) (rows ciL st.2.2.1) (rows ciL q.1) (rows rAtom st.2.2.2) j q.2[k].2 (varsOf vs[j]) f x k i, 20 - v,
     ⟨v, v, rfl, by omega, rfl, by kernel_rfl⟩, ?_⟩
    rintro m2 s ⟨w, _, rfl, hm2, hw, rfl⟩
    unfold stH
    conv => whnf
    generalize hb1 : decide ((w : Int) < 20) = b1
    cases b1 with
    | false =>
     have hw20 : w = 20 := by
      have := of_decide_eq_false hb1
      omega
     conv => whnf
     rw [show ((w : Int) == 20) = true by rw [hw20]; rfl]
     conv => whnf
     have e : pUnf vs q = none := by
      unfold pUnf
      rw [hpend, if_neg]
      have := (nx_le U w).1
      omega
     rw [e]
     exact .inr ⟨1, .inr ⟨2, rfl⟩⟩
    | true =>
     have hw20 : w < 20 := by
      have := of_decide_eq_true hb1
      omega
     have hwf : w < (flg U).length := by rw [flg_len]; exact hw20
     have hst : has U (w : Int) = true → nx U w = nx U (w + 1) := nx_step
     have hsp : has U (w : Int) = false → nx U w = w := nx_stop
     conv => whnf
     refine ⟨by omega, ?_⟩
     conv => whnf
     refine ⟨_, takeN_own (k := w) (d := 0) (m := 1) (xs := flg U) bL_len (Nat.zero_add _) hwf (by omega) rfl, ?_⟩
     rw [flg_at]
     conv => whnf
     generalize has U (w : Int) = b2 at hst hsp
     cases b2 with
     | true =>
      conv => whnf
      exact ⟨m2 - 1, by omega, w + 1, IntKind.i64.wrap ((w : Int) + 1), wrap_id (by omega) (by omega), by omega, by rw [← hst rfl, hw], by kernel_rfl⟩
     | false =>
      conv => whnf
      have hnw : nx U v = w := by rw [← hw, hsp rfl]
      rw [hnw] at hfr2
      rw [show ((w : Int) == 20) = false by rw [beq_eq_false_iff_ne]; omega]
      conv => whnf
      have hxl : x < N.length := by omega
      refine ⟨by omega, ?_⟩
      conv => whnf
      refine ⟨_, takeN_own (k := x) (d := 0) (xs := N) ciL_len (Nat.zero_add _) hxl (Nat.le_refl _) rfl, _, set_ciL hxl w, ?_⟩
      conv => whnf
      have hset : setC (rows bL (flg U)) (0 + w * 1) [cb true] = rows bL (flg (U ++ [(w : Int)])) := by
       rw [← flg_set, Nat.zero_add]
       exact setC_rows (f := bL) bL_len (by omega) hwf true
      refine ⟨by omega, ?_⟩
      conv => whnf
      refine ⟨_, takeN_own (k := w) (d := 0) (m := 1) (xs := flg U) bL_len (Nat.zero_add _) hwf (by omega) rfl, _, hset, ?_⟩
      conv => whnf
      exact ⟨m1 - 1, by omega, i + 1, IntKind.i64.wrap ((i : Int) + 1), w, w, U ++ [(w : Int)], N.set x (w : Int), _, _, wrap_id (by omega) (by omega), rfl, by omega, hfr2, hw20, by rw [List.length_set, hNl], rfl, rfl, by kernel_rfl⟩
   ·conv => whnf
    rw [show (varsOf vs[j]).take i = varsOf vs[j] from List.take_of_length_le (by omega)] at hfr
    obtain ⟨g1, g2, _⟩ := frI_fresh vs[j] st.1
    have g3 := ren_same (u := st.1) c4 c5
    rw [hfr] at g1 g2 g3
    simp only at g1 g2 g3
    rw [← g1, if_pos hv20, ← g2, ← g3] at hpend
    rw [← g1, ← g2, ← g3] at hnxt
    have hnxt := hnxt hv20
    refine ⟨by omega, rows_len rQuery_len _, ?_⟩
    conv => whnf
    refine ⟨_, takeN_rp (k := j) rQuery_len hjl, ?_⟩
    conv => whnf
    refine .inl ?_
    conv => whnf
    refine ⟨_, _, takeN_all (by rw [rows_len ciL_len, hNl]), roVs_ci _, ?_⟩
    conv => whnf
    have hrs := implRenameQuery_spec vs[j] N hc (by omega)
    unfold ints at hrs
    rw [hNl] at hrs
    refine ⟨_, hrs, .inr (closed_wQuery _), .inl ?_⟩
    rw [wQuery_ro]
    conv => whnf
    have hrl : (renQ N vs[j]).1.length = vs[j].1.length := by simp [renQ]
    have hrb : (renQ N vs[j]).2.length = vs[j].2.length := by simp [renQ]
    refine ⟨rows_len rAtom_len _, solid_rAtomS _, ?_⟩
    conv => whnf
    refine ⟨by omega, by rw [rows_len rAtom_len, hnb], _, (rows_append rAtom (renQ N vs[j]).2 st.2.2.2).symm, ?_⟩
    conv => whnf
    refine ⟨rows_len ciL_len _, solid_ci _, ?_⟩
    conv => whnf
    refine ⟨by omega, by rw [rows_len ciL_len, hnl], _, app_ci st.2.1 q.2[k].2, ?_⟩
    conv => whnf
    refine ⟨rows_len ciL_len _, solid_ci _, ?_⟩
    conv => whnf
    refine ⟨by omega, by rw [rows_len ciL_len, hnr], _, app_ci st.2.2.1 (renQ N vs[j]).1, ?_⟩
    conv => whnf
    exact ⟨m - 1, by omega, k + 1, IntKind.i64.wrap ((k : Int) + 1), (U, st.2.1 ++ q.2[k].2, st.2.2.1 ++ (renQ N vs[j]).1, st.2.2.2 ++ (renQ N vs[j]).2), nl + q.2[k].2.length, nr + (renQ N vs[j]).1.length, nh, nb + (renQ N vs[j]).2.length,
     _, _, _, _, _, wrap_id (by omega) (by omega), by omega, hpend, hnxt, by rw [hnl, List.length_append], by rw [hnr, List.length_append], hnh, by rw [hnb, List.length_append], rfl, rfl, rfl, rfl, rfl, by kernel_rfl⟩
  ·conv => whnf
   have hkk : k = q.2.length := by omega
   obtain ⟨o1, o2, o3, o4, o5, o6, o7⟩ := id hok
   rw [hkk, List.drop_length, uAll_nil] at hpend
   subst hnl hnr hnh hnb
   refine ⟨_, takeN_all (rows_len ciL_len _), .inl ⟨flat_ciS _, ?_⟩⟩
   conv => whnf
   refine ⟨by omega, by rw [rows_len ciL_len], _, app_ci q.1 st.2.1, ?_⟩
   conv => whnf
   refine ⟨_, takeN_all (rows_len ciL_len _), .inl ⟨flat_ciS _, ?_⟩⟩
   conv => whnf
   refine ⟨by omega, by rw [rows_len ciL_len, List.length_append], _, app_ci (q.1 ++ st.2.1) st.2.2.1, ?_⟩
   conv => whnf
   clear h1 hm
   refine ⟨[(6,0),(11,199),(11,299),(12,0),(21,0),(128,0),(129,0)], fun m s => ∃ (i : Nat) (f : Int) (e : U4) (vh vb : V), f = i ∧ m + i = st.2.1.length ∧ okE st.2.1.length (16 * 4) e ∧ e.2.2.2.length = st.2.2.2.length ∧ e.1.length = q.1.length ∧
    eqs st.2.1.length 0 (q.1, st.2.1, st.2.2.1, st.2.2.2) = eqs m i e ∧ vh = ints (implX e).1 ∧ vb = vAtomS e.2.2.2 ∧ s = stK e vh vb st.2.1.length q.1.length st.2.1.length f (rows ciL st.2.1), st.2.1.length,
    ⟨0, 0, (q.1, st.2.1, st.2.2.1, st.2.2.2), .ro (q.1.length + st.2.1.length + st.2.2.1.length) (roVs ((rows ciL (q.1 ++ st.2.1 ++ st.2.2.1)).take ((q.1.length + st.2.1.length + st.2.2.1.length) * 1))), .ro st.2.2.2.length (roVs ((rows rAtom st.2.2.2).take (st.2.2.2.length * 2))), rfl, rfl, ⟨rfl, o3.symm, hq1, (by show st.2.2.2.length + sumB cAtom st.2.2.2 ≤ _; omega), o6, o7⟩, rfl, rfl, rfl, ?_, ?_, by kernel_rfl⟩, ?_⟩
   ·rw [take_all (by rw [rows_len ciL_len, List.length_append, List.length_append]), roVs_ints, ← List.length_append, ← List.length_append]
    rfl
   ·rw [take_all (rows_len rAtom_len _), roVs_rows rAtomU_ro]
    rfl
   rintro m1 s ⟨i, _, e, _, _, rfl, hm1, hoke, heb, heh, hpe, rfl, rfl, rfl⟩
   obtain ⟨e1, e2, e3, e4, e5, e6⟩ := id hoke
   have hil : (implX e).1.length = e.1.length + e.2.1.length + e.2.2.1.length := by simp [implX, Nat.add_assoc]
   unfold stK
   conv => whnf
   split <;> rename_i h2
   all_goals simp only [decide_eq_true_eq, decide_eq_false_iff_not] at h2
   ·conv => whnf
    have hi : i < e.2.1.length := by omega
    have hi2 : i < e.2.2.1.length := by omega
    have hn0 : q.1.length + i < (implX e).1.length := by omega
    have hn1 : q.1.length + st.2.1.length + i < (implX e).1.length := by omega
    have hw0 : IntKind.i64.wrap ((q.1.length : Int) + i) = ((q.1.length + i : Nat) : Int) := wrap_id (by omega) (by omega)
    have hw1 : IntKind.i64.wrap ((q.1.length : Int) + st.2.1.length) = ((q.1.length + st.2.1.length : Nat) : Int) := wrap_id (by omega) (by omega)
    have hw2 : IntKind.i64.wrap (((q.1.length + st.2.1.length : Nat) : Int) + i) = ((q.1.length + st.2.1.length + i : Nat) : Int) := wrap_id (by omega) (by omega)
    have hc : cQuery (implX e) ≤ 1048576 := by
     show (implX e).1.length + (e.2.2.2.length + sumB cAtom e.2.2.2) ≤ _
     omega
    have ht : e.2.1[i] < 20 := e5 _ (List.getElem_mem hi)
    have hu : e.2.2.1[i] < 20 := e6 _ (List.getElem_mem hi2)
    obtain ⟨M, rfl⟩ : ∃ M, m1 = M + 1 := ⟨m1 - 1, by omega⟩
    rw [eqs_succ, getD_int hi, getD_int hi2] at hpe
    refine ⟨[0,1,2,3,4,5,6,7,8,9,10,11,12,13,14,15,16,17,18,19,20,21,24,1000,22,1000,23], by kernel_rfl, ?_⟩
    conv => whnf
    rw [hw0]
    refine ⟨by omega, rows_len ciL_len _, ?_⟩
    conv => whnf
    refine ⟨_, takeN_rp (k := q.1.length + i) ciL_len hn0, ?_⟩
    rw [implX_at0 e heh.symm rfl hi]
    conv => whnf
    rw [hw1, hw2]
    refine ⟨by omega, rows_len ciL_len _, ?_⟩
    conv => whnf
    refine ⟨_, takeN_rp (k := q.1.length + st.2.1.length + i) ciL_len hn1, ?_⟩
    rw [implX_at1 e heh.symm e1.symm rfl hi2]
    conv => whnf
    obtain ⟨r, hs, hr⟩ := equate_all (implX e) e.2.1[i] e.2.2.1[i] hc
    refine ⟨r, hs, .inl rfl, .inl ?_⟩
    rw [eqP_implX] at hr
    have hox : ∀ y, eqE e e.2.1[i] e.2.2.1[i] = some y → okE st.2.1.length (16 * 4) y ∧ y.2.2.2.length = e.2.2.2.length ∧ y.1.length = e.1.length := fun y hy => ⟨okE_eqE hoke ht hu hy, eqE_len hy, eqE_len1 hy⟩
    generalize eqE e e.2.1[i] e.2.2.1[i] = E at *
    cases E with
    | none =>
     rcases hr with ⟨_, y, hr⟩ | ⟨y, hy, _⟩
     ·rw [hr]
      conv => whnf
      have e : pUnf vs q = none := by
       unfold pUnf
       rw [hpend]
       simp only [hpe]
      rw [e]
      exact .inr ⟨1, .inr ⟨2, rfl⟩⟩
     ·cases hy
    | some y =>
     rcases hr with ⟨hy, _⟩ | ⟨z, hz, hr⟩
     ·cases hy
     ·cases hz
      rw [hr]
      conv => whnf
      obtain ⟨hy1, hy2, hy3⟩ := hox y rfl
      exact ⟨M, by omega, i + 1, IntKind.i64.wrap ((i : Int) + 1), y, ints (implX y).1, vAtomS y.2.2.2, wrap_id (by omega) (by omega), by omega, hy1, by omega, by omega, hpe, rfl, rfl, by kernel_rfl⟩
   ·conv => whnf
    have hi0 : m1 = 0 := by omega
    subst hi0
    rw [eqs_zero] at hpe
    have hsl2 : takeN (rows ciL (implX e).1) 0 (e.1.length * 1) = some (rows ciL e.1) := by
     unfold implX
     rw [List.append_assoc, rows_append]
     exact takeN_pre (by rw [rows_len ciL_len])
    rw [← heh]
    refine ⟨⟨by omega, by omega, by omega, by omega⟩, rows_len ciL_len _, rows ciL e.1, hsl2, ?_⟩
    conv => whnf
    have hc : cQuery (e.1, e.2.2.2) ≤ 1048576 := by
     show e.1.length + (e.2.2.2.length + sumB cAtom e.2.2.2) ≤ _
     omega
    refine ⟨_, implDedupeAtoms_spec (e.1, e.2.2.2) hc, .inl rfl, .inr ?_⟩
    conv => whnf
    have e' : pUnf vs q = some (pDedupeAtoms (e.1, e.2.2.2)) := by
     unfold pUnf
     rw [hpend]
     simp only [hpe]
    rw [e']
    exact ⟨by rw [rows_len ciL_len], by rw [rows_len tAtom_len], rfl⟩
end Go.Proofs.YtcjdfeafcmfgpaaGreatD
