/- Contracts and plain laws of this seat; no condition. -/
import Derived.Test.YtboolngaahifdaaGreatQ29
import Derived.Test.YtboolngaahifdaaGreatQ30
import Derived.Test.YtboolngaahifdaaGreatQ31
import Derived.Test.YtboolngaahifdaaGreatQ21
import Derived.Test.YtboolngaahifdaaGreatQ20
set_option linter.unusedVariables false
set_option linter.unusedSimpArgs false
set_option maxRecDepth 100000
namespace Go.Proofs.YtboolngaahifdaaGreatD
open Go Go.Proofs
theorem unfz_back {c : Int} (h : 0 ≤ c ∧ c ≤ 99) : isTerm (unfz c) = true ∧ val fzv (unfz c) = c := by
 unfold unfz
 by_cases h1 : c > 79
 ·rw [if_pos h1, wrap_id (x := c - 79) (by omega) (by omega), wrap_id (by omega) (by omega)]
  have hv : isVar (c - 79 - 1) = true := by simp [isVar, inR]; omega
  refine ⟨by simp [isTerm, inR]; omega, ?_⟩
  unfold val fzv
  rw [hv, if_pos rfl]
  omega
 ·rw [if_neg h1, wrap_id (by omega) (by omega)]
  have hv : isVar (-1 - c) = false := by simp [isVar, inR]; omega
  refine ⟨by simp [isTerm, inR]; omega, ?_⟩
  unfold val
  rw [hv]
  simp
  omega
theorem vtGo_mem {db : List FactC} (a : FactC) : ∀ (vs : List QueryE) (i : Nat), a ∈ vtGo db i vs → ∃ j : Nat, ∃ hj : j < vs.length, ∃ t, a = unfA (i + j) t ∧ t ∈ overP vs[j] db
 | [], i, h => by cases h
 | v :: vs, i, h => by
  rcases List.mem_append.1 h with h | h
  ·obtain ⟨t, ht, rfl⟩ := List.mem_map.1 h
   exact ⟨0, by simp, t, rfl, ht⟩
  ·obtain ⟨j, hj, t, h1, h2⟩ := vtGo_mem a vs (i + 1) h
   exact ⟨j + 1, by simpa using hj, t, by rw [h1]; congr 1; omega, by simpa using h2⟩
theorem dbFact {s : List Int} {db : List FactC} (h : isDb s db = true) : ∀ f ∈ db, isFact s f = true := by
 have hg : ∀ (db : List FactC) (p : Option FactC), dbGo s p db = true → ∀ f ∈ db, isFact s f = true := by
  intro db
  induction db with
  | nil => intro p _ f hf; cases hf
  | cons x r ih =>
   intro p h f hf
   simp only [dbGo, Bool.and_eq_true] at h
   rcases List.mem_cons.1 hf with rfl | hf
   ·exact h.1.1
   ·exact ih (some x) h.2 f hf
 simp only [isDb, Bool.and_eq_true] at h
 exact hg db none h.1
theorem ans_rng {s : List Int} {q : QueryT} {db : List FactC} {w : Int → Int} (hq : safeQ q) (hd : isDb s db = true) (hw : Sat w db q.2) : ∀ c ∈ q.1.map (val w), 0 ≤ c ∧ c ≤ 99 := by
 intro c hc
 obtain ⟨t, ht, rfl⟩ := List.mem_map.1 hc
 cases hv : isVar t with
 | true =>
  obtain ⟨a, ha, hta⟩ := occurs_mem.1 (hq.2 t ht hv)
  have hf := dbFact hd _ (hw a ha)
  simp only [isFact, Bool.and_eq_true] at hf
  have := List.all_eq_true.1 hf.2 (val w t) (List.mem_map.2 ⟨t, hta, rfl⟩)
  exact inR_bd this
 | false =>
  have h1 := term_rng (List.all_eq_true.1 hq.1.1 t ht)
  have h2 : ¬ (0 ≤ t ∧ t ≤ 19) := by
   intro h
   simp [isVar, inR] at hv
   omega
  unfold val
  rw [hv]
  simp
  omega
structure TupOk (s : List Int) (vs : List QueryT) (q : QueryT) (a : FactC) : Prop where
 sz : a.2.length ≤ 3
 pow : ∀ y, pUnfO s vs ([], [a]) = some y → overK y (pFreeze q).1.length = true → (pFreeze q).1.length ^ y.2.length ≤ 549755813888
 ans : ∀ y, pUnfO s vs ([], [a]) = some y → overS y (pFreeze q).1 ≠ []
theorem tup_ok {s : List Int} {vs : List QueryT} {q : QueryT} {a : FactC} (ha : a ∈ pViewTuples s vs q) : TupOk s vs q a := by
 unfold pViewTuples at ha
 split at ha
 ·rename_i hb
  simp only [Bool.and_eq_true] at hb
  obtain ⟨hv, hq⟩ := hb
  obtain ⟨j, hj, t, rfl, ht⟩ := vtGo_mem a vs 0 (List.mem_of_mem_take ha)
  rw [Nat.zero_add]
  have hvj := view_q hv _ (List.getElem_mem hj)
  have hsv := isQuery_safeQ hvj.1
  have hd := frz_db hq
  obtain ⟨_, hl, _⟩ := frz_short hq
  have htl := (overP_ok hvj.1 hl).2 t ht
  obtain ⟨w, hw, rfl⟩ := (raw_iff hsv t).1 ht
  have hrng := ans_rng hsv hd hw
  have hat : viewAt vs (unfA j (vs[j].1.map (val w))) = vs[j] := viewAt_mem hj _ rfl
  obtain ⟨hV1, hV2⟩ := views_unf hv
  have hU : UnfOk vs ([], [unfA j (vs[j].1.map (val w))]) := by
   refine ⟨hV1, ⟨rfl, fun b hb => ?_⟩, fun b hb => ?_, fun t ht => by cases ht⟩
   ·rw [List.mem_singleton.1 hb]
    refine List.all_eq_true.2 fun x hx => ?_
    obtain ⟨c, hc, rfl⟩ := List.mem_map.1 hx
    exact (unfz_back (hrng c hc)).1
   ·rw [List.mem_singleton.1 hb, hat]
    simp [unfA]
  have hback : valA fzv (unfA j (vs[j].1.map (val w))) = ((j : Int), vs[j].1.map (val w)) := by
   unfold valA unfA
   refine Prod.ext rfl ?_
   show ((vs[j].1.map (val w)).map unfz).map (val fzv) = _
   rw [List.map_map]
   refine (List.map_congr_left fun c hc => ?_).trans (List.map_id _)
   exact (unfz_back (hrng c hc)).2
  have hview : ∀ b ∈ [unfA j (vs[j].1.map (val w))], ViewF vs (pFreeze q).1 (valA fzv b) := fun b hb => by
   rw [List.mem_singleton.1 hb, hback]
   refine ⟨w, ?_, ?_⟩
   ·rw [viewAt_mem hj _ rfl]; exact hw
   ·rw [viewAt_mem hj _ rfl]
  have hO : ∀ y, pUnfO s vs ([], [unfA j (vs[j].1.map (val w))]) = some y → pUnf vs ([], [unfA j (vs[j].1.map (val w))]) = some y := fun y hy => by
   unfold pUnfO at hy
   split at hy
   ·exact hy
   ·cases hy
  have hvb := ((isQuery_iff s _).1 hvj.1).2.2.1
  have hform : ∀ y, pUnfO s vs ([], [unfA j (vs[j].1.map (val w))]) = some y → safeQ y ∧ y.1.length = 0 ∧ y.2.length ≤ 4 ∧ (∀ c ∈ y.2, c.2.length ≤ 3) ∧ 1 ≤ y.2.length := fun y hy => by
   obtain ⟨y1, y2, y3, y4⟩ := unf_form hU (hO y hy)
   obtain ⟨y5, y6⟩ := unf_atoms hU hV2 ⟨_, _, rfl, by rw [hat]; exact hvb.1⟩ (hO y hy)
   refine ⟨⟨y1, y2⟩, y3, ?_, y5, y6⟩
   simp only [List.map_cons, List.map_nil, List.sum_cons, List.sum_nil, hat] at y4
   omega
  refine ⟨?_, fun y hy _ => ?_, fun y hy he => ?_⟩
  ·show ((vs[j].1.map (val w)).map unfz).length ≤ 3
   rw [List.length_map]
   exact htl
  ·have h1 := (hform y hy).2.2.1
   exact Nat.le_trans (Nat.le_trans (Nat.pow_le_pow_left hl y.2.length) (Nat.pow_le_pow_right (by decide) h1)) (by decide)
  ·obtain ⟨f1, f2, f3, f4, f5⟩ := hform y hy
   obtain ⟨st, _, hst, _⟩ := unf_some hU (hO y hy)
   obtain ⟨z, hz, V, hV, _⟩ := unf_comp hU hst hview
   obtain rfl : z = y := Option.some.inj (hz.symm.trans (hO y hy))
   have hK := overK_of f1 (by omega) f5 (by omega) f4 (show (pFreeze q).1.length ≤ 400 by omega)
   have := (over_iff f1 hK (z.1.map (val V))).2 ⟨V, hV, rfl⟩
   rw [he] at this
   cases this
 ·cases ha
theorem tup_len (s : List Int) (vs : List QueryT) (q : QueryT) : (pViewTuples s vs q).length ≤ 10 := by
 unfold pViewTuples
 split
 ·rw [List.length_take]; omega
 ·simp
end Go.Proofs.YtboolngaahifdaaGreatD
namespace Go.Proofs.YtboolngaahifdaaGreatD
open Go Go.Proofs
theorem wFresh_ro (q : QueryT) (st : Nat × List Int × List Int) : roV (wFresh q st) = .tup [vQuery (renQ st.2.2 q), ints st.2.1, cb (decide ((st.1 : Int) < 20))] := by
 simp only [wFresh, roV, roVs, wQuery_ro, intsT_ro]
 rfl
theorem takeN_pre {A B : List V} {n : Nat} (h : n = A.length) : takeN (A ++ B) 0 n = some A := by
 subst h
 refine takeN_eq (by rw [List.length_append]; omega) ?_
 rw [List.drop_zero, List.take_left]
def rE (e : U4) : List V := rows rAtom e.2.2.2 ++ [ci 0, intsT e.2.1, ci 0, intsT e.2.2.1]
def stE (e : U4) (vh vb : V) (nl : Nat) (c f : Int) : St :=
 ⟨124, [(4, .ptr 0 0), (7, .ptr 1 0), (7, .ptr 1 0), (8, .own 2 1 0 nl nl none), (15, ci c), (16, ci f)], [some ⟨true, [cnil, cnil]⟩, some ⟨true, [vh, vb]⟩, none]⟩
theorem specX_len (e : U4) : (specX e).2.length = e.2.2.2.length + 2 := by simp [specX]
theorem specX_at0 (e : U4) {n : Nat} (h : n = e.2.2.2.length) (hn : n < (specX e).2.length) : (specX e).2[n] = (0, e.2.1) := by
 subst h
 simp [specX]
theorem specX_at1 (e : U4) {n : Nat} (h : n = e.2.2.2.length + 1) (hn : n < (specX e).2.length) : (specX e).2[n] = (0, e.2.2.1) := by
 subst h
 simp [specX]
def wEqR (q : QueryT) : Option QueryT → V
 | none => .tup [vQuery q, cb false]
 | some y => .tup [vQuery y, cb true]
theorem l13Equate_all (q : QueryT) (t u : Int) (hq : cQuery q ≤ 1048576) (ht : t < 20) (hu : u < 20) : ∃ r, Spec Tryz.prog 185 [vQuery q, ci t, ci u] r ∧ roV r = wEqR q (eqP q t u) := by
 by_cases h : t = u
 ·subst h
  refine ⟨_, l13Equate_same q t, ?_⟩
  unfold eqP
  rw [beq_self_eq_true, if_pos rfl]
  simp only [roV, roVs, vQueryU_ro, wEqR]
  rfl
 ·refine ⟨_, l13Equate_spec q t u hq h ht hu, ?_⟩
  cases eqP q t u with
  | none =>
   simp only [wEqS, roV, roVs, vQueryU_ro, wEqR]
   rfl
  | some y =>
   simp only [wEqS, roV, roVs, wQuery_ro, wEqR]
   rfl
theorem solid_rE (e : U4) : ∀ c ∈ rE e, solid c = true := by
 intro c hc
 rcases List.mem_append.1 hc with h | h
 ·exact solid_rAtomS _ c h
 ·simp only [List.mem_cons, List.not_mem_nil, or_false] at h
  rcases h with rfl | rfl | rfl | rfl <;> rfl
theorem rE_ro (e : U4) : roVs (rE e) = rows rAtom (specX e).2 := by
 unfold rE specX
 rw [roVs_append, rows_append, roVs_rows rAtomU_ro]
 simp only [roVs, ci_ro, intsT_ro]
 rfl
attribute [local irreducible] fresh uAll eqs eqE
set_option maxHeartbeats 4000000 in
theorem l15Unfold_spec (vs : List QueryT) (q : QueryT) (hv : okV vs) (hb : okB vs q.2) (hq : cQuery q ≤ 1048576) (hq1 : q.1.length ≤ 3) (hq2 : q.2.length ≤ 4) : Spec Tryz.prog 121 [vQueryS vs, vQuery q] (wEq (pUnf vs q)) := by
 have hq' := hq
 unfold cQuery cAtomS at hq'
 refine Spec_of mx Γ_ok Tryz.func121 rfl ?_
 conv => whnf
 refine ⟨_, specVarsOf_spec q hq, .inl rfl, .inl ?_⟩
 rw [intsT_ro]
 conv => whnf
 refine ⟨rows_len ciL_len _, solid_ci _, ?_⟩
 conv => whnf
 refine ⟨by omega, rfl, _, app_ci [] q.1, ?_⟩
 conv => whnf
 refine ⟨[(0,0),(3,0),(4,0),(6,0),(7,202),(8,0),(9,0),(10,0)], fun m s => ∃ (k : Nat) (e : Int) (st : U4) (nl nr nh nb : Nat) (rl rr rh rb : List V), e = k ∧ m + k = q.2.length ∧ uAll vs q.2 (varsOf q, [], [], []) = uAll vs (q.2.drop k) st ∧ okU vs k st ∧
  nl = st.2.1.length ∧ nr = st.2.2.1.length ∧ nh = q.1.length ∧ nb = st.2.2.2.length ∧ rl = rows ciL st.2.1 ∧ rr = rows ciL st.2.2.1 ∧ rh = rows ciL q.1 ∧ rb = rows rAtom st.2.2.2 ∧
  s = ⟨124, [(0, vQueryS vs), (3, .ptr 0 0), (4, .ptr 1 0), (6, ints st.1), (7, .ptr 2 0), (8, .own 3 1 0 nl nl none), (9, .own 4 1 0 nr nr none), (10, ci e)], [some ⟨true, rQuery q⟩, some ⟨true, [cnil, cnil]⟩, some ⟨true, [.own 5 1 0 nh nh none, .own 6 2 0 nb nb none]⟩, some ⟨false, rl⟩, some ⟨false, rr⟩, some ⟨false, rh⟩, some ⟨false, rb⟩]⟩, q.2.length,
  ⟨0, 0, (varsOf q, [], [], []), 0, 0, 0 + q.1.length, 0, [], [], rows ciL ([] ++ q.1), [], rfl, rfl, rfl, ?_, rfl, rfl, Nat.zero_add _, rfl, rfl, rfl, rfl, rfl, by kernel_rfl⟩, ?_⟩
 ·exact ⟨Nat.le_trans (top_fine (varsOf_fine q)) (by omega), Nat.le_trans (varsTo_len20 q) (by omega), rfl, Nat.zero_le _, Nat.le_refl _, fineT_nil, fineT_nil⟩
 rintro m s ⟨k, _, st, nl, nr, nh, nb, _, _, _, _, rfl, hm, hpend, hok, hnl, hnr, hnh, hnb, rfl, rfl, rfl, rfl, rfl⟩
 conv => whnf
 split <;> rename_i h1
 all_goals simp only [decide_eq_true_eq, decide_eq_false_iff_not] at h1
 ·conv => whnf
  have hk : k < q.2.length := by omega
  refine ⟨by omega, rows_len rAtom_len _, ?_⟩
  conv => whnf
  refine ⟨_, takeN_rp (k := k) rAtom_len hk, ?_⟩
  conv => whnf
  rw [List.drop_eq_getElem_cons hk, uAll_cons] at hpend
  obtain ⟨j, hj, hjl, hal, haf⟩ := hb q.2[k] (List.getElem_mem hk)
  have hnxt := @okU_next vs k st q.2[k] hv (fun x hx => by
   rw [List.mem_singleton] at hx
   subst hx
   exact hb _ (List.getElem_mem hk)) hok
  have hva : viewAt vs q.2[k] = vs[j] := by
   rw [← viewAt_eq (xs := q.2[k].2) hjl, ← hj]
  unfold uNext at hnxt hpend
  rw [hva] at hnxt hpend
  rw [hj]
  refine ⟨[1001,0,1,2,3,4,6,5,7,8,9,10,11,12,15,16,1000,13,1000,14], by kernel_rfl, ?_⟩
  conv => whnf
  refine ⟨by omega, rows_len rQuery_len _, ?_⟩
  conv => whnf
  refine ⟨_, takeN_rp (k := j) rQuery_len hjl, ?_⟩
  conv => whnf
  refine ⟨rows_len ciL_len _, solid_ci _, ?_⟩
  conv => whnf
  have hku : k ≤ 4 := by omega
  have hal' : q.2[k].2.length = vs[j].1.length := by
   rw [hal]
   simp [List.getD_eq_getElem?_getD, hjl]
  obtain ⟨c1, c2, c3, _, _⟩ := hv vs[j] (List.getElem_mem hjl)
  obtain ⟨o1, o2, o3, o4, o5, o6, o7⟩ := id hok
  refine ⟨by omega, rfl, _, (show _ = rows ciL st.1 from app_ci [] st.1), ?_⟩
  conv => whnf
  refine .inr (.inl ?_)
  conv => whnf
  refine ⟨by rw [rows_len ciL_len]; simp; exact (Nat.mul_one _).symm, ?_⟩
  conv => whnf
  have hc : cQuery vs[j] ≤ 1048576 := by
   unfold cQuery cAtomS
   omega
  have hsp : SpecR Tryz.prog 184 [vQuery vs[j], .tr 1 (0 + st.1.length) (rows ciL st.1)] (wFresh vs[j] (fresh vs[j] st.1)) [vQuery vs[j], .any] := by
   rw [Nat.zero_add]
   exact l15Fresh_spec vs[j] st.1 hc (by omega) (by omega)
  refine ⟨fun k => noSubT_lk rfl k, rfl, _, _, _, hsp, ?_⟩
  conv => whnf
  refine .inl ?_
  rw [wFresh_ro]
  conv => whnf
  generalize (fresh vs[j] st.1).1 = w at *
  generalize (fresh vs[j] st.1).2.1 = U at *
  generalize (fresh vs[j] st.1).2.2 = T at *
  generalize hb1 : decide ((w : Int) < 20) = b1
  cases b1 with
  | false =>
   conv => whnf
   have e : pUnf vs q = none := by
    unfold pUnf
    rw [hpend, if_neg (by simp only [decide_eq_false_iff_not] at hb1; omega)]
   rw [e]
   exact .inr ⟨1, .inr ⟨2, rfl⟩⟩
  | true =>
   conv => whnf
   have hw : w < 20 := by
    have := of_decide_eq_true hb1
    omega
   have hnxt := hnxt hw
   rw [if_pos hw] at hpend
   refine ⟨rows_len ciL_len _, solid_ci _, ?_⟩
   conv => whnf
   refine ⟨by omega, by rw [rows_len ciL_len, hnl], _, app_ci st.2.1 q.2[k].2, ?_⟩
   conv => whnf
   refine ⟨rows_len ciL_len _, solid_ci _, ?_⟩
   conv => whnf
   have hrl : (renQ T vs[j]).1.length = vs[j].1.length := by simp [renQ]
   have hrb : (renQ T vs[j]).2.length = vs[j].2.length := by simp [renQ]
   refine ⟨by omega, by rw [rows_len ciL_len, hnr], _, app_ci st.2.2.1 (renQ T vs[j]).1, ?_⟩
   conv => whnf
   refine ⟨rows_len rAtom_len _, solid_rAtomS _, ?_⟩
   conv => whnf
   refine ⟨by omega, by rw [rows_len rAtom_len, hnb], _, (rows_append rAtom (renQ T vs[j]).2 st.2.2.2).symm, ?_⟩
   conv => whnf
   exact ⟨m - 1, by omega, k + 1, IntKind.i64.wrap ((k : Int) + 1), (U, st.2.1 ++ q.2[k].2, st.2.2.1 ++ (renQ T vs[j]).1, st.2.2.2 ++ (renQ T vs[j]).2), nl + q.2[k].2.length, nr + (renQ T vs[j]).1.length, nh, nb + (renQ T vs[j]).2.length,
    rows ciL (st.2.1 ++ q.2[k].2), rows ciL (st.2.2.1 ++ (renQ T vs[j]).1), rows ciL q.1, rows rAtom (st.2.2.2 ++ (renQ T vs[j]).2), wrap_id (by omega) (by omega), by omega, hpend, hnxt, by rw [hnl, List.length_append], by rw [hnr, List.length_append], hnh, by rw [hnb, List.length_append], rfl, rfl, rfl, rfl, by kernel_rfl⟩
 ·conv => whnf
  have hkk : k = q.2.length := by omega
  obtain ⟨o1, o2, o3, o4, o5, o6, o7⟩ := id hok
  rw [hkk, List.drop_length, show uAll vs [] st = some st from by unfold uAll; rfl] at hpend
  refine ⟨by rw [rows_len ciL_len, hnl], ?_⟩
  conv => whnf
  refine ⟨by rw [rows_len ciL_len, hnr], ?_⟩
  conv => whnf
  subst hnl hnr hnh hnb
  refine ⟨_, rfl, .inr ⟨solid_rE (st.1, st.2.1, st.2.2.1, []), ?_⟩⟩
  conv => whnf
  refine ⟨by omega, by rw [rows_len rAtom_len], _, (show _ = rE (q.1, st.2.1, st.2.2.1, st.2.2.2) from rfl), ?_⟩
  conv => whnf
  refine ⟨[(4,0),(7,199),(7,299),(8,0),(15,0),(16,0)], fun m s => ∃ (i : Nat) (f : Int) (e : U4) (vh vb : V), f = i ∧ m + i = st.2.1.length ∧ okE st.2.1.length (16 * 4) e ∧ e.2.2.2.length = st.2.2.2.length ∧
   eqs st.2.1.length 0 (q.1, st.2.1, st.2.2.1, st.2.2.2) = eqs m i e ∧ vh = ints e.1 ∧ vb = vAtomS (specX e).2 ∧ s = stE e vh vb st.2.1.length st.2.2.2.length f, st.2.1.length,
   ⟨0, 0, (q.1, st.2.1, st.2.2.1, st.2.2.2), .ro q.1.length (roVs ((rows ciL q.1).take (q.1.length * 1))), .ro (st.2.2.2.length + 2) (roVs ((rE (q.1, st.2.1, st.2.2.1, st.2.2.2)).take ((st.2.2.2.length + 2) * 2))), rfl, rfl, ⟨rfl, o3.symm, hq1, (by show st.2.2.2.length + sumB cAtom st.2.2.2 ≤ _; omega), o6, o7⟩, rfl, rfl, ?_, ?_, by kernel_rfl⟩, ?_⟩
  ·rw [take_all (rows_len ciL_len _), roVs_ints]
   rfl
  ·rw [take_all (by rw [rE, List.length_append, rows_len rAtom_len]; show st.2.2.2.length * 2 + 4 = _; omega), rE_ro]
   simp only [vAtomS, specX_len]
  rintro m1 s ⟨i, _, e, _, _, rfl, hm1, hoke, heb, hpe, rfl, rfl, rfl⟩
  obtain ⟨e1, e2, e3, e4, e5, e6⟩ := id hoke
  have hsl := specX_len e
  unfold stE
  conv => whnf
  split <;> rename_i h2
  all_goals simp only [decide_eq_true_eq, decide_eq_false_iff_not] at h2
  ·conv => whnf
   have hi : i < e.2.1.length := by omega
   have hi2 : i < e.2.2.1.length := by omega
   have hn0 : st.2.2.2.length < (specX e).2.length := by omega
   have hn1 : st.2.2.2.length + 1 < (specX e).2.length := by omega
   have hwn : IntKind.i64.wrap ((st.2.2.2.length : Int) + 1) = ((st.2.2.2.length + 1 : Nat) : Int) := wrap_id (by omega) (by omega)
   have hc : cQuery (specX e) ≤ 1048576 := by
    unfold cQuery cAtomS
    rw [hsl]
    show e.1.length + (_ + sumB cAtom (e.2.2.2 ++ [(0, e.2.1), (0, e.2.2.1)])) ≤ _
    rw [sumB_append]
    simp only [sumB, cAtom]
    omega
   have ht : e.2.1[i] < 20 := e5 _ (List.getElem_mem hi)
   have hu : e.2.2.1[i] < 20 := e6 _ (List.getElem_mem hi2)
   obtain ⟨M, rfl⟩ : ∃ M, m1 = M + 1 := ⟨m1 - 1, by omega⟩
   rw [eqs_succ, getD_int hi, getD_int hi2] at hpe
   refine ⟨[0,1,2,3,4,5,6,7,8,9,10,11,12,13,14,15,16,17,18,19,20,21,22,23,26,1000,24,1000,25], by kernel_rfl, ?_⟩
   conv => whnf
   refine ⟨by omega, rows_len rAtom_len _, ?_⟩
   conv => whnf
   refine ⟨_, takeN_rp_field (k := st.2.2.2.length) (d := 1) (m := 1) (r := [ints e.2.1]) rAtom_len hn0 (by omega) (by rw [specX_at0 e heb.symm hn0]; rfl), ?_⟩
   conv => whnf
   refine ⟨by omega, rows_len ciL_len _, ?_⟩
   conv => whnf
   refine ⟨_, takeN_rp (k := i) ciL_len hi, ?_⟩
   conv => whnf
   rw [hwn]
   refine ⟨by omega, rows_len rAtom_len _, ?_⟩
   conv => whnf
   refine ⟨_, takeN_rp_field (k := st.2.2.2.length + 1) (d := 1) (m := 1) (r := [ints e.2.2.1]) rAtom_len hn1 (by omega) (by rw [specX_at1 e (by omega) hn1]; rfl), ?_⟩
   conv => whnf
   refine ⟨by omega, rows_len ciL_len _, ?_⟩
   conv => whnf
   refine ⟨_, takeN_rp (k := i) ciL_len hi2, ?_⟩
   conv => whnf
   obtain ⟨r, hs, hr⟩ := l13Equate_all (specX e) _ _ hc ht hu
   refine ⟨r, hs, .inl rfl, .inl ?_⟩
   rw [hr, eqP_specX]
   have hox : ∀ y, eqE e e.2.1[i] e.2.2.1[i] = some y → okE st.2.1.length (16 * 4) y ∧ y.2.2.2.length = e.2.2.2.length := fun y hy => ⟨okE_eqE hoke ht hu hy, eqE_len hy⟩
   generalize eqE e e.2.1[i] e.2.2.1[i] = E at *
   cases E with
   | none =>
    conv => whnf
    have e : pUnf vs q = none := by
     unfold pUnf
     rw [hpend]
     simp only [hpe]
    rw [e]
    exact .inr ⟨1, .inr ⟨2, rfl⟩⟩
   | some y =>
    conv => whnf
    obtain ⟨hy1, hy2⟩ := hox y rfl
    exact ⟨M, by omega, i + 1, IntKind.i64.wrap ((i : Int) + 1), y, ints y.1, vAtomS (specX y).2, wrap_id (by omega) (by omega), by omega, hy1, by omega, hpe, rfl, rfl, by kernel_rfl⟩
  ·conv => whnf
   have hi0 : m1 = 0 := by omega
   subst hi0
   rw [eqs_zero] at hpe
   generalize st.2.2.2.length = nb at *
   subst heb
   have hsl2 : takeN (rows rAtom (specX e).2) 0 (e.2.2.2.length * 2) = some (rows rAtom e.2.2.2) := by
    unfold specX
    rw [rows_append]
    exact takeN_pre (by rw [rows_len rAtom_len])
   refine ⟨⟨by omega, by omega, by omega⟩, rows_len rAtom_len _, rows rAtom e.2.2.2, hsl2, ?_⟩
   conv => whnf
   have hc : cQuery (e.1, e.2.2.2) ≤ 1048576 := by
    show e.1.length + (e.2.2.2.length + sumB cAtom e.2.2.2) ≤ _
    omega
   refine ⟨_, specDedupeAtoms_spec (e.1, e.2.2.2) hc, .inl rfl, .inr ?_⟩
   conv => whnf
   have e' : pUnf vs q = some (pDedupeAtoms (e.1, e.2.2.2)) := by
    unfold pUnf
    rw [hpend]
    simp only [hpe]
   rw [e']
   exact ⟨by rw [rows_len ciL_len], by rw [rows_len tAtom_len], rfl⟩
theorem unf_small {s : List Int} {vs : List QueryT} {q : QueryT} (h : isQuery s q = true) : q.1.length ≤ 3 ∧ q.2.length ≤ 4 := ⟨(isQuery_small h).1, (isQuery_small h).2.1⟩
theorem vs_small {s : List Int} {vs : List QueryT} (h : pAreViews s vs = true) : cSchema (pViewSchema vs) ≤ 1048576 := by
 simp only [pAreViews, Bool.and_eq_true] at h
 have h1 : 1 ≤ (vs.length : Int) ∧ (vs.length : Int) ≤ 4 := by simpa [inR] using h.2.2
 show (pViewSchema vs).length ≤ _
 simp only [pViewSchema, List.length_map]
 omega
set_option maxHeartbeats 1000000 in
theorem specUnfoldQuery_spec (s : List Int) (vs : List QueryT) (q : QueryT) (hs : cSchema s ≤ 1048576) (hvs : cQueryS vs ≤ 1048576) (hq : cQuery q ≤ 1048576) : Spec Tryz.prog 44 [vSchema s, vQueryS vs, vQuery q] (wEq (pUnfO s vs q)) := by
 refine Spec_of mx Γ_ok Tryz.func44 rfl ?_
 conv => whnf
 refine ⟨[0,1,2,3,4,5,7,6,8,9,10], by kernel_rfl, ?_⟩
 conv => whnf
 refine ⟨_, specAreViews_spec s vs hs hvs, .inl rfl, .inl ?_⟩
 conv => whnf
 unfold pUnfO
 generalize hA : pAreViews s vs = bA
 cases bA with
 | false =>
  conv => whnf
  exact .inr ⟨1, .inr ⟨2, rfl⟩⟩
 | true =>
 conv => whnf
 refine ⟨_, specViewSchema_spec vs hvs, .inl rfl, .inl ?_⟩
 rw [wSchema_ro]
 conv => whnf
 refine ⟨_, specIsQuery_spec (pViewSchema vs) q (vs_small hA) hq, .inl rfl, .inl ?_⟩
 conv => whnf
 generalize hB : isQuery (pViewSchema vs) q = bB
 cases bB with
 | false =>
  conv => whnf
  exact .inr ⟨1, .inr ⟨2, rfl⟩⟩
 | true =>
 conv => whnf
 obtain ⟨f1, f2⟩ := unf_small (vs := vs) hB
 have hsp := l15Unfold_spec vs q (views_ok hA) (body_ok hB) hq f1 f2
 cases hu : pUnf vs q with
 | none =>
  rw [hu] at hsp
  refine ⟨_, hsp, .inl rfl, .inr ?_⟩
  conv => whnf
  exact ⟨by rw [rows_len ciL_len], by rw [rows_len tAtom_len], rfl⟩
 | some y =>
  rw [hu] at hsp
  refine ⟨_, hsp, .inl rfl, .inr ?_⟩
  conv => whnf
  exact ⟨by rw [rows_len ciL_len], by rw [rows_len tAtom_len], rfl⟩
end Go.Proofs.YtboolngaahifdaaGreatD
namespace Go.Proofs.YtboolngaahifdaaGreatD
open Go Go.Proofs
def frV (st : Nat × List Int × List Int) (x : Int) : Nat × List Int × List Int := (nx st.2.1 st.1, st.2.1 ++ [(nx st.2.1 st.1 : Int)], st.2.2.set x.toNat (nx st.2.1 st.1 : Int))
def zeros : List Int := List.replicate 20 0
def frI (u xs : List Int) : Nat × List Int × List Int := xs.foldl frV (0, u, zeros)
def flg (u : List Int) : List Bool := (List.range 20).map fun v => has u (Int.ofNat v)
end Go.Proofs.YtboolngaahifdaaGreatD
