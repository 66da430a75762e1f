/- Contracts and plain laws of this seat; no condition. -/
import Derived.Test.YtboolngaahifdaaGreatQ20
import Derived.Test.YtboolngaahifdaaGreatQ22
import Derived.Test.YtboolngaahifdaaGreatQ11
import Derived.Test.YtboolngaahifdaaGreatQ14
import Derived.Test.YtboolngaahifdaaGreatQ10
set_option linter.unusedVariables false
set_option linter.unusedSimpArgs false
set_option maxRecDepth 100000
namespace Go.Proofs.YtboolngaahifdaaGreatD
open Go Go.Proofs
def safeH (q : QueryE) (t : Int) : Bool := !(decide (t ≥ 0) && !has (bodyVars q) t)
def overK (q : QueryE) (n : Nat) : Bool := terms3 q.1 && inR q.2.length 1 16 && !decide ((n : Int) > 400) && q.2.all (fun a => terms3 a.2) && q.1.all (safeH q)
def overS (q : QueryE) (db : List FactC) : List (List Int) := if overK q db.length then sortL true ((rawP q db).map fun v => q.1.map (tS v)) else []
theorem l15Known_spec (q : QueryE) (hq : cQuery q ≤ 1048576) : Spec Tryz.prog 88 [vQuery q] (cb (terms3 q.1 && inR q.2.length 1 16)) := by
 unfold cQuery cAtomS at hq
 refine Spec_of mx Γ_ok Tryz.func88 rfl ?_
 conv => whnf
 refine ⟨_, l3Terms_spec q.1 (by omega), .inl rfl, .inl ?_⟩
 generalize terms3 q.1 = b
 cases b with
 | false =>
  conv => whnf
  rfl
 | true =>
  conv => whnf
  refine ⟨_, l1In_spec _ _ _, .inl rfl, .inl ?_⟩
  conv => whnf
  rfl
set_option maxHeartbeats 4000000 in
theorem specAnswerOver_spec (q : QueryE) (db : List FactC) (hq : cQuery q ≤ 1048576) (hd : cFactS db ≤ 1048576) (hn : overK q db.length = true → db.length ^ q.2.length ≤ 549755813888) : Spec Tryz.prog 24 [vQuery q, vFactS db] (wLists (overS q db)) := by
 have hq' := hq
 unfold cQuery cAtomS at hq'
 refine Spec_of mx Γ_ok Tryz.func24 rfl ?_
 conv => whnf
 refine ⟨_, l15Known_spec q hq, .inl rfl, .inl ?_⟩
 unfold overS
 generalize hb1 : (terms3 q.1 && inR q.2.length 1 16) = b1
 cases b1 with
 | false =>
  have hK : overK q db.length = false := by unfold overK; rw [hb1]; rfl
  rw [hK]
  conv => whnf
  exact ⟨rfl, rfl⟩
 | true =>
 conv => whnf
 generalize hb2 : decide ((db.length : Int) > 400) = b2
 cases b2 with
 | true =>
  have hK : overK q db.length = false := by unfold overK; rw [hb1, hb2]; rfl
  rw [hK]
  conv => whnf
  exact ⟨rfl, rfl⟩
 | false =>
 conv => whnf
 refine ⟨[(1,0),(2,0),(4,0),(5,0)], fun m st => ∃ (k : Nat) (e : Int), e = k ∧ m + k = q.2.length ∧ (q.2.all fun a => terms3 a.2) = ((q.2.drop k).all fun a => terms3 a.2) ∧
  st = ⟨63, [(1, vFactS db), (2, .ptr 0 0), (4, cnil), (5, ci e)], [some ⟨true, rQuery q⟩]⟩, q.2.length, ⟨0, 0, rfl, rfl, rfl, by kernel_rfl⟩, ?_⟩
 rintro m st ⟨k, _, rfl, hm, hall, rfl⟩
 conv => whnf
 split <;> rename_i h1
 all_goals simp only [decide_eq_true_eq, decide_eq_false_iff_not] at h1
 ·have hk : k < q.2.length := by omega
  have hb := sumB_one (f := cAtom) hk
  have hcb : cAtom q.2[k] = q.2[k].2.length := rfl
  rw [List.drop_eq_getElem_cons hk, List.all_cons] at hall
  conv => whnf
  refine ⟨by omega, rows_len rAtom_len _, ?_⟩
  conv => whnf
  refine ⟨_, takeN_rp_field (k := k) (d := 1) (m := 1) (r := [ints q.2[k].2]) rAtom_len hk (by omega) rfl, ?_⟩
  conv => whnf
  refine ⟨_, l3Terms_spec q.2[k].2 (by omega), .inl rfl, .inl ?_⟩
  generalize terms3 q.2[k].2 = c at hall
  cases c with
  | false =>
   have hK : overK q db.length = false := by unfold overK; rw [hb1, hb2, hall]; rfl
   rw [hK]
   conv => whnf
   exact ⟨rfl, rfl⟩
  | true =>
   conv => whnf
   exact ⟨m - 1, by omega, k + 1, IntKind.i64.wrap ((k : Int) + 1), wrap_id (by omega) (by omega), by omega, by rw [hall, Bool.true_and], by kernel_rfl⟩
 ·have hall' : (q.2.all fun a => terms3 a.2) = true := by rw [hall, List.drop_eq_nil_of_le (by omega)]; rfl
  clear hall hm h1
  conv => whnf
  refine ⟨[(1,0),(2,0),(4,0),(6,0)], fun m st => ∃ (k : Nat) (e : Int), e = k ∧ m + k = q.1.length ∧ q.1.all (safeH q) = (q.1.drop k).all (safeH q) ∧
   st = ⟨63, [(1, vFactS db), (2, .ptr 0 0), (4, cnil), (6, ci e)], [some ⟨true, rQuery q⟩]⟩, q.1.length, ⟨0, 0, rfl, rfl, rfl, by kernel_rfl⟩, ?_⟩
  rintro m st ⟨k, _, rfl, hm, hall, rfl⟩
  conv => whnf
  split <;> rename_i h1
  all_goals simp only [decide_eq_true_eq, decide_eq_false_iff_not] at h1
  ·have hk : k < q.1.length := by omega
   rw [List.drop_eq_getElem_cons hk, List.all_cons] at hall
   have hsf : safeH q q.1[k] = !(decide (q.1[k] ≥ 0) && !has (bodyVars q) q.1[k]) := rfl
   conv => whnf
   refine ⟨[0, 1, 2, 3, 4, 5, 6, 7, 9, 10, 11, 12, 13, 8, 14, 15, 16], by kernel_rfl, ?_⟩
   conv => whnf
   refine ⟨by omega, rows_len ciL_len _, ?_⟩
   conv => whnf
   refine ⟨_, takeN_rp (k := k) ciL_len hk, ?_⟩
   conv => whnf
   generalize decide (q.1[k] ≥ 0) = d at hsf
   cases d with
   | false =>
    conv => whnf
    exact ⟨m - 1, by omega, k + 1, IntKind.i64.wrap ((k : Int) + 1), wrap_id (by omega) (by omega), by omega, by rw [hall, hsf]; rfl, by kernel_rfl⟩
   | true =>
    conv => whnf
    refine ⟨by omega, rows_len ciL_len _, ?_⟩
    conv => whnf
    refine ⟨_, takeN_rp (k := k) ciL_len hk, ?_⟩
    conv => whnf
    refine ⟨_, bodyVars_spec q hq, .inl rfl, .inl ?_⟩
    rw [intsT_ro]
    conv => whnf
    have hbl := bodyVars_len q (termsL q.2) []
    have htl := termsL_len q.2
    refine ⟨_, l2Has_spec (bodyVars q) q.1[k] (by show ((termsL q.2).foldl bvS []).length ≤ _; simp only [List.length_nil] at hbl; omega), .inl rfl, .inl ?_⟩
    generalize has (bodyVars q) q.1[k] = c at hsf
    cases c with
    | false =>
     have hK : overK q db.length = false := by unfold overK; rw [hb1, hb2, hall', hall, hsf]; rfl
     rw [hK]
     conv => whnf
     exact ⟨rfl, rfl⟩
    | true =>
     conv => whnf
     exact ⟨m - 1, by omega, k + 1, IntKind.i64.wrap ((k : Int) + 1), wrap_id (by omega) (by omega), by omega, by rw [hall, hsf]; rfl, by kernel_rfl⟩
  ·have hK : overK q db.length = true := by unfold overK; rw [hb1, hb2, hall', hall, List.drop_eq_nil_of_le (by omega)]; rfl
   have hpw := hn hK
   have ht1 : q.1.all isTerm = true := by
    unfold overK at hK
    simp only [terms3, Bool.and_eq_true] at hK
    exact hK.1.1.1.1.1
   have ht2 : ∀ a ∈ q.2, a.2.all isTerm = true := fun a ha => by
    have := List.all_eq_true.1 hall' a ha
    simp only [terms3, Bool.and_eq_true] at this
    exact this.1
   obtain ⟨r1, r2⟩ := rawP_ok q db
   rw [hK]
   conv => whnf
   refine ⟨List.range 7, by kernel_rfl, ?_⟩
   conv => whnf
   refine ⟨_, l6Raw_spec q db hq hd ht2 hpw, .inl rfl, .inl ?_⟩
   rw [wLists_ro]
   conv => whnf
   refine ⟨_, l6Heads_spec q (rawP q db) hq (by omega) (fun v hv => by obtain ⟨b, _, rfl⟩ := r1 v hv; rfl) ht1, .inl rfl, .inl ?_⟩
   rw [wLists_ro]
   conv => whnf
   refine ⟨_, l6Sort_spec ((rawP q db).map fun v => q.1.map (tS v)) true (by rw [List.length_map]; omega) (fun v hv => by obtain ⟨x, _, rfl⟩ := List.mem_map.1 hv; rw [List.length_map]; omega), .inl rfl, .inr ?_⟩
   conv => whnf
   exact ⟨by rw [rows_len tL_len], rfl⟩
theorem over_size (q : QueryE) (db : List FactC) (hn : overK q db.length = true → db.length ^ q.2.length ≤ 549755813888) : (overS q db).length ≤ 549755813888 ∧ ∀ x ∈ overS q db, x.length = q.1.length := by
 unfold overS
 split
 ·rename_i h
  have h1 := sortL_len true ((rawP q db).map fun v => q.1.map (tS v))
  rw [List.length_map] at h1
  have h2 := (rawP_ok q db).2
  have hp := hn h
  refine ⟨by omega, fun x hx => ?_⟩
  obtain ⟨v, _, rfl⟩ := List.mem_map.1 (mem_sortL hx)
  rw [List.length_map]
 ·exact ⟨by simp, fun x hx => by cases hx⟩
theorem valOf_val (b : Bnd) {t : Int} (ht : isTerm t = true) : valOf b t = val (fnOf b) t := by
 have hr := term_rng ht
 unfold valOf val fnOf
 cases hv : isVar t with
 | true => rfl
 | false =>
  have h0 : ¬ 0 ≤ t := fun h => by rw [(var_iff ht).2 h] at hv; cases hv
  simp only [Bool.false_eq_true, if_false]
  unfold constOf
  rw [if_pos (by simp [inR]; omega)]
theorem head_bound {s : List Int} {q : QueryE} {db : List FactC} (h : isQuery s q = true) {b : Bnd} (hb : b ∈ visitL db q.2 bNone) : ∀ t ∈ q.1, isVar t = true → (b t.toNat).isSome = true := by
 intro t ht hv
 obtain ⟨t1, t2, t3⟩ := isQuery_terms h
 simp only [isQuery, fineQ, Bool.and_eq_true] at h
 have hs := List.all_eq_true.1 h.2.2.2.2 t ht
 have hoc : occurs q t = true := by simpa [safeV, hv] using hs
 obtain ⟨a, ha, hx⟩ := List.any_eq_true.1 hoc
 obtain ⟨u, hu, he⟩ := List.any_eq_true.1 hx
 have hut : u = t := by
  have := he
  simp [eqV] at this
  first | exact this.symm | exact this
 subst hut
 exact (visitL_ok db q.2 bNone b hb).2 a ha u hu ((var_iff (List.all_eq_true.1 t1 u ht)).1 hv)
theorem under_none (v : Int → Int) : Under bNone v := fun k u h => by cases h
theorem ans_iff {s : List Int} {q : QueryE} {db : List FactC} (hq : isQuery s q = true) (hd : isDb s db = true) (x : List Int) : x ∈ answersS s q db ↔ ∃ v : Int → Int, Sat v db q.2 ∧ x = q.1.map (val v) := by
 obtain ⟨t1, t2, t3⟩ := isQuery_terms hq
 unfold answersS
 rw [hq, hd, Bool.and_self, if_pos rfl, (sortL_ok _).2 x]
 simp only [List.mem_map]
 constructor
 ·rintro ⟨w, hw, rfl⟩
  obtain ⟨b, hb, rfl⟩ := (rawP_ok q db).1 w hw
  refine ⟨fnOf b, (visitL_sound db q.2 bNone b t2 hb).2.1, ?_⟩
  rw [safe_bound hq hb]
  exact List.map_congr_left fun t ht => valOf_val b (List.all_eq_true.1 t1 t ht)
 ·rintro ⟨v, hv, rfl⟩
  obtain ⟨b, hb, hu⟩ := visitL_complete db q.2 bNone t2 (under_none v) hv
  refine ⟨sV b, (sortL_ok _).2 _ |>.2 (List.mem_map.2 ⟨b, hb, rfl⟩), ?_⟩
  rw [safe_bound hq hb]
  refine List.map_congr_left fun t ht => ?_
  rw [valOf_val b (List.all_eq_true.1 t1 t ht)]
  exact under_val hu (head_bound hq hb t ht)
def app (h : Int → Int) (t : Int) : Int := if isVar t then h t else t
def appA (h : Int → Int) (a : AtomC) : AtomC := (a.1, a.2.map (app h))
def IsHom (h : Int → Int) (f t : QueryT) : Prop := f.1.map (app h) = t.1 ∧ ∀ a ∈ f.2, appA h a ∈ t.2
theorem occurs_mem {q : QueryT} {v : Int} : occurs q v = true ↔ ∃ a ∈ q.2, v ∈ a.2 := by
 simp only [occurs, List.any_eq_true, hasA, has]
 constructor
 ·rintro ⟨a, ha, w, hw, he⟩
  have : w = v := by simpa [eqV] using he
  exact ⟨a, ha, this ▸ hw⟩
 ·rintro ⟨a, ha, hv⟩
  exact ⟨a, ha, v, hv, by simp [eqV]⟩
def okT (q : QueryT) : Prop := q.1.all isTerm = true ∧ ∀ a ∈ q.2, a.2.all isTerm = true
structure IsImg (h : Int → Int) (q y : QueryT) : Prop where
 hom : IsHom h q y
 onto : ∀ a ∈ y.2, ∃ c ∈ q.2, appA h c = a
 trm : ∀ t, isTerm t = true → isTerm (app h t) = true
theorem isQuery_iff (s : List Int) (q : QueryT) : isQuery s q = true ↔ isSchema s = true ∧ (q.1.all isTerm = true ∧ q.1.length ≤ 3) ∧ (1 ≤ q.2.length ∧ q.2.length ≤ 4) ∧ (∀ a ∈ q.2, takesS s a.1 a.2.length = true ∧ a.2.all isTerm = true) ∧ ∀ t ∈ q.1, isVar t = true → occurs q t = true := by
 simp only [isQuery, fineQ, terms3, Bool.and_eq_true, decide_eq_true_eq, List.all_eq_true, isAtom, safeV]
 constructor
 ·rintro ⟨h1, ⟨h2, h3⟩, h4, h5, h6⟩
  have h7 : (1 : Int) ≤ q.2.length ∧ (q.2.length : Int) ≤ 4 := by simpa [inR] using h4
  refine ⟨h1, ⟨h2, h3⟩, ⟨by omega, by omega⟩, h5, fun t ht hv => ?_⟩
  have := h6 t ht
  simpa [hv] using this
 ·rintro ⟨h1, ⟨h2, h3⟩, h4, h5, h6⟩
  refine ⟨h1, ⟨h2, h3⟩, by simp [inR]; omega, h5, fun t ht => ?_⟩
  cases hv : isVar t with
  | false => simp [hv]
  | true => simp [hv, h6 t ht hv]
theorem isQuery_okT {s : List Int} {q : QueryT} (h : isQuery s q = true) : okT q := by
 obtain ⟨_, ⟨q2, _⟩, _, q5, _⟩ := (isQuery_iff s q).1 h
 exact ⟨q2, fun a ha => (q5 a ha).2⟩
def pvar (q : QueryT) (v : Nat) : Bool := occurs q (v : Int) || has q.1 (v : Int)
def varsTo (q : QueryT) (k : Nat) : List Int := ((List.range k).filter (pvar q)).map Int.ofNat
def varsOf (q : QueryT) : List Int := varsTo q 20
end Go.Proofs.YtboolngaahifdaaGreatD
namespace Go.Proofs.YtboolngaahifdaaGreatD
open Go Go.Proofs
def top (u : List Int) : Nat := u.foldr (fun x m => max (x.toNat + 1) m) 0
def nxtF (u : List Int) : Nat → Nat → Nat
 | 0, v => v
 | f + 1, v => if has u (v : Int) then nxtF u f (v + 1) else v
def nx (u : List Int) (v : Nat) : Nat := nxtF u (top u - v) v
def frS (vars : List Int) (st : Nat × List Int × List Int) (i : Nat) : Nat × List Int × List Int :=
 if has vars (i : Int) then (nx st.2.1 st.1, st.2.1 ++ [(nx st.2.1 st.1 : Int)], st.2.2 ++ [(nx st.2.1 st.1 : Int)]) else (st.1, st.2.1, st.2.2 ++ [(i : Int)])
def frK (vars u : List Int) (k : Nat) : Nat × List Int × List Int := (List.range k).foldl (frS vars) (0, u, [])
attribute [local irreducible] frK nx top varsOf varsTo
end Go.Proofs.YtboolngaahifdaaGreatD
namespace Go.Proofs.YtboolngaahifdaaGreatD
open Go Go.Proofs
def viewAt (vs : List QueryT) (a : AtomC) : QueryT := vs.getD a.1.toNat ([], [])
structure FreshOk (q : QueryT) (u : List Int) (r : Nat × List Int × List Int) : Prop where
 len : r.2.2.length = 20
 keep : ∀ x, has u x = true → has r.2.1 x = true
 new : ∀ i : Nat, i < 20 → has (varsOf q) (i : Int) = true → has u (r.2.2.getD i 0) = false ∧ has r.2.1 (r.2.2.getD i 0) = true ∧ 0 ≤ r.2.2.getD i 0 ∧ r.2.2.getD i 0 < 20
 inj : ∀ i j : Nat, i < j → j < 20 → has (varsOf q) (i : Int) = true → has (varsOf q) (j : Int) = true → r.2.2.getD i 0 ≠ r.2.2.getD j 0
structure UnfOk (vs : List QueryT) (q : QueryT) : Prop where
 views : ∀ a : AtomC, okT (viewAt vs a) ∧ ∀ t ∈ (viewAt vs a).1, isVar t = true → occurs (viewAt vs a) t = true
 trm : okT q
 len : ∀ a ∈ q.2, a.2.length = (viewAt vs a).1.length
 safe : ∀ t ∈ q.1, isVar t = true → occurs q t = true
end Go.Proofs.YtboolngaahifdaaGreatD
