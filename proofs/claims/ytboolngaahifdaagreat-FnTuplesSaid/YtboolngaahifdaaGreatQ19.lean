/- Contracts and plain laws of this seat; no condition. -/
import Derived.Test.YtboolngaahifdaaGreatQ18
import Derived.Test.YtboolngaahifdaaGreatQ15
import Derived.Test.YtboolngaahifdaaGreatQ11
set_option linter.unusedVariables false
set_option linter.unusedSimpArgs false
set_option maxRecDepth 100000
namespace Go.Proofs.YtboolngaahifdaaGreatD
open Go Go.Proofs
def safeH (q : QueryE) (t : Int) : Bool := !(decide (t ≥ 0) && !has (bodyVars q) t)
def overK (q : QueryE) (n : Nat) : Bool := terms3 q.1 && inR q.2.length 1 16 && !decide ((n : Int) > 400) && q.2.all (fun a => terms3 a.2) && q.1.all (safeH q)
def overS (q : QueryE) (db : List FactC) : List (List Int) := if overK q db.length then sortL true ((rawP q db).map fun v => q.1.map (tS v)) else []
theorem l15Known_spec (q : QueryE) (hq : cQuery q ≤ 1048576) : Spec Tryz.prog 88 [vQuery q] (cb (terms3 q.1 && inR q.2.length 1 16)) := by
 unfold cQuery cAtomS at hq
 refine Spec_of mx Γ_ok Tryz.func88 rfl ?_
 conv => whnf
 refine ⟨_, l3Terms_spec q.1 (by omega), .inl rfl, .inl ?_⟩
 generalize terms3 q.1 = b
 cases b with
 | false =>
  conv => whnf
  rfl
 | true =>
  conv => whnf
  refine ⟨_, l1In_spec _ _ _, .inl rfl, .inl ?_⟩
  conv => whnf
  rfl
set_option maxHeartbeats 4000000 in
theorem specAnswerOver_spec (q : QueryE) (db : List FactC) (hq : cQuery q ≤ 1048576) (hd : cFactS db ≤ 1048576) (hn : overK q db.length = true → db.length ^ q.2.length ≤ 549755813888) : Spec Tryz.prog 24 [vQuery q, vFactS db] (wLists (overS q db)) := by
 have hq' := hq
 unfold cQuery cAtomS at hq'
 refine Spec_of mx Γ_ok Tryz.func24 rfl ?_
 conv => whnf
 refine ⟨_, l15Known_spec q hq, .inl rfl, .inl ?_⟩
 unfold overS
 generalize hb1 : (terms3 q.1 && inR q.2.length 1 16) = b1
 cases b1 with
 | false =>
  have hK : overK q db.length = false := by unfold overK; rw [hb1]; rfl
  rw [hK]
  conv => whnf
  exact ⟨rfl, rfl⟩
 | true =>
 conv => whnf
 generalize hb2 : decide ((db.length : Int) > 400) = b2
 cases b2 with
 | true =>
  have hK : overK q db.length = false := by unfold overK; rw [hb1, hb2]; rfl
  rw [hK]
  conv => whnf
  exact ⟨rfl, rfl⟩
 | false =>
 conv => whnf
 refine ⟨[(1,0),(2,0),(4,0),(5,0)], fun m st => ∃ (k : Nat) (e : Int), e = k ∧ m + k = q.2.length ∧ (q.2.all fun a => terms3 a.2) = ((q.2.drop k).all fun a => terms3 a.2) ∧
  st = ⟨63, [(1, vFactS db), (2, .ptr 0 0), (4, cnil), (5, ci e)], [some ⟨true, rQuery q⟩]⟩, q.2.length, ⟨0, 0, rfl, rfl, rfl, by kernel_rfl⟩, ?_⟩
 rintro m st ⟨k, _, rfl, hm, hall, rfl⟩
 conv => whnf
 split <;> rename_i h1
 all_goals simp only [decide_eq_true_eq, decide_eq_false_iff_not] at h1
 ·have hk : k < q.2.length := by omega
  have hb := sumB_one (f := cAtom) hk
  have hcb : cAtom q.2[k] = q.2[k].2.length := rfl
  rw [List.drop_eq_getElem_cons hk, List.all_cons] at hall
  conv => whnf
  refine ⟨by omega, rows_len rAtom_len _, ?_⟩
  conv => whnf
  refine ⟨_, takeN_rp_field (k := k) (d := 1) (m := 1) (r := [ints q.2[k].2]) rAtom_len hk (by omega) rfl, ?_⟩
  conv => whnf
  refine ⟨_, l3Terms_spec q.2[k].2 (by omega), .inl rfl, .inl ?_⟩
  generalize terms3 q.2[k].2 = c at hall
  cases c with
  | false =>
   have hK : overK q db.length = false := by unfold overK; rw [hb1, hb2, hall]; rfl
   rw [hK]
   conv => whnf
   exact ⟨rfl, rfl⟩
  | true =>
   conv => whnf
   exact ⟨m - 1, by omega, k + 1, IntKind.i64.wrap ((k : Int) + 1), wrap_id (by omega) (by omega), by omega, by rw [hall, Bool.true_and], by kernel_rfl⟩
 ·have hall' : (q.2.all fun a => terms3 a.2) = true := by rw [hall, List.drop_eq_nil_of_le (by omega)]; rfl
  clear hall hm h1
  conv => whnf
  refine ⟨[(1,0),(2,0),(4,0),(6,0)], fun m st => ∃ (k : Nat) (e : Int), e = k ∧ m + k = q.1.length ∧ q.1.all (safeH q) = (q.1.drop k).all (safeH q) ∧
   st = ⟨63, [(1, vFactS db), (2, .ptr 0 0), (4, cnil), (6, ci e)], [some ⟨true, rQuery q⟩]⟩, q.1.length, ⟨0, 0, rfl, rfl, rfl, by kernel_rfl⟩, ?_⟩
  rintro m st ⟨k, _, rfl, hm, hall, rfl⟩
  conv => whnf
  split <;> rename_i h1
  all_goals simp only [decide_eq_true_eq, decide_eq_false_iff_not] at h1
  ·have hk : k < q.1.length := by omega
   rw [List.drop_eq_getElem_cons hk, List.all_cons] at hall
   have hsf : safeH q q.1[k] = !(decide (q.1[k] ≥ 0) && !has (bodyVars q) q.1[k]) := rfl
   conv => whnf
   refine ⟨[0, 1, 2, 3, 4, 5, 6, 7, 9, 10, 11, 12, 13, 8, 14, 15, 16], by kernel_rfl, ?_⟩
   conv => whnf
   refine ⟨by omega, rows_len ciL_len _, ?_⟩
   conv => whnf
   refine ⟨_, takeN_rp (k := k) ciL_len hk, ?_⟩
   conv => whnf
   generalize decide (q.1[k] ≥ 0) = d at hsf
   cases d with
   | false =>
    conv => whnf
    exact ⟨m - 1, by omega, k + 1, IntKind.i64.wrap ((k : Int) + 1), wrap_id (by omega) (by omega), by omega, by rw [hall, hsf]; rfl, by kernel_rfl⟩
   | true =>
    conv => whnf
    refine ⟨by omega, rows_len ciL_len _, ?_⟩
    conv => whnf
    refine ⟨_, takeN_rp (k := k) ciL_len hk, ?_⟩
    conv => whnf
    refine ⟨_, bodyVars_spec q hq, .inl rfl, .inl ?_⟩
    rw [intsT_ro]
    conv => whnf
    have hbl := bodyVars_len q (termsL q.2) []
    have htl := termsL_len q.2
    refine ⟨_, l2Has_spec (bodyVars q) q.1[k] (by show ((termsL q.2).foldl bvS []).length ≤ _; simp only [List.length_nil] at hbl; omega), .inl rfl, .inl ?_⟩
    generalize has (bodyVars q) q.1[k] = c at hsf
    cases c with
    | false =>
     have hK : overK q db.length = false := by unfold overK; rw [hb1, hb2, hall', hall, hsf]; rfl
     rw [hK]
     conv => whnf
     exact ⟨rfl, rfl⟩
    | true =>
     conv => whnf
     exact ⟨m - 1, by omega, k + 1, IntKind.i64.wrap ((k : Int) + 1), wrap_id (by omega) (by omega), by omega, by rw [hall, hsf]; rfl, by kernel_rfl⟩
  ·have hK : overK q db.length = true := by unfold overK; rw [hb1, hb2, hall', hall, List.drop_eq_nil_of_le (by omega)]; rfl
   have hpw := hn hK
   have ht1 : q.1.all isTerm = true := by
    unfold overK at hK
    simp only [terms3, Bool.and_eq_true] at hK
    exact hK.1.1.1.1.1
   have ht2 : ∀ a ∈ q.2, a.2.all isTerm = true := fun a ha => by
    have := List.all_eq_true.1 hall' a ha
    simp only [terms3, Bool.and_eq_true] at this
    exact this.1
   obtain ⟨r1, r2⟩ := rawP_ok q db
   rw [hK]
   conv => whnf
   refine ⟨List.range 7, by kernel_rfl, ?_⟩
   conv => whnf
   refine ⟨_, l6Raw_spec q db hq hd ht2 hpw, .inl rfl, .inl ?_⟩
   rw [wLists_ro]
   conv => whnf
   refine ⟨_, l6Heads_spec q (rawP q db) hq (by omega) (fun v hv => by obtain ⟨b, _, rfl⟩ := r1 v hv; rfl) ht1, .inl rfl, .inl ?_⟩
   rw [wLists_ro]
   conv => whnf
   refine ⟨_, l6Sort_spec ((rawP q db).map fun v => q.1.map (tS v)) true (by rw [List.length_map]; omega) (fun v hv => by obtain ⟨x, _, rfl⟩ := List.mem_map.1 hv; rw [List.length_map]; omega), .inl rfl, .inr ?_⟩
   conv => whnf
   exact ⟨by rw [rows_len tL_len], rfl⟩
def val (v : Int → Int) (t : Int) : Int := if isVar t then v t else -1 - t
def valA (v : Int → Int) (a : FactC) : FactC := (a.1, a.2.map (val v))
def Sat (v : Int → Int) (db body : List FactC) : Prop := ∀ a ∈ body, valA v a ∈ db
def Under (b : Bnd) (v : Int → Int) : Prop := ∀ (k : Nat) (u : Int), b k = some u → v (k : Int) = u
def fnOf (b : Bnd) (t : Int) : Int := ba b t.toNat
def ExtB (b b2 : Bnd) : Prop := ∀ (k : Nat) (u : Int), b k = some u → b2 k = some u
theorem term_rng {t : Int} (h : isTerm t = true) : -80 ≤ t ∧ t ≤ 19 := by simpa [isTerm, inR] using h
theorem var_iff {t : Int} (h : isTerm t = true) : isVar t = true ↔ 0 ≤ t := by
 have := term_rng h
 simp only [isVar, inR, Bool.and_eq_true, decide_eq_true_eq]
 omega
theorem val_neg {v : Int → Int} {t : Int} (h : t < 0) : val v t = -1 - t := by
 unfold val
 rw [if_neg (by simp [isVar, inR]; omega)]
theorem val_pos {v : Int → Int} {t : Int} (ht : isTerm t = true) (h : ¬ t < 0) : val v t = v t := by
 unfold val
 rw [if_pos ((var_iff ht).2 (by omega))]
theorem bindGo_ext : ∀ (ts vs : List Int) (b b2 : Bnd), bindGo ts vs b = (b2, true) → ExtB b b2
 | [], vs, b, b2, h => by
  have : b = b2 := by cases vs <;> simpa [bindGo] using h
  subst this
  exact fun _ _ h => h
 | t :: ts, [], b, b2, h => by
  have : b = b2 := by simpa [bindGo] using h
  subst this
  exact fun _ _ h => h
 | t :: ts, x :: vs, b, b2, h => by
  simp only [bindGo] at h
  split at h
  ·split at h
   ·exact bindGo_ext ts vs b b2 h
   ·cases h
  ·split at h
   ·rename_i hb
    have ih := bindGo_ext ts vs _ b2 h
    intro k u hk
    refine ih k u ?_
    simp only [bset]
    split
    ·rename_i he; subst he; rw [hb] at hk; cases hk
    ·exact hk
   ·split at h
    ·exact bindGo_ext ts vs b b2 h
    ·cases h
theorem bindGo_sound : ∀ (ts vs : List Int) (b b2 : Bnd), ts.length = vs.length → ts.all isTerm = true → bindGo ts vs b = (b2, true) → ts.map (val (fnOf b2)) = vs ∧ ∀ t ∈ ts, 0 ≤ t → (b2 t.toNat).isSome = true
 | [], vs, b, b2, hl, _, h => by
  have : vs = [] := List.length_eq_zero_iff.1 (by simpa using hl.symm)
  subst this
  exact ⟨rfl, fun t ht => by cases ht⟩
 | t :: ts, [], b, b2, hl, _, h => by simp at hl
 | t :: ts, x :: vs, b, b2, hl, ha, h => by
  have hl' : ts.length = vs.length := by simpa using hl
  simp only [List.all_cons, Bool.and_eq_true] at ha
  simp only [bindGo] at h
  split at h
  ·rename_i hneg
   split at h
   ·rename_i he
    obtain ⟨i1, i2⟩ := bindGo_sound ts vs b b2 hl' ha.2 h
    refine ⟨by rw [List.map_cons, i1, val_neg hneg, he], fun u hu h0 => ?_⟩
    rcases List.mem_cons.1 hu with rfl | hu
    ·omega
    ·exact i2 u hu h0
   ·cases h
  ·rename_i hneg
   have key : ∀ b1 : Bnd, b1 t.toNat = some x → bindGo ts vs b1 = (b2, true) → (t :: ts).map (val (fnOf b2)) = x :: vs ∧ ∀ u ∈ t :: ts, 0 ≤ u → (b2 u.toNat).isSome = true := by
    intro b1 hb1 hb
    obtain ⟨i1, i2⟩ := bindGo_sound ts vs b1 b2 hl' ha.2 hb
    have h2 := bindGo_ext ts vs b1 b2 hb _ _ hb1
    refine ⟨?_, fun u hu h0 => ?_⟩
    ·rw [List.map_cons, i1, val_pos ha.1 hneg]
     unfold fnOf ba
     rw [h2]
     rfl
    ·rcases List.mem_cons.1 hu with rfl | hu
     ·rw [h2]; rfl
     ·exact i2 u hu h0
   split at h
   ·rename_i hb
    exact key _ (by simp [bset]) h
   ·rename_i u hb
    split at h
    ·rename_i he
     subst he
     exact key b hb h
    ·cases h
theorem bindGo_complete {v : Int → Int} : ∀ (ts vs : List Int) (b : Bnd), Under b v → ts.all isTerm = true → ts.map (val v) = vs → (bindGo ts vs b).2 = true ∧ Under (bindGo ts vs b).1 v
 | [], vs, b, hu, _, h => by
  subst h
  exact ⟨rfl, hu⟩
 | t :: ts, vs, b, hu, ha, h => by
  subst h
  simp only [List.all_cons, Bool.and_eq_true] at ha
  simp only [List.map_cons, bindGo]
  split
  ·rename_i hneg
   rw [if_pos (val_neg hneg).symm]
   exact bindGo_complete ts _ b hu ha.2 rfl
  ·rename_i hneg
   have hr := term_rng ha.1
   have ht : ((t.toNat : Nat) : Int) = t := by omega
   rw [val_pos ha.1 hneg]
   cases hb : b t.toNat with
   | none =>
    refine bindGo_complete ts _ _ (fun k u hk => ?_) ha.2 rfl
    simp only [bset] at hk
    split at hk
    ·rename_i he
     subst he
     cases hk
     rw [ht]
    ·exact hu k u hk
   | some u =>
    have := hu _ _ hb
    rw [ht] at this
    simp only
    rw [if_pos this.symm]
    exact bindGo_complete ts _ b hu ha.2 rfl
theorem val_ext {b b2 : Bnd} (h : ExtB b b2) {t : Int} (hb : 0 ≤ t → (b t.toNat).isSome = true) : val (fnOf b2) t = val (fnOf b) t := by
 unfold val
 cases hv : isVar t with
 | false => rfl
 | true =>
  have h0 : 0 ≤ t := by
   simp only [isVar, inR, Bool.and_eq_true, decide_eq_true_eq] at hv
   exact hv.1
  obtain ⟨u, hu⟩ := Option.isSome_iff_exists.1 (hb h0)
  simp only [if_true]
  unfold fnOf ba
  rw [hu, h _ _ hu]
theorem visitL_sound (db : List FactC) : ∀ (body : List FactC) (b b2 : Bnd), (∀ a ∈ body, a.2.all isTerm = true) → b2 ∈ visitL db body b → ExtB b b2 ∧ Sat (fnOf b2) db body ∧ ∀ a ∈ body, ∀ t ∈ a.2, 0 ≤ t → (b2 t.toNat).isSome = true
 | [], b, b2, _, h => by
  have : b2 = b := by simpa [visitL] using h
  subst this
  exact ⟨fun _ _ h => h, (fun a ha => by cases ha), (fun a ha => by cases ha)⟩
 | a :: r, b, b2, ht, h => by
  simp only [visitL, List.mem_flatMap] at h
  obtain ⟨f, hf, h⟩ := h
  split at h
  ·rename_i hm
   obtain ⟨i1, i2, i3⟩ := visitL_sound db r _ b2 (fun c hc => ht c (by simp [hc])) h
   unfold mch at hm h i1
   by_cases hc : a.1 = f.1 ∧ a.2.length = f.2.length
   ·rw [if_pos hc] at hm i1
    have hb : bindGo a.2 f.2 b = ((bindGo a.2 f.2 b).1, true) := Prod.ext rfl hm
    have e1 := bindGo_ext _ _ _ _ hb
    obtain ⟨s1, s2⟩ := bindGo_sound _ _ _ _ hc.2 (ht a (by simp)) hb
    refine ⟨fun k u hk => i1 k u (e1 k u hk), fun c hcm => ?_, fun c hcm t hct h0 => ?_⟩
    ·rcases List.mem_cons.1 hcm with rfl | hcm
     ·have : valA (fnOf b2) c = f := by
       refine Prod.ext hc.1 ?_
       show c.2.map (val (fnOf b2)) = f.2
       rw [← s1]
       exact List.map_congr_left fun t ht' => val_ext i1 (s2 t ht')
      rw [this]
      exact hf
     ·exact i2 c hcm
    ·rcases List.mem_cons.1 hcm with rfl | hcm
     ·obtain ⟨u, hu⟩ := Option.isSome_iff_exists.1 (s2 t hct h0)
      rw [i1 _ _ hu]
      rfl
     ·exact i3 c hcm t hct h0
   ·rw [if_neg hc] at hm
    cases hm
  ·cases h
theorem visitL_complete {v : Int → Int} (db : List FactC) : ∀ (body : List FactC) (b : Bnd), (∀ a ∈ body, a.2.all isTerm = true) → Under b v → Sat v db body → ∃ b2 ∈ visitL db body b, Under b2 v
 | [], b, _, hu, _ => ⟨b, by simp [visitL], hu⟩
 | a :: r, b, ht, hu, hs => by
  obtain ⟨c1, c2⟩ := bindGo_complete a.2 (a.2.map (val v)) b hu (ht a (by simp)) rfl
  have hm : mch b a (valA v a) = bindGo a.2 (a.2.map (val v)) b := by
   unfold mch valA
   rw [if_pos ⟨rfl, by simp⟩]
  obtain ⟨b2, h1, h2⟩ := visitL_complete db r (bindGo a.2 (a.2.map (val v)) b).1 (fun c hc => ht c (by simp [hc])) c2 (fun c hc => hs c (by simp [hc]))
  refine ⟨b2, ?_, h2⟩
  simp only [visitL, List.mem_flatMap]
  refine ⟨valA v a, hs a (by simp), ?_⟩
  rw [hm, if_pos c1]
  exact h1
theorem under_val {b : Bnd} {v : Int → Int} (hu : Under b v) {t : Int} (hb : isVar t = true → (b t.toNat).isSome = true) : val (fnOf b) t = val v t := by
 unfold val
 cases hv : isVar t with
 | false => rfl
 | true =>
  obtain ⟨u, h⟩ := Option.isSome_iff_exists.1 (hb hv)
  have h0 : 0 ≤ t := by
   simp only [isVar, inR, Bool.and_eq_true, decide_eq_true_eq] at hv
   exact hv.1
  have := hu _ _ h
  simp only [if_true]
  unfold fnOf ba
  rw [h]
  have ht : ((t.toNat : Nat) : Int) = t := by omega
  rw [ht] at this
  exact this.symm
theorem valOf_val (b : Bnd) {t : Int} (ht : isTerm t = true) : valOf b t = val (fnOf b) t := by
 have hr := term_rng ht
 unfold valOf val fnOf
 cases hv : isVar t with
 | true => rfl
 | false =>
  have h0 : ¬ 0 ≤ t := fun h => by rw [(var_iff ht).2 h] at hv; cases hv
  simp only [Bool.false_eq_true, if_false]
  unfold constOf
  rw [if_pos (by simp [inR]; omega)]
theorem under_none (v : Int → Int) : Under bNone v := fun k u h => by cases h
theorem getD_int {l : List Int} {k : Nat} (hk : k < l.length) : l.getD k 0 = l[k] := by simp [List.getD_eq_getElem?_getD, hk]
theorem set_ciL {m : List Int} {q : Nat} (hq : q < m.length) (u : Int) : setC (rows ciL m) (0 + q * 1) [ci u] = rows ciL (m.set q u) :=
 (congrArg (fun o => setC (rows ciL m) o (ciL u)) (Nat.zero_add _)).trans (setC_rows ciL_len (by omega) hq _)
def fineT (l : List Int) : Prop := ∀ t ∈ l, t < 20
def fineA (fs : List AtomC) : Prop := ∀ a ∈ fs, fineT a.2
theorem ints_ro (xs : List Int) : roV (ints xs) = ints xs := by
 show V.ro _ (roVs (rows ciL xs)) = _
 rw [roVs_ci]
 rfl
theorem isQuery_fine {s : List Int} {q : QueryT} (h : isQuery s q = true) : fineT q.1 ∧ fineA q.2 := by
 simp only [isQuery, fineQ, terms3, Bool.and_eq_true, List.all_eq_true] at h
 obtain ⟨_, ⟨h1, _⟩, _, h2, _⟩ := h
 have ht : ∀ t, isTerm t = true → t < 20 := fun t ht => by
  simp only [isTerm, inR, Bool.and_eq_true, decide_eq_true_eq] at ht
  omega
 refine ⟨fun t hm => ht t (h1 t hm), fun a ha t hm => ht t ?_⟩
 have := h2 a ha
 simp only [isAtom, Bool.and_eq_true, List.all_eq_true] at this
 exact this.2 t hm
def app (h : Int → Int) (t : Int) : Int := if isVar t then h t else t
def appA (h : Int → Int) (a : AtomC) : AtomC := (a.1, a.2.map (app h))
def IsHom (h : Int → Int) (f t : QueryT) : Prop := f.1.map (app h) = t.1 ∧ ∀ a ∈ f.2, appA h a ∈ t.2
theorem app_app (h k : Int → Int) (x : Int) : app k (app h x) = app (fun y => app k (h y)) x := by
 unfold app
 by_cases hv : isVar x = true
 ·simp only [if_pos hv]
 ·simp only [if_neg hv]
theorem app_id (x : Int) : app id x = x := by
 unfold app
 split <;> rfl
abbrev QueryC := List Int × List AtomC
def rep1 (a b x : Int) : Int := if x == a then b else x
def repA (a b : Int) (x : AtomC) : AtomC := (x.1, x.2.map (rep1 a b))
def pReplaceTerm (q : QueryC) (a b : Int) : QueryC := (q.1.map (rep1 a b), q.2.map (repA a b))
theorem sumB_map {α β : Type} {c : β → Nat} {d : α → Nat} {f : α → β} (h : ∀ x, c (f x) = d x) : ∀ xs : List α, sumB c (xs.map f) = sumB d xs
 | [] => rfl
 | x :: xs => by simp only [List.map_cons, sumB, h, sumB_map h xs]
def chg {α : Type} (f : α → α) (xs : List α) (k : Nat) : List α := (xs.take k).map f ++ xs.drop k
theorem chg_len {α : Type} (f : α → α) (xs : List α) (k : Nat) : (chg f xs k).length = xs.length := by
 simp only [chg, List.length_append, List.length_map, List.length_take, List.length_drop]; omega
theorem chg_zero {α : Type} (f : α → α) (xs : List α) : chg f xs 0 = xs := by simp [chg]
theorem chg_all {α : Type} (f : α → α) {xs : List α} {k : Nat} (h : xs.length ≤ k) : chg f xs k = xs.map f := by
 rw [chg, List.take_of_length_le h, List.drop_eq_nil_of_le h, List.append_nil]
theorem chg_at {α : Type} (f : α → α) {xs : List α} {k : Nat} (hk : k < xs.length) (h : k < (chg f xs k).length) : (chg f xs k)[k] = xs[k] := by
 have hl : ((xs.take k).map f).length = k := by rw [List.length_map, List.length_take]; omega
 have : (chg f xs k)[k]? = some xs[k] := by
  rw [chg, List.getElem?_append_right (by omega), hl, Nat.sub_self, List.getElem?_drop, Nat.add_zero, List.getElem?_eq_getElem hk]
 rw [List.getElem?_eq_getElem h] at this
 exact Option.some.inj this
theorem chg_set {α : Type} (f : α → α) {xs : List α} {k : Nat} (hk : k < xs.length) : (chg f xs k).set k (f xs[k]) = chg f xs (k + 1) := by
 have hl : ((xs.take k).map f).length = k := by rw [List.length_map, List.length_take]; omega
 unfold chg
 rw [List.set_append_right _ _ (by omega), hl, Nat.sub_self, List.drop_eq_getElem_cons hk, List.set_cons_zero, List.take_succ_eq_append_getElem hk, List.map_append, List.append_assoc]
 rfl
theorem chg_same {α : Type} (f : α → α) {xs : List α} {k : Nat} (hk : k < xs.length) (h : f xs[k] = xs[k]) : chg f xs (k + 1) = chg f xs k := by
 have hk' : k < (chg f xs k).length := by rw [chg_len]; exact hk
 rw [← chg_set f hk, h, ← chg_at f hk hk', List.set_getElem_self]
theorem l13Swap_spec (xs : List Int) (a b : Int) (h : xs.length ≤ 1099511627776) : Spec Tryz.prog 238 [ints xs, ci a, ci b] (intsT (xs.map (rep1 a b))) := by
 refine Spec_of mx Γ_ok Tryz.func238 rfl ?_
 conv => whnf
 refine ⟨rows_len ciL_len _, solid_ci _, ?_⟩
 conv => whnf
 refine ⟨by omega, rfl, _, app_ci [] xs, ?_⟩
 conv => whnf
 refine ⟨[(1,0),(2,0),(6,0),(7,0),(8,0)], fun m s => ∃ (k : Nat) (e : Int) (n : Nat) (r : List V), e = k ∧ m + k = xs.length ∧ n = xs.length ∧ r = rows ciL (chg (rep1 a b) xs k) ∧
  s = ⟨29, [(1, ci a), (2, ci b), (6, cnil), (7, .own 0 1 0 n n none), (8, ci e)], [some ⟨false, r⟩]⟩, xs.length, ⟨0, 0, 0 + xs.length, _, rfl, rfl, Nat.zero_add _, by rw [chg_zero, List.nil_append], rfl⟩, ?_⟩
 rintro m s ⟨k, _, n, _, rfl, hm, hn, rfl, rfl⟩
 conv => whnf
 split <;> rename_i h1
 all_goals simp only [decide_eq_true_eq, decide_eq_false_iff_not] at h1
 ·conv => whnf
  have hk : k < xs.length := by omega
  have hk' : k < (chg (rep1 a b) xs k).length := by rw [chg_len]; exact hk
  refine ⟨by omega, ?_⟩
  conv => whnf
  refine ⟨_, takeN_own (k := k) (d := 0) (m := 1) (xs := chg (rep1 a b) xs k) ciL_len (Nat.zero_add _) hk' (by omega) rfl, ?_⟩
  rw [chg_at _ hk hk']
  conv => whnf
  generalize hb1 : (xs[k] == a) = b1
  have hf : rep1 a b xs[k] = if b1 then b else xs[k] := by rw [rep1, hb1]
  cases b1 with
  | true =>
   conv => whnf
   refine ⟨by omega, ?_⟩
   conv => whnf
   refine ⟨_, takeN_own (k := k) (d := 0) (m := 1) (xs := chg (rep1 a b) xs k) ciL_len (Nat.zero_add _) hk' (by omega) rfl, _, (congrArg (fun o => setC (rows ciL (chg (rep1 a b) xs k)) o (ciL b)) (Nat.zero_add _)).trans (setC_rows ciL_len (by omega) hk' _), ?_⟩
   conv => whnf
   refine ⟨m - 1, by omega, k + 1, _, n, _, wrap_id (by omega) (by omega), by omega, hn, ?_, rfl⟩
   rw [← chg_set _ hk, hf]
   rfl
  | false =>
   conv => whnf
   refine ⟨m - 1, by omega, k + 1, _, n, _, wrap_id (by omega) (by omega), by omega, hn, ?_, rfl⟩
   rw [chg_same _ hk hf]
 ·conv => whnf
  rw [chg_all _ (by omega)]
  refine ⟨by rw [rows_len ciL_len, List.length_map, hn], ?_⟩
  rw [hn]
  simp only [intsT, List.length_map]
  rfl
set_option maxHeartbeats 4000000 in
theorem specReplaceTerm_spec (x0 : QueryC) (x1 x2 : Int) (h0 : cQuery x0 ≤ 1048576) : Spec Tryz.prog 216 [vQuery x0, ci x1, ci x2] (wQuery (pReplaceTerm x0 x1 x2)) := by
 unfold cQuery cAtomS at h0
 refine Spec_of mx Γ_ok Tryz.func216 rfl ?_
 conv => whnf
 refine ⟨_, l13Swap_spec x0.1 x1 x2 (by omega), .inl rfl, .inr ?_⟩
 conv => whnf
 refine ⟨[(1,0),(2,0),(3,0),(6,0),(7,202),(8,0)], fun m s => ∃ (k : Nat) (e : Int) (n1 n : Nat) (r1 r : List V), e = k ∧ m + k = x0.2.length ∧ n1 = (x0.1.map (rep1 x1 x2)).length ∧ n = k ∧ r1 = rows ciL (x0.1.map (rep1 x1 x2)) ∧ r = rows tAtom ((x0.2.take k).map (repA x1 x2)) ∧
  s = ⟨44, [(1, ci x1), (2, ci x2), (3, .ptr 0 0), (6, .ptr 1 0), (7, .ptr 2 0), (8, ci e)], [some ⟨true, rQuery x0⟩, some ⟨true, [cnil, cnil]⟩, some ⟨true, [.own 3 1 0 n1 n1 none, .own 4 2 0 n n none]⟩, some ⟨false, r1⟩, some ⟨false, r⟩]⟩, x0.2.length, ⟨0, 0, _, 0, _, _, rfl, rfl, rfl, rfl, rfl, rfl, rfl⟩, ?_⟩
 rintro m s ⟨k, _, n1, n, _, _, rfl, hm, hn1, rfl, rfl, rfl, rfl⟩
 conv => whnf
 split <;> rename_i h1
 all_goals simp only [decide_eq_true_eq, decide_eq_false_iff_not] at h1
 ·conv => whnf
  have hk : n < x0.2.length := by omega
  have hb := sumB_one (f := cAtom) hk
  have hcb : cAtom x0.2[n] = x0.2[n].2.length := rfl
  refine ⟨List.range 22, by kernel_rfl, ?_⟩
  conv => whnf
  refine ⟨by omega, rows_len rAtom_len _, ?_⟩
  conv => whnf
  refine ⟨_, takeN_rp_field (k := n) (d := 0) (m := 1) (r := [ci x0.2[n].1]) rAtom_len hk (by omega) rfl, ?_⟩
  conv => whnf
  refine ⟨by omega, rows_len rAtom_len _, ?_⟩
  conv => whnf
  refine ⟨_, takeN_rp_field (k := n) (d := 1) (m := 1) (r := [ints x0.2[n].2]) rAtom_len hk (by omega) rfl, ?_⟩
  conv => whnf
  refine ⟨_, l13Swap_spec x0.2[n].2 x1 x2 (by omega), .inl rfl, .inr ?_⟩
  conv => whnf
  refine ⟨by rw [rows_len ciL_len], ?_⟩
  conv => whnf
  refine ⟨_, rfl, .inr ⟨solid_tAtom (repA x1 x2 x0.2[n]), ?_⟩⟩
  conv => whnf
  refine ⟨by omega, by rw [rows_len tAtom_len, List.length_map, List.length_take, Nat.min_eq_left (by omega)], _, snoc_rows tAtom _ (repA x1 x2 x0.2[n]), ?_⟩
  conv => whnf
  refine ⟨m - 1, by omega, n + 1, _, n1, _, _, _, wrap_id (by omega) (by omega), by omega, hn1, rfl, rfl, ?_, rfl⟩
  rw [List.take_succ_eq_append_getElem hk, List.map_append]
  rfl
 ·conv => whnf
  have hkk : n = x0.2.length := by omega
  rw [hkk, List.take_length]
  subst hn1
  refine ⟨by rw [rows_len ciL_len], by rw [rows_len tAtom_len, List.length_map], ?_⟩
  have e : wQuery (pReplaceTerm x0 x1 x2) = .agg [.tr 1 (x0.1.map (rep1 x1 x2)).length (rows ciL (x0.1.map (rep1 x1 x2))), .tr 2 x0.2.length (rows tAtom (x0.2.map (repA x1 x2)))] := by
   simp only [wQuery, tQuery, pReplaceTerm, wAtomS, intsT, List.length_map]
  rw [e]
  rfl
end Go.Proofs.YtboolngaahifdaaGreatD
