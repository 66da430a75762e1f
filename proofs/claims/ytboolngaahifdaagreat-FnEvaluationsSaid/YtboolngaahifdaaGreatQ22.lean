/- Contracts and plain laws of this seat; no condition. -/
import Derived.Test.YtboolngaahifdaaGreatQ21
import Derived.Test.YtboolngaahifdaaGreatQ17
set_option linter.unusedVariables false
set_option linter.unusedSimpArgs false
set_option maxRecDepth 100000
namespace Go.Proofs.YtboolngaahifdaaGreatD
open Go Go.Proofs
def VisOutB (outs new : List (List Int)) (g2 : List (Option Obj)) : Prop :=
 (new = [] ∧ g2 = [some ⟨true, [.own 1 1 0 outs.length outs.length none]⟩, some ⟨false, rows tL outs⟩]) ∨
 (g2 = [some ⟨true, [.own 2 1 0 (outs ++ new).length (outs ++ new).length none]⟩, none, some ⟨false, rows tL (outs ++ new)⟩])
set_option maxHeartbeats 4000000 in
theorem visitB_spec (body db : List FactC) (hb : cAtomS body ≤ 1048576) (hd : cFactS db ≤ 1048576) (ht : ∀ a ∈ body, a.2.all isTerm = true) : ∀ (n i : Nat), i + n = body.length → ∀ (b : Bnd) (outs : List (List Int)), outs.length + db.length ^ n ≤ 1099511627776 →
  SpecG Tryz.prog 67 [vAtomS body, vFactS db, .agg (bC b), ci i, .fn 68 [.ptr 0 0]] [some ⟨true, [.own 1 1 0 outs.length outs.length none]⟩, some ⟨false, rows tL outs⟩] fun r g2 =>
   r = .tup [] ∧ VisOutB outs ((visitL db (body.drop i) b).map sV) g2 := by
 unfold cAtomS at hb
 unfold cFactS at hd
 intro n
 induction n with
 | zero =>
  intro i hin b outs ho
  refine SpecG_of mx Γ_ok 2 Tryz.func67 rfl rfl (by decide) ?_
  conv => whnf
  generalize hc : ((i : Int) == (body.length : Int)) = c
  have hct : c = true := by rw [← hc]; simp; omega
  subst hct
  conv => whnf
  refine .inr (.inr (.inr ⟨[0, 1], [], ?_⟩))
  conv => whnf
  refine ⟨_, bindC_spec b outs (by simp at ho; omega), fun r g2 hP => ?_⟩
  obtain ⟨rfl, rfl⟩ := hP
  refine .inl ?_
  conv => whnf
  refine ⟨[], ?_⟩
  conv => whnf
  refine ⟨rfl, .inr ?_⟩
  rw [List.drop_eq_nil_of_le (by omega)]
  simp only [visitL, List.map_cons, List.map_nil, List.length_append, List.length_singleton]
 | succ n ih =>
  intro i hin b outs ho
  refine SpecG_of mx Γ_ok 2 Tryz.func67 rfl rfl (by decide) ?_
  conv => whnf
  generalize hc : ((i : Int) == (body.length : Int)) = c
  have hct : c = false := by rw [← hc]; simp; omega
  subst hct
  conv => whnf
  have hil : i < body.length := by omega
  refine ⟨[(0,0),(1,0),(3,0),(4,0),(7,0),(21,0),(22,0),(23,0)], fun m s => ∃ (k : Nat) (e : Int) (new : List (List Int)), e = k ∧ m + k = db.length ∧ new.length ≤ k * db.length ^ n ∧
   ((visitL db (body.drop i) b).map sV) = new ++ (((db.drop k).flatMap fun f => if (mch b body[i] f).2 then visitL db (body.drop (i + 1)) (mch b body[i] f).1 else []).map sV) ∧
   ((new = [] ∧ s = ⟨46, [(0, vAtomS body), (1, vFactS db), (3, ci i), (4, .fn 68 [.ptr 0 0]), (7, .ptr 2 0), (21, vFactS db), (22, ci db.length), (23, ci e)], [some ⟨true, [.own 1 1 0 outs.length outs.length none]⟩, some ⟨false, rows tL outs⟩, some ⟨true, bC b⟩]⟩) ∨
    (s = ⟨46, [(0, vAtomS body), (1, vFactS db), (3, ci i), (4, .fn 68 [.ptr 0 0]), (7, .ptr 2 0), (21, vFactS db), (22, ci db.length), (23, ci e)], [some ⟨true, [.own 3 1 0 (outs ++ new).length (outs ++ new).length none]⟩, none, some ⟨true, bC b⟩, some ⟨false, rows tL (outs ++ new)⟩]⟩)), db.length, ⟨0, 0, [], rfl, rfl, by simp, ?_, .inl ⟨rfl, rfl⟩⟩, ?_⟩
  ·rw [List.drop_eq_getElem_cons hil, visitL]
   rfl
  rintro m s ⟨k, _, new, rfl, hm, hnl, hj, hs⟩
  rcases hs with ⟨rfl, rfl⟩ | rfl
  ·conv => whnf
   split <;> rename_i h1
   all_goals simp only [decide_eq_true_eq, decide_eq_false_iff_not] at h1
   ·conv => whnf
    have hk : k < db.length := by omega
    have hb1 := sumB_one (f := cAtom) hil
    have hcb1 : cAtom body[i] = body[i].2.length := rfl
    have hb2 := sumB_one (f := cFact) hk
    have hcb2 : cFact db[k] = db[k].2.length := rfl
    have hta := ht _ (List.getElem_mem hil)
    have hwi : IntKind.i64.wrap ((i : Int) + 1) = ((i + 1 : Nat) : Int) := by rw [wrap_id (by omega) (by omega)]; omega
    have hpw : db.length ^ (n + 1) = db.length ^ n * db.length := Nat.pow_succ ..
    have hkm : db.length ^ n * (k + 1) ≤ db.length ^ n * db.length := Nat.mul_le_mul_left _ hk
    have hk1 : db.length ^ n * (k + 1) = k * db.length ^ n + db.length ^ n := by rw [Nat.mul_add, Nat.mul_one, Nat.mul_comm]
    have hk2 : (k + 1) * db.length ^ n = k * db.length ^ n + db.length ^ n := by rw [Nat.add_mul, Nat.one_mul]
    rw [List.drop_eq_getElem_cons hk, List.flatMap_cons, List.map_append, ← List.append_assoc] at hj
    refine ⟨by omega, rows_len rFact_len _, ?_⟩
    conv => whnf
    refine ⟨_, takeN_rp (k := k) rFact_len hk, ?_⟩
    conv => whnf
    refine ⟨[0, 1, 2, 3, 4, 5, 6, 7, 8, 9, 12, 1000, 10, 1000, 11], by kernel_rfl, ?_⟩
    conv => whnf
    refine ⟨by omega, rows_len rAtom_len _, ?_⟩
    conv => whnf
    refine ⟨_, takeN_rp (k := i) rAtom_len hil, ?_⟩
    conv => whnf
    refine ⟨_, match_spec b body[i] db[k] (by omega) (by omega) hta, .inl rfl, .inl ?_⟩
    conv => whnf
    generalize hmc : mch b body[i] db[k] = mb at hj
    obtain ⟨b2, ok⟩ := mb
    cases ok with
    | false =>
     conv => whnf
     simp only [Bool.false_eq_true, if_false, List.map_nil, List.append_nil] at hj
     exact ⟨m - 1, by omega, k + 1, _, [], wrap_id (by omega) (by omega), by omega, by simp, hj, .inl ⟨rfl, by kernel_rfl⟩⟩
    | true =>
     conv => whnf
     simp only [if_true] at hj
     rw [hwi]
     refine .inr (.inr ⟨[0, 1], [], ?_⟩)
     conv => whnf
     refine ⟨_, ih (i + 1) (by omega) b2 outs (by omega), fun r g2 hP => ?_⟩
     obtain ⟨rfl, hv⟩ := hP
     have hvl := visitL_len db (body.drop (i + 1)) b2
     rw [List.length_drop, show body.length - (i + 1) = n from by omega] at hvl
     rcases hv with ⟨hn0, rfl⟩ | rfl
     ·refine .inl ?_
      conv => whnf
      rw [hn0, List.append_nil] at hj
      exact ⟨m - 1, by omega, k + 1, _, [], wrap_id (by omega) (by omega), by omega, by simp, hj, .inl ⟨rfl, by kernel_rfl⟩⟩
     ·refine .inl ?_
      conv => whnf
      refine ⟨m - 1, by omega, k + 1, _, [] ++ (visitL db (body.drop (i + 1)) b2).map sV, wrap_id (by omega) (by omega), by omega, ?_, hj, .inr ?_⟩
      ·simp only [List.length_append, List.length_map, List.length_nil] at hnl ⊢
       omega
      ·kernel_rfl
   ·conv => whnf
    rw [drop_end (xs := db) (by omega)] at hj
    simp only [List.flatMap_nil, List.map_nil, List.append_nil] at hj
    refine ⟨[], ?_⟩
    conv => whnf
    exact ⟨rfl, .inl ⟨hj, rfl⟩⟩
  ·conv => whnf
   split <;> rename_i h1
   all_goals simp only [decide_eq_true_eq, decide_eq_false_iff_not] at h1
   ·conv => whnf
    have hk : k < db.length := by omega
    have hb1 := sumB_one (f := cAtom) hil
    have hcb1 : cAtom body[i] = body[i].2.length := rfl
    have hb2 := sumB_one (f := cFact) hk
    have hcb2 : cFact db[k] = db[k].2.length := rfl
    have hta := ht _ (List.getElem_mem hil)
    have hwi : IntKind.i64.wrap ((i : Int) + 1) = ((i + 1 : Nat) : Int) := by rw [wrap_id (by omega) (by omega)]; omega
    have hpw : db.length ^ (n + 1) = db.length ^ n * db.length := Nat.pow_succ ..
    have hkm : db.length ^ n * (k + 1) ≤ db.length ^ n * db.length := Nat.mul_le_mul_left _ hk
    have hk1 : db.length ^ n * (k + 1) = k * db.length ^ n + db.length ^ n := by rw [Nat.mul_add, Nat.mul_one, Nat.mul_comm]
    have hk2 : (k + 1) * db.length ^ n = k * db.length ^ n + db.length ^ n := by rw [Nat.add_mul, Nat.one_mul]
    rw [List.drop_eq_getElem_cons hk, List.flatMap_cons, List.map_append, ← List.append_assoc] at hj
    refine ⟨by omega, rows_len rFact_len _, ?_⟩
    conv => whnf
    refine ⟨_, takeN_rp (k := k) rFact_len hk, ?_⟩
    conv => whnf
    refine ⟨[0, 1, 2, 3, 4, 5, 6, 7, 8, 9, 12, 1000, 10, 1000, 11], by kernel_rfl, ?_⟩
    conv => whnf
    refine ⟨by omega, rows_len rAtom_len _, ?_⟩
    conv => whnf
    refine ⟨_, takeN_rp (k := i) rAtom_len hil, ?_⟩
    conv => whnf
    refine ⟨_, match_spec b body[i] db[k] (by omega) (by omega) hta, .inl rfl, .inl ?_⟩
    conv => whnf
    generalize hmc : mch b body[i] db[k] = mb at hj
    obtain ⟨b2, ok⟩ := mb
    cases ok with
    | false =>
     conv => whnf
     simp only [Bool.false_eq_true, if_false, List.map_nil, List.append_nil] at hj
     exact ⟨m - 1, by omega, k + 1, _, new, wrap_id (by omega) (by omega), by omega, by omega, hj, .inr (by kernel_rfl)⟩
    | true =>
     conv => whnf
     simp only [if_true] at hj
     rw [hwi]
     refine .inr (.inr ⟨[0, 3], [], ?_⟩)
     conv => whnf
     refine ⟨_, ih (i + 1) (by omega) b2 (outs ++ new) (by rw [List.length_append]; omega), fun r g2 hP => ?_⟩
     obtain ⟨rfl, hv⟩ := hP
     have hvl := visitL_len db (body.drop (i + 1)) b2
     rw [List.length_drop, show body.length - (i + 1) = n from by omega] at hvl
     rcases hv with ⟨hn0, rfl⟩ | rfl
     ·refine .inl ?_
      conv => whnf
      rw [hn0, List.append_nil] at hj
      exact ⟨m - 1, by omega, k + 1, _, new, wrap_id (by omega) (by omega), by omega, by omega, hj, .inr (by kernel_rfl)⟩
     ·refine .inl ?_
      conv => whnf
      refine ⟨m - 1, by omega, k + 1, _, new ++ (visitL db (body.drop (i + 1)) b2).map sV, wrap_id (by omega) (by omega), by omega, ?_, hj, .inr ?_⟩
      ·simp only [List.length_append, List.length_map, List.length_nil] at hnl ⊢
       omega
      ·rw [← List.append_assoc]; kernel_rfl
   ·conv => whnf
    rw [drop_end (xs := db) (by omega)] at hj
    simp only [List.flatMap_nil, List.map_nil, List.append_nil] at hj
    refine ⟨[], ?_⟩
    conv => whnf
    rw [hj]
    exact ⟨rfl, .inr rfl⟩
def val (v : Int → Int) (t : Int) : Int := if isVar t then v t else -1 - t
def valA (v : Int → Int) (a : FactC) : FactC := (a.1, a.2.map (val v))
def Sat (v : Int → Int) (db body : List FactC) : Prop := ∀ a ∈ body, valA v a ∈ db
def Under (b : Bnd) (v : Int → Int) : Prop := ∀ (k : Nat) (u : Int), b k = some u → v (k : Int) = u
def fnOf (b : Bnd) (t : Int) : Int := ba b t.toNat
def ExtB (b b2 : Bnd) : Prop := ∀ (k : Nat) (u : Int), b k = some u → b2 k = some u
theorem term_rng {t : Int} (h : isTerm t = true) : -80 ≤ t ∧ t ≤ 19 := by simpa [isTerm, inR] using h
theorem var_iff {t : Int} (h : isTerm t = true) : isVar t = true ↔ 0 ≤ t := by
 have := term_rng h
 simp only [isVar, inR, Bool.and_eq_true, decide_eq_true_eq]
 omega
theorem val_neg {v : Int → Int} {t : Int} (h : t < 0) : val v t = -1 - t := by
 unfold val
 rw [if_neg (by simp [isVar, inR]; omega)]
theorem val_pos {v : Int → Int} {t : Int} (ht : isTerm t = true) (h : ¬ t < 0) : val v t = v t := by
 unfold val
 rw [if_pos ((var_iff ht).2 (by omega))]
theorem bindGo_ext : ∀ (ts vs : List Int) (b b2 : Bnd), bindGo ts vs b = (b2, true) → ExtB b b2
 | [], vs, b, b2, h => by
  have : b = b2 := by cases vs <;> simpa [bindGo] using h
  subst this
  exact fun _ _ h => h
 | t :: ts, [], b, b2, h => by
  have : b = b2 := by simpa [bindGo] using h
  subst this
  exact fun _ _ h => h
 | t :: ts, x :: vs, b, b2, h => by
  simp only [bindGo] at h
  split at h
  ·split at h
   ·exact bindGo_ext ts vs b b2 h
   ·cases h
  ·split at h
   ·rename_i hb
    have ih := bindGo_ext ts vs _ b2 h
    intro k u hk
    refine ih k u ?_
    simp only [bset]
    split
    ·rename_i he; subst he; rw [hb] at hk; cases hk
    ·exact hk
   ·split at h
    ·exact bindGo_ext ts vs b b2 h
    ·cases h
theorem bindGo_sound : ∀ (ts vs : List Int) (b b2 : Bnd), ts.length = vs.length → ts.all isTerm = true → bindGo ts vs b = (b2, true) → ts.map (val (fnOf b2)) = vs ∧ ∀ t ∈ ts, 0 ≤ t → (b2 t.toNat).isSome = true
 | [], vs, b, b2, hl, _, h => by
  have : vs = [] := List.length_eq_zero_iff.1 (by simpa using hl.symm)
  subst this
  exact ⟨rfl, fun t ht => by cases ht⟩
 | t :: ts, [], b, b2, hl, _, h => by simp at hl
 | t :: ts, x :: vs, b, b2, hl, ha, h => by
  have hl' : ts.length = vs.length := by simpa using hl
  simp only [List.all_cons, Bool.and_eq_true] at ha
  simp only [bindGo] at h
  split at h
  ·rename_i hneg
   split at h
   ·rename_i he
    obtain ⟨i1, i2⟩ := bindGo_sound ts vs b b2 hl' ha.2 h
    refine ⟨by rw [List.map_cons, i1, val_neg hneg, he], fun u hu h0 => ?_⟩
    rcases List.mem_cons.1 hu with rfl | hu
    ·omega
    ·exact i2 u hu h0
   ·cases h
  ·rename_i hneg
   have key : ∀ b1 : Bnd, b1 t.toNat = some x → bindGo ts vs b1 = (b2, true) → (t :: ts).map (val (fnOf b2)) = x :: vs ∧ ∀ u ∈ t :: ts, 0 ≤ u → (b2 u.toNat).isSome = true := by
    intro b1 hb1 hb
    obtain ⟨i1, i2⟩ := bindGo_sound ts vs b1 b2 hl' ha.2 hb
    have h2 := bindGo_ext ts vs b1 b2 hb _ _ hb1
    refine ⟨?_, fun u hu h0 => ?_⟩
    ·rw [List.map_cons, i1, val_pos ha.1 hneg]
     unfold fnOf ba
     rw [h2]
     rfl
    ·rcases List.mem_cons.1 hu with rfl | hu
     ·rw [h2]; rfl
     ·exact i2 u hu h0
   split at h
   ·rename_i hb
    exact key _ (by simp [bset]) h
   ·rename_i u hb
    split at h
    ·rename_i he
     subst he
     exact key b hb h
    ·cases h
theorem bindGo_complete {v : Int → Int} : ∀ (ts vs : List Int) (b : Bnd), Under b v → ts.all isTerm = true → ts.map (val v) = vs → (bindGo ts vs b).2 = true ∧ Under (bindGo ts vs b).1 v
 | [], vs, b, hu, _, h => by
  subst h
  exact ⟨rfl, hu⟩
 | t :: ts, vs, b, hu, ha, h => by
  subst h
  simp only [List.all_cons, Bool.and_eq_true] at ha
  simp only [List.map_cons, bindGo]
  split
  ·rename_i hneg
   rw [if_pos (val_neg hneg).symm]
   exact bindGo_complete ts _ b hu ha.2 rfl
  ·rename_i hneg
   have hr := term_rng ha.1
   have ht : ((t.toNat : Nat) : Int) = t := by omega
   rw [val_pos ha.1 hneg]
   cases hb : b t.toNat with
   | none =>
    refine bindGo_complete ts _ _ (fun k u hk => ?_) ha.2 rfl
    simp only [bset] at hk
    split at hk
    ·rename_i he
     subst he
     cases hk
     rw [ht]
    ·exact hu k u hk
   | some u =>
    have := hu _ _ hb
    rw [ht] at this
    simp only
    rw [if_pos this.symm]
    exact bindGo_complete ts _ b hu ha.2 rfl
theorem val_ext {b b2 : Bnd} (h : ExtB b b2) {t : Int} (hb : 0 ≤ t → (b t.toNat).isSome = true) : val (fnOf b2) t = val (fnOf b) t := by
 unfold val
 cases hv : isVar t with
 | false => rfl
 | true =>
  have h0 : 0 ≤ t := by
   simp only [isVar, inR, Bool.and_eq_true, decide_eq_true_eq] at hv
   exact hv.1
  obtain ⟨u, hu⟩ := Option.isSome_iff_exists.1 (hb h0)
  simp only [if_true]
  unfold fnOf ba
  rw [hu, h _ _ hu]
theorem visitL_sound (db : List FactC) : ∀ (body : List FactC) (b b2 : Bnd), (∀ a ∈ body, a.2.all isTerm = true) → b2 ∈ visitL db body b → ExtB b b2 ∧ Sat (fnOf b2) db body ∧ ∀ a ∈ body, ∀ t ∈ a.2, 0 ≤ t → (b2 t.toNat).isSome = true
 | [], b, b2, _, h => by
  have : b2 = b := by simpa [visitL] using h
  subst this
  exact ⟨fun _ _ h => h, (fun a ha => by cases ha), (fun a ha => by cases ha)⟩
 | a :: r, b, b2, ht, h => by
  simp only [visitL, List.mem_flatMap] at h
  obtain ⟨f, hf, h⟩ := h
  split at h
  ·rename_i hm
   obtain ⟨i1, i2, i3⟩ := visitL_sound db r _ b2 (fun c hc => ht c (by simp [hc])) h
   unfold mch at hm h i1
   by_cases hc : a.1 = f.1 ∧ a.2.length = f.2.length
   ·rw [if_pos hc] at hm i1
    have hb : bindGo a.2 f.2 b = ((bindGo a.2 f.2 b).1, true) := Prod.ext rfl hm
    have e1 := bindGo_ext _ _ _ _ hb
    obtain ⟨s1, s2⟩ := bindGo_sound _ _ _ _ hc.2 (ht a (by simp)) hb
    refine ⟨fun k u hk => i1 k u (e1 k u hk), fun c hcm => ?_, fun c hcm t hct h0 => ?_⟩
    ·rcases List.mem_cons.1 hcm with rfl | hcm
     ·have : valA (fnOf b2) c = f := by
       refine Prod.ext hc.1 ?_
       show c.2.map (val (fnOf b2)) = f.2
       rw [← s1]
       exact List.map_congr_left fun t ht' => val_ext i1 (s2 t ht')
      rw [this]
      exact hf
     ·exact i2 c hcm
    ·rcases List.mem_cons.1 hcm with rfl | hcm
     ·obtain ⟨u, hu⟩ := Option.isSome_iff_exists.1 (s2 t hct h0)
      rw [i1 _ _ hu]
      rfl
     ·exact i3 c hcm t hct h0
   ·rw [if_neg hc] at hm
    cases hm
  ·cases h
theorem visitL_complete {v : Int → Int} (db : List FactC) : ∀ (body : List FactC) (b : Bnd), (∀ a ∈ body, a.2.all isTerm = true) → Under b v → Sat v db body → ∃ b2 ∈ visitL db body b, Under b2 v
 | [], b, _, hu, _ => ⟨b, by simp [visitL], hu⟩
 | a :: r, b, ht, hu, hs => by
  obtain ⟨c1, c2⟩ := bindGo_complete a.2 (a.2.map (val v)) b hu (ht a (by simp)) rfl
  have hm : mch b a (valA v a) = bindGo a.2 (a.2.map (val v)) b := by
   unfold mch valA
   rw [if_pos ⟨rfl, by simp⟩]
  obtain ⟨b2, h1, h2⟩ := visitL_complete db r (bindGo a.2 (a.2.map (val v)) b).1 (fun c hc => ht c (by simp [hc])) c2 (fun c hc => hs c (by simp [hc]))
  refine ⟨b2, ?_, h2⟩
  simp only [visitL, List.mem_flatMap]
  refine ⟨valA v a, hs a (by simp), ?_⟩
  rw [hm, if_pos c1]
  exact h1
theorem under_val {b : Bnd} {v : Int → Int} (hu : Under b v) {t : Int} (hb : isVar t = true → (b t.toNat).isSome = true) : val (fnOf b) t = val v t := by
 unfold val
 cases hv : isVar t with
 | false => rfl
 | true =>
  obtain ⟨u, h⟩ := Option.isSome_iff_exists.1 (hb hv)
  have h0 : 0 ≤ t := by
   simp only [isVar, inR, Bool.and_eq_true, decide_eq_true_eq] at hv
   exact hv.1
  have := hu _ _ h
  simp only [if_true]
  unfold fnOf ba
  rw [h]
  have ht : ((t.toNat : Nat) : Int) = t := by omega
  rw [ht] at this
  exact this.symm
end Go.Proofs.YtboolngaahifdaaGreatD
