/- Contracts and plain laws of this seat; no condition. -/
import Derived.Test.YtboolngaahifdaaGreatQ19
import Derived.Test.YtboolngaahifdaaGreatQ13
import Derived.Test.YtboolngaahifdaaGreatQ9
import Derived.WalkKit
import Derived.WalkSpells
import Derived.Test.YtboolngaahifdaaGreatQ15
set_option linter.unusedVariables false
set_option linter.unusedSimpArgs false
set_option maxRecDepth 100000
namespace Go.Proofs.YtboolngaahifdaaGreatD
open Go Go.Proofs
def val (v : Int → Int) (t : Int) : Int := if isVar t then v t else -1 - t
def valA (v : Int → Int) (a : FactC) : FactC := (a.1, a.2.map (val v))
def Sat (v : Int → Int) (db body : List FactC) : Prop := ∀ a ∈ body, valA v a ∈ db
def fnOf (b : Bnd) (t : Int) : Int := ba b t.toNat
def ExtB (b b2 : Bnd) : Prop := ∀ (k : Nat) (u : Int), b k = some u → b2 k = some u
theorem term_rng {t : Int} (h : isTerm t = true) : -80 ≤ t ∧ t ≤ 19 := by simpa [isTerm, inR] using h
theorem var_iff {t : Int} (h : isTerm t = true) : isVar t = true ↔ 0 ≤ t := by
 have := term_rng h
 simp only [isVar, inR, Bool.and_eq_true, decide_eq_true_eq]
 omega
theorem val_neg {v : Int → Int} {t : Int} (h : t < 0) : val v t = -1 - t := by
 unfold val
 rw [if_neg (by simp [isVar, inR]; omega)]
theorem val_pos {v : Int → Int} {t : Int} (ht : isTerm t = true) (h : ¬ t < 0) : val v t = v t := by
 unfold val
 rw [if_pos ((var_iff ht).2 (by omega))]
theorem bindGo_ext : ∀ (ts vs : List Int) (b b2 : Bnd), bindGo ts vs b = (b2, true) → ExtB b b2
 | [], vs, b, b2, h => by
  have : b = b2 := by cases vs <;> simpa [bindGo] using h
  subst this
  exact fun _ _ h => h
 | t :: ts, [], b, b2, h => by
  have : b = b2 := by simpa [bindGo] using h
  subst this
  exact fun _ _ h => h
 | t :: ts, x :: vs, b, b2, h => by
  simp only [bindGo] at h
  split at h
  ·split at h
   ·exact bindGo_ext ts vs b b2 h
   ·cases h
  ·split at h
   ·rename_i hb
    have ih := bindGo_ext ts vs _ b2 h
    intro k u hk
    refine ih k u ?_
    simp only [bset]
    split
    ·rename_i he; subst he; rw [hb] at hk; cases hk
    ·exact hk
   ·split at h
    ·exact bindGo_ext ts vs b b2 h
    ·cases h
theorem bindGo_sound : ∀ (ts vs : List Int) (b b2 : Bnd), ts.length = vs.length → ts.all isTerm = true → bindGo ts vs b = (b2, true) → ts.map (val (fnOf b2)) = vs ∧ ∀ t ∈ ts, 0 ≤ t → (b2 t.toNat).isSome = true
 | [], vs, b, b2, hl, _, h => by
  have : vs = [] := List.length_eq_zero_iff.1 (by simpa using hl.symm)
  subst this
  exact ⟨rfl, fun t ht => by cases ht⟩
 | t :: ts, [], b, b2, hl, _, h => by simp at hl
 | t :: ts, x :: vs, b, b2, hl, ha, h => by
  have hl' : ts.length = vs.length := by simpa using hl
  simp only [List.all_cons, Bool.and_eq_true] at ha
  simp only [bindGo] at h
  split at h
  ·rename_i hneg
   split at h
   ·rename_i he
    obtain ⟨i1, i2⟩ := bindGo_sound ts vs b b2 hl' ha.2 h
    refine ⟨by rw [List.map_cons, i1, val_neg hneg, he], fun u hu h0 => ?_⟩
    rcases List.mem_cons.1 hu with rfl | hu
    ·omega
    ·exact i2 u hu h0
   ·cases h
  ·rename_i hneg
   have key : ∀ b1 : Bnd, b1 t.toNat = some x → bindGo ts vs b1 = (b2, true) → (t :: ts).map (val (fnOf b2)) = x :: vs ∧ ∀ u ∈ t :: ts, 0 ≤ u → (b2 u.toNat).isSome = true := by
    intro b1 hb1 hb
    obtain ⟨i1, i2⟩ := bindGo_sound ts vs b1 b2 hl' ha.2 hb
    have h2 := bindGo_ext ts vs b1 b2 hb _ _ hb1
    refine ⟨?_, fun u hu h0 => ?_⟩
    ·rw [List.map_cons, i1, val_pos ha.1 hneg]
     unfold fnOf ba
     rw [h2]
     rfl
    ·rcases List.mem_cons.1 hu with rfl | hu
     ·rw [h2]; rfl
     ·exact i2 u hu h0
   split at h
   ·rename_i hb
    exact key _ (by simp [bset]) h
   ·rename_i u hb
    split at h
    ·rename_i he
     subst he
     exact key b hb h
    ·cases h
theorem val_ext {b b2 : Bnd} (h : ExtB b b2) {t : Int} (hb : 0 ≤ t → (b t.toNat).isSome = true) : val (fnOf b2) t = val (fnOf b) t := by
 unfold val
 cases hv : isVar t with
 | false => rfl
 | true =>
  have h0 : 0 ≤ t := by
   simp only [isVar, inR, Bool.and_eq_true, decide_eq_true_eq] at hv
   exact hv.1
  obtain ⟨u, hu⟩ := Option.isSome_iff_exists.1 (hb h0)
  simp only [if_true]
  unfold fnOf ba
  rw [hu, h _ _ hu]
theorem visitL_sound (db : List FactC) : ∀ (body : List FactC) (b b2 : Bnd), (∀ a ∈ body, a.2.all isTerm = true) → b2 ∈ visitL db body b → ExtB b b2 ∧ Sat (fnOf b2) db body ∧ ∀ a ∈ body, ∀ t ∈ a.2, 0 ≤ t → (b2 t.toNat).isSome = true
 | [], b, b2, _, h => by
  have : b2 = b := by simpa [visitL] using h
  subst this
  exact ⟨fun _ _ h => h, (fun a ha => by cases ha), (fun a ha => by cases ha)⟩
 | a :: r, b, b2, ht, h => by
  simp only [visitL, List.mem_flatMap] at h
  obtain ⟨f, hf, h⟩ := h
  split at h
  ·rename_i hm
   obtain ⟨i1, i2, i3⟩ := visitL_sound db r _ b2 (fun c hc => ht c (by simp [hc])) h
   unfold mch at hm h i1
   by_cases hc : a.1 = f.1 ∧ a.2.length = f.2.length
   ·rw [if_pos hc] at hm i1
    have hb : bindGo a.2 f.2 b = ((bindGo a.2 f.2 b).1, true) := Prod.ext rfl hm
    have e1 := bindGo_ext _ _ _ _ hb
    obtain ⟨s1, s2⟩ := bindGo_sound _ _ _ _ hc.2 (ht a (by simp)) hb
    refine ⟨fun k u hk => i1 k u (e1 k u hk), fun c hcm => ?_, fun c hcm t hct h0 => ?_⟩
    ·rcases List.mem_cons.1 hcm with rfl | hcm
     ·have : valA (fnOf b2) c = f := by
       refine Prod.ext hc.1 ?_
       show c.2.map (val (fnOf b2)) = f.2
       rw [← s1]
       exact List.map_congr_left fun t ht' => val_ext i1 (s2 t ht')
      rw [this]
      exact hf
     ·exact i2 c hcm
    ·rcases List.mem_cons.1 hcm with rfl | hcm
     ·obtain ⟨u, hu⟩ := Option.isSome_iff_exists.1 (s2 t hct h0)
      rw [i1 _ _ hu]
      rfl
     ·exact i3 c hcm t hct h0
   ·rw [if_neg hc] at hm
    cases hm
  ·cases h
end Go.Proofs.YtboolngaahifdaaGreatD
namespace Go.Proofs.YtboolngaahifdaaGreatD
open Go Go.Proofs Go.RowKit Go.Shelf Go.Sort Go.Lib
end Go.Proofs.YtboolngaahifdaaGreatD
namespace Go.Proofs.YtboolngaahifdaaGreatD
open Go Go.Proofs Go.Shelf Go.Sort
theorem SpecG.mono' {P : Program} {f : Nat} {vs : List V} {g : List (Option Obj)} {Post Post' : V → List (Option Obj) → Prop} (h : SpecG P f vs g Post) (hp : ∀ r g2, Post r g2 → Post' r g2) : SpecG P f vs g Post' := by
 refine ⟨h.1, fun E0 xs hin hv => (h.2 E0 xs hin hv).mono fun e w' he => ?_⟩
 cases e with
 | panicked chain => exact he.elim
 | outgrown => exact he.elim
 | returned x =>
  obtain ⟨r, g2, E2, h1, h2⟩ := he
  exact ⟨r, g2, E2, hp r g2 h1, h2⟩
theorem rows_map' {α β : Type} (f : β → List V) (g : α → β) (xs : List α) : rows (fun x => f (g x)) xs = rows f (xs.map g) := by
 induction xs with
 | nil => rfl
 | cons x xs ih => simp [rows, ih]
abbrev ListB := { l : List Int // l.length ≤ 1099511627776 }
theorem liftL : ∀ (xs : List (List Int)), (∀ x ∈ xs, x.length ≤ 1099511627776) → ∃ ys : List ListB, ys.map (fun y => y.1) = xs
 | [], _ => ⟨[], rfl⟩
 | x :: xs, h => by
  obtain ⟨ys, hy⟩ := liftL xs fun y hy => h y (by simp [hy])
  exact ⟨⟨x, h x (by simp)⟩ :: ys, by simp [hy]⟩
theorem tL_ro (x : List Int) : roV (intsT x) = ints x := by
 show V.ro _ (roVs _) = _
 rw [roVs_ci]; rfl
theorem sortLists_none (p : Option Addr) (cap : Nat) (fv : Value) (w : World) : Calls Tryz.prog 69 #[.slice p 0 cap, fv] w fun e w' => e = .returned (.tuple #[]) ∧ w' = w :=
 AnyF.slices_SortFunc_none { layL_ok with } p cap fv w
theorem sortLists_spec (xs : List (List Int)) (hb : ∀ x ∈ xs, x.length ≤ 1099511627776) (hsz : xs.length ≤ 1099511627776) :
  SpecG Tryz.prog 69 [.own 0 1 0 xs.length xs.length none, .fn 70 []] [some ⟨false, rows tL xs⟩] fun r g2 => r = .tup [] ∧ ∃ ys : List (List Int), ys.Perm xs ∧ ys.Pairwise (fun a b => ¬ cmpI b a < 0) ∧ g2 = [some ⟨false, rows tL ys⟩] := by
 obtain ⟨zs, rfl⟩ := liftL xs hb
 have := sort_spec1 layL_ok (fun x : ListB => intsT x.1) (fun x => by rw [tL_ro]; rfl) 70 (fun a b => cmpI a.1 b.1) (swo_of_tot (lt := fun a b => ltI a.1 b.1) ⟨fun a => totI.irr _, fun a b c => totI.tr _ _ _, fun a b => by
  rcases totI.tri a.1 b.1 with h | h | h
  ·exact .inl h
  ·exact .inr (.inl (Subtype.ext h))
  ·exact .inr (.inr h)⟩ fun a b => ltI_cmp _ _) (fun x y => by rw [tL_ro, tL_ro]; exact slicesCompare_spec x.1 y.1 x.2 y.2) ⟨_, _, Tryz.func69, rfl, rfl⟩ sortLists_none zs (by rw [List.length_map] at hsz; omega)
 have e1 : ∀ zs : List ListB, rows (fun x : ListB => [intsT x.1]) zs = rows tL (zs.map fun y => y.1) := fun zs => rows_map' tL _ zs
 rw [e1] at this
 rw [List.length_map]
 refine SpecG.mono' this fun r g2 ⟨h1, ys, h2, h3, h4⟩ => ⟨h1, ys.map (·.1), h2.map _, ?_, ?_⟩
 ·rw [List.pairwise_map]; exact h3
 ·rw [h4, e1]
end Go.Proofs.YtboolngaahifdaaGreatD
namespace Go.Proofs.YtboolngaahifdaaGreatD
open Go Go.Proofs
def headsP (q : QueryE) (db : List FactC) : List (List Int) := (visitL db q.2 bNone).map fun b => tupOf b q.1
def wLists (xs : List (List Int)) : V := .tr 1 xs.length (rows tL xs)
set_option maxHeartbeats 4000000 in
theorem heads_spec (q : QueryE) (db : List FactC) (hq : cQuery q ≤ 1048576) (hd : cFactS db ≤ 1048576) (ht : ∀ a ∈ q.2, a.2.all isTerm = true) (hn : db.length ^ q.2.length ≤ 1099511627776) : Spec Tryz.prog 73 [vQuery q, vFactS db] (wLists (headsP q db)) := by
 have hb : cAtomS q.2 ≤ 1048576 := by unfold cQuery at hq; omega
 refine Spec_of mx Γ_ok Tryz.func73 rfl ?_
 conv => whnf
 refine .inr (.inr ⟨[2, 1, 0], [], ?_⟩)
 conv => whnf
 have hv := visit_spec q q.2 db hq hb hd ht q.2.length 0 (Nat.zero_add _) bNone [] (by simpa using hn)
 refine ⟨_, hv, fun r g2 hP => ?_⟩
 obtain ⟨rfl, hv⟩ := hP
 rw [List.drop_zero] at hv
 rcases hv with ⟨hn0, rfl⟩ | rfl
 ·refine .inl ?_
  conv => whnf
  refine ⟨rfl, ?_⟩
  unfold headsP
  rw [hn0]; rfl
 ·refine .inl ?_
  conv => whnf
  refine ⟨by rw [rows_len tL_len], ?_⟩
  rfl
def sB (b : Bnd) : List Int := (List.range 20).map (fun k => (b k).getD (-1)) ++ (List.range 20).map (fun k => if (b k).isSome then 1 else 0)
theorem sB_len (b : Bnd) : (sB b).length = 40 := rfl
theorem sB_at (b : Bnd) (i : Nat) : (sB b)[i]? = if i < 20 then some ((b i).getD (-1)) else if i < 40 then some (if (b (i - 20)).isSome then 1 else 0) else none := by
 unfold sB
 split
 ·rename_i h
  rw [List.getElem?_append_left (by simpa using h), List.getElem?_map, List.getElem?_range h]; rfl
 ·rename_i h
  rw [List.getElem?_append_right (by simp; omega)]
  simp only [List.length_map, List.length_range]
  split
  ·rw [List.getElem?_map, List.getElem?_range (by omega)]; rfl
  ·rw [List.getElem?_eq_none (by simp; omega)]
theorem bset_same (b : Bnd) (k : Nat) (v : Int) : bset b k v k = some v := by simp [bset]
theorem bset_ne {b : Bnd} {k i : Nat} {v : Int} (h : i ≠ k) : bset b k v i = b i := by simp [bset, h]
theorem sB_set (b : Bnd) {k : Nat} (hk : k < 20) (v : Int) : ((sB b).set k v).set (20 + k) 1 = sB (bset b k v) := by
 have hl := sB_len b
 apply List.ext_getElem?
 intro i
 rw [List.getElem?_set, List.getElem?_set, sB_at, sB_at, List.length_set, hl]
 by_cases h2 : 20 + k = i
 ·subst h2
  rw [if_pos rfl, if_pos (by omega), if_neg (by omega), if_pos (by omega), Nat.add_sub_cancel_left, bset_same]
  rfl
 ·rw [if_neg h2]
  by_cases h1 : k = i
  ·subst h1
   rw [if_pos rfl, if_pos (by omega), if_pos hk, bset_same]; rfl
  ·rw [if_neg h1]
   split
   ·rw [bset_ne (fun h => h1 h.symm)]
   ·split
    ·rw [bset_ne (by omega)]
    ·rfl
theorem setC_ci {xs : List Int} {k off : Nat} (hk : k < xs.length) (ho : off = k) (y : Int) : setC (rows ciL xs) off [ci y] = rows ciL (xs.set k y) := by
 subst ho
 have := setC_rows (f := ciL) ciL_len (by decide) hk y
 rwa [Nat.mul_one] at this
theorem takeN_sA {b : Bnd} {k off : Nat} (hk : k < 20) (ho : off = k) : takeN (rows ciL (sB b)) off 1 = some [ci ((b k).getD (-1))] := by
 have hl : k < (sB b).length := by rw [sB_len]; omega
 have h1 : (sB b)[k] = (b k).getD (-1) := by
  have := sB_at b k
  rw [if_pos hk, List.getElem?_eq_getElem hl] at this
  exact Option.some.inj this
 exact takeN_own (f := ciL) (k := k) (d := 0) (m := 1) (xs := sB b) ciL_len (by omega) hl (by omega) (by rw [h1]; rfl)
theorem takeN_sF {b : Bnd} {k off : Nat} (hk : k < 20) (ho : off = 20 + k) : takeN (rows ciL (sB b)) off 1 = some [ci (if (b k).isSome then 1 else 0)] := by
 have hl : 20 + k < (sB b).length := by rw [sB_len]; omega
 have h1 : (sB b)[20 + k] = if (b k).isSome then 1 else 0 := by
  have := sB_at b (20 + k)
  rw [if_neg (by omega), if_pos (by omega), List.getElem?_eq_getElem hl, Nat.add_sub_cancel_left] at this
  exact Option.some.inj this
 exact takeN_own (f := ciL) (k := 20 + k) (d := 0) (m := 1) (xs := sB b) ciL_len (by omega) hl (by omega) (by rw [h1]; rfl)
set_option maxHeartbeats 4000000 in
theorem l6Bind_spec (xs ys : List Int) (b : Bnd) (hx : xs.length ≤ 1099511627776) (hxy : xs.length = ys.length) (ht : xs.all isTerm = true) : Spec Tryz.prog 211 [ints xs, ints ys, ints (sB b)] (.tup [intsT (sB (bindGo xs ys b).1), cb (bindGo xs ys b).2]) := by
 refine Spec_of mx Γ_ok Tryz.func211 rfl ?_
 conv => whnf
 refine ⟨rows_len ciL_len _, solid_ci _, ?_⟩
 conv => whnf
 refine ⟨by rw [sB_len]; omega, rfl, _, app_ci [] (sB b), ?_⟩
 conv => whnf
 refine ⟨[(0,0),(1,0),(6,0),(7,0),(8,0),(9,0)], fun m s => ∃ (k : Nat) (e : Int) (x : Bnd), e = k ∧ m + k = xs.length ∧ bindGo xs ys b = bindGo (xs.drop k) (ys.drop k) x ∧
  s = ⟨65, [(0, ints xs), (1, ints ys), (6, cnil), (7, cb false), (8, .own 0 1 0 40 40 none), (9, ci e)], [some ⟨false, rows ciL (sB x)⟩]⟩, xs.length, ⟨0, 0, b, rfl, rfl, rfl, rfl⟩, ?_⟩
 rintro m s ⟨k, _, x, rfl, hm, hj, rfl⟩
 conv => whnf
 split <;> rename_i h3
 all_goals simp only [decide_eq_true_eq, decide_eq_false_iff_not] at h3
 ·conv => whnf
  have hk : k < xs.length := by omega
  have hky : k < ys.length := by omega
  have htk := fz_all_at ht hk
  have hr : -80 ≤ xs[k] ∧ xs[k] ≤ 19 := by simpa [isTerm, inR] using htk
  rw [List.drop_eq_getElem_cons hk, List.drop_eq_getElem_cons hky, bindGo] at hj
  refine ⟨by omega, rows_len ciL_len _, ?_⟩
  conv => whnf
  refine ⟨_, takeN_rp (k := k) ciL_len hk, ?_⟩
  conv => whnf
  generalize hc1 : decide (xs[k] < 0) = c1
  cases c1 with
  | true =>
   have h1 : xs[k] < 0 := of_decide_eq_true hc1
   rw [if_pos h1] at hj
   conv => whnf
   refine ⟨by omega, rows_len ciL_len _, ?_⟩
   conv => whnf
   refine ⟨_, takeN_rp (k := k) ciL_len hky, ?_⟩
   have hw : IntKind.i64.wrap (-1 - xs[k]) = -1 - xs[k] := wrap_id (by omega) (by omega)
   rw [hw]
   conv => whnf
   split <;> rename_i h5
   ·have h6 : ¬ -1 - xs[k] = ys[k] := by simpa using h5
    conv => whnf
    rw [hj, if_neg h6]
    refine ⟨by rw [rows_len ciL_len]; rfl, ?_⟩
    rfl
   ·have h6 : -1 - xs[k] = ys[k] := by simpa using h5
    conv => whnf
    rw [if_pos h6] at hj
    exact ⟨m - 1, by omega, k + 1, _, x, wrap_id (by omega) (by omega), by omega, hj, rfl⟩
  | false =>
   have h1 : ¬ xs[k] < 0 := of_decide_eq_false hc1
   rw [if_neg h1] at hj
   obtain ⟨j, hjj⟩ : ∃ j : Nat, xs[k] = j := ⟨xs[k].toNat, by omega⟩
   rw [hjj] at hj ⊢
   rw [Int.toNat_natCast] at hj
   have hj20 : j < 20 := by omega
   have hw : IntKind.i64.wrap (20 + (j : Int)) = ((20 + j : Nat) : Int) := by rw [wrap_id (by omega) (by omega)]; omega
   conv => whnf
   rw [hw]
   refine ⟨by omega, ?_⟩
   conv => whnf
   refine ⟨_, takeN_sF (b := x) (k := j) (off := 0 + ((20 + j : Nat) : Int).toNat * 1) hj20 (by omega), ?_⟩
   conv => whnf
   cases hxj : x j with
   | none =>
    rw [hxj] at hj
    conv => whnf
    refine ⟨by omega, rows_len ciL_len _, ?_⟩
    conv => whnf
    refine ⟨_, takeN_rp (k := k) ciL_len hky, ?_⟩
    conv => whnf
    refine ⟨by omega, ?_⟩
    conv => whnf
    refine ⟨_, takeN_sA (b := x) (k := j) (off := 0 + (j : Int).toNat * 1) hj20 (by omega), _, setC_ci (xs := sB x) (k := j) (by rw [sB_len]; omega) (by show 0 + (j : Int).toNat * 1 = j; omega) ys[k], ?_⟩
    conv => whnf
    rw [hw]
    refine ⟨by omega, ?_⟩
    conv => whnf
    have hl2 : 20 + j < ((sB x).set j ys[k]).length := by rw [List.length_set, sB_len]; omega
    refine ⟨_, takeN_own (f := ciL) (k := 20 + j) (d := 0) (m := 1) (xs := (sB x).set j ys[k]) ciL_len (by show 0 + ((20 + j : Nat) : Int).toNat * 1 = _; omega) hl2 (by omega) rfl, _, setC_ci (xs := (sB x).set j ys[k]) (k := 20 + j) hl2 (by show 0 + ((20 + j : Nat) : Int).toNat * 1 = _; omega) 1, ?_⟩
    rw [sB_set x hj20]
    conv => whnf
    exact ⟨m - 1, by omega, k + 1, _, bset x j ys[k], wrap_id (by omega) (by omega), by omega, hj, rfl⟩
   | some u =>
    rw [hxj] at hj
    conv => whnf
    refine ⟨List.range 10, by kernel_rfl, ?_⟩
    conv => whnf
    refine ⟨by omega, ?_⟩
    conv => whnf
    refine ⟨_, takeN_sA (b := x) (k := j) (off := 0 + (j : Int).toNat * 1) hj20 (by omega), ?_⟩
    rw [hxj]
    conv => whnf
    refine ⟨by omega, rows_len ciL_len _, ?_⟩
    conv => whnf
    refine ⟨_, takeN_rp (k := k) ciL_len hky, ?_⟩
    conv => whnf
    split <;> rename_i h5
    ·have h6 : ¬ u = ys[k] := by simpa using h5
     conv => whnf
     rw [hj]
     simp only [if_neg h6]
     refine ⟨by rw [rows_len ciL_len]; rfl, ?_⟩
     rfl
    ·have h6 : u = ys[k] := by simpa using h5
     conv => whnf
     simp only [if_pos h6] at hj
     exact ⟨m - 1, by omega, k + 1, _, x, wrap_id (by omega) (by omega), by omega, hj, rfl⟩
 ·conv => whnf
  rw [hj, drop_end (by omega)]
  have : ∀ l b, bindGo [] l b = (b, true) := fun l b => by cases l <;> rfl
  rw [this]
  refine ⟨by rw [rows_len ciL_len]; rfl, ?_⟩
  rfl
set_option maxHeartbeats 1000000 in
theorem l6Empty_spec : Spec Tryz.prog 153 [] (intsT (sB bNone)) := by
 refine Spec_of mx Γ_ok Tryz.func153 rfl ?_
 conv => whnf
 refine ⟨[(0,0),(1,0),(2,0)], fun m s => ∃ (k : Nat) (e : Int) (n : Nat) (r : List V), e = k ∧ m + k = 20 ∧ n = k ∧ r = rows ciL (List.replicate k (-1)) ∧
  s = ⟨20, [(0, cnil), (1, .own 0 1 0 n n none), (2, ci e)], [some ⟨false, r⟩]⟩, 20, ⟨0, 0, 0, _, rfl, rfl, rfl, rfl, rfl⟩, ?_⟩
 rintro m s ⟨k, _, n, _, rfl, hm, rfl, rfl, rfl⟩
 conv => whnf
 split <;> rename_i h1
 all_goals simp only [decide_eq_true_eq, decide_eq_false_iff_not] at h1
 ·conv => whnf
  refine ⟨_, rfl, .inl ⟨flat1 rfl, ?_⟩⟩
  conv => whnf
  refine ⟨by omega, by rw [rows_len ciL_len, List.length_replicate], _, snoc_ci _ _, ?_⟩
  conv => whnf
  exact ⟨m - 1, by omega, n + 1, _, n + 1, _, wrap_id (by omega) (by omega), by omega, rfl, by rw [List.replicate_succ'], rfl⟩
 ·conv => whnf
  have hn : n = 20 := by omega
  subst hn
  refine ⟨[(0,0),(1,0),(3,0)], fun m s => ∃ (k : Nat) (e : Int) (n : Nat) (r : List V), e = k ∧ m + k = 20 ∧ n = 20 + k ∧ r = rows ciL (List.replicate 20 (-1) ++ List.replicate k 0) ∧
   s = ⟨20, [(0, cnil), (1, .own 0 1 0 n n none), (3, ci e)], [some ⟨false, r⟩]⟩, 20, ⟨0, 0, 20, _, rfl, rfl, rfl, by rw [List.replicate_zero, List.append_nil], rfl⟩, ?_⟩
  rintro m s ⟨k, _, n, _, rfl, hm, rfl, rfl, rfl⟩
  conv => whnf
  split <;> rename_i h1
  all_goals simp only [decide_eq_true_eq, decide_eq_false_iff_not] at h1
  ·conv => whnf
   refine ⟨_, rfl, .inl ⟨flat1 rfl, ?_⟩⟩
   conv => whnf
   refine ⟨by omega, by rw [rows_len ciL_len, List.length_append, List.length_replicate, List.length_replicate], _, snoc_ci _ _, ?_⟩
   conv => whnf
   exact ⟨m - 1, by omega, k + 1, _, 20 + (k + 1), _, wrap_id (by omega) (by omega), by omega, rfl, by rw [show List.replicate (k + 1) (0 : Int) = List.replicate k 0 ++ [0] from List.replicate_succ', List.append_assoc], rfl⟩
  ·conv => whnf
   have hk : k = 20 := by omega
   subst hk
   refine ⟨by rw [rows_len ciL_len, List.length_append, List.length_replicate, List.length_replicate], ?_⟩
   rfl
def tS (v : List Int) (t : Int) : Int := if t < 0 then -1 - t else v.getD t.toNat 0
theorem l6Tuple_spec (xs v : List Int) (h : xs.length ≤ 1099511627776) (hv : v.length = 20) (ht : xs.all isTerm = true) : Spec Tryz.prog 158 [ints xs, ints v] (intsT (xs.map (tS v))) := by
 refine Spec_of mx Γ_ok Tryz.func158 rfl ?_
 conv => whnf
 refine ⟨[(0,0),(1,0),(4,0),(5,0),(6,0)], fun m s => ∃ (k : Nat) (e : Int) (n : Nat) (r : List V), e = k ∧ m + k = xs.length ∧ n = k ∧ r = rows ciL ((xs.take k).map (tS v)) ∧
  s = ⟨38, [(0, ints xs), (1, ints v), (4, cnil), (5, .own 0 1 0 n n none), (6, ci e)], [some ⟨false, r⟩]⟩, xs.length, ⟨0, 0, 0, _, rfl, rfl, rfl, rfl, rfl⟩, ?_⟩
 rintro m s ⟨k, _, n, _, rfl, hm, rfl, rfl, rfl⟩
 conv => whnf
 split <;> rename_i h1
 all_goals simp only [decide_eq_true_eq, decide_eq_false_iff_not] at h1
 ·conv => whnf
  have hk : n < xs.length := by omega
  have hr : -80 ≤ xs[n] ∧ xs[n] ≤ 19 := by simpa [isTerm, inR] using fz_all_at ht hk
  refine ⟨by omega, rows_len ciL_len xs, ?_⟩
  conv => whnf
  refine ⟨_, takeN_rp (k := n) ciL_len hk, ?_⟩
  conv => whnf
  generalize hc1 : decide (xs[n] < 0) = c1
  cases c1 with
  | true =>
   have h2 : xs[n] < 0 := of_decide_eq_true hc1
   have hts : tS v xs[n] = IntKind.i64.wrap (-1 - xs[n]) := by rw [wrap_id (by omega) (by omega), tS, if_pos h2]
   conv => whnf
   refine ⟨by omega, rows_len ciL_len xs, ?_⟩
   conv => whnf
   refine ⟨_, takeN_rp (k := n) ciL_len hk, ?_⟩
   conv => whnf
   refine ⟨_, rfl, .inl ⟨flat1 rfl, ?_⟩⟩
   conv => whnf
   refine ⟨by omega, by rw [rows_len ciL_len, List.length_map, List.length_take]; congr 1; omega, _, snoc_ci _ _, ?_⟩
   conv => whnf
   refine ⟨m - 1, by omega, n + 1, _, _, _, wrap_id (by omega) (by omega), by omega, rfl, ?_, rfl⟩
   rw [List.take_succ_eq_append_getElem hk, List.map_append, List.map_singleton, hts]
  | false =>
   have h2 : ¬ xs[n] < 0 := of_decide_eq_false hc1
   obtain ⟨j, hjj⟩ : ∃ j : Nat, xs[n] = j := ⟨xs[n].toNat, by omega⟩
   have hj : j < v.length := by omega
   have hts : tS v xs[n] = v[j] := by rw [tS, if_neg h2, hjj, Int.toNat_natCast, getD_at hj]
   conv => whnf
   refine ⟨by omega, rows_len ciL_len xs, ?_⟩
   conv => whnf
   refine ⟨_, takeN_rp (k := n) ciL_len hk, ?_⟩
   rw [hjj]
   conv => whnf
   refine ⟨by omega, rows_len ciL_len v, ?_⟩
   conv => whnf
   refine ⟨_, takeN_rp (k := j) ciL_len hj, ?_⟩
   conv => whnf
   refine ⟨_, rfl, .inl ⟨flat1 rfl, ?_⟩⟩
   conv => whnf
   refine ⟨by omega, by rw [rows_len ciL_len, List.length_map, List.length_take]; congr 1; omega, _, snoc_ci _ _, ?_⟩
   conv => whnf
   refine ⟨m - 1, by omega, n + 1, _, _, _, wrap_id (by omega) (by omega), by omega, rfl, ?_, rfl⟩
   rw [List.take_succ_eq_append_getElem hk, List.map_append, List.map_singleton, hts]
 ·conv => whnf
  have hkk : n = xs.length := by omega
  subst hkk
  rw [List.take_length]
  refine ⟨by rw [rows_len ciL_len, List.length_map], ?_⟩
  show V.tr 1 xs.length _ = intsT _
  rw [intsT, List.length_map]
def rL (xs : List Int) : List V := [ints xs]
theorem rL_len (xs : List Int) : (rL xs).length = 1 := rfl
theorem tL_ro' (xs : List Int) : roVs (tL xs) = rL xs := by
 show [roV (intsT xs)] = _
 rw [tL_ro]; rfl
def vLists (xs : List (List Int)) : V := .ro xs.length (rows rL xs)
theorem wLists_ro (xs : List (List Int)) : roV (wLists xs) = vLists xs := by
 show V.ro _ (roVs _) = _
 rw [roVs_rows tL_ro']; rfl
set_option maxHeartbeats 1000000 in
theorem l6Heads_spec (q : QueryE) (l : List (List Int)) (hq : cQuery q ≤ 1048576) (hl : l.length ≤ 1099511627776) (hv : ∀ v ∈ l, v.length = 20) (ht : q.1.all isTerm = true) : Spec Tryz.prog 76 [vQuery q, vLists l] (wLists (l.map fun v => q.1.map (tS v))) := by
 unfold cQuery at hq
 refine Spec_of mx Γ_ok Tryz.func76 rfl ?_
 conv => whnf
 refine ⟨[(1,0),(2,0),(4,0),(5,0),(6,0)], fun m s => ∃ (k : Nat) (e : Int) (n : Nat) (r : List V), e = k ∧ m + k = l.length ∧ n = k ∧ r = rows tL ((l.take k).map fun v => q.1.map (tS v)) ∧
  s = ⟨25, [(1, vLists l), (2, .ptr 0 0), (4, cnil), (5, .own 1 1 0 n n none), (6, ci e)], [some ⟨true, rQuery q⟩, some ⟨false, r⟩]⟩, l.length, ⟨0, 0, 0, _, rfl, rfl, rfl, rfl, rfl⟩, ?_⟩
 rintro m s ⟨k, _, n, _, rfl, hm, rfl, rfl, rfl⟩
 conv => whnf
 split <;> rename_i h1
 all_goals simp only [decide_eq_true_eq, decide_eq_false_iff_not] at h1
 ·conv => whnf
  have hk : n < l.length := by omega
  refine ⟨List.range 11, by kernel_rfl, ?_⟩
  conv => whnf
  refine ⟨by omega, rows_len rL_len _, ?_⟩
  conv => whnf
  refine ⟨_, takeN_rp (k := n) rL_len hk, ?_⟩
  conv => whnf
  refine ⟨_, l6Tuple_spec q.1 l[n] (by omega) (hv _ (List.getElem_mem hk)) ht, .inl rfl, .inr ?_⟩
  conv => whnf
  refine ⟨by rw [rows_len ciL_len], ?_⟩
  conv => whnf
  refine ⟨_, rfl, .inr ⟨solid_tL (q.1.map (tS l[n])), ?_⟩⟩
  conv => whnf
  refine ⟨by omega, by rw [rows_len tL_len, List.length_map, List.length_take]; congr 1; omega, _, snoc_rows tL _ (q.1.map (tS l[n])), ?_⟩
  conv => whnf
  refine ⟨m - 1, by omega, n + 1, _, _, _, wrap_id (by omega) (by omega), by omega, rfl, ?_, rfl⟩
  rw [List.take_succ_eq_append_getElem hk, List.map_append, List.map_singleton]
 ·conv => whnf
  have hkk : n = l.length := by omega
  subst hkk
  rw [List.take_length]
  refine ⟨by rw [rows_len tL_len, List.length_map], ?_⟩
  show V.tr 1 l.length _ = wLists _
  rw [wLists, List.length_map]
end Go.Proofs.YtboolngaahifdaaGreatD
