/- Contracts and plain laws of this seat; no condition. -/
import Derived.Test.YtboolngaahifdaaGreatQ16
import Derived.Test.YtboolngaahifdaaGreatQ12
import Derived.Test.YtboolngaahifdaaGreatQ9
import Derived.Test.YtboolngaahifdaaGreatQ11
import Derived.WalkKit
import Derived.WalkSpells
set_option linter.unusedVariables false
set_option linter.unusedSimpArgs false
set_option maxRecDepth 100000
namespace Go.Proofs.YtboolngaahifdaaGreatD
open Go Go.Proofs
def val (v : Int → Int) (t : Int) : Int := if b8 t then v t else -1 - t
def PE (v : Int → Int) (a : aG) : aG := (a.1, a.2.map (val v))
def Sat (v : Int → Int) (db body : List aG) : Prop := ∀ a ∈ body, PE v a ∈ db
def M9 (b : Bnd) (v : Int → Int) : Prop := ∀ (k : Nat) (u : Int), b k = some u → v (k : Int) = u
def vD (b : Bnd) (t : Int) : Int := ba b t.toNat
def a1P (b b2 : Bnd) : Prop := ∀ (k : Nat) (u : Int), b k = some u → b2 k = some u
theorem qQ {t : Int} (h : aU t = true) : -80 ≤ t ∧ t ≤ 19 := by simpa [aU, inR] using h
theorem nD {t : Int} (h : aU t = true) : b8 t = true ↔ 0 ≤ t := by
 have := qQ h
 simp only [b8, inR, Bool.and_eq_true, decide_eq_true_eq]
 omega
theorem M0 {v : Int → Int} {t : Int} (h : t < 0) : val v t = -1 - t := by
 unfold val
 rw [if_neg (by simp [b8, inR]; omega)]
theorem CY {v : Int → Int} {t : Int} (ht : aU t = true) (h : ¬ t < 0) : val v t = v t := by
 unfold val
 rw [if_pos ((nD ht).2 (by omega))]
theorem nT : ∀ (ts vs : List Int) (b b2 : Bnd), cQ ts vs b = (b2, true) → a1P b b2
 | [], vs, b, b2, h => by
  have : b = b2 := by cases vs <;> simpa [cQ] using h
  subst this
  exact fun _ _ h => h
 | t :: ts, [], b, b2, h => by
  have : b = b2 := by simpa [cQ] using h
  subst this
  exact fun _ _ h => h
 | t :: ts, x :: vs, b, b2, h => by
  simp only [cQ] at h
  split at h
  ·split at h
   ·exact nT ts vs b b2 h
   ·cases h
  ·split at h
   ·rename_i hb
    have ih := nT ts vs _ b2 h
    intro k u hk
    refine ih k u ?_
    simp only [sL]
    split
    ·rename_i he; subst he; rw [hb] at hk; cases hk
    ·exact hk
   ·split at h
    ·exact nT ts vs b b2 h
    ·cases h
theorem n7 : ∀ (ts vs : List Int) (b b2 : Bnd), ts.length = vs.length → ts.all aU = true → cQ ts vs b = (b2, true) → ts.map (val (vD b2)) = vs ∧ ∀ t ∈ ts, 0 ≤ t → (b2 t.toNat).isSome = true
 | [], vs, b, b2, hl, _, h => by
  have : vs = [] := List.length_eq_zero_iff.1 (by simpa using hl.symm)
  subst this
  exact ⟨rfl, fun t ht => by cases ht⟩
 | t :: ts, [], b, b2, hl, _, h => by simp at hl
 | t :: ts, x :: vs, b, b2, hl, ha, h => by
  have hl' : ts.length = vs.length := by simpa using hl
  simp only [List.all_cons, Bool.and_eq_true] at ha
  simp only [cQ] at h
  split at h
  ·rename_i hneg
   split at h
   ·rename_i he
    obtain ⟨i1, i2⟩ := n7 ts vs b b2 hl' ha.2 h
    refine ⟨by rw [List.map_cons, i1, M0 hneg, he], fun u hu h0 => ?_⟩
    rcases List.mem_cons.1 hu with rfl | hu
    ·omega
    ·exact i2 u hu h0
   ·cases h
  ·rename_i hneg
   have key : ∀ b1 : Bnd, b1 t.toNat = some x → cQ ts vs b1 = (b2, true) → (t :: ts).map (val (vD b2)) = x :: vs ∧ ∀ u ∈ t :: ts, 0 ≤ u → (b2 u.toNat).isSome = true := by
    intro b1 hb1 hb
    obtain ⟨i1, i2⟩ := n7 ts vs b1 b2 hl' ha.2 hb
    have h2 := nT ts vs b1 b2 hb _ _ hb1
    refine ⟨?_, fun u hu h0 => ?_⟩
    ·rw [List.map_cons, i1, CY ha.1 hneg]
     unfold vD ba
     rw [h2]
     rfl
    ·rcases List.mem_cons.1 hu with rfl | hu
     ·rw [h2]; rfl
     ·exact i2 u hu h0
   split at h
   ·rename_i hb
    exact key _ (by simp [sL]) h
   ·rename_i u hb
    split at h
    ·rename_i he
     subst he
     exact key b hb h
    ·cases h
theorem jH {v : Int → Int} : ∀ (ts vs : List Int) (b : Bnd), M9 b v → ts.all aU = true → ts.map (val v) = vs → (cQ ts vs b).2 = true ∧ M9 (cQ ts vs b).1 v
 | [], vs, b, hu, _, h => by
  subst h
  exact ⟨rfl, hu⟩
 | t :: ts, vs, b, hu, ha, h => by
  subst h
  simp only [List.all_cons, Bool.and_eq_true] at ha
  simp only [List.map_cons, cQ]
  split
  ·rename_i hneg
   rw [if_pos (M0 hneg).symm]
   exact jH ts _ b hu ha.2 rfl
  ·rename_i hneg
   have hr := qQ ha.1
   have ht : ((t.toNat : Nat) : Int) = t := by omega
   rw [CY ha.1 hneg]
   cases hb : b t.toNat with
   | none =>
    refine jH ts _ _ (fun k u hk => ?_) ha.2 rfl
    simp only [sL] at hk
    split at hk
    ·rename_i he
     subst he
     cases hk
     rw [ht]
    ·exact hu k u hk
   | some u =>
    have := hu _ _ hb
    rw [ht] at this
    simp only
    rw [if_pos this.symm]
    exact jH ts _ b hu ha.2 rfl
theorem TV {b b2 : Bnd} (h : a1P b b2) {t : Int} (hb : 0 ≤ t → (b t.toNat).isSome = true) : val (vD b2) t = val (vD b) t := by
 unfold val
 cases hv : b8 t with
 | false => rfl
 | true =>
  have h0 : 0 ≤ t := by
   simp only [b8, inR, Bool.and_eq_true, decide_eq_true_eq] at hv
   exact hv.1
  obtain ⟨u, hu⟩ := Option.isSome_iff_exists.1 (hb h0)
  simp only [if_true]
  unfold vD ba
  rw [hu, h _ _ hu]
theorem nE (db : List aG) : ∀ (body : List aG) (b b2 : Bnd), (∀ a ∈ body, a.2.all aU = true) → b2 ∈ c8 db body b → a1P b b2 ∧ Sat (vD b2) db body ∧ ∀ a ∈ body, ∀ t ∈ a.2, 0 ≤ t → (b2 t.toNat).isSome = true
 | [], b, b2, _, h => by
  have : b2 = b := by simpa [c8] using h
  subst this
  exact ⟨fun _ _ h => h, (fun a ha => by cases ha), (fun a ha => by cases ha)⟩
 | a :: r, b, b2, ht, h => by
  simp only [c8, List.mem_flatMap] at h
  obtain ⟨f, hf, h⟩ := h
  split at h
  ·rename_i hm
   obtain ⟨i1, i2, i3⟩ := nE db r _ b2 (fun c hc => ht c (by simp [hc])) h
   unfold mch at hm h i1
   by_cases hc : a.1 = f.1 ∧ a.2.length = f.2.length
   ·rw [if_pos hc] at hm i1
    have hb : cQ a.2 f.2 b = ((cQ a.2 f.2 b).1, true) := Prod.ext rfl hm
    have e1 := nT _ _ _ _ hb
    obtain ⟨s1, s2⟩ := n7 _ _ _ _ hc.2 (ht a (by simp)) hb
    refine ⟨fun k u hk => i1 k u (e1 k u hk), fun c hcm => ?_, fun c hcm t hct h0 => ?_⟩
    ·rcases List.mem_cons.1 hcm with rfl | hcm
     ·have : PE (vD b2) c = f := by
       refine Prod.ext hc.1 ?_
       show c.2.map (val (vD b2)) = f.2
       rw [← s1]
       exact List.map_congr_left fun t ht' => TV i1 (s2 t ht')
      rw [this]
      exact hf
     ·exact i2 c hcm
    ·rcases List.mem_cons.1 hcm with rfl | hcm
     ·obtain ⟨u, hu⟩ := Option.isSome_iff_exists.1 (s2 t hct h0)
      rw [i1 _ _ hu]
      rfl
     ·exact i3 c hcm t hct h0
   ·rw [if_neg hc] at hm
    cases hm
  ·cases h
theorem s8 {v : Int → Int} (db : List aG) : ∀ (body : List aG) (b : Bnd), (∀ a ∈ body, a.2.all aU = true) → M9 b v → Sat v db body → ∃ b2 ∈ c8 db body b, M9 b2 v
 | [], b, _, hu, _ => ⟨b, by simp [c8], hu⟩
 | a :: r, b, ht, hu, hs => by
  obtain ⟨c1, c2⟩ := jH a.2 (a.2.map (val v)) b hu (ht a (by simp)) rfl
  have hm : mch b a (PE v a) = cQ a.2 (a.2.map (val v)) b := by
   unfold mch PE
   rw [if_pos ⟨rfl, by simp⟩]
  obtain ⟨b2, h1, h2⟩ := s8 db r (cQ a.2 (a.2.map (val v)) b).1 (fun c hc => ht c (by simp [hc])) c2 (fun c hc => hs c (by simp [hc]))
  refine ⟨b2, ?_, h2⟩
  simp only [c8, List.mem_flatMap]
  refine ⟨PE v a, hs a (by simp), ?_⟩
  rw [hm, if_pos c1]
  exact h1
end Go.Proofs.YtboolngaahifdaaGreatD
namespace Go.Proofs.YtboolngaahifdaaGreatD
open Go Go.Proofs
structure Tot {α : Type} (lt : α → α → Bool) : Prop where
 irr : ∀ a, lt a a = false
 tr : ∀ a b c, lt a b = true → lt b c = true → lt a c = true
 tri : ∀ a b, lt a b = true ∨ a = b ∨ lt b a = true
section
variable {α : Type} {lt : α → α → Bool}
theorem Tot.asym (h : Tot lt) {a b : α} (h1 : lt a b = true) : lt b a = false := by
 cases h2 : lt b a with
 | false => rfl
 | true => have := h.tr _ _ _ h1 h2; rw [h.irr] at this; cases this
def fR (lt : α → α → Bool) (l : List α) : Prop := l.Pairwise fun a b => lt a b = true
theorem lX (h : Tot lt) : ∀ {l m : List α}, fR lt l → fR lt m → (∀ a, a ∈ l ↔ a ∈ m) → l = m
 | [], [], _, _, _ => rfl
 | [], y :: m, _, _, hm => absurd ((hm y).2 (by simp)) (by simp)
 | x :: l, [], _, _, hm => absurd ((hm x).1 (by simp)) (by simp)
 | x :: l, y :: m, hl, hr, hm => by
  obtain ⟨hx, hl'⟩ := List.pairwise_cons.1 hl
  obtain ⟨hy, hr'⟩ := List.pairwise_cons.1 hr
  have hxy : x = y := by
   have h1 : x = y ∨ x ∈ m := by have := (hm x).1 (by simp); simpa using this
   have h2 : y = x ∨ y ∈ l := by have := (hm y).2 (by simp); simpa using this
   rcases h1 with h1 | h1
   ·exact h1
   ·rcases h2 with h2 | h2
    ·exact h2.symm
    ·have := h.asym (hx y h2)
     rw [hy x h1] at this; cases this
  subst hxy
  congr 1
  refine lX h hl' hr' fun a => ?_
  have := hm a
  simp only [List.mem_cons] at this
  constructor
  ·intro ha
   rcases this.1 (.inr ha) with rfl | h2
   ·have := hx a ha; rw [h.irr] at this; cases this
   ·exact h2
  ·intro ha
   rcases this.2 (.inr ha) with rfl | h2
   ·have := hy a ha; rw [h.irr] at this; cases this
   ·exact h2
end
theorem zF : ∀ xs ys : List Int, iR ys xs = - iR xs ys
 | [], [] => rfl
 | [], _ :: _ => rfl
 | _ :: _, [] => rfl
 | x :: xs, y :: ys => by
  simp only [iR]
  have := zF xs ys
  rcases Int.lt_trichotomy x y with h | h | h
  ·rw [if_neg (by omega), if_pos h, if_pos h]; omega
  ·subst h; simp [this]
  ·rw [if_pos h, if_neg (by omega), if_pos h]
theorem HV : ∀ xs ys : List Int, iR xs ys = 0 → xs = ys
 | [], [], _ => rfl
 | [], _ :: _, h => by simp [iR] at h
 | _ :: _, [], h => by simp [iR] at h
 | x :: xs, y :: ys, h => by
  simp only [iR] at h
  split at h
  ·omega
  ·split at h
   ·omega
   ·rw [HV xs ys h, show x = y from by omega]
theorem UC (xs : List Int) : iR xs xs = 0 := by have := zF xs xs; omega
theorem KM : ∀ xs ys : List Int, ltI xs ys = true ↔ iR xs ys < 0
 | [], [] => by simp [ltI, iR]
 | [], _ :: _ => by simp [ltI, iR]
 | _ :: _, [] => by simp [ltI, iR]
 | x :: xs, y :: ys => by
  simp only [ltI, iR]
  have ih := KM xs ys
  split
  ·rename_i h
   rw [if_neg (by omega), if_neg (by omega)]; exact ih
  ·rename_i h
   simp only [decide_eq_true_eq]
   constructor
   ·intro h1; rw [if_pos h1]; omega
   ·intro h1
    split at h1
    ·assumption
    ·rw [if_pos (by omega)] at h1; omega
theorem r8 (xs ys : List Int) : ltI xs ys = decide (iR xs ys < 0) := by
 rw [Bool.eq_iff_iff, KM, decide_eq_true_eq]
theorem RZ : ∀ xs ys zs : List Int, iR xs ys < 0 → iR ys zs < 0 → iR xs zs < 0
 | _, ys, [], _, h2 => by cases ys <;> simp [iR] at h2
 | [], _, _ :: _, _, _ => by simp [iR]
 | x :: xs, [], z :: zs, h1, _ => by simp [iR] at h1
 | x :: xs, y :: ys, z :: zs, h1, h2 => by
  have ih := RZ xs ys zs
  simp only [iR] at h1 h2 ⊢
  split at h1 <;> split at h2 <;> (try split at h1) <;> (try split at h2) <;> (split <;> try split) <;> first | omega | exact ih h1 h2
theorem rM : Tot ltI where
 irr := fun a => by rw [r8, UC]; rfl
 tr := fun a b c h1 h2 => by rw [r8] at h1 h2 ⊢; exact decide_eq_true (RZ a b c (of_decide_eq_true h1) (of_decide_eq_true h2))
 tri := fun a b => by
  rw [r8, r8, zF a b]
  by_cases h : iR a b = 0
  ·exact .inr (.inl (HV a b h))
  ·by_cases h1 : iR a b < 0
   ·exact .inl (decide_eq_true h1)
   ·exact .inr (.inr (decide_eq_true (by omega)))
theorem KL (a b : aG) : ltF a b = decide (ML a b < 0) := by
 rw [Bool.eq_iff_iff, decide_eq_true_eq]
 unfold ltF ML
 split
 ·rename_i h
  rw [if_neg (by omega), if_neg (by omega)]; exact KM _ _
 ·rename_i h
  simp only [decide_eq_true_eq]
  constructor
  ·intro h1; rw [if_pos h1]; omega
  ·intro h1
   split at h1
   ·assumption
   ·rw [if_pos (by omega)] at h1; omega
theorem GB : Tot ltF where
 irr := fun a => by unfold ltF; rw [if_pos rfl, rM.irr]
 tr := fun a b c h1 h2 => by
  unfold ltF at h1 h2 ⊢
  split at h1 <;> split at h2 <;> split <;> first
   | exact rM.tr _ _ _ h1 h2
   | (have h1 := of_decide_eq_true h1; have h2 := of_decide_eq_true h2; first | omega | exact decide_eq_true (by omega))
   | (have h1 := of_decide_eq_true h1; first | omega | exact decide_eq_true (by omega))
   | (have h2 := of_decide_eq_true h2; first | omega | exact decide_eq_true (by omega))
   | omega
 tri := fun a b => by
  unfold ltF
  rcases Int.lt_trichotomy a.1 b.1 with h | h | h
  ·rw [if_neg (by omega)]; exact .inl (decide_eq_true h)
  ·rw [if_pos h, if_pos h.symm]
   rcases rM.tri a.2 b.2 with h1 | h1 | h1
   ·exact .inl h1
   ·exact .inr (.inl (Prod.ext h h1))
   ·exact .inr (.inr h1)
  ·rw [if_neg (by omega), if_neg (by omega)]; exact .inr (.inr (decide_eq_true h))
theorem BS (f : aG) : ∀ (l : List aG), fR ltF l → fR ltF (i9 f false l) ∧ ∀ a, a ∈ i9 f false l ↔ a = f ∨ a ∈ l
 | [], _ => ⟨by simp [i9, fR], fun a => by simp [i9]⟩
 | x :: r, hs => by
  obtain ⟨hx, hr⟩ := List.pairwise_cons.1 hs
  obtain ⟨i1, i2⟩ := BS f r hr
  simp only [i9, Bool.not_false, Bool.true_and]
  cases hxf : ltF x f with
  | true =>
   simp only [Bool.not_true, Bool.false_eq_true, if_false]
   refine ⟨List.pairwise_cons.2 ⟨fun a ha => ?_, i1⟩, fun a => ?_⟩
   ·rcases (i2 a).1 ha with rfl | h1
    ·exact hxf
    ·exact hx a h1
   ·simp only [List.mem_cons, i2 a]
    constructor
    ·rintro (h1 | h1 | h1) <;> simp [h1]
    ·rintro (h1 | h1 | h1) <;> simp [h1]
  | false =>
   simp only [Bool.not_false, if_true, FC]
   by_cases e : x = f
   ·subst e
    simp only [eqF, decide_true, if_true, List.nil_append]
    exact ⟨hs, fun a => by simp⟩
   ·simp only [eqF, e, decide_false, Bool.false_eq_true, if_false, List.singleton_append]
    have hfx : ltF f x = true := by
     rcases GB.tri f x with h1 | h1 | h1
     ·exact h1
     ·exact absurd h1.symm e
     ·rw [hxf] at h1; cases h1
    refine ⟨List.pairwise_cons.2 ⟨fun a ha => ?_, hs⟩, fun a => by simp⟩
    rcases List.mem_cons.1 ha with rfl | h1
    ·exact hfx
    ·exact GB.tr _ _ _ hfx (hx a h1)
theorem wJ : ∀ (fs db : List aG), fR ltF db → fR ltF (fs.foldl gH db) ∧ ∀ a, a ∈ fs.foldl gH db ↔ a ∈ fs ∨ a ∈ db
 | [], db, hs => ⟨hs, fun a => by simp⟩
 | f :: fs, db, hs => by
  obtain ⟨h1, h2⟩ := BS f db hs
  obtain ⟨i1, i2⟩ := wJ fs (gH db f) h1
  refine ⟨i1, fun a => ?_⟩
  rw [List.foldl_cons, i2 a]
  have := h2 a
  simp only [gH, List.mem_cons, this]
  constructor
  ·rintro (h | h | h) <;> simp [h]
  ·rintro ((h | h) | h) <;> simp [h]
end Go.Proofs.YtboolngaahifdaaGreatD
namespace Go.Proofs.YtboolngaahifdaaGreatD
open Go Go.Proofs
section
variable {α : Type} {lt : α → α → Bool}
variable [DecidableEq α]
theorem MM (h : Tot lt) : ∀ (xs : List α) (p : α), (∀ a ∈ xs, lt a p = false) → xs.Pairwise (fun a b => lt b a = false) →
  fR lt (l6 (fun a b => decide (a = b)) p xs) ∧ (∀ a, a ∈ l6 (fun a b => decide (a = b)) p xs ↔ a ∈ xs ∧ a ≠ p)
 | [], p, _, _ => ⟨List.Pairwise.nil, fun a => by simp [l6]⟩
 | x :: r, p, hp, hs => by
  obtain ⟨hx, hr⟩ := List.pairwise_cons.1 hs
  obtain ⟨i1, i2⟩ := MM h r x hx hr
  simp only [l6]
  by_cases hxp : x = p
  ·subst hxp
   simp only [decide_true, if_true]
   refine ⟨i1, fun a => ?_⟩
   rw [i2 a]
   simp only [List.mem_cons]
   constructor
   ·rintro ⟨h1, h2⟩; exact ⟨.inr h1, h2⟩
   ·rintro ⟨h1 | h1, h2⟩
    ·exact absurd h1 h2
    ·exact ⟨h1, h2⟩
  ·simp only [hxp, decide_false, Bool.false_eq_true, if_false]
   have hpx : lt p x = true := by
    rcases h.tri p x with h1 | h1 | h1
    ·exact h1
    ·exact absurd h1.symm hxp
    ·rw [hp x (by simp)] at h1; cases h1
   refine ⟨List.pairwise_cons.2 ⟨fun a ha => ?_, i1⟩, fun a => ?_⟩
   ·obtain ⟨h1, h2⟩ := (i2 a).1 ha
    rcases h.tri x a with h3 | h3 | h3
    ·exact h3
    ·exact absurd h3.symm h2
    ·rw [hx a h1] at h3; cases h3
   ·simp only [List.mem_cons, i2 a]
    constructor
    ·rintro (rfl | ⟨h1, h2⟩)
     ·exact ⟨.inl rfl, hxp⟩
     ·refine ⟨.inr h1, fun e => ?_⟩
      subst e
      have := hx a h1
      rw [hpx] at this; cases this
    ·rintro ⟨rfl | h1, h2⟩
     ·exact .inl rfl
     ·by_cases e : a = x
      ·exact .inl e
      ·exact .inr ⟨h1, e⟩
theorem WN (h : Tot lt) (xs : List α) (hs : xs.Pairwise (fun a b => lt b a = false)) : fR lt (kM (fun a b => decide (a = b)) xs) ∧ (∀ a, a ∈ kM (fun a b => decide (a = b)) xs ↔ a ∈ xs) := by
 cases xs with
 | nil => exact ⟨List.Pairwise.nil, fun a => by simp [kM]⟩
 | cons x r =>
  obtain ⟨hx, hr⟩ := List.pairwise_cons.1 hs
  obtain ⟨i1, i2⟩ := MM h r x hx hr
  refine ⟨List.pairwise_cons.2 ⟨fun a ha => ?_, i1⟩, fun a => ?_⟩
  ·obtain ⟨h1, h2⟩ := (i2 a).1 ha
   rcases h.tri x a with h3 | h3 | h3
   ·exact h3
   ·exact absurd h3.symm h2
   ·rw [hx a h1] at h3; cases h3
  ·simp only [kM, List.mem_cons, i2 a]
   constructor
   ·rintro (h1 | ⟨h1, _⟩)
    ·exact .inl h1
    ·exact .inr h1
   ·rintro (h1 | h1)
    ·exact .inl h1
    ·by_cases e : a = x
     ·exact .inl e
     ·exact .inr ⟨h1, e⟩
end
theorem G4 {α : Type} {cf : α → α → Int} {lt : α → α → Bool} (h : Tot lt) (hc : ∀ a b, lt a b = decide (cf a b < 0)) : Go.Sort.SWO (ltOf cf) := by
 have e : ltOf cf = lt := by funext a b; exact (hc a b).symm
 rw [e]
 refine ⟨h.irr, h.tr, fun a b c h1 h2 => ?_⟩
 cases h3 : lt a c with
 | false => rfl
 | true =>
  rcases h.tri a b with h4 | h4 | h4
  ·rw [h1] at h4; cases h4
  ·subst h4; rw [h2] at h3; cases h3
  ·have := h.tr _ _ _ h4 h3; rw [h2] at this; cases this
theorem J0 (fs ys : List aG) (hp : ys.Perm fs) (hs : ys.Pairwise fun a b => ¬ ML b a < 0) : kM eqF ys = fs.foldl gH [] := by
 have hs' : ys.Pairwise fun a b => ltF b a = false := hs.imp fun {a b} h => by rw [KL]; exact decide_eq_false h
 obtain ⟨h1, h2⟩ := WN GB ys hs'
 obtain ⟨i1, i2⟩ := wJ fs [] List.Pairwise.nil
 refine lX GB h1 i1 fun a => ?_
 have := i2 a
 rw [this]
 have := h2 a
 refine this.trans ?_
 rw [hp.mem_iff]
 simp
end Go.Proofs.YtboolngaahifdaaGreatD
namespace Go.Proofs.YtboolngaahifdaaGreatD
open Go Go.Proofs Go.Shelf
def a02 : Ren := ⟨fun x => match x with | 6 => 172 | 15 => 150 | 14 => 213 | 28 => 208 | 29 => 209 | 20 => 230 | 21 => 231 | 22 => 232 | 23 => 233 | 24 => 234 | 25 => 235 | 26 => 236 | 27 => 237 | 46 => 247 | 47 => 226 | 48 => 227 | 49 => 248 | 50 => 249 | 57 => 251 | n => n, fun x => match x with | 22 => 30 | 24 => 121 | 25 => 152 | 3 => 3 | 39 => 157 | 0 => 0 | 53 => 193 | 55 => 195 | 4 => 4 | 46 => 186 | 45 => 185 | 50 => 190 | 5 => 5 | 9 => 9 | 66 => 209 | 70 => 213 | 76 => 226 | 77 => 227 | n => n, fun x => have n := x; n⟩
theorem a03 : SlLaysF0.n6 Tryz.prog a02 where
 mixed := mx
 f6 := ⟨"slices.SortFunc[[]loop.example/g01985/impl.Fact,loop.example/g01985/impl.Fact]", by decide, Tryz.func172.trans (congrArg some (by kernel_rfl))⟩
 f14 := ⟨"slices.pdqsortCmpFunc[loop.example/g01985/impl.Fact]", by decide, Tryz.func213.trans (congrArg some (by kernel_rfl))⟩
 f15 := Tryz.func150.trans (congrArg some (by kernel_rfl))
 f20 := ⟨"slices.insertionSortCmpFunc[loop.example/g01985/impl.Fact]", by decide, Tryz.func230.trans (congrArg some (by kernel_rfl))⟩
 f21 := ⟨"slices.heapSortCmpFunc[loop.example/g01985/impl.Fact]", by decide, Tryz.func231.trans (congrArg some (by kernel_rfl))⟩
 f22 := ⟨"slices.breakPatternsCmpFunc[loop.example/g01985/impl.Fact]", by decide, Tryz.func232.trans (congrArg some (by kernel_rfl))⟩
 f23 := ⟨"slices.choosePivotCmpFunc[loop.example/g01985/impl.Fact]", by decide, Tryz.func233.trans (congrArg some (by kernel_rfl))⟩
 f24 := ⟨"slices.reverseRangeCmpFunc[loop.example/g01985/impl.Fact]", by decide, Tryz.func234.trans (congrArg some (by kernel_rfl))⟩
 f25 := ⟨"slices.partialInsertionSortCmpFunc[loop.example/g01985/impl.Fact]", by decide, Tryz.func235.trans (congrArg some (by kernel_rfl))⟩
 f26 := ⟨"slices.partitionEqualCmpFunc[loop.example/g01985/impl.Fact]", by decide, Tryz.func236.trans (congrArg some (by kernel_rfl))⟩
 f27 := ⟨"slices.partitionCmpFunc[loop.example/g01985/impl.Fact]", by decide, Tryz.func237.trans (congrArg some (by kernel_rfl))⟩
 f28 := Tryz.func208.trans (congrArg some (by kernel_rfl))
 f29 := Tryz.func209.trans (congrArg some (by kernel_rfl))
 f46 := ⟨"slices.siftDownCmpFunc[loop.example/g01985/impl.Fact]", by decide, Tryz.func247.trans (congrArg some (by kernel_rfl))⟩
 f47 := Tryz.func226.trans (congrArg some (by kernel_rfl))
 f48 := Tryz.func227.trans (congrArg some (by kernel_rfl))
 f49 := ⟨"slices.medianAdjacentCmpFunc[loop.example/g01985/impl.Fact]", by decide, Tryz.func248.trans (congrArg some (by kernel_rfl))⟩
 f50 := ⟨"slices.medianCmpFunc[loop.example/g01985/impl.Fact]", by decide, Tryz.func249.trans (congrArg some (by kernel_rfl))⟩
 f57 := ⟨"slices.order2CmpFunc[loop.example/g01985/impl.Fact]", by decide, Tryz.func251.trans (congrArg some (by kernel_rfl))⟩
 t0 := Tryz.underlying0
 a0 := Tryz.isAgg0
 z0 := Tryz.sizeOf0
 v0 := Tryz.zeroValue0
 t3 := Tryz.underlying3
 a3 := Tryz.isAgg3
 z3 := Tryz.sizeOf3
 v3 := Tryz.zeroValue3
 t4 := Tryz.underlying4
 a4 := Tryz.isAgg4
 z4 := Tryz.sizeOf4
 v4 := Tryz.zeroValue4
 t5 := Tryz.underlying5
 a5 := Tryz.isAgg5
 z5 := Tryz.sizeOf5
 v5 := Tryz.zeroValue5
 t9 := Tryz.underlying9
 a9 := Tryz.isAgg9
 z9 := Tryz.sizeOf9
 v9 := Tryz.zeroValue9
 t22 := Tryz.underlying30
 a22 := Tryz.isAgg30
 z22 := Tryz.sizeOf30
 v22 := Tryz.zeroValue30
 t25 := Tryz.underlying152
 a25 := Tryz.isAgg152
 z25 := Tryz.sizeOf152
 v25 := Tryz.zeroValue152
 t39 := Tryz.underlying157
 a39 := Tryz.isAgg157
 z39 := Tryz.sizeOf157
 v39 := Tryz.zeroValue157
 t45 := Tryz.underlying185
 a45 := Tryz.isAgg185
 z45 := Tryz.sizeOf185
 v45 := Tryz.zeroValue185
 t46 := Tryz.underlying186
 a46 := Tryz.isAgg186
 z46 := Tryz.sizeOf186
 v46 := Tryz.zeroValue186
 t50 := Tryz.underlying190
 a50 := Tryz.isAgg190
 z50 := Tryz.sizeOf190
 v50 := Tryz.zeroValue190
 t53 := Tryz.underlying193
 a53 := Tryz.isAgg193
 z53 := Tryz.sizeOf193
 v53 := Tryz.zeroValue193
 t55 := Tryz.underlying195
 a55 := Tryz.isAgg195
 z55 := Tryz.sizeOf195
 v55 := Tryz.zeroValue195
 t66 := Tryz.underlying209
 a66 := Tryz.isAgg209
 z66 := Tryz.sizeOf209
 v66 := Tryz.zeroValue209
 t70 := Tryz.underlying213
 a70 := Tryz.isAgg213
 z70 := Tryz.sizeOf213
 v70 := Tryz.zeroValue213
 t76 := Tryz.underlying226
 a76 := Tryz.isAgg226
 z76 := Tryz.sizeOf226
 v76 := Tryz.zeroValue226
 t77 := Tryz.underlying227
 a77 := Tryz.isAgg227
 z77 := Tryz.sizeOf227
 v77 := Tryz.zeroValue227
def a04 : Ren := ⟨fun x => match x with | 6 => 69 | 15 => 150 | 14 => 149 | 28 => 208 | 29 => 209 | 20 => 200 | 21 => 201 | 22 => 202 | 23 => 203 | 24 => 204 | 25 => 205 | 26 => 206 | 27 => 207 | 46 => 225 | 47 => 226 | 48 => 227 | 49 => 228 | 50 => 229 | 57 => 246 | n => n, fun x => match x with | 22 => 33 | 24 => 24 | 25 => 103 | 3 => 3 | 39 => 157 | 0 => 0 | 53 => 193 | 55 => 195 | 4 => 4 | 46 => 186 | 45 => 185 | 50 => 190 | 5 => 5 | 9 => 9 | 66 => 209 | 70 => 213 | 76 => 226 | 77 => 227 | n => n, fun x => have n := x; n⟩
theorem SH : SlLaysF.n6 Tryz.prog a04 where
 mixed := mx
 f6 := ⟨"slices.SortFunc[[][]int,[]int]", by decide, Tryz.func69.trans (congrArg some (by kernel_rfl))⟩
 f14 := ⟨"slices.pdqsortCmpFunc[[]int]", by decide, Tryz.func149.trans (congrArg some (by kernel_rfl))⟩
 f15 := Tryz.func150.trans (congrArg some (by kernel_rfl))
 f20 := ⟨"slices.insertionSortCmpFunc[[]int]", by decide, Tryz.func200.trans (congrArg some (by kernel_rfl))⟩
 f21 := ⟨"slices.heapSortCmpFunc[[]int]", by decide, Tryz.func201.trans (congrArg some (by kernel_rfl))⟩
 f22 := ⟨"slices.breakPatternsCmpFunc[[]int]", by decide, Tryz.func202.trans (congrArg some (by kernel_rfl))⟩
 f23 := ⟨"slices.choosePivotCmpFunc[[]int]", by decide, Tryz.func203.trans (congrArg some (by kernel_rfl))⟩
 f24 := ⟨"slices.reverseRangeCmpFunc[[]int]", by decide, Tryz.func204.trans (congrArg some (by kernel_rfl))⟩
 f25 := ⟨"slices.partialInsertionSortCmpFunc[[]int]", by decide, Tryz.func205.trans (congrArg some (by kernel_rfl))⟩
 f26 := ⟨"slices.partitionEqualCmpFunc[[]int]", by decide, Tryz.func206.trans (congrArg some (by kernel_rfl))⟩
 f27 := ⟨"slices.partitionCmpFunc[[]int]", by decide, Tryz.func207.trans (congrArg some (by kernel_rfl))⟩
 f28 := Tryz.func208.trans (congrArg some (by kernel_rfl))
 f29 := Tryz.func209.trans (congrArg some (by kernel_rfl))
 f46 := ⟨"slices.siftDownCmpFunc[[]int]", by decide, Tryz.func225.trans (congrArg some (by kernel_rfl))⟩
 f47 := Tryz.func226.trans (congrArg some (by kernel_rfl))
 f48 := Tryz.func227.trans (congrArg some (by kernel_rfl))
 f49 := ⟨"slices.medianAdjacentCmpFunc[[]int]", by decide, Tryz.func228.trans (congrArg some (by kernel_rfl))⟩
 f50 := ⟨"slices.medianCmpFunc[[]int]", by decide, Tryz.func229.trans (congrArg some (by kernel_rfl))⟩
 f57 := ⟨"slices.order2CmpFunc[[]int]", by decide, Tryz.func246.trans (congrArg some (by kernel_rfl))⟩
 t0 := Tryz.underlying0
 a0 := Tryz.isAgg0
 z0 := Tryz.sizeOf0
 v0 := Tryz.zeroValue0
 t3 := Tryz.underlying3
 a3 := Tryz.isAgg3
 z3 := Tryz.sizeOf3
 v3 := Tryz.zeroValue3
 t4 := Tryz.underlying4
 a4 := Tryz.isAgg4
 z4 := Tryz.sizeOf4
 v4 := Tryz.zeroValue4
 t5 := Tryz.underlying5
 a5 := Tryz.isAgg5
 z5 := Tryz.sizeOf5
 v5 := Tryz.zeroValue5
 t9 := Tryz.underlying9
 a9 := Tryz.isAgg9
 z9 := Tryz.sizeOf9
 v9 := Tryz.zeroValue9
 t22 := Tryz.underlying33
 a22 := Tryz.isAgg33
 z22 := Tryz.sizeOf33
 v22 := Tryz.zeroValue33
 a24 := Tryz.isAgg24
 z24 := Tryz.sizeOf24
 t25 := Tryz.underlying103
 a25 := Tryz.isAgg103
 z25 := Tryz.sizeOf103
 v25 := Tryz.zeroValue103
 t39 := Tryz.underlying157
 a39 := Tryz.isAgg157
 z39 := Tryz.sizeOf157
 v39 := Tryz.zeroValue157
 t45 := Tryz.underlying185
 a45 := Tryz.isAgg185
 z45 := Tryz.sizeOf185
 v45 := Tryz.zeroValue185
 t46 := Tryz.underlying186
 a46 := Tryz.isAgg186
 z46 := Tryz.sizeOf186
 v46 := Tryz.zeroValue186
 t50 := Tryz.underlying190
 a50 := Tryz.isAgg190
 z50 := Tryz.sizeOf190
 v50 := Tryz.zeroValue190
 t53 := Tryz.underlying193
 a53 := Tryz.isAgg193
 z53 := Tryz.sizeOf193
 v53 := Tryz.zeroValue193
 t55 := Tryz.underlying195
 a55 := Tryz.isAgg195
 z55 := Tryz.sizeOf195
 v55 := Tryz.zeroValue195
 t66 := Tryz.underlying209
 a66 := Tryz.isAgg209
 z66 := Tryz.sizeOf209
 v66 := Tryz.zeroValue209
 t70 := Tryz.underlying213
 a70 := Tryz.isAgg213
 z70 := Tryz.sizeOf213
 v70 := Tryz.zeroValue213
 t76 := Tryz.underlying226
 a76 := Tryz.isAgg226
 z76 := Tryz.sizeOf226
 v76 := Tryz.zeroValue226
 t77 := Tryz.underlying227
 a77 := Tryz.isAgg227
 z77 := Tryz.sizeOf227
 v77 := Tryz.zeroValue227
end Go.Proofs.YtboolngaahifdaaGreatD
namespace Go.Proofs.YtboolngaahifdaaGreatD
open Go Go.Proofs Go.RowKit Go.Shelf Go.Sort Go.Lib
end Go.Proofs.YtboolngaahifdaaGreatD
