/- Contracts and plain laws of this seat; no condition. -/
import Derived.Test.YtboolngaahifdaaGreatQ28
import Derived.Test.YtboolngaahifdaaGreatQ22
import Derived.Test.YtboolngaahifdaaGreatQ29
import Derived.Test.YtboolngaahifdaaGreatQ30
set_option linter.unusedVariables false
set_option linter.unusedSimpArgs false
set_option maxRecDepth 100000
namespace Go.Proofs.YtboolngaahifdaaGreatD
open Go Go.Proofs
def dH (s : List Int) (a b : cI) (db : List aG) : Bool := qA s db && !decide (bZ s a db = bZ s b db)
def oF (s : List Int) (a b : cI) (D : List aG) (v : Nat) : Option (List aG) := if dH s a b (twS D (fz (v : Nat))) then some (twS D (fz (v : Nat))) else none
def gV (s : List Int) (a b q : cI) : Option (List aG) := if dH s a b (bK q).1 then some (bK q).1 else (List.range 20).findSome? (oF s a b (bK q).1)
def WF : Option (List aG) → List aG × Bool
 | some d => (d, true)
 | none => ([], false)
def d8 (s : List Int) (a b : cI) : List aG × Bool := if aH s a && aH s b then WF ((gV s a b a).or (gV s a b b)) else ([], false)
def vBW (s : List Int) (a b : cI) : V := .tup [fP (d8 s a b).1, cb (d8 s a b).2]
theorem m0 (s : List Int) (q : cI) (db : List aG) : cJ (bZ s q db) ≤ 1099511627776 := by
 unfold bZ
 split
 ·rename_i h
  simp only [Bool.and_eq_true] at h
  obtain ⟨t1, t2, t3⟩ := gP h.1
  have hr := (LE q db).2
  have hd := xO h.2
  have hq3 := (qB h.1).2.2.1
  have hp : db.length ^ q.2.length ≤ 24 ^ 4 := Nat.le_trans (Nat.pow_le_pow_left hd _) (Nat.pow_le_pow_right (by decide) (qB h.1).2.2.2.1)
  have hb := CM (lB false ((oH q db).map fun v => q.1.map (tS v)))
  have hs := v6 false ((oH q db).map fun v => q.1.map (tS v))
  rw [List.length_map] at hs
  have h4 := u3 fS 3 (vW (lB false ((oH q db).map fun v => q.1.map (tS v)))) fun p hp => by
   have := (hb.2 p hp).2.2
   obtain ⟨v, _, e⟩ := List.mem_map.1 (uR this)
   show p.1.length ≤ 3
   rw [← e, List.length_map]; exact hq3
  have h24 : (24 : Nat) ^ 4 = 331776 := by decide
  show (vW _).length + bS fS _ ≤ _
  omega
 ·show (0 : Nat) + 0 ≤ _; omega
theorem p7 (l : List dV) : roV (vA l) = aY l := rQ l
theorem kP (s : List Int) (a b : cI) (db : List aG) (hs : cT s ≤ 1048576) (ha : aC a ≤ 1048576) (hb : aC b ≤ 1048576) (hd : d6 db ≤ 1048576) : bI Tryz.prog 98 [aV s, aP a, aP b, c7 db] (cb (dH s a b db)) := by
 have hs' : s.length ≤ 1099511627776 := by unfold cT at hs; omega
 refine aF mx aJ Tryz.func98 rfl ?_
 unfold dH
 conv => whnf
 refine ⟨[0, 1, 2, 3, 4, 5, 6, 8, 9, 10, 7, 11, 12, 13, 14, 15], by kernel_rfl, ?_⟩
 conv => whnf
 refine ⟨_, mY s db hs' hd, .inl rfl, .inl ?_⟩
 conv => whnf
 generalize qA s db = c
 cases c with
 | false =>
  conv => whnf
  rfl
 | true =>
 conv => whnf
 refine ⟨_, d9 s a db hs ha hd, .inl rfl, .inl ?_⟩
 rw [p7]
 conv => whnf
 refine ⟨_, d9 s b db hs hb hd, .inl rfl, .inl ?_⟩
 rw [p7]
 conv => whnf
 refine ⟨_, fQ (bZ s a db) (bZ s b db) (m0 s a db) (m0 s b db), .inl rfl, .inl ?_⟩
 conv => whnf
 rfl
theorem oQ (s : List Int) (a b : cI) (db : List aG) (hs : cT s ≤ 1048576) (ha : aC a ≤ 1048576) (hb : aC b ≤ 1048576) (hd : d6 db ≤ 1048576) : bI Tryz.prog 103 [c7 db, .rp [aW s], .rp (aO a), .rp (aO b)] (cb (dH s a b db)) := by
 have hs' : s.length ≤ 1099511627776 := by unfold cT at hs; omega
 refine aF mx aJ Tryz.func103 rfl ?_
 unfold dH
 conv => whnf
 refine ⟨[0, 1, 2, 3, 4, 5, 6, 8, 9, 10, 7, 11, 12, 13, 14, 15], by kernel_rfl, ?_⟩
 conv => whnf
 refine ⟨_, rfl, ?_⟩
 conv => whnf
 refine ⟨_, mR s db hs' hd, .inl rfl, .inl ?_⟩
 conv => whnf
 generalize qA s db = c
 cases c with
 | false =>
  conv => whnf
  rfl
 | true =>
 conv => whnf
 refine ⟨_, rfl, ?_⟩
 conv => whnf
 refine ⟨_, rfl, ?_⟩
 conv => whnf
 refine ⟨_, rfl, ?_⟩
 conv => whnf
 refine ⟨_, rfl, ?_⟩
 conv => whnf
 refine ⟨_, l8 s a db hs ha hd, .inl rfl, .inl ?_⟩
 rw [p7]
 conv => whnf
 refine ⟨_, l8 s b db hs hb hd, .inl rfl, .inl ?_⟩
 rw [p7]
 conv => whnf
 refine ⟨_, eA (bZ s a db) (bZ s b db) (m0 s a db) (m0 s b db), .inl rfl, .inl ?_⟩
 conv => whnf
 rfl
theorem nK {s : List Int} {q : cI} (h : aH s q = true) : fR ltF (bK q).1 ∧ (bK q).1.length ≤ 8 ∧ ∀ f ∈ (bK q).1, f.2.length ≤ 3 := by
 have hk := X6 h
 have e : (bK q).1 = (q.2.map fzF).foldl gH [] := by unfold bK; rw [if_pos hk]
 rw [e]
 obtain ⟨h1, h2, h3, h4, h5⟩ := qB h
 obtain ⟨s1, s2⟩ := o9 (q.2.map fzF) [] (fun x hx => by
  obtain ⟨y, hy, rfl⟩ := List.mem_map.1 hx
  have := J3 (h5 y hy).1
  simp only [fzF, List.length_map]; omega) (fun x hx => by cases hx)
 rw [List.length_map] at s2
 simp only [List.length_nil] at s2
 exact ⟨(wJ _ [] List.Pairwise.nil).1, by omega, s1⟩
theorem a27 (v : Nat) : fz ((v : Nat) : Int) = 80 + (v : Nat) := by
 unfold fz
 rw [if_neg (by omega)]
theorem a19 {s : List Int} {a b q : cI} (h : aH s q = true) (hd : dH s a b (bK q).1 = false) {v : Nat} (hv : v < 20) (hn : QS q v = false) : oF s a b (bK q).1 v = none := by
 obtain ⟨h1, _, _⟩ := nK h
 have e : twS (bK q).1 (fz (v : Nat)) = (bK q).1 := a17 h1 fun f hf x hx he => by
  have hk := X6 h
  have e : (bK q).1 = (q.2.map fzF).foldl gH [] := by unfold bK; rw [if_pos hk]
  rw [e] at hf
  obtain ⟨c, hc, rfl⟩ := (ZU q f).1 hf
  obtain ⟨t, ht, rfl⟩ := List.mem_map.1 hx
  have htm := List.all_eq_true.1 ((qB h).2.2.2.2 c hc).2 t ht
  have hr := qQ htm
  have htv : t = (v : Int) := by
   rw [a28 htm, a27] at he
   unfold val fzv at he
   split at he
   ·omega
   ·rename_i hvr
    have h0 : ¬ 0 ≤ t := fun h0 => hvr ((nD htm).2 h0)
    omega
  have ho : iU q (v : Int) = true := by
   simp only [iU, PY, List.any_eq_true, has, eqV, beq_iff_eq]
   exact ⟨c, hc, t, ht, by simp [htv]⟩
  unfold QS at hn
  rw [ho, Bool.true_or] at hn
  cases hn
 unfold oF
 rw [e, hd]
 rfl
theorem B4 {α β : Type} (f : α → Option β) (p : α → Bool) : ∀ (l : List α), (∀ x ∈ l, p x = false → f x = none) → (l.filter p).findSome? f = l.findSome? f
 | [], _ => rfl
 | x :: l, h => by
  have ih := B4 f p l fun y hy => h y (by simp [hy])
  cases hp : p x with
  | true => rw [List.filter_cons_of_pos hp, List.findSome?_cons, List.findSome?_cons, ih]
  | false => rw [List.filter_cons_of_neg (by simp [hp]), List.findSome?_cons, h x (by simp) hp, ih]
theorem GG (q : cI) : (oG q).length ≤ 20 := GI q 20
theorem GH (q : cI) : ∀ x ∈ oG q, 0 ≤ x ∧ x < 20 := fun x hx => by
 obtain ⟨k, hk, rfl⟩ := List.mem_map.1 hx
 have := List.mem_range.1 (List.mem_filter.1 hk).1
 exact ⟨Int.natCast_nonneg k, by show (k : Int) < 20; omega⟩
def GC (s : List Int) (a b : cI) (D : List aG) (x : Int) : Option (List aG) := if dH s a b (twS D (fz x)) then some (twS D (fz x)) else none
theorem RT {s : List Int} {a b q : cI} (h : aH s q = true) (hd : dH s a b (bK q).1 = false) : (oG q).findSome? (GC s a b (bK q).1) = (List.range 20).findSome? (oF s a b (bK q).1) := by
 rw [← B4 (oF s a b (bK q).1) (QS q) (List.range 20) fun v hv hp => a19 h hd (List.mem_range.1 hv) hp]
 unfold oG pL
 rw [List.findSome?_map]
 rfl
theorem uG {α β : Type} (f : α → Option β) {l : List α} {k : Nat} (hk : k < l.length) : (l.drop k).findSome? f = (f l[k]).or ((l.drop (k + 1)).findSome? f) := by
 rw [List.drop_eq_getElem_cons hk, List.findSome?_cons]
 cases f l[k] <;> rfl
theorem qS {s : List Int} {q : cI} (h : aH s q = true) (v : Int) : d6 (twS (bK q).1 v) ≤ 1048576 := by
 obtain ⟨h1, h2, h3⟩ := nK h
 exact (CX h2 h3 (by rw [TU]; omega) (J9 h3 v)).2.2
theorem lU {s : List Int} {a b : cI} (ha : aH s a = true) (hb : aH s b = true) {o : Option (List aG)} (h : (gV s a b a).or (gV s a b b) = o) : vBW s a b = .tup [fP (WF o).1, cb (WF o).2] := by
 unfold vBW d8
 rw [ha, hb, Bool.and_self, if_pos rfl, h]
set_option maxHeartbeats 4000000 in
theorem oC (s : List Int) (a b : cI) (hs : cT s ≤ 1048576) (ha : aC a ≤ 1048576) (hb : aC b ≤ 1048576) : bI Tryz.prog 29 [aV s, aP a, aP b] (vBW s a b) := by
 refine aF mx aJ Tryz.func29 rfl ?_
 conv => whnf
 refine ⟨_, dU s a hs ha, .inl rfl, .inl ?_⟩
 conv => whnf
 generalize hqa : aH s a = b1
 cases b1 with
 | false =>
  conv => whnf
  unfold vBW d8
  rw [hqa]
  exact ⟨rfl, rfl⟩
 | true =>
 conv => whnf
 refine ⟨_, dU s b hs hb, .inl rfl, .inl ?_⟩
 conv => whnf
 generalize hqb : aH s b = b2
 cases b2 with
 | false =>
  conv => whnf
  unfold vBW d8
  rw [hqa, hqb]
  exact ⟨rfl, rfl⟩
 | true =>
 conv => whnf
 refine ⟨[(3,0),(4,0),(5,0),(6,0),(7,0),(8,0)], fun m st => ∃ (k : Nat) (e : Int), e = k ∧ m + k = 2 ∧ (0 < k → gV s a b a = none) ∧ (1 < k → gV s a b b = none) ∧
  st = ⟨59, [(3, .ptr 0 0), (4, .ptr 1 0), (5, .ptr 2 0), (6, cG), (7, cb false), (8, ci e)], [some ⟨true, [aW s]⟩, some ⟨true, aO a⟩, some ⟨true, aO b⟩]⟩, 2, ⟨0, 0, rfl, rfl, by omega, by omega, rfl⟩, ?_⟩
 rintro m st ⟨k, _, rfl, hm, hi0, hi1, rfl⟩
 conv => whnf
 split <;> rename_i h1
 all_goals simp only [decide_eq_true_eq, decide_eq_false_iff_not] at h1
 ·conv => whnf
  obtain rfl | rfl : k = 0 ∨ k = 1 := by omega
  ·have hfz := (kU a ha).1
   obtain ⟨f1, f2, f3⟩ := nK hqa
   have hdef : gV s a b a = if dH s a b (bK a).1 then some (bK a).1 else (List.range 20).findSome? (oF s a b (bK a).1) := rfl
   have htw := fun v => qS (s := s) hqa v
   have hF := s4 a ha
   unfold mE at hF
   generalize (bK a).1 = D at hfz f1 f2 f3 hdef htw hF
   generalize (bK a).2 = hd0 at hF
   rw [show (((0 : Nat) : Int) == 1) = false from by decide]
   conv => whnf
   refine ⟨_, hF, .inl rfl, .inr ?_⟩
   conv => whnf
   refine .inl ?_
   conv => whnf
   refine ⟨_, _, aN (by rw [a6 aT]), bF dL _, ?_⟩
   conv => whnf
   refine ⟨_, kP s a b D hs ha hb hfz, .inr trivial, .inl ?_⟩
   generalize hdf : dH s a b D = df at hdef
   cases df with
   | true =>
    conv => whnf
    rw [if_pos rfl] at hdef
    refine ⟨by rw [a6 aT], ?_⟩
    rw [lU hqa hqb (o := some D) (by rw [hdef]; rfl)]
    rfl
   | false =>
    rw [if_neg (by simp)] at hdef
    conv => whnf
    refine ⟨[(3,0),(4,0),(5,0),(6,0),(7,0),(8,0),(10,0),(12,0)], fun m st => ∃ (v : Nat) (e : Int), e = v ∧ m + v = 20 ∧ gV s a b a = ((List.range 20).drop v).findSome? (oF s a b D) ∧
     st = ⟨59, [(3, .ptr 0 0), (4, .ptr 1 0), (5, .ptr 2 0), (6, cG), (7, cb false), (8, ci (0 : Nat)), (10, .own 3 2 0 D.length D.length none), (12, ci e)], [some ⟨true, [aW s]⟩, some ⟨true, aO a⟩, some ⟨true, aO b⟩, some ⟨false, aB cF D⟩]⟩, 20, ⟨0, 0, rfl, rfl, hdef, by kernel_rfl⟩, ?_⟩
    rintro m2 st ⟨v, _, rfl, hm2, hfs, rfl⟩
    conv => whnf
    split <;> rename_i h2
    all_goals simp only [decide_eq_true_eq, decide_eq_false_iff_not] at h2
    ·conv => whnf
     have hv : v < (List.range 20).length := by rw [List.length_range]; omega
     rw [uG _ hv, List.getElem_range] at hfs
     refine ⟨_, r5 (v : Nat) (by simp [aU, inR]; omega), .inl rfl, .inl ?_⟩
     conv => whnf
     refine .inl ?_
     conv => whnf
     refine ⟨_, _, aN (by rw [a6 aT]), bF dL _, ?_⟩
     conv => whnf
     refine ⟨_, vK D (fz (v : Nat)) f2 f3, .inr (fK _), .inr ?_⟩
     have htwv := htw (fz (v : Nat))
     unfold oF at hfs
     generalize twS D (fz (v : Nat)) = X at hfs htwv
     conv => whnf
     refine .inl ?_
     conv => whnf
     refine ⟨_, _, aN (by rw [a6 aT]), bF dL _, ?_⟩
     conv => whnf
     refine ⟨_, kP s a b X hs ha hb htwv, .inr trivial, .inl ?_⟩
     generalize hdf2 : dH s a b X = df2 at hfs
     cases df2 with
     | true =>
      conv => whnf
      rw [if_pos rfl, Option.some_or] at hfs
      refine ⟨by rw [a6 aT], ?_⟩
      rw [lU hqa hqb (o := some X) (by rw [hfs]; rfl)]
      rfl
     | false =>
      rw [if_neg (by simp), Option.none_or] at hfs
      conv => whnf
      exact ⟨m2 - 1, by omega, v + 1, _, a8 (by omega) (by omega), by omega, hfs, by kernel_rfl⟩
    ·conv => whnf
     have hvv : v = 20 := by omega
     subst hvv
     rw [List.drop_eq_nil_of_le (by rw [List.length_range]; omega), List.findSome?_nil] at hfs
     refine ⟨m - 1, by omega, 0 + 1, _, rfl, by omega, ?_, ?_, by kernel_rfl⟩
     ·exact fun _ => hfs
     ·exact fun h => absurd h (by omega)
  ·have hfz := (kU b hb).1
   obtain ⟨f1, f2, f3⟩ := nK hqb
   have hdef : gV s a b b = if dH s a b (bK b).1 then some (bK b).1 else (List.range 20).findSome? (oF s a b (bK b).1) := rfl
   have htw := fun v => qS (s := s) hqb v
   have hF := s4 b hb
   unfold mE at hF
   generalize (bK b).1 = D at hfz f1 f2 f3 hdef htw hF
   generalize (bK b).2 = hd0 at hF
   rw [show (((1 : Nat) : Int) == 1) = true from by decide]
   conv => whnf
   refine ⟨_, hF, .inl rfl, .inr ?_⟩
   conv => whnf
   refine .inl ?_
   conv => whnf
   refine ⟨_, _, aN (by rw [a6 aT]), bF dL _, ?_⟩
   conv => whnf
   refine ⟨_, kP s a b D hs ha hb hfz, .inr trivial, .inl ?_⟩
   generalize hdf : dH s a b D = df at hdef
   cases df with
   | true =>
    conv => whnf
    rw [if_pos rfl] at hdef
    refine ⟨by rw [a6 aT], ?_⟩
    rw [lU hqa hqb (o := some D) (by rw [hi0 (by omega), hdef]; rfl)]
    rfl
   | false =>
    rw [if_neg (by simp)] at hdef
    conv => whnf
    refine ⟨[(3,0),(4,0),(5,0),(6,0),(7,0),(8,0),(10,0),(12,0)], fun m st => ∃ (v : Nat) (e : Int), e = v ∧ m + v = 20 ∧ gV s a b b = ((List.range 20).drop v).findSome? (oF s a b D) ∧
     st = ⟨59, [(3, .ptr 0 0), (4, .ptr 1 0), (5, .ptr 2 0), (6, cG), (7, cb false), (8, ci (1 : Nat)), (10, .own 3 2 0 D.length D.length none), (12, ci e)], [some ⟨true, [aW s]⟩, some ⟨true, aO a⟩, some ⟨true, aO b⟩, some ⟨false, aB cF D⟩]⟩, 20, ⟨0, 0, rfl, rfl, hdef, by kernel_rfl⟩, ?_⟩
    rintro m2 st ⟨v, _, rfl, hm2, hfs, rfl⟩
    conv => whnf
    split <;> rename_i h2
    all_goals simp only [decide_eq_true_eq, decide_eq_false_iff_not] at h2
    ·conv => whnf
     have hv : v < (List.range 20).length := by rw [List.length_range]; omega
     rw [uG _ hv, List.getElem_range] at hfs
     refine ⟨_, r5 (v : Nat) (by simp [aU, inR]; omega), .inl rfl, .inl ?_⟩
     conv => whnf
     refine .inl ?_
     conv => whnf
     refine ⟨_, _, aN (by rw [a6 aT]), bF dL _, ?_⟩
     conv => whnf
     refine ⟨_, vK D (fz (v : Nat)) f2 f3, .inr (fK _), .inr ?_⟩
     have htwv := htw (fz (v : Nat))
     unfold oF at hfs
     generalize twS D (fz (v : Nat)) = X at hfs htwv
     conv => whnf
     refine .inl ?_
     conv => whnf
     refine ⟨_, _, aN (by rw [a6 aT]), bF dL _, ?_⟩
     conv => whnf
     refine ⟨_, kP s a b X hs ha hb htwv, .inr trivial, .inl ?_⟩
     generalize hdf2 : dH s a b X = df2 at hfs
     cases df2 with
     | true =>
      conv => whnf
      rw [if_pos rfl, Option.some_or] at hfs
      refine ⟨by rw [a6 aT], ?_⟩
      rw [lU hqa hqb (o := some X) (by rw [hi0 (by omega), hfs]; rfl)]
      rfl
     | false =>
      rw [if_neg (by simp), Option.none_or] at hfs
      conv => whnf
      exact ⟨m2 - 1, by omega, v + 1, _, a8 (by omega) (by omega), by omega, hfs, by kernel_rfl⟩
    ·conv => whnf
     have hvv : v = 20 := by omega
     subst hvv
     rw [List.drop_eq_nil_of_le (by rw [List.length_range]; omega), List.findSome?_nil] at hfs
     refine ⟨m - 1, by omega, 1 + 1, _, rfl, by omega, ?_, ?_, by kernel_rfl⟩
     ·exact fun _ => hi0 (by omega)
     ·exact fun _ => hfs
 ·conv => whnf
  have hkk : k = 2 := by omega
  subst hkk
  rw [lU hqa hqb (o := none) (by rw [hi0 (by omega), hi1 (by omega)]; rfl)]
  exact ⟨rfl, rfl⟩
set_option maxHeartbeats 4000000 in
theorem nY (s : List Int) (a b : cI) (hs : cT s ≤ 1048576) (ha : aC a ≤ 1048576) (hb : aC b ≤ 1048576) : bI Tryz.prog 32 [aV s, aP a, aP b] (vBW s a b) := by
 refine aF mx aJ Tryz.func32 rfl ?_
 conv => whnf
 refine ⟨_, dS s a hs ha, .inl rfl, .inl ?_⟩
 conv => whnf
 generalize hqa : aH s a = b1
 cases b1 with
 | false =>
  conv => whnf
  unfold vBW d8
  rw [hqa]
  exact ⟨rfl, rfl⟩
 | true =>
 conv => whnf
 refine ⟨_, dS s b hs hb, .inl rfl, .inl ?_⟩
 conv => whnf
 generalize hqb : aH s b = b2
 cases b2 with
 | false =>
  conv => whnf
  unfold vBW d8
  rw [hqa, hqb]
  exact ⟨rfl, rfl⟩
 | true =>
 conv => whnf
 refine ⟨[(3,0),(4,0),(5,0),(6,0),(7,0),(8,0),(30,0),(31,0),(32,0)], fun m st => ∃ (k : Nat) (e : Int), e = k ∧ m + k = 2 ∧ (0 < k → gV s a b a = none) ∧ (1 < k → gV s a b b = none) ∧
  st = ⟨63, [(3, .ptr 0 0), (4, .ptr 1 0), (5, .ptr 2 0), (6, cG), (7, cb false), (8, .fn 103 [.ptr 0 0, .ptr 1 0, .ptr 2 0]), (30, .own 3 2 0 2 2 none), (31, ci 2), (32, ci e)], [some ⟨true, [aW s]⟩, some ⟨true, aO a⟩, some ⟨true, aO b⟩, some ⟨false, aO a ++ aO b⟩]⟩, 2, ⟨0, 0, rfl, rfl, by omega, by omega, rfl⟩, ?_⟩
 rintro m st ⟨k, _, rfl, hm, hi0, hi1, rfl⟩
 conv => whnf
 split <;> rename_i h1
 all_goals simp only [decide_eq_true_eq, decide_eq_false_iff_not] at h1
 ·conv => whnf
  obtain rfl | rfl : k = 0 ∨ k = 1 := by omega
  ·have hfz := (kU a ha).1
   obtain ⟨f1, f2, f3⟩ := nK hqa
   have hdef : gV s a b a = if dH s a b (bK a).1 then some (bK a).1 else (List.range 20).findSome? (oF s a b (bK a).1) := rfl
   have hbv := RT (a := a) (b := b) hqa
   have htw := fun v => qS (s := s) hqa v
   have hF := rW a ha
   unfold mE at hF
   generalize (bK a).1 = D at hfz f1 f2 f3 hdef htw hF hbv
   generalize (bK a).2 = hd0 at hF
   refine ⟨by omega, ?_⟩
   conv => whnf
   refine ⟨_, rfl, ?_⟩
   conv => whnf
   refine ⟨_, hF, .inl rfl, .inr ?_⟩
   conv => whnf
   refine .inl ?_
   conv => whnf
   refine ⟨_, _, aN (by rw [a6 aT]), bF dL _, ?_⟩
   conv => whnf
   refine ⟨_, rfl, ?_⟩
   conv => whnf
   refine ⟨_, rfl, ?_⟩
   conv => whnf
   refine ⟨_, rfl, ?_⟩
   conv => whnf
   refine ⟨_, oQ s a b D hs ha hb hfz, .inr trivial, .inl ?_⟩
   generalize hdf : dH s a b D = df at hdef hbv
   cases df with
   | true =>
    conv => whnf
    rw [if_pos rfl] at hdef
    refine ⟨by rw [a6 aT], ?_⟩
    rw [lU hqa hqb (o := some D) (by rw [hdef]; rfl)]
    rfl
   | false =>
    rw [if_neg (by simp), ← hbv rfl] at hdef
    conv => whnf
    have hvl := GG a
    have hvn := GH a
    refine ⟨_, rY a ha, .inl rfl, .inl ?_⟩
    rw [show roV (bE (oG a)) = aW (oG a) from fW _]
    generalize oG a = VS at hdef hvl hvn
    conv => whnf
    refine ⟨[(3,0),(4,0),(5,0),(6,0),(7,0),(8,0),(11,0),(30,0),(31,0),(32,0),(46,0),(47,0),(48,0)], fun m st => ∃ (v : Nat) (e : Int), e = v ∧ m + v = VS.length ∧ gV s a b a = (VS.drop v).findSome? (GC s a b D) ∧
     st = ⟨63, [(3, .ptr 0 0), (4, .ptr 1 0), (5, .ptr 2 0), (6, cG), (7, cb false), (8, .fn 103 [.ptr 0 0, .ptr 1 0, .ptr 2 0]), (11, .own 3 2 0 D.length D.length none), (30, .own 4 2 0 2 2 none), (31, ci 2), (32, ci (0 : Nat)), (46, aW VS), (47, ci VS.length), (48, ci e)], [some ⟨true, [aW s]⟩, some ⟨true, aO a⟩, some ⟨true, aO b⟩, some ⟨false, aB cF D⟩, some ⟨false, aO a ++ aO b⟩]⟩, VS.length, ⟨0, 0, rfl, rfl, hdef, by kernel_rfl⟩, ?_⟩
    rintro m2 st ⟨v, _, rfl, hm2, hfs, rfl⟩
    conv => whnf
    split <;> rename_i h2
    all_goals simp only [decide_eq_true_eq, decide_eq_false_iff_not] at h2
    ·conv => whnf
     have hv : v < VS.length := by omega
     rw [uG _ hv] at hfs
     have hvr := hvn _ (List.getElem_mem hv)
     refine ⟨by omega, a6 a7 _, ?_⟩
     conv => whnf
     refine ⟨_, aD (k := v) a7 hv, ?_⟩
     conv => whnf
     refine ⟨_, t7 VS[v] (by simp [aU, inR]; omega), .inl rfl, .inl ?_⟩
     conv => whnf
     refine .inl ?_
     conv => whnf
     refine ⟨_, _, aN (by rw [a6 aT]), bF dL _, ?_⟩
     conv => whnf
     refine ⟨_, xD D (fz VS[v]) f1 f2 f3, .inr (fK _), .inr ?_⟩
     have htwv := htw (fz VS[v])
     unfold GC at hfs
     generalize twS D (fz VS[v]) = X at hfs htwv
     conv => whnf
     refine .inl ?_
     conv => whnf
     refine ⟨_, _, aN (by rw [a6 aT]), bF dL _, ?_⟩
     conv => whnf
     refine ⟨_, rfl, ?_⟩
     conv => whnf
     refine ⟨_, rfl, ?_⟩
     conv => whnf
     refine ⟨_, rfl, ?_⟩
     conv => whnf
     refine ⟨_, oQ s a b X hs ha hb htwv, .inr trivial, .inl ?_⟩
     generalize hdf2 : dH s a b X = df2 at hfs
     cases df2 with
     | true =>
      conv => whnf
      rw [if_pos rfl, Option.some_or] at hfs
      refine ⟨by rw [a6 aT], ?_⟩
      rw [lU hqa hqb (o := some X) (by rw [hfs]; rfl)]
      rfl
     | false =>
      rw [if_neg (by simp), Option.none_or] at hfs
      conv => whnf
      exact ⟨m2 - 1, by omega, v + 1, _, a8 (by omega) (by omega), by omega, hfs, by kernel_rfl⟩
    ·conv => whnf
     have hvv : v = VS.length := by omega
     subst hvv
     rw [List.drop_eq_nil_of_le (by omega), List.findSome?_nil] at hfs
     refine ⟨m - 1, by omega, 0 + 1, _, rfl, by omega, ?_, ?_, by kernel_rfl⟩
     ·exact fun _ => hfs
     ·exact fun h => absurd h (by omega)
  ·have hfz := (kU b hb).1
   obtain ⟨f1, f2, f3⟩ := nK hqb
   have hdef : gV s a b b = if dH s a b (bK b).1 then some (bK b).1 else (List.range 20).findSome? (oF s a b (bK b).1) := rfl
   have hbv := RT (a := a) (b := b) hqb
   have htw := fun v => qS (s := s) hqb v
   have hF := rW b hb
   unfold mE at hF
   generalize (bK b).1 = D at hfz f1 f2 f3 hdef htw hF hbv
   generalize (bK b).2 = hd0 at hF
   refine ⟨by omega, ?_⟩
   conv => whnf
   refine ⟨_, rfl, ?_⟩
   conv => whnf
   refine ⟨_, hF, .inl rfl, .inr ?_⟩
   conv => whnf
   refine .inl ?_
   conv => whnf
   refine ⟨_, _, aN (by rw [a6 aT]), bF dL _, ?_⟩
   conv => whnf
   refine ⟨_, rfl, ?_⟩
   conv => whnf
   refine ⟨_, rfl, ?_⟩
   conv => whnf
   refine ⟨_, rfl, ?_⟩
   conv => whnf
   refine ⟨_, oQ s a b D hs ha hb hfz, .inr trivial, .inl ?_⟩
   generalize hdf : dH s a b D = df at hdef hbv
   cases df with
   | true =>
    conv => whnf
    rw [if_pos rfl] at hdef
    refine ⟨by rw [a6 aT], ?_⟩
    rw [lU hqa hqb (o := some D) (by rw [hi0 (by omega), hdef]; rfl)]
    rfl
   | false =>
    rw [if_neg (by simp), ← hbv rfl] at hdef
    conv => whnf
    have hvl := GG b
    have hvn := GH b
    refine ⟨_, rY b hb, .inl rfl, .inl ?_⟩
    rw [show roV (bE (oG b)) = aW (oG b) from fW _]
    generalize oG b = VS at hdef hvl hvn
    conv => whnf
    refine ⟨[(3,0),(4,0),(5,0),(6,0),(7,0),(8,0),(11,0),(30,0),(31,0),(32,0),(46,0),(47,0),(48,0)], fun m st => ∃ (v : Nat) (e : Int), e = v ∧ m + v = VS.length ∧ gV s a b b = (VS.drop v).findSome? (GC s a b D) ∧
     st = ⟨63, [(3, .ptr 0 0), (4, .ptr 1 0), (5, .ptr 2 0), (6, cG), (7, cb false), (8, .fn 103 [.ptr 0 0, .ptr 1 0, .ptr 2 0]), (11, .own 3 2 0 D.length D.length none), (30, .own 4 2 0 2 2 none), (31, ci 2), (32, ci (1 : Nat)), (46, aW VS), (47, ci VS.length), (48, ci e)], [some ⟨true, [aW s]⟩, some ⟨true, aO a⟩, some ⟨true, aO b⟩, some ⟨false, aB cF D⟩, some ⟨false, aO a ++ aO b⟩]⟩, VS.length, ⟨0, 0, rfl, rfl, hdef, by kernel_rfl⟩, ?_⟩
    rintro m2 st ⟨v, _, rfl, hm2, hfs, rfl⟩
    conv => whnf
    split <;> rename_i h2
    all_goals simp only [decide_eq_true_eq, decide_eq_false_iff_not] at h2
    ·conv => whnf
     have hv : v < VS.length := by omega
     rw [uG _ hv] at hfs
     have hvr := hvn _ (List.getElem_mem hv)
     refine ⟨by omega, a6 a7 _, ?_⟩
     conv => whnf
     refine ⟨_, aD (k := v) a7 hv, ?_⟩
     conv => whnf
     refine ⟨_, t7 VS[v] (by simp [aU, inR]; omega), .inl rfl, .inl ?_⟩
     conv => whnf
     refine .inl ?_
     conv => whnf
     refine ⟨_, _, aN (by rw [a6 aT]), bF dL _, ?_⟩
     conv => whnf
     refine ⟨_, xD D (fz VS[v]) f1 f2 f3, .inr (fK _), .inr ?_⟩
     have htwv := htw (fz VS[v])
     unfold GC at hfs
     generalize twS D (fz VS[v]) = X at hfs htwv
     conv => whnf
     refine .inl ?_
     conv => whnf
     refine ⟨_, _, aN (by rw [a6 aT]), bF dL _, ?_⟩
     conv => whnf
     refine ⟨_, rfl, ?_⟩
     conv => whnf
     refine ⟨_, rfl, ?_⟩
     conv => whnf
     refine ⟨_, rfl, ?_⟩
     conv => whnf
     refine ⟨_, oQ s a b X hs ha hb htwv, .inr trivial, .inl ?_⟩
     generalize hdf2 : dH s a b X = df2 at hfs
     cases df2 with
     | true =>
      conv => whnf
      rw [if_pos rfl, Option.some_or] at hfs
      refine ⟨by rw [a6 aT], ?_⟩
      rw [lU hqa hqb (o := some X) (by rw [hi0 (by omega), hfs]; rfl)]
      rfl
     | false =>
      rw [if_neg (by simp), Option.none_or] at hfs
      conv => whnf
      exact ⟨m2 - 1, by omega, v + 1, _, a8 (by omega) (by omega), by omega, hfs, by kernel_rfl⟩
    ·conv => whnf
     have hvv : v = VS.length := by omega
     subst hvv
     rw [List.drop_eq_nil_of_le (by omega), List.findSome?_nil] at hfs
     refine ⟨m - 1, by omega, 1 + 1, _, rfl, by omega, ?_, ?_, by kernel_rfl⟩
     ·exact fun _ => hi0 (by omega)
     ·exact fun _ => hfs
 ·conv => whnf
  have hkk : k = 2 := by omega
  subst hkk
  rw [lU hqa hqb (o := none) (by rw [hi0 (by omega), hi1 (by omega)]; rfl)]
  exact ⟨rfl, rfl⟩
theorem qN (x0 : List Int) (x1 x2 : cI) (h0 : cT x0 ≤ 1048576) (h1 : aC x1 ≤ 1048576) (h2 : aC x2 ≤ 1048576) : d6 (d8 x0 x1 x2).1 ≤ 1048576 := by
 unfold d8
 split
 ·rename_i h
  simp only [Bool.and_eq_true] at h
  have key : ∀ q : cI, aH x0 q = true → aC q ≤ 1048576 → ∀ d, gV x0 x1 x2 q = some d → d6 d ≤ 1048576 := fun q hq hc d hd => by
   unfold gV at hd
   split at hd
   ·cases hd; exact (kU q hc).1
   ·obtain ⟨v, _, hv⟩ := List.exists_of_findSome?_eq_some hd
    unfold oF at hv
    split at hv
    ·cases hv; exact qS hq _
    ·cases hv
  cases ho : (gV x0 x1 x2 x1).or (gV x0 x1 x2 x2) with
  | none => show (0 : Nat) + 0 ≤ _; omega
  | some d =>
   show d6 d ≤ _
   rcases Option.or_eq_some_iff.1 ho with h3 | ⟨_, h3⟩
   ·exact key x1 h.1 h1 d h3
   ·exact key x2 h.2 h2 d h3
 ·show (0 : Nat) + 0 ≤ _; omega
theorem MH {s : List Int} {a b : cI} (h : (d8 s a b).2 = true) : dH s a b (d8 s a b).1 = true := by
 unfold d8 at h ⊢
 split
 ·rename_i hc
  rw [if_pos hc] at h
  have key : ∀ (q : cI) d, gV s a b q = some d → dH s a b d = true := fun q d hd => by
   unfold gV at hd
   split at hd
   ·rename_i h1; cases hd; exact h1
   ·obtain ⟨v, _, hv⟩ := List.exists_of_findSome?_eq_some hd
    unfold oF at hv
    split at hv
    ·rename_i h1; cases hv; exact h1
    ·cases hv
  cases ho : (gV s a b a).or (gV s a b b) with
  | none => rw [ho] at h; cases h
  | some d =>
   show dH s a b d = true
   rcases Option.or_eq_some_iff.1 ho with h3 | ⟨_, h3⟩
   ·exact key a d h3
   ·exact key b d h3
 ·rename_i hc
  rw [if_neg hc] at h
  cases h
end Go.Proofs.YtboolngaahifdaaGreatD
