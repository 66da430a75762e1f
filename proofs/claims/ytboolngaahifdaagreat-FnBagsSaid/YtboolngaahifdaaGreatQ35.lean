/- Contracts and plain laws of this seat; no condition. -/
import Derived.Test.YtboolngaahifdaaGreatQ34
set_option linter.unusedVariables false
set_option linter.unusedSimpArgs false
set_option maxRecDepth 100000
namespace Go.Proofs.YtboolngaahifdaaGreatD
open Go Go.Proofs
def bL (b : Bool) : List V := [cb b]
theorem f9 (b : Bool) : (bL b).length = 1 := rfl
theorem yH (us : List Bool) : dM (aB bL us) = aB bL us := bF (fun x => rfl) us
theorem yO (us : List Bool) : ∀ c ∈ aB bL us, eU c = true := D2 (fun x c hc => by simp only [bL, List.mem_singleton] at hc; rw [hc]; rfl) us
theorem JJ (xs ys : List Bool) : aB bL xs ++ aB bL ys = aB bL (xs ++ ys) := (fH bL ys xs).symm
theorem LP {m : List Bool} {q : Nat} (hq : q < m.length) (u : Bool) : e7 (aB bL m) (0 + q * 1) [cb u] = aB bL (m.set q u) :=
 (congrArg (fun o => e7 (aB bL m) o (bL u)) (Nat.zero_add _)).trans (iO f9 (by omega) hq _)
def jW (us : List Bool) : V := .ro us.length (aB bL us)
def few (q : bT) : Prop := q.1.length ≤ 3 ∧ q.2.length ≤ 4 ∧ ∀ a ∈ q.2, a.2.length ≤ 3
theorem SA : ∀ {l : List aL}, (∀ a ∈ l, a.2.length ≤ 3) → bS b9 l ≤ 3 * l.length
 | [], _ => by simp [bS]
 | a :: l, h => by
  have h1 := SA (l := l) fun x hx => h x (by simp [hx])
  have h2 : b9 a = a.2.length := rfl
  have h3 := h a (by simp)
  simp only [bS, List.length_cons]
  omega
theorem MU {h : List Int} {l : List aL} (h1 : h.length ≤ 3) (h2 : l.length ≤ 4) (h3 : ∀ a ∈ l, a.2.length ≤ 3) : aC (h, l) ≤ 1048576 := by
 have := SA h3
 show h.length + (l.length + bS b9 l) ≤ _
 omega
theorem NC {s : List Int} {q : bT} (h : aH s q = true) : few q := by
 simp only [aH, nW, d5, Bool.and_eq_true, decide_eq_true_eq] at h
 obtain ⟨h0, ⟨_, h1⟩, h2, h3, _⟩ := h
 have h2' : 1 ≤ (q.2.length : Int) ∧ (q.2.length : Int) ≤ 4 := by simpa [inR] using h2
 refine ⟨h1, by omega, fun a ha => ?_⟩
 have hb := List.all_eq_true.1 h3 a ha
 simp only [fM, iE, Bool.and_eq_true, decide_eq_true_eq] at hb
 have h4 : s.getD a.1.toNat 0 ≤ 3 := by
  by_cases hi : a.1.toNat < s.length
  ·rw [jK hi]
   exact (uZ h0 hi).2
  ·rw [List.getD_eq_getElem?_getD, List.getElem?_eq_none (by omega)]
   simp
 have h5 := hb.1.2.2
 omega
def gN : List (Option Obj) := [some ⟨true, [cG, cG]⟩, some ⟨true, [cb false]⟩]
def gS (y : bT) : List (Option Obj) := [some ⟨true, [.own 2 1 0 y.1.length y.1.length none, .own 3 2 0 y.2.length y.2.length none]⟩, some ⟨true, [cb true]⟩, some ⟨false, aB ciL y.1⟩, some ⟨false, aB bY y.2⟩]
def gT (y0 y : bT) : List (Option Obj) := [some ⟨true, [.own 4 1 0 y.1.length y.1.length none, .own 5 2 0 y.2.length y.2.length none]⟩, some ⟨true, [cb true]⟩, some ⟨false, aB ciL y0.1⟩, some ⟨false, aB bY y0.2⟩, some ⟨false, aB ciL y.1⟩, some ⟨false, aB bY y.2⟩]
def a1S (o : Option bT) (g2 : List (Option Obj)) : Prop := (o = none ∧ g2 = gN) ∨ ∃ y, o = some y ∧ aC y ≤ 1048576 ∧ g2 = gS y
def a1T (y0 : bT) (o : Option bT) (g2 : List (Option Obj)) : Prop := ∃ y, o = some y ∧ aC y ≤ 1048576 ∧ (y = y0 ∧ g2 = gS y0 ∨ g2 = gT y0 y)
def tZ (q : bT) (n : Nat) (used : List Bool) (body : List aL) (o : Option bT) (i : Nat) : Option bT := if used.getD i false then o else rO q n (used.set i true) (body ++ [q.2.getD i (0, [])]) o
theorem J8 (q : bT) (n : Nat) (used : List Bool) (body : List aL) (o : Option bT) : rO q (n + 1) used body o = (List.range q.2.length).foldl (tZ q n used body) o := rfl
theorem uH {f : Option bT → Nat → Option bT} {o0 o : Option bT} {k : Nat} (h : (List.range k).foldl f o0 = o) : (List.range (k + 1)).foldl f o0 = f o k := by
 rw [List.range_succ, List.foldl_append, h]; rfl
set_option maxHeartbeats 16000000 in
theorem a3J (q : bT) (hq : few q) (used : List Bool) (body : List aL) (hul : used.length = q.2.length) (hbl : body.length + 0 = q.2.length) (hbd : ∀ a ∈ body, a.2.length ≤ 3) :
  SpecG Tryz.prog 223 [aP q, jW used, .agg [aW q.1, cE body], .ptr 0 0, .ptr 1 0] gN fun r g2 => r = .tup [] ∧ a1S (rO q 0 used body none) g2 := by
  unfold gN
  have ht : rO q 0 used body none = some (nmQ (q.1, body)) := rfl
  rw [ht]
  have hfew : aC (q.1, body) ≤ 1048576 := MU hq.1 (by have := hq.2.1; omega) hbd
  have heq : ((body.length : Int) == (q.2.length : Int)) = true := by rw [beq_iff_eq]; omega
  have hxs : aC (nmQ (q.1, body)) ≤ 1048576 := by rw [qG]; exact hfew
  refine cU mx aJ 2 Tryz.func223 rfl rfl (by decide) ?_
  conv => whnf
  rw [heq]
  conv => whnf
  refine ⟨_, mX (q.1, body) hfew, .inl rfl, .inr ?_⟩
  generalize nmQ (q.1, body) = x at hxs ⊢
  conv => whnf
  refine ⟨[0, 1, 2, 3, 4, 5, 7, 8, 9, 6, 10, 11, 12], by kernel_rfl, ?_⟩
  conv => whnf
  refine ⟨[], ?_⟩
  conv => whnf
  exact ⟨rfl, .inr ⟨x, rfl, hxs, rfl⟩⟩
set_option maxHeartbeats 16000000 in
theorem a3L (q : bT) (hq : few q) (y0 : bT) (hy0 : aC y0 ≤ 1048576) (used : List Bool) (body : List aL) (hul : used.length = q.2.length) (hbl : body.length + 0 = q.2.length) (hbd : ∀ a ∈ body, a.2.length ≤ 3) :
  SpecG Tryz.prog 223 [aP q, jW used, .agg [aW q.1, cE body], .ptr 0 0, .ptr 1 0] (gS y0) fun r g2 => r = .tup [] ∧ a1T y0 (rO q 0 used body (some y0)) g2 := by
  unfold gS
  have ht : rO q 0 used body (some y0) = jG (some y0) (nmQ (q.1, body)) := rfl
  rw [ht]
  have hfew : aC (q.1, body) ≤ 1048576 := MU hq.1 (by have := hq.2.1; omega) hbd
  have heq : ((body.length : Int) == (q.2.length : Int)) = true := by rw [beq_iff_eq]; omega
  have hxs : aC (nmQ (q.1, body)) ≤ 1048576 := by rw [qG]; exact hfew
  refine cU mx aJ 4 Tryz.func223 rfl rfl (by decide) ?_
  conv => whnf
  rw [heq]
  conv => whnf
  refine ⟨_, mX (q.1, body) hfew, .inl rfl, .inr ?_⟩
  generalize nmQ (q.1, body) = x at hxs ⊢
  conv => whnf
  refine ⟨[0, 1, 2, 3, 4, 5, 7, 8, 9, 6, 10, 11, 12], by kernel_rfl, ?_⟩
  conv => whnf
  refine ⟨_, _, aN (by rw [a6 a7]), cK _, ?_⟩
  conv => whnf
  refine ⟨_, _, aN (by rw [a6 aK]), bF jF _, ?_⟩
  conv => whnf
  refine ⟨_, p5 x hxs, .inr (dG (f := ciL) (fun x => ⟨trivial, trivial⟩) _), .inl ?_⟩
  rw [fW]
  conv => whnf
  refine ⟨_, _, aN (by rw [a6 a7]), cK _, ?_⟩
  conv => whnf
  refine ⟨_, _, aN (by rw [a6 aK]), bF jF _, ?_⟩
  conv => whnf
  refine ⟨_, p5 y0 hy0, .inr (dG (f := ciL) (fun x => ⟨trivial, trivial⟩) _), .inl ?_⟩
  rw [fW]
  conv => whnf
  refine ⟨_, tJ (bO x) (bO y0) (uD hxs) (uD hy0), .inl rfl, .inl ?_⟩
  conv => whnf
  unfold jG
  simp only
  generalize ltI (bO x) (bO y0) = b
  cases b with
  | false =>
   conv => whnf
   refine ⟨[], ?_⟩
   conv => whnf
   exact ⟨rfl, y0, by simp, hy0, .inl ⟨rfl, rfl⟩⟩
  | true =>
   conv => whnf
   refine ⟨[], ?_⟩
   conv => whnf
   exact ⟨rfl, x, by simp, hxs, .inr rfl⟩
def VZ (q : bT) (n : Nat) : Prop :=
 (∀ (used : List Bool) (body : List aL), used.length = q.2.length → body.length + n = q.2.length → (∀ a ∈ body, a.2.length ≤ 3) →
  SpecG Tryz.prog 223 [aP q, jW used, .agg [aW q.1, cE body], .ptr 0 0, .ptr 1 0] gN fun r g2 => r = .tup [] ∧ a1S (rO q n used body none) g2) ∧
 (∀ (y0 : bT), aC y0 ≤ 1048576 → ∀ (used : List Bool) (body : List aL), used.length = q.2.length → body.length + n = q.2.length → (∀ a ∈ body, a.2.length ≤ 3) →
  SpecG Tryz.prog 223 [aP q, jW used, .agg [aW q.1, cE body], .ptr 0 0, .ptr 1 0] (gS y0) fun r g2 => r = .tup [] ∧ a1T y0 (rO q n used body (some y0)) g2)
set_option maxHeartbeats 16000000 in
theorem a3K (q : bT) (hq : few q) (n : Nat) (ih : VZ q n) (used : List Bool) (body : List aL) (hul : used.length = q.2.length) (hbl : body.length + (n + 1) = q.2.length) (hbd : ∀ a ∈ body, a.2.length ≤ 3) :
  SpecG Tryz.prog 223 [aP q, jW used, .agg [aW q.1, cE body], .ptr 0 0, .ptr 1 0] gN fun r g2 => r = .tup [] ∧ a1S (rO q (n + 1) used body none) g2 := by
  unfold gN
  rw [J8]
  have hql := hq.2.1
  have hne : ((body.length : Int) == (q.2.length : Int)) = false := by rw [beq_eq_false_iff_ne]; omega
  refine cU mx aJ 2 Tryz.func223 rfl rfl (by decide) ?_
  conv => whnf
  rw [hne]
  conv => whnf
  refine ⟨[(1,0),(3,0),(4,0),(5,0),(7,0),(11,0)], fun m s => ∃ (k : Nat) (e : Int) (o : Option bT), e = k ∧ m + k = q.2.length ∧ (List.range k).foldl (tZ q n used body) none = o ∧
   (o = none ∧ s = ⟨78, [(1, jW used), (3, .ptr 0 0), (4, .ptr 1 0), (5, .ptr 2 0), (7, .ptr 3 0), (11, ci e)], [some ⟨true, [cG, cG]⟩, some ⟨true, [cb false]⟩, some ⟨true, aO q⟩, some ⟨true, [aW q.1, cE body]⟩]⟩ ∨ ∃ y, o = some y ∧ aC y ≤ 1048576 ∧ s = ⟨78, [(1, jW used), (3, .ptr 0 0), (4, .ptr 1 0), (5, .ptr 2 0), (7, .ptr 3 0), (11, ci e)], [some ⟨true, [.own 4 1 0 y.1.length y.1.length none, .own 5 2 0 y.2.length y.2.length none]⟩, some ⟨true, [cb true]⟩, some ⟨true, aO q⟩, some ⟨true, [aW q.1, cE body]⟩, some ⟨false, aB ciL y.1⟩, some ⟨false, aB bY y.2⟩]⟩), q.2.length, ⟨0, 0, none, rfl, rfl, rfl, .inl ⟨rfl, by kernel_rfl⟩⟩, ?_⟩
  rintro m s ⟨k, _, o, rfl, hm, hfold, ⟨rfl, rfl⟩ | ⟨y, rfl, hy, rfl⟩⟩
  ·
   conv => whnf
   split <;> rename_i h1
   all_goals simp only [decide_eq_true_eq, decide_eq_false_iff_not] at h1
   ·have hk : k < q.2.length := by omega
    have hku : k < used.length := by omega
    have hwk : IntKind.i64.wrap ((k : Int) + 1) = ((k + 1 : Nat) : Int) := a8 (by omega) (by omega)
    have hnext := uH hfold
    have hsu : tZ q n used body none k = if used[k] then none else rO q n (used.set k true) (body ++ [q.2[k]]) none := by
     unfold tZ
     rw [show used.getD k false = used[k] from by simp [List.getD_eq_getElem?_getD, hku], show q.2.getD k (0, []) = q.2[k] from by simp [List.getD_eq_getElem?_getD, hk]]
    rw [hsu] at hnext
    clear hsu
    conv => whnf
    refine ⟨by omega, a6 f9 _, ?_⟩
    conv => whnf
    refine ⟨_, aD (k := k) f9 hku, ?_⟩
    generalize hub : used[k] = ub at hnext
    cases ub with
    | true =>
     conv => whnf
     rw [if_pos rfl] at hnext
     exact ⟨m - 1, by omega, k + 1, IntKind.i64.wrap ((k : Int) + 1), none, hwk, by omega, hnext, .inl ⟨rfl, by kernel_rfl⟩⟩
    | false =>
    conv => whnf
    rw [if_neg (by simp)] at hnext
    refine ⟨a6 f9 _, yO _, ?_⟩
    conv => whnf
    refine ⟨by omega, rfl, _, JJ [] used, ?_⟩
    conv => whnf
    refine ⟨by omega, ?_⟩
    conv => whnf
    refine ⟨_, b7 (k := k) (d := 0) (xs := [] ++ used) f9 (Nat.zero_add _) hku (Nat.le_refl _) rfl, _, LP (m := [] ++ used) hku _, ?_⟩
    conv => whnf
    refine ⟨[0, 1, 3, 4, 6, 7, 8, 9, 10, 11, 2, 5, 12, 13, 1000, 14, 1000, 15], by kernel_rfl, ?_⟩
    conv => whnf
    refine ⟨by omega, a6 aA _, ?_⟩
    conv => whnf
    refine ⟨_, aD (k := k) aA hk, ?_⟩
    conv => whnf
    refine ⟨a6 aA _, cO _, ?_⟩
    conv => whnf
    refine ⟨by omega, rfl, _, gL [] body, ?_⟩
    conv => whnf
    refine ⟨rfl, cO [q.2[k]], ?_⟩
    conv => whnf
    refine ⟨by omega, (show _ = (0 + body.length) * 2 from by rw [a6 aA]; simp), _, (show _ = aB d7 (body ++ [q.2[k]]) from kF body q.2[k]), ?_⟩
    conv => whnf
    refine .inr (.inr ⟨[0, 1], [5, 8], ?_⟩)
    conv => whnf
    refine ⟨_, _, aN (show _ = (0 + used.length) * 1 from by rw [a6 f9, List.length_set]; simp), yH _, ?_⟩
    conv => whnf
    refine ⟨_, _, aN (show _ = (0 + body.length + 1) * 2 from by rw [a6 aA, List.length_append]; simp), fZ _, ?_⟩
    conv => whnf
    have hsp := ih.1 (used.set k true) (body ++ [q.2[k]]) (by rw [List.length_set]; exact hul) (by rw [List.length_append, List.length_singleton]; omega) (fun a ha => by
     rcases List.mem_append.1 ha with ha | ha
     ·exact hbd a ha
     ·rw [List.mem_singleton.1 ha]; exact hq.2.2 _ (List.getElem_mem hk))
    unfold cE jW at hsp
    rw [List.length_set, List.length_append, List.length_singleton, show body.length + 1 = 0 + body.length + 1 from by omega, show used.length = 0 + used.length from by omega] at hsp
    refine ⟨_, hsp, fun r g2 hP => ?_⟩
    obtain ⟨rfl, ⟨hz, rfl⟩ | ⟨z, hz, hzl, rfl⟩⟩ := hP
    ·refine .inl ?_
     conv => whnf
     exact ⟨m - 1, by omega, k + 1, IntKind.i64.wrap ((k : Int) + 1), none, hwk, by omega, hnext.trans hz, .inl ⟨rfl, by kernel_rfl⟩⟩
    ·refine .inl ?_
     conv => whnf
     exact ⟨m - 1, by omega, k + 1, IntKind.i64.wrap ((k : Int) + 1), some z, hwk, by omega, hnext.trans hz, .inr ⟨z, rfl, hzl, by kernel_rfl⟩⟩
   ·conv => whnf
    have hkk : k = q.2.length := by omega
    subst hkk
    refine ⟨[], ?_⟩
    conv => whnf
    exact ⟨rfl, .inl ⟨hfold, rfl⟩⟩
  ·
   conv => whnf
   split <;> rename_i h1
   all_goals simp only [decide_eq_true_eq, decide_eq_false_iff_not] at h1
   ·have hk : k < q.2.length := by omega
    have hku : k < used.length := by omega
    have hwk : IntKind.i64.wrap ((k : Int) + 1) = ((k + 1 : Nat) : Int) := a8 (by omega) (by omega)
    have hnext := uH hfold
    have hsu : tZ q n used body (some y) k = if used[k] then (some y) else rO q n (used.set k true) (body ++ [q.2[k]]) (some y) := by
     unfold tZ
     rw [show used.getD k false = used[k] from by simp [List.getD_eq_getElem?_getD, hku], show q.2.getD k (0, []) = q.2[k] from by simp [List.getD_eq_getElem?_getD, hk]]
    rw [hsu] at hnext
    clear hsu
    conv => whnf
    refine ⟨by omega, a6 f9 _, ?_⟩
    conv => whnf
    refine ⟨_, aD (k := k) f9 hku, ?_⟩
    generalize hub : used[k] = ub at hnext
    cases ub with
    | true =>
     conv => whnf
     rw [if_pos rfl] at hnext
     exact ⟨m - 1, by omega, k + 1, IntKind.i64.wrap ((k : Int) + 1), some y, hwk, by omega, hnext, .inr ⟨y, rfl, hy, by kernel_rfl⟩⟩
    | false =>
    conv => whnf
    rw [if_neg (by simp)] at hnext
    refine ⟨a6 f9 _, yO _, ?_⟩
    conv => whnf
    refine ⟨by omega, rfl, _, JJ [] used, ?_⟩
    conv => whnf
    refine ⟨by omega, ?_⟩
    conv => whnf
    refine ⟨_, b7 (k := k) (d := 0) (xs := [] ++ used) f9 (Nat.zero_add _) hku (Nat.le_refl _) rfl, _, LP (m := [] ++ used) hku _, ?_⟩
    conv => whnf
    refine ⟨[0, 1, 3, 4, 6, 7, 8, 9, 10, 11, 2, 5, 12, 13, 1000, 14, 1000, 15], by kernel_rfl, ?_⟩
    conv => whnf
    refine ⟨by omega, a6 aA _, ?_⟩
    conv => whnf
    refine ⟨_, aD (k := k) aA hk, ?_⟩
    conv => whnf
    refine ⟨a6 aA _, cO _, ?_⟩
    conv => whnf
    refine ⟨by omega, rfl, _, gL [] body, ?_⟩
    conv => whnf
    refine ⟨rfl, cO [q.2[k]], ?_⟩
    conv => whnf
    refine ⟨by omega, (show _ = (0 + body.length) * 2 from by rw [a6 aA]; simp), _, (show _ = aB d7 (body ++ [q.2[k]]) from kF body q.2[k]), ?_⟩
    conv => whnf
    refine .inr (.inr ⟨[0, 1, 4, 5], [7, 10], ?_⟩)
    conv => whnf
    refine ⟨_, _, aN (show _ = (0 + used.length) * 1 from by rw [a6 f9, List.length_set]; simp), yH _, ?_⟩
    conv => whnf
    refine ⟨_, _, aN (show _ = (0 + body.length + 1) * 2 from by rw [a6 aA, List.length_append]; simp), fZ _, ?_⟩
    conv => whnf
    have hsp := (ih.2 y hy) (used.set k true) (body ++ [q.2[k]]) (by rw [List.length_set]; exact hul) (by rw [List.length_append, List.length_singleton]; omega) (fun a ha => by
     rcases List.mem_append.1 ha with ha | ha
     ·exact hbd a ha
     ·rw [List.mem_singleton.1 ha]; exact hq.2.2 _ (List.getElem_mem hk))
    unfold cE jW at hsp
    rw [List.length_set, List.length_append, List.length_singleton, show body.length + 1 = 0 + body.length + 1 from by omega, show used.length = 0 + used.length from by omega] at hsp
    refine ⟨_, hsp, fun r g2 hP => ?_⟩
    obtain ⟨rfl, z, hz, hzl, ⟨rfl, rfl⟩ | rfl⟩ := hP
    ·refine .inl ?_
     conv => whnf
     exact ⟨m - 1, by omega, k + 1, IntKind.i64.wrap ((k : Int) + 1), some z, hwk, by omega, hnext.trans hz, .inr ⟨z, rfl, hzl, by kernel_rfl⟩⟩
    ·refine .inl ?_
     conv => whnf
     exact ⟨m - 1, by omega, k + 1, IntKind.i64.wrap ((k : Int) + 1), some z, hwk, by omega, hnext.trans hz, .inr ⟨z, rfl, hzl, by kernel_rfl⟩⟩
   ·conv => whnf
    have hkk : k = q.2.length := by omega
    subst hkk
    refine ⟨[], ?_⟩
    conv => whnf
    exact ⟨rfl, .inr ⟨y, hfold, hy, rfl⟩⟩
set_option maxHeartbeats 16000000 in
theorem a3M (q : bT) (hq : few q) (n : Nat) (ih : VZ q n) (y0 : bT) (hy0 : aC y0 ≤ 1048576) (used : List Bool) (body : List aL) (hul : used.length = q.2.length) (hbl : body.length + (n + 1) = q.2.length) (hbd : ∀ a ∈ body, a.2.length ≤ 3) :
  SpecG Tryz.prog 223 [aP q, jW used, .agg [aW q.1, cE body], .ptr 0 0, .ptr 1 0] (gS y0) fun r g2 => r = .tup [] ∧ a1T y0 (rO q (n + 1) used body (some y0)) g2 := by
  unfold gS
  rw [J8]
  have hql := hq.2.1
  have hne : ((body.length : Int) == (q.2.length : Int)) = false := by rw [beq_eq_false_iff_ne]; omega
  refine cU mx aJ 4 Tryz.func223 rfl rfl (by decide) ?_
  conv => whnf
  rw [hne]
  conv => whnf
  refine ⟨[(1,0),(3,0),(4,0),(5,0),(7,0),(11,0)], fun m s => ∃ (k : Nat) (e : Int) (y : bT), e = k ∧ m + k = q.2.length ∧ aC y ≤ 1048576 ∧ (List.range k).foldl (tZ q n used body) (some y0) = some y ∧
   (y = y0 ∧ s = ⟨78, [(1, jW used), (3, .ptr 0 0), (4, .ptr 1 0), (5, .ptr 4 0), (7, .ptr 5 0), (11, ci e)], [some ⟨true, [.own 2 1 0 y0.1.length y0.1.length none, .own 3 2 0 y0.2.length y0.2.length none]⟩, some ⟨true, [cb true]⟩, some ⟨false, aB ciL y0.1⟩, some ⟨false, aB bY y0.2⟩, some ⟨true, aO q⟩, some ⟨true, [aW q.1, cE body]⟩]⟩ ∨ s = ⟨78, [(1, jW used), (3, .ptr 0 0), (4, .ptr 1 0), (5, .ptr 4 0), (7, .ptr 5 0), (11, ci e)], [some ⟨true, [.own 6 1 0 y.1.length y.1.length none, .own 7 2 0 y.2.length y.2.length none]⟩, some ⟨true, [cb true]⟩, some ⟨false, aB ciL y0.1⟩, some ⟨false, aB bY y0.2⟩, some ⟨true, aO q⟩, some ⟨true, [aW q.1, cE body]⟩, some ⟨false, aB ciL y.1⟩, some ⟨false, aB bY y.2⟩]⟩), q.2.length, ⟨0, 0, y0, rfl, rfl, hy0, rfl, .inl ⟨rfl, by kernel_rfl⟩⟩, ?_⟩
  rintro m s ⟨k, _, y, rfl, hm, hy, hfold, ⟨rfl, rfl⟩ | rfl⟩
  ·
   conv => whnf
   split <;> rename_i h1
   all_goals simp only [decide_eq_true_eq, decide_eq_false_iff_not] at h1
   ·have hk : k < q.2.length := by omega
    have hku : k < used.length := by omega
    have hwk : IntKind.i64.wrap ((k : Int) + 1) = ((k + 1 : Nat) : Int) := a8 (by omega) (by omega)
    have hnext := uH hfold
    have hsu : tZ q n used body (some y) k = if used[k] then (some y) else rO q n (used.set k true) (body ++ [q.2[k]]) (some y) := by
     unfold tZ
     rw [show used.getD k false = used[k] from by simp [List.getD_eq_getElem?_getD, hku], show q.2.getD k (0, []) = q.2[k] from by simp [List.getD_eq_getElem?_getD, hk]]
    rw [hsu] at hnext
    clear hsu
    conv => whnf
    refine ⟨by omega, a6 f9 _, ?_⟩
    conv => whnf
    refine ⟨_, aD (k := k) f9 hku, ?_⟩
    generalize hub : used[k] = ub at hnext
    cases ub with
    | true =>
     conv => whnf
     rw [if_pos rfl] at hnext
     exact ⟨m - 1, by omega, k + 1, IntKind.i64.wrap ((k : Int) + 1), y, hwk, by omega, hy, hnext, .inl ⟨rfl, by kernel_rfl⟩⟩
    | false =>
    conv => whnf
    rw [if_neg (by simp)] at hnext
    refine ⟨a6 f9 _, yO _, ?_⟩
    conv => whnf
    refine ⟨by omega, rfl, _, JJ [] used, ?_⟩
    conv => whnf
    refine ⟨by omega, ?_⟩
    conv => whnf
    refine ⟨_, b7 (k := k) (d := 0) (xs := [] ++ used) f9 (Nat.zero_add _) hku (Nat.le_refl _) rfl, _, LP (m := [] ++ used) hku _, ?_⟩
    conv => whnf
    refine ⟨[0, 1, 3, 4, 6, 7, 8, 9, 10, 11, 2, 5, 12, 13, 1000, 14, 1000, 15], by kernel_rfl, ?_⟩
    conv => whnf
    refine ⟨by omega, a6 aA _, ?_⟩
    conv => whnf
    refine ⟨_, aD (k := k) aA hk, ?_⟩
    conv => whnf
    refine ⟨a6 aA _, cO _, ?_⟩
    conv => whnf
    refine ⟨by omega, rfl, _, gL [] body, ?_⟩
    conv => whnf
    refine ⟨rfl, cO [q.2[k]], ?_⟩
    conv => whnf
    refine ⟨by omega, (show _ = (0 + body.length) * 2 from by rw [a6 aA]; simp), _, (show _ = aB d7 (body ++ [q.2[k]]) from kF body q.2[k]), ?_⟩
    conv => whnf
    refine .inr (.inr ⟨[0, 1, 2, 3], [7, 10], ?_⟩)
    conv => whnf
    refine ⟨_, _, aN (show _ = (0 + used.length) * 1 from by rw [a6 f9, List.length_set]; simp), yH _, ?_⟩
    conv => whnf
    refine ⟨_, _, aN (show _ = (0 + body.length + 1) * 2 from by rw [a6 aA, List.length_append]; simp), fZ _, ?_⟩
    conv => whnf
    have hsp := (ih.2 y hy) (used.set k true) (body ++ [q.2[k]]) (by rw [List.length_set]; exact hul) (by rw [List.length_append, List.length_singleton]; omega) (fun a ha => by
     rcases List.mem_append.1 ha with ha | ha
     ·exact hbd a ha
     ·rw [List.mem_singleton.1 ha]; exact hq.2.2 _ (List.getElem_mem hk))
    unfold cE jW at hsp
    rw [List.length_set, List.length_append, List.length_singleton, show body.length + 1 = 0 + body.length + 1 from by omega, show used.length = 0 + used.length from by omega] at hsp
    refine ⟨_, hsp, fun r g2 hP => ?_⟩
    obtain ⟨rfl, z, hz, hzl, ⟨rfl, rfl⟩ | rfl⟩ := hP
    ·refine .inl ?_
     conv => whnf
     exact ⟨m - 1, by omega, k + 1, IntKind.i64.wrap ((k : Int) + 1), z, hwk, by omega, hzl, hnext.trans hz, .inl ⟨rfl, by kernel_rfl⟩⟩
    ·refine .inl ?_
     conv => whnf
     exact ⟨m - 1, by omega, k + 1, IntKind.i64.wrap ((k : Int) + 1), z, hwk, by omega, hzl, hnext.trans hz, .inr (by kernel_rfl)⟩
   ·conv => whnf
    have hkk : k = q.2.length := by omega
    subst hkk
    refine ⟨[], ?_⟩
    conv => whnf
    exact ⟨rfl, y, hfold, hy, .inl ⟨rfl, rfl⟩⟩
  ·
   conv => whnf
   split <;> rename_i h1
   all_goals simp only [decide_eq_true_eq, decide_eq_false_iff_not] at h1
   ·have hk : k < q.2.length := by omega
    have hku : k < used.length := by omega
    have hwk : IntKind.i64.wrap ((k : Int) + 1) = ((k + 1 : Nat) : Int) := a8 (by omega) (by omega)
    have hnext := uH hfold
    have hsu : tZ q n used body (some y) k = if used[k] then (some y) else rO q n (used.set k true) (body ++ [q.2[k]]) (some y) := by
     unfold tZ
     rw [show used.getD k false = used[k] from by simp [List.getD_eq_getElem?_getD, hku], show q.2.getD k (0, []) = q.2[k] from by simp [List.getD_eq_getElem?_getD, hk]]
    rw [hsu] at hnext
    clear hsu
    conv => whnf
    refine ⟨by omega, a6 f9 _, ?_⟩
    conv => whnf
    refine ⟨_, aD (k := k) f9 hku, ?_⟩
    generalize hub : used[k] = ub at hnext
    cases ub with
    | true =>
     conv => whnf
     rw [if_pos rfl] at hnext
     exact ⟨m - 1, by omega, k + 1, IntKind.i64.wrap ((k : Int) + 1), y, hwk, by omega, hy, hnext, .inr (by kernel_rfl)⟩
    | false =>
    conv => whnf
    rw [if_neg (by simp)] at hnext
    refine ⟨a6 f9 _, yO _, ?_⟩
    conv => whnf
    refine ⟨by omega, rfl, _, JJ [] used, ?_⟩
    conv => whnf
    refine ⟨by omega, ?_⟩
    conv => whnf
    refine ⟨_, b7 (k := k) (d := 0) (xs := [] ++ used) f9 (Nat.zero_add _) hku (Nat.le_refl _) rfl, _, LP (m := [] ++ used) hku _, ?_⟩
    conv => whnf
    refine ⟨[0, 1, 3, 4, 6, 7, 8, 9, 10, 11, 2, 5, 12, 13, 1000, 14, 1000, 15], by kernel_rfl, ?_⟩
    conv => whnf
    refine ⟨by omega, a6 aA _, ?_⟩
    conv => whnf
    refine ⟨_, aD (k := k) aA hk, ?_⟩
    conv => whnf
    refine ⟨a6 aA _, cO _, ?_⟩
    conv => whnf
    refine ⟨by omega, rfl, _, gL [] body, ?_⟩
    conv => whnf
    refine ⟨rfl, cO [q.2[k]], ?_⟩
    conv => whnf
    refine ⟨by omega, (show _ = (0 + body.length) * 2 from by rw [a6 aA]; simp), _, (show _ = aB d7 (body ++ [q.2[k]]) from kF body q.2[k]), ?_⟩
    conv => whnf
    refine .inr (.inr ⟨[0, 1, 6, 7], [9, 12], ?_⟩)
    conv => whnf
    refine ⟨_, _, aN (show _ = (0 + used.length) * 1 from by rw [a6 f9, List.length_set]; simp), yH _, ?_⟩
    conv => whnf
    refine ⟨_, _, aN (show _ = (0 + body.length + 1) * 2 from by rw [a6 aA, List.length_append]; simp), fZ _, ?_⟩
    conv => whnf
    have hsp := (ih.2 y hy) (used.set k true) (body ++ [q.2[k]]) (by rw [List.length_set]; exact hul) (by rw [List.length_append, List.length_singleton]; omega) (fun a ha => by
     rcases List.mem_append.1 ha with ha | ha
     ·exact hbd a ha
     ·rw [List.mem_singleton.1 ha]; exact hq.2.2 _ (List.getElem_mem hk))
    unfold cE jW at hsp
    rw [List.length_set, List.length_append, List.length_singleton, show body.length + 1 = 0 + body.length + 1 from by omega, show used.length = 0 + used.length from by omega] at hsp
    refine ⟨_, hsp, fun r g2 hP => ?_⟩
    obtain ⟨rfl, z, hz, hzl, ⟨rfl, rfl⟩ | rfl⟩ := hP
    ·refine .inl ?_
     conv => whnf
     exact ⟨m - 1, by omega, k + 1, IntKind.i64.wrap ((k : Int) + 1), z, hwk, by omega, hzl, hnext.trans hz, .inr (by kernel_rfl)⟩
    ·refine .inl ?_
     conv => whnf
     exact ⟨m - 1, by omega, k + 1, IntKind.i64.wrap ((k : Int) + 1), z, hwk, by omega, hzl, hnext.trans hz, .inr (by kernel_rfl)⟩
   ·conv => whnf
    have hkk : k = q.2.length := by omega
    subst hkk
    refine ⟨[], ?_⟩
    conv => whnf
    exact ⟨rfl, y, hfold, hy, .inr rfl⟩
theorem L6 (q : bT) (hq : few q) : ∀ n, VZ q n
 | 0 => ⟨a3J q hq, a3L q hq⟩
 | n + 1 => ⟨a3K q hq n (L6 q hq n), a3M q hq n (L6 q hq n)⟩
end Go.Proofs.YtboolngaahifdaaGreatD
