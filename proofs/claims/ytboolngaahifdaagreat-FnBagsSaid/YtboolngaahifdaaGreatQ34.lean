/- Contracts and plain laws of this seat; no condition. -/
import Derived.Test.YtboolngaahifdaaGreatQ33
import Derived.Test.YtboolngaahifdaaGreatQ14
set_option linter.unusedVariables false
set_option linter.unusedSimpArgs false
set_option maxRecDepth 100000
namespace Go.Proofs.YtboolngaahifdaaGreatD
open Go Go.Proofs
theorem Z4 : oI [] = (List.range 20).map fun (v : Nat) => (v : Int) := by
 unfold oI
 refine List.map_congr_left fun v _ => ?_
 rw [if_neg (by simp [has])]
set_option maxHeartbeats 8000000 in
theorem mX (x0 : bT) (h0 : aC x0 ≤ 1048576) : bI Tryz.prog 242 [aP x0] (cC (nmQ x0)) := by
 have h0' := h0
 unfold aC dW at h0'
 refine aF mx aJ Tryz.func242 rfl ?_
 conv => whnf
 refine ⟨[(1,0),(2,0),(3,0),(4,0)], fun m s => ∃ (k : Nat) (e : Int) (n : Nat) (r : List V), e = k ∧ m + k = 20 ∧ n = k ∧ r = aB ciL ((List.range k).map fun (v : Nat) => (v : Int)) ∧
  s = ⟨76, [(1, .ptr 0 0), (2, .ptr 1 0), (3, .own 2 1 0 n n none), (4, ci e)], [some ⟨true, aO x0⟩, some ⟨true, [cG, cG]⟩, some ⟨false, r⟩]⟩, 20, ⟨0, 0, 0, [], rfl, rfl, rfl, rfl, by kernel_rfl⟩, ?_⟩
 rintro m s ⟨k, _, n, _, rfl, hm, rfl, rfl, rfl⟩
 conv => whnf
 split <;> rename_i h1
 all_goals simp only [decide_eq_true_eq, decide_eq_false_iff_not] at h1
 ·conv => whnf
  refine ⟨_, rfl, .inl ⟨fU rfl, ?_⟩⟩
  conv => whnf
  refine ⟨by omega, by rw [a6 a7, List.length_map, List.length_range], _, dC _ _, ?_⟩
  conv => whnf
  refine ⟨m - 1, by omega, n + 1, IntKind.i64.wrap ((n : Int) + 1), n + 1, aB ciL (((List.range n).map fun (v : Nat) => (v : Int)) ++ [(n : Int)]), a8 (by omega) (by omega), by omega, rfl, ?_, by kernel_rfl⟩
  rw [List.range_succ, List.map_append]
  rfl
 ·conv => whnf
  have hn : n = 20 := by omega
  subst hn
  rw [← Z4]
  refine ⟨a6 a7 _, f5 _, ?_⟩
  conv => whnf
  refine ⟨by omega, rfl, _, (show _ = aB ciL x0.1 from jO [] x0.1), ?_⟩
  conv => whnf
  refine ⟨[(1,0),(2,0),(3,0),(5,0),(6,0),(7,0)], fun m s => ∃ (k : Nat) (e : Int) (n : Nat) (r : List V), e = k ∧ m + k = x0.2.length ∧ n = (x0.1 ++ (x0.2.take k).flatMap (·.2)).length ∧ r = aB ciL (x0.1 ++ (x0.2.take k).flatMap (·.2)) ∧
   s = ⟨76, [(1, .ptr 0 0), (2, .ptr 1 0), (3, .own 2 1 0 20 20 none), (5, .own 3 1 0 0 0 none), (6, .own 4 1 0 n n none), (7, ci e)], [some ⟨true, aO x0⟩, some ⟨true, [cG, cG]⟩, some ⟨false, aB ciL (oI [])⟩, some ⟨false, []⟩, some ⟨false, r⟩]⟩, x0.2.length,
   ⟨0, 0, 0 + x0.1.length, aB ciL x0.1, rfl, rfl, by simp, by simp, by kernel_rfl⟩, ?_⟩
  rintro m1 s ⟨k, _, n, _, rfl, hm1, hn, rfl, rfl⟩
  have hfl : ∀ k, ((x0.2.take k).flatMap (·.2)).length ≤ bS b9 x0.2 := fun k => by
   have key : ∀ xs : List aL, (xs.flatMap (·.2)).length = bS b9 xs := by
    intro xs
    induction xs with
    | nil => rfl
    | cons a r ih => rw [List.flatMap_cons, List.length_append, ih]; rfl
   rw [key]
   exact wR b9 x0.2 k
  conv => whnf
  split <;> rename_i h2
  all_goals simp only [decide_eq_true_eq, decide_eq_false_iff_not] at h2
  ·conv => whnf
   have hk : k < x0.2.length := by omega
   have hb := bH (f := b9) hk
   have hcb : b9 x0.2[k] = x0.2[k].2.length := rfl
   have hs : x0.1 ++ (x0.2.take (k + 1)).flatMap (·.2) = (x0.1 ++ (x0.2.take k).flatMap (·.2)) ++ x0.2[k].2 := by
    rw [List.take_succ_eq_append_getElem hk, List.flatMap_append, List.append_assoc]
    simp
   have h5 := hfl k
   refine ⟨by omega, a6 aA _, ?_⟩
   conv => whnf
   refine ⟨_, aR (k := k) (d := 1) (m := 1) (r := [aW x0.2[k].2]) aA hk (by omega) rfl, ?_⟩
   conv => whnf
   refine ⟨a6 a7 _, f5 _, ?_⟩
   conv => whnf
   refine ⟨by rw [List.length_append] at hn; omega, by rw [a6 a7, hn], _, jO _ _, ?_⟩
   conv => whnf
   refine ⟨m1 - 1, by omega, k + 1, IntKind.i64.wrap ((k : Int) + 1), n + x0.2[k].2.length, aB ciL ((x0.1 ++ (x0.2.take k).flatMap (·.2)) ++ x0.2[k].2), a8 (by omega) (by omega), by omega, ?_, ?_, by kernel_rfl⟩
   ·rw [hs, List.length_append, ← hn]
   ·rw [hs]
  ·conv => whnf
   have hkk : k = x0.2.length := by omega
   rw [hkk, List.take_length] at hn ⊢
   have hall : x0.1 ++ x0.2.flatMap (·.2) = dR x0 := rfl
   rw [hall] at hn ⊢
   have hal : (dR x0).length ≤ 1048576 := by
    have h5 := hfl x0.2.length
    rw [List.take_length] at h5
    rw [← hall, List.length_append]; omega
   have hSl : ∀ j, ((dR x0).take j).length ≤ j := fun j => by rw [List.length_take]; omega
   have hSle : ∀ j, (((dR x0).take j).foldl eQ []).length ≤ j := by
    have key : ∀ (xs S : List Int), (xs.foldl eQ S).length ≤ S.length + xs.length := by
     intro xs
     induction xs with
     | nil => intro S; exact Nat.le_refl _
     | cons x xs ih =>
      intro S
      have h1 := ih (eQ S x)
      have h2 := W2 S x
      simp only [List.foldl_cons, List.length_cons]
      omega
    intro j
    have h1 := key ((dR x0).take j) []
    have h2 := hSl j
    simp only [List.length_nil] at h1
    omega
   refine ⟨[(1,0),(2,0),(3,0),(5,0),(6,0),(8,0)], fun m s => ∃ (k : Nat) (e : Int) (S : List Int) (ns : Nat) (rt rs : List V), e = k ∧ m + k = (dR x0).length ∧ S = ((dR x0).take k).foldl eQ [] ∧ ns = S.length ∧ rt = aB ciL (oI S) ∧ rs = aB ciL S ∧
    s = ⟨76, [(1, .ptr 0 0), (2, .ptr 1 0), (3, .own 2 1 0 20 20 none), (5, .own 3 1 0 ns ns none), (6, .own 4 1 0 n n none), (8, ci e)], [some ⟨true, aO x0⟩, some ⟨true, [cG, cG]⟩, some ⟨false, rt⟩, some ⟨false, rs⟩, some ⟨false, aB ciL (dR x0)⟩]⟩, (dR x0).length,
    ⟨0, 0, [], 0, aB ciL (oI []), [], rfl, rfl, rfl, rfl, rfl, rfl, by kernel_rfl⟩, ?_⟩
   rintro m2 s ⟨j, _, S, ns, _, _, rfl, hm2, hS, hns, rfl, rfl, rfl⟩
   have hSj : S.length ≤ j := by rw [hS]; exact hSle j
   conv => whnf
   split <;> rename_i h3
   all_goals simp only [decide_eq_true_eq, decide_eq_false_iff_not] at h3
   ·conv => whnf
    have hj : j < (dR x0).length := by omega
    have hnext : ((dR x0).take (j + 1)).foldl eQ [] = eQ S (dR x0)[j] := by
     rw [List.take_succ_eq_append_getElem hj, List.foldl_append, ← hS]; rfl
    refine ⟨by omega, ?_⟩
    conv => whnf
    refine ⟨_, b7 (k := j) (d := 0) (m := 1) (xs := dR x0) a7 (Nat.zero_add _) hj (by omega) rfl, ?_⟩
    conv => whnf
    refine ⟨_, oD (dR x0)[j], .inl rfl, .inl ?_⟩
    conv => whnf
    have hadd : eQ S (dR x0)[j] = if b8 (dR x0)[j] && !(has S (dR x0)[j]) then S ++ [(dR x0)[j]] else S := rfl
    rw [hadd] at hnext
    generalize hv : b8 (dR x0)[j] = b1 at hnext
    cases b1 with
    | false =>
     conv => whnf
     exact ⟨m2 - 1, by omega, j + 1, IntKind.i64.wrap ((j : Int) + 1), S, ns, aB ciL (oI S), aB ciL S, a8 (by omega) (by omega), by omega, by rw [hnext]; simp, hns, rfl, rfl, by kernel_rfl⟩
    | true =>
     conv => whnf
     refine ⟨by omega, ?_⟩
     conv => whnf
     refine ⟨_, b7 (k := j) (d := 0) (m := 1) (xs := dR x0) a7 (Nat.zero_add _) hj (by omega) rfl, ?_⟩
     conv => whnf
     refine .inl ?_
     conv => whnf
     refine ⟨_, _, aN (by rw [a6 a7, hns]), cK _, ?_⟩
     conv => whnf
     have hsp := w9 S (dR x0)[j] (by omega)
     unfold aW at hsp
     rw [← hns] at hsp
     refine ⟨_, hsp, .inr trivial, .inl ?_⟩
     conv => whnf
     generalize hh : has S (dR x0)[j] = b2 at hnext
     cases b2 with
     | true =>
      conv => whnf
      exact ⟨m2 - 1, by omega, j + 1, IntKind.i64.wrap ((j : Int) + 1), S, ns, aB ciL (oI S), aB ciL S, a8 (by omega) (by omega), by omega, by rw [hnext]; simp, hns, rfl, rfl, by kernel_rfl⟩
     | false =>
      simp only [Bool.not_false, Bool.and_self, if_true] at hnext
      have hr : 0 ≤ (dR x0)[j] ∧ (dR x0)[j] ≤ 19 := by simpa [b8, inR] using hv
      obtain ⟨v, hvt, hv20⟩ : ∃ v : Nat, (dR x0)[j] = v ∧ v < 20 := ⟨(dR x0)[j].toNat, by omega, by omega⟩
      have hvl : v < (oI S).length := by rw [mH]; exact hv20
      rw [hvt] at hh hnext
      conv => whnf
      refine ⟨by omega, ?_⟩
      conv => whnf
      refine ⟨_, b7 (k := j) (d := 0) (m := 1) (xs := dR x0) a7 (Nat.zero_add _) hj (by omega) rfl, ?_⟩
      rw [hvt]
      conv => whnf
      refine ⟨by omega, ?_⟩
      conv => whnf
      refine ⟨_, b7 (k := v) (d := 0) (m := 1) (xs := oI S) a7 (Nat.zero_add _) hvl (by omega) rfl, _, (congrArg (fun o => e7 (aB ciL (oI S)) o (ciL ns)) (Nat.zero_add _)).trans (iO a7 (by omega) hvl _), ?_⟩
      conv => whnf
      refine ⟨by omega, ?_⟩
      conv => whnf
      refine ⟨_, b7 (k := j) (d := 0) (m := 1) (xs := dR x0) a7 (Nat.zero_add _) hj (by omega) rfl, ?_⟩
      rw [hvt]
      conv => whnf
      refine ⟨_, rfl, .inl ⟨fU rfl, ?_⟩⟩
      conv => whnf
      refine ⟨by omega, by rw [a6 a7, hns], _, dC _ _, ?_⟩
      conv => whnf
      refine ⟨m2 - 1, by omega, j + 1, IntKind.i64.wrap ((j : Int) + 1), S ++ [(v : Int)], ns + 1, aB ciL ((oI S).set v ns), aB ciL (S ++ [(v : Int)]), a8 (by omega) (by omega), by omega, hnext.symm, by simp [hns], ?_, rfl, by kernel_rfl⟩
      rw [hns, Z5 S hv20 hh]
   ·conv => whnf
    have hje : j = (dR x0).length := by omega
    rw [hje, List.take_length] at hS
    have hS' : S = f8 x0 := hS
    refine .inl ?_
    conv => whnf
    refine ⟨_, _, aN (by rw [a6 a7, mH]), cK _, ?_⟩
    conv => whnf
    have hsp := eX x0 (oI S) h0 (by rw [mH]; omega)
    unfold aW at hsp
    rw [mH, hS', a0R, ← hS'] at hsp
    refine ⟨_, hsp, .inr (gM _), .inr ?_⟩
    conv => whnf
    refine ⟨by rw [a6 a7], by rw [a6 aK], rfl⟩
theorem fZ (xs : List aL) : dM (aB d7 xs) = aB d7 xs := bF (fun x => by
 show [roV (ci x.1), roV (.ro x.2.length (aB ciL x.2))] = d7 x
 simp only [roV, cK]
 rfl) xs
theorem MY (a : aL) : ∀ c ∈ d7 a, fT c = true := by
 intro c hc
 simp only [d7, List.mem_cons, List.not_mem_nil, or_false] at hc
 rcases hc with rfl | rfl <;> rfl
theorem cO (xs : List aL) : ∀ c ∈ aB d7 xs, eU c = true := by
 induction xs with
 | nil => intro c hc; cases hc
 | cons a r ih =>
  intro c hc
  rcases List.mem_append.1 (show c ∈ d7 a ++ aB d7 r from hc) with h | h
  ·have := MY a c h
   cases c <;> simp_all [fT, eU]
  ·exact ih c h
theorem rI (xs : List aL) {l h o n : Nat} (hl : l ≤ h) (hh : h ≤ xs.length) (ho : o = l * 2) (hn : n = (h - l) * 2) : dP (aB d7 xs) o n = some (aB d7 ((xs.take h).drop l)) := by
 subst ho; subst hn
 have hlen := a6 aA xs
 have key : ∀ (xs : List aL) (k : Nat), (aB d7 xs).take (k * 2) = aB d7 (xs.take k) := by
  intro xs
  induction xs with
  | nil => intro k; simp [aB]
  | cons a r ih =>
   intro k
   cases k with
   | zero => simp [aB]
   | succ k =>
    show (d7 a ++ aB d7 r).take ((k + 1) * 2) = d7 a ++ aB d7 (r.take k)
    rw [← ih k, List.take_append, List.take_of_length_le (by rw [aA]; omega), aA, show (k + 1) * 2 - 2 = k * 2 from by omega]
 refine qP (by rw [hlen]; omega) ?_
 rw [uY aA, key]
 congr 1
 rw [List.drop_take]
theorem gL (xs ys : List aL) : aB d7 xs ++ aB d7 ys = aB d7 (xs ++ ys) := (fH d7 ys xs).symm
theorem kF (xs : List aL) (x : aL) : aB d7 xs ++ d7 x = aB d7 (xs ++ [x]) := by
 rw [fH]
 simp [aB]
theorem B2 (xs : List aL) (k : Nat) : xs.take k ++ xs.drop (k + 1) = xs.eraseIdx k := (List.eraseIdx_eq_take_drop_succ xs k).symm
def vQ (h : List Int) (body left : List aL) : Nat := h.length + (body.length + bS b9 body) + (left.length + bS b9 left)
theorem YV {α : Type} (f : α → Nat) (xs ys : List α) : bS f (xs ++ ys) = bS f xs + bS f ys := by
 induction xs with
 | nil => simp [bS]
 | cons x xs ih => simp only [List.cons_append, bS, ih]; omega
theorem G3 (f : aL → Nat) : ∀ (xs : List aL) (k : Nat) (h : k < xs.length), f xs[k] + bS f (xs.eraseIdx k) = bS f xs
 | x :: xs, 0, h => rfl
 | x :: xs, k + 1, h => by
  have := G3 f xs k (by simpa using h)
  simp only [List.getElem_cons_succ, List.eraseIdx_cons_succ, bS]
  omega
theorem wQ (h : List Int) (body left : List aL) {k : Nat} (hk : k < left.length) : vQ h (body ++ [left[k]]) (left.eraseIdx k) = vQ h body left := by
 have h1 := G3 b9 left k hk
 unfold vQ
 rw [YV, List.length_append, List.length_eraseIdx_of_lt hk]
 simp only [bS, List.length_cons, List.length_nil]
 omega
def fnT : V := .fn 220 [.ptr 0 0, .ptr 1 0, .ptr 2 0]
def gA (q y : bT) : List (Option Obj) := [some ⟨true, aO q⟩, some ⟨true, [.own 3 1 0 y.1.length y.1.length none, .own 4 2 0 y.2.length y.2.length none]⟩, some ⟨true, [fnT]⟩, some ⟨false, aB ciL y.1⟩, some ⟨false, aB bY y.2⟩]
def gB (q y0 y : bT) : List (Option Obj) := [some ⟨true, aO q⟩, some ⟨true, [.own 5 1 0 y.1.length y.1.length none, .own 6 2 0 y.2.length y.2.length none]⟩, some ⟨true, [fnT]⟩, some ⟨false, aB ciL y0.1⟩, some ⟨false, aB bY y0.2⟩, some ⟨false, aB ciL y.1⟩, some ⟨false, aB bY y.2⟩]
def a36 (q y0 : bT) (o : Option bT) (g2 : List (Option Obj)) : Prop := ∃ y, o = some y ∧ aC y ≤ 1048576 ∧ (y = y0 ∧ g2 = gA q y0 ∨ g2 = gB q y0 y)
theorem uD {y : bT} (h : aC y ≤ 1048576) : (bO y).length ≤ 1099511627776 := by
 have := mN y h
 omega
set_option maxHeartbeats 16000000 in
theorem Y1 (q : bT) : ∀ (n : Nat) (body left : List aL) (y0 : bT), left.length = n → vQ q.1 body left ≤ 1048576 → aC y0 ≤ 1048576 →
  SpecG Tryz.prog 220 [cE body, cE left, .ptr 0 0, .ptr 1 0, .ptr 2 0] (gA q y0) fun r g2 => r = .tup [] ∧ a36 q y0 (nC q.1 n body left (some y0)) g2 := by
 intro n
 induction n with
 | zero =>
  intro body left y0 hl hs hy
  have hle : left = [] := List.length_eq_zero_iff.1 hl
  subst hle
  have hx : aC (q.1, body) ≤ 1048576 := by
   unfold vQ at hs
   show q.1.length + (body.length + bS b9 body) ≤ _
   omega
  unfold gA
  refine cU mx aJ 5 Tryz.func220 rfl rfl (by decide) ?_
  conv => whnf
  refine ⟨_, mQ (q.1, body) hx, .inl rfl, .inr ?_⟩
  have hxs : aC (nmQ (q.1, body)) ≤ 1048576 := by rw [qG]; exact hx
  have ht : nC q.1 0 body [] (some y0) = jG (some y0) (nmQ (q.1, body)) := rfl
  rw [ht]
  generalize nmQ (q.1, body) = x at hxs ⊢
  conv => whnf
  refine ⟨[0, 2, 1, 3, 4, 5], by kernel_rfl, ?_⟩
  conv => whnf
  refine ⟨_, _, aN (by rw [a6 a7]), cK _, ?_⟩
  conv => whnf
  refine ⟨_, _, aN (by rw [a6 aK]), bF jF _, ?_⟩
  conv => whnf
  refine ⟨_, oR x hxs, .inr (dG (f := ciL) (fun x => ⟨trivial, trivial⟩) _), .inl ?_⟩
  rw [fW]
  conv => whnf
  refine ⟨_, _, aN (by rw [a6 a7]), cK _, ?_⟩
  conv => whnf
  refine ⟨_, _, aN (by rw [a6 aK]), bF jF _, ?_⟩
  conv => whnf
  refine ⟨_, oR y0 hy, .inr (dG (f := ciL) (fun x => ⟨trivial, trivial⟩) _), .inl ?_⟩
  rw [fW]
  conv => whnf
  refine ⟨_, jV (bO x) (bO y0) (uD hxs) (uD hy), .inl rfl, .inl ?_⟩
  conv => whnf
  rw [← r8]
  unfold jG
  simp only
  generalize ltI (bO x) (bO y0) = b
  cases b with
  | false =>
   conv => whnf
   refine ⟨[], ?_⟩
   conv => whnf
   exact ⟨rfl, y0, by simp, hy, .inl ⟨rfl, rfl⟩⟩
  | true =>
   conv => whnf
   refine ⟨[], ?_⟩
   conv => whnf
   exact ⟨rfl, x, by simp, hxs, .inr rfl⟩
 | succ n ih =>
  intro body left y0 hl hs hy
  have hne : ((left.length : Int) == 0) = false := by rw [hl]; simp; omega
  unfold gA
  refine cU mx aJ 5 Tryz.func220 rfl rfl (by decide) ?_
  conv => whnf
  rw [hne]
  conv => whnf
  refine ⟨[(0,0),(1,0),(2,0),(3,0),(4,0),(26,0),(27,0),(28,0)], fun m s => ∃ (k : Nat) (e : Int) (y : bT), e = k ∧ m + k = left.length ∧ aC y ≤ 1048576 ∧
   (List.range k).foldl (fun o i => nC q.1 n (body ++ [left.getD i (0, [])]) (left.eraseIdx i) o) (some y0) = some y ∧
   (y = y0 ∧ s = ⟨53, [(0, cE body), (1, cE left), (2, .ptr 0 0), (3, .ptr 1 0), (4, .ptr 2 0), (26, cE left), (27, ci left.length), (28, ci e)], gA q y0⟩ ∨
    s = ⟨53, [(0, cE body), (1, cE left), (2, .ptr 0 0), (3, .ptr 1 0), (4, .ptr 2 0), (26, cE left), (27, ci left.length), (28, ci e)], gB q y0 y⟩), left.length, ⟨0, 0, y0, rfl, rfl, hy, rfl, .inl ⟨rfl, by kernel_rfl⟩⟩, ?_⟩
  rintro m s ⟨k, _, y, rfl, hm, hyl, hfold, hs2⟩
  have hstep : ∀ hk : k < left.length, ∀ z, nC q.1 n (body ++ [left[k]]) (left.eraseIdx k) (some y) = some z → (List.range (k + 1)).foldl (fun o i => nC q.1 n (body ++ [left.getD i (0, [])]) (left.eraseIdx i) o) (some y0) = some z := fun hk z hz => by
   rw [List.range_succ, List.foldl_append, hfold]
   show nC q.1 n (body ++ [left.getD k (0, [])]) (left.eraseIdx k) (some y) = some z
   rw [show left.getD k (0, []) = left[k] from by simp [List.getD_eq_getElem?_getD, hk]]
   exact hz
  have hbl : body.length + left.length ≤ 1048576 := by unfold vQ at hs; omega
  rcases hs2 with ⟨rfl, rfl⟩ | rfl
  ·unfold gA
   conv => whnf
   split <;> rename_i h1
   all_goals simp only [decide_eq_true_eq, decide_eq_false_iff_not] at h1
   ·have hk : k < left.length := by omega
    have hwk : IntKind.i64.wrap ((k : Int) + 1) = ((k + 1 : Nat) : Int) := a8 (by omega) (by omega)
    conv => whnf
    refine ⟨by omega, a6 aA _, ?_⟩
    conv => whnf
    refine ⟨_, aD (k := k) aA hk, ?_⟩
    conv => whnf
    refine ⟨[1, 2, 3, 5, 6, 7, 8, 0, 4, 9, 10], by kernel_rfl, ?_⟩
    conv => whnf
    refine ⟨by omega, a6 aA _, _, rI left (l := 0) (h := k) (by omega) (by omega) rfl rfl, ?_⟩
    conv => whnf
    rw [hwk]
    refine ⟨by omega, a6 aA _, _, rI left (l := k + 1) (h := left.length) (by omega) (by omega) rfl rfl, ?_⟩
    conv => whnf
    refine ⟨by rw [a6 aA, List.drop_zero, List.length_take, Nat.min_eq_left (by omega)]; rfl, cO _, ?_⟩
    conv => whnf
    refine ⟨by omega, rfl, _, gL [] _, ?_⟩
    conv => whnf
    refine ⟨by rw [a6 aA, List.length_drop, List.take_length]; rfl, cO _, ?_⟩
    conv => whnf
    have herase : aB d7 ([] ++ List.drop 0 (List.take k left)) ++ aB d7 (List.drop (k + 1) (List.take left.length left)) = aB d7 (left.eraseIdx k) := by
     rw [gL, List.nil_append, List.drop_zero, List.take_length, B2]
    have hlen1 : (aB d7 ([] ++ List.drop 0 (List.take k left))).length = k * 2 := by
     rw [a6 aA, List.nil_append, List.drop_zero, List.length_take, Nat.min_eq_left (by omega)]
    generalize hN : 0 + ((k : Int).toNat - ((0 : Nat) : Int).toNat) + ((left.length : Int).toNat - ((k + 1 : Nat) : Int).toNat) = N
    have hNl : (left.eraseIdx k).length = N := by rw [List.length_eraseIdx_of_lt hk]; omega
    refine ⟨by omega, (show _ = (0 + (k - 0)) * 2 from by rw [hlen1]; omega), _, herase, ?_⟩
    conv => whnf
    refine ⟨[1002, 0, 2, 4, 5, 7, 1, 3, 6], by kernel_rfl, ?_⟩
    conv => whnf
    refine ⟨a6 aA _, cO _, ?_⟩
    conv => whnf
    refine ⟨by omega, rfl, _, gL [] body, ?_⟩
    conv => whnf
    refine ⟨rfl, cO [left[k]], ?_⟩
    conv => whnf
    refine ⟨by omega, (show _ = (0 + body.length) * 2 from by rw [a6 aA]; simp), _, (show _ = aB d7 (body ++ [left[k]]) from kF body left[k]), ?_⟩
    conv => whnf
    refine .inr (.inr (.inr ⟨[0, 1, 2, 3, 4], [11, 8], ?_⟩))
    conv => whnf
    refine ⟨_, _, aN (show _ = (0 + body.length + 1) * 2 from by rw [a6 aA, List.length_append]; simp), fZ _, ?_⟩
    conv => whnf
    refine ⟨_, _, aN (show _ = N * 2 from by rw [a6 aA, hNl]), fZ _, ?_⟩
    conv => whnf
    have hsp := ih (body ++ [left[k]]) (left.eraseIdx k) y (by rw [List.length_eraseIdx_of_lt hk]; omega) (by rw [wQ q.1 body left hk]; exact hs) hyl
    unfold cE at hsp
    rw [hNl, List.length_append, List.length_singleton, show body.length + 1 = 0 + body.length + 1 from by omega] at hsp
    refine ⟨_, hsp, fun r g2 hP => ?_⟩
    obtain ⟨rfl, z, hz, hzl, hg⟩ := hP
    have hfz := hstep hk z hz
    rcases hg with ⟨rfl, rfl⟩ | rfl
    ·refine .inl ?_
     conv => whnf
     exact ⟨m - 1, by omega, k + 1, IntKind.i64.wrap ((k : Int) + 1), z, hwk, by omega, hzl, hfz, .inl ⟨rfl, by kernel_rfl⟩⟩
    ·refine .inl ?_
     conv => whnf
     exact ⟨m - 1, by omega, k + 1, IntKind.i64.wrap ((k : Int) + 1), z, hwk, by omega, hzl, hfz, .inr (by kernel_rfl)⟩
   ·conv => whnf
    have hkk : k = left.length := by omega
    subst hkk
    refine ⟨[], ?_⟩
    conv => whnf
    exact ⟨rfl, y, hfold, hyl, .inl ⟨rfl, rfl⟩⟩
  ·unfold gB
   conv => whnf
   split <;> rename_i h1
   all_goals simp only [decide_eq_true_eq, decide_eq_false_iff_not] at h1
   ·have hk : k < left.length := by omega
    have hwk : IntKind.i64.wrap ((k : Int) + 1) = ((k + 1 : Nat) : Int) := a8 (by omega) (by omega)
    conv => whnf
    refine ⟨by omega, a6 aA _, ?_⟩
    conv => whnf
    refine ⟨_, aD (k := k) aA hk, ?_⟩
    conv => whnf
    refine ⟨[1, 2, 3, 5, 6, 7, 8, 0, 4, 9, 10], by kernel_rfl, ?_⟩
    conv => whnf
    refine ⟨by omega, a6 aA _, _, rI left (l := 0) (h := k) (by omega) (by omega) rfl rfl, ?_⟩
    conv => whnf
    rw [hwk]
    refine ⟨by omega, a6 aA _, _, rI left (l := k + 1) (h := left.length) (by omega) (by omega) rfl rfl, ?_⟩
    conv => whnf
    refine ⟨by rw [a6 aA, List.drop_zero, List.length_take, Nat.min_eq_left (by omega)]; rfl, cO _, ?_⟩
    conv => whnf
    refine ⟨by omega, rfl, _, gL [] _, ?_⟩
    conv => whnf
    refine ⟨by rw [a6 aA, List.length_drop, List.take_length]; rfl, cO _, ?_⟩
    conv => whnf
    have herase : aB d7 ([] ++ List.drop 0 (List.take k left)) ++ aB d7 (List.drop (k + 1) (List.take left.length left)) = aB d7 (left.eraseIdx k) := by
     rw [gL, List.nil_append, List.drop_zero, List.take_length, B2]
    have hlen1 : (aB d7 ([] ++ List.drop 0 (List.take k left))).length = k * 2 := by
     rw [a6 aA, List.nil_append, List.drop_zero, List.length_take, Nat.min_eq_left (by omega)]
    generalize hN : 0 + ((k : Int).toNat - ((0 : Nat) : Int).toNat) + ((left.length : Int).toNat - ((k + 1 : Nat) : Int).toNat) = N
    have hNl : (left.eraseIdx k).length = N := by rw [List.length_eraseIdx_of_lt hk]; omega
    refine ⟨by omega, (show _ = (0 + (k - 0)) * 2 from by rw [hlen1]; omega), _, herase, ?_⟩
    conv => whnf
    refine ⟨[1002, 0, 2, 4, 5, 7, 1, 3, 6], by kernel_rfl, ?_⟩
    conv => whnf
    refine ⟨a6 aA _, cO _, ?_⟩
    conv => whnf
    refine ⟨by omega, rfl, _, gL [] body, ?_⟩
    conv => whnf
    refine ⟨rfl, cO [left[k]], ?_⟩
    conv => whnf
    refine ⟨by omega, (show _ = (0 + body.length) * 2 from by rw [a6 aA]; simp), _, (show _ = aB d7 (body ++ [left[k]]) from kF body left[k]), ?_⟩
    conv => whnf
    refine .inr (.inr (.inr ⟨[0, 1, 2, 5, 6], [13, 10], ?_⟩))
    conv => whnf
    refine ⟨_, _, aN (show _ = (0 + body.length + 1) * 2 from by rw [a6 aA, List.length_append]; simp), fZ _, ?_⟩
    conv => whnf
    refine ⟨_, _, aN (show _ = N * 2 from by rw [a6 aA, hNl]), fZ _, ?_⟩
    conv => whnf
    have hsp := ih (body ++ [left[k]]) (left.eraseIdx k) y (by rw [List.length_eraseIdx_of_lt hk]; omega) (by rw [wQ q.1 body left hk]; exact hs) hyl
    unfold cE at hsp
    rw [hNl, List.length_append, List.length_singleton, show body.length + 1 = 0 + body.length + 1 from by omega] at hsp
    refine ⟨_, hsp, fun r g2 hP => ?_⟩
    obtain ⟨rfl, z, hz, hzl, hg⟩ := hP
    have hfz := hstep hk z hz
    rcases hg with ⟨rfl, rfl⟩ | rfl
    ·refine .inl ?_
     conv => whnf
     exact ⟨m - 1, by omega, k + 1, IntKind.i64.wrap ((k : Int) + 1), z, hwk, by omega, hzl, hfz, .inr (by kernel_rfl)⟩
    ·refine .inl ?_
     conv => whnf
     exact ⟨m - 1, by omega, k + 1, IntKind.i64.wrap ((k : Int) + 1), z, hwk, by omega, hzl, hfz, .inr (by kernel_rfl)⟩
   ·conv => whnf
    have hkk : k = left.length := by omega
    subst hkk
    refine ⟨[], ?_⟩
    conv => whnf
    exact ⟨rfl, y, hfold, hyl, .inr rfl⟩
set_option maxHeartbeats 4000000 in
theorem mS (s : List Int) (q : bT) (hs : cT s ≤ 1048576) (hq : aC q ≤ 1048576) : bI Tryz.prog 188 [aV s, aP q] (.tup [cC (if aH s q then fG q else ([], [])), cb (aH s q)]) := by
 refine aF mx aJ Tryz.func188 rfl ?_
 conv => whnf
 refine ⟨_, dS s q hs hq, .inl rfl, .inl ?_⟩
 conv => whnf
 generalize aH s q = b1
 cases b1 with
 | false =>
  conv => whnf
  exact .inr ⟨1, .inr ⟨2, rfl⟩⟩
 | true =>
  conv => whnf
  refine ⟨_, mQ q hq, .inl rfl, .inr ?_⟩
  have hy0 : aC (nmQ q) ≤ 1048576 := by rw [qG]; exact hq
  have hn : fG q = (nC q.1 q.2.length [] q.2 (some (nmQ q))).getD ([], []) := by
   unfold fG
   rw [rN q.1 q.2.length [] q.2 rfl, List.nil_append]
  rw [hn]
  conv => whnf
  refine .inr (.inr (.inr ⟨[1, 5, 6, 3, 4], [7], ?_⟩))
  conv => whnf
  refine ⟨_, _, rfl, rfl, ?_⟩
  conv => whnf
  have hsp := Y1 q q.2.length [] q.2 (nmQ q) rfl (by unfold vQ; unfold aC dW at hq; simp [bS]; omega) hy0
  refine ⟨_, hsp, fun r g2 hP => ?_⟩
  obtain ⟨rfl, z, hz, hzl, hg⟩ := hP
  rw [hz]
  rcases hg with ⟨rfl, rfl⟩ | rfl
  ·refine .inl ?_
   conv => whnf
   refine ⟨by rw [a6 a7], by rw [a6 aK], rfl⟩
  ·refine .inl ?_
   conv => whnf
   refine ⟨by rw [a6 a7], by rw [a6 aK], rfl⟩
end Go.Proofs.YtboolngaahifdaaGreatD
