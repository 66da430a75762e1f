/- Contracts and plain laws of this seat; no condition. -/
import Derived.Test.YtboolngaahifdaaGreatQ10
import Derived.Test.YtboolngaahifdaaGreatQ11
set_option linter.unusedVariables false
set_option linter.unusedSimpArgs false
set_option maxRecDepth 100000
namespace Go.Proofs.YtboolngaahifdaaGreatD
open Go Go.Proofs
abbrev aL := Int × List Int
theorem jB (xs : List Int) (h : xs.length ≤ 1099511627776) : bI Tryz.prog 124 [aW xs] (bE xs) := by
 refine aF mx aJ Tryz.func124 rfl ?_
 conv => whnf
 refine ⟨a6 a7 _, f5 _, ?_⟩
 conv => whnf
 refine ⟨by omega, rfl, _, jO [] xs, ?_⟩
 conv => whnf
 refine ⟨by rw [a6 a7, List.nil_append, Nat.zero_add]; rfl, ?_⟩
 rw [List.nil_append, Nat.zero_add]
 rfl
theorem tV (a : aL) : ∀ c ∈ bY a, eU c = true := by
 intro c hc
 simp only [bY, List.mem_cons, List.not_mem_nil, or_false] at hc
 rcases hc with rfl | rfl <;> rfl
theorem bQ {α : Type} (f : α → List V) (xs : List α) (x : α) : aB f xs ++ f x = aB f (xs ++ [x]) := by
 rw [fH]
 congr 1
 simp [aB]
set_option maxHeartbeats 1000000 in
theorem sR (xs : List aL) (h : dW xs ≤ 1099511627776) : bI Tryz.prog 126 [cE xs] (wW xs) := by
 unfold dW at h
 refine aF mx aJ Tryz.func126 rfl ?_
 conv => whnf
 refine ⟨[(2,0),(3,0),(7,0),(8,0),(9,0)], fun m s => ∃ (k : Nat) (e : Int) (n : Nat) (r : List V), e = k ∧ m + k = xs.length ∧ n = k ∧ r = aB bY (xs.take k) ∧
  s = ⟨24, [(2, cG), (3, .own 0 2 0 n n none), (7, cE xs), (8, ci xs.length), (9, ci e)], [some ⟨false, r⟩]⟩, xs.length, ⟨0, 0, 0, _, rfl, rfl, rfl, rfl, rfl⟩, ?_⟩
 rintro m s ⟨k, _, n, _, rfl, hm, rfl, rfl, rfl⟩
 conv => whnf
 split <;> rename_i h1
 all_goals simp only [decide_eq_true_eq, decide_eq_false_iff_not] at h1
 ·conv => whnf
  have hk : n < xs.length := by omega
  have hb := bH (f := b9) hk
  have hcb : b9 xs[n] = xs[n].2.length := rfl
  refine ⟨by omega, a6 aA xs, ?_⟩
  conv => whnf
  refine ⟨_, aD (k := n) aA hk, ?_⟩
  conv => whnf
  refine ⟨List.range 10, by kernel_rfl, ?_⟩
  conv => whnf
  refine ⟨_, jB xs[n].2 (by omega), .inl rfl, .inr ?_⟩
  conv => whnf
  refine ⟨by rw [a6 a7], ?_⟩
  conv => whnf
  refine ⟨_, rfl, .inr ⟨tV xs[n], ?_⟩⟩
  conv => whnf
  refine ⟨by omega, by rw [a6 aK, List.length_take]; congr 1; omega, _, bQ bY _ xs[n], ?_⟩
  conv => whnf
  refine ⟨m - 1, by omega, n + 1, _, _, _, a8 (by omega) (by omega), by omega, rfl, ?_, rfl⟩
  rw [List.take_succ_eq_append_getElem hk]
 ·conv => whnf
  have hkk : n = xs.length := by omega
  subst hkk
  rw [List.take_length]
  refine ⟨by rw [a6 aK], ?_⟩
  rfl
abbrev aG := Int × List Int
def ZQ (x y : Int) : Int := if x < y then -1 else if y < x then 1 else 0
def ltI : List Int → List Int → Bool
 | _, [] => false
 | [], _ :: _ => true
 | x :: xs, y :: ys => if x = y then ltI xs ys else decide (x < y)
def iR : List Int → List Int → Int
 | [], [] => 0
 | [], _ :: _ => -1
 | _ :: _, [] => 1
 | x :: xs, y :: ys => if x < y then -1 else if y < x then 1 else iR xs ys
def ltF (a b : aG) : Bool := if a.1 = b.1 then ltI a.2 b.2 else decide (a.1 < b.1)
def ML (a b : aG) : Int := if a.1 < b.1 then -1 else if b.1 < a.1 then 1 else iR a.2 b.2
def eqF (a b : aG) : Bool := decide (a = b)
theorem WW (a b : aG) : eqF a b = (decide (a.1 = b.1) && decide (a.2 = b.2)) := by
 unfold eqF
 rw [← Bool.decide_and, decide_eq_decide]
 exact Prod.ext_iff
theorem tJ (xs ys : List Int) (hl : xs.length ≤ 1099511627776) (hl' : ys.length ≤ 1099511627776) : bI Tryz.prog 157 [aW xs, aW ys] (cb (ltI xs ys)) := by
 refine aF mx aJ Tryz.func157 rfl ?_
 conv => whnf
 refine ⟨[(0,0),(1,0),(4,0),(5,0)], fun m s => ∃ (k : Nat) (e : Int), e = k ∧ m + k = xs.length ∧ k ≤ ys.length ∧ ltI xs ys = ltI (xs.drop k) (ys.drop k) ∧
  s = ⟨41, [(0, aW xs), (1, aW ys), (4, cb false), (5, ci e)], []⟩, xs.length, ⟨0, 0, rfl, rfl, Nat.zero_le _, rfl, rfl⟩, ?_⟩
 rintro m s ⟨k, _, rfl, hm, hky, hj, rfl⟩
 conv => whnf
 generalize hc1 : decide ((k : Int) < (xs.length : Int)) = c1
 cases c1 with
 | false =>
  have hk : k = xs.length := by have := of_decide_eq_false hc1; omega
  conv => whnf
  rw [hj, bG (by omega)]
  have hlt : ∀ l : List Int, ltI [] l = decide (0 < l.length) := fun l => by cases l <;> rfl
  rw [hlt, List.length_drop]
  show cb _ = cb _
  congr 1
  rw [decide_eq_decide]
  omega
 | true =>
  have hk : k < xs.length := by have := of_decide_eq_true hc1; omega
  conv => whnf
  generalize hc2 : decide ((k : Int) < (ys.length : Int)) = c2
  cases c2 with
  | false =>
   have hk2 : k = ys.length := by have := of_decide_eq_false hc2; omega
   conv => whnf
   rw [hj, bG (xs := ys) (by omega)]
   have hlt : ∀ l : List Int, ltI l [] = false := fun l => by cases l <;> rfl
   rw [hlt]
   show cb _ = cb _
   rw [decide_eq_false (by omega)]
  | true =>
   have hk2 : k < ys.length := by have := of_decide_eq_true hc2; omega
   conv => whnf
   refine ⟨List.range 9, by kernel_rfl, ?_⟩
   conv => whnf
   refine ⟨by omega, a6 a7 xs, ?_⟩
   conv => whnf
   refine ⟨_, aD (k := k) a7 hk, ?_⟩
   conv => whnf
   refine ⟨by omega, a6 a7 ys, ?_⟩
   conv => whnf
   refine ⟨_, aD (k := k) a7 hk2, ?_⟩
   rw [List.drop_eq_getElem_cons hk, List.drop_eq_getElem_cons hk2, ltI] at hj
   conv => whnf
   split <;> rename_i h2
   ·have h3 : ¬ xs[k] = ys[k] := by simpa using h2
    rw [if_neg h3] at hj
    conv => whnf
    refine ⟨List.range 10, by kernel_rfl, ?_⟩
    conv => whnf
    refine ⟨by omega, a6 a7 xs, ?_⟩
    conv => whnf
    refine ⟨_, aD (k := k) a7 hk, ?_⟩
    conv => whnf
    refine ⟨by omega, a6 a7 ys, ?_⟩
    conv => whnf
    refine ⟨_, aD (k := k) a7 hk2, ?_⟩
    conv => whnf
    rw [hj]
    rfl
   ·have h3 : xs[k] = ys[k] := by simpa using h2
    rw [if_pos h3] at hj
    conv => whnf
    exact ⟨m - 1, by omega, k + 1, _, a8 (by omega) (by omega), by omega, by omega, hj, rfl⟩
theorem BC (a b : aG) (ha : a.2.length ≤ 1099511627776) (hb : b.2.length ≤ 1099511627776) : bI Tryz.prog 94 [mI a, mI b] (cb (ltF a b)) := by
 refine aF mx aJ Tryz.func94 rfl ?_
 conv => whnf
 unfold ltF
 split <;> rename_i h2
 ·have h3 : ¬ a.1 = b.1 := by simpa using h2
  conv => whnf
  rw [if_neg h3]
  rfl
 ·have h3 : a.1 = b.1 := by simpa using h2
  conv => whnf
  refine ⟨_, tJ a.2 b.2 ha hb, .inl rfl, .inl ?_⟩
  conv => whnf
  rw [if_pos h3]
  rfl
theorem BD (a b : aG) (ha : a.2.length ≤ 1099511627776) (hb : b.2.length ≤ 1099511627776) : bI Tryz.prog 135 [mI a, mI b] (cb (eqF a b)) := by
 rw [WW]
 refine aF mx aJ Tryz.func135 rfl ?_
 conv => whnf
 generalize hc : (a.1 == b.1) = c
 have hc' : decide (a.1 = b.1) = c := by rw [← hc]; rfl
 rw [hc']
 cases c with
 | false =>
  conv => whnf
  rfl
 | true =>
  conv => whnf
  refine ⟨_, kA a.2 b.2 ha hb, .inl rfl, .inl ?_⟩
  conv => whnf
  rfl
theorem DT (a b : aG) (ha : a.2.length ≤ 1099511627776) (hb : b.2.length ≤ 1099511627776) : bI Tryz.prog 174 [mI a, mI b] (cb (eqF a b)) := by
 rw [WW]
 refine aF mx aJ Tryz.func174 rfl ?_
 conv => whnf
 generalize hc : (a.1 == b.1) = c
 have hc' : decide (a.1 = b.1) = c := by rw [← hc]; rfl
 rw [hc']
 cases c with
 | false =>
  conv => whnf
  rfl
 | true =>
  conv => whnf
  refine ⟨_, jE a.2 b.2 ha hb, .inl rfl, .inl ?_⟩
  conv => whnf
  rfl
theorem EJ (x : Int) : bI Tryz.prog 210 [ci x] (cb false) := by
 refine aF mx aJ Tryz.func210 rfl ?_
 conv => whnf
 show cb (x != x) = cb false
 rw [bne_self_eq_false]
theorem BZ (x y : Int) : bI Tryz.prog 151 [ci x, ci y] (ci (ZQ x y)) := by
 refine aF mx aJ Tryz.func151 rfl ?_
 conv => whnf
 refine ⟨_, EJ x, .inl rfl, .inl ?_⟩
 conv => whnf
 refine ⟨_, EJ y, .inl rfl, .inl ?_⟩
 conv => whnf
 unfold ZQ
 split <;> rename_i h1
 ·have h1 : x < y := of_decide_eq_true h1
  conv => whnf
  rw [if_pos h1]
  rfl
 ·have h1 : ¬ x < y := of_decide_eq_false h1
  conv => whnf
  rw [if_neg h1]
  split <;> rename_i h2
  ·have h2 : y < x := of_decide_eq_true h2
   conv => whnf
   rw [if_pos h2]
   rfl
  ·have h2 : ¬ y < x := of_decide_eq_false h2
   conv => whnf
   rw [if_neg h2]
   rfl
theorem jV (xs ys : List Int) (hl : xs.length ≤ 1099511627776) (hl' : ys.length ≤ 1099511627776) : bI Tryz.prog 70 [aW xs, aW ys] (ci (iR xs ys)) := by
 refine aF mx aJ Tryz.func70 rfl ?_
 conv => whnf
 refine ⟨[(0,0),(1,0),(4,0),(9,0),(10,0),(11,0)], fun m s => ∃ (k : Nat) (e : Int), e = k ∧ m + k = xs.length ∧ k ≤ ys.length ∧ iR xs ys = iR (xs.drop k) (ys.drop k) ∧
  s = ⟨36, [(0, aW xs), (1, aW ys), (4, ci 0), (9, aW xs), (10, ci xs.length), (11, ci e)], []⟩, xs.length, ⟨0, 0, rfl, rfl, Nat.zero_le _, rfl, rfl⟩, ?_⟩
 rintro m s ⟨k, _, rfl, hm, hky, hj, rfl⟩
 conv => whnf
 split <;> rename_i h1
 all_goals simp only [decide_eq_true_eq, decide_eq_false_iff_not] at h1
 ·conv => whnf
  have hk : k < xs.length := by omega
  refine ⟨by omega, a6 a7 xs, ?_⟩
  conv => whnf
  refine ⟨_, aD (k := k) a7 hk, ?_⟩
  conv => whnf
  rw [List.drop_eq_getElem_cons hk] at hj
  split <;> rename_i h2
  all_goals simp only [decide_eq_true_eq, decide_eq_false_iff_not] at h2
  ·conv => whnf
   rw [hj, bG (xs := ys) (by omega)]
   rfl
  ·conv => whnf
   have hk2 : k < ys.length := by omega
   refine ⟨by omega, a6 a7 ys, ?_⟩
   conv => whnf
   refine ⟨_, aD (k := k) a7 hk2, ?_⟩
   conv => whnf
   refine ⟨_, BZ xs[k] ys[k], .inl rfl, .inl ?_⟩
   conv => whnf
   rw [List.drop_eq_getElem_cons hk2, iR] at hj
   generalize hc : ZQ xs[k] ys[k] = c
   unfold ZQ at hc
   split <;> rename_i h3
   ·have h4 : ¬ c = 0 := by simpa using h3
    conv => whnf
    rw [hj]
    split at hc
    ·rename_i h5; rw [if_pos h5, ← hc]; rfl
    ·rename_i h5
     rw [if_neg h5]
     split at hc
     ·rename_i h6; rw [if_pos h6, ← hc]; rfl
     ·exact absurd hc.symm h4
   ·have h4 : c = 0 := by simpa using h3
    conv => whnf
    refine ⟨m - 1, by omega, k + 1, _, a8 (by omega) (by omega), by omega, by omega, ?_, rfl⟩
    rw [hj]
    split at hc
    ·omega
    ·rename_i h5
     rw [if_neg h5]
     split at hc
     ·omega
     ·rename_i h6; rw [if_neg h6]
 ·conv => whnf
  rw [hj, bG (xs := xs) (by omega)]
  split <;> rename_i h2
  all_goals simp only [decide_eq_true_eq, decide_eq_false_iff_not] at h2
  ·conv => whnf
   have hk2 : k < ys.length := by omega
   rw [List.drop_eq_getElem_cons hk2]
   rfl
  ·conv => whnf
   rw [bG (xs := ys) (by omega)]
   rfl
theorem oP (a b : aG) (ha : a.2.length ≤ 1099511627776) (hb : b.2.length ≤ 1099511627776) : bI Tryz.prog 147 [mI a, mI b] (ci (ML a b)) := by
 refine aF mx aJ Tryz.func147 rfl ?_
 conv => whnf
 unfold ML
 split <;> rename_i h1
 ·have h1 : a.1 < b.1 := of_decide_eq_true h1
  conv => whnf
  rw [if_pos h1]
  rfl
 ·have h1 : ¬ a.1 < b.1 := of_decide_eq_false h1
  conv => whnf
  rw [if_neg h1]
  split <;> rename_i h2
  ·have h2 : b.1 < a.1 := of_decide_eq_true h2
   conv => whnf
   rw [if_pos h2]
   rfl
  ·have h2 : ¬ b.1 < a.1 := of_decide_eq_false h2
   conv => whnf
   rw [if_neg h2]
   refine ⟨_, jV a.2 b.2 ha hb, .inl rfl, .inl ?_⟩
   conv => whnf
   rfl
def fz (x : Int) : Int := if x < 0 then -1 - x else 80 + x
theorem r5 (x : Int) (h : aU x = true) : bI Tryz.prog 100 [ci x] (ci (fz x)) := by
 have hr : -80 ≤ x ∧ x ≤ 19 := by simpa [aU, inR] using h
 refine aF mx aJ Tryz.func100 rfl ?_
 conv => whnf
 unfold fz
 split <;> rename_i h1
 ·have h1 : x < 0 := of_decide_eq_true h1
  conv => whnf
  rw [if_pos h1]
  show ci (IntKind.i64.wrap (-1 - x)) = ci (-1 - x)
  rw [a8 (by omega) (by omega)]
 ·have h1 : ¬ x < 0 := of_decide_eq_false h1
  conv => whnf
  rw [if_neg h1]
  show ci (IntKind.i64.wrap (80 + x)) = ci (80 + x)
  rw [a8 (by omega) (by omega)]
theorem pZ (x : Int) : bI Tryz.prog 178 [ci x] (ci (jI x)) := by
 refine aF mx aJ Tryz.func178 rfl ?_
 conv => whnf
 refine ⟨_, rX x, .inl rfl, .inl ?_⟩
 conv => whnf
 generalize ht : aU x = b1
 cases b1 with
 | false =>
  conv => whnf
  have hr : ¬ (-80 ≤ x ∧ x ≤ 19) := by
   intro hh
   have : aU x = true := by simp [aU, inR, hh]
   rw [this] at ht; cases ht
  unfold jI
  rw [if_neg]
  ·rfl
  ·simp [inR]; omega
 | true =>
  have hr : -80 ≤ x ∧ x ≤ 19 := by simpa [aU, inR] using ht
  conv => whnf
  refine ⟨_, eZ x, .inl rfl, .inl ?_⟩
  conv => whnf
  generalize hv : b8 x = b2
  cases b2 with
  | true =>
   have hv : 0 ≤ x ∧ x ≤ 19 := by simpa [b8, inR] using hv
   conv => whnf
   unfold jI
   rw [if_neg]
   ·rfl
   ·simp [inR]; omega
  | false =>
   have hv : ¬ (0 ≤ x ∧ x ≤ 19) := by
    intro hh
    have : b8 x = true := by simp [b8, inR, hh]
    rw [this] at hv; cases hv
   conv => whnf
   unfold jI
   rw [if_pos]
   ·show ci (IntKind.i64.wrap (-1 - x)) = ci (-1 - x)
    rw [a8 (by omega) (by omega)]
   ·simp [inR]; omega
theorem t7 (x : Int) (h : aU x = true) : bI Tryz.prog 107 [ci x] (ci (fz x)) := by
 have hr : -80 ≤ x ∧ x ≤ 19 := by simpa [aU, inR] using h
 refine aF mx aJ Tryz.func107 rfl ?_
 conv => whnf
 refine ⟨_, eZ x, .inl rfl, .inl ?_⟩
 conv => whnf
 unfold fz
 generalize hv : b8 x = b2
 cases b2 with
 | true =>
  have hv : 0 ≤ x ∧ x ≤ 19 := by simpa [b8, inR] using hv
  conv => whnf
  rw [if_neg (by omega)]
  show ci (IntKind.i64.wrap (80 + x)) = ci (80 + x)
  rw [a8 (by omega) (by omega)]
 | false =>
  have hv : ¬ (0 ≤ x ∧ x ≤ 19) := by
   intro hh
   have : b8 x = true := by simp [b8, inR, hh]
   rw [this] at hv; cases hv
  conv => whnf
  refine ⟨_, pZ x, .inl rfl, .inl ?_⟩
  conv => whnf
  rw [if_pos (by omega)]
  unfold jI
  rw [if_pos (by simp [inR]; omega)]
  rfl
theorem pX {xs : List Int} {p : Int → Bool} (h : xs.all p = true) {k : Nat} (hk : k < xs.length) : p xs[k] = true := List.all_eq_true.1 h _ (List.getElem_mem hk)
theorem vL (xs : List Int) (h : xs.length ≤ 1099511627776) (ht : xs.all aU = true) : bI Tryz.prog 123 [aW xs] (bE (xs.map fz)) := by
 refine aF mx aJ Tryz.func123 rfl ?_
 conv => whnf
 refine ⟨[(0,0),(2,0),(3,0),(4,0)], fun m s => ∃ (k : Nat) (e : Int) (n : Nat) (r : List V), e = k ∧ m + k = xs.length ∧ n = k ∧ r = aB ciL ((xs.take k).map fz) ∧
  s = ⟨21, [(0, aW xs), (2, cG), (3, .own 0 1 0 n n none), (4, ci e)], [some ⟨false, r⟩]⟩, xs.length, ⟨0, 0, 0, _, rfl, rfl, rfl, rfl, rfl⟩, ?_⟩
 rintro m s ⟨k, _, n, _, rfl, hm, rfl, rfl, rfl⟩
 conv => whnf
 split <;> rename_i h1
 all_goals simp only [decide_eq_true_eq, decide_eq_false_iff_not] at h1
 ·conv => whnf
  have hk : n < xs.length := by omega
  refine ⟨by omega, a6 a7 xs, ?_⟩
  conv => whnf
  refine ⟨_, aD (k := n) a7 hk, ?_⟩
  conv => whnf
  refine ⟨_, r5 xs[n] (pX ht hk), .inl rfl, .inl ?_⟩
  conv => whnf
  refine ⟨_, rfl, .inl ⟨fU rfl, ?_⟩⟩
  conv => whnf
  refine ⟨by omega, by rw [a6 a7, List.length_map, List.length_take]; congr 1; omega, _, dC _ _, ?_⟩
  conv => whnf
  refine ⟨m - 1, by omega, n + 1, _, _, _, a8 (by omega) (by omega), by omega, rfl, ?_, rfl⟩
  rw [List.take_succ_eq_append_getElem hk, List.map_append, List.map_singleton]
 ·conv => whnf
  have hkk : n = xs.length := by omega
  subst hkk
  rw [List.take_length]
  refine ⟨by rw [a6 a7, List.length_map], ?_⟩
  show V.tr 1 xs.length _ = bE _
  rw [bE, List.length_map]
theorem t6 (xs : List Int) (h : xs.length ≤ 1099511627776) (ht : xs.all aU = true) : bI Tryz.prog 171 [aW xs] (bE (xs.map fz)) := by
 refine aF mx aJ Tryz.func171 rfl ?_
 conv => whnf
 refine ⟨[(2,0),(3,0),(7,0),(8,0),(9,0)], fun m s => ∃ (k : Nat) (e : Int) (n : Nat) (r : List V), e = k ∧ m + k = xs.length ∧ n = k ∧ r = aB ciL ((xs.take k).map fz) ∧
  s = ⟨20, [(2, cG), (3, .own 0 1 0 n n none), (7, aW xs), (8, ci xs.length), (9, ci e)], [some ⟨false, r⟩]⟩, xs.length, ⟨0, 0, 0, _, rfl, rfl, rfl, rfl, rfl⟩, ?_⟩
 rintro m s ⟨k, _, n, _, rfl, hm, rfl, rfl, rfl⟩
 conv => whnf
 split <;> rename_i h1
 all_goals simp only [decide_eq_true_eq, decide_eq_false_iff_not] at h1
 ·conv => whnf
  have hk : n < xs.length := by omega
  refine ⟨by omega, a6 a7 xs, ?_⟩
  conv => whnf
  refine ⟨_, aD (k := n) a7 hk, ?_⟩
  conv => whnf
  refine ⟨_, t7 xs[n] (pX ht hk), .inl rfl, .inl ?_⟩
  conv => whnf
  refine ⟨_, rfl, .inl ⟨fU rfl, ?_⟩⟩
  conv => whnf
  refine ⟨by omega, by rw [a6 a7, List.length_map, List.length_take]; congr 1; omega, _, dC _ _, ?_⟩
  conv => whnf
  refine ⟨m - 1, by omega, n + 1, _, _, _, a8 (by omega) (by omega), by omega, rfl, ?_, rfl⟩
  rw [List.take_succ_eq_append_getElem hk, List.map_append, List.map_singleton]
 ·conv => whnf
  have hkk : n = xs.length := by omega
  subst hkk
  rw [List.take_length]
  refine ⟨by rw [a6 a7, List.length_map], ?_⟩
  show V.tr 1 xs.length _ = bE _
  rw [bE, List.length_map]
def i9 (f : aG) : Bool → List aG → List aG
 | p, [] => if p then [] else [f]
 | p, x :: r => if !p && !ltF x f then (if eqF x f then [] else [f]) ++ x :: i9 f true r else x :: i9 f p r
def gH (db : List aG) (f : aG) : List aG := i9 f false db
theorem fY (f : aG) (h : f.2.length ≤ 1099511627776) : bI Tryz.prog 169 [mI f] (BX f) := by
 refine aF mx aJ Tryz.func169 rfl ?_
 conv => whnf
 refine ⟨[0, 1, 3, 4, 2, 5, 6, 7], by kernel_rfl, ?_⟩
 conv => whnf
 refine ⟨a6 a7 _, f5 _, ?_⟩
 conv => whnf
 refine ⟨by omega, rfl, _, jO [] f.2, ?_⟩
 conv => whnf
 refine ⟨by rw [a6 a7, List.nil_append, Nat.zero_add]; rfl, ?_⟩
 rw [List.nil_append, Nat.zero_add]
 rfl
theorem iC (a : aG) : ∀ c ∈ cF a, eU c = true := by
 intro c hc
 simp only [cF, List.mem_cons, List.not_mem_nil, or_false] at hc
 rcases hc with rfl | rfl <;> rfl
theorem FC (f : aG) (l : List aG) : i9 f true l = l := by
 induction l with
 | nil => rfl
 | cons x r ih => simp [i9, ih]
theorem rB (f : aG) : ∀ (l : List aG) (p : Bool), (i9 f p l).length ≤ l.length + 1
 | [], p => by cases p <;> simp [i9]
 | x :: r, p => by
  have := rB f r p
  simp only [i9]
  split
  ·rw [FC]; split <;> simp
  ·simp only [List.length_cons]; omega
set_option maxHeartbeats 4000000 in
theorem wA (db : List aG) (f : aG) (h : d6 db ≤ 1048576) (hf : f.2.length ≤ 1048576) : bI Tryz.prog 122 [c7 db, mI f] (fP (gH db f)) := by
 unfold d6 at h
 refine aF mx aJ Tryz.func122 rfl ?_
 conv => whnf
 refine ⟨[(0,0),(3,0),(4,0),(5,0),(6,0),(7,0)], fun m s => ∃ (k : Nat) (e : Int) (p : Bool) (o : List aG) (n : Nat) (r : List V), e = k ∧ m + k = db.length ∧ gH db f = o ++ i9 f p (db.drop k) ∧ n = o.length ∧ n ≤ k + p.toNat ∧ r = aB cF o ∧
  s = ⟨54, [(0, c7 db), (3, .ptr 0 0), (4, cG), (5, .own 1 2 0 n n none), (6, cb p), (7, ci e)], [some ⟨true, vN f⟩, some ⟨false, r⟩]⟩, db.length, ⟨0, 0, false, [], 0, _, rfl, rfl, rfl, rfl, Nat.zero_le _, rfl, rfl⟩, ?_⟩
 rintro m s ⟨k, _, p, o, n, _, rfl, hm, hj, hn, hnk, rfl, rfl⟩
 conv => whnf
 split <;> rename_i h1
 all_goals simp only [decide_eq_true_eq, decide_eq_false_iff_not] at h1
 ·conv => whnf
  have hk : k < db.length := by omega
  have hb := bH (f := eF) hk
  have hcb : eF db[k] = db[k].2.length := rfl
  rw [List.drop_eq_getElem_cons hk, i9] at hj
  cases p with
  | true =>
   conv => whnf
   simp only [Bool.toNat_true] at hnk
   refine ⟨List.range 11, by kernel_rfl, ?_⟩
   conv => whnf
   simp only [Bool.not_true, Bool.false_and, Bool.false_eq_true, if_false] at hj
   refine ⟨by omega, a6 aS db, ?_⟩
   conv => whnf
   refine ⟨_, aD (k := k) aS hk, ?_⟩
   conv => whnf
   refine ⟨_, fY db[k] (by omega), .inl rfl, .inr ?_⟩
   conv => whnf
   refine ⟨by rw [a6 a7], ?_⟩
   conv => whnf
   refine ⟨_, rfl, .inr ⟨iC db[k], ?_⟩⟩
   conv => whnf
   refine ⟨by omega, by rw [a6 aT]; rw [hn], _, bQ cF _ db[k], ?_⟩
   conv => whnf
   refine ⟨m - 1, by omega, k + 1, _, true, _, _, _, a8 (by omega) (by omega), by omega, ?_, ?_, ?_, rfl, rfl⟩
   ·rw [hj]; simp
   ·simp [hn]
   ·simp only [Bool.toNat_true]; omega
  | false =>
   conv => whnf
   simp only [Bool.toNat_false] at hnk
   refine ⟨List.range 11, by kernel_rfl, ?_⟩
   conv => whnf
   refine ⟨by omega, a6 aS db, ?_⟩
   conv => whnf
   refine ⟨_, aD (k := k) aS hk, ?_⟩
   conv => whnf
   refine ⟨_, BC db[k] f (by omega) (by omega), .inl rfl, .inl ?_⟩
   conv => whnf
   simp only [Bool.not_false, Bool.true_and] at hj
   generalize ltF db[k] f = b1 at hj
   cases b1 with
   | true =>
    conv => whnf
    simp only [Bool.not_true, Bool.false_eq_true, if_false] at hj
    refine ⟨by omega, a6 aS db, ?_⟩
    conv => whnf
    refine ⟨_, aD (k := k) aS hk, ?_⟩
    conv => whnf
    refine ⟨_, fY db[k] (by omega), .inl rfl, .inr ?_⟩
    conv => whnf
    refine ⟨by rw [a6 a7], ?_⟩
    conv => whnf
    refine ⟨_, rfl, .inr ⟨iC db[k], ?_⟩⟩
    conv => whnf
    refine ⟨by omega, by rw [a6 aT]; rw [hn], _, bQ cF _ db[k], ?_⟩
    conv => whnf
    refine ⟨m - 1, by omega, k + 1, _, false, _, _, _, a8 (by omega) (by omega), by omega, ?_, ?_, ?_, rfl, rfl⟩
    ·rw [hj]; simp
    ·simp [hn]
    ·simp only [Bool.toNat_false]; omega
   | false =>
    conv => whnf
    simp only [Bool.not_false, if_true] at hj
    refine ⟨List.range 7, by kernel_rfl, ?_⟩
    conv => whnf
    refine ⟨by omega, a6 aS db, ?_⟩
    conv => whnf
    refine ⟨_, aD (k := k) aS hk, ?_⟩
    conv => whnf
    refine ⟨_, BD db[k] f (by omega) (by omega), .inl rfl, .inl ?_⟩
    conv => whnf
    generalize eqF db[k] f = b2 at hj
    cases b2 with
    | true =>
     conv => whnf
     simp only [if_true, List.nil_append] at hj
     refine ⟨by omega, a6 aS db, ?_⟩
     conv => whnf
     refine ⟨_, aD (k := k) aS hk, ?_⟩
     conv => whnf
     refine ⟨_, fY db[k] (by omega), .inl rfl, .inr ?_⟩
     conv => whnf
     refine ⟨by rw [a6 a7], ?_⟩
     conv => whnf
     refine ⟨_, rfl, .inr ⟨iC db[k], ?_⟩⟩
     conv => whnf
     refine ⟨by omega, by rw [a6 aT]; rw [hn], _, bQ cF _ db[k], ?_⟩
     conv => whnf
     refine ⟨m - 1, by omega, k + 1, _, true, _, _, _, a8 (by omega) (by omega), by omega, ?_, ?_, ?_, rfl, rfl⟩
     ·rw [hj]; simp
     ·simp [hn]
     ·simp only [Bool.toNat_true]; omega
    | false =>
     conv => whnf
     simp only [Bool.false_eq_true, if_false, List.singleton_append] at hj
     refine ⟨_, fY f (by omega), .inl rfl, .inr ?_⟩
     conv => whnf
     refine ⟨by rw [a6 a7], ?_⟩
     conv => whnf
     refine ⟨_, rfl, .inr ⟨iC f, ?_⟩⟩
     conv => whnf
     refine ⟨by omega, by rw [a6 aT]; rw [hn], _, bQ cF _ f, ?_⟩
     conv => whnf
     refine ⟨by omega, a6 aS db, ?_⟩
     conv => whnf
     refine ⟨_, aD (k := k) aS hk, ?_⟩
     conv => whnf
     refine ⟨_, fY db[k] (by omega), .inl rfl, .inr ?_⟩
     conv => whnf
     refine ⟨by rw [a6 a7], ?_⟩
     conv => whnf
     refine ⟨_, rfl, .inr ⟨iC db[k], ?_⟩⟩
     conv => whnf
     refine ⟨by omega, by rw [a6 aT, List.length_append]; rw [hn]; rfl, _, bQ cF _ db[k], ?_⟩
     conv => whnf
     refine ⟨m - 1, by omega, k + 1, _, true, _, _, _, a8 (by omega) (by omega), by omega, ?_, ?_, ?_, rfl, rfl⟩
     ·rw [hj]; simp
     ·simp [hn]
     ·simp only [Bool.toNat_true]; omega
 ·conv => whnf
  rw [bG (by omega)] at hj
  cases p with
  | true =>
   conv => whnf
   simp only [i9, if_true, List.append_nil] at hj
   rw [hj]
   refine ⟨by rw [a6 aT, hn], ?_⟩
   subst hn
   rfl
  | false =>
   conv => whnf
   simp only [i9, Bool.false_eq_true, if_false] at hj
   simp only [Bool.toNat_false] at hnk
   refine ⟨_, fY f (by omega), .inl rfl, .inr ?_⟩
   conv => whnf
   refine ⟨by rw [a6 a7], ?_⟩
   conv => whnf
   refine ⟨_, rfl, .inr ⟨iC f, ?_⟩⟩
   conv => whnf
   refine ⟨by omega, by rw [a6 aT]; rw [hn], _, bQ cF _ f, ?_⟩
   conv => whnf
   rw [hj]
   subst hn
   refine ⟨by rw [a6 aT, List.length_append]; rfl, ?_⟩
   show V.tr 2 (o.length + 1) _ = fP _
   rw [fP, List.length_append]
   rfl
end Go.Proofs.YtboolngaahifdaaGreatD
