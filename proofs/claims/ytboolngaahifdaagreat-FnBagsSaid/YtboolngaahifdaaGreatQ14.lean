/- Contracts and plain laws of this seat; no condition. -/
import Derived.Test.YtboolngaahifdaaGreatQ13
import Derived.Test.YtboolngaahifdaaGreatQ12
import Derived.Test.YtboolngaahifdaaGreatQ11
set_option linter.unusedVariables false
set_option linter.unusedSimpArgs false
set_option maxRecDepth 100000
namespace Go.Proofs.YtboolngaahifdaaGreatD
open Go Go.Proofs
def bvS (acc : List Int) (t : Int) : List Int := if decide (t ≥ 0) && !has acc t then acc ++ [t] else acc
def kW (as' : List AT) : List Int := as'.flatMap (·.2)
def hY (q : bJ) : List Int := (kW q.2).foldl bvS []
theorem fL (xs ys : List Int) (v : Int) : has (xs ++ ys) v = (has xs v || has ys v) := List.any_append
theorem uJ (t x : Int) : has [t] x = (t == x) := by
 show ((t == x) || false) = _
 rw [Bool.or_false]
theorem ZW (acc : List Int) (t x : Int) : has (bvS acc t) x = (has acc x || (decide (x ≥ 0) && (t == x))) := by
 unfold bvS
 by_cases h : t = x
 ·subst h
  rw [beq_self_eq_true, Bool.and_true]
  cases h1 : decide (t ≥ 0) with
  | false => simp
  | true =>
   cases h2 : has acc t with
   | true => simp [h2]
   | false => simp [fL, uJ, h2]
 ·have hb : (t == x) = false := by rw [beq_eq_false_iff_ne]; exact h
  rw [hb, Bool.and_false, Bool.or_false]
  split
  ·rw [fL, uJ, hb, Bool.or_false]
  ·rfl
theorem N7 (x : Int) : ∀ (ts acc : List Int), has (ts.foldl bvS acc) x = (has acc x || (decide (x ≥ 0) && has ts x))
 | [], acc => by
  show has acc x = (has acc x || (decide (x ≥ 0) && false))
  rw [Bool.and_false, Bool.or_false]
 | t :: ts, acc => by
  rw [List.foldl_cons, N7 x ts, ZW]
  show _ = (has acc x || (decide (x ≥ 0) && ((t == x) || has ts x)))
  cases has acc x <;> cases decide (x ≥ 0) <;> rfl
theorem EC (x : Int) : ∀ l : List AT, has (kW l) x = l.any (PY x)
 | [] => rfl
 | a :: l => by
  show has (a.2 ++ kW l) x = _
  rw [fL, EC x l]
  rfl
theorem K6 (q : bJ) (x : Int) (h : b8 x = true) : has (hY q) x = iU q x := by
 have hr : 0 ≤ x ∧ x ≤ 19 := by simpa [b8, inR] using h
 rw [hY, N7, EC, decide_eq_true (by omega), Bool.true_and]
 rfl
theorem qW (q : bJ) : ∀ (ts acc : List Int), (ts.foldl bvS acc).length ≤ acc.length + ts.length
 | [], acc => Nat.le_refl _
 | t :: ts, acc => by
  have := qW q ts (bvS acc t)
  have h2 : (bvS acc t).length ≤ acc.length + 1 := by unfold bvS; split <;> simp
  rw [List.foldl_cons, List.length_cons]
  omega
theorem G6 : ∀ l : List AT, (kW l).length = bS b9 l
 | [] => rfl
 | a :: l => by
  show (a.2 ++ kW l).length = _
  rw [List.length_append, G6 l]
  rfl
set_option maxHeartbeats 1000000 in
theorem vF (q : bJ) (h : aC q ≤ 1048576) : bI Tryz.prog 91 [aP q] (bE (hY q)) := by
 unfold aC dW at h
 refine aF mx aJ Tryz.func91 rfl ?_
 conv => whnf
 refine ⟨[(1,0),(2,0),(3,0),(4,0)], fun m s => ∃ (k : Nat) (e : Int) (acc : List Int) (n : Nat) (r : List V), e = k ∧ m + k = q.2.length ∧ hY q = (kW (q.2.drop k)).foldl bvS acc ∧ acc.length + bS b9 (q.2.drop k) ≤ 1048576 ∧ n = acc.length ∧ r = aB ciL acc ∧
  s = ⟨48, [(1, .ptr 0 0), (2, cG), (3, .own 1 1 0 n n none), (4, ci e)], [some ⟨true, aO q⟩, some ⟨false, r⟩]⟩, q.2.length, ⟨0, 0, [], 0, _, rfl, rfl, rfl, by simp; omega, rfl, rfl, rfl⟩, ?_⟩
 rintro m s ⟨k, _, acc, n, _, rfl, hm, hbv, hlen, hn, rfl, rfl⟩
 conv => whnf
 split <;> rename_i h1
 all_goals simp only [decide_eq_true_eq, decide_eq_false_iff_not] at h1
 ·conv => whnf
  have hk : k < q.2.length := by omega
  have hb := bH (f := b9) hk
  have hcb : b9 q.2[k] = q.2[k].2.length := rfl
  rw [List.drop_eq_getElem_cons hk] at hbv hlen
  refine ⟨[(1,0),(2,0),(3,0),(4,0),(5,0)], fun m s => ∃ (j : Nat) (e : Int) (acc : List Int) (n : Nat) (r : List V), e = j ∧ m + j = q.2[k].2.length ∧ hY q = (kW (q.2.drop (k + 1))).foldl bvS ((q.2[k].2.drop j).foldl bvS acc) ∧ acc.length + m + bS b9 (q.2.drop (k + 1)) ≤ 1048576 ∧ n = acc.length ∧ r = aB ciL acc ∧
   s = ⟨48, [(1, .ptr 0 0), (2, cG), (3, .own 1 1 0 n n none), (4, ci k), (5, ci e)], [some ⟨true, aO q⟩, some ⟨false, r⟩]⟩, q.2[k].2.length, ⟨0, 0, acc, n, _, rfl, rfl, ?_, ?_, hn, rfl, rfl⟩, ?_⟩
  ·rw [hbv]
   show ((q.2[k].2 ++ kW (q.2.drop (k + 1))).foldl bvS acc) = _
   rw [List.foldl_append]
   rfl
  ·have : b9 q.2[k] = q.2[k].2.length := rfl
   simp only [bS] at hlen
   omega
  clear hbv hlen hn
  rintro m' s ⟨j, _, acc, n, _, rfl, hm', hbv, hlen, hn, rfl, rfl⟩
  conv => whnf
  refine ⟨by omega, a6 aA _, ?_⟩
  conv => whnf
  refine ⟨_, aR (k := k) (d := 1) (m := 1) (r := [aW q.2[k].2]) aA hk (by omega) rfl, ?_⟩
  conv => whnf
  split <;> rename_i h2
  all_goals simp only [decide_eq_true_eq, decide_eq_false_iff_not] at h2
  ·conv => whnf
   have hj : j < q.2[k].2.length := by omega
   rw [List.drop_eq_getElem_cons hj, List.foldl_cons] at hbv
   refine ⟨by omega, a6 aA _, ?_⟩
   conv => whnf
   refine ⟨_, aR (k := k) (d := 1) (m := 1) (r := [aW q.2[k].2]) aA hk (by omega) rfl, ?_⟩
   conv => whnf
   refine ⟨by omega, a6 a7 _, ?_⟩
   conv => whnf
   refine ⟨_, aD (k := j) a7 hj, ?_⟩
   conv => whnf
   rw [bvS] at hbv
   generalize hb1 : decide (q.2[k].2[j] ≥ 0) = b1
   rw [hb1] at hbv
   cases b1 with
   | false =>
    conv => whnf
    exact ⟨m' - 1, by omega, j + 1, _, acc, n, _, a8 (by omega) (by omega), by omega, hbv, by omega, hn, rfl, rfl⟩
   | true =>
   conv => whnf
   refine .inl ?_
   conv => whnf
   refine ⟨_, _, aN (by rw [a6 a7, hn]), cK _, ?_⟩
   conv => whnf
   subst hn
   refine ⟨_, w9 acc q.2[k].2[j] (by omega), .inr trivial, .inl ?_⟩
   conv => whnf
   generalize has acc q.2[k].2[j] = b2 at hbv
   cases b2 with
   | true =>
    conv => whnf
    exact ⟨m' - 1, by omega, j + 1, _, acc, _, _, a8 (by omega) (by omega), by omega, hbv, by omega, rfl, rfl, rfl⟩
   | false =>
    conv => whnf
    refine ⟨_, rfl, .inl ⟨fU rfl, ?_⟩⟩
    conv => whnf
    refine ⟨by omega, a6 a7 _, _, dC _ _, ?_⟩
    conv => whnf
    refine ⟨m' - 1, by omega, j + 1, _, acc ++ [q.2[k].2[j]], _, _, a8 (by omega) (by omega), by omega, hbv, ?_, ?_, rfl, rfl⟩
    ·rw [List.length_append, List.length_singleton]
     omega
    ·rw [List.length_append]
     rfl
  ·conv => whnf
   rw [bG (by omega), List.foldl_nil] at hbv
   exact ⟨m - 1, by omega, k + 1, _, acc, n, _, a8 (by omega) (by omega), by omega, hbv, by omega, hn, rfl, rfl⟩
 ·conv => whnf
  rw [bG (by omega)] at hbv
  subst hn
  refine ⟨by rw [a6 a7], ?_⟩
  rw [hbv]
  rfl
set_option maxHeartbeats 1000000 in
theorem NK (s : List Int) (q : bJ) (n : Int) (hs : cT s ≤ 1048576) (h : aC q ≤ 1048576) : bI Tryz.prog 92 [aV s, aP q, ci n] (cb (nW s q n)) := by
 unfold cT at hs
 have h' := h
 unfold aC dW at h'
 refine aF mx aJ Tryz.func92 rfl ?_
 conv => whnf
 refine ⟨_, fI s (by omega), .inl rfl, .inl ?_⟩
 conv => whnf
 unfold nW
 generalize dE s = b1
 cases b1 with
 | false =>
  conv => whnf
  rfl
 | true =>
 conv => whnf
 refine ⟨_, n9 q.1 (by omega), .inl rfl, .inl ?_⟩
 conv => whnf
 generalize d5 q.1 = b3
 cases b3 with
 | false =>
  conv => whnf
  rfl
 | true =>
 conv => whnf
 refine ⟨_, iK (q.2.length : Int) 1 n, .inl rfl, .inl ?_⟩
 conv => whnf
 generalize inR (q.2.length : Int) 1 n = b4
 cases b4 with
 | false =>
  conv => whnf
  rfl
 | true =>
 conv => whnf
 refine ⟨[(3,0),(4,0),(6,0),(7,0)], fun m st => ∃ (k : Nat) (e : Int), e = k ∧ m + k = q.2.length ∧ q.2.all (fM s) = (q.2.drop k).all (fM s) ∧
  st = ⟨65, [(3, .ptr 0 0), (4, .ptr 1 0), (6, cb false), (7, ci e)], [some ⟨true, [aW s]⟩, some ⟨true, aO q⟩]⟩, q.2.length, ⟨0, 0, rfl, rfl, rfl, rfl⟩, ?_⟩
 rintro m st ⟨k, _, rfl, hm, hj, rfl⟩
 conv => whnf
 split <;> rename_i h1
 all_goals simp only [decide_eq_true_eq, decide_eq_false_iff_not] at h1
 ·conv => whnf
  have hk : k < q.2.length := by omega
  have hb := bH (f := b9) hk
  have hcb : b9 q.2[k] = q.2[k].2.length := rfl
  rw [kN hk] at hj
  refine ⟨List.range 8, by kernel_rfl, ?_⟩
  conv => whnf
  refine ⟨by omega, a6 aA _, ?_⟩
  conv => whnf
  refine ⟨_, aD (k := k) aA hk, ?_⟩
  conv => whnf
  refine ⟨_, CF s q.2[k] (by omega) (by omega), .inl rfl, .inl ?_⟩
  conv => whnf
  generalize fM s q.2[k] = b5 at hj
  cases b5 with
  | false =>
   conv => whnf
   rw [hj]
   rfl
  | true =>
   conv => whnf
   rw [Bool.true_and] at hj
   exact ⟨m - 1, by omega, k + 1, _, a8 (by omega) (by omega), by omega, hj, rfl⟩
 ·conv => whnf
  rw [bG (by omega)] at hj
  rw [hj]
  clear hj
  refine ⟨[(4,0),(6,0),(8,0)], fun m st => ∃ (k : Nat) (e : Int), e = k ∧ m + k = q.1.length ∧ q.1.all (tU q) = (q.1.drop k).all (tU q) ∧
   st = ⟨65, [(4, .ptr 0 0), (6, cb false), (8, ci e)], [some ⟨true, aO q⟩]⟩, q.1.length, ⟨0, 0, rfl, rfl, rfl, rfl⟩, ?_⟩
  rintro m1 st ⟨j, _, rfl, hm1, hj, rfl⟩
  conv => whnf
  split <;> rename_i h2
  all_goals simp only [decide_eq_true_eq, decide_eq_false_iff_not] at h2
  ·conv => whnf
   have hjl : j < q.1.length := by omega
   rw [kN hjl, tU] at hj
   have hbl : (hY q).length ≤ 1048576 := by
    have h1 := qW q (kW q.2) []
    rw [G6] at h1
    simp only [List.length_nil] at h1
    unfold hY
    omega
   refine ⟨[0,1,2,3,4,5,6,7,9,10,11,12,13,8,14,15,16], by kernel_rfl, ?_⟩
   conv => whnf
   refine ⟨by omega, a6 a7 _, ?_⟩
   conv => whnf
   refine ⟨_, aD (k := j) a7 hjl, ?_⟩
   conv => whnf
   refine ⟨_, oD q.1[j], .inl rfl, .inl ?_⟩
   conv => whnf
   generalize hb1 : b8 q.1[j] = b1
   rw [hb1] at hj
   cases b1 with
   | false =>
    conv => whnf
    exact ⟨m1 - 1, by omega, j + 1, _, a8 (by omega) (by omega), by omega, hj, rfl⟩
   | true =>
   conv => whnf
   refine ⟨by omega, a6 a7 _, ?_⟩
   conv => whnf
   refine ⟨_, aD (k := j) a7 hjl, ?_⟩
   conv => whnf
   refine ⟨_, vF q h, .inl rfl, .inl ?_⟩
   rw [fW]
   conv => whnf
   refine ⟨_, w9 (hY q) q.1[j] (by omega), .inl rfl, .inl ?_⟩
   conv => whnf
   rw [K6 q _ hb1]
   generalize iU q q.1[j] = b2 at hj
   cases b2 with
   | false =>
    conv => whnf
    rw [hj]
    rfl
   | true =>
    conv => whnf
    exact ⟨m1 - 1, by omega, j + 1, _, a8 (by omega) (by omega), by omega, hj, rfl⟩
  ·conv => whnf
   rw [hj, bG (by omega)]
   rfl
theorem dU (s : List Int) (q : bJ) (hs : cT s ≤ 1048576) (h : aC q ≤ 1048576) : bI Tryz.prog 25 [aV s, aP q] (cb (aH s q)) := by
 refine aF mx aJ Tryz.func25 rfl ?_
 conv => whnf
 refine ⟨_, NK s q 4 hs h, .inl rfl, .inl ?_⟩
 conv => whnf
 rfl
abbrev bA := List Int × List aL
def sF (to : List Int) (x : Int) : Int := if inR x 0 (to.length - 1) then to.getD x.toNat 0 else x
def AC (to : List Int) (a : aL) : aL := (a.1, a.2.map (sF to))
def sG (to : List Int) (q : bA) : bA := (q.1.map (sF to), q.2.map (AC to))
theorem NN (x : Int) (to : List Int) (h : to.length ≤ 1099511627776) : bI Tryz.prog 239 [ci x, aW to] (ci (sF to x)) := by
 have hw : IntKind.i64.wrap ((to.length : Int) - 1) = to.length - 1 := a8 (by omega) (by omega)
 refine aF mx aJ Tryz.func239 rfl ?_
 conv => whnf
 refine ⟨_, iK _ _ _, .inl rfl, .inl ?_⟩
 rw [hw]
 conv => whnf
 unfold sF
 generalize hb1 : inR x 0 (to.length - 1) = b1
 cases b1 with
 | false =>
  conv => whnf
  rfl
 | true =>
  conv => whnf
  have hr : 0 ≤ x ∧ x ≤ (to.length : Int) - 1 := by simpa [inR] using hb1
  obtain ⟨q, rfl⟩ : ∃ q : Nat, x = q := ⟨x.toNat, by omega⟩
  have hq : q < to.length := by omega
  refine ⟨by omega, a6 a7 to, ?_⟩
  conv => whnf
  refine ⟨_, aD (k := q) a7 hq, ?_⟩
  conv => whnf
  rw [if_pos rfl, Int.toNat_natCast, jK hq]
  rfl
theorem xQ (xs to : List Int) (h : xs.length ≤ 1048576) (ht : to.length ≤ 1099511627776) : bI Tryz.prog 218 [aW xs, aW to] (bE (xs.map (sF to))) := by
 refine aF mx aJ Tryz.func218 rfl ?_
 conv => whnf
 refine ⟨[(0,0),(1,0),(4,0),(5,0),(6,0)], fun m s => ∃ (k : Nat) (e : Int) (n : Nat) (r : List V), e = k ∧ m + k = xs.length ∧ n = k ∧ r = aB ciL ((xs.take k).map (sF to)) ∧
  s = ⟨26, [(0, aW xs), (1, aW to), (4, cG), (5, .own 0 1 0 n n none), (6, ci e)], [some ⟨false, r⟩]⟩, xs.length, ⟨0, 0, 0, _, rfl, rfl, rfl, rfl, rfl⟩, ?_⟩
 rintro m s ⟨k, _, n, _, rfl, hm, rfl, rfl, rfl⟩
 conv => whnf
 split <;> rename_i h1
 all_goals simp only [decide_eq_true_eq, decide_eq_false_iff_not] at h1
 ·conv => whnf
  have hk : n < xs.length := by omega
  refine ⟨by omega, a6 a7 _, ?_⟩
  conv => whnf
  refine ⟨_, aD (k := n) a7 hk, ?_⟩
  conv => whnf
  refine ⟨_, NN xs[n] to ht, .inl rfl, .inl ?_⟩
  conv => whnf
  refine ⟨_, rfl, .inl ⟨fU rfl, ?_⟩⟩
  conv => whnf
  refine ⟨by omega, by rw [a6 a7, List.length_map, List.length_take, Nat.min_eq_left (by omega)], _, dC _ _, ?_⟩
  conv => whnf
  refine ⟨m - 1, by omega, n + 1, _, _, _, a8 (by omega) (by omega), by omega, rfl, ?_, rfl⟩
  rw [List.take_succ_eq_append_getElem hk, List.map_append]
  rfl
 ·conv => whnf
  have hkk : n = xs.length := by omega
  subst hkk
  rw [List.take_length]
  refine ⟨by rw [a6 a7, List.length_map], ?_⟩
  simp only [bE, List.length_map]
  rfl
set_option maxHeartbeats 4000000 in
theorem eX (x0 : bA) (to : List Int) (h0 : aC x0 ≤ 1048576) (ht : to.length ≤ 1099511627776) : bI Tryz.prog 187 [aP x0, aW to] (cC (sG to x0)) := by
 unfold aC dW at h0
 refine aF mx aJ Tryz.func187 rfl ?_
 conv => whnf
 refine ⟨_, xQ x0.1 to (by omega) ht, .inl rfl, .inr ?_⟩
 conv => whnf
 refine ⟨[(1,0),(2,0),(4,0),(5,202),(6,0)], fun m s => ∃ (k : Nat) (e : Int) (n1 n : Nat) (r1 r : List V), e = k ∧ m + k = x0.2.length ∧ n1 = (x0.1.map (sF to)).length ∧ n = k ∧ r1 = aB ciL (x0.1.map (sF to)) ∧ r = aB bY ((x0.2.take k).map (AC to)) ∧
  s = ⟨40, [(1, aW to), (2, .ptr 0 0), (4, .ptr 1 0), (5, .ptr 2 0), (6, ci e)], [some ⟨true, aO x0⟩, some ⟨true, [cG, cG]⟩, some ⟨true, [.own 3 1 0 n1 n1 none, .own 4 2 0 n n none]⟩, some ⟨false, r1⟩, some ⟨false, r⟩]⟩, x0.2.length, ⟨0, 0, _, 0, _, _, rfl, rfl, rfl, rfl, rfl, rfl, rfl⟩, ?_⟩
 rintro m s ⟨k, _, n1, n, _, _, rfl, hm, hn1, rfl, rfl, rfl, rfl⟩
 conv => whnf
 split <;> rename_i h1
 all_goals simp only [decide_eq_true_eq, decide_eq_false_iff_not] at h1
 ·conv => whnf
  have hk : n < x0.2.length := by omega
  have hb := bH (f := b9) hk
  have hcb : b9 x0.2[n] = x0.2[n].2.length := rfl
  refine ⟨List.range 21, by kernel_rfl, ?_⟩
  conv => whnf
  refine ⟨by omega, a6 aA _, ?_⟩
  conv => whnf
  refine ⟨_, aR (k := n) (d := 0) (m := 1) (r := [ci x0.2[n].1]) aA hk (by omega) rfl, ?_⟩
  conv => whnf
  refine ⟨by omega, a6 aA _, ?_⟩
  conv => whnf
  refine ⟨_, aR (k := n) (d := 1) (m := 1) (r := [aW x0.2[n].2]) aA hk (by omega) rfl, ?_⟩
  conv => whnf
  refine ⟨_, xQ x0.2[n].2 to (by omega) ht, .inl rfl, .inr ?_⟩
  conv => whnf
  refine ⟨by rw [a6 a7], ?_⟩
  conv => whnf
  refine ⟨_, rfl, .inr ⟨tV (AC to x0.2[n]), ?_⟩⟩
  conv => whnf
  refine ⟨by omega, by rw [a6 aK, List.length_map, List.length_take, Nat.min_eq_left (by omega)], _, bQ bY _ (AC to x0.2[n]), ?_⟩
  conv => whnf
  refine ⟨m - 1, by omega, n + 1, _, n1, _, _, _, a8 (by omega) (by omega), by omega, hn1, rfl, rfl, ?_, rfl⟩
  rw [List.take_succ_eq_append_getElem hk, List.map_append]
  rfl
 ·conv => whnf
  have hkk : n = x0.2.length := by omega
  rw [hkk, List.take_length]
  subst hn1
  refine ⟨by rw [a6 a7], by rw [a6 aK, List.length_map], ?_⟩
  have e : cC (sG to x0) = .agg [.tr 1 (x0.1.map (sF to)).length (aB ciL (x0.1.map (sF to))), .tr 2 x0.2.length (aB bY (x0.2.map (AC to)))] := by
   simp only [cC, AN, sG, wW, bE, List.length_map]
  rw [e]
  rfl
theorem YH (x : Int) : sF [] x = x := by
 unfold sF
 rw [if_neg]
 simp [inR]
 omega
theorem YI (q : bA) : sG [] q = q := by
 have h1 : ∀ xs : List Int, xs.map (sF []) = xs := fun xs => by
  rw [List.map_congr_left (g := id) (fun x _ => YH x), List.map_id]
 have h2 : ∀ xs : List aL, xs.map (AC []) = xs := fun xs => by
  rw [List.map_congr_left (g := id) (fun x _ => by simp only [AC, h1]; rfl), List.map_id]
 unfold sG
 rw [h1, h2]
theorem BA (x0 : bA) (h0 : aC x0 ≤ 1048576) : bI Tryz.prog 181 [aP x0] (cC x0) := by
 have hs := eX x0 [] h0 (by simp)
 rw [YI] at hs
 refine aF mx aJ Tryz.func181 rfl ?_
 conv => whnf
 refine .inl ?_
 conv => whnf
 refine ⟨_, _, rfl, rfl, ?_⟩
 conv => whnf
 refine ⟨_, hs, .inr (gM _), .inr ?_⟩
 conv => whnf
 refine ⟨by rw [a6 a7], by rw [a6 aK], rfl⟩
abbrev oJ := Int × List Int
abbrev cP := List Int × List oJ
def gC (c : Cur) : List (Option Obj) := [some ⟨false, s9 c⟩]
theorem xP (c : Cur) (h : cS c) : SpecG Tryz.prog 195 [.ptr 0 0] (gC c) fun r g2 => ∃ (t : Int) (c' : Cur), r = ci t ∧ cS c' ∧ g2 = gC c' := by
 unfold gC
 refine cU mx aJ 1 Tryz.func195 rfl rfl (by decide) ?_
 conv => whnf
 refine .inr (.inl ?_)
 conv => whnf
 refine ⟨bD c, ?_⟩
 conv => whnf
 refine ⟨_, _, _, dT c 4 h (by omega), ?_⟩
 conv => whnf
 refine .inl ?_
 conv => whnf
 have h1 := aQ h 4
 generalize (aI c 4).2 = c1 at h1 ⊢
 generalize ((aI c 4).1 == 0) = b
 cases b with
 | true =>
  conv => whnf
  refine .inr (.inl ?_)
  conv => whnf
  refine ⟨bD c1, ?_⟩
  conv => whnf
  refine ⟨_, _, _, bV c1 3 h1 (by omega), ?_⟩
  conv => whnf
  refine .inl ?_
  conv => whnf
  refine ⟨[], ?_⟩
  conv => whnf
  exact ⟨_, _, rfl, aQ h1 3, rfl⟩
 | false =>
  conv => whnf
  refine .inr (.inl ?_)
  conv => whnf
  refine ⟨bD c1, ?_⟩
  conv => whnf
  refine ⟨_, _, _, bV c1 4 h1 (by omega), ?_⟩
  conv => whnf
  refine .inl ?_
  conv => whnf
  refine ⟨[], ?_⟩
  conv => whnf
  exact ⟨_, _, rfl, aQ h1 4, rfl⟩
theorem KB (c : Cur) (h : cS c) : SpecG Tryz.prog 141 [.ptr 0 0] (gC c) fun r g2 => ∃ (t : Int) (c' : Cur), r = ci t ∧ cS c' ∧ g2 = gC c' := by
 unfold gC
 refine cU mx aJ 1 Tryz.func141 rfl rfl (by decide) ?_
 conv => whnf
 refine .inr (.inl ?_)
 conv => whnf
 refine ⟨bD c, ?_⟩
 conv => whnf
 refine ⟨_, _, _, dT c 6 h (by omega), ?_⟩
 conv => whnf
 refine .inl ?_
 conv => whnf
 have h1 := aQ h 6
 generalize (aI c 6).2 = c1 at h1 ⊢
 generalize ((aI c 6).1 == 0) = b
 cases b with
 | true =>
  conv => whnf
  refine .inr (.inl ?_)
  conv => whnf
  refine ⟨bD c1, ?_⟩
  conv => whnf
  refine ⟨rfl, ?_⟩
  conv => whnf
  refine ⟨_, _, _, i5 c1 [19, 20, -80, -81, -1, 99] h1 (by decide) (by decide), ?_⟩
  conv => whnf
  refine .inl ?_
  conv => whnf
  refine ⟨[], ?_⟩
  conv => whnf
  exact ⟨_, _, rfl, aQ h1 6, rfl⟩
 | false =>
  conv => whnf
  refine .inr (.inr ⟨[0], [], ?_⟩)
  conv => whnf
  refine ⟨_, xP c1 h1, fun r g2 hP => ?_⟩
  obtain ⟨t, c2, rfl, h2, rfl⟩ := hP
  refine .inl ?_
  conv => whnf
  refine ⟨[], ?_⟩
  conv => whnf
  exact ⟨_, _, rfl, h2, rfl⟩
set_option maxHeartbeats 2000000 in
theorem NJ (s : List Int) (c : Cur) (hs : sOk s) (h : cS c) : SpecG Tryz.prog 192 [.ptr 0 0, aV s] (gC c) fun r g2 => ∃ (a : oJ) (c' : Cur), r = a3Q a ∧ a.2.length ≤ 3 ∧ cS c' ∧ g2 = gC c' := by
 unfold gC
 have hsl := hs.2.2
 refine cU mx aJ 1 Tryz.func192 rfl rfl (by decide) ?_
 conv => whnf
 refine .inr (.inl ?_)
 conv => whnf
 refine ⟨bD c, ?_⟩
 conv => whnf
 refine ⟨_, _, _, bV c s.length h (by omega), ?_⟩
 conv => whnf
 refine .inl ?_
 conv => whnf
 obtain ⟨q, hq, hql⟩ := uB hs c
 have hat := LN hs hql
 rw [hq]
 have hc := aQ h s.length
 generalize (aI c s.length).2 = c0 at hc ⊢
 obtain ⟨N, hN⟩ : ∃ N : Nat, s[q] = N := ⟨s[q].toNat, by omega⟩
 have hN3 : N ≤ 3 := by omega
 refine ⟨[(0,0),(3,0),(4,0),(5,201),(6,0)], fun m st => ∃ (i : Nat) (e : Int) (a : List Int) (c1 : Cur) (k : Nat) (cc r : List V), e = i ∧ m + i = N ∧ cS c1 ∧ k = a.length ∧ a.length = i ∧ cc = s9 c1 ∧ r = aB ciL a ∧
  st = ⟨33, [(0, .ptr 0 0), (3, .ptr 1 0), (4, .ptr 2 0), (5, .ptr 3 0), (6, ci e)], [some ⟨false, cc⟩, some ⟨true, [aW s]⟩, some ⟨true, [ci 0, cG]⟩, some ⟨true, [ci q, .own 4 1 0 k k none]⟩, some ⟨false, r⟩]⟩, N, ⟨0, 0, [], c0, 0, _, _, rfl, by omega, hc, rfl, rfl, rfl, rfl, by kernel_rfl⟩, ?_⟩
 rintro m st ⟨i, _, a, c1, k, _, _, rfl, hm, hc1, hk, hai, rfl, rfl, rfl⟩
 conv => whnf
 refine ⟨by omega, a6 a7 _, ?_⟩
 conv => whnf
 refine ⟨_, aD (k := q) a7 hql, ?_⟩
 rw [hN]
 conv => whnf
 split <;> rename_i h1
 all_goals simp only [decide_eq_true_eq, decide_eq_false_iff_not] at h1
 ·conv => whnf
  refine .inr (.inr ⟨[0], [], ?_⟩)
  conv => whnf
  refine ⟨_, xP c1 hc1, fun r g2 hP => ?_⟩
  obtain ⟨t, c2, rfl, h2, rfl⟩ := hP
  refine .inl ?_
  conv => whnf
  refine ⟨_, rfl, .inl ⟨fU rfl, ?_⟩⟩
  conv => whnf
  refine ⟨by omega, by rw [a6 a7, hk], _, dC _ _, ?_⟩
  conv => whnf
  exact ⟨m - 1, by omega, i + 1, IntKind.i64.wrap ((i : Int) + 1), a ++ [t], c2, k + 1, s9 c2, aB ciL (a ++ [t]), a8 (by omega) (by omega), by omega, h2, by simp [hk], by simp [hai], rfl, rfl, by kernel_rfl⟩
 ·conv => whnf
  refine ⟨[], ?_⟩
  conv => whnf
  subst hk
  refine ⟨by rw [a6 a7], ?_⟩
  exact ⟨((q : Int), a), c1, rfl, by show a.length ≤ 3; omega, hc1, rfl⟩
set_option maxHeartbeats 2000000 in
theorem KC (c : Cur) (h : cS c) : SpecG Tryz.prog 143 [.ptr 0 0] (gC c) fun r g2 => ∃ (s : List Int) (c' : Cur), r = CZ s ∧ s.length ≤ 8 ∧ cS c' ∧ g2 = gC c' := by
 unfold gC
 refine cU mx aJ 1 Tryz.func143 rfl rfl (by decide) ?_
 conv => whnf
 refine .inr (.inl ?_)
 conv => whnf
 refine ⟨bD c, ?_⟩
 conv => whnf
 refine ⟨_, _, _, lV c h, ?_⟩
 conv => whnf
 refine .inr ?_
 conv => whnf
 obtain ⟨h1, s1, s2, s3⟩ := CV h
 generalize (qM c).2 = c1 at h1 ⊢
 generalize (qM c).1 = s at s3 ⊢
 refine .inr (.inl ?_)
 conv => whnf
 refine ⟨bD c1, ?_⟩
 conv => whnf
 refine ⟨_, _, _, bV c1 10 h1 (by omega), ?_⟩
 conv => whnf
 refine .inl ?_
 conv => whnf
 have h2 := aQ h1 10
 generalize (aI c1 10).2 = c2 at h2 ⊢
 generalize (aI c1 10).1 = v
 generalize (v == 0) = b0
 cases b0 with
 | true =>
  conv => whnf
  refine ⟨[1001, 0, 1, 2, 3, 4, 5, 6, 7, 8, 1000, 1000], by kernel_rfl, ?_⟩
  conv => whnf
  refine .inr (.inl ?_)
  conv => whnf
  refine ⟨bD c2, ?_⟩
  conv => whnf
  refine ⟨rfl, ?_⟩
  conv => whnf
  refine ⟨fun k => eC (by kernel_rfl) k, rfl, _, _, _, i5 c2 [0, 3, 4] h2 (by decide) (by decide), ?_⟩
  conv => whnf
  refine .inl ?_
  conv => whnf
  refine ⟨_, rfl, .inl ⟨fU rfl, ?_⟩⟩
  conv => whnf
  refine ⟨by omega, by rw [a6 a7], _, dC _ _, ?_⟩
  conv => whnf
  refine ⟨[], ?_⟩
  conv => whnf
  refine ⟨by rw [a6 a7, List.length_append]; rfl, ?_⟩
  refine ⟨s ++ [([0, 3, 4] : List Int).getD (aI c2 3).1.toNat 0], (aI c2 3).2, ?_, by simp; omega, aQ h2 3, rfl⟩
  show _ = V.agg [.tr 1 (s ++ [([0, 3, 4] : List Int).getD (aI c2 3).1.toNat 0]).length _]
  rw [List.length_append]
  rfl
 | false =>
  conv => whnf
  generalize (v == 1) = b1
  cases b1 with
  | true =>
   conv => whnf
   refine ⟨[], ?_⟩
   conv => whnf
   exact .inr ⟨1, [], c2, rfl, by simp, h2, rfl⟩
  | false =>
   conv => whnf
   generalize (v == 2) = b2
   cases b2 with
   | true =>
    conv => whnf
    refine ⟨[], ?_⟩
    conv => whnf
    exact ⟨rfl, [1, 2, 3, 1, 2], c2, rfl, by simp, h2, rfl⟩
   | false =>
    conv => whnf
    refine ⟨[], ?_⟩
    conv => whnf
    refine ⟨by rw [a6 a7], ?_⟩
    exact ⟨s, c2, rfl, by omega, h2, rfl⟩
end Go.Proofs.YtboolngaahifdaaGreatD
