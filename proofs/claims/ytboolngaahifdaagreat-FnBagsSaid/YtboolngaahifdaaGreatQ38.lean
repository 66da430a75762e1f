/- Contracts and plain laws of this seat; no condition. -/
import Derived.Test.YtboolngaahifdaaGreatQ32
set_option linter.unusedVariables false
set_option linter.unusedSimpArgs false
set_option maxRecDepth 100000
namespace Go.Proofs.YtboolngaahifdaaGreatD
open Go Go.Proofs
def tM (p : aL × Bool) : List V := [ci p.1.1, if p.2 then .any else bE p.1.2]
theorem R9 (p : aL × Bool) : (tM p).length = 2 := rfl
theorem a0V (xs : List aL) : aB bY xs = aB tM (xs.map fun a => (a, false)) := by
 induction xs with
 | nil => rfl
 | cons x xs ih =>
  have h1 : aB bY (x :: xs) = bY x ++ aB bY xs := by simp [aB]
  have h2 : aB tM ((x :: xs).map fun a => (a, false)) = tM (x, false) ++ aB tM (xs.map fun a => (a, false)) := by simp [aB]
  rw [h1, h2, ih]
  rfl
set_option maxHeartbeats 40000000 in
theorem m6 (x0 : JF) (h0 : aC x0 ≤ 1048576) : bI Tryz.prog 130 [aP x0] (cC (d3 x0)) := by
 unfold aC at h0
 have h0' := h0
 unfold dW at h0
 refine aF mx aJ Tryz.func130 rfl ?_
 conv => whnf
 refine ⟨_, jB x0.1 (by omega), .inl rfl, .inr ?_⟩
 conv => whnf
 refine ⟨_, sR x0.2 (by omega), .inl rfl, .inr ?_⟩
 conv => whnf
 refine ⟨[(2,0),(3,202),(15,0),(16,0),(17,0)], fun m s => ∃ (k : Nat) (e : Int) (n : Nat) (r : List V) (ps : List (aL × Bool)) (r0 : List V), e = k ∧ m + k = x0.2.length ∧ n = (jC (x0.2.take k)).length ∧ r = aB bY (jC (x0.2.take k)) ∧ ps.length = x0.2.length ∧ (∀ j, k ≤ j → ∀ (h : j < x0.2.length), ps[j]? = some (x0.2[j], false)) ∧ r0 = aB tM ps ∧
  s = ⟨45, [(2, .ptr 0 0), (3, .ptr 1 0), (15, .own 2 2 0 x0.2.length x0.2.length none), (16, ci x0.2.length), (17, ci e)], [some ⟨true, [cG, cG]⟩, some ⟨true, [.own 3 1 0 x0.1.length x0.1.length none, .own 4 2 0 n n none]⟩, some ⟨false, r0⟩, some ⟨false, aB ciL x0.1⟩, some ⟨false, r⟩]⟩, x0.2.length, ⟨0, 0, 0, _, x0.2.map fun a => (a, false), _, rfl, rfl, rfl, rfl, by rw [List.length_map], fun j _ h => by rw [List.getElem?_map, List.getElem?_eq_getElem h]; rfl, (a0V x0.2), rfl⟩, ?_⟩
 rintro m s ⟨k, _, n, _, ps, _, rfl, hm, hn, rfl, hpl, hps, rfl, rfl⟩
 conv => whnf
 split <;> rename_i h1
 all_goals simp only [decide_eq_true_eq, decide_eq_false_iff_not] at h1
 ·conv => whnf
  have hk : k < x0.2.length := by omega
  have hkp : k < ps.length := by omega
  have hpk : ps[k] = (x0.2[k], false) := by
   have := hps k (Nat.le_refl _) hk
   rw [List.getElem?_eq_getElem hkp] at this
   exact Option.some.inj this
  have hb := bH (f := b9) hk
  have hcb : b9 x0.2[k] = x0.2[k].2.length := rfl
  have hdt := DQ b9 x0.2 k
  generalize hL : jC (x0.2.take k) = L at hn hdt
  refine ⟨by omega, ?_⟩
  conv => whnf
  refine ⟨bY x0.2[k], b7 (k := k) (d := 0) (m := 2) (xs := ps) R9 (Nat.zero_add _) hkp (by omega) (by rw [hpk]; rfl), ?_⟩
  conv => whnf
  refine ⟨[(2,0),(3,0),(5,0),(6,0),(15,0),(16,0),(17,0),(22,0),(23,0),(24,0)], fun m s => ∃ (j : Nat) (e : Int) (o : Nat) (fl : Bool), e = j ∧ m + j = L.length ∧ o = k * 2 + 1 ∧ L.any (eqA x0.2[k]) = (fl || (L.drop j).any (eqA x0.2[k])) ∧
   s = ⟨45, [(2, .ptr 0 0), (3, .ptr 1 0), (5, .ptr 2 0), (6, cb fl), (15, .own 3 2 0 x0.2.length x0.2.length none), (16, ci x0.2.length), (17, ci k), (22, .own 4 2 0 n n none), (23, ci n), (24, ci e)], [some ⟨true, [cG, cG]⟩, some ⟨true, [.own 5 1 0 x0.1.length x0.1.length none, .own 4 2 0 n n none]⟩, some ⟨true, [ci x0.2[k].1, .sub 3 o]⟩, some ⟨false, aB tM ps⟩, some ⟨false, aB bY L⟩, some ⟨false, aB ciL x0.1⟩]⟩, L.length, ⟨0, 0, 0 + k * 2 + 1, false, rfl, rfl, by omega, rfl, rfl⟩, ?_⟩
  rintro m' s ⟨j, _, o, fl, rfl, hm', ho, hany, rfl⟩
  have hcell : (aB tM ps)[o]? = some (V.tr 1 x0.2[k].2.length (aB ciL x0.2[k].2)) := eP R9 (k := k) (d := 1) (by omega) hkp (by rw [hpk]; rfl)
  conv => whnf
  split <;> rename_i h2
  all_goals simp only [decide_eq_true_eq, decide_eq_false_iff_not] at h2
  ·conv => whnf
   have hj : j < L.length := by omega
   have hbj := bH (f := b9) hj
   have hcj : b9 L[j] = L[j].2.length := rfl
   rw [xF hj] at hany
   refine ⟨by omega, ?_⟩
   conv => whnf
   refine ⟨_, b7 (k := j) (d := 0) (m := 2) (xs := L) aK (Nat.zero_add _) hj (by omega) rfl, ?_⟩
   conv => whnf
   cases fl with
   | true =>
    conv => whnf
    exact ⟨m' - 1, by omega, j + 1, _, o, true, a8 (by omega) (by omega), by omega, ho, by rw [hany, Bool.true_or, Bool.true_or], rfl⟩
   | false =>
   conv => whnf
   rw [Bool.false_or] at hany
   refine .inl ?_
   conv => whnf
   refine ⟨_, _, _, _, hcell, cK _, ?_⟩
   conv => whnf
   refine ⟨_, _, _, _, eP (v := bE L[j].2) aK (k := j) (d := 1) (by show 0 + j * 2 + 1 = _; omega) hj rfl, cK _, ?_⟩
   conv => whnf
   refine ⟨_, mP x0.2[k] L[j] (by omega) (by omega), .inr trivial, .inl ?_⟩
   conv => whnf
   exact ⟨m' - 1, by omega, j + 1, _, o, eqA x0.2[k] L[j], a8 (by omega) (by omega), by omega, ho, hany, rfl⟩
  ·conv => whnf
   rw [bG (by omega), List.any_nil, Bool.or_false] at hany
   cases fl with
   | true =>
    conv => whnf
    refine ⟨m - 1, by omega, k + 1, _, n, _, ps, _, a8 (by omega) (by omega), by omega, ?_, ?_, hpl, fun i hi h => hps i (by omega) h, rfl, rfl⟩
    ·rw [pU hk, hL, sS, hany, if_pos rfl, hn]
    ·rw [pU hk, hL, sS, hany, if_pos rfl]
   | false =>
   conv => whnf
   have hstep : jC (x0.2.take (k + 1)) = L ++ [x0.2[k]] := by rw [pU hk, hL, sS, hany, if_neg (by simp)]
   refine ⟨_, _, _, hcell, ?_⟩
   conv => whnf
   refine ⟨_, rfl, .inr ⟨tV x0.2[k], ?_⟩⟩
   conv => whnf
   refine ⟨by omega, by rw [a6 aK, hn], _, bQ bY _ x0.2[k], ?_⟩
   conv => whnf
   refine ⟨m - 1, by omega, k + 1, _, _, _, ps.set k (x0.2[k], true), _, a8 (by omega) (by omega), by omega, ?_, ?_, by rw [List.length_set, hpl], fun i hi h => ?_, yJ (y := (x0.2[k], true)) R9 (k := k) (d := 1) (by omega) hkp (by rw [hpk]; rfl) (by omega), rfl⟩
   ·rw [hstep, List.length_append, hn]
    rfl
   ·rw [hstep]
   ·rw [List.getElem?_set, if_neg (by omega)]
    exact hps i (by omega) h
 ·conv => whnf
  have hkk : k = x0.2.length := by omega
  rw [hkk, List.take_length] at hn ⊢
  subst hn
  refine ⟨by rw [a6 a7], by rw [a6 aK], rfl⟩
end Go.Proofs.YtboolngaahifdaaGreatD
