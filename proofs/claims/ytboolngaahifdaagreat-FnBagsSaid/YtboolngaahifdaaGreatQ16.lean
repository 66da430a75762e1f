/- Contracts and plain laws of this seat; no condition. -/
import Derived.Test.YtboolngaahifdaaGreatQ12
set_option linter.unusedVariables false
set_option linter.unusedSimpArgs false
set_option maxRecDepth 100000
namespace Go.Proofs.YtboolngaahifdaaGreatD
open Go Go.Proofs
abbrev Bnd := Nat → Option Int
def ba (b : Bnd) (k : Nat) : Int := (b k).getD 0
def bs (b : Bnd) (k : Nat) : Bool := (b k).isSome
def bC (b : Bnd) : List V := [ci (ba b 0), ci (ba b 1), ci (ba b 2), ci (ba b 3), ci (ba b 4), ci (ba b 5), ci (ba b 6), ci (ba b 7), ci (ba b 8), ci (ba b 9), ci (ba b 10), ci (ba b 11), ci (ba b 12), ci (ba b 13), ci (ba b 14), ci (ba b 15), ci (ba b 16), ci (ba b 17), ci (ba b 18), ci (ba b 19), cb (bs b 0), cb (bs b 1), cb (bs b 2), cb (bs b 3), cb (bs b 4), cb (bs b 5), cb (bs b 6), cb (bs b 7), cb (bs b 8), cb (bs b 9), cb (bs b 10), cb (bs b 11), cb (bs b 12), cb (bs b 13), cb (bs b 14), cb (bs b 15), cb (bs b 16), cb (bs b 17), cb (bs b 18), cb (bs b 19)]
theorem a3A (b : Bnd) : bC b = (List.range 20).map (fun k => ci (ba b k)) ++ (List.range 20).map (fun k => cb (bs b k)) := rfl
def sL (b : Bnd) (k : Nat) (v : Int) : Bnd := fun i => if i = k then some v else b i
theorem a1F (b : Bnd) (i : Nat) : (bC b)[i]? = if i < 20 then some (ci (ba b i)) else if i < 40 then some (cb (bs b (i - 20))) else none := by
 rw [a3A]
 split
 ·rename_i h
  rw [List.getElem?_append_left (by simpa using h), List.getElem?_map, List.getElem?_range h]; rfl
 ·rename_i h
  rw [List.getElem?_append_right (by simp; omega)]
  simp only [List.length_map, List.length_range]
  split
  ·rw [List.getElem?_map, List.getElem?_range (by omega)]; rfl
  ·rw [List.getElem?_eq_none (by simp; omega)]
theorem s6 {cs : List V} {i : Nat} {v : V} (h : cs[i]? = some v) : dP cs i 1 = some [v] := by
 have hl := (List.getElem?_eq_some_iff.1 h).1
 refine qP (by omega) ?_
 rw [List.drop_eq_getElem_cons hl]
 simp [(List.getElem?_eq_some_iff.1 h).2]
theorem Z2 {b : Bnd} {k : Nat} (hk : k < 20) : dP ((bC b).drop (k * 1)) 0 1 = some [ci (ba b k)] := by
 refine s6 ?_
 rw [List.getElem?_drop, Nat.mul_one, Nat.add_zero, a1F, if_pos hk]
theorem Z1 {b : Bnd} {k off : Nat} (hk : k < 20) (ho : off = 20 + k) : dP (bC b) off 1 = some [cb (bs b k)] := by
 subst ho
 exact s6 (by rw [a1F, if_neg (by omega), if_pos (by omega), Nat.add_sub_cancel_left])
def cB (a : Nat → Int) (f : Nat → Bool) : List V := [ci (a 0), ci (a 1), ci (a 2), ci (a 3), ci (a 4), ci (a 5), ci (a 6), ci (a 7), ci (a 8), ci (a 9), ci (a 10), ci (a 11), ci (a 12), ci (a 13), ci (a 14), ci (a 15), ci (a 16), ci (a 17), ci (a 18), ci (a 19), cb (f 0), cb (f 1), cb (f 2), cb (f 3), cb (f 4), cb (f 5), cb (f 6), cb (f 7), cb (f 8), cb (f 9), cb (f 10), cb (f 11), cb (f 12), cb (f 13), cb (f 14), cb (f 15), cb (f 16), cb (f 17), cb (f 18), cb (f 19)]
theorem a3B (a : Nat → Int) (f : Nat → Bool) : cB a f = (List.range 20).map (fun k => ci (a k)) ++ (List.range 20).map (fun k => cb (f k)) := rfl
theorem WI (a : Nat → Int) (f : Nat → Bool) : (cB a f).length = 40 := rfl
def GD {α : Type} (f : Nat → α) (k : Nat) (v : α) : Nat → α := fun i => if i = k then v else f i
theorem RU (a : Nat → Int) (f : Nat → Bool) (i : Nat) : (cB a f)[i]? = if i < 20 then some (ci (a i)) else if i < 40 then some (cb (f (i - 20))) else none := by
 rw [a3B]
 split
 ·rename_i h
  rw [List.getElem?_append_left (by simpa using h), List.getElem?_map, List.getElem?_range h]; rfl
 ·rename_i h
  rw [List.getElem?_append_right (by simp; omega)]
  simp only [List.length_map, List.length_range]
  split
  ·rw [List.getElem?_map, List.getElem?_range (by omega)]; rfl
  ·rw [List.getElem?_eq_none (by simp; omega)]
theorem ZO (a : Nat → Int) (f : Nat → Bool) {k off : Nat} (hk : k < 20) (ho : off = 20 + k) (v : Bool) : e7 (cB a f) off [cb v] = cB a (GD f k v) := by
 subst ho
 apply List.ext_getElem?
 intro i
 rw [iB (by rw [WI]; simp; omega), RU, RU]
 simp only [List.length_singleton, GD]
 by_cases h2 : i = 20 + k
 ·subst h2
  rw [if_pos ⟨Nat.le_refl _, by omega⟩, if_neg (by omega), if_pos (by omega), Nat.sub_self, Nat.add_sub_cancel_left, if_pos rfl]
  rfl
 ·rw [if_neg (by omega)]
  split
  ·rfl
  ·split
   ·rw [if_neg (by omega)]
   ·rfl
theorem ZN (a : Nat → Int) (f : Nat → Bool) {k off : Nat} (hk : k < 20) (ho : off = k) (v : Int) : e7 (cB a f) off [ci v] = cB (GD a k v) f := by
 subst ho
 apply List.ext_getElem?
 intro i
 rw [iB (by rw [WI]; simp; omega), RU, RU]
 simp only [List.length_singleton, GD]
 by_cases h2 : i = off
 ·subst h2
  rw [if_pos ⟨Nat.le_refl _, by omega⟩, if_pos hk, if_pos rfl]
  simp
 ·rw [if_neg (by omega)]
  split
  ·first | rfl | rw [if_neg h2]
  ·rfl
theorem ZM (b : Bnd) (k : Nat) (v : Int) : cB (GD (ba b) k v) (GD (bs b) k true) = bC (sL b k v) := by
 have h1 : GD (ba b) k v = ba (sL b k v) := by
  funext i
  simp only [GD, ba, sL]
  split <;> rfl
 have h2 : GD (bs b) k true = bs (sL b k v) := by
  funext i
  simp only [GD, bs, sL]
  split <;> rfl
 rw [h1, h2]; rfl
def vS (b : Bnd) (t : Int) : Int := if b8 t then ba b t.toNat else jI t
theorem rP (b : Bnd) (t : Int) : bI Tryz.prog 199 [.rp (bC b), ci t] (ci (vS b t)) := by
 refine aF mx aJ Tryz.func199 rfl ?_
 conv => whnf
 refine ⟨_, eZ t, .inl rfl, .inl ?_⟩
 conv => whnf
 unfold vS
 generalize hv : b8 t = c1
 cases c1 with
 | true =>
  have hr : 0 ≤ t ∧ t ≤ 19 := by simpa [b8, inR] using hv
  obtain ⟨k, rfl⟩ : ∃ k : Nat, t = k := ⟨t.toNat, by omega⟩
  conv => whnf
  refine ⟨by omega, ?_⟩
  conv => whnf
  refine ⟨_, Z2 (b := b) (k := k) (by omega), ?_⟩
  conv => whnf
  rfl
 | false =>
  conv => whnf
  refine ⟨_, pZ t, .inl rfl, .inl ?_⟩
  conv => whnf
  rfl
def qR (b : Bnd) (h : List Int) : List Int := h.map (vS b)
theorem RE (b : Bnd) (xs : List Int) (h : xs.length ≤ 1099511627776) : bI Tryz.prog 156 [.rp (bC b), aW xs] (bE (qR b xs)) := by
 refine aF mx aJ Tryz.func156 rfl ?_
 conv => whnf
 refine ⟨[(0,0),(4,0),(5,0),(9,0),(10,0),(11,0)], fun m s => ∃ (k : Nat) (e : Int) (n : Nat) (r : List V), e = k ∧ m + k = xs.length ∧ n = k ∧ r = aB ciL ((xs.take k).map (vS b)) ∧
  s = ⟨23, [(0, .rp (bC b)), (4, cG), (5, .own 0 1 0 n n none), (9, aW xs), (10, ci xs.length), (11, ci e)], [some ⟨false, r⟩]⟩, xs.length, ⟨0, 0, 0, _, rfl, rfl, rfl, rfl, rfl⟩, ?_⟩
 rintro m s ⟨k, _, n, _, rfl, hm, rfl, rfl, rfl⟩
 conv => whnf
 split <;> rename_i h1
 all_goals simp only [decide_eq_true_eq, decide_eq_false_iff_not] at h1
 ·conv => whnf
  have hk : n < xs.length := by omega
  refine ⟨by omega, a6 a7 xs, ?_⟩
  conv => whnf
  refine ⟨_, aD (k := n) a7 hk, ?_⟩
  conv => whnf
  refine ⟨_, rP b xs[n], .inl rfl, .inl ?_⟩
  conv => whnf
  refine ⟨_, rfl, .inl ⟨fU rfl, ?_⟩⟩
  conv => whnf
  refine ⟨by omega, by rw [a6 a7, List.length_map, List.length_take]; congr 1; omega, _, dC _ _, ?_⟩
  conv => whnf
  refine ⟨m - 1, by omega, n + 1, _, _, _, a8 (by omega) (by omega), by omega, rfl, ?_, rfl⟩
  rw [List.take_succ_eq_append_getElem hk, List.map_append, List.map_singleton]
 ·conv => whnf
  have hkk : n = xs.length := by omega
  subst hkk
  rw [List.take_length]
  refine ⟨by rw [a6 a7, List.length_map], ?_⟩
  show V.tr 1 xs.length _ = bE _
  rw [bE, qR, List.length_map]
def cQ : List Int → List Int → Bnd → Bnd × Bool
 | t :: ts, v :: vs, b => if t < 0 then (if -1 - t = v then cQ ts vs b else (b, false)) else match b t.toNat with
  | none => cQ ts vs (sL b t.toNat v)
  | some u => if u = v then cQ ts vs b else (b, false)
 | _, _, b => (b, true)
def mch (b : Bnd) (a f : aG) : Bnd × Bool := if a.1 = f.1 ∧ a.2.length = f.2.length then cQ a.2 f.2 b else (b, false)
def fF : Bnd := fun _ => none
set_option maxHeartbeats 4000000 in
theorem ER (b : Bnd) (a f : aG) (ha : a.2.length ≤ 1099511627776) (hf : f.2.length ≤ 1099511627776) (ht : a.2.all aU = true) : bI Tryz.prog 148 [.agg (bC b), GF a, mI f] (.tup [.agg (bC (mch b a f).1), cb (mch b a f).2]) := by
 refine aF mx aJ Tryz.func148 rfl ?_
 conv => whnf
 unfold mch
 generalize hc1 : (a.1 != f.1) = c1
 cases c1 with
 | true =>
  have h1 : ¬ a.1 = f.1 := by simpa using hc1
  conv => whnf
  rw [if_neg (fun h => h1 h.1)]
  rfl
 | false =>
  have h1 : a.1 = f.1 := by simpa using hc1
  conv => whnf
  generalize hc2 : ((a.2.length : Int) != (f.2.length : Int)) = c2
  cases c2 with
  | true =>
   have h2 : ¬ a.2.length = f.2.length := by
    have : ¬ (a.2.length : Int) = f.2.length := by simpa using hc2
    omega
   conv => whnf
   rw [if_neg (fun h => h2 h.2)]
   rfl
  | false =>
   have h2 : a.2.length = f.2.length := by
    have : (a.2.length : Int) = f.2.length := by simpa using hc2
    omega
   rw [if_pos ⟨h1, h2⟩]
   conv => whnf
   refine ⟨[(3,0),(4,0),(5,0),(6,0),(7,0),(26,0),(27,0),(28,0)], fun m s => ∃ (k : Nat) (e : Int) (x : Bnd), e = k ∧ m + k = a.2.length ∧ cQ a.2 f.2 b = cQ (a.2.drop k) (f.2.drop k) x ∧
    s = ⟨64, [(3, .ptr 0 0), (4, .ptr 1 0), (5, .ptr 2 0), (6, .ptr 3 0), (7, cb false), (26, aW a.2), (27, ci a.2.length), (28, ci e)], [some ⟨true, bC x⟩, some ⟨true, d7 a⟩, some ⟨true, vN f⟩, some ⟨true, bC fF⟩]⟩, a.2.length, ⟨0, 0, b, rfl, rfl, rfl, rfl⟩, ?_⟩
   rintro m s ⟨k, _, x, rfl, hm, hj, rfl⟩
   conv => whnf
   split <;> rename_i h3
   all_goals simp only [decide_eq_true_eq, decide_eq_false_iff_not] at h3
   ·conv => whnf
    have hk : k < a.2.length := by omega
    have hkf : k < f.2.length := by omega
    have htk := pX ht hk
    rw [List.drop_eq_getElem_cons hk, List.drop_eq_getElem_cons hkf, cQ] at hj
    refine ⟨by omega, a6 a7 _, ?_⟩
    conv => whnf
    refine ⟨_, aD (k := k) a7 hk, ?_⟩
    conv => whnf
    refine ⟨_, eZ a.2[k], .inl rfl, .inl ?_⟩
    conv => whnf
    generalize hv : b8 a.2[k] = c3
    cases c3 with
    | true =>
     have hr : 0 ≤ a.2[k] ∧ a.2[k] ≤ 19 := by simpa [b8, inR] using hv
     obtain ⟨j, hjj⟩ : ∃ j : Nat, a.2[k] = j := ⟨a.2[k].toNat, by omega⟩
     rw [hjj] at hj ⊢
     rw [if_neg (by omega), Int.toNat_natCast] at hj
     conv => whnf
     refine ⟨by omega, ?_⟩
     conv => whnf
     have hgt := Z1 (b := x) (k := j) (off := 0 + 20 + (j : Int).toNat * 1) (by omega) (by omega)
     split <;> rename_i hr0
     rotate_left
     ·cases hr0.symm.trans hgt
     cases hr0.symm.trans hgt
     conv => whnf
     generalize hs : bs x j = c4
     cases c4 with
     | false =>
      have hx : x j = none := by
       have : (x j).isSome = false := hs
       cases h : x j with
       | none => rfl
       | some u => rw [h] at this; cases this
      rw [hx] at hj
      conv => whnf
      refine ⟨by omega, ?_⟩
      conv => whnf
      have h7 : Nat.ble (0 + 20 + (j : Int).toNat * 1 + 1) 40 = true := Nat.ble_eq_true_of_le (by omega)
      split <;> rename_i hr1
      rotate_left
      ·cases hr1.symm.trans h7
      conv => whnf
      have hst := ZO (ba x) (bs x) (k := j) (off := 0 + 20 + (j : Int).toNat * 1) (by omega) (by omega) true
      generalize hz : e7 _ _ _ = z
      cases (hz.symm.trans hst)
      conv => whnf
      refine ⟨by omega, a6 a7 _, ?_⟩
      conv => whnf
      refine ⟨_, aD (k := k) a7 hkf, ?_⟩
      conv => whnf
      refine ⟨by omega, ?_⟩
      conv => whnf
      have h8 : Nat.ble (0 + 0 + (j : Int).toNat * 1 + 1) 40 = true := Nat.ble_eq_true_of_le (by omega)
      split <;> rename_i hr2
      rotate_left
      ·cases hr2.symm.trans h8
      conv => whnf
      have hst2 := ZN (ba x) (GD (bs x) j true) (k := j) (off := 0 + 0 + (j : Int).toNat * 1) (by omega) (by omega) f.2[k]
      generalize hz2 : e7 _ _ _ = z2
      cases (hz2.symm.trans hst2)
      conv => whnf
      exact ⟨m - 1, by omega, k + 1, _, sL x j f.2[k], a8 (by omega) (by omega), by omega, hj, by rw [← ZM]; rfl⟩
     | true =>
      obtain ⟨u, hx⟩ : ∃ u, x j = some u := by
       have : (x j).isSome = true := hs
       cases h : x j with
       | none => rw [h] at this; cases this
       | some u => exact ⟨u, rfl⟩
      rw [hx] at hj
      conv => whnf
      refine ⟨[0, 2, 3, 4, 5, 6, 1, 7], by kernel_rfl, ?_⟩
      conv => whnf
      refine ⟨by omega, a6 a7 _, ?_⟩
      conv => whnf
      refine ⟨_, aD (k := k) a7 hkf, ?_⟩
      conv => whnf
      refine ⟨_, rfl, ?_⟩
      conv => whnf
      refine ⟨_, rP x (j : Int), .inr trivial, .inl ?_⟩
      have hvo : vS x (j : Int) = u := by
       unfold vS
       have hv' : b8 (j : Int) = true := by rw [← hjj]; exact hv
       rw [if_pos hv', Int.toNat_natCast, ba, hx]; rfl
      rw [hvo]
      conv => whnf
      split <;> rename_i h5
      ·have h6 : ¬ u = f.2[k] := by simpa using h5
       conv => whnf
       rw [hj]
       simp only [if_neg h6]
       rfl
      ·have h6 : u = f.2[k] := by simpa using h5
       conv => whnf
       simp only [if_pos h6] at hj
       exact ⟨m - 1, by omega, k + 1, _, x, a8 (by omega) (by omega), by omega, hj, rfl⟩
    | false =>
     have hr : -80 ≤ a.2[k] ∧ a.2[k] ≤ -1 := by
      have h8 : -80 ≤ a.2[k] ∧ a.2[k] ≤ 19 := by simpa [aU, inR] using htk
      have h9 : ¬ (0 ≤ a.2[k] ∧ a.2[k] ≤ 19) := fun h => by
       have : b8 a.2[k] = true := by simp [b8, inR, h]
       rw [this] at hv; cases hv
      omega
     rw [if_pos (by omega)] at hj
     conv => whnf
     refine ⟨[0, 2, 3, 4, 5, 6, 1, 7], by kernel_rfl, ?_⟩
     conv => whnf
     refine ⟨by omega, a6 a7 _, ?_⟩
     conv => whnf
     refine ⟨_, aD (k := k) a7 hkf, ?_⟩
     conv => whnf
     refine ⟨_, rfl, ?_⟩
     conv => whnf
     refine ⟨_, rP x a.2[k], .inr trivial, .inl ?_⟩
     have hvo : vS x a.2[k] = -1 - a.2[k] := by
      unfold vS jI
      rw [if_neg (by rw [hv]; simp), if_pos (by simp [inR]; omega)]
     rw [hvo]
     conv => whnf
     split <;> rename_i h5
     ·have h6 : ¬ -1 - a.2[k] = f.2[k] := by simpa using h5
      conv => whnf
      rw [hj, if_neg h6]
      rfl
     ·have h6 : -1 - a.2[k] = f.2[k] := by simpa using h5
      conv => whnf
      rw [if_pos h6] at hj
      exact ⟨m - 1, by omega, k + 1, _, x, a8 (by omega) (by omega), by omega, hj, rfl⟩
   ·conv => whnf
    rw [hj, bG (by omega)]
    have : ∀ l b, cQ [] l b = (b, true) := fun l b => by cases l <;> rfl
    rw [this]
    rfl
abbrev cI := List Int × List aG
def tL (xs : List Int) : List V := [bE xs]
theorem dN (xs : List Int) : (tL xs).length = 1 := rfl
theorem gJ (xs : List Int) : ∀ c ∈ tL xs, eU c = true := by
 intro c hc
 simp only [tL, List.mem_cons, List.not_mem_nil, or_false] at hc
 subst hc; rfl
theorem xB (xs : List Int) : pD (bE xs) := dG (f := ciL) (fun x => ⟨trivial, trivial⟩) xs
theorem N8 (b : Bnd) (q : cI) (outs : List (List Int)) (hq : aC q ≤ 1099511627776) (ho : outs.length < 1099511627776) :
  SpecG Tryz.prog 155 [.agg (bC b), .ptr 0 0, .ptr 2 0] [some ⟨true, [.own 1 1 0 outs.length outs.length none]⟩, some ⟨false, aB tL outs⟩, some ⟨true, aO q⟩] fun r g2 =>
   r = .tup [] ∧ g2 = [some ⟨true, [.own 3 1 0 (outs.length + 1) (outs.length + 1) none]⟩, none, some ⟨true, aO q⟩, some ⟨false, aB tL (outs ++ [qR b q.1])⟩] := by
 unfold aC at hq
 refine cU mx aJ 3 Tryz.func155 rfl rfl (by decide) ?_
 conv => whnf
 refine ⟨[0, 1, 2, 3, 4, 5, 6], by kernel_rfl, ?_⟩
 conv => whnf
 refine ⟨_, rfl, ?_⟩
 conv => whnf
 refine ⟨_, RE b q.1 (by omega), .inr (xB _), .inr ?_⟩
 conv => whnf
 refine ⟨by rw [a6 a7, Nat.mul_one], ?_⟩
 conv => whnf
 refine ⟨_, rfl, .inr ⟨gJ (qR b q.1), ?_⟩⟩
 conv => whnf
 refine ⟨by omega, by rw [a6 dN], _, bQ tL _ (qR b q.1), ?_⟩
 conv => whnf
 refine ⟨[], ?_⟩
 conv => whnf
 exact ⟨rfl, rfl⟩
def c8 (db : List aG) : List aG → Bnd → List Bnd
 | [], b => [b]
 | a :: r, b => db.flatMap fun f => if (mch b a f).2 then c8 db r (mch b a f).1 else []
theorem iG (db : List aG) : ∀ (body : List aG) (b : Bnd), (c8 db body b).length ≤ db.length ^ body.length
 | [], b => by simp [c8]
 | a :: r, b => by
  have ih := iG db r
  simp only [c8, List.length_cons, Nat.pow_succ]
  have : ∀ l : List aG, (l.flatMap fun f => if (mch b a f).2 then c8 db r (mch b a f).1 else []).length ≤ db.length ^ r.length * l.length := by
   intro l
   induction l with
   | nil => simp
   | cons f l il =>
    rw [List.flatMap_cons, List.length_append, List.length_cons, Nat.mul_add, Nat.mul_one]
    have h1 : (if (mch b a f).2 then c8 db r (mch b a f).1 else []).length ≤ db.length ^ r.length := by
     split
     ·exact ih _
     ·exact Nat.zero_le _
    omega
  exact this db
def a1W (q : cI) (outs new : List (List Int)) (g2 : List (Option Obj)) : Prop :=
 (new = [] ∧ g2 = [some ⟨true, [.own 1 1 0 outs.length outs.length none]⟩, some ⟨false, aB tL outs⟩, some ⟨true, aO q⟩]) ∨
 (g2 = [some ⟨true, [.own 3 1 0 (outs ++ new).length (outs ++ new).length none]⟩, none, some ⟨true, aO q⟩, some ⟨false, aB tL (outs ++ new)⟩])
set_option maxHeartbeats 4000000 in
theorem RH (q : cI) (body db : List aG) (hq : aC q ≤ 1048576) (hb : dW body ≤ 1048576) (hd : d6 db ≤ 1048576) (ht : ∀ a ∈ body, a.2.all aU = true) : ∀ (n i : Nat), i + n = body.length → ∀ (b : Bnd) (outs : List (List Int)), outs.length + db.length ^ n ≤ 1099511627776 →
  SpecG Tryz.prog 67 [cE body, c7 db, .agg (bC b), ci i, .fn 155 [.ptr 0 0, .ptr 2 0]] [some ⟨true, [.own 1 1 0 outs.length outs.length none]⟩, some ⟨false, aB tL outs⟩, some ⟨true, aO q⟩] fun r g2 =>
   r = .tup [] ∧ a1W q outs ((c8 db (body.drop i) b).map fun b => qR b q.1) g2 := by
 unfold dW at hb
 unfold d6 at hd
 intro n
 induction n with
 | zero =>
  intro i hin b outs ho
  refine cU mx aJ 3 Tryz.func67 rfl rfl (by decide) ?_
  conv => whnf
  generalize hc : ((i : Int) == (body.length : Int)) = c
  have hct : c = true := by rw [← hc]; simp; omega
  subst hct
  conv => whnf
  refine .inr (.inr (.inr ⟨[0, 1, 2], [], ?_⟩))
  conv => whnf
  refine ⟨_, N8 b q outs (by omega) (by simp at ho; omega), fun r g2 hP => ?_⟩
  obtain ⟨rfl, rfl⟩ := hP
  refine .inl ?_
  conv => whnf
  refine ⟨[], ?_⟩
  conv => whnf
  refine ⟨rfl, .inr ?_⟩
  rw [List.drop_eq_nil_of_le (by omega)]
  simp only [c8, List.map_cons, List.map_nil, List.length_append, List.length_singleton]
  rfl
 | succ n ih =>
  intro i hin b outs ho
  refine cU mx aJ 3 Tryz.func67 rfl rfl (by decide) ?_
  conv => whnf
  generalize hc : ((i : Int) == (body.length : Int)) = c
  have hct : c = false := by rw [← hc]; simp; omega
  subst hct
  conv => whnf
  have hil : i < body.length := by omega
  refine ⟨[(0,0),(1,0),(3,0),(4,0),(7,0),(21,0),(22,0),(23,0)], fun m s => ∃ (k : Nat) (e : Int) (new : List (List Int)), e = k ∧ m + k = db.length ∧ new.length ≤ k * db.length ^ n ∧
   ((c8 db (body.drop i) b).map fun b => qR b q.1) = new ++ (((db.drop k).flatMap fun f => if (mch b body[i] f).2 then c8 db (body.drop (i + 1)) (mch b body[i] f).1 else []).map fun b => qR b q.1) ∧
   ((new = [] ∧ s = ⟨46, [(0, cE body), (1, c7 db), (3, ci i), (4, .fn 155 [.ptr 0 0, .ptr 2 0]), (7, .ptr 3 0), (21, c7 db), (22, ci db.length), (23, ci e)], [some ⟨true, [.own 1 1 0 outs.length outs.length none]⟩, some ⟨false, aB tL outs⟩, some ⟨true, aO q⟩, some ⟨true, bC b⟩]⟩) ∨
    (s = ⟨46, [(0, cE body), (1, c7 db), (3, ci i), (4, .fn 155 [.ptr 0 0, .ptr 2 0]), (7, .ptr 3 0), (21, c7 db), (22, ci db.length), (23, ci e)], [some ⟨true, [.own 4 1 0 (outs ++ new).length (outs ++ new).length none]⟩, none, some ⟨true, aO q⟩, some ⟨true, bC b⟩, some ⟨false, aB tL (outs ++ new)⟩]⟩)), db.length, ⟨0, 0, [], rfl, rfl, by simp, ?_, .inl ⟨rfl, rfl⟩⟩, ?_⟩
  ·rw [List.drop_eq_getElem_cons hil, c8]
   rfl
  rintro m s ⟨k, _, new, rfl, hm, hnl, hj, hs⟩
  rcases hs with ⟨rfl, rfl⟩ | rfl
  ·conv => whnf
   split <;> rename_i h1
   all_goals simp only [decide_eq_true_eq, decide_eq_false_iff_not] at h1
   ·conv => whnf
    have hk : k < db.length := by omega
    have hb1 := bH (f := b9) hil
    have hcb1 : b9 body[i] = body[i].2.length := rfl
    have hb2 := bH (f := eF) hk
    have hcb2 : eF db[k] = db[k].2.length := rfl
    have hta := ht _ (List.getElem_mem hil)
    have hwi : IntKind.i64.wrap ((i : Int) + 1) = ((i + 1 : Nat) : Int) := by rw [a8 (by omega) (by omega)]; omega
    have hpw : db.length ^ (n + 1) = db.length ^ n * db.length := Nat.pow_succ ..
    have hkm : db.length ^ n * (k + 1) ≤ db.length ^ n * db.length := Nat.mul_le_mul_left _ hk
    have hk1 : db.length ^ n * (k + 1) = k * db.length ^ n + db.length ^ n := by rw [Nat.mul_add, Nat.mul_one, Nat.mul_comm]
    have hk2 : (k + 1) * db.length ^ n = k * db.length ^ n + db.length ^ n := by rw [Nat.add_mul, Nat.one_mul]
    rw [List.drop_eq_getElem_cons hk, List.flatMap_cons, List.map_append, ← List.append_assoc] at hj
    refine ⟨by omega, a6 aS _, ?_⟩
    conv => whnf
    refine ⟨_, aD (k := k) aS hk, ?_⟩
    conv => whnf
    refine ⟨[0, 1, 2, 3, 4, 5, 6, 7, 8, 9, 12, 1000, 10, 1000, 11], by kernel_rfl, ?_⟩
    conv => whnf
    refine ⟨by omega, a6 aA _, ?_⟩
    conv => whnf
    refine ⟨_, aD (k := i) aA hil, ?_⟩
    conv => whnf
    refine ⟨_, ER b body[i] db[k] (by omega) (by omega) hta, .inl rfl, .inl ?_⟩
    conv => whnf
    generalize hmc : mch b body[i] db[k] = mb at hj
    obtain ⟨b2, ok⟩ := mb
    cases ok with
    | false =>
     conv => whnf
     simp only [Bool.false_eq_true, if_false, List.map_nil, List.append_nil] at hj
     exact ⟨m - 1, by omega, k + 1, _, [], a8 (by omega) (by omega), by omega, by simp, hj, .inl ⟨rfl, by kernel_rfl⟩⟩
    | true =>
     conv => whnf
     simp only [if_true] at hj
     rw [hwi]
     refine .inr (.inr ⟨[0, 1, 2], [], ?_⟩)
     conv => whnf
     refine ⟨_, ih (i + 1) (by omega) b2 outs (by omega), fun r g2 hP => ?_⟩
     obtain ⟨rfl, hv⟩ := hP
     have hvl := iG db (body.drop (i + 1)) b2
     rw [List.length_drop, show body.length - (i + 1) = n from by omega] at hvl
     rcases hv with ⟨hn0, rfl⟩ | rfl
     ·refine .inl ?_
      conv => whnf
      rw [hn0, List.append_nil] at hj
      exact ⟨m - 1, by omega, k + 1, _, [], a8 (by omega) (by omega), by omega, by simp, hj, .inl ⟨rfl, by kernel_rfl⟩⟩
     ·refine .inl ?_
      conv => whnf
      refine ⟨m - 1, by omega, k + 1, _, [] ++ (c8 db (body.drop (i + 1)) b2).map fun b => qR b q.1, a8 (by omega) (by omega), by omega, ?_, hj, .inr ?_⟩
      ·simp only [List.length_append, List.length_map, List.length_nil] at hnl ⊢
       omega
      ·kernel_rfl
   ·conv => whnf
    rw [bG (xs := db) (by omega)] at hj
    simp only [List.flatMap_nil, List.map_nil, List.append_nil] at hj
    refine ⟨[], ?_⟩
    conv => whnf
    exact ⟨rfl, .inl ⟨hj, rfl⟩⟩
  ·conv => whnf
   split <;> rename_i h1
   all_goals simp only [decide_eq_true_eq, decide_eq_false_iff_not] at h1
   ·conv => whnf
    have hk : k < db.length := by omega
    have hb1 := bH (f := b9) hil
    have hcb1 : b9 body[i] = body[i].2.length := rfl
    have hb2 := bH (f := eF) hk
    have hcb2 : eF db[k] = db[k].2.length := rfl
    have hta := ht _ (List.getElem_mem hil)
    have hwi : IntKind.i64.wrap ((i : Int) + 1) = ((i + 1 : Nat) : Int) := by rw [a8 (by omega) (by omega)]; omega
    have hpw : db.length ^ (n + 1) = db.length ^ n * db.length := Nat.pow_succ ..
    have hkm : db.length ^ n * (k + 1) ≤ db.length ^ n * db.length := Nat.mul_le_mul_left _ hk
    have hk1 : db.length ^ n * (k + 1) = k * db.length ^ n + db.length ^ n := by rw [Nat.mul_add, Nat.mul_one, Nat.mul_comm]
    have hk2 : (k + 1) * db.length ^ n = k * db.length ^ n + db.length ^ n := by rw [Nat.add_mul, Nat.one_mul]
    rw [List.drop_eq_getElem_cons hk, List.flatMap_cons, List.map_append, ← List.append_assoc] at hj
    refine ⟨by omega, a6 aS _, ?_⟩
    conv => whnf
    refine ⟨_, aD (k := k) aS hk, ?_⟩
    conv => whnf
    refine ⟨[0, 1, 2, 3, 4, 5, 6, 7, 8, 9, 12, 1000, 10, 1000, 11], by kernel_rfl, ?_⟩
    conv => whnf
    refine ⟨by omega, a6 aA _, ?_⟩
    conv => whnf
    refine ⟨_, aD (k := i) aA hil, ?_⟩
    conv => whnf
    refine ⟨_, ER b body[i] db[k] (by omega) (by omega) hta, .inl rfl, .inl ?_⟩
    conv => whnf
    generalize hmc : mch b body[i] db[k] = mb at hj
    obtain ⟨b2, ok⟩ := mb
    cases ok with
    | false =>
     conv => whnf
     simp only [Bool.false_eq_true, if_false, List.map_nil, List.append_nil] at hj
     exact ⟨m - 1, by omega, k + 1, _, new, a8 (by omega) (by omega), by omega, by omega, hj, .inr (by kernel_rfl)⟩
    | true =>
     conv => whnf
     simp only [if_true] at hj
     rw [hwi]
     refine .inr (.inr ⟨[0, 4, 2], [], ?_⟩)
     conv => whnf
     refine ⟨_, ih (i + 1) (by omega) b2 (outs ++ new) (by rw [List.length_append]; omega), fun r g2 hP => ?_⟩
     obtain ⟨rfl, hv⟩ := hP
     have hvl := iG db (body.drop (i + 1)) b2
     rw [List.length_drop, show body.length - (i + 1) = n from by omega] at hvl
     rcases hv with ⟨hn0, rfl⟩ | rfl
     ·refine .inl ?_
      conv => whnf
      rw [hn0, List.append_nil] at hj
      exact ⟨m - 1, by omega, k + 1, _, new, a8 (by omega) (by omega), by omega, by omega, hj, .inr (by kernel_rfl)⟩
     ·refine .inl ?_
      conv => whnf
      refine ⟨m - 1, by omega, k + 1, _, new ++ (c8 db (body.drop (i + 1)) b2).map fun b => qR b q.1, a8 (by omega) (by omega), by omega, ?_, hj, .inr ?_⟩
      ·simp only [List.length_append, List.length_map, List.length_nil] at hnl ⊢
       omega
      ·rw [← List.append_assoc]; kernel_rfl
   ·conv => whnf
    rw [bG (xs := db) (by omega)] at hj
    simp only [List.flatMap_nil, List.map_nil, List.append_nil] at hj
    refine ⟨[], ?_⟩
    conv => whnf
    rw [hj]
    exact ⟨rfl, .inr rfl⟩
end Go.Proofs.YtboolngaahifdaaGreatD
