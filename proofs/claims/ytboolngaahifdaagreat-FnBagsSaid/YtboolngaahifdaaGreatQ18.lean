/- Contracts and plain laws of this seat; no condition. -/
import Derived.Test.YtboolngaahifdaaGreatQ17
import Derived.Test.YtboolngaahifdaaGreatQ16
set_option linter.unusedVariables false
set_option linter.unusedSimpArgs false
set_option maxRecDepth 100000
namespace Go.Proofs.YtboolngaahifdaaGreatD
open Go Go.Proofs Go.Shelf Go.Sort
theorem SpecG.mono' {P : Program} {f : Nat} {vs : List V} {g : List (Option Obj)} {Post Post' : V → List (Option Obj) → Prop} (h : SpecG P f vs g Post) (hp : ∀ r g2, Post r g2 → Post' r g2) : SpecG P f vs g Post' := by
 refine ⟨h.1, fun E0 xs hin hv => (h.2 E0 xs hin hv).mono fun e w' he => ?_⟩
 cases e with
 | panicked chain => exact he.elim
 | outgrown => exact he.elim
 | returned x =>
  obtain ⟨r, g2, E2, h1, h2⟩ := he
  exact ⟨r, g2, E2, hp r g2 h1, h2⟩
theorem VG {α β : Type} (f : β → List V) (g : α → β) (xs : List α) : aB (fun x => f (g x)) xs = aB f (xs.map g) := by
 induction xs with
 | nil => rfl
 | cons x xs ih => simp [aB, ih]
abbrev RK := { l : List Int // l.length ≤ 1099511627776 }
theorem a1J : ∀ (xs : List (List Int)), (∀ x ∈ xs, x.length ≤ 1099511627776) → ∃ ys : List RK, ys.map (fun y => y.1) = xs
 | [], _ => ⟨[], rfl⟩
 | x :: xs, h => by
  obtain ⟨ys, hy⟩ := a1J xs fun y hy => h y (by simp [hy])
  exact ⟨⟨x, h x (by simp)⟩ :: ys, by simp [hy]⟩
theorem TQ (x : List Int) : roV (bE x) = aW x := by
 show V.ro _ (dM _) = _
 rw [cK]; rfl
theorem FX (p : Option Addr) (cap : Nat) (fv : Value) (w : World) : Calls Tryz.prog 69 #[.slice p 0 cap, fv] w fun e w' => e = .returned (.tuple #[]) ∧ w' = w :=
 AnyF.slices_SortFunc_none { SH with } p cap fv w
theorem FY (xs : List (List Int)) (hb : ∀ x ∈ xs, x.length ≤ 1099511627776) (hsz : xs.length ≤ 1099511627776) :
  SpecG Tryz.prog 69 [.own 0 1 0 xs.length xs.length none, .fn 70 []] [some ⟨false, aB tL xs⟩] fun r g2 => r = .tup [] ∧ ∃ ys : List (List Int), ys.Perm xs ∧ ys.Pairwise (fun a b => ¬ iR b a < 0) ∧ g2 = [some ⟨false, aB tL ys⟩] := by
 obtain ⟨zs, rfl⟩ := a1J xs hb
 have := R5 SH (fun x : RK => bE x.1) (fun x => by rw [TQ]; rfl) 70 (fun a b => iR a.1 b.1) (G4 (lt := fun a b => ltI a.1 b.1) ⟨fun a => rM.irr _, fun a b c => rM.tr _ _ _, fun a b => by
  rcases rM.tri a.1 b.1 with h | h | h
  ·exact .inl h
  ·exact .inr (.inl (Subtype.ext h))
  ·exact .inr (.inr h)⟩ fun a b => r8 _ _) (fun x y => by rw [TQ, TQ]; exact jV x.1 y.1 x.2 y.2) ⟨_, _, Tryz.func69, rfl, rfl⟩ FX zs (by rw [List.length_map] at hsz; omega)
 have e1 : ∀ zs : List RK, aB (fun x : RK => [bE x.1]) zs = aB tL (zs.map fun y => y.1) := fun zs => VG tL _ zs
 rw [e1] at this
 rw [List.length_map]
 refine SpecG.mono' this fun r g2 ⟨h1, ys, h2, h3, h4⟩ => ⟨h1, ys.map (·.1), h2.map _, ?_, ?_⟩
 ·rw [List.pairwise_map]; exact h3
 ·rw [h4, e1]
end Go.Proofs.YtboolngaahifdaaGreatD
namespace Go.Proofs.YtboolngaahifdaaGreatD
open Go Go.Proofs
def w6 (q : cI) (db : List aG) : List (List Int) := (c8 db q.2 fF).map fun b => qR b q.1
def pM (xs : List (List Int)) : V := .tr 1 xs.length (aB tL xs)
set_option maxHeartbeats 4000000 in
theorem Q0 (q : cI) (db : List aG) (hq : aC q ≤ 1048576) (hd : d6 db ≤ 1048576) (ht : ∀ a ∈ q.2, a.2.all aU = true) (hn : db.length ^ q.2.length ≤ 1099511627776) : bI Tryz.prog 73 [aP q, c7 db] (pM (w6 q db)) := by
 have hb : dW q.2 ≤ 1048576 := by unfold aC at hq; omega
 refine aF mx aJ Tryz.func73 rfl ?_
 conv => whnf
 refine .inr (.inr ⟨[2, 1, 0], [], ?_⟩)
 conv => whnf
 have hv := RH q q.2 db hq hb hd ht q.2.length 0 (Nat.zero_add _) fF [] (by simpa using hn)
 refine ⟨_, hv, fun r g2 hP => ?_⟩
 obtain ⟨rfl, hv⟩ := hP
 rw [List.drop_zero] at hv
 rcases hv with ⟨hn0, rfl⟩ | rfl
 ·refine .inl ?_
  conv => whnf
  refine ⟨rfl, ?_⟩
  unfold w6
  rw [hn0]; rfl
 ·refine .inl ?_
  conv => whnf
  refine ⟨by rw [a6 dN], ?_⟩
  rfl
def sB (b : Bnd) : List Int := (List.range 20).map (fun k => (b k).getD (-1)) ++ (List.range 20).map (fun k => if (b k).isSome then 1 else 0)
theorem wN (b : Bnd) : (sB b).length = 40 := rfl
theorem OT (b : Bnd) (i : Nat) : (sB b)[i]? = if i < 20 then some ((b i).getD (-1)) else if i < 40 then some (if (b (i - 20)).isSome then 1 else 0) else none := by
 unfold sB
 split
 ·rename_i h
  rw [List.getElem?_append_left (by simpa using h), List.getElem?_map, List.getElem?_range h]; rfl
 ·rename_i h
  rw [List.getElem?_append_right (by simp; omega)]
  simp only [List.length_map, List.length_range]
  split
  ·rw [List.getElem?_map, List.getElem?_range (by omega)]; rfl
  ·rw [List.getElem?_eq_none (by simp; omega)]
theorem zD (b : Bnd) (k : Nat) (v : Int) : sL b k v k = some v := by simp [sL]
theorem JO {b : Bnd} {k i : Nat} {v : Int} (h : i ≠ k) : sL b k v i = b i := by simp [sL, h]
theorem a2W (b : Bnd) {k : Nat} (hk : k < 20) (v : Int) : ((sB b).set k v).set (20 + k) 1 = sB (sL b k v) := by
 have hl := wN b
 apply List.ext_getElem?
 intro i
 rw [List.getElem?_set, List.getElem?_set, OT, OT, List.length_set, hl]
 by_cases h2 : 20 + k = i
 ·subst h2
  rw [if_pos rfl, if_pos (by omega), if_neg (by omega), if_pos (by omega), Nat.add_sub_cancel_left, zD]
  rfl
 ·rw [if_neg h2]
  by_cases h1 : k = i
  ·subst h1
   rw [if_pos rfl, if_pos (by omega), if_pos hk, zD]; rfl
  ·rw [if_neg h1]
   split
   ·rw [JO (fun h => h1 h.symm)]
   ·split
    ·rw [JO (by omega)]
    ·rfl
theorem TK {xs : List Int} {k off : Nat} (hk : k < xs.length) (ho : off = k) (y : Int) : e7 (aB ciL xs) off [ci y] = aB ciL (xs.set k y) := by
 subst ho
 have := iO (f := ciL) a7 (by decide) hk y
 rwa [Nat.mul_one] at this
theorem P8 {b : Bnd} {k off : Nat} (hk : k < 20) (ho : off = k) : dP (aB ciL (sB b)) off 1 = some [ci ((b k).getD (-1))] := by
 have hl : k < (sB b).length := by rw [wN]; omega
 have h1 : (sB b)[k] = (b k).getD (-1) := by
  have := OT b k
  rw [if_pos hk, List.getElem?_eq_getElem hl] at this
  exact Option.some.inj this
 exact b7 (f := ciL) (k := k) (d := 0) (m := 1) (xs := sB b) a7 (by omega) hl (by omega) (by rw [h1]; rfl)
theorem Z3 {b : Bnd} {k off : Nat} (hk : k < 20) (ho : off = 20 + k) : dP (aB ciL (sB b)) off 1 = some [ci (if (b k).isSome then 1 else 0)] := by
 have hl : 20 + k < (sB b).length := by rw [wN]; omega
 have h1 : (sB b)[20 + k] = if (b k).isSome then 1 else 0 := by
  have := OT b (20 + k)
  rw [if_neg (by omega), if_pos (by omega), List.getElem?_eq_getElem hl, Nat.add_sub_cancel_left] at this
  exact Option.some.inj this
 exact b7 (f := ciL) (k := 20 + k) (d := 0) (m := 1) (xs := sB b) a7 (by omega) hl (by omega) (by rw [h1]; rfl)
set_option maxHeartbeats 4000000 in
theorem BE (xs ys : List Int) (b : Bnd) (hx : xs.length ≤ 1099511627776) (hxy : xs.length = ys.length) (ht : xs.all aU = true) : bI Tryz.prog 211 [aW xs, aW ys, aW (sB b)] (.tup [bE (sB (cQ xs ys b).1), cb (cQ xs ys b).2]) := by
 refine aF mx aJ Tryz.func211 rfl ?_
 conv => whnf
 refine ⟨a6 a7 _, f5 _, ?_⟩
 conv => whnf
 refine ⟨by rw [wN]; omega, rfl, _, jO [] (sB b), ?_⟩
 conv => whnf
 refine ⟨[(0,0),(1,0),(6,0),(7,0),(8,0),(9,0)], fun m s => ∃ (k : Nat) (e : Int) (x : Bnd), e = k ∧ m + k = xs.length ∧ cQ xs ys b = cQ (xs.drop k) (ys.drop k) x ∧
  s = ⟨65, [(0, aW xs), (1, aW ys), (6, cG), (7, cb false), (8, .own 0 1 0 40 40 none), (9, ci e)], [some ⟨false, aB ciL (sB x)⟩]⟩, xs.length, ⟨0, 0, b, rfl, rfl, rfl, rfl⟩, ?_⟩
 rintro m s ⟨k, _, x, rfl, hm, hj, rfl⟩
 conv => whnf
 split <;> rename_i h3
 all_goals simp only [decide_eq_true_eq, decide_eq_false_iff_not] at h3
 ·conv => whnf
  have hk : k < xs.length := by omega
  have hky : k < ys.length := by omega
  have htk := pX ht hk
  have hr : -80 ≤ xs[k] ∧ xs[k] ≤ 19 := by simpa [aU, inR] using htk
  rw [List.drop_eq_getElem_cons hk, List.drop_eq_getElem_cons hky, cQ] at hj
  refine ⟨by omega, a6 a7 _, ?_⟩
  conv => whnf
  refine ⟨_, aD (k := k) a7 hk, ?_⟩
  conv => whnf
  generalize hc1 : decide (xs[k] < 0) = c1
  cases c1 with
  | true =>
   have h1 : xs[k] < 0 := of_decide_eq_true hc1
   rw [if_pos h1] at hj
   conv => whnf
   refine ⟨by omega, a6 a7 _, ?_⟩
   conv => whnf
   refine ⟨_, aD (k := k) a7 hky, ?_⟩
   have hw : IntKind.i64.wrap (-1 - xs[k]) = -1 - xs[k] := a8 (by omega) (by omega)
   rw [hw]
   conv => whnf
   split <;> rename_i h5
   ·have h6 : ¬ -1 - xs[k] = ys[k] := by simpa using h5
    conv => whnf
    rw [hj, if_neg h6]
    refine ⟨by rw [a6 a7]; rfl, ?_⟩
    rfl
   ·have h6 : -1 - xs[k] = ys[k] := by simpa using h5
    conv => whnf
    rw [if_pos h6] at hj
    exact ⟨m - 1, by omega, k + 1, _, x, a8 (by omega) (by omega), by omega, hj, rfl⟩
  | false =>
   have h1 : ¬ xs[k] < 0 := of_decide_eq_false hc1
   rw [if_neg h1] at hj
   obtain ⟨j, hjj⟩ : ∃ j : Nat, xs[k] = j := ⟨xs[k].toNat, by omega⟩
   rw [hjj] at hj ⊢
   rw [Int.toNat_natCast] at hj
   have hj20 : j < 20 := by omega
   have hw : IntKind.i64.wrap (20 + (j : Int)) = ((20 + j : Nat) : Int) := by rw [a8 (by omega) (by omega)]; omega
   conv => whnf
   rw [hw]
   refine ⟨by omega, ?_⟩
   conv => whnf
   refine ⟨_, Z3 (b := x) (k := j) (off := 0 + ((20 + j : Nat) : Int).toNat * 1) hj20 (by omega), ?_⟩
   conv => whnf
   cases hxj : x j with
   | none =>
    rw [hxj] at hj
    conv => whnf
    refine ⟨by omega, a6 a7 _, ?_⟩
    conv => whnf
    refine ⟨_, aD (k := k) a7 hky, ?_⟩
    conv => whnf
    refine ⟨by omega, ?_⟩
    conv => whnf
    refine ⟨_, P8 (b := x) (k := j) (off := 0 + (j : Int).toNat * 1) hj20 (by omega), _, TK (xs := sB x) (k := j) (by rw [wN]; omega) (by show 0 + (j : Int).toNat * 1 = j; omega) ys[k], ?_⟩
    conv => whnf
    rw [hw]
    refine ⟨by omega, ?_⟩
    conv => whnf
    have hl2 : 20 + j < ((sB x).set j ys[k]).length := by rw [List.length_set, wN]; omega
    refine ⟨_, b7 (f := ciL) (k := 20 + j) (d := 0) (m := 1) (xs := (sB x).set j ys[k]) a7 (by show 0 + ((20 + j : Nat) : Int).toNat * 1 = _; omega) hl2 (by omega) rfl, _, TK (xs := (sB x).set j ys[k]) (k := 20 + j) hl2 (by show 0 + ((20 + j : Nat) : Int).toNat * 1 = _; omega) 1, ?_⟩
    rw [a2W x hj20]
    conv => whnf
    exact ⟨m - 1, by omega, k + 1, _, sL x j ys[k], a8 (by omega) (by omega), by omega, hj, rfl⟩
   | some u =>
    rw [hxj] at hj
    conv => whnf
    refine ⟨List.range 10, by kernel_rfl, ?_⟩
    conv => whnf
    refine ⟨by omega, ?_⟩
    conv => whnf
    refine ⟨_, P8 (b := x) (k := j) (off := 0 + (j : Int).toNat * 1) hj20 (by omega), ?_⟩
    rw [hxj]
    conv => whnf
    refine ⟨by omega, a6 a7 _, ?_⟩
    conv => whnf
    refine ⟨_, aD (k := k) a7 hky, ?_⟩
    conv => whnf
    split <;> rename_i h5
    ·have h6 : ¬ u = ys[k] := by simpa using h5
     conv => whnf
     rw [hj]
     simp only [if_neg h6]
     refine ⟨by rw [a6 a7]; rfl, ?_⟩
     rfl
    ·have h6 : u = ys[k] := by simpa using h5
     conv => whnf
     simp only [if_pos h6] at hj
     exact ⟨m - 1, by omega, k + 1, _, x, a8 (by omega) (by omega), by omega, hj, rfl⟩
 ·conv => whnf
  rw [hj, bG (by omega)]
  have : ∀ l b, cQ [] l b = (b, true) := fun l b => by cases l <;> rfl
  rw [this]
  refine ⟨by rw [a6 a7]; rfl, ?_⟩
  rfl
set_option maxHeartbeats 1000000 in
theorem KD : bI Tryz.prog 153 [] (bE (sB fF)) := by
 refine aF mx aJ Tryz.func153 rfl ?_
 conv => whnf
 refine ⟨[(0,0),(1,0),(2,0)], fun m s => ∃ (k : Nat) (e : Int) (n : Nat) (r : List V), e = k ∧ m + k = 20 ∧ n = k ∧ r = aB ciL (List.replicate k (-1)) ∧
  s = ⟨20, [(0, cG), (1, .own 0 1 0 n n none), (2, ci e)], [some ⟨false, r⟩]⟩, 20, ⟨0, 0, 0, _, rfl, rfl, rfl, rfl, rfl⟩, ?_⟩
 rintro m s ⟨k, _, n, _, rfl, hm, rfl, rfl, rfl⟩
 conv => whnf
 split <;> rename_i h1
 all_goals simp only [decide_eq_true_eq, decide_eq_false_iff_not] at h1
 ·conv => whnf
  refine ⟨_, rfl, .inl ⟨fU rfl, ?_⟩⟩
  conv => whnf
  refine ⟨by omega, by rw [a6 a7, List.length_replicate], _, dC _ _, ?_⟩
  conv => whnf
  exact ⟨m - 1, by omega, n + 1, _, n + 1, _, a8 (by omega) (by omega), by omega, rfl, by rw [List.replicate_succ'], rfl⟩
 ·conv => whnf
  have hn : n = 20 := by omega
  subst hn
  refine ⟨[(0,0),(1,0),(3,0)], fun m s => ∃ (k : Nat) (e : Int) (n : Nat) (r : List V), e = k ∧ m + k = 20 ∧ n = 20 + k ∧ r = aB ciL (List.replicate 20 (-1) ++ List.replicate k 0) ∧
   s = ⟨20, [(0, cG), (1, .own 0 1 0 n n none), (3, ci e)], [some ⟨false, r⟩]⟩, 20, ⟨0, 0, 20, _, rfl, rfl, rfl, by rw [List.replicate_zero, List.append_nil], rfl⟩, ?_⟩
  rintro m s ⟨k, _, n, _, rfl, hm, rfl, rfl, rfl⟩
  conv => whnf
  split <;> rename_i h1
  all_goals simp only [decide_eq_true_eq, decide_eq_false_iff_not] at h1
  ·conv => whnf
   refine ⟨_, rfl, .inl ⟨fU rfl, ?_⟩⟩
   conv => whnf
   refine ⟨by omega, by rw [a6 a7, List.length_append, List.length_replicate, List.length_replicate], _, dC _ _, ?_⟩
   conv => whnf
   exact ⟨m - 1, by omega, k + 1, _, 20 + (k + 1), _, a8 (by omega) (by omega), by omega, rfl, by rw [show List.replicate (k + 1) (0 : Int) = List.replicate k 0 ++ [0] from List.replicate_succ', List.append_assoc], rfl⟩
  ·conv => whnf
   have hk : k = 20 := by omega
   subst hk
   refine ⟨by rw [a6 a7, List.length_append, List.length_replicate, List.length_replicate], ?_⟩
   rfl
def tS (v : List Int) (t : Int) : Int := if t < 0 then -1 - t else v.getD t.toNat 0
theorem KF (xs v : List Int) (h : xs.length ≤ 1099511627776) (hv : v.length = 20) (ht : xs.all aU = true) : bI Tryz.prog 158 [aW xs, aW v] (bE (xs.map (tS v))) := by
 refine aF mx aJ Tryz.func158 rfl ?_
 conv => whnf
 refine ⟨[(0,0),(1,0),(4,0),(5,0),(6,0)], fun m s => ∃ (k : Nat) (e : Int) (n : Nat) (r : List V), e = k ∧ m + k = xs.length ∧ n = k ∧ r = aB ciL ((xs.take k).map (tS v)) ∧
  s = ⟨38, [(0, aW xs), (1, aW v), (4, cG), (5, .own 0 1 0 n n none), (6, ci e)], [some ⟨false, r⟩]⟩, xs.length, ⟨0, 0, 0, _, rfl, rfl, rfl, rfl, rfl⟩, ?_⟩
 rintro m s ⟨k, _, n, _, rfl, hm, rfl, rfl, rfl⟩
 conv => whnf
 split <;> rename_i h1
 all_goals simp only [decide_eq_true_eq, decide_eq_false_iff_not] at h1
 ·conv => whnf
  have hk : n < xs.length := by omega
  have hr : -80 ≤ xs[n] ∧ xs[n] ≤ 19 := by simpa [aU, inR] using pX ht hk
  refine ⟨by omega, a6 a7 xs, ?_⟩
  conv => whnf
  refine ⟨_, aD (k := n) a7 hk, ?_⟩
  conv => whnf
  generalize hc1 : decide (xs[n] < 0) = c1
  cases c1 with
  | true =>
   have h2 : xs[n] < 0 := of_decide_eq_true hc1
   have hts : tS v xs[n] = IntKind.i64.wrap (-1 - xs[n]) := by rw [a8 (by omega) (by omega), tS, if_pos h2]
   conv => whnf
   refine ⟨by omega, a6 a7 xs, ?_⟩
   conv => whnf
   refine ⟨_, aD (k := n) a7 hk, ?_⟩
   conv => whnf
   refine ⟨_, rfl, .inl ⟨fU rfl, ?_⟩⟩
   conv => whnf
   refine ⟨by omega, by rw [a6 a7, List.length_map, List.length_take]; congr 1; omega, _, dC _ _, ?_⟩
   conv => whnf
   refine ⟨m - 1, by omega, n + 1, _, _, _, a8 (by omega) (by omega), by omega, rfl, ?_, rfl⟩
   rw [List.take_succ_eq_append_getElem hk, List.map_append, List.map_singleton, hts]
  | false =>
   have h2 : ¬ xs[n] < 0 := of_decide_eq_false hc1
   obtain ⟨j, hjj⟩ : ∃ j : Nat, xs[n] = j := ⟨xs[n].toNat, by omega⟩
   have hj : j < v.length := by omega
   have hts : tS v xs[n] = v[j] := by rw [tS, if_neg h2, hjj, Int.toNat_natCast, jK hj]
   conv => whnf
   refine ⟨by omega, a6 a7 xs, ?_⟩
   conv => whnf
   refine ⟨_, aD (k := n) a7 hk, ?_⟩
   rw [hjj]
   conv => whnf
   refine ⟨by omega, a6 a7 v, ?_⟩
   conv => whnf
   refine ⟨_, aD (k := j) a7 hj, ?_⟩
   conv => whnf
   refine ⟨_, rfl, .inl ⟨fU rfl, ?_⟩⟩
   conv => whnf
   refine ⟨by omega, by rw [a6 a7, List.length_map, List.length_take]; congr 1; omega, _, dC _ _, ?_⟩
   conv => whnf
   refine ⟨m - 1, by omega, n + 1, _, _, _, a8 (by omega) (by omega), by omega, rfl, ?_, rfl⟩
   rw [List.take_succ_eq_append_getElem hk, List.map_append, List.map_singleton, hts]
 ·conv => whnf
  have hkk : n = xs.length := by omega
  subst hkk
  rw [List.take_length]
  refine ⟨by rw [a6 a7, List.length_map], ?_⟩
  show V.tr 1 xs.length _ = bE _
  rw [bE, List.length_map]
def rL (xs : List Int) : List V := [aW xs]
theorem mM (xs : List Int) : (rL xs).length = 1 := rfl
theorem YZ (xs : List Int) : dM (tL xs) = rL xs := by
 show [roV (bE xs)] = _
 rw [TQ]; rfl
def kZ (xs : List (List Int)) : V := .ro xs.length (aB rL xs)
theorem AS (xs : List (List Int)) : roV (pM xs) = kZ xs := by
 show V.ro _ (dM _) = _
 rw [bF YZ]; rfl
set_option maxHeartbeats 1000000 in
theorem KE (q : cI) (l : List (List Int)) (hq : aC q ≤ 1048576) (hl : l.length ≤ 1099511627776) (hv : ∀ v ∈ l, v.length = 20) (ht : q.1.all aU = true) : bI Tryz.prog 76 [aP q, kZ l] (pM (l.map fun v => q.1.map (tS v))) := by
 unfold aC at hq
 refine aF mx aJ Tryz.func76 rfl ?_
 conv => whnf
 refine ⟨[(1,0),(2,0),(4,0),(5,0),(6,0)], fun m s => ∃ (k : Nat) (e : Int) (n : Nat) (r : List V), e = k ∧ m + k = l.length ∧ n = k ∧ r = aB tL ((l.take k).map fun v => q.1.map (tS v)) ∧
  s = ⟨25, [(1, kZ l), (2, .ptr 0 0), (4, cG), (5, .own 1 1 0 n n none), (6, ci e)], [some ⟨true, aO q⟩, some ⟨false, r⟩]⟩, l.length, ⟨0, 0, 0, _, rfl, rfl, rfl, rfl, rfl⟩, ?_⟩
 rintro m s ⟨k, _, n, _, rfl, hm, rfl, rfl, rfl⟩
 conv => whnf
 split <;> rename_i h1
 all_goals simp only [decide_eq_true_eq, decide_eq_false_iff_not] at h1
 ·conv => whnf
  have hk : n < l.length := by omega
  refine ⟨List.range 11, by kernel_rfl, ?_⟩
  conv => whnf
  refine ⟨by omega, a6 mM _, ?_⟩
  conv => whnf
  refine ⟨_, aD (k := n) mM hk, ?_⟩
  conv => whnf
  refine ⟨_, KF q.1 l[n] (by omega) (hv _ (List.getElem_mem hk)) ht, .inl rfl, .inr ?_⟩
  conv => whnf
  refine ⟨by rw [a6 a7], ?_⟩
  conv => whnf
  refine ⟨_, rfl, .inr ⟨gJ (q.1.map (tS l[n])), ?_⟩⟩
  conv => whnf
  refine ⟨by omega, by rw [a6 dN, List.length_map, List.length_take]; congr 1; omega, _, bQ tL _ (q.1.map (tS l[n])), ?_⟩
  conv => whnf
  refine ⟨m - 1, by omega, n + 1, _, _, _, a8 (by omega) (by omega), by omega, rfl, ?_, rfl⟩
  rw [List.take_succ_eq_append_getElem hk, List.map_append, List.map_singleton]
 ·conv => whnf
  have hkk : n = l.length := by omega
  subst hkk
  rw [List.take_length]
  refine ⟨by rw [a6 dN, List.length_map], ?_⟩
  show V.tr 1 l.length _ = pM _
  rw [pM, List.length_map]
end Go.Proofs.YtboolngaahifdaaGreatD
