/- Contracts and plain laws of this seat; no condition. -/
import Derived.Test.YtboolngaahifdaaGreatQ15
set_option linter.unusedVariables false
set_option linter.unusedSimpArgs false
set_option maxRecDepth 100000
namespace Go.Proofs.YtboolngaahifdaaGreatD
open Go Go.Proofs
theorem a2Z {α β : Type} {P : α → β → Nat → Nat → Prop} {G : Prop} (pre : α → β → Nat → Nat → Prop) (hx : ∀ a b j k, pre a b j k → P a b j k) (h : (∀ a b j k, pre a b j k → P a b j k) → G) : G := h hx
theorem EK {s : List Int} {q : cP} (h : aH s q = true) : q.1.length ≤ 3 ∧ 1 ≤ q.2.length ∧ q.2.length ≤ 4 ∧ ∀ a ∈ q.2, a.2.length ≤ 3 := by
 simp only [aH, nW, d5, Bool.and_eq_true, decide_eq_true_eq] at h
 obtain ⟨h0, ⟨_, h1⟩, h2, h3, _⟩ := h
 have h2' : 1 ≤ (q.2.length : Int) ∧ (q.2.length : Int) ≤ 4 := by simpa [inR] using h2
 refine ⟨h1, by omega, by omega, fun a ha => ?_⟩
 have hb := List.all_eq_true.1 h3 a ha
 simp only [fM, iE, Bool.and_eq_true, decide_eq_true_eq] at hb
 have h4 : s.getD a.1.toNat 0 ≤ 3 := by
  by_cases hi : a.1.toNat < s.length
  ·rw [jK hi]
   exact (uZ h0 hi).2
  ·rw [List.getD_eq_getElem?_getD, List.getElem?_eq_none (by omega)]
   simp
 have h5 := hb.1.2.2
 omega
theorem NE {s : List Int} {q : cP} (h : aH s q = true) : qSm q := by
 obtain ⟨h1, h2, h3, h4⟩ := EK h
 exact ⟨by omega, by omega, fun a ha => by have := h4 a ha; omega⟩
theorem rG {hd : List Int} {l : List oJ} (h1 : hd.length ≤ 64) (h2 : l.length ≤ 64) (h3 : ∀ a ∈ l, a.2.length ≤ 64) : aC (hd, l) ≤ 1048576 := by
 have : ∀ {l : List oJ}, (∀ a ∈ l, a.2.length ≤ 64) → bS b9 l ≤ 64 * l.length := by
  intro l
  induction l with
  | nil => intro _; simp [bS]
  | cons a l ih =>
   intro h
   have h1 := ih fun x hx => h x (by simp [hx])
   have h2 : b9 a = a.2.length := rfl
   have h3 := h a (by simp)
   simp only [bS, List.length_cons]
   omega
 have := this h3
 show hd.length + (l.length + bS b9 l) ≤ _
 omega
theorem ES {l : List oJ} {a : oJ} {n : Nat} (h : ∀ x ∈ l, x.2.length ≤ n) (ha : a.2.length ≤ n) : ∀ x ∈ l ++ [a], x.2.length ≤ n := fun x hx => by
 rcases List.mem_append.1 hx with hx | hx
 ·exact h x hx
 ·rw [List.mem_singleton.1 hx]; exact ha
noncomputable def tQ : Array Oper := QT Tryz.f217 20
def a21 : Exs := { ex := fun _ => false, hid := fun _ => false, cut := fun k => Nat.beq k 20, gvr := fun k => Nat.beq k 6 }
def tT (s : List Int) (q : cP) (c : Cur) (x : cP) (j k : Nat) : St := ⟨93, [(0, .ptr 0 0), (4, .ptr 1 0), (5, .ptr 2 0), (6, .ptr 3 0), (7, .ptr 4 0)], [some ⟨false, s9 c⟩, some ⟨true, [aW s]⟩, some ⟨true, aO q⟩, some ⟨true, [cG, cG]⟩, some ⟨true, [.own 5 1 0 j j none, .own 6 2 0 k k none]⟩, some ⟨false, aB ciL x.1⟩, some ⟨false, aB bY x.2⟩]⟩
theorem OQ (q : cP) (to : List Int) : (sG to q).1.length = q.1.length ∧ (sG to q).2.length = q.2.length ∧ ∀ n, (∀ a ∈ q.2, a.2.length ≤ n) → ∀ a ∈ (sG to q).2, a.2.length ≤ n := by
 refine ⟨by simp [sG], by simp [sG], fun n hn a ha => ?_⟩
 obtain ⟨b, hb, rfl⟩ := List.mem_map.1 ha
 have := hn b hb
 simpa [AC] using this
set_option maxHeartbeats 8000000 in
theorem NL (s : List Int) (q : cP) (c : Cur) (hs : sOk s) (hq : qSm q) (hq1 : 1 ≤ q.2.length) (h : cS c) : SpecG Tryz.prog 217 [.ptr 0 0, aV s, aP q] (gC c) fun r g2 => ∃ (x : cP) (c' : Cur), r = cC x ∧ qSm x ∧ 1 ≤ x.2.length ∧ cS c' ∧ g2 = gC c' := by
 obtain ⟨qh, qb⟩ := q
 cases qb with
 | nil => simp at hq1
 | cons a0 qr =>
 unfold gC
 have hqs := qI hq
 obtain ⟨hz1, hz2, hz3⟩ := hq
 have hz2' : qr.length + 1 ≤ 8 := by simpa using hz2
 have hz1' : qh.length ≤ 8 := hz1
 have hzl : (a0 :: qr).length = qr.length + 1 := rfl
 refine z7 (ex := a21) mx aJ 1 Tryz.func217 rfl rfl (by decide) ?_
 conv => whnf
 apply a2Z (α := Cur) (β := cP) (fun c x j k => cS c ∧ aC x ≤ 1048576 ∧ j = x.1.length ∧ k = x.2.length)
 case h =>
  intro hrest
  refine ⟨_, BA (qh, a0 :: qr) hqs, .inl rfl, .inr ?_⟩
  conv => whnf
  refine .inr (.inl ?_)
  conv => whnf
  refine ⟨bD c, ?_⟩
  conv => whnf
  refine ⟨_, _, _, bV c 7 h (by omega), ?_⟩
  conv => whnf
  refine .inl ?_
  have h1 := aQ h 7
  generalize (aI c 7).2 = c1 at h1 ⊢
  generalize (aI c 7).1 = v
  conv => whnf
  generalize (v == 0) = b0
  cases b0 with
  | true =>
   conv => whnf
   generalize hlen : decide ((((a0 :: qr).length : Nat) : Int) > 1) = bl
   cases bl with
   | false =>
    conv => whnf
    obtain ⟨x', hx'⟩ : ∃ x' : cP, x' = (qh, a0 :: qr) := ⟨_, rfl⟩
    obtain ⟨j', hj'⟩ : ∃ j' : Nat, j' = qh.length := ⟨_, rfl⟩
    obtain ⟨k', hk'⟩ : ∃ k' : Nat, k' = (a0 :: qr).length := ⟨_, rfl⟩
    refine ⟨[(0,0),(4,0),(5,0),(6,0),(7,0)], [], tT s (qh, a0 :: qr) c1 x' j' k', tQ, by rw [hx', hj', hk']; kernel_rfl, by kernel_rfl, ?_⟩
    have hxs : aC x' ≤ 1048576 := by rw [hx']; exact (hqs)
    have hj2 : j' = x'.1.length := by rw [hx', hj']
    have hk2 : k' = x'.2.length := by rw [hx', hk']; try simp
    clear hx' hj' hk'
    exact hrest c1 x' j' k' ⟨h1, hxs, hj2, hk2⟩
   | true =>
    conv => whnf
    refine ⟨⟨by omega, by omega⟩, a6 aK _, _, uY aK (a0 :: qr) 1, ?_⟩
    conv => whnf
    obtain ⟨x', hx'⟩ : ∃ x' : cP, x' = (qh, qr) := ⟨_, rfl⟩
    obtain ⟨j', hj'⟩ : ∃ j' : Nat, j' = qh.length := ⟨_, rfl⟩
    obtain ⟨k', hk'⟩ : ∃ k' : Nat, k' = ((a0 :: qr).length - Int.toNat 1) := ⟨_, rfl⟩
    refine ⟨[(0,0),(4,0),(5,0),(6,0),(7,0)], [], tT s (qh, a0 :: qr) c1 x' j' k', tQ, by rw [hx', hj', hk']; kernel_rfl, by kernel_rfl, ?_⟩
    have hxs : aC x' ≤ 1048576 := by rw [hx']; exact (rG (by omega) (by omega) fun a ha => by have := hz3 a (by simp [ha]); omega)
    have hj2 : j' = x'.1.length := by rw [hx', hj']
    have hk2 : k' = x'.2.length := by rw [hx', hk']; try simp
    clear hx' hj' hk'
    exact hrest c1 x' j' k' ⟨h1, hxs, hj2, hk2⟩
  | false =>
  conv => whnf
  generalize (v == 1) = b1
  cases b1 with
  | true =>
   conv => whnf
   generalize hlen : decide ((((a0 :: qr).length : Nat) : Int) < 4) = bl
   cases bl with
   | false =>
    conv => whnf
    obtain ⟨x', hx'⟩ : ∃ x' : cP, x' = (qh, a0 :: qr) := ⟨_, rfl⟩
    obtain ⟨j', hj'⟩ : ∃ j' : Nat, j' = qh.length := ⟨_, rfl⟩
    obtain ⟨k', hk'⟩ : ∃ k' : Nat, k' = (a0 :: qr).length := ⟨_, rfl⟩
    refine ⟨[(0,0),(4,0),(5,0),(6,0),(7,0)], [], tT s (qh, a0 :: qr) c1 x' j' k', tQ, by rw [hx', hj', hk']; kernel_rfl, by kernel_rfl, ?_⟩
    have hxs : aC x' ≤ 1048576 := by rw [hx']; exact (hqs)
    have hj2 : j' = x'.1.length := by rw [hx', hj']
    have hk2 : k' = x'.2.length := by rw [hx', hk']; try simp
    clear hx' hj' hk'
    exact hrest c1 x' j' k' ⟨h1, hxs, hj2, hk2⟩
   | true =>
    conv => whnf
    refine ⟨[1001, 0, 1, 2, 3, 4, 5, 6, 7, 8, 1000, 1000], by kernel_rfl, ?_⟩
    conv => whnf
    refine .inr (.inr ⟨[0], fun k => eC (by kernel_rfl) k, rfl, ?_⟩)
    conv => whnf
    refine ⟨_, NJ s c1 hs h1, fun r g2 hP => ?_⟩
    obtain ⟨a, c2, rfl, ha, h2, rfl⟩ := hP
    refine .inr ?_
    conv => whnf
    refine ⟨by rw [a6 a7], ?_⟩
    conv => whnf
    refine ⟨_, rfl, .inr ⟨kV a, ?_⟩⟩
    conv => whnf
    refine ⟨by omega, by rw [a6 aK], _, lQ bY _ a, ?_⟩
    conv => whnf
    obtain ⟨x', hx'⟩ : ∃ x' : cP, x' = (qh, a0 :: qr ++ [a]) := ⟨_, rfl⟩
    obtain ⟨j', hj'⟩ : ∃ j' : Nat, j' = qh.length := ⟨_, rfl⟩
    obtain ⟨k', hk'⟩ : ∃ k' : Nat, k' = ((a0 :: qr).length + 1) := ⟨_, rfl⟩
    refine ⟨[(0,0),(4,0),(5,0),(6,0),(7,0)], [], tT s (qh, a0 :: qr) c2 x' j' k', tQ, by rw [hx', hj', hk']; kernel_rfl, by kernel_rfl, ?_⟩
    have hxs : aC x' ≤ 1048576 := by rw [hx']; exact (rG (by omega) (by simp; omega) (ES (fun x hx => by have := hz3 x hx; omega) (by omega)))
    have hj2 : j' = x'.1.length := by rw [hx', hj']
    have hk2 : k' = x'.2.length := by rw [hx', hk']; try simp
    clear hx' hj' hk'
    exact hrest c2 x' j' k' ⟨h2, hxs, hj2, hk2⟩
  | false =>
  conv => whnf
  generalize (v == 2) = b2
  cases b2 with
  | true =>
   conv => whnf
   refine .inl ?_
   conv => whnf
   refine ⟨_, _, aN (by rw [a6 a7]), cK _, ?_⟩
   conv => whnf
   refine ⟨_, _, aN (by rw [a6 aK]), bF jF _, ?_⟩
   conv => whnf
   refine ⟨_, _, aN rfl, rfl, ?_⟩
   conv => whnf
   refine ⟨_, eX (qh, a0 :: qr) [3, 2, 1, 0] hqs (by decide), .inr (gM _), .inr ?_⟩
   conv => whnf
   obtain ⟨l1, l2, l3⟩ := OQ (qh, a0 :: qr) [3, 2, 1, 0]
   generalize sG [3, 2, 1, 0] (qh, a0 :: qr) = y at l1 l2 l3 ⊢
   obtain ⟨x', hx'⟩ : ∃ x' : cP, x' = y := ⟨_, rfl⟩
   obtain ⟨j', hj'⟩ : ∃ j' : Nat, j' = y.1.length := ⟨_, rfl⟩
   obtain ⟨k', hk'⟩ : ∃ k' : Nat, k' = y.2.length := ⟨_, rfl⟩
   refine ⟨[(0,0),(4,0),(5,0),(6,0),(7,0)], [], tT s (qh, a0 :: qr) c1 x' j' k', tQ, by rw [hx', hj', hk']; kernel_rfl, by kernel_rfl, ?_⟩
   have hxs : aC x' ≤ 1048576 := by rw [hx']; exact (rG (by rw [l1]; show qh.length ≤ 64; omega) (by rw [l2]; show qr.length + 1 ≤ 64; omega) fun a ha => by have := l3 8 hz3 a ha; omega)
   have hj2 : j' = x'.1.length := by rw [hx', hj']
   have hk2 : k' = x'.2.length := by rw [hx', hk']; try simp
   clear hx' hj' hk'
   exact hrest c1 x' j' k' ⟨h1, hxs, hj2, hk2⟩
  | false =>
  conv => whnf
  generalize (v == 3) = b3
  cases b3 with
  | true =>
   conv => whnf
   refine ⟨[1001, 0, 1, 3, 2, 4, 5, 6, 7, 1000, 1000], by kernel_rfl, ?_⟩
   conv => whnf
   refine .inr (.inr ⟨[0], fun k => eC (by kernel_rfl) k, rfl, ?_⟩)
   conv => whnf
   refine ⟨_, xP c1 h1, fun r g2 hP => ?_⟩
   obtain ⟨t, c2, rfl, h2, rfl⟩ := hP
   refine .inl ?_
   conv => whnf
   refine .inr (.inr ⟨[0], fun k => eC (by kernel_rfl) k, rfl, ?_⟩)
   conv => whnf
   refine ⟨_, xP c2 h2, fun r g2 hP => ?_⟩
   obtain ⟨u, c3, rfl, h3, rfl⟩ := hP
   refine .inl ?_
   conv => whnf
   refine .inl ?_
   conv => whnf
   refine ⟨_, _, aN (by rw [a6 a7]), cK _, ?_⟩
   conv => whnf
   refine ⟨_, _, aN (by rw [a6 aK]), bF jF _, ?_⟩
   conv => whnf
   refine ⟨_, _, aN rfl, rfl, ?_⟩
   conv => whnf
   refine ⟨_, eX (qh, a0 :: qr) [t, u] hqs (by simp), .inr (gM _), .inr ?_⟩
   conv => whnf
   obtain ⟨l1, l2, l3⟩ := OQ (qh, a0 :: qr) [t, u]
   generalize sG [t, u] (qh, a0 :: qr) = y at l1 l2 l3 ⊢
   obtain ⟨x', hx'⟩ : ∃ x' : cP, x' = y := ⟨_, rfl⟩
   obtain ⟨j', hj'⟩ : ∃ j' : Nat, j' = y.1.length := ⟨_, rfl⟩
   obtain ⟨k', hk'⟩ : ∃ k' : Nat, k' = y.2.length := ⟨_, rfl⟩
   refine ⟨[(0,0),(4,0),(5,0),(6,0),(7,0)], [], tT s (qh, a0 :: qr) c3 x' j' k', tQ, by rw [hx', hj', hk']; kernel_rfl, by kernel_rfl, ?_⟩
   have hxs : aC x' ≤ 1048576 := by rw [hx']; exact (rG (by rw [l1]; show qh.length ≤ 64; omega) (by rw [l2]; show qr.length + 1 ≤ 64; omega) fun a ha => by have := l3 8 hz3 a ha; omega)
   have hj2 : j' = x'.1.length := by rw [hx', hj']
   have hk2 : k' = x'.2.length := by rw [hx', hk']; try simp
   clear hx' hj' hk'
   exact hrest c3 x' j' k' ⟨h3, hxs, hj2, hk2⟩
  | false =>
  conv => whnf
  generalize (v == 4) = b4
  cases b4 with
  | true =>
   conv => whnf
   generalize hlen : decide ((((a0 :: qr).length : Nat) : Int) > 1) = bl
   cases bl with
   | false =>
    conv => whnf
    obtain ⟨x', hx'⟩ : ∃ x' : cP, x' = (qh, a0 :: qr) := ⟨_, rfl⟩
    obtain ⟨j', hj'⟩ : ∃ j' : Nat, j' = qh.length := ⟨_, rfl⟩
    obtain ⟨k', hk'⟩ : ∃ k' : Nat, k' = (a0 :: qr).length := ⟨_, rfl⟩
    refine ⟨[(0,0),(4,0),(5,0),(6,0),(7,0)], [], tT s (qh, a0 :: qr) c1 x' j' k', tQ, by rw [hx', hj', hk']; kernel_rfl, by kernel_rfl, ?_⟩
    have hxs : aC x' ≤ 1048576 := by rw [hx']; exact (hqs)
    have hj2 : j' = x'.1.length := by rw [hx', hj']
    have hk2 : k' = x'.2.length := by rw [hx', hk']; try simp
    clear hx' hj' hk'
    exact hrest c1 x' j' k' ⟨h1, hxs, hj2, hk2⟩
   | true =>
    conv => whnf
    refine ⟨List.range 11, by kernel_rfl, ?_⟩
    conv => whnf
    refine ⟨⟨by omega, by omega, by omega⟩, ?_⟩
    conv => whnf
    refine ⟨⟨by omega, by omega⟩, ?_⟩
    conv => whnf
    refine ⟨_, rfl, ?_⟩
    conv => whnf
    refine ⟨_, _, _, rfl, ?_⟩
    conv => whnf
    refine ⟨_, rfl, .inr ⟨kV a0, ?_⟩⟩
    conv => whnf
    refine ⟨by omega, ?_, _, lQ bY qr a0, ?_⟩
    ·show (V.sc _ :: V.any :: aB bY qr).length = _
     simp only [List.length_cons, a6 aK]
     show _ = 1 + 1 + (qr.length + 1 - 1) * 2
     omega
    conv => whnf
    obtain ⟨x', hx'⟩ : ∃ x' : cP, x' = (qh, qr ++ [a0]) := ⟨_, rfl⟩
    obtain ⟨j', hj'⟩ : ∃ j' : Nat, j' = qh.length := ⟨_, rfl⟩
    obtain ⟨k', hk'⟩ : ∃ k' : Nat, k' = ((a0 :: qr).length - Int.toNat 1 + 1) := ⟨_, rfl⟩
    refine ⟨[(0,0),(4,0),(5,0),(6,0),(7,0)], [], tT s (qh, a0 :: qr) c1 x' j' k', tQ, by rw [hx', hj', hk']; kernel_rfl, by kernel_rfl, ?_⟩
    have hxs : aC x' ≤ 1048576 := by rw [hx']; exact (rG (by omega) (by simp; omega) (ES (fun x hx => by have := hz3 x (by simp [hx]); omega) (by have := hz3 a0 (by simp); omega)))
    have hj2 : j' = x'.1.length := by rw [hx', hj']
    have hk2 : k' = x'.2.length := by rw [hx', hk']; try simp
    clear hx' hj' hk'
    exact hrest c1 x' j' k' ⟨h1, hxs, hj2, hk2⟩
  | false =>
  conv => whnf
  generalize (v == 5) = b5
  cases b5 with
  | true =>
   conv => whnf
   generalize hlen : decide ((((a0 :: qr).length : Nat) : Int) < 4) = bl
   cases bl with
   | false =>
    conv => whnf
    obtain ⟨x', hx'⟩ : ∃ x' : cP, x' = (qh, a0 :: qr) := ⟨_, rfl⟩
    obtain ⟨j', hj'⟩ : ∃ j' : Nat, j' = qh.length := ⟨_, rfl⟩
    obtain ⟨k', hk'⟩ : ∃ k' : Nat, k' = (a0 :: qr).length := ⟨_, rfl⟩
    refine ⟨[(0,0),(4,0),(5,0),(6,0),(7,0)], [], tT s (qh, a0 :: qr) c1 x' j' k', tQ, by rw [hx', hj', hk']; kernel_rfl, by kernel_rfl, ?_⟩
    have hxs : aC x' ≤ 1048576 := by rw [hx']; exact (hqs)
    have hj2 : j' = x'.1.length := by rw [hx', hj']
    have hk2 : k' = x'.2.length := by rw [hx', hk']; try simp
    clear hx' hj' hk'
    exact hrest c1 x' j' k' ⟨h1, hxs, hj2, hk2⟩
   | true =>
    conv => whnf
    refine ⟨List.range 12, by kernel_rfl, ?_⟩
    conv => whnf
    refine ⟨_, _, aN rfl, rfl, ?_⟩
    conv => whnf
    refine ⟨_, eX (qh, a0 :: qr) [5, 6, 7] hqs (by decide), .inr (gM _), .inr ?_⟩
    conv => whnf
    refine ⟨⟨by omega, by simp only [sG, List.map_cons, List.length_cons]; omega⟩, ?_⟩
    conv => whnf
    refine ⟨_, rfl, ?_⟩
    conv => whnf
    refine ⟨_, _, _, rfl, ?_⟩
    conv => whnf
    refine ⟨_, rfl, .inr ⟨kV (AC [5, 6, 7] a0), ?_⟩⟩
    conv => whnf
    refine ⟨by omega, by rw [a6 aK], _, lQ bY _ (AC [5, 6, 7] a0), ?_⟩
    conv => whnf
    obtain ⟨x', hx'⟩ : ∃ x' : cP, x' = (qh, a0 :: qr ++ [AC [5, 6, 7] a0]) := ⟨_, rfl⟩
    obtain ⟨j', hj'⟩ : ∃ j' : Nat, j' = qh.length := ⟨_, rfl⟩
    obtain ⟨k', hk'⟩ : ∃ k' : Nat, k' = ((a0 :: qr).length + 1) := ⟨_, rfl⟩
    refine ⟨[(0,0),(4,0),(5,0),(6,0),(7,0)], [], tT s (qh, a0 :: qr) c1 x' j' k', tQ, by rw [hx', hj', hk']; kernel_rfl, by kernel_rfl, ?_⟩
    have hxs : aC x' ≤ 1048576 := by rw [hx']; exact (rG (by omega) (by simp; omega) (ES (fun x hx => by have := hz3 x hx; omega) (by have := hz3 a0 (by simp); simp [AC]; omega)))
    have hj2 : j' = x'.1.length := by rw [hx', hj']
    have hk2 : k' = x'.2.length := by rw [hx', hk']; try simp
    clear hx' hj' hk'
    exact hrest c1 x' j' k' ⟨h1, hxs, hj2, hk2⟩
  | false =>
   conv => whnf
   refine .inr (.inr ⟨[0], [], ?_⟩)
   conv => whnf
   refine ⟨_, uM s c1 hs h1, fun r g2 hP => ?_⟩
   obtain ⟨y, c2, rfl, y1, y2, y3, y4, h2, rfl⟩ := hP
   refine .inr ?_
   conv => whnf
   obtain ⟨x', hx'⟩ : ∃ x' : cP, x' = y := ⟨_, rfl⟩
   obtain ⟨j', hj'⟩ : ∃ j' : Nat, j' = y.1.length := ⟨_, rfl⟩
   obtain ⟨k', hk'⟩ : ∃ k' : Nat, k' = y.2.length := ⟨_, rfl⟩
   refine ⟨[(0,0),(4,0),(5,0),(6,0),(7,0)], [], tT s (qh, a0 :: qr) c2 x' j' k', tQ, by rw [hx', hj', hk']; kernel_rfl, by kernel_rfl, ?_⟩
   have hxs : aC x' ≤ 1048576 := by rw [hx']; exact (rG (by omega) (by omega) fun a ha => by have := y4 a ha; omega)
   have hj2 : j' = x'.1.length := by rw [hx', hj']
   have hk2 : k' = x'.2.length := by rw [hx', hk']; try simp
   clear hx' hj' hk'
   exact hrest c2 x' j' k' ⟨h2, hxs, hj2, hk2⟩
 case hx =>
  intro c2 x j k ⟨h2, hx, hj, hk⟩
  subst hj hk
  conv => whnf
  refine .inl ?_
  conv => whnf
  refine ⟨_, _, aN (by rw [a6 a7]), cK _, ?_⟩
  conv => whnf
  refine ⟨_, _, aN (by rw [a6 aK]), bF jF _, ?_⟩
  conv => whnf
  have hsl := hs.2.2
  refine ⟨_, dU s x (by show s.length ≤ _; omega) hx, .inr trivial, .inl ?_⟩
  generalize hb : aH s x = b
  cases b with
  | false =>
   conv => whnf
   refine ⟨_, BA (qh, a0 :: qr) hqs, .inl rfl, .inr ?_⟩
   conv => whnf
   refine ⟨[], ?_⟩
   conv => whnf
   refine ⟨by rw [a6 a7], by rw [a6 aK], ?_⟩
   exact ⟨(qh, a0 :: qr), c2, rfl, ⟨hz1, hz2, hz3⟩, hq1, h2, rfl⟩
  | true =>
   conv => whnf
   refine ⟨[], ?_⟩
   conv => whnf
   refine ⟨by rw [a6 a7], by rw [a6 aK], ?_⟩
   exact ⟨x, c2, rfl, NE hb, (EK hb).2.1, h2, rfl⟩
end Go.Proofs.YtboolngaahifdaaGreatD
