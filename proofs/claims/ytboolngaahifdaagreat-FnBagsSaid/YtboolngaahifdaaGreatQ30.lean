/- Contracts and plain laws of this seat; no condition. -/
import Derived.Test.YtboolngaahifdaaGreatQ29
import Derived.Test.YtboolngaahifdaaGreatQ27
import Derived.Test.YtboolngaahifdaaGreatQ17
set_option linter.unusedVariables false
set_option linter.unusedSimpArgs false
set_option maxRecDepth 100000
namespace Go.Proofs.YtboolngaahifdaaGreatD
open Go Go.Proofs
theorem FT {g : List (Option Obj)} {f t : bJ} {i0 i1 i2 : Nat} (h0 : aX g i0 = some ⟨true, aO f⟩) (h1 : aX g i1 = some ⟨true, aO t⟩) (h2 : aX g i2 = some ⟨true, [.fn 245 [.ptr i0 0, .ptr i1 0, .ptr i2 0]]⟩) :
  ∀ n, lA g (2 * n + 2) (.ptr i2 0) = vP f t (lA g 2 (.ptr i2 0)) n
 | 0 => rfl
 | n + 1 => by
  have ih := FT h0 h1 h2 n
  rw [vP, ← ih, show 2 * (n + 1) + 2 = (2 * n + 2) + 1 + 1 from by omega]
  have e1 : ∀ d, lA g (d + 1) (.ptr i2 0) = .rp [lA g d (.fn 245 [.ptr i0 0, .ptr i1 0, .ptr i2 0])] := fun d => by
   show (match aX g i2 with
    | some ⟨true, cs⟩ => bif eG cs then V.any else V.rp ((cs.drop 0).map (lA g d))
    | _ => .any) = _
   rw [h2]
   rfl
  have e2 : ∀ (d i : Nat) (q : bJ), aX g i = some ⟨true, aO q⟩ → lA g (d + 2) (.ptr i 0) = .rp (aO q) := fun d i q hq => by
   show (match aX g i with
    | some ⟨true, cs⟩ => bif eG cs then V.any else V.rp ((cs.drop 0).map (lA g (d + 1)))
    | _ => .any) = _
   rw [hq]
   rfl
  rw [e1]
  show V.rp [.fn _ [lA g (2 * n + 2) (.ptr i0 0), lA g (2 * n + 2) (.ptr i1 0), lA g (2 * n + 2) (.ptr i2 0)]] = _
  rw [e2 _ _ _ h0, e2 _ _ _ h1]
  rfl
def sY (k : Nat) : List Int := List.replicate k (-1000) ++ List.replicate (20 - k) 0
theorem UJ {k : Nat} (h : k ≤ 20) : (sY k).length = 20 := by simp [sY]; omega
theorem UK {k : Nat} (h : k < 20) : (sY k).set k (-1000) = sY (k + 1) := by
 rw [sY, List.set_append_right _ _ (by simp)]
 obtain ⟨r, hr⟩ : ∃ r, 20 - k = r + 1 := ⟨19 - k, by omega⟩
 rw [hr, List.length_replicate, Nat.sub_self, List.replicate_succ, List.set_cons_zero, sY, List.replicate_succ', show 20 - (k + 1) = r from by omega, List.append_assoc]
 rfl
def a1B : Option (List Int) → V
 | none => .tup [bE [], cb false]
 | some y => .tup [aW y, cb true]
set_option maxHeartbeats 8000000 in
theorem KP (f t : bJ) (hf : aC f ≤ 1048576) (ht : aC t ≤ 1048576) (hfh : SB f.1) (hfa : WY f.2) : bI Tryz.prog 224 [aP f, aP t] (a1B (GZ f t)) := by
 have hf' := hf
 have ht' := ht
 unfold aC dW at hf' ht'
 refine aF mx aJ Tryz.func224 rfl ?_
 conv => whnf
 unfold GZ
 generalize hb1 : ((f.1.length : Int) != (t.1.length : Int)) = b1
 cases b1 with
 | true =>
  conv => whnf
  exact ⟨rfl, rfl⟩
 | false =>
 have hlen : f.1.length = t.1.length := by
  have h9 : (f.1.length : Int) = t.1.length := (by simpa using hb1)
  omega
 rw [if_neg (by simp)]
 conv => whnf
 refine ⟨by omega, aB ciL (sY 0), rfl, ?_⟩
 conv => whnf
 refine ⟨[(2,0),(3,0),(4,0),(5,0),(6,0),(22,0),(23,0)], fun j s => ∃ (k n : Nat) (e : Int) (r : List V), e = k ∧ j + k = 20 ∧ n = 20 ∧ r = aB ciL (sY k) ∧
  s = ⟨57, [(2, .ptr 0 0), (3, .ptr 1 0), (4, cG), (5, cb false), (6, .own 2 1 0 n n none), (22, ci 20), (23, ci e)], [some ⟨true, aO f⟩, some ⟨true, aO t⟩, some ⟨false, r⟩]⟩, 20, ⟨0, 20, 0, _, rfl, rfl, rfl, rfl, rfl⟩, ?_⟩
 rintro j s ⟨k, n, _, _, rfl, hj, rfl, rfl, rfl⟩
 conv => whnf
 split <;> rename_i h3
 all_goals simp only [decide_eq_true_eq, decide_eq_false_iff_not] at h3
 ·conv => whnf
  have hk : k < 20 := by omega
  refine ⟨by omega, ?_⟩
  conv => whnf
  have hkl : k < (sY k).length := by rw [UJ (by omega)]; exact hk
  refine ⟨_, b7 (k := k) (d := 0) (xs := sY k) a7 (Nat.zero_add _) hkl (Nat.le_refl _) rfl, _, (TL hkl (-1000)).trans (congrArg (aB ciL) (UK hk)), ?_⟩
  conv => whnf
  exact ⟨j - 1, by omega, k + 1, 20, _, _, a8 (by omega) (by omega), by omega, rfl, rfl, rfl⟩
 ·conv => whnf
  obtain rfl : k = 20 := by omega
  rw [show sY 20 = jS from rfl]
  refine ⟨[(2,0),(3,0),(4,0),(5,0),(6,0),(31,0),(32,0),(33,0)], fun j s => ∃ (k n : Nat) (e : Int) (M : List Int) (r : List V), e = k ∧ j + k = f.1.length ∧ n = 20 ∧ kY jS f.1 t.1 k = (M, true) ∧ r = aB ciL M ∧
   s = ⟨57, [(2, .ptr 0 0), (3, .ptr 1 0), (4, cG), (5, cb false), (6, .own 2 1 0 n n none), (31, aW f.1), (32, ci f.1.length), (33, ci e)], [some ⟨true, aO f⟩, some ⟨true, aO t⟩, some ⟨false, r⟩]⟩, f.1.length, ⟨0, 20, 0, jS, _, rfl, rfl, rfl, rfl, rfl, rfl⟩, ?_⟩
  rintro j s ⟨k, n, _, M, _, rfl, hj, rfl, hu, rfl, rfl⟩
  have hul : M.length = 20 := by
   have := iF jS f.1 t.1 k
   rw [hu, PQ] at this
   exact this
  conv => whnf
  split <;> rename_i h4
  all_goals simp only [decide_eq_true_eq, decide_eq_false_iff_not] at h4
  ·conv => whnf
   have hk : k < f.1.length := by omega
   have hkb : k < t.1.length := by omega
   have hnx := vB (m := jS) (xs := f.1) (ys := t.1) (k := k) (by rw [hu])
   rw [hu, fV hk, fV hkb] at hnx
   simp only at hnx
   refine ⟨by omega, a6 a7 _, ?_⟩
   conv => whnf
   refine ⟨_, aD (k := k) a7 hk, ?_⟩
   conv => whnf
   refine ⟨by omega, a6 a7 _, ?_⟩
   conv => whnf
   refine ⟨_, aD (k := k) a7 hkb, ?_⟩
   conv => whnf
   refine .inr (.inl ?_)
   conv => whnf
   refine ⟨by rw [a6 a7, hul], ?_⟩
   conv => whnf
   have hs := IW M f.1[k] t.1[k] hul
   have hsl : (mU M f.1[k] t.1[k]).1.length = 20 := by rw [AI, hul]
   generalize hsp : mU M f.1[k] t.1[k] = r at hs hnx hsl
   obtain ⟨M2, ok⟩ := r
   simp only at hsl
   unfold bE at hs
   simp only at hs
   rw [hsl, hul] at hs
   refine ⟨_, _, _, hs, ?_⟩
   conv => whnf
   refine .inl ?_
   conv => whnf
   cases ok with
   | false =>
    conv => whnf
    have := wT (m := jS) (xs := f.1) (ys := t.1) (k := k + 1) (by rw [hnx]) f.1.length (by omega)
    rw [this, hnx]
    exact ⟨rfl, rfl⟩
   | true =>
    conv => whnf
    exact ⟨j - 1, by omega, k + 1, 20, _, M2, _, a8 (by omega) (by omega), by omega, rfl, hnx, rfl, rfl⟩
  ·conv => whnf
   have hkk : k = f.1.length := by omega
   subst hkk
   rw [hu]
   simp only [if_true]
   refine .inr (.inr (.inl ⟨[0,1,2,3], rfl, ?_⟩))
   conv => whnf
   refine ⟨_, _, aN (by rw [a6 a7, hul]), cK _, ?_⟩
   conv => whnf
   refine ⟨_, rfl, ?_⟩
   conv => whnf
   refine ⟨_, rfl, ?_⟩
   conv => whnf
   refine ⟨2 * (f.2.length + 1) + 2, _, FT (f := f) (t := t) (i0 := 0) (i1 := 1) (i2 := 3) rfl rfl rfl (f.2.length + 1), ?_⟩
   conv => whnf
   generalize lA _ 2 _ = z
   have hq := NV f t z hf ht hfa f.2.length 0 (f.2.length + 1) M (by omega) (by omega) hul
   rw [List.drop_zero] at hq
   unfold aW at hq
   rw [hul] at hq
   refine ⟨_, hq, _, rfl, .inl ?_⟩
   rw [T3]
   generalize hso : tY t.2 f.2 M = o
   cases o with
   | some y =>
    have hyl := FZ hso
    conv => whnf
    refine ⟨fun h0 => ?_, ?_⟩
    ·have h7 : y.length * 1 = 0 := (a6 a7 y).symm.trans (congrArg List.length h0)
     omega
    conv => whnf
    rfl
   | none =>
    conv => whnf
    exact ⟨rfl, rfl⟩
theorem tB (s : List Int) (f t : bJ) (hs : cT s ≤ 1048576) (hf : aC f ≤ 1048576) (ht : aC t ≤ 1048576) : bI Tryz.prog 191 [aV s, aP f, aP t] (if aH s f && aH s t then roV (a1B (GZ f t)) else a1B none) := by
 refine aF mx aJ Tryz.func191 rfl ?_
 conv => whnf
 refine ⟨_, dS s f hs hf, .inl rfl, .inl ?_⟩
 conv => whnf
 generalize hb1 : aH s f = b1
 cases b1 with
 | false =>
  conv => whnf
  exact ⟨rfl, rfl⟩
 | true =>
 conv => whnf
 refine ⟨_, dS s t hs ht, .inl rfl, .inl ?_⟩
 conv => whnf
 generalize hb2 : aH s t = b2
 cases b2 with
 | false =>
  conv => whnf
  exact ⟨rfl, rfl⟩
 | true =>
 conv => whnf
 obtain ⟨h1, h2⟩ := K9 hb1
 rw [Bool.true_and, if_pos rfl]
 refine ⟨_, KP f t hf ht h1 h2, .inl rfl, .inl ?_⟩
 generalize GZ f t = o
 cases o with
 | none =>
  conv => whnf
  rfl
 | some y =>
  simp only [a1B, roV, dM, SE, RX]
  conv => whnf
  rfl
theorem m7 (s : List Int) (a b : bJ) (hs : cT s ≤ 1048576) (ha : aC a ≤ 1048576) (hb : aC b ≤ 1048576) : bI Tryz.prog 137 [aV s, aP a, aP b] (cb (gW s a b)) := by
 refine aF mx aJ Tryz.func137 rfl ?_
 conv => whnf
 refine ⟨_, tB s b a hs hb ha, .inl rfl, .inl ?_⟩
 conv => whnf
 unfold gW
 generalize aH s b = b1
 generalize aH s a = b2
 generalize GZ b a = o
 cases b1 <;> cases b2 <;> cases o
 all_goals
  conv => whnf
  rfl
theorem sD (s : List Int) (a b : bJ) (hs : cT s ≤ 1048576) (ha : aC a ≤ 1048576) (hb : aC b ≤ 1048576) : bI Tryz.prog 62 [aV s, aP a, aP b] (cb (gW s a b && gW s b a)) := by
 refine aF mx aJ Tryz.func62 rfl ?_
 conv => whnf
 refine ⟨_, m7 s a b hs ha hb, .inl rfl, .inl ?_⟩
 conv => whnf
 generalize gW s a b = b1
 cases b1 with
 | false =>
  conv => whnf
  rfl
 | true =>
  conv => whnf
  refine ⟨_, m7 s b a hs hb ha, .inl rfl, .inl ?_⟩
  conv => whnf
  rfl
def app (h : Int → Int) (t : Int) : Int := if b8 t then h t else t
def kJ (h : Int → Int) (a : aL) : aL := (a.1, a.2.map (app h))
def nQ (h : Int → Int) (f t : bJ) : Prop := f.1.map (app h) = t.1 ∧ ∀ a ∈ f.2, kJ h a ∈ t.2
def xU (m : List Int) (t : Int) : Int := m.getD t.toNat 0
def M8 (m : List Int) (h : Int → Int) : Prop := ∀ k : Nat, k < 20 → m.getD k 0 ≠ unm → m.getD k 0 = h k
def M5 (m m' : List Int) : Prop := ∀ k : Nat, k < 20 → m.getD k 0 ≠ unm → m'.getD k 0 = m.getD k 0
theorem zQ {m : List Int} {q : Nat} (hq : q < m.length) (u : Int) (k : Nat) : (m.set q u).getD k 0 = if k = q then u else m.getD k 0 := by
 simp only [List.getD_eq_getElem?_getD, List.getElem?_set]
 by_cases h : q = k
 ·subst h; simp [hq]
 ·rw [if_neg h, if_neg (fun e => h e.symm)]
theorem OW {m : List Int} (hm : m.length = 20) {t u : Int} (h : (mU m t u).2 = true) : M5 m (mU m t u).1 ∧ app (xU (mU m t u).1) t = u := by
 unfold mU at h ⊢
 by_cases hv : b8 t = true
 ·rw [if_pos hv] at h ⊢
  obtain ⟨q, rfl, hq⟩ := uL hv
  simp only [Int.toNat_natCast] at h ⊢
  by_cases hx : (m.getD q 0 == unm) = true
  ·rw [if_pos hx] at h ⊢
   have hx' : m.getD q 0 = unm := by simpa using hx
   refine ⟨fun k hk hne => ?_, ?_⟩
   ·rw [zQ (by omega)]
    by_cases hkq : k = q
    ·subst hkq; exact absurd hx' hne
    ·rw [if_neg hkq]
   ·unfold app xU
    rw [if_pos hv, Int.toNat_natCast]
    simpa using h
  ·rw [if_neg hx] at h ⊢
   refine ⟨fun k hk hne => rfl, ?_⟩
   unfold app xU
   rw [if_pos hv, Int.toNat_natCast]
   simpa using h
 ·rw [if_neg hv] at h ⊢
  refine ⟨fun k hk hne => rfl, ?_⟩
  unfold app
  rw [if_neg hv]
  simpa using h
theorem FP {m : List Int} (hm : m.length = 20) {h : Int → Int} (hs : M8 m h) {t u : Int} (ht : app h t = u) : (mU m t u).2 = true ∧ M8 (mU m t u).1 h := by
 unfold mU
 unfold app at ht
 by_cases hv : b8 t = true
 ·rw [if_pos hv] at ht ⊢
  obtain ⟨q, rfl, hq⟩ := uL hv
  simp only [Int.toNat_natCast]
  by_cases hx : (m.getD q 0 == unm) = true
  ·rw [if_pos hx]
   refine ⟨?_, fun k hk hne => ?_⟩
   ·rw [zQ (by omega), if_pos rfl]; simp
   ·rw [zQ (by omega)] at hne ⊢
    by_cases hkq : k = q
    ·subst hkq; rw [if_pos rfl]; exact ht.symm
    ·rw [if_neg hkq] at hne ⊢
     exact hs k hk hne
  ·rw [if_neg hx]
   have := hs q hq (by simpa using hx)
   refine ⟨?_, hs⟩
   rw [this, ht]; simp
 ·rw [if_neg hv] at ht ⊢
  exact ⟨by simp [ht], hs⟩
theorem JK {m m' : List Int} (he : M5 m m') {t u : Int} (hu : u ≠ unm) (h : app (xU m) t = u) : app (xU m') t = u := by
 unfold app xU at h ⊢
 by_cases hv : b8 t = true
 ·rw [if_pos hv] at h ⊢
  obtain ⟨q, rfl, hq⟩ := uL hv
  rw [Int.toNat_natCast] at h ⊢
  rw [he q hq (by rw [h]; exact hu), h]
 ·rw [if_neg hv] at h ⊢
  exact h
theorem I2 {a b c : List Int} (h1 : M5 a b) (h2 : M5 b c) : M5 a c := fun k hk hne => by
 have := h1 k hk hne
 rw [h2 k hk (by rw [this]; exact hne), this]
theorem wU {m xs ys : List Int} (hm : m.length = 20) (hl : xs.length = ys.length) (hy : ∀ y ∈ ys, y ≠ unm) : ∀ k, k ≤ xs.length → (kY m xs ys k).2 = true → M5 m (kY m xs ys k).1 ∧ ∀ j, j < k → app (xU (kY m xs ys k).1) (xs.getD j 0) = ys.getD j 0
 | 0, _, _ => ⟨fun k hk hne => rfl, fun j hj => absurd hj (Nat.not_lt_zero _)⟩
 | k + 1, hk, h => by
  have h0 : (kY m xs ys k).2 = true := by
   cases hc : (kY m xs ys k).2 with
   | true => rfl
   | false =>
    have := wT hc (k + 1) (by omega)
    rw [this, hc] at h
    cases h
  obtain ⟨i1, i2⟩ := wU hm hl hy k (by omega) h0
  rw [vB h0] at h ⊢
  obtain ⟨s1, s2⟩ := OW (by rw [iF, hm]) h
  refine ⟨I2 i1 s1, fun j hj => ?_⟩
  rcases Nat.lt_or_ge j k with h1 | h1
  ·have hyj : ys.getD j 0 ≠ unm := by
    have hjl : j < ys.length := by omega
    rw [fV hjl]
    exact hy _ (List.getElem_mem hjl)
   exact JK s1 hyj (i2 j h1)
  ·rw [show j = k from by omega]
   exact s2
theorem BJ {xs ys : List Int} {f : Int → Int} (hl : xs.length = ys.length) (h : ∀ j, j < xs.length → f (xs.getD j 0) = ys.getD j 0) : xs.map f = ys := by
 apply List.ext_getElem
 ·simp [hl]
 ·intro i h1 h2
  rw [List.getElem_map]
  have h3 : i < xs.length := by simpa using h1
  have := h i h3
  rwa [fV h3, fV h2] at this
theorem pK {m xs ys : List Int} (hm : m.length = 20) {h : Int → Int} (hs : M8 m h) (he : xs.map (app h) = ys) : ∀ k, k ≤ xs.length → (kY m xs ys k).2 = true ∧ M8 (kY m xs ys k).1 h
 | 0, _ => ⟨rfl, hs⟩
 | k + 1, hk => by
  obtain ⟨i1, i2⟩ := pK hm hs he k (by omega)
  rw [vB i1]
  refine FP (by rw [iF, hm]) i2 ?_
  have h1 : k < xs.length := by omega
  have h2 : k < ys.length := by rw [← he]; simpa using h1
  rw [fV h1, fV h2]
  subst he
  simp
def WZ (ts : List aL) : Prop := ∀ b ∈ ts, ∀ y ∈ b.2, y ≠ unm
theorem P2 {a b : aL} {m x : List Int} (hm : m.length = 20) (hb : ∀ y ∈ b.2, y ≠ unm) (h : n4 a b m = some x) : M5 m x ∧ kJ (xU x) a = b ∧ x.length = 20 := by
 unfold n4 at h
 split at h
 ·cases h
 ·rename_i h1
  split at h
  ·cases h
  ·rename_i h2
   split at h
   ·rename_i h3
    cases h
    have hl : a.2.length = b.2.length := by
     have : ((a.2.length : Int) == b.2.length) = true := by
      cases hc : ((a.2.length : Int) == b.2.length) with
      | true => rfl
      | false => exact absurd (by simp [bne, hc]) h2
     have : (a.2.length : Int) = b.2.length := by simpa using this
     omega
    obtain ⟨s1, s2⟩ := wU hm hl hb _ (Nat.le_refl _) h3
    refine ⟨s1, ?_, by rw [iF, hm]⟩
    have h4 : a.1 = b.1 := by simpa using h1
    unfold kJ
    rw [h4, BJ hl s2]
   ·cases h
theorem G1 {a b : aL} {m : List Int} (hm : m.length = 20) {h : Int → Int} (hs : M8 m h) (he : kJ h a = b) : ∃ x, n4 a b m = some x ∧ M8 x h ∧ x.length = 20 := by
 subst he
 obtain ⟨u1, u2⟩ := pK (xs := a.2) hm hs rfl _ (Nat.le_refl _)
 refine ⟨(kY m a.2 (a.2.map (app h)) a.2.length).1, ?_, u2, by rw [iF, hm]⟩
 unfold n4 kJ
 simp only
 rw [if_neg (by simp), if_neg (by simp), if_pos u1]
theorem G0 {ts : List aL} (hts : WZ ts) : ∀ {fs : List aL} {m y : List Int}, m.length = 20 → tY ts fs m = some y → M5 m y ∧ (∀ a ∈ fs, kJ (xU y) a ∈ ts) ∧ y.length = 20
 | [], m, y, hm, h => by
  simp only [tY, Option.some.injEq] at h
  subst h
  exact ⟨fun k hk hne => rfl, (fun a ha => by cases ha), hm⟩
 | a :: fs, m, y, hm, h => by
  simp only [tY] at h
  obtain ⟨b, hb, h⟩ := List.exists_of_findSome?_eq_some h
  cases hs : n4 a b m with
  | none => rw [hs] at h; cases h
  | some x =>
   rw [hs] at h
   obtain ⟨e1, e2, e3⟩ := P2 hm (hts b hb) hs
   obtain ⟨i1, i2, i3⟩ := G0 hts (m := x) e3 h
   refine ⟨I2 e1 i1, fun c hc => ?_, i3⟩
   rcases List.mem_cons.1 hc with rfl | hc
   ·have : kJ (xU y) c = b := by
     have h1 : c.1 = b.1 := congrArg (·.1) e2
     have h2 : c.2.map (app (xU x)) = b.2 := congrArg (·.2) e2
     unfold kJ
     rw [h1]
     have h3 : c.2.map (app (xU y)) = b.2 := by
      rw [← h2]
      apply List.map_congr_left
      intro t ht
      refine JK i1 ?_ rfl
      have : app (xU x) t ∈ b.2 := by rw [← h2]; exact List.mem_map.2 ⟨t, ht, rfl⟩
      exact hts b hb _ this
     rw [h3]
    rw [this]
    exact hb
   ·exact i2 c hc
theorem vR {ts : List aL} {h : Int → Int} : ∀ {fs : List aL} {m : List Int}, m.length = 20 → M8 m h → (∀ a ∈ fs, kJ h a ∈ ts) → (tY ts fs m).isSome = true
 | [], m, _, _, _ => rfl
 | a :: fs, m, hm, hs, ha => by
  simp only [tY]
  rw [List.findSome?_isSome_iff]
  refine ⟨kJ h a, ha a (by simp), ?_⟩
  obtain ⟨x, h1, h2, h3⟩ := G1 hm hs (a := a) rfl
  rw [h1]
  exact vR (m := x) h3 h2 fun c hc => ha c (by simp [hc])
theorem PR (h : Int → Int) : M8 jS h := fun k hk hne => by
 exfalso
 apply hne
 unfold jS
 rw [List.getD_eq_getElem?_getD, List.getElem?_replicate, if_pos hk]
 rfl
def PS (t : bJ) : Prop := (∀ y ∈ t.1, y ≠ unm) ∧ WZ t.2
theorem QD {f t : bJ} (ht : PS t) {y : List Int} (h : GZ f t = some y) : nQ (xU y) f t := by
 unfold GZ at h
 split at h
 ·cases h
 ·rename_i h1
  split at h
  ·rename_i h2
   have hl : f.1.length = t.1.length := by
    have : (f.1.length : Int) = t.1.length := by simpa using h1
    omega
   have he : jS.length = 20 := by simp [jS]
   obtain ⟨s1, s2⟩ := wU he hl ht.1 _ (Nat.le_refl _) h2
   obtain ⟨i1, i2, i3⟩ := G0 ht.2 (by rw [iF, he]) h
   refine ⟨BJ hl fun j hj => ?_, i2⟩
   have hjl : j < t.1.length := by omega
   exact JK i1 (by rw [fV hjl]; exact ht.1 _ (List.getElem_mem hjl)) (s2 j hj)
  ·cases h
theorem NU {f t : bJ} (ht : PS t) : (GZ f t).isSome = true ↔ ∃ h, nQ h f t := by
 constructor
 ·intro h
  obtain ⟨y, hy⟩ := Option.isSome_iff_exists.1 h
  exact ⟨_, QD ht hy⟩
 ·rintro ⟨h, h1, h2⟩
  have he : jS.length = 20 := by simp [jS]
  obtain ⟨u1, u2⟩ := pK he (PR h) h1 _ (Nat.le_refl _)
  unfold GZ
  have hl : f.1.length = t.1.length := by rw [← h1]; simp
  rw [if_neg (by simp [hl]), if_pos u1]
  exact vR (by rw [iF, he]) u2 h2
theorem RM (h k : Int → Int) (x : Int) : app k (app h x) = app (fun y => app k (h y)) x := by
 unfold app
 by_cases hv : b8 x = true
 ·simp only [if_pos hv]
 ·simp only [if_neg hv]
theorem X9 {h k : Int → Int} {f g t : bJ} (h1 : nQ h f g) (h2 : nQ k g t) : nQ (fun y => app k (h y)) f t := by
 refine ⟨?_, fun a ha => ?_⟩
 ·rw [← h2.1, ← h1.1, List.map_map]
  apply List.map_congr_left
  intro x _
  exact (RM h k x).symm
 ·have := h2.2 _ (h1.2 a ha)
  have e : kJ k (kJ h a) = kJ (fun y => app k (h y)) a := by
   unfold kJ
   simp only [List.map_map]
   congr 1
   apply List.map_congr_left
   intro x _
   exact RM h k x
  rwa [e] at this
theorem vU (x : Int) : app id x = x := by
 unfold app
 split <;> rfl
theorem tH {s : List Int} {q : bJ} (h : aH s q = true) : PS q := by
 simp only [aH, nW, d5, Bool.and_eq_true, List.all_eq_true] at h
 obtain ⟨_, ⟨h1, _⟩, _, h2, _⟩ := h
 have ht : ∀ t, aU t = true → t ≠ unm := fun t ht => by
  simp only [aU, inR, Bool.and_eq_true, decide_eq_true_eq] at ht
  unfold unm
  omega
 refine ⟨fun t hm => ht t (h1 t hm), fun a ha t hm => ht t ?_⟩
 have := h2 a ha
 simp only [fM, Bool.and_eq_true, List.all_eq_true] at this
 exact this.2 t hm
theorem pT (s : List Int) (a b : bJ) : gW s a b = true ↔ aH s a = true ∧ aH s b = true ∧ ∃ h, nQ h b a := by
 unfold gW
 simp only [Bool.and_eq_true]
 constructor
 ·rintro ⟨⟨hb, ha⟩, hm⟩
  exact ⟨ha, hb, (NU (tH ha)).1 hm⟩
 ·rintro ⟨ha, hb, hm⟩
  exact ⟨⟨hb, ha⟩, (NU (tH ha)).2 hm⟩
theorem k6 {s : List Int} {a b c : bJ} (h1 : gW s a b = true) (h2 : gW s b c = true) : gW s a c = true := by
 rw [pT] at h1 h2 ⊢
 obtain ⟨ha, hb, h, hh⟩ := h1
 obtain ⟨_, hc, k, hk⟩ := h2
 exact ⟨ha, hc, _, X9 hk hh⟩
theorem LZ (v h : Int → Int) (t : Int) : val (fun k => val v (h k)) t = val v (app h t) := by
 unfold app
 cases hv : b8 t with
 | true =>
  rw [if_pos rfl]
  show (if b8 t = true then val v (h t) else -1 - t) = _
  rw [if_pos hv]
 | false =>
  rw [if_neg (by simp)]
  unfold val
  simp only [hv, Bool.false_eq_true, if_false]
theorem TH {h v : Int → Int} {f t : bJ} {db : List aG} (hh : nQ h f t) (hs : Sat v db t.2) : Sat (fun k => val v (h k)) db f.2 ∧ f.1.map (val fun k => val v (h k)) = t.1.map (val v) := by
 obtain ⟨h1, h2⟩ := hh
 refine ⟨fun a ha => ?_, ?_⟩
 ·have := hs _ (h2 a ha)
  have e : PE (fun k => val v (h k)) a = PE v (kJ h a) := by
   refine Prod.ext rfl ?_
   show a.2.map _ = (a.2.map (app h)).map (val v)
   rw [List.map_map]
   exact List.map_congr_left fun t _ => LZ v h t
  rw [e]
  exact this
 ·rw [← h1, List.map_map]
  exact List.map_congr_left fun t _ => LZ v h t
theorem Q3 {x lo hi : Int} (h : inR x lo hi = true) : lo ≤ x ∧ x ≤ hi := by simpa [inR] using h
def fzv (x : Int) : Int := 80 + x
theorem a28 {t : Int} (h : aU t = true) : fz t = val fzv t := by
 have := qQ h
 unfold fz val fzv
 cases hv : b8 t with
 | true =>
  have h0 := (nD h).1 hv
  rw [if_neg (by omega), if_pos rfl]
 | false =>
  have h0 : ¬ 0 ≤ t := fun h0 => by rw [(nD h).2 h0] at hv; cases hv
  rw [if_pos (by omega)]
  simp
theorem qB {s : List Int} {q : bJ} (h : aH s q = true) : dE s = true ∧ q.1.all aU = true ∧ q.1.length ≤ 3 ∧ q.2.length ≤ 4 ∧ ∀ a ∈ q.2, iE s a.1 a.2.length = true ∧ a.2.all aU = true := by
 simp only [aH, nW, d5, Bool.and_eq_true, decide_eq_true_eq] at h
 obtain ⟨h1, ⟨h2, h3⟩, h4, h5, h6⟩ := h
 refine ⟨h1, h2, h3, by have := Q3 h4; omega, fun a ha => ?_⟩
 have := List.all_eq_true.1 h5 a ha
 simp only [fM, Bool.and_eq_true] at this
 exact this
theorem J3 {s : List Int} {r n : Int} (h : iE s r n = true) : n ≤ 3 := by
 simp only [iE, Bool.and_eq_true, decide_eq_true_eq] at h
 obtain ⟨h1, h2, h3⟩ := h
 have h4 := Q3 h2
 obtain ⟨k, rfl⟩ : ∃ k : Nat, r = k := ⟨r.toNat, by omega⟩
 have hk : k < s.length := by omega
 rw [Int.toNat_natCast] at h3
 have : s.getD k 0 = s[k] := by simp [List.getD_eq_getElem?_getD, hk]
 rw [this] at h3
 unfold dE at h1
 simp only [Bool.and_eq_true, List.all_eq_true] at h1
 have h5 := Q3 (h1.1 s[k] (List.getElem_mem hk))
 omega
theorem X6 {s : List Int} {q : bJ} (h : aH s q = true) : xK q = true := by
 obtain ⟨h1, h2, h3, h4, h5⟩ := qB h
 simp only [xK, d5, Bool.and_eq_true, decide_eq_true_eq, List.all_eq_true]
 refine ⟨⟨⟨List.all_eq_true.1 h2, h3⟩, by omega⟩, fun a ha => ⟨List.all_eq_true.1 (h5 a ha).2, ?_⟩⟩
 have := J3 (h5 a ha).1
 omega
theorem ZU (q : bJ) (a : aG) : a ∈ (q.2.map fzF).foldl gH [] ↔ ∃ c ∈ q.2, fzF c = a := by
 rw [(wJ (q.2.map fzF) [] List.Pairwise.nil).2 a]
 simp
end Go.Proofs.YtboolngaahifdaaGreatD
