/- Contracts and plain laws of this seat; no condition. -/
import Derived.Test.YtboolngaahifdaaGreatQ14
set_option linter.unusedVariables false
set_option linter.unusedSimpArgs false
set_option maxRecDepth 100000
namespace Go.Proofs.YtboolngaahifdaaGreatD
open Go Go.Proofs
def qSm (q : cP) : Prop := q.1.length ≤ 8 ∧ q.2.length ≤ 8 ∧ ∀ a ∈ q.2, a.2.length ≤ 8
theorem LS : ∀ {l : List oJ}, (∀ a ∈ l, a.2.length ≤ 8) → bS b9 l ≤ 8 * l.length
 | [], _ => by simp [bS]
 | a :: l, h => by
  have h1 := LS (l := l) fun x hx => h x (by simp [hx])
  have h2 : b9 a = a.2.length := rfl
  have h3 := h a (by simp)
  simp only [bS, List.length_cons]
  omega
theorem qI {q : cP} (h : qSm q) : aC q ≤ 1048576 := by
 obtain ⟨h1, h2, h3⟩ := h
 have := LS h3
 show q.1.length + (q.2.length + bS b9 q.2) ≤ _
 omega
theorem G7 : ∀ l : List oJ, (kW l).length = bS b9 l
 | [] => rfl
 | a :: l => by
  have h := G7 l
  have e : kW (a :: l) = a.2 ++ kW l := by simp [kW]
  rw [e, List.length_append, h]
  rfl
theorem DE {q : cP} (h : qSm q) : (hY q).length ≤ 64 := by
 have h1 := qW q (kW q.2) []
 have h2 := LS h.2.2
 have h3 := h.2.1
 rw [G7] at h1
 unfold hY
 simp only [List.length_nil] at h1
 omega
theorem kV (a : oJ) : ∀ c ∈ bY a, eU c = true := by
 intro c hc
 simp only [bY, List.mem_cons, List.not_mem_nil, or_false] at hc
 rcases hc with rfl | rfl <;> rfl
theorem lQ {α : Type} (f : α → List V) (xs : List α) (x : α) : aB f xs ++ f x = aB f (xs ++ [x]) := by
 rw [fH]
 simp [aB]
set_option maxHeartbeats 4000000 in
theorem uM (s : List Int) (c : Cur) (hs : sOk s) (h : cS c) : SpecG Tryz.prog 139 [.ptr 0 0, aV s] (gC c) fun r g2 => ∃ (q : cP) (c' : Cur), r = cC q ∧ q.1.length ≤ 3 ∧ q.2.length ≤ 3 ∧ 1 ≤ q.2.length ∧ (∀ a ∈ q.2, a.2.length ≤ 3) ∧ cS c' ∧ g2 = gC c' := by
 unfold gC
 refine cU mx aJ 1 Tryz.func139 rfl rfl (by decide) ?_
 conv => whnf
 refine .inr (.inl ?_)
 conv => whnf
 refine ⟨bD c, ?_⟩
 conv => whnf
 refine ⟨_, _, _, bV c 3 h (by omega), ?_⟩
 conv => whnf
 refine .inl ?_
 conv => whnf
 have hb := fC c (n := 3) (by omega) (by omega)
 have h0 := aQ h 3
 generalize (aI c 3).2 = c0 at h0 ⊢
 obtain ⟨n0, hn0⟩ : ∃ n : Nat, (aI c 3).1 = n := ⟨(aI c 3).1.toNat, by omega⟩
 rw [hn0] at hb ⊢
 have hw : IntKind.i64.wrap (1 + (n0 : Int)) = ((n0 + 1 : Nat) : Int) := by rw [a8 (by omega) (by omega)]; omega
 rw [hw]
 refine ⟨[(0,0),(3,0),(4,0),(5,101),(5,202),(6,0)], fun m st => ∃ (n : Nat) (e : Int) (body : List oJ) (c1 : Cur) (k : Nat) (cc r : List V), e = n ∧ m = n ∧ body.length + n = n0 + 1 ∧ cS c1 ∧ k = body.length ∧ (∀ a ∈ body, a.2.length ≤ 3) ∧ cc = s9 c1 ∧ r = aB bY body ∧
  st = ⟨61, [(0, .ptr 0 0), (3, .ptr 1 0), (4, .ptr 2 0), (5, .ptr 3 0), (5, .ptr 3 0), (6, ci e)], [some ⟨false, cc⟩, some ⟨true, [aW s]⟩, some ⟨true, [cG, cG]⟩, some ⟨true, [.own 4 1 0 0 0 none, .own 5 2 0 k k none]⟩, some ⟨false, []⟩, some ⟨false, r⟩]⟩, n0 + 1, ⟨n0 + 1, (n0 + 1 : Nat), [], c0, 0, _, _, rfl, rfl, by simp, h0, rfl, (fun a ha => by cases ha), rfl, rfl, by kernel_rfl⟩, ?_⟩
 rintro m st ⟨n, _, body, c1, k, _, _, rfl, hm, hbn, hc1, hk, hbd, rfl, rfl, rfl⟩
 conv => whnf
 split <;> rename_i h1
 all_goals simp only [decide_eq_true_eq, decide_eq_false_iff_not] at h1
 ·obtain ⟨n', rfl⟩ : ∃ n', n = n' + 1 := ⟨n - 1, by omega⟩
  conv => whnf
  refine .inr (.inr ⟨[0], [], ?_⟩)
  conv => whnf
  refine ⟨_, NJ s c1 hs hc1, fun r g2 hP => ?_⟩
  obtain ⟨a, c2, rfl, ha, h2, rfl⟩ := hP
  refine .inr ?_
  conv => whnf
  refine ⟨by rw [a6 a7], ?_⟩
  conv => whnf
  refine ⟨_, rfl, .inr ⟨kV a, ?_⟩⟩
  conv => whnf
  refine ⟨by omega, by rw [a6 aK, hk], _, lQ bY _ a, ?_⟩
  conv => whnf
  refine ⟨m - 1, by omega, n', _, body ++ [a], c2, k + 1, _, _, nP n', by omega, by simp; omega, h2, by simp [hk], fun x hx => ?_, rfl, rfl, by kernel_rfl⟩
  rcases List.mem_append.1 hx with hx | hx
  ·exact hbd x hx
  ·rw [List.mem_singleton.1 hx]; exact ha
 ·have hn : n = 0 := by omega
  subst hn
  subst hk
  have hq : qSm ([], body) := ⟨by simp, by show body.length ≤ 8; omega, fun a ha => by have := hbd a ha; omega⟩
  conv => whnf
  refine .inl ?_
  conv => whnf
  refine ⟨_, _, aN rfl, rfl, ?_⟩
  conv => whnf
  refine ⟨_, _, aN (by rw [a6 aK]), bF jF _, ?_⟩
  conv => whnf
  refine ⟨_, vF ([], body) (qI hq), .inr (dG (f := ciL) (fun x => ⟨trivial, trivial⟩) _), .inl ?_⟩
  rw [fW]
  have hvl := DE hq
  generalize hY ([], body) = v at hvl ⊢
  conv => whnf
  refine .inr (.inl ?_)
  conv => whnf
  refine ⟨bD c1, ?_⟩
  conv => whnf
  refine ⟨_, _, _, bV c1 3 hc1 (by omega), ?_⟩
  conv => whnf
  refine .inl ?_
  conv => whnf
  have hb2 := fC c1 (n := 3) (by omega) (by omega)
  have h3 := aQ hc1 3
  generalize (aI c1 3).2 = c2 at h3 ⊢
  obtain ⟨n2, hn2⟩ : ∃ n : Nat, (aI c1 3).1 = n := ⟨(aI c1 3).1.toNat, by omega⟩
  rw [hn2] at hb2 ⊢
  refine ⟨[(0,0),(4,0),(5,0),(8,0),(9,0)], fun m st => ∃ (n : Nat) (e : Int) (hd : List Int) (c1 : Cur) (k : Nat) (cc r : List V), e = n ∧ m = n ∧ hd.length + n = n2 ∧ cS c1 ∧ k = hd.length ∧ cc = s9 c1 ∧ r = aB ciL hd ∧
   st = ⟨61, [(0, .ptr 0 0), (4, .ptr 1 0), (5, .ptr 2 0), (8, aW v), (9, ci e)], [some ⟨false, cc⟩, some ⟨true, [cG, cG]⟩, some ⟨true, [.own 3 1 0 k k none, .own 4 2 0 body.length body.length none]⟩, some ⟨false, r⟩, some ⟨false, aB bY body⟩]⟩, n2, ⟨n2, n2, [], c2, 0, _, _, rfl, rfl, by simp, h3, rfl, rfl, rfl, by kernel_rfl⟩, ?_⟩
  rintro m2 st ⟨n, _, hd, c3, k, _, _, rfl, hm2, hhn, hc3, hk, rfl, rfl, rfl⟩
  conv => whnf
  split <;> rename_i h4
  all_goals simp only [decide_eq_true_eq, decide_eq_false_iff_not] at h4
  ·obtain ⟨n', rfl⟩ : ∃ n', n = n' + 1 := ⟨n - 1, by omega⟩
   conv => whnf
   refine .inr (.inl ?_)
   conv => whnf
   refine ⟨bD c3, ?_⟩
   conv => whnf
   refine ⟨_, _, _, bV c3 3 hc3 (by omega), ?_⟩
   conv => whnf
   refine .inl ?_
   have h5 := aQ hc3 3
   generalize (aI c3 3).2 = c4 at h5 ⊢
   generalize (aI c3 3).1 = t0
   generalize hvb : decide ((v.length : Int) > 0) = vb
   conv => whnf
   rw [hvb]
   cases vb with
   | false =>
    conv => whnf
    refine ⟨_, rfl, .inl ⟨fU rfl, ?_⟩⟩
    conv => whnf
    refine ⟨by omega, by rw [a6 a7, hk], _, dC _ _, ?_⟩
    conv => whnf
    exact ⟨m2 - 1, by omega, n', IntKind.i64.wrap (((n' + 1 : Nat) : Int) - 1), hd ++ [IntKind.i64.wrap (-1 - t0)], c4, k + 1, s9 c4, aB ciL (hd ++ [IntKind.i64.wrap (-1 - t0)]), nP n', by omega, by simp; omega, h5, by simp [hk], rfl, rfl, by kernel_rfl⟩
   | true =>
    have hv0 : 0 < v.length := by have := of_decide_eq_true hvb; omega
    conv => whnf
    refine .inr (.inl ?_)
    conv => whnf
    refine ⟨bD c4, ?_⟩
    conv => whnf
    refine ⟨_, _, _, dT c4 8 h5 (by omega), ?_⟩
    conv => whnf
    refine .inl ?_
    conv => whnf
    have h6 := aQ h5 8
    generalize (aI c4 8).2 = c5 at h6 ⊢
    generalize ((aI c4 8).1 == 0) = b6
    cases b6 with
    | true =>
     conv => whnf
     refine ⟨_, rfl, .inl ⟨fU rfl, ?_⟩⟩
     conv => whnf
     refine ⟨by omega, by rw [a6 a7, hk], _, dC _ _, ?_⟩
     conv => whnf
     exact ⟨m2 - 1, by omega, n', IntKind.i64.wrap (((n' + 1 : Nat) : Int) - 1), hd ++ [IntKind.i64.wrap (-1 - t0)], c5, k + 1, s9 c5, aB ciL (hd ++ [IntKind.i64.wrap (-1 - t0)]), nP n', by omega, by simp; omega, h6, by simp [hk], rfl, rfl, by kernel_rfl⟩
    | false =>
     conv => whnf
     refine .inr (.inl ?_)
     conv => whnf
     refine ⟨bD c5, ?_⟩
     conv => whnf
     refine ⟨_, _, _, bV c5 v.length h6 (by omega), ?_⟩
     conv => whnf
     refine .inl ?_
     conv => whnf
     have hb7 := fC c5 (n := v.length) (by omega) (by omega)
     have h7 := aQ h6 v.length
     generalize (aI c5 v.length).2 = c6 at h7 ⊢
     obtain ⟨p, hp⟩ : ∃ p : Nat, (aI c5 v.length).1 = p := ⟨(aI c5 v.length).1.toNat, by omega⟩
     rw [hp] at hb7 ⊢
     have hpl : p < v.length := by omega
     refine ⟨by omega, a6 a7 _, ?_⟩
     conv => whnf
     refine ⟨_, aD (k := p) a7 hpl, ?_⟩
     conv => whnf
     refine ⟨_, rfl, .inl ⟨fU rfl, ?_⟩⟩
     conv => whnf
     refine ⟨by omega, by rw [a6 a7, hk], _, dC _ _, ?_⟩
     conv => whnf
     exact ⟨m2 - 1, by omega, n', IntKind.i64.wrap (((n' + 1 : Nat) : Int) - 1), hd ++ [v[p]], c6, k + 1, s9 c6, aB ciL (hd ++ [v[p]]), nP n', by omega, by simp; omega, h7, by simp [hk], rfl, rfl, by kernel_rfl⟩
  ·subst hk
   conv => whnf
   refine ⟨[], ?_⟩
   conv => whnf
   refine ⟨by rw [a6 a7], by rw [a6 aK], ?_⟩
   exact ⟨(hd, body), c3, rfl, by show hd.length ≤ 3; omega, by show body.length ≤ 3; omega, by show 1 ≤ body.length; omega, hbd, hc3, rfl⟩
def SV : List Int := [0, 1, 2, 3, 99, 100, -1]
def smF (n : Nat) (f : aG) : Prop := f.2.length ≤ n ∧ ∀ x ∈ f.2, x ∈ SV
def R3 (n m : Nat) (db : List aG) : Prop := db.length ≤ n ∧ ∀ f ∈ db, smF m f
theorem U3 (c : Cur) : (aI c 4).1 ∈ SV := by
 have hb := fC c (n := 4) (by omega) (by omega)
 have : (aI c 4).1 = 0 ∨ (aI c 4).1 = 1 ∨ (aI c 4).1 = 2 ∨ (aI c 4).1 = 3 := by omega
 rcases this with h | h | h | h <;> rw [h] <;> decide
theorem MD : ∀ (n : Nat) (a : List Int) (c : Cur), (∀ x ∈ a, x ∈ SV) → ∀ x ∈ (wZ n a c).1, x ∈ SV
 | 0, a, c, h => h
 | n + 1, a, c, h => MD n _ _ fun x hx => by
  rcases List.mem_append.1 hx with hx | hx
  ·exact h x hx
  ·rw [List.mem_singleton.1 hx]; exact U3 c
theorem MT {s : List Int} (hs : sOk s) {c : Cur} (hc : cS c) : smF 3 (l7 s c).1 ∧ 1 ≤ (l7 s c).1.2.length := by
 obtain ⟨k, h1, h2⟩ := uB hs c
 have h3 := LN hs h2
 refine ⟨⟨(sX hs hc).2, ?_⟩, ?_⟩
 ·exact MD _ _ _ fun x hx => by cases hx
 ·obtain ⟨g1, g2⟩ := D7 (s.getD k 0).toNat [] (aI c s.length).2 (aQ hc _)
  unfold l7
  simp only [h1, Int.toNat_natCast]
  rw [g2, jK h2]
  simp only [List.length_nil]
  omega
theorem S4 {s : List Int} (hs : sOk s) : ∀ (n : Nat) (db : List aG) (c : Cur), cS c → (∀ f ∈ db, smF 3 f) → ∀ f ∈ (GU s n db c).1, smF 3 f
 | 0, db, c, _, h => h
 | n + 1, db, c, hc, h => S4 hs n _ _ (sX hs hc).1 fun f hf => by
  rcases wD _ f db false hf with rfl | hf
  ·exact (MT hs hc).1
  ·exact h f hf
theorem WR {s : List Int} (hs : sOk s) {c : Cur} (hc : cS c) : cS (dbP s c).2 ∧ R3 8 3 (dbP s c).1 := by
 obtain ⟨h1, h2, h3⟩ := a1Z hs hc
 exact ⟨h1, h3, S4 hs _ _ _ (aQ hc 9) fun f hf => by cases hf⟩
theorem IZ {n m : Nat} {db : List aG} (h : R3 n m db) (hn : n ≤ 100) (hm : m ≤ 100) : d6 db ≤ 1048576 := by
 have h1 := v8 eF m db fun x hx => (h.2 x hx).1
 have h2 := h.1
 have h3 : m * db.length ≤ 100 * 100 := Nat.mul_le_mul hm (by omega)
 show db.length + bS eF db ≤ _
 omega
theorem a0X (xs : List Int) (t : Int) (h : 0 < xs.length) : e7 (aB ciL xs) (0 + 0 * 1) [ci t] = aB ciL (xs.set 0 t) := (congrArg (fun o => e7 (aB ciL xs) o (ciL t)) (Nat.zero_add _)).trans (iO a7 (by omega) h _)
set_option maxHeartbeats 4000000 in
theorem NO (s : List Int) (c : Cur) (hs : sOk s) (h : cS c) : SpecG Tryz.prog 142 [.ptr 0 0, aV s] (gC c) fun r g2 => ∃ (f : aG) (c' : Cur), r = BX f ∧ smF 4 f ∧ cS c' ∧ g2 = gC c' := by
 unfold gC
 refine cU mx aJ 1 Tryz.func142 rfl rfl (by decide) ?_
 conv => whnf
 refine ⟨_, NM s hs, .inl rfl, .inl ?_⟩
 rw [dX]
 conv => whnf
 refine .inr (.inl ?_)
 conv => whnf
 refine ⟨bD c, ?_⟩
 conv => whnf
 refine ⟨_, _, _, BB s c hs h, ?_⟩
 conv => whnf
 refine .inr ?_
 conv => whnf
 obtain ⟨⟨f1, f2⟩, f3⟩ := MT hs h
 have g1 := (sX hs h).1
 generalize (l7 s c).2 = c1 at g1 ⊢
 generalize (l7 s c).1 = F at f1 f2 f3 ⊢
 refine .inr (.inl ?_)
 conv => whnf
 refine ⟨bD c1, ?_⟩
 conv => whnf
 refine ⟨_, _, _, bV c1 10 g1 (by omega), ?_⟩
 conv => whnf
 refine .inl ?_
 conv => whnf
 have g2 := aQ g1 10
 generalize (aI c1 10).2 = c2 at g2 ⊢
 generalize (aI c1 10).1 = v
 have pick : ∀ (xs : List Int) (c : Cur), (∀ x ∈ xs, x ∈ SV) → 1 ≤ xs.length → xs.length ≤ 200 → xs.getD (aI c xs.length).1.toNat 0 ∈ SV := fun xs c hx h1 h2 => by
  have hb := fC c (n := xs.length) (by omega) (by omega)
  have hk : (aI c xs.length).1.toNat < xs.length := by omega
  rw [N5 hk]
  exact hx _ (List.getElem_mem hk)
 generalize (v == 0) = b0
 cases b0 with
 | true =>
  conv => whnf
  refine ⟨[1001, 0, 1, 2, 3, 4, 5, 6, 7, 8, 1000, 1000], by kernel_rfl, ?_⟩
  conv => whnf
  refine .inr (.inl ?_)
  conv => whnf
  refine ⟨bD c2, ?_⟩
  conv => whnf
  refine ⟨rfl, ?_⟩
  conv => whnf
  refine ⟨fun k => eC (by kernel_rfl) k, rfl, _, _, _, i5 c2 [0, 99, 100, -1] g2 (by decide) (by decide), ?_⟩
  conv => whnf
  refine .inl ?_
  have hp := pick [0, 99, 100, -1] c2 (by decide) (by decide) (by decide)
  have g3 := aQ g2 4
  have e4 : (([0, 99, 100, -1] : List Int).length : Int) = 4 := rfl
  rw [e4] at hp ⊢
  generalize (aI c2 4).2 = c3 at g3 ⊢
  generalize ([0, 99, 100, -1] : List Int).getD (aI c2 4).1.toNat 0 = t at hp ⊢
  conv => whnf
  refine ⟨_, rfl, .inl ⟨fU rfl, ?_⟩⟩
  conv => whnf
  refine ⟨by omega, by rw [a6 a7], _, dC _ _, ?_⟩
  conv => whnf
  refine ⟨[], ?_⟩
  conv => whnf
  refine ⟨by rw [a6 a7, List.length_append]; rfl, ?_⟩
  refine ⟨(F.1, F.2 ++ [t]), c3, ?_, ⟨by simp only [List.length_append, List.length_cons, List.length_nil]; omega, fun x hx => ?_⟩, g3, rfl⟩
  ·simp only [BX, cF, bE, List.length_append]
   rfl
  ·rcases List.mem_append.1 hx with hx | hx
   ·exact f2 x hx
   ·rw [List.mem_singleton.1 hx]; exact hp
 | false =>
  conv => whnf
  generalize (v == 1) = b1
  cases b1 with
  | true =>
   conv => whnf
   refine .inr (.inl ?_)
   conv => whnf
   refine ⟨bD c2, ?_⟩
   conv => whnf
   refine ⟨rfl, ?_⟩
   conv => whnf
   refine ⟨_, _, _, i5 c2 [-1, 3, 4] g2 (by decide) (by decide), ?_⟩
   conv => whnf
   refine .inl ?_
   have g3 := aQ g2 3
   have e4 : (([-1, 3, 4] : List Int).length : Int) = 3 := rfl
   rw [e4]
   generalize (aI c2 3).2 = c3 at g3 ⊢
   generalize ([-1, 3, 4] : List Int).getD (aI c2 3).1.toNat 0 = t
   conv => whnf
   refine ⟨[], ?_⟩
   conv => whnf
   refine ⟨by rw [a6 a7], ?_⟩
   exact ⟨(t, F.2), c3, rfl, ⟨by show F.2.length ≤ 4; omega, f2⟩, g3, rfl⟩
  | false =>
   conv => whnf
   generalize (v == 2) = b2
   cases b2 with
   | true =>
    conv => whnf
    refine ⟨[1001, 0, 1, 2, 3, 4, 5, 6, 1000, 1000], by kernel_rfl, ?_⟩
    conv => whnf
    refine .inr (.inl ?_)
    conv => whnf
    refine ⟨bD c2, ?_⟩
    conv => whnf
    refine ⟨rfl, ?_⟩
    conv => whnf
    refine ⟨fun k => eC (by kernel_rfl) k, rfl, _, _, _, i5 c2 [99, 100, -1] g2 (by decide) (by decide), ?_⟩
    conv => whnf
    refine .inl ?_
    have hp := pick [99, 100, -1] c2 (by decide) (by decide) (by decide)
    have g3 := aQ g2 3
    have e4 : (([99, 100, -1] : List Int).length : Int) = 3 := rfl
    rw [e4] at hp ⊢
    generalize (aI c2 3).2 = c3 at g3 ⊢
    generalize ([99, 100, -1] : List Int).getD (aI c2 3).1.toNat 0 = t at hp ⊢
    conv => whnf
    refine ⟨by omega, ?_⟩
    conv => whnf
    refine ⟨_, b7 (k := 0) (d := 0) (m := 1) (xs := F.2) a7 (Nat.zero_add _) (by omega) (by omega) rfl, _, a0X F.2 t (by omega), ?_⟩
    conv => whnf
    refine ⟨[], ?_⟩
    conv => whnf
    refine ⟨by rw [a6 a7, List.length_set], ?_⟩
    refine ⟨(F.1, F.2.set 0 t), c3, ?_, ⟨by simp only [List.length_set]; omega, fun x hx => ?_⟩, g3, rfl⟩
    ·simp only [BX, cF, bE, List.length_set]
     rfl
    ·rcases List.mem_or_eq_of_mem_set hx with hx | hx
     ·exact f2 x hx
     ·rw [hx]; exact hp
   | false =>
    conv => whnf
    refine ⟨[], ?_⟩
    conv => whnf
    refine ⟨by rw [a6 a7], ?_⟩
    exact ⟨F, c2, rfl, ⟨by omega, f2⟩, g2, rfl⟩
theorem LT (f : aG) : ∀ c ∈ cF f, eU c = true := by
 intro c hc
 simp only [cF, List.mem_cons, List.not_mem_nil, or_false] at hc
 rcases hc with rfl | rfl <;> rfl
set_option maxHeartbeats 4000000 in
theorem XD (c : Cur) (h : cS c) : SpecG Tryz.prog 63 [.ptr 0 0] (gC c) fun r g2 => ∃ (s : List Int) (q : cP) (db : List aG) (c' : Cur), r = .tup [aV s, cC q, fP db] ∧ s.length ≤ 8 ∧ qSm q ∧ q.2.length ≤ 3 ∧ R3 9 4 db ∧ cS c' ∧ g2 = gC c' := by
 unfold gC
 refine cU mx aJ 1 Tryz.func63 rfl rfl (by decide) ?_
 conv => whnf
 refine .inr (.inl ?_)
 conv => whnf
 refine ⟨bD c, ?_⟩
 conv => whnf
 refine ⟨_, _, _, lV c h, ?_⟩
 conv => whnf
 refine .inl ?_
 rw [lR]
 conv => whnf
 obtain ⟨h1, s1, s2, s3⟩ := CV h
 have hs : sOk (qM c).1 := ⟨s1, s2, by omega⟩
 generalize (qM c).2 = c1 at h1 ⊢
 generalize (qM c).1 = s at hs s3 ⊢
 refine .inr (.inr ⟨[0], [], ?_⟩)
 conv => whnf
 refine ⟨_, uM s c1 hs h1, fun r g2 hP => ?_⟩
 obtain ⟨q, c2, rfl, q1, q2, _, q3, h2, rfl⟩ := hP
 refine .inr ?_
 conv => whnf
 refine .inr (.inl ?_)
 conv => whnf
 refine ⟨bD c2, ?_⟩
 conv => whnf
 refine ⟨_, _, _, I8 s c2 hs h2, ?_⟩
 conv => whnf
 refine .inr ?_
 conv => whnf
 obtain ⟨h3, d1, d2⟩ := WR hs h2
 generalize (dbP s c2).2 = c3 at h3 ⊢
 generalize (dbP s c2).1 = db at d1 d2 ⊢
 refine .inr (.inl ?_)
 conv => whnf
 refine ⟨bD c3, ?_⟩
 conv => whnf
 refine ⟨_, _, _, bV c3 14 h3 (by omega), ?_⟩
 conv => whnf
 refine .inl ?_
 conv => whnf
 have h4 := aQ h3 14
 generalize (aI c3 14).2 = c4 at h4 ⊢
 generalize (aI c3 14).1 = v
 have hqs : qSm q := ⟨by omega, by omega, fun a ha => by have := q3 a ha; omega⟩
 have hd : R3 9 4 db := ⟨by omega, fun f hf => ⟨by have := (d2 f hf).1; omega, (d2 f hf).2⟩⟩
 generalize (v == 0) = b0
 cases b0 with
 | true =>
  conv => whnf
  refine ⟨[1001, 0, 1, 2, 3, 4, 5, 6, 7, 1000, 1000], by kernel_rfl, ?_⟩
  conv => whnf
  refine .inr (.inr ⟨[0], fun k => eC (by kernel_rfl) k, rfl, ?_⟩)
  conv => whnf
  refine ⟨_, KB c4 h4, fun r g2 hP => ?_⟩
  obtain ⟨t, c5, rfl, h5, rfl⟩ := hP
  refine .inl ?_
  conv => whnf
  refine ⟨_, rfl, .inl ⟨fU rfl, ?_⟩⟩
  conv => whnf
  refine ⟨by omega, by rw [a6 a7], _, dC _ _, ?_⟩
  conv => whnf
  refine ⟨[2001, 0, 1, 2, 3, 4, 5], by kernel_rfl, ?_⟩
  conv => whnf
  refine ⟨rfl, ?_⟩
  conv => whnf
  refine ⟨[], ?_⟩
  conv => whnf
  refine ⟨by rw [a6 a7, List.length_append]; rfl, by rw [a6 aK], by rw [a6 aT], ?_⟩
  refine ⟨s, (q.1 ++ [t], q.2), db, c5, ?_, by omega, ⟨by simp; omega, hqs.2.1, hqs.2.2⟩, q2, hd, h5, rfl⟩
  show _ = V.tup [_, .agg [.tr 1 (q.1 ++ [t]).length _, _], _]
  rw [List.length_append]
  rfl
 | false =>
  conv => whnf
  generalize (v == 1) = b1
  cases b1 with
  | true =>
   conv => whnf
   refine .inr (.inr ⟨[0], [], ?_⟩)
   conv => whnf
   refine ⟨_, NO s c4 hs h4, fun r g2 hP => ?_⟩
   obtain ⟨f, c5, rfl, hf, h5, rfl⟩ := hP
   refine .inr ?_
   conv => whnf
   refine ⟨by rw [a6 a7], ?_⟩
   conv => whnf
   refine ⟨_, rfl, .inr ⟨LT f, ?_⟩⟩
   conv => whnf
   refine ⟨by omega, by rw [a6 aT], _, lQ cF _ f, ?_⟩
   conv => whnf
   refine ⟨[2001, 0, 1, 2, 3, 4, 5], by kernel_rfl, ?_⟩
   conv => whnf
   refine ⟨rfl, ?_⟩
   conv => whnf
   refine ⟨[], ?_⟩
   conv => whnf
   refine ⟨by rw [a6 a7], by rw [a6 aK], by rw [a6 aT, List.length_append]; rfl, ?_⟩
   refine ⟨s, q, db ++ [f], c5, ?_, by omega, hqs, q2, ⟨by simp; omega, fun x hx => ?_⟩, h5, rfl⟩
   ·show _ = V.tup [_, _, .tr 2 (db ++ [f]).length _]
    rw [List.length_append]
    rfl
   ·rcases List.mem_append.1 hx with hx | hx
    ·exact hd.2 x hx
    ·rw [List.mem_singleton.1 hx]; exact hf
  | false =>
   conv => whnf
   generalize (v == 2) = b2
   cases b2 with
   | true =>
    conv => whnf
    refine .inr (.inr ⟨[0], [], ?_⟩)
    conv => whnf
    refine ⟨_, KC c4 h4, fun r g2 hP => ?_⟩
    obtain ⟨s', c5, rfl, hs', h5, rfl⟩ := hP
    refine .inl ?_
    rw [lR]
    conv => whnf
    refine ⟨[2001, 0, 1, 2, 3, 4, 5], by kernel_rfl, ?_⟩
    conv => whnf
    refine ⟨rfl, ?_⟩
    conv => whnf
    refine ⟨[], ?_⟩
    conv => whnf
    refine ⟨by rw [a6 a7], by rw [a6 aK], by rw [a6 aT], ?_⟩
    exact ⟨s', q, db, c5, rfl, hs', hqs, q2, hd, h5, rfl⟩
   | false =>
    conv => whnf
    refine ⟨[2001, 0, 1, 2, 3, 4, 5], by kernel_rfl, ?_⟩
    conv => whnf
    refine ⟨rfl, ?_⟩
    conv => whnf
    refine ⟨[], ?_⟩
    conv => whnf
    refine ⟨by rw [a6 a7], by rw [a6 aK], by rw [a6 aT], ?_⟩
    exact ⟨s, q, db, c4, rfl, by omega, hqs, q2, hd, h4, rfl⟩
set_option maxHeartbeats 1000000 in
theorem GV (xs : List Int) (h : xs.length ≤ 1099511627776) : SpecG Tryz.prog 55 [lC xs] [] fun r g2 => ∃ (s : List Int) (q : cP) (db : List aG), r = .tup [aV s, cC q, fP db] ∧ s.length ≤ 8 ∧ qSm q ∧ q.2.length ≤ 3 ∧ R3 9 4 db ∧ g2 = [] := by
 refine cU mx aJ 0 Tryz.func55 rfl rfl (by decide) ?_
 conv => whnf
 refine ⟨_, w8 xs h, .inl rfl, .inr ?_⟩
 conv => whnf
 have g0 := EB h
 generalize wF xs = c0 at g0 ⊢
 refine .inr (.inr ⟨[2], [], ?_⟩)
 conv => whnf
 refine ⟨_, XD c0 g0, fun r g2 hP => ?_⟩
 obtain ⟨s, q, db, c1, rfl, hs, hq, hq2, hd, g1, rfl⟩ := hP
 refine .inr ?_
 conv => whnf
 refine ⟨[2000, 0, 1, 2, 3, 4, 5], by kernel_rfl, ?_⟩
 conv => whnf
 refine ⟨rfl, ?_⟩
 conv => whnf
 refine ⟨[], ?_⟩
 conv => whnf
 refine ⟨by rw [a6 a7], by rw [a6 aK], by rw [a6 aT], ?_⟩
 exact ⟨s, q, db, rfl, hs, hq, hq2, hd, rfl⟩
end Go.Proofs.YtboolngaahifdaaGreatD
