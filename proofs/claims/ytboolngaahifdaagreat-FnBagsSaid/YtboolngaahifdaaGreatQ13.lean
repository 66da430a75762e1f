/- Contracts and plain laws of this seat; no condition. -/
import Derived.Test.YtboolngaahifdaaGreatQ11
import Derived.Test.YtboolngaahifdaaGreatQ12
set_option linter.unusedVariables false
set_option linter.unusedSimpArgs false
set_option maxRecDepth 100000
namespace Go.Proofs.YtboolngaahifdaaGreatD
open Go Go.Proofs
theorem nP (n : Nat) (h : n ≤ 1000000 := by omega) : IntKind.i64.wrap (((n + 1 : Nat) : Int) - 1) = (n : Int) := by
 rw [a8 (by omega) (by omega)]; omega
def yK : Nat → List Int → Cur → List Int × Cur
 | 0, a, c => (a, c)
 | n + 1, a, c => yK n (a ++ [IntKind.i64.wrap (1 + (aI c 3).1)]) (aI c 3).2
def qM (c : Cur) : List Int × Cur := yK (aI c 3).1.toNat [2] (aI c 3).2
theorem OV : ∀ (n : Nat) (a : List Int) (c : Cur), cS c → (∀ x ∈ a, 1 ≤ x ∧ x ≤ 3) → cS (yK n a c).2 ∧ (∀ x ∈ (yK n a c).1, 1 ≤ x ∧ x ≤ 3) ∧ (yK n a c).1.length = a.length + n
 | 0, a, c, hc, ha => ⟨hc, ha, rfl⟩
 | n + 1, a, c, hc, ha => by
  have hb := fC c (n := 3) (by omega) (by omega)
  have hw : IntKind.i64.wrap (1 + (aI c 3).1) = 1 + (aI c 3).1 := a8 (by omega) (by omega)
  obtain ⟨h1, h2, h3⟩ := OV n (a ++ [IntKind.i64.wrap (1 + (aI c 3).1)]) (aI c 3).2 (aQ hc 3) (fun x hx => by
   rcases List.mem_append.1 hx with hx | hx
   ·exact ha x hx
   ·have : x = IntKind.i64.wrap (1 + (aI c 3).1) := by simpa using hx
    rw [this, hw]; omega)
  refine ⟨h1, h2, ?_⟩
  simp only [yK, h3, List.length_append, List.length_cons, List.length_nil]
  omega
theorem CV {c : Cur} (hc : cS c) : cS (qM c).2 ∧ (∀ x ∈ (qM c).1, 1 ≤ x ∧ x ≤ 3) ∧ 1 ≤ (qM c).1.length ∧ (qM c).1.length ≤ 3 := by
 have hb := fC c (n := 3) (by omega) (by omega)
 obtain ⟨h1, h2, h3⟩ := OV (aI c 3).1.toNat [2] (aI c 3).2 (aQ hc 3) (fun x hx => by
  have : x = 2 := by simpa using hx
  omega)
 refine ⟨h1, h2, ?_, ?_⟩
 ·unfold qM; rw [h3]; simp
 ·unfold qM; rw [h3]; simp; omega
set_option maxHeartbeats 2000000 in
theorem lV (c : Cur) (h : cS c) : rS Tryz.prog 138 [u6 c] (CZ (qM c).1) [u6 (qM c).2] := by
 refine lY mx aJ 1 Tryz.func138 rfl rfl (by omega) ?_
 conv => whnf
 refine .inr (.inl ?_)
 conv => whnf
 refine ⟨bD c, ?_⟩
 conv => whnf
 refine ⟨_, _, _, bV c 3 h (by omega), ?_⟩
 conv => whnf
 refine .inl ?_
 conv => whnf
 have hb := fC c (n := 3) (by omega) (by omega)
 unfold qM
 have hc := aQ h 3
 generalize (aI c 3).2 = c0 at hc ⊢
 obtain ⟨n0, hn0⟩ : ∃ n : Nat, (aI c 3).1 = n := ⟨(aI c 3).1.toNat, by omega⟩
 rw [hn0] at hb ⊢
 rw [Int.toNat_natCast]
 refine ⟨[(0,0),(2,0),(3,0),(4,0)], fun m st => ∃ (n : Nat) (e : Int) (a : List Int) (c1 : Cur) (k : Nat) (cc r : List V), e = n ∧ m = n ∧ n ≤ 2 ∧ cS c1 ∧ yK n0 [2] c0 = yK n a c1 ∧ k = a.length ∧ a.length + n ≤ 3 ∧ cc = s9 c1 ∧ r = aB ciL a ∧
  st = ⟨24, [(0, .ptr 0 0), (2, .ptr 1 0), (3, .ptr 2 0), (4, ci e)], [some ⟨false, cc⟩, some ⟨true, [cG]⟩, some ⟨true, [.own 3 1 0 k k none]⟩, some ⟨false, r⟩]⟩, n0, ⟨n0, n0, [2], c0, 1, _, _, rfl, rfl, by omega, hc, rfl, rfl, by simp; omega, rfl, rfl, by kernel_rfl⟩, ?_⟩
 rintro m st ⟨n, _, a, c1, k, _, _, rfl, hm, hn2, hc1, hgo, hk, hal, rfl, rfl, rfl⟩
 conv => whnf
 split <;> rename_i h1
 all_goals simp only [decide_eq_true_eq, decide_eq_false_iff_not] at h1
 ·obtain ⟨n', rfl⟩ : ∃ n', n = n' + 1 := ⟨n - 1, by omega⟩
  conv => whnf
  refine .inr (.inl ?_)
  conv => whnf
  refine ⟨bD c1, ?_⟩
  conv => whnf
  refine ⟨_, _, _, bV c1 3 hc1 (by omega), ?_⟩
  conv => whnf
  refine .inl ?_
  conv => whnf
  refine ⟨_, rfl, .inl ⟨fU rfl, ?_⟩⟩
  conv => whnf
  refine ⟨by omega, by rw [a6 a7, hk], _, dC _ _, ?_⟩
  conv => whnf
  refine ⟨m - 1, by omega, n', _, a ++ [IntKind.i64.wrap (1 + (aI c1 3).1)], (aI c1 3).2, k + 1, _, _, nP n', by omega, by omega, aQ hc1 3, hgo, by simp [hk], by simp; omega, rfl, rfl, by kernel_rfl⟩
 ·have h0 : n = 0 := by omega
  subst h0
  conv => whnf
  simp only [yK] at hgo
  rw [hgo]
  refine ⟨by rw [a6 a7, hk], ?_⟩
  conv => whnf
  refine ⟨?_, bD c1, rfl⟩
  rw [hk]; rfl
def wZ : Nat → List Int → Cur → List Int × Cur
 | 0, a, c => (a, c)
 | n + 1, a, c => wZ n (a ++ [(aI c 4).1]) (aI c 4).2
def l7 (s : List Int) (c : Cur) : (Int × List Int) × Cur :=
 let r := aI c s.length
 let w := wZ (s.getD r.1.toNat 0).toNat [] r.2
 ((r.1, w.1), w.2)
theorem D7 : ∀ (n : Nat) (a : List Int) (c : Cur), cS c → cS (wZ n a c).2 ∧ (wZ n a c).1.length = a.length + n
 | 0, a, c, hc => ⟨hc, rfl⟩
 | n + 1, a, c, hc => by
  obtain ⟨h1, h3⟩ := D7 n (a ++ [(aI c 4).1]) (aI c 4).2 (aQ hc 4)
  refine ⟨h1, ?_⟩
  simp only [wZ, h3, List.length_append, List.length_cons, List.length_nil]
  omega
def sOk (s : List Int) : Prop := (∀ x ∈ s, 1 ≤ x ∧ x ≤ 3) ∧ 1 ≤ s.length ∧ s.length ≤ 4
theorem LN {s : List Int} (h : sOk s) {k : Nat} (hk : k < s.length) : 1 ≤ s[k] ∧ s[k] ≤ 3 := h.1 _ (List.getElem_mem hk)
theorem uB {s : List Int} (h : sOk s) (c : Cur) : ∃ k : Nat, (aI c s.length).1 = k ∧ k < s.length := by
 have h1 := h.2.1
 have h2 := h.2.2
 have hb := fC c (n := s.length) (by omega) (by omega)
 exact ⟨(aI c s.length).1.toNat, by omega, by omega⟩
theorem sX {s : List Int} (hs : sOk s) {c : Cur} (hc : cS c) : cS (l7 s c).2 ∧ (l7 s c).1.2.length ≤ 3 := by
 obtain ⟨k, h1, h2⟩ := uB hs c
 obtain ⟨g1, g2⟩ := D7 (s.getD k 0).toNat [] (aI c s.length).2 (aQ hc _)
 have h3 := LN hs h2
 unfold l7
 simp only [h1, Int.toNat_natCast]
 refine ⟨g1, ?_⟩
 rw [g2, jK h2]
 simp only [List.length_nil]
 omega
set_option maxHeartbeats 2000000 in
theorem BB (s : List Int) (c : Cur) (hs : sOk s) (h : cS c) : rS Tryz.prog 193 [u6 c, aV s] (BX (l7 s c).1) [u6 (l7 s c).2, aV s] := by
 refine lY mx aJ 2 Tryz.func193 rfl rfl (by omega) ?_
 conv => whnf
 refine .inr (.inl ?_)
 conv => whnf
 refine ⟨bD c, ?_⟩
 conv => whnf
 have hsl := hs.2.2
 refine ⟨_, _, _, bV c s.length h (by omega), ?_⟩
 conv => whnf
 refine .inl ?_
 conv => whnf
 obtain ⟨q, hq, hql⟩ := uB hs c
 have hat := LN hs hql
 unfold l7
 simp only [hq, Int.toNat_natCast, jK hql]
 have hc := aQ h s.length
 generalize (aI c s.length).2 = c0 at hc ⊢
 obtain ⟨N, hN⟩ : ∃ N : Nat, s[q] = N := ⟨s[q].toNat, by omega⟩
 rw [hN, Int.toNat_natCast]
 have hN3 : N ≤ 3 := by omega
 refine ⟨[(0,0),(3,0),(4,0),(5,201),(6,0)], fun m st => ∃ (n i : Nat) (e : Int) (a : List Int) (c1 : Cur) (k : Nat) (cc r : List V), e = i ∧ m = n ∧ i + n = N ∧ cS c1 ∧ wZ N [] c0 = wZ n a c1 ∧ k = a.length ∧ a.length = i ∧ cc = s9 c1 ∧ r = aB ciL a ∧
  st = ⟨33, [(0, .ptr 0 0), (3, .ptr 2 0), (4, .ptr 3 0), (5, .ptr 4 0), (6, ci e)], [some ⟨false, cc⟩, none, some ⟨true, [aW s]⟩, some ⟨true, [ci 0, cG]⟩, some ⟨true, [ci q, .own 5 1 0 k k none]⟩, some ⟨false, r⟩]⟩, N, ⟨N, 0, 0, [], c0, 0, _, _, rfl, rfl, by omega, hc, rfl, rfl, rfl, rfl, rfl, by kernel_rfl⟩, ?_⟩
 rintro m st ⟨n, i, _, a, c1, k, _, _, rfl, hm, hin, hc1, hgo, hk, hai, rfl, rfl, rfl⟩
 conv => whnf
 refine ⟨by omega, a6 a7 _, ?_⟩
 conv => whnf
 refine ⟨_, aD (k := q) a7 hql, ?_⟩
 rw [hN]
 conv => whnf
 split <;> rename_i h1
 all_goals simp only [decide_eq_true_eq, decide_eq_false_iff_not] at h1
 ·obtain ⟨n', rfl⟩ : ∃ n', n = n' + 1 := ⟨n - 1, by omega⟩
  conv => whnf
  refine .inr (.inl ?_)
  conv => whnf
  refine ⟨bD c1, ?_⟩
  conv => whnf
  refine ⟨_, _, _, bV c1 4 hc1 (by omega), ?_⟩
  conv => whnf
  refine .inl ?_
  conv => whnf
  refine ⟨_, rfl, .inl ⟨fU rfl, ?_⟩⟩
  conv => whnf
  refine ⟨by omega, by rw [a6 a7, hk], _, dC _ _, ?_⟩
  conv => whnf
  refine ⟨m - 1, by omega, n', i + 1, _, a ++ [(aI c1 4).1], (aI c1 4).2, k + 1, _, _, a8 (by omega) (by omega), by omega, by omega, aQ hc1 4, hgo, by simp [hk], by simp; omega, rfl, rfl, by kernel_rfl⟩
 ·have h0 : n = 0 := by omega
  subst h0
  conv => whnf
  simp only [wZ] at hgo
  rw [hgo]
  refine ⟨by rw [a6 a7, hk], ?_⟩
  conv => whnf
  refine ⟨?_, bD c1, rfl⟩
  rw [hk]; rfl
def GU (s : List Int) : Nat → List (Int × List Int) → Cur → List (Int × List Int) × Cur
 | 0, db, c => (db, c)
 | n + 1, db, c => GU s n (gH db (l7 s c).1) (l7 s c).2
def dbP (s : List Int) (c : Cur) : List (Int × List Int) × Cur := GU s (aI c 9).1.toNat [] (aI c 9).2
theorem wD (f a : aG) : ∀ (l : List aG) (p : Bool), a ∈ i9 f p l → a = f ∨ a ∈ l
 | [], p, h => by cases p <;> simp [i9] at h; exact .inl h
 | x :: r, p, h => by
  have ih := wD f a r
  simp only [i9] at h
  split at h
  ·rcases List.mem_append.1 h with h1 | h1
   ·split at h1
    ·cases h1
    ·exact .inl (by simpa using h1)
   ·rcases List.mem_cons.1 h1 with rfl | h1
    ·exact .inr (by simp)
    ·rcases ih true h1 with h2 | h2
     ·exact .inl h2
     ·exact .inr (by simp [h2])
  ·rcases List.mem_cons.1 h with rfl | h1
   ·exact .inr (by simp)
   ·rcases ih p h1 with h2 | h2
    ·exact .inl h2
    ·exact .inr (by simp [h2])
theorem v8 {α : Type} (f : α → Nat) (n : Nat) : ∀ (xs : List α), (∀ x ∈ xs, f x ≤ n) → bS f xs ≤ n * xs.length
 | [], _ => by simp [bS]
 | x :: xs, h => by
  have h1 := v8 f n xs fun y hy => h y (by simp [hy])
  have h2 := h x (by simp)
  simp only [bS, List.length_cons, Nat.mul_add, Nat.mul_one]
  omega
def wP (db : List aG) : Prop := ∀ x ∈ db, x.2.length ≤ 3
theorem OY {db : List aG} (h : wP db) (hl : db.length ≤ 100) : d6 db ≤ 1048576 := by
 have h1 := v8 eF 3 db h
 show db.length + bS eF db ≤ _
 omega
theorem FR {db : List aG} {f : aG} (h : wP db) (hf : f.2.length ≤ 3) : wP (gH db f) ∧ (gH db f).length ≤ db.length + 1 := by
 refine ⟨fun x hx => ?_, rB f db false⟩
 rcases wD f x db false hx with rfl | h2
 ·exact hf
 ·exact h x h2
theorem S3 {s : List Int} (hs : sOk s) : ∀ (n : Nat) (db : List aG) (c : Cur), cS c → wP db → cS (GU s n db c).2 ∧ wP (GU s n db c).1 ∧ (GU s n db c).1.length ≤ db.length + n
 | 0, db, c, hc, hd => ⟨hc, hd, Nat.le_refl _⟩
 | n + 1, db, c, hc, hd => by
  obtain ⟨f1, f2⟩ := sX hs hc
  obtain ⟨p1, p2⟩ := FR hd f2
  obtain ⟨h1, h2, h3⟩ := S3 hs n (gH db (l7 s c).1) (l7 s c).2 f1 p1
  exact ⟨h1, h2, by simp only [GU]; omega⟩
theorem a1Z {s : List Int} (hs : sOk s) {c : Cur} (hc : cS c) : cS (dbP s c).2 ∧ wP (dbP s c).1 ∧ (dbP s c).1.length ≤ 8 := by
 have hb := fC c (n := 9) (by omega) (by omega)
 obtain ⟨h1, h2, h3⟩ := S3 hs (aI c 9).1.toNat [] (aI c 9).2 (aQ hc 9) (fun x hx => by cases hx)
 exact ⟨h1, h2, by unfold dbP; simp only [List.length_nil] at h3; omega⟩
set_option maxHeartbeats 2000000 in
theorem I8 (s : List Int) (c : Cur) (hs : sOk s) (h : cS c) : rS Tryz.prog 140 [u6 c, aV s] (fP (dbP s c).1) [u6 (dbP s c).2, aV s] := by
 refine lY mx aJ 2 Tryz.func140 rfl rfl (by omega) ?_
 conv => whnf
 refine .inr (.inl ?_)
 conv => whnf
 refine ⟨bD c, ?_⟩
 conv => whnf
 refine ⟨_, _, _, bV c 9 h (by omega), ?_⟩
 conv => whnf
 refine .inl ?_
 conv => whnf
 have hb := fC c (n := 9) (by omega) (by omega)
 unfold dbP
 have hc := aQ h 9
 generalize (aI c 9).2 = c0 at hc ⊢
 obtain ⟨n0, hn0⟩ : ∃ n : Nat, (aI c 9).1 = n := ⟨(aI c 9).1.toNat, by omega⟩
 rw [hn0] at hb ⊢
 rw [Int.toNat_natCast]
 refine ⟨[(0,0),(3,0),(4,0),(5,0),(6,0)], fun m st => ∃ (n : Nat) (e : Int) (db : List aG) (c1 : Cur) (k : Nat) (cc r : List V), e = n ∧ m = n ∧ db.length + n ≤ 8 ∧ cS c1 ∧ wP db ∧ GU s n0 [] c0 = GU s n db c1 ∧ k = db.length ∧ cc = s9 c1 ∧ r = aB cF db ∧
  st = ⟨20, [(0, .ptr 0 0), (3, .ptr 2 0), (4, cG), (5, .own 3 2 0 k k none), (6, ci e)], [some ⟨false, cc⟩, none, some ⟨true, [aW s]⟩, some ⟨false, r⟩]⟩, n0, ⟨n0, n0, [], c0, 0, _, _, rfl, rfl, by simp; omega, hc, (fun x hx => by cases hx), rfl, rfl, rfl, rfl, by kernel_rfl⟩, ?_⟩
 rintro m st ⟨n, _, db, c1, k, _, _, rfl, hm, hdn, hc1, hsh, hgo, hk, rfl, rfl, rfl⟩
 conv => whnf
 split <;> rename_i h1
 all_goals simp only [decide_eq_true_eq, decide_eq_false_iff_not] at h1
 ·obtain ⟨n', rfl⟩ : ∃ n', n = n' + 1 := ⟨n - 1, by omega⟩
  obtain ⟨f1, f2⟩ := sX hs hc1
  obtain ⟨p1, p2⟩ := FR hsh f2
  conv => whnf
  refine .inr (.inl ?_)
  conv => whnf
  refine ⟨bD c1, ?_⟩
  conv => whnf
  refine ⟨_, _, _, BB s c1 hs hc1, ?_⟩
  conv => whnf
  refine .inl ?_
  rw [ZC]
  conv => whnf
  refine .inl ?_
  conv => whnf
  refine ⟨_, _, aN (by rw [a6 aT, hk]), bF dL _, ?_⟩
  conv => whnf
  have hsp := wA db (l7 s c1).1 (OY hsh (by omega)) (by omega)
  unfold c7 at hsp
  rw [← hk] at hsp
  refine ⟨_, hsp, .inr (fK _), .inr ?_⟩
  conv => whnf
  refine ⟨m - 1, by omega, n', _, gH db (l7 s c1).1, (l7 s c1).2, _, _, _, nP n', by omega, by omega, f1, p1, hgo, rfl, rfl, rfl, by kernel_rfl⟩
 ·have h0 : n = 0 := by omega
  subst h0
  conv => whnf
  simp only [GU] at hgo
  rw [hgo]
  refine ⟨by rw [a6 aT, hk], ?_⟩
  conv => whnf
  refine ⟨?_, bD c1, rfl⟩
  rw [hk]; rfl
theorem dT (c : Cur) (n : Int) (h : cS c) (hn : n ≤ 256) : rS Tryz.prog 80 [u6 c, ci n] (cb ((aI c n).1 == 0)) [u6 (aI c n).2, ci n] := by
 refine lY mx aJ 2 Tryz.func80 rfl rfl (by omega) ?_
 conv => whnf
 refine .inr (.inl ?_)
 conv => whnf
 refine ⟨bD c, ?_⟩
 conv => whnf
 refine ⟨_, _, _, bV c n h hn, ?_⟩
 conv => whnf
 refine .inl ?_
 conv => whnf
 exact ⟨rfl, bD _, rfl⟩
theorem i5 (c : Cur) (xs : List Int) (h : cS c) (h1 : 1 ≤ xs.length) (h2 : xs.length ≤ 200) : rS Tryz.prog 194 [u6 c, bE xs] (ci (xs.getD (aI c xs.length).1.toNat 0)) [u6 (aI c xs.length).2, bE xs] := by
 refine lY mx aJ 2 Tryz.func194 rfl rfl (by omega) ?_
 conv => whnf
 refine .inr (.inl ?_)
 conv => whnf
 refine ⟨bD c, ?_⟩
 conv => whnf
 refine ⟨_, _, _, bV c xs.length h (by omega), ?_⟩
 conv => whnf
 refine .inl ?_
 conv => whnf
 have hb := fC c (n := xs.length) (by omega) (by omega)
 generalize (aI c xs.length).2 = c1
 obtain ⟨k, hk⟩ : ∃ k : Nat, (aI c xs.length).1 = k := ⟨(aI c xs.length).1.toNat, by omega⟩
 rw [hk] at hb ⊢
 have hkl : k < xs.length := by omega
 rw [Int.toNat_natCast, jK hkl]
 refine ⟨by omega, ?_⟩
 conv => whnf
 refine ⟨_, b7 (k := k) (d := 0) (m := 1) (xs := xs) a7 (Nat.zero_add _) hkl (by omega) rfl, ?_⟩
 conv => whnf
 refine ⟨rfl, bD _, by rw [a6 a7], rfl⟩
theorem QX {s : List Int} (h : sOk s) : dE s = true := by
 simp only [dE, Bool.and_eq_true]
 refine ⟨List.all_eq_true.2 fun x hx => ?_, ?_⟩
 ·have := h.1 x hx
  simp only [inR, Bool.and_eq_true, decide_eq_true_eq]
  exact this
 ·have h1 := h.2.1
  have h2 := h.2.2
  simp only [inR, Bool.and_eq_true, decide_eq_true_eq]
  omega
theorem NM (s : List Int) (hs : sOk s) : bI Tryz.prog 196 [aV s] (aV s) := by
 have h2 := hs.2.2
 refine aF mx aJ Tryz.func196 rfl ?_
 conv => whnf
 refine ⟨_, fI s (by omega), .inl rfl, .inl ?_⟩
 rw [QX hs]
 conv => whnf
 rfl
theorem dX (s : List Int) : roV (aV s) = aV s := by
 show V.agg [.ro _ (dM _)] = _
 rw [cK]; rfl
def Q2 (v : Int) : List Int → Nat → Int
 | [], _ => -1
 | a :: l, k => if eqV v a then k else Q2 v l (k + 1)
theorem SC (v : Int) : ∀ l k, decide (Q2 v l k ≥ 0) = has l v
 | [], k => rfl
 | a :: l, k => by
  unfold Q2
  rw [has, List.any_cons]
  cases h : eqV v a with
  | true =>
   rw [if_pos rfl]
   exact decide_eq_true (by omega)
  | false =>
   rw [if_neg (by simp)]
   exact SC v l (k + 1)
theorem AK (xs : List Int) (v : Int) (h : xs.length ≤ 1099511627776) : bI Tryz.prog 214 [aW xs, ci v] (ci (Q2 v xs 0)) := by
 refine aF mx aJ Tryz.func214 rfl ?_
 conv => whnf
 refine ⟨[(0,0),(1,0),(4,0),(7,0),(8,0)], fun m s => ∃ (k : Nat) (e : Int), e = k ∧ m + k = xs.length ∧ Q2 v xs 0 = Q2 v (xs.drop k) k ∧
  s = ⟨17 + 2, [(0, aW xs), (1, ci v), (4, ci 0), (7, ci xs.length), (8, ci e)], []⟩, xs.length, ⟨0, 0, rfl, rfl, rfl, rfl⟩, ?_⟩
 rintro m s ⟨k, _, rfl, hm, hj, rfl⟩
 conv => whnf
 split <;> rename_i h1
 all_goals simp only [decide_eq_true_eq, decide_eq_false_iff_not] at h1
 ·conv => whnf
  have hk : k < xs.length := by omega
  rw [List.drop_eq_getElem_cons hk, Q2] at hj
  refine ⟨by omega, a6 a7 xs, ?_⟩
  conv => whnf
  refine ⟨_, aD (k := k) a7 hk, ?_⟩
  conv => whnf
  generalize hb1 : (v == xs[k]) = b1
  have hb2 : eqV v xs[k] = b1 := by rw [← hb1, eqV, Bool.beq_comm]
  rw [hb2] at hj
  cases b1 with
  | true =>
   conv => whnf
   rw [hj]
   rfl
  | false =>
   conv => whnf
   exact ⟨m - 1, by omega, k + 1, _, a8 (by omega) (by omega), by omega, hj, rfl⟩
 ·conv => whnf
  rw [hj, bG (by omega)]
  rfl
theorem mV (xs : List Int) (v : Int) (h : xs.length ≤ 1099511627776) : bI Tryz.prog 175 [aW xs, ci v] (cb (has xs v)) := by
 refine aF mx aJ Tryz.func175 rfl ?_
 conv => whnf
 refine ⟨_, AK xs v h, .inl rfl, .inl ?_⟩
 conv => whnf
 exact congrArg cb (SC v xs 0)
def PY (x : Int) (a : AT) : Bool := has a.2 x
def iU (q : bJ) (x : Int) : Bool := q.2.any (PY x)
theorem BQ (q : bJ) (x : Int) (h : aC q ≤ 1048576) : bI Tryz.prog 162 [aP q, ci x] (cb (iU q x)) := by
 unfold aC dW at h
 refine aF mx aJ Tryz.func162 rfl ?_
 conv => whnf
 refine ⟨[(1,0),(4,0),(8,0),(9,0),(10,0)], fun m s => ∃ (k : Nat) (e : Int), e = k ∧ m + k = q.2.length ∧ iU q x = (q.2.drop k).any (PY x) ∧
  s = ⟨19, [(1, ci x), (4, cb false), (8, cE q.2), (9, ci q.2.length), (10, ci e)], []⟩, q.2.length, ⟨0, 0, rfl, rfl, rfl, rfl⟩, ?_⟩
 rintro m s ⟨k, _, rfl, hm, hj, rfl⟩
 conv => whnf
 split <;> rename_i h1
 all_goals simp only [decide_eq_true_eq, decide_eq_false_iff_not] at h1
 ·conv => whnf
  have hk : k < q.2.length := by omega
  have hb := bH (f := b9) hk
  have hcb : b9 q.2[k] = q.2[k].2.length := rfl
  rw [xF hk] at hj
  refine ⟨by omega, a6 aA _, ?_⟩
  conv => whnf
  refine ⟨_, aD (k := k) aA hk, ?_⟩
  conv => whnf
  refine ⟨_, mV q.2[k].2 x (by omega), .inl rfl, .inl ?_⟩
  conv => whnf
  generalize hb1 : has q.2[k].2 x = b1
  rw [show PY x q.2[k] = b1 from hb1] at hj
  cases b1 with
  | true =>
   conv => whnf
   rw [hj]
   rfl
  | false =>
   conv => whnf
   rw [Bool.false_or] at hj
   exact ⟨m - 1, by omega, k + 1, _, a8 (by omega) (by omega), by omega, hj, rfl⟩
 ·conv => whnf
  rw [hj, bG (by omega)]
  rfl
def tU (q : bJ) (x : Int) : Bool := !(b8 x && !iU q x)
theorem NF (q : bJ) (h : aC q ≤ 1048576) : bI Tryz.prog 86 [aP q] (cb (q.1.all (tU q))) := by
 have h' := h
 unfold aC at h'
 refine aF mx aJ Tryz.func86 rfl ?_
 conv => whnf
 refine ⟨[(1,0),(2,0),(6,0),(7,0),(8,0)], fun m s => ∃ (k : Nat) (e : Int), e = k ∧ m + k = q.1.length ∧ q.1.all (tU q) = (q.1.drop k).all (tU q) ∧
  s = ⟨21, [(1, .ptr 0 0), (2, cb false), (6, aW q.1), (7, ci q.1.length), (8, ci e)], [some ⟨true, aO q⟩]⟩, q.1.length, ⟨0, 0, rfl, rfl, rfl, rfl⟩, ?_⟩
 rintro m s ⟨k, _, rfl, hm, hj, rfl⟩
 conv => whnf
 split <;> rename_i h1
 all_goals simp only [decide_eq_true_eq, decide_eq_false_iff_not] at h1
 ·conv => whnf
  have hk : k < q.1.length := by omega
  rw [kN hk, tU] at hj
  refine ⟨by omega, a6 a7 _, ?_⟩
  conv => whnf
  refine ⟨_, aD (k := k) a7 hk, ?_⟩
  conv => whnf
  refine ⟨_, eZ q.1[k], .inl rfl, .inl ?_⟩
  conv => whnf
  generalize b8 q.1[k] = b1 at hj
  cases b1 with
  | false =>
   conv => whnf
   exact ⟨m - 1, by omega, k + 1, _, a8 (by omega) (by omega), by omega, hj, rfl⟩
  | true =>
  conv => whnf
  refine ⟨_, BQ q q.1[k] h, .inl rfl, .inl ?_⟩
  conv => whnf
  generalize iU q q.1[k] = b2 at hj
  cases b2 with
  | false =>
   conv => whnf
   rw [hj]
   rfl
  | true =>
   conv => whnf
   exact ⟨m - 1, by omega, k + 1, _, a8 (by omega) (by omega), by omega, hj, rfl⟩
 ·conv => whnf
  rw [hj, bG (by omega)]
  rfl
def nW (s : List Int) (q : bJ) (n : Int) : Bool := dE s && (d5 q.1 && (inR q.2.length 1 n && (q.2.all (fM s) && q.1.all (tU q))))
def aH (s : List Int) (q : bJ) : Bool := nW s q 4
theorem dS (s : List Int) (q : bJ) (hs : cT s ≤ 1048576) (h : aC q ≤ 1048576) : bI Tryz.prog 65 [aV s, aP q] (cb (aH s q)) := by
 unfold cT at hs
 have h' := h
 unfold aC dW at h'
 refine aF mx aJ Tryz.func65 rfl ?_
 conv => whnf
 refine ⟨_, kO s (by omega), .inl rfl, .inl ?_⟩
 conv => whnf
 unfold aH nW
 generalize dE s = b1
 cases b1 with
 | false =>
  conv => whnf
  rfl
 | true =>
 conv => whnf
 generalize hb2 : decide ((q.1.length : Int) > 3) = b2
 cases b2 with
 | true =>
  conv => whnf
  have := of_decide_eq_true hb2
  rw [d5, decide_eq_false (p := q.1.length ≤ 3) (by omega), Bool.and_false]
  rfl
 | false =>
 conv => whnf
 have h3 := of_decide_eq_false hb2
 rw [d5, decide_eq_true (p := q.1.length ≤ 3) (by omega), Bool.and_true]
 refine ⟨_, lS q.1 (by omega), .inl rfl, .inl ?_⟩
 conv => whnf
 generalize q.1.all aU = b3
 cases b3 with
 | false =>
  conv => whnf
  rfl
 | true =>
 conv => whnf
 refine ⟨_, iH (q.2.length : Int) 1 4, .inl rfl, .inl ?_⟩
 conv => whnf
 generalize inR (q.2.length : Int) 1 4 = b4
 cases b4 with
 | false =>
  conv => whnf
  rfl
 | true =>
 conv => whnf
 refine ⟨[(2,0),(3,0),(4,0),(30,0),(31,0),(32,0)], fun m st => ∃ (k : Nat) (e : Int), e = k ∧ m + k = q.2.length ∧ q.2.all (fM s) = (q.2.drop k).all (fM s) ∧
  st = ⟨43, [(2, .ptr 0 0), (3, .ptr 1 0), (4, cb false), (30, cE q.2), (31, ci q.2.length), (32, ci e)], [some ⟨true, [aW s]⟩, some ⟨true, aO q⟩]⟩, q.2.length, ⟨0, 0, rfl, rfl, rfl, rfl⟩, ?_⟩
 rintro m st ⟨k, _, rfl, hm, hj, rfl⟩
 conv => whnf
 split <;> rename_i h1
 all_goals simp only [decide_eq_true_eq, decide_eq_false_iff_not] at h1
 ·conv => whnf
  have hk : k < q.2.length := by omega
  have hb := bH (f := b9) hk
  have hcb : b9 q.2[k] = q.2[k].2.length := rfl
  rw [kN hk] at hj
  refine ⟨by omega, a6 aA _, ?_⟩
  conv => whnf
  refine ⟨_, aD (k := k) aA hk, ?_⟩
  conv => whnf
  refine ⟨_, C4 s q.2[k] (by omega) (by omega), .inl rfl, .inl ?_⟩
  conv => whnf
  generalize fM s q.2[k] = b5 at hj
  cases b5 with
  | false =>
   conv => whnf
   rw [hj]
   rfl
  | true =>
   conv => whnf
   rw [Bool.true_and] at hj
   exact ⟨m - 1, by omega, k + 1, _, a8 (by omega) (by omega), by omega, hj, rfl⟩
 ·conv => whnf
  rw [bG (by omega)] at hj
  rw [hj]
  refine ⟨_, NF q h, .inl rfl, .inl ?_⟩
  conv => whnf
  rfl
end Go.Proofs.YtboolngaahifdaaGreatD
