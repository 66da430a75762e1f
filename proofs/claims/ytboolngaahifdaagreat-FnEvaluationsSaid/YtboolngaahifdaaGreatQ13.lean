/- Contracts and plain laws of this seat; no condition. -/
import Derived.Test.YtboolngaahifdaaGreatQ11
import Derived.Test.YtboolngaahifdaaGreatQ12
set_option linter.unusedVariables false
set_option linter.unusedSimpArgs false
set_option maxRecDepth 100000
namespace Go.Proofs.YtboolngaahifdaaGreatD
open Go Go.Proofs
theorem wrap_pred (n : Nat) (h : n ≤ 1000000 := by omega) : IntKind.i64.wrap (((n + 1 : Nat) : Int) - 1) = (n : Int) := by
 rw [wrap_id (by omega) (by omega)]; omega
def schGo : Nat → List Int → Cur → List Int × Cur
 | 0, a, c => (a, c)
 | n + 1, a, c => schGo n (a ++ [IntKind.i64.wrap (1 + (belowP c 3).1)]) (belowP c 3).2
def schP (c : Cur) : List Int × Cur := schGo (belowP c 3).1.toNat [2] (belowP c 3).2
theorem schGo_ok : ∀ (n : Nat) (a : List Int) (c : Cur), goodC c → (∀ x ∈ a, 1 ≤ x ∧ x ≤ 3) → goodC (schGo n a c).2 ∧ (∀ x ∈ (schGo n a c).1, 1 ≤ x ∧ x ≤ 3) ∧ (schGo n a c).1.length = a.length + n
 | 0, a, c, hc, ha => ⟨hc, ha, rfl⟩
 | n + 1, a, c, hc, ha => by
  have hb := belowP_bd c (n := 3) (by omega) (by omega)
  have hw : IntKind.i64.wrap (1 + (belowP c 3).1) = 1 + (belowP c 3).1 := wrap_id (by omega) (by omega)
  obtain ⟨h1, h2, h3⟩ := schGo_ok n (a ++ [IntKind.i64.wrap (1 + (belowP c 3).1)]) (belowP c 3).2 (belowP_good hc 3) (fun x hx => by
   rcases List.mem_append.1 hx with hx | hx
   ·exact ha x hx
   ·have : x = IntKind.i64.wrap (1 + (belowP c 3).1) := by simpa using hx
    rw [this, hw]; omega)
  refine ⟨h1, h2, ?_⟩
  simp only [schGo, h3, List.length_append, List.length_cons, List.length_nil]
  omega
theorem schP_ok {c : Cur} (hc : goodC c) : goodC (schP c).2 ∧ (∀ x ∈ (schP c).1, 1 ≤ x ∧ x ≤ 3) ∧ 1 ≤ (schP c).1.length ∧ (schP c).1.length ≤ 3 := by
 have hb := belowP_bd c (n := 3) (by omega) (by omega)
 obtain ⟨h1, h2, h3⟩ := schGo_ok (belowP c 3).1.toNat [2] (belowP c 3).2 (belowP_good hc 3) (fun x hx => by
  have : x = 2 := by simpa using hx
  omega)
 refine ⟨h1, h2, ?_, ?_⟩
 ·unfold schP; rw [h3]; simp
 ·unfold schP; rw [h3]; simp; omega
set_option maxHeartbeats 2000000 in
theorem l3Schema_spec (c : Cur) (h : goodC c) : SpecR Tryz.prog 138 [vCur c] (wSchema (schP c).1) [vCur (schP c).2] := by
 refine SpecL_of mx Γ_ok 1 Tryz.func138 rfl rfl (by omega) ?_
 conv => whnf
 refine .inr (.inl ?_)
 conv => whnf
 refine ⟨curC_ne c, ?_⟩
 conv => whnf
 refine ⟨_, _, _, l1Below_spec c 3 h (by omega), ?_⟩
 conv => whnf
 refine .inl ?_
 conv => whnf
 have hb := belowP_bd c (n := 3) (by omega) (by omega)
 unfold schP
 have hc := belowP_good h 3
 generalize (belowP c 3).2 = c0 at hc ⊢
 obtain ⟨n0, hn0⟩ : ∃ n : Nat, (belowP c 3).1 = n := ⟨(belowP c 3).1.toNat, by omega⟩
 rw [hn0] at hb ⊢
 rw [Int.toNat_natCast]
 refine ⟨[(0,0),(2,0),(3,0),(4,0)], fun m st => ∃ (n : Nat) (e : Int) (a : List Int) (c1 : Cur) (k : Nat) (cc r : List V), e = n ∧ m = n ∧ n ≤ 2 ∧ goodC c1 ∧ schGo n0 [2] c0 = schGo n a c1 ∧ k = a.length ∧ a.length + n ≤ 3 ∧ cc = curC c1 ∧ r = rows ciL a ∧
  st = ⟨24, [(0, .ptr 0 0), (2, .ptr 1 0), (3, .ptr 2 0), (4, ci e)], [some ⟨false, cc⟩, some ⟨true, [cnil]⟩, some ⟨true, [.own 3 1 0 k k none]⟩, some ⟨false, r⟩]⟩, n0, ⟨n0, n0, [2], c0, 1, _, _, rfl, rfl, by omega, hc, rfl, rfl, by simp; omega, rfl, rfl, by kernel_rfl⟩, ?_⟩
 rintro m st ⟨n, _, a, c1, k, _, _, rfl, hm, hn2, hc1, hgo, hk, hal, rfl, rfl, rfl⟩
 conv => whnf
 split <;> rename_i h1
 all_goals simp only [decide_eq_true_eq, decide_eq_false_iff_not] at h1
 ·obtain ⟨n', rfl⟩ : ∃ n', n = n' + 1 := ⟨n - 1, by omega⟩
  conv => whnf
  refine .inr (.inl ?_)
  conv => whnf
  refine ⟨curC_ne c1, ?_⟩
  conv => whnf
  refine ⟨_, _, _, l1Below_spec c1 3 hc1 (by omega), ?_⟩
  conv => whnf
  refine .inl ?_
  conv => whnf
  refine ⟨_, rfl, .inl ⟨flat1 rfl, ?_⟩⟩
  conv => whnf
  refine ⟨by omega, by rw [rows_len ciL_len, hk], _, snoc_ci _ _, ?_⟩
  conv => whnf
  refine ⟨m - 1, by omega, n', _, a ++ [IntKind.i64.wrap (1 + (belowP c1 3).1)], (belowP c1 3).2, k + 1, _, _, wrap_pred n', by omega, by omega, belowP_good hc1 3, hgo, by simp [hk], by simp; omega, rfl, rfl, by kernel_rfl⟩
 ·have h0 : n = 0 := by omega
  subst h0
  conv => whnf
  simp only [schGo] at hgo
  rw [hgo]
  refine ⟨by rw [rows_len ciL_len, hk], ?_⟩
  conv => whnf
  refine ⟨?_, curC_ne c1, rfl⟩
  rw [hk]; rfl
def argGo : Nat → List Int → Cur → List Int × Cur
 | 0, a, c => (a, c)
 | n + 1, a, c => argGo n (a ++ [(belowP c 4).1]) (belowP c 4).2
def factP (s : List Int) (c : Cur) : (Int × List Int) × Cur :=
 let r := belowP c s.length
 let w := argGo (s.getD r.1.toNat 0).toNat [] r.2
 ((r.1, w.1), w.2)
theorem argGo_ok : ∀ (n : Nat) (a : List Int) (c : Cur), goodC c → goodC (argGo n a c).2 ∧ (argGo n a c).1.length = a.length + n
 | 0, a, c, hc => ⟨hc, rfl⟩
 | n + 1, a, c, hc => by
  obtain ⟨h1, h3⟩ := argGo_ok n (a ++ [(belowP c 4).1]) (belowP c 4).2 (belowP_good hc 4)
  refine ⟨h1, ?_⟩
  simp only [argGo, h3, List.length_append, List.length_cons, List.length_nil]
  omega
def sOk (s : List Int) : Prop := (∀ x ∈ s, 1 ≤ x ∧ x ≤ 3) ∧ 1 ≤ s.length ∧ s.length ≤ 4
theorem sOk_at {s : List Int} (h : sOk s) {k : Nat} (hk : k < s.length) : 1 ≤ s[k] ∧ s[k] ≤ 3 := h.1 _ (List.getElem_mem hk)
theorem below_idx {s : List Int} (h : sOk s) (c : Cur) : ∃ k : Nat, (belowP c s.length).1 = k ∧ k < s.length := by
 have h1 := h.2.1
 have h2 := h.2.2
 have hb := belowP_bd c (n := s.length) (by omega) (by omega)
 exact ⟨(belowP c s.length).1.toNat, by omega, by omega⟩
theorem factP_ok {s : List Int} (hs : sOk s) {c : Cur} (hc : goodC c) : goodC (factP s c).2 ∧ (factP s c).1.2.length ≤ 3 := by
 obtain ⟨k, h1, h2⟩ := below_idx hs c
 obtain ⟨g1, g2⟩ := argGo_ok (s.getD k 0).toNat [] (belowP c s.length).2 (belowP_good hc _)
 have h3 := sOk_at hs h2
 unfold factP
 simp only [h1, Int.toNat_natCast]
 refine ⟨g1, ?_⟩
 rw [g2, getD_at h2]
 simp only [List.length_nil]
 omega
set_option maxHeartbeats 2000000 in
theorem l5Fact_spec (s : List Int) (c : Cur) (hs : sOk s) (h : goodC c) : SpecR Tryz.prog 193 [vCur c, vSchema s] (wFact (factP s c).1) [vCur (factP s c).2, vSchema s] := by
 refine SpecL_of mx Γ_ok 2 Tryz.func193 rfl rfl (by omega) ?_
 conv => whnf
 refine .inr (.inl ?_)
 conv => whnf
 refine ⟨curC_ne c, ?_⟩
 conv => whnf
 have hsl := hs.2.2
 refine ⟨_, _, _, l1Below_spec c s.length h (by omega), ?_⟩
 conv => whnf
 refine .inl ?_
 conv => whnf
 obtain ⟨q, hq, hql⟩ := below_idx hs c
 have hat := sOk_at hs hql
 unfold factP
 simp only [hq, Int.toNat_natCast, getD_at hql]
 have hc := belowP_good h s.length
 generalize (belowP c s.length).2 = c0 at hc ⊢
 obtain ⟨N, hN⟩ : ∃ N : Nat, s[q] = N := ⟨s[q].toNat, by omega⟩
 rw [hN, Int.toNat_natCast]
 have hN3 : N ≤ 3 := by omega
 refine ⟨[(0,0),(3,0),(4,0),(5,201),(6,0)], fun m st => ∃ (n i : Nat) (e : Int) (a : List Int) (c1 : Cur) (k : Nat) (cc r : List V), e = i ∧ m = n ∧ i + n = N ∧ goodC c1 ∧ argGo N [] c0 = argGo n a c1 ∧ k = a.length ∧ a.length = i ∧ cc = curC c1 ∧ r = rows ciL a ∧
  st = ⟨33, [(0, .ptr 0 0), (3, .ptr 2 0), (4, .ptr 3 0), (5, .ptr 4 0), (6, ci e)], [some ⟨false, cc⟩, none, some ⟨true, [ints s]⟩, some ⟨true, [ci 0, cnil]⟩, some ⟨true, [ci q, .own 5 1 0 k k none]⟩, some ⟨false, r⟩]⟩, N, ⟨N, 0, 0, [], c0, 0, _, _, rfl, rfl, by omega, hc, rfl, rfl, rfl, rfl, rfl, by kernel_rfl⟩, ?_⟩
 rintro m st ⟨n, i, _, a, c1, k, _, _, rfl, hm, hin, hc1, hgo, hk, hai, rfl, rfl, rfl⟩
 conv => whnf
 refine ⟨by omega, rows_len ciL_len _, ?_⟩
 conv => whnf
 refine ⟨_, takeN_rp (k := q) ciL_len hql, ?_⟩
 rw [hN]
 conv => whnf
 split <;> rename_i h1
 all_goals simp only [decide_eq_true_eq, decide_eq_false_iff_not] at h1
 ·obtain ⟨n', rfl⟩ : ∃ n', n = n' + 1 := ⟨n - 1, by omega⟩
  conv => whnf
  refine .inr (.inl ?_)
  conv => whnf
  refine ⟨curC_ne c1, ?_⟩
  conv => whnf
  refine ⟨_, _, _, l1Below_spec c1 4 hc1 (by omega), ?_⟩
  conv => whnf
  refine .inl ?_
  conv => whnf
  refine ⟨_, rfl, .inl ⟨flat1 rfl, ?_⟩⟩
  conv => whnf
  refine ⟨by omega, by rw [rows_len ciL_len, hk], _, snoc_ci _ _, ?_⟩
  conv => whnf
  refine ⟨m - 1, by omega, n', i + 1, _, a ++ [(belowP c1 4).1], (belowP c1 4).2, k + 1, _, _, wrap_id (by omega) (by omega), by omega, by omega, belowP_good hc1 4, hgo, by simp [hk], by simp; omega, rfl, rfl, by kernel_rfl⟩
 ·have h0 : n = 0 := by omega
  subst h0
  conv => whnf
  simp only [argGo] at hgo
  rw [hgo]
  refine ⟨by rw [rows_len ciL_len, hk], ?_⟩
  conv => whnf
  refine ⟨?_, curC_ne c1, rfl⟩
  rw [hk]; rfl
def dbDr (s : List Int) : Nat → List (Int × List Int) → Cur → List (Int × List Int) × Cur
 | 0, db, c => (db, c)
 | n + 1, db, c => dbDr s n (putF db (factP s c).1) (factP s c).2
def dbP (s : List Int) (c : Cur) : List (Int × List Int) × Cur := dbDr s (belowP c 9).1.toNat [] (belowP c 9).2
theorem mem_putGo' (f a : FactC) : ∀ (l : List FactC) (p : Bool), a ∈ putGo f p l → a = f ∨ a ∈ l
 | [], p, h => by cases p <;> simp [putGo] at h; exact .inl h
 | x :: r, p, h => by
  have ih := mem_putGo' f a r
  simp only [putGo] at h
  split at h
  ·rcases List.mem_append.1 h with h1 | h1
   ·split at h1
    ·cases h1
    ·exact .inl (by simpa using h1)
   ·rcases List.mem_cons.1 h1 with rfl | h1
    ·exact .inr (by simp)
    ·rcases ih true h1 with h2 | h2
     ·exact .inl h2
     ·exact .inr (by simp [h2])
  ·rcases List.mem_cons.1 h with rfl | h1
   ·exact .inr (by simp)
   ·rcases ih p h1 with h2 | h2
    ·exact .inl h2
    ·exact .inr (by simp [h2])
theorem sumB_cap' {α : Type} (f : α → Nat) (n : Nat) : ∀ (xs : List α), (∀ x ∈ xs, f x ≤ n) → sumB f xs ≤ n * xs.length
 | [], _ => by simp [sumB]
 | x :: xs, h => by
  have h1 := sumB_cap' f n xs fun y hy => h y (by simp [hy])
  have h2 := h x (by simp)
  simp only [sumB, List.length_cons, Nat.mul_add, Nat.mul_one]
  omega
def short3 (db : List FactC) : Prop := ∀ x ∈ db, x.2.length ≤ 3
theorem short3_size {db : List FactC} (h : short3 db) (hl : db.length ≤ 100) : cFactS db ≤ 1048576 := by
 have h1 := sumB_cap' cFact 3 db h
 show db.length + sumB cFact db ≤ _
 omega
theorem short3_put {db : List FactC} {f : FactC} (h : short3 db) (hf : f.2.length ≤ 3) : short3 (putF db f) ∧ (putF db f).length ≤ db.length + 1 := by
 refine ⟨fun x hx => ?_, putGo_length f db false⟩
 rcases mem_putGo' f x db false hx with rfl | h2
 ·exact hf
 ·exact h x h2
theorem dbDr_ok {s : List Int} (hs : sOk s) : ∀ (n : Nat) (db : List FactC) (c : Cur), goodC c → short3 db → goodC (dbDr s n db c).2 ∧ short3 (dbDr s n db c).1 ∧ (dbDr s n db c).1.length ≤ db.length + n
 | 0, db, c, hc, hd => ⟨hc, hd, Nat.le_refl _⟩
 | n + 1, db, c, hc, hd => by
  obtain ⟨f1, f2⟩ := factP_ok hs hc
  obtain ⟨p1, p2⟩ := short3_put hd f2
  obtain ⟨h1, h2, h3⟩ := dbDr_ok hs n (putF db (factP s c).1) (factP s c).2 f1 p1
  exact ⟨h1, h2, by simp only [dbDr]; omega⟩
theorem dbP_ok {s : List Int} (hs : sOk s) {c : Cur} (hc : goodC c) : goodC (dbP s c).2 ∧ short3 (dbP s c).1 ∧ (dbP s c).1.length ≤ 8 := by
 have hb := belowP_bd c (n := 9) (by omega) (by omega)
 obtain ⟨h1, h2, h3⟩ := dbDr_ok hs (belowP c 9).1.toNat [] (belowP c 9).2 (belowP_good hc 9) (fun x hx => by cases hx)
 exact ⟨h1, h2, by unfold dbP; simp only [List.length_nil] at h3; omega⟩
set_option maxHeartbeats 2000000 in
theorem l5Db_spec (s : List Int) (c : Cur) (hs : sOk s) (h : goodC c) : SpecR Tryz.prog 140 [vCur c, vSchema s] (wFactS (dbP s c).1) [vCur (dbP s c).2, vSchema s] := by
 refine SpecL_of mx Γ_ok 2 Tryz.func140 rfl rfl (by omega) ?_
 conv => whnf
 refine .inr (.inl ?_)
 conv => whnf
 refine ⟨curC_ne c, ?_⟩
 conv => whnf
 refine ⟨_, _, _, l1Below_spec c 9 h (by omega), ?_⟩
 conv => whnf
 refine .inl ?_
 conv => whnf
 have hb := belowP_bd c (n := 9) (by omega) (by omega)
 unfold dbP
 have hc := belowP_good h 9
 generalize (belowP c 9).2 = c0 at hc ⊢
 obtain ⟨n0, hn0⟩ : ∃ n : Nat, (belowP c 9).1 = n := ⟨(belowP c 9).1.toNat, by omega⟩
 rw [hn0] at hb ⊢
 rw [Int.toNat_natCast]
 refine ⟨[(0,0),(3,0),(4,0),(5,0),(6,0)], fun m st => ∃ (n : Nat) (e : Int) (db : List FactC) (c1 : Cur) (k : Nat) (cc r : List V), e = n ∧ m = n ∧ db.length + n ≤ 8 ∧ goodC c1 ∧ short3 db ∧ dbDr s n0 [] c0 = dbDr s n db c1 ∧ k = db.length ∧ cc = curC c1 ∧ r = rows tFact db ∧
  st = ⟨20, [(0, .ptr 0 0), (3, .ptr 2 0), (4, cnil), (5, .own 3 2 0 k k none), (6, ci e)], [some ⟨false, cc⟩, none, some ⟨true, [ints s]⟩, some ⟨false, r⟩]⟩, n0, ⟨n0, n0, [], c0, 0, _, _, rfl, rfl, by simp; omega, hc, (fun x hx => by cases hx), rfl, rfl, rfl, rfl, by kernel_rfl⟩, ?_⟩
 rintro m st ⟨n, _, db, c1, k, _, _, rfl, hm, hdn, hc1, hsh, hgo, hk, rfl, rfl, rfl⟩
 conv => whnf
 split <;> rename_i h1
 all_goals simp only [decide_eq_true_eq, decide_eq_false_iff_not] at h1
 ·obtain ⟨n', rfl⟩ : ∃ n', n = n' + 1 := ⟨n - 1, by omega⟩
  obtain ⟨f1, f2⟩ := factP_ok hs hc1
  obtain ⟨p1, p2⟩ := short3_put hsh f2
  conv => whnf
  refine .inr (.inl ?_)
  conv => whnf
  refine ⟨curC_ne c1, ?_⟩
  conv => whnf
  refine ⟨_, _, _, l5Fact_spec s c1 hs hc1, ?_⟩
  conv => whnf
  refine .inl ?_
  rw [wFact_ro]
  conv => whnf
  refine .inl ?_
  conv => whnf
  refine ⟨_, _, takeN_all (by rw [rows_len tFact_len, hk]), roVs_rows tFact_ro _, ?_⟩
  conv => whnf
  have hsp := l5Put_spec db (factP s c1).1 (short3_size hsh (by omega)) (by omega)
  unfold vFactS at hsp
  rw [← hk] at hsp
  refine ⟨_, hsp, .inr (closed_wFactS _), .inr ?_⟩
  conv => whnf
  refine ⟨m - 1, by omega, n', _, putF db (factP s c1).1, (factP s c1).2, _, _, _, wrap_pred n', by omega, by omega, f1, p1, hgo, rfl, rfl, rfl, by kernel_rfl⟩
 ·have h0 : n = 0 := by omega
  subst h0
  conv => whnf
  simp only [dbDr] at hgo
  rw [hgo]
  refine ⟨by rw [rows_len tFact_len, hk], ?_⟩
  conv => whnf
  refine ⟨?_, curC_ne c1, rfl⟩
  rw [hk]; rfl
theorem l1Once_spec (c : Cur) (n : Int) (h : goodC c) (hn : n ≤ 256) : SpecR Tryz.prog 80 [vCur c, ci n] (cb ((belowP c n).1 == 0)) [vCur (belowP c n).2, ci n] := by
 refine SpecL_of mx Γ_ok 2 Tryz.func80 rfl rfl (by omega) ?_
 conv => whnf
 refine .inr (.inl ?_)
 conv => whnf
 refine ⟨curC_ne c, ?_⟩
 conv => whnf
 refine ⟨_, _, _, l1Below_spec c n h hn, ?_⟩
 conv => whnf
 refine .inl ?_
 conv => whnf
 exact ⟨rfl, curC_ne _, rfl⟩
theorem l1PickInt_spec (c : Cur) (xs : List Int) (h : goodC c) (h1 : 1 ≤ xs.length) (h2 : xs.length ≤ 200) : SpecR Tryz.prog 194 [vCur c, intsT xs] (ci (xs.getD (belowP c xs.length).1.toNat 0)) [vCur (belowP c xs.length).2, intsT xs] := by
 refine SpecL_of mx Γ_ok 2 Tryz.func194 rfl rfl (by omega) ?_
 conv => whnf
 refine .inr (.inl ?_)
 conv => whnf
 refine ⟨curC_ne c, ?_⟩
 conv => whnf
 refine ⟨_, _, _, l1Below_spec c xs.length h (by omega), ?_⟩
 conv => whnf
 refine .inl ?_
 conv => whnf
 have hb := belowP_bd c (n := xs.length) (by omega) (by omega)
 generalize (belowP c xs.length).2 = c1
 obtain ⟨k, hk⟩ : ∃ k : Nat, (belowP c xs.length).1 = k := ⟨(belowP c xs.length).1.toNat, by omega⟩
 rw [hk] at hb ⊢
 have hkl : k < xs.length := by omega
 rw [Int.toNat_natCast, getD_at hkl]
 refine ⟨by omega, ?_⟩
 conv => whnf
 refine ⟨_, takeN_own (k := k) (d := 0) (m := 1) (xs := xs) ciL_len (Nat.zero_add _) hkl (by omega) rfl, ?_⟩
 conv => whnf
 refine ⟨rfl, curC_ne _, by rw [rows_len ciL_len], rfl⟩
theorem sOk_schema {s : List Int} (h : sOk s) : isSchema s = true := by
 simp only [isSchema, Bool.and_eq_true]
 refine ⟨List.all_eq_true.2 fun x hx => ?_, ?_⟩
 ·have := h.1 x hx
  simp only [inR, Bool.and_eq_true, decide_eq_true_eq]
  exact this
 ·have h1 := h.2.1
  have h2 := h.2.2
  simp only [inR, Bool.and_eq_true, decide_eq_true_eq]
  omega
theorem l4Safe_spec (s : List Int) (hs : sOk s) : Spec Tryz.prog 196 [vSchema s] (vSchema s) := by
 have h2 := hs.2.2
 refine Spec_of mx Γ_ok Tryz.func196 rfl ?_
 conv => whnf
 refine ⟨_, specIsSchema_spec s (by omega), .inl rfl, .inl ?_⟩
 rw [sOk_schema hs]
 conv => whnf
 rfl
theorem ints_roV (s : List Int) : roV (vSchema s) = vSchema s := by
 show V.agg [.ro _ (roVs _)] = _
 rw [roVs_ci]; rfl
def idxI (v : Int) : List Int → Nat → Int
 | [], _ => -1
 | a :: l, k => if eqV v a then k else idxI v l (k + 1)
theorem idxI_ge (v : Int) : ∀ l k, decide (idxI v l k ≥ 0) = has l v
 | [], k => rfl
 | a :: l, k => by
  unfold idxI
  rw [has, List.any_cons]
  cases h : eqV v a with
  | true =>
   rw [if_pos rfl]
   exact decide_eq_true (by omega)
  | false =>
   rw [if_neg (by simp)]
   exact idxI_ge v l (k + 1)
theorem slicesIndex_spec (xs : List Int) (v : Int) (h : xs.length ≤ 1099511627776) : Spec Tryz.prog 214 [ints xs, ci v] (ci (idxI v xs 0)) := by
 refine Spec_of mx Γ_ok Tryz.func214 rfl ?_
 conv => whnf
 refine ⟨[(0,0),(1,0),(4,0),(7,0),(8,0)], fun m s => ∃ (k : Nat) (e : Int), e = k ∧ m + k = xs.length ∧ idxI v xs 0 = idxI v (xs.drop k) k ∧
  s = ⟨17 + 2, [(0, ints xs), (1, ci v), (4, ci 0), (7, ci xs.length), (8, ci e)], []⟩, xs.length, ⟨0, 0, rfl, rfl, rfl, rfl⟩, ?_⟩
 rintro m s ⟨k, _, rfl, hm, hj, rfl⟩
 conv => whnf
 split <;> rename_i h1
 all_goals simp only [decide_eq_true_eq, decide_eq_false_iff_not] at h1
 ·conv => whnf
  have hk : k < xs.length := by omega
  rw [List.drop_eq_getElem_cons hk, idxI] at hj
  refine ⟨by omega, rows_len ciL_len xs, ?_⟩
  conv => whnf
  refine ⟨_, takeN_rp (k := k) ciL_len hk, ?_⟩
  conv => whnf
  generalize hb1 : (v == xs[k]) = b1
  have hb2 : eqV v xs[k] = b1 := by rw [← hb1, eqV, Bool.beq_comm]
  rw [hb2] at hj
  cases b1 with
  | true =>
   conv => whnf
   rw [hj]
   rfl
  | false =>
   conv => whnf
   exact ⟨m - 1, by omega, k + 1, _, wrap_id (by omega) (by omega), by omega, hj, rfl⟩
 ·conv => whnf
  rw [hj, drop_end (by omega)]
  rfl
theorem slicesContains_spec (xs : List Int) (v : Int) (h : xs.length ≤ 1099511627776) : Spec Tryz.prog 175 [ints xs, ci v] (cb (has xs v)) := by
 refine Spec_of mx Γ_ok Tryz.func175 rfl ?_
 conv => whnf
 refine ⟨_, slicesIndex_spec xs v h, .inl rfl, .inl ?_⟩
 conv => whnf
 exact congrArg cb (idxI_ge v xs 0)
def hasA (x : Int) (a : AtomT) : Bool := has a.2 x
def occurs (q : QueryT) (x : Int) : Bool := q.2.any (hasA x)
theorem occurs_spec (q : QueryT) (x : Int) (h : cQuery q ≤ 1048576) : Spec Tryz.prog 162 [vQuery q, ci x] (cb (occurs q x)) := by
 unfold cQuery cAtomS at h
 refine Spec_of mx Γ_ok Tryz.func162 rfl ?_
 conv => whnf
 refine ⟨[(1,0),(4,0),(8,0),(9,0),(10,0)], fun m s => ∃ (k : Nat) (e : Int), e = k ∧ m + k = q.2.length ∧ occurs q x = (q.2.drop k).any (hasA x) ∧
  s = ⟨19, [(1, ci x), (4, cb false), (8, vAtomS q.2), (9, ci q.2.length), (10, ci e)], []⟩, q.2.length, ⟨0, 0, rfl, rfl, rfl, rfl⟩, ?_⟩
 rintro m s ⟨k, _, rfl, hm, hj, rfl⟩
 conv => whnf
 split <;> rename_i h1
 all_goals simp only [decide_eq_true_eq, decide_eq_false_iff_not] at h1
 ·conv => whnf
  have hk : k < q.2.length := by omega
  have hb := sumB_one (f := cAtom) hk
  have hcb : cAtom q.2[k] = q.2[k].2.length := rfl
  rw [drop_any hk] at hj
  refine ⟨by omega, rows_len rAtom_len _, ?_⟩
  conv => whnf
  refine ⟨_, takeN_rp (k := k) rAtom_len hk, ?_⟩
  conv => whnf
  refine ⟨_, slicesContains_spec q.2[k].2 x (by omega), .inl rfl, .inl ?_⟩
  conv => whnf
  generalize hb1 : has q.2[k].2 x = b1
  rw [show hasA x q.2[k] = b1 from hb1] at hj
  cases b1 with
  | true =>
   conv => whnf
   rw [hj]
   rfl
  | false =>
   conv => whnf
   rw [Bool.false_or] at hj
   exact ⟨m - 1, by omega, k + 1, _, wrap_id (by omega) (by omega), by omega, hj, rfl⟩
 ·conv => whnf
  rw [hj, drop_end (by omega)]
  rfl
def safeV (q : QueryT) (x : Int) : Bool := !(isVar x && !occurs q x)
theorem isSafe_spec (q : QueryT) (h : cQuery q ≤ 1048576) : Spec Tryz.prog 86 [vQuery q] (cb (q.1.all (safeV q))) := by
 have h' := h
 unfold cQuery at h'
 refine Spec_of mx Γ_ok Tryz.func86 rfl ?_
 conv => whnf
 refine ⟨[(1,0),(2,0),(6,0),(7,0),(8,0)], fun m s => ∃ (k : Nat) (e : Int), e = k ∧ m + k = q.1.length ∧ q.1.all (safeV q) = (q.1.drop k).all (safeV q) ∧
  s = ⟨21, [(1, .ptr 0 0), (2, cb false), (6, ints q.1), (7, ci q.1.length), (8, ci e)], [some ⟨true, rQuery q⟩]⟩, q.1.length, ⟨0, 0, rfl, rfl, rfl, rfl⟩, ?_⟩
 rintro m s ⟨k, _, rfl, hm, hj, rfl⟩
 conv => whnf
 split <;> rename_i h1
 all_goals simp only [decide_eq_true_eq, decide_eq_false_iff_not] at h1
 ·conv => whnf
  have hk : k < q.1.length := by omega
  rw [drop_all hk, safeV] at hj
  refine ⟨by omega, rows_len ciL_len _, ?_⟩
  conv => whnf
  refine ⟨_, takeN_rp (k := k) ciL_len hk, ?_⟩
  conv => whnf
  refine ⟨_, implIsVar_spec q.1[k], .inl rfl, .inl ?_⟩
  conv => whnf
  generalize isVar q.1[k] = b1 at hj
  cases b1 with
  | false =>
   conv => whnf
   exact ⟨m - 1, by omega, k + 1, _, wrap_id (by omega) (by omega), by omega, hj, rfl⟩
  | true =>
  conv => whnf
  refine ⟨_, occurs_spec q q.1[k] h, .inl rfl, .inl ?_⟩
  conv => whnf
  generalize occurs q q.1[k] = b2 at hj
  cases b2 with
  | false =>
   conv => whnf
   rw [hj]
   rfl
  | true =>
   conv => whnf
   exact ⟨m - 1, by omega, k + 1, _, wrap_id (by omega) (by omega), by omega, hj, rfl⟩
 ·conv => whnf
  rw [hj, drop_end (by omega)]
  rfl
def fineQ (s : List Int) (q : QueryT) (n : Int) : Bool := isSchema s && (terms3 q.1 && (inR q.2.length 1 n && (q.2.all (isAtom s) && q.1.all (safeV q))))
def isQuery (s : List Int) (q : QueryT) : Bool := fineQ s q 4
theorem implIsQuery_spec (s : List Int) (q : QueryT) (hs : cSchema s ≤ 1048576) (h : cQuery q ≤ 1048576) : Spec Tryz.prog 65 [vSchema s, vQuery q] (cb (isQuery s q)) := by
 unfold cSchema at hs
 have h' := h
 unfold cQuery cAtomS at h'
 refine Spec_of mx Γ_ok Tryz.func65 rfl ?_
 conv => whnf
 refine ⟨_, implIsSchema_spec s (by omega), .inl rfl, .inl ?_⟩
 conv => whnf
 unfold isQuery fineQ
 generalize isSchema s = b1
 cases b1 with
 | false =>
  conv => whnf
  rfl
 | true =>
 conv => whnf
 generalize hb2 : decide ((q.1.length : Int) > 3) = b2
 cases b2 with
 | true =>
  conv => whnf
  have := of_decide_eq_true hb2
  rw [terms3, decide_eq_false (p := q.1.length ≤ 3) (by omega), Bool.and_false]
  rfl
 | false =>
 conv => whnf
 have h3 := of_decide_eq_false hb2
 rw [terms3, decide_eq_true (p := q.1.length ≤ 3) (by omega), Bool.and_true]
 refine ⟨_, areTerms_spec q.1 (by omega), .inl rfl, .inl ?_⟩
 conv => whnf
 generalize q.1.all isTerm = b3
 cases b3 with
 | false =>
  conv => whnf
  rfl
 | true =>
 conv => whnf
 refine ⟨_, within_spec (q.2.length : Int) 1 4, .inl rfl, .inl ?_⟩
 conv => whnf
 generalize inR (q.2.length : Int) 1 4 = b4
 cases b4 with
 | false =>
  conv => whnf
  rfl
 | true =>
 conv => whnf
 refine ⟨[(2,0),(3,0),(4,0),(30,0),(31,0),(32,0)], fun m st => ∃ (k : Nat) (e : Int), e = k ∧ m + k = q.2.length ∧ q.2.all (isAtom s) = (q.2.drop k).all (isAtom s) ∧
  st = ⟨43, [(2, .ptr 0 0), (3, .ptr 1 0), (4, cb false), (30, vAtomS q.2), (31, ci q.2.length), (32, ci e)], [some ⟨true, [ints s]⟩, some ⟨true, rQuery q⟩]⟩, q.2.length, ⟨0, 0, rfl, rfl, rfl, rfl⟩, ?_⟩
 rintro m st ⟨k, _, rfl, hm, hj, rfl⟩
 conv => whnf
 split <;> rename_i h1
 all_goals simp only [decide_eq_true_eq, decide_eq_false_iff_not] at h1
 ·conv => whnf
  have hk : k < q.2.length := by omega
  have hb := sumB_one (f := cAtom) hk
  have hcb : cAtom q.2[k] = q.2[k].2.length := rfl
  rw [drop_all hk] at hj
  refine ⟨by omega, rows_len rAtom_len _, ?_⟩
  conv => whnf
  refine ⟨_, takeN_rp (k := k) rAtom_len hk, ?_⟩
  conv => whnf
  refine ⟨_, implIsAtom_spec s q.2[k] (by omega) (by omega), .inl rfl, .inl ?_⟩
  conv => whnf
  generalize isAtom s q.2[k] = b5 at hj
  cases b5 with
  | false =>
   conv => whnf
   rw [hj]
   rfl
  | true =>
   conv => whnf
   rw [Bool.true_and] at hj
   exact ⟨m - 1, by omega, k + 1, _, wrap_id (by omega) (by omega), by omega, hj, rfl⟩
 ·conv => whnf
  rw [drop_end (by omega)] at hj
  rw [hj]
  refine ⟨_, isSafe_spec q h, .inl rfl, .inl ?_⟩
  conv => whnf
  rfl
end Go.Proofs.YtboolngaahifdaaGreatD
