/- Contracts and plain laws of this seat; no condition. -/
import Derived.Test.YtcjdfeafcmfgpaaGreatQ17
import Derived.Test.YtcjdfeafcmfgpaaGreatQ12
set_option linter.unusedVariables false
set_option linter.unusedSimpArgs false
set_option maxRecDepth 100000
namespace Go.Proofs.YtcjdfeafcmfgpaaGreatD
open Go Go.Proofs
theorem wrap_pred (n : Nat) (h : n ≤ 1000000 := by omega) : IntKind.i64.wrap (((n + 1 : Nat) : Int) - 1) = (n : Int) := by
 rw [wrap_id (by omega) (by omega)]; omega
def schGo : Nat → List Int → Cur → List Int × Cur
 | 0, a, c => (a, c)
 | n + 1, a, c => schGo n (a ++ [IntKind.i64.wrap (1 + (belowP c 3).1)]) (belowP c 3).2
def schP (c : Cur) : List Int × Cur := schGo (belowP c 3).1.toNat [2] (belowP c 3).2
theorem schGo_ok : ∀ (n : Nat) (a : List Int) (c : Cur), goodC c → (∀ x ∈ a, 1 ≤ x ∧ x ≤ 3) → goodC (schGo n a c).2 ∧ (∀ x ∈ (schGo n a c).1, 1 ≤ x ∧ x ≤ 3) ∧ (schGo n a c).1.length = a.length + n
 | 0, a, c, hc, ha => ⟨hc, ha, rfl⟩
 | n + 1, a, c, hc, ha => by
  have hb := belowP_bd c (n := 3) (by omega) (by omega)
  have hw : IntKind.i64.wrap (1 + (belowP c 3).1) = 1 + (belowP c 3).1 := wrap_id (by omega) (by omega)
  obtain ⟨h1, h2, h3⟩ := schGo_ok n (a ++ [IntKind.i64.wrap (1 + (belowP c 3).1)]) (belowP c 3).2 (belowP_good hc 3) (fun x hx => by
   rcases List.mem_append.1 hx with hx | hx
   ·exact ha x hx
   ·have : x = IntKind.i64.wrap (1 + (belowP c 3).1) := by simpa using hx
    rw [this, hw]; omega)
  refine ⟨h1, h2, ?_⟩
  simp only [schGo, h3, List.length_append, List.length_cons, List.length_nil]
  omega
theorem schP_ok {c : Cur} (hc : goodC c) : goodC (schP c).2 ∧ (∀ x ∈ (schP c).1, 1 ≤ x ∧ x ≤ 3) ∧ 1 ≤ (schP c).1.length ∧ (schP c).1.length ≤ 3 := by
 have hb := belowP_bd c (n := 3) (by omega) (by omega)
 obtain ⟨h1, h2, h3⟩ := schGo_ok (belowP c 3).1.toNat [2] (belowP c 3).2 (belowP_good hc 3) (fun x hx => by
  have : x = 2 := by simpa using hx
  omega)
 refine ⟨h1, h2, ?_, ?_⟩
 ·unfold schP; rw [h3]; simp
 ·unfold schP; rw [h3]; simp; omega
set_option maxHeartbeats 2000000 in
theorem l3Schema_spec (c : Cur) (h : goodC c) : SpecR Tryz.prog 206 [vCur c] (wSchema (schP c).1) [vCur (schP c).2] := by
 refine SpecL_of mx Γ_ok 1 Tryz.func206 rfl rfl (by omega) ?_
 conv => whnf
 refine .inr (.inl ?_)
 conv => whnf
 refine ⟨curC_ne c, ?_⟩
 conv => whnf
 refine ⟨_, _, _, l1Below_spec c 3 h (by omega), ?_⟩
 conv => whnf
 refine .inl ?_
 conv => whnf
 have hb := belowP_bd c (n := 3) (by omega) (by omega)
 unfold schP
 have hc := belowP_good h 3
 generalize (belowP c 3).2 = c0 at hc ⊢
 obtain ⟨n0, hn0⟩ : ∃ n : Nat, (belowP c 3).1 = n := ⟨(belowP c 3).1.toNat, by omega⟩
 rw [hn0] at hb ⊢
 rw [Int.toNat_natCast]
 refine ⟨[(0,0),(2,0),(3,0),(4,0)], fun m st => ∃ (n : Nat) (e : Int) (a : List Int) (c1 : Cur) (k : Nat) (cc r : List V), e = n ∧ m = n ∧ n ≤ 2 ∧ goodC c1 ∧ schGo n0 [2] c0 = schGo n a c1 ∧ k = a.length ∧ a.length + n ≤ 3 ∧ cc = curC c1 ∧ r = rows ciL a ∧
  st = ⟨24, [(0, .ptr 0 0), (2, .ptr 1 0), (3, .ptr 2 0), (4, ci e)], [some ⟨false, cc⟩, some ⟨true, [cnil]⟩, some ⟨true, [.own 3 1 0 k k none]⟩, some ⟨false, r⟩]⟩, n0, ⟨n0, n0, [2], c0, 1, _, _, rfl, rfl, by omega, hc, rfl, rfl, by simp; omega, rfl, rfl, by kernel_rfl⟩, ?_⟩
 rintro m st ⟨n, _, a, c1, k, _, _, rfl, hm, hn2, hc1, hgo, hk, hal, rfl, rfl, rfl⟩
 conv => whnf
 split <;> rename_i h1
 all_goals simp only [decide_eq_true_eq, decide_eq_false_iff_not] at h1
 ·obtain ⟨n', rfl⟩ : ∃ n', n = n' + 1 := ⟨n - 1, by omega⟩
  conv => whnf
  refine .inr (.inl ?_)
  conv => whnf
  refine ⟨curC_ne c1, ?_⟩
  conv => whnf
  refine ⟨_, _, _, l1Below_spec c1 3 hc1 (by omega), ?_⟩
  conv => whnf
  refine .inl ?_
  conv => whnf
  refine ⟨_, rfl, .inl ⟨flat1 rfl, ?_⟩⟩
  conv => whnf
  refine ⟨by omega, by rw [rows_len ciL_len, hk], _, snoc_ci _ _, ?_⟩
  conv => whnf
  refine ⟨m - 1, by omega, n', _, a ++ [IntKind.i64.wrap (1 + (belowP c1 3).1)], (belowP c1 3).2, k + 1, _, _, wrap_pred n', by omega, by omega, belowP_good hc1 3, hgo, by simp [hk], by simp; omega, rfl, rfl, by kernel_rfl⟩
 ·have h0 : n = 0 := by omega
  subst h0
  conv => whnf
  simp only [schGo] at hgo
  rw [hgo]
  refine ⟨by rw [rows_len ciL_len, hk], ?_⟩
  conv => whnf
  refine ⟨?_, curC_ne c1, rfl⟩
  rw [hk]; rfl
def argGo : Nat → List Int → Cur → List Int × Cur
 | 0, a, c => (a, c)
 | n + 1, a, c => argGo n (a ++ [(belowP c 4).1]) (belowP c 4).2
def factP (s : List Int) (c : Cur) : (Int × List Int) × Cur :=
 let r := belowP c s.length
 let w := argGo (s.getD r.1.toNat 0).toNat [] r.2
 ((r.1, w.1), w.2)
theorem argGo_ok : ∀ (n : Nat) (a : List Int) (c : Cur), goodC c → goodC (argGo n a c).2 ∧ (argGo n a c).1.length = a.length + n
 | 0, a, c, hc => ⟨hc, rfl⟩
 | n + 1, a, c, hc => by
  obtain ⟨h1, h3⟩ := argGo_ok n (a ++ [(belowP c 4).1]) (belowP c 4).2 (belowP_good hc 4)
  refine ⟨h1, ?_⟩
  simp only [argGo, h3, List.length_append, List.length_cons, List.length_nil]
  omega
def sOk (s : List Int) : Prop := (∀ x ∈ s, 1 ≤ x ∧ x ≤ 3) ∧ 1 ≤ s.length ∧ s.length ≤ 4
theorem sOk_at {s : List Int} (h : sOk s) {k : Nat} (hk : k < s.length) : 1 ≤ s[k] ∧ s[k] ≤ 3 := h.1 _ (List.getElem_mem hk)
theorem below_idx {s : List Int} (h : sOk s) (c : Cur) : ∃ k : Nat, (belowP c s.length).1 = k ∧ k < s.length := by
 have h1 := h.2.1
 have h2 := h.2.2
 have hb := belowP_bd c (n := s.length) (by omega) (by omega)
 exact ⟨(belowP c s.length).1.toNat, by omega, by omega⟩
theorem factP_ok {s : List Int} (hs : sOk s) {c : Cur} (hc : goodC c) : goodC (factP s c).2 ∧ (factP s c).1.2.length ≤ 3 := by
 obtain ⟨k, h1, h2⟩ := below_idx hs c
 obtain ⟨g1, g2⟩ := argGo_ok (s.getD k 0).toNat [] (belowP c s.length).2 (belowP_good hc _)
 have h3 := sOk_at hs h2
 unfold factP
 simp only [h1, Int.toNat_natCast]
 refine ⟨g1, ?_⟩
 rw [g2, getD_at h2]
 simp only [List.length_nil]
 omega
set_option maxHeartbeats 2000000 in
theorem l5Fact_spec (s : List Int) (c : Cur) (hs : sOk s) (h : goodC c) : SpecR Tryz.prog 276 [vCur c, vSchema s] (wFact (factP s c).1) [vCur (factP s c).2, vSchema s] := by
 refine SpecL_of mx Γ_ok 2 Tryz.func276 rfl rfl (by omega) ?_
 conv => whnf
 refine .inr (.inl ?_)
 conv => whnf
 refine ⟨curC_ne c, ?_⟩
 conv => whnf
 have hsl := hs.2.2
 refine ⟨_, _, _, l1Below_spec c s.length h (by omega), ?_⟩
 conv => whnf
 refine .inl ?_
 conv => whnf
 obtain ⟨q, hq, hql⟩ := below_idx hs c
 have hat := sOk_at hs hql
 unfold factP
 simp only [hq, Int.toNat_natCast, getD_at hql]
 have hc := belowP_good h s.length
 generalize (belowP c s.length).2 = c0 at hc ⊢
 obtain ⟨N, hN⟩ : ∃ N : Nat, s[q] = N := ⟨s[q].toNat, by omega⟩
 rw [hN, Int.toNat_natCast]
 have hN3 : N ≤ 3 := by omega
 refine ⟨[(0,0),(3,0),(4,0),(5,201),(6,0)], fun m st => ∃ (n i : Nat) (e : Int) (a : List Int) (c1 : Cur) (k : Nat) (cc r : List V), e = i ∧ m = n ∧ i + n = N ∧ goodC c1 ∧ argGo N [] c0 = argGo n a c1 ∧ k = a.length ∧ a.length = i ∧ cc = curC c1 ∧ r = rows ciL a ∧
  st = ⟨33, [(0, .ptr 0 0), (3, .ptr 2 0), (4, .ptr 3 0), (5, .ptr 4 0), (6, ci e)], [some ⟨false, cc⟩, none, some ⟨true, [ints s]⟩, some ⟨true, [ci 0, cnil]⟩, some ⟨true, [ci q, .own 5 1 0 k k none]⟩, some ⟨false, r⟩]⟩, N, ⟨N, 0, 0, [], c0, 0, _, _, rfl, rfl, by omega, hc, rfl, rfl, rfl, rfl, rfl, by kernel_rfl⟩, ?_⟩
 rintro m st ⟨n, i, _, a, c1, k, _, _, rfl, hm, hin, hc1, hgo, hk, hai, rfl, rfl, rfl⟩
 conv => whnf
 refine ⟨by omega, rows_len ciL_len _, ?_⟩
 conv => whnf
 refine ⟨_, takeN_rp (k := q) ciL_len hql, ?_⟩
 rw [hN]
 conv => whnf
 split <;> rename_i h1
 all_goals simp only [decide_eq_true_eq, decide_eq_false_iff_not] at h1
 ·obtain ⟨n', rfl⟩ : ∃ n', n = n' + 1 := ⟨n - 1, by omega⟩
  conv => whnf
  refine .inr (.inl ?_)
  conv => whnf
  refine ⟨curC_ne c1, ?_⟩
  conv => whnf
  refine ⟨_, _, _, l1Below_spec c1 4 hc1 (by omega), ?_⟩
  conv => whnf
  refine .inl ?_
  conv => whnf
  refine ⟨_, rfl, .inl ⟨flat1 rfl, ?_⟩⟩
  conv => whnf
  refine ⟨by omega, by rw [rows_len ciL_len, hk], _, snoc_ci _ _, ?_⟩
  conv => whnf
  refine ⟨m - 1, by omega, n', i + 1, _, a ++ [(belowP c1 4).1], (belowP c1 4).2, k + 1, _, _, wrap_id (by omega) (by omega), by omega, by omega, belowP_good hc1 4, hgo, by simp [hk], by simp; omega, rfl, rfl, by kernel_rfl⟩
 ·have h0 : n = 0 := by omega
  subst h0
  conv => whnf
  simp only [argGo] at hgo
  rw [hgo]
  refine ⟨by rw [rows_len ciL_len, hk], ?_⟩
  conv => whnf
  refine ⟨?_, curC_ne c1, rfl⟩
  rw [hk]; rfl
def dbDr (s : List Int) : Nat → List (Int × List Int) → Cur → List (Int × List Int) × Cur
 | 0, db, c => (db, c)
 | n + 1, db, c => dbDr s n (putF db (factP s c).1) (factP s c).2
def dbP (s : List Int) (c : Cur) : List (Int × List Int) × Cur := dbDr s (belowP c 9).1.toNat [] (belowP c 9).2
theorem mem_putGo' (f a : FactC) : ∀ (l : List FactC) (p : Bool), a ∈ putGo f p l → a = f ∨ a ∈ l
 | [], p, h => by cases p <;> simp [putGo] at h; exact .inl h
 | x :: r, p, h => by
  have ih := mem_putGo' f a r
  simp only [putGo] at h
  split at h
  ·rcases List.mem_append.1 h with h1 | h1
   ·split at h1
    ·cases h1
    ·exact .inl (by simpa using h1)
   ·rcases List.mem_cons.1 h1 with rfl | h1
    ·exact .inr (by simp)
    ·rcases ih true h1 with h2 | h2
     ·exact .inl h2
     ·exact .inr (by simp [h2])
  ·rcases List.mem_cons.1 h with rfl | h1
   ·exact .inr (by simp)
   ·rcases ih p h1 with h2 | h2
    ·exact .inl h2
    ·exact .inr (by simp [h2])
theorem sumB_cap' {α : Type} (f : α → Nat) (n : Nat) : ∀ (xs : List α), (∀ x ∈ xs, f x ≤ n) → sumB f xs ≤ n * xs.length
 | [], _ => by simp [sumB]
 | x :: xs, h => by
  have h1 := sumB_cap' f n xs fun y hy => h y (by simp [hy])
  have h2 := h x (by simp)
  simp only [sumB, List.length_cons, Nat.mul_add, Nat.mul_one]
  omega
def short3 (db : List FactC) : Prop := ∀ x ∈ db, x.2.length ≤ 3
theorem short3_size {db : List FactC} (h : short3 db) (hl : db.length ≤ 100) : cFactS db ≤ 1048576 := by
 have h1 := sumB_cap' cFact 3 db h
 show db.length + sumB cFact db ≤ _
 omega
theorem short3_put {db : List FactC} {f : FactC} (h : short3 db) (hf : f.2.length ≤ 3) : short3 (putF db f) ∧ (putF db f).length ≤ db.length + 1 := by
 refine ⟨fun x hx => ?_, putGo_length f db false⟩
 rcases mem_putGo' f x db false hx with rfl | h2
 ·exact hf
 ·exact h x h2
theorem dbDr_ok {s : List Int} (hs : sOk s) : ∀ (n : Nat) (db : List FactC) (c : Cur), goodC c → short3 db → goodC (dbDr s n db c).2 ∧ short3 (dbDr s n db c).1 ∧ (dbDr s n db c).1.length ≤ db.length + n
 | 0, db, c, hc, hd => ⟨hc, hd, Nat.le_refl _⟩
 | n + 1, db, c, hc, hd => by
  obtain ⟨f1, f2⟩ := factP_ok hs hc
  obtain ⟨p1, p2⟩ := short3_put hd f2
  obtain ⟨h1, h2, h3⟩ := dbDr_ok hs n (putF db (factP s c).1) (factP s c).2 f1 p1
  exact ⟨h1, h2, by simp only [dbDr]; omega⟩
theorem dbP_ok {s : List Int} (hs : sOk s) {c : Cur} (hc : goodC c) : goodC (dbP s c).2 ∧ short3 (dbP s c).1 ∧ (dbP s c).1.length ≤ 8 := by
 have hb := belowP_bd c (n := 9) (by omega) (by omega)
 obtain ⟨h1, h2, h3⟩ := dbDr_ok hs (belowP c 9).1.toNat [] (belowP c 9).2 (belowP_good hc 9) (fun x hx => by cases hx)
 exact ⟨h1, h2, by unfold dbP; simp only [List.length_nil] at h3; omega⟩
set_option maxHeartbeats 2000000 in
theorem l5Db_spec (s : List Int) (c : Cur) (hs : sOk s) (h : goodC c) : SpecR Tryz.prog 211 [vCur c, vSchema s] (wFactS (dbP s c).1) [vCur (dbP s c).2, vSchema s] := by
 refine SpecL_of mx Γ_ok 2 Tryz.func211 rfl rfl (by omega) ?_
 conv => whnf
 refine .inr (.inl ?_)
 conv => whnf
 refine ⟨curC_ne c, ?_⟩
 conv => whnf
 refine ⟨_, _, _, l1Below_spec c 9 h (by omega), ?_⟩
 conv => whnf
 refine .inl ?_
 conv => whnf
 have hb := belowP_bd c (n := 9) (by omega) (by omega)
 unfold dbP
 have hc := belowP_good h 9
 generalize (belowP c 9).2 = c0 at hc ⊢
 obtain ⟨n0, hn0⟩ : ∃ n : Nat, (belowP c 9).1 = n := ⟨(belowP c 9).1.toNat, by omega⟩
 rw [hn0] at hb ⊢
 rw [Int.toNat_natCast]
 refine ⟨[(0,0),(3,0),(4,0),(5,0),(6,0)], fun m st => ∃ (n : Nat) (e : Int) (db : List FactC) (c1 : Cur) (k : Nat) (cc r : List V), e = n ∧ m = n ∧ db.length + n ≤ 8 ∧ goodC c1 ∧ short3 db ∧ dbDr s n0 [] c0 = dbDr s n db c1 ∧ k = db.length ∧ cc = curC c1 ∧ r = rows tFact db ∧
  st = ⟨20, [(0, .ptr 0 0), (3, .ptr 2 0), (4, cnil), (5, .own 3 2 0 k k none), (6, ci e)], [some ⟨false, cc⟩, none, some ⟨true, [ints s]⟩, some ⟨false, r⟩]⟩, n0, ⟨n0, n0, [], c0, 0, _, _, rfl, rfl, by simp; omega, hc, (fun x hx => by cases hx), rfl, rfl, rfl, rfl, by kernel_rfl⟩, ?_⟩
 rintro m st ⟨n, _, db, c1, k, _, _, rfl, hm, hdn, hc1, hsh, hgo, hk, rfl, rfl, rfl⟩
 conv => whnf
 split <;> rename_i h1
 all_goals simp only [decide_eq_true_eq, decide_eq_false_iff_not] at h1
 ·obtain ⟨n', rfl⟩ : ∃ n', n = n' + 1 := ⟨n - 1, by omega⟩
  obtain ⟨f1, f2⟩ := factP_ok hs hc1
  obtain ⟨p1, p2⟩ := short3_put hsh f2
  conv => whnf
  refine .inr (.inl ?_)
  conv => whnf
  refine ⟨curC_ne c1, ?_⟩
  conv => whnf
  refine ⟨_, _, _, l5Fact_spec s c1 hs hc1, ?_⟩
  conv => whnf
  refine .inl ?_
  rw [wFact_ro]
  conv => whnf
  refine .inl ?_
  conv => whnf
  refine ⟨_, _, takeN_all (by rw [rows_len tFact_len, hk]), roVs_rows tFact_ro _, ?_⟩
  conv => whnf
  have hsp := l5Put_spec db (factP s c1).1 (short3_size hsh (by omega)) (by omega)
  unfold vFactS at hsp
  rw [← hk] at hsp
  refine ⟨_, hsp, .inr (closed_wFactS _), .inr ?_⟩
  conv => whnf
  refine ⟨m - 1, by omega, n', _, putF db (factP s c1).1, (factP s c1).2, _, _, _, wrap_pred n', by omega, by omega, f1, p1, hgo, rfl, rfl, rfl, by kernel_rfl⟩
 ·have h0 : n = 0 := by omega
  subst h0
  conv => whnf
  simp only [dbDr] at hgo
  rw [hgo]
  refine ⟨by rw [rows_len tFact_len, hk], ?_⟩
  conv => whnf
  refine ⟨?_, curC_ne c1, rfl⟩
  rw [hk]; rfl
theorem l1Once_spec (c : Cur) (n : Int) (h : goodC c) (hn : n ≤ 256) : SpecR Tryz.prog 176 [vCur c, ci n] (cb ((belowP c n).1 == 0)) [vCur (belowP c n).2, ci n] := by
 refine SpecL_of mx Γ_ok 2 Tryz.func176 rfl rfl (by omega) ?_
 conv => whnf
 refine .inr (.inl ?_)
 conv => whnf
 refine ⟨curC_ne c, ?_⟩
 conv => whnf
 refine ⟨_, _, _, l1Below_spec c n h hn, ?_⟩
 conv => whnf
 refine .inl ?_
 conv => whnf
 exact ⟨rfl, curC_ne _, rfl⟩
theorem l1PickInt_spec (c : Cur) (xs : List Int) (h : goodC c) (h1 : 1 ≤ xs.length) (h2 : xs.length ≤ 200) : SpecR Tryz.prog 167 [vCur c, intsT xs] (ci (xs.getD (belowP c xs.length).1.toNat 0)) [vCur (belowP c xs.length).2, intsT xs] := by
 refine SpecL_of mx Γ_ok 2 Tryz.func167 rfl rfl (by omega) ?_
 conv => whnf
 refine .inr (.inl ?_)
 conv => whnf
 refine ⟨curC_ne c, ?_⟩
 conv => whnf
 refine ⟨_, _, _, l1Below_spec c xs.length h (by omega), ?_⟩
 conv => whnf
 refine .inl ?_
 conv => whnf
 have hb := belowP_bd c (n := xs.length) (by omega) (by omega)
 generalize (belowP c xs.length).2 = c1
 obtain ⟨k, hk⟩ : ∃ k : Nat, (belowP c xs.length).1 = k := ⟨(belowP c xs.length).1.toNat, by omega⟩
 rw [hk] at hb ⊢
 have hkl : k < xs.length := by omega
 rw [Int.toNat_natCast, getD_at hkl]
 refine ⟨by omega, ?_⟩
 conv => whnf
 refine ⟨_, takeN_own (k := k) (d := 0) (m := 1) (xs := xs) ciL_len (Nat.zero_add _) hkl (by omega) rfl, ?_⟩
 conv => whnf
 refine ⟨rfl, curC_ne _, by rw [rows_len ciL_len], rfl⟩
def keyP (s : List Int) (c : Cur) : (Int × List Int) × Cur :=
 let r := belowP c s.length
 let n := s.getD r.1.toNat 0
 let a := belowP r.2 n
 if a.1 + 1 < n then
  let o := belowP a.2 4
  ((r.1, if o.1 == 0 then [a.1, a.1 + 1] else [a.1]), o.2)
 else ((r.1, [a.1]), a.2)
theorem keyP_ok {s : List Int} (hs : sOk s) {c : Cur} (hc : goodC c) : goodC (keyP s c).2 ∧ (keyP s c).1.2.length ≤ 2 := by
 unfold keyP
 simp only
 split
 ·refine ⟨belowP_good (belowP_good (belowP_good hc _) _) _, ?_⟩
  split <;> simp
 ·exact ⟨belowP_good (belowP_good hc _) _, by simp⟩
set_option maxHeartbeats 4000000 in
theorem l12Key_spec (s : List Int) (c : Cur) (hs : sOk s) (h : goodC c) : SpecR Tryz.prog 278 [vCur c, vSchema s] (wKey (keyP s c).1) [vCur (keyP s c).2, vSchema s] := by
 refine SpecL_of mx Γ_ok 2 Tryz.func278 rfl rfl (by omega) ?_
 conv => whnf
 refine .inr (.inl ?_)
 conv => whnf
 refine ⟨curC_ne c, ?_⟩
 conv => whnf
 have hsl := hs.2.2
 refine ⟨_, _, _, l1Below_spec c s.length h (by omega), ?_⟩
 conv => whnf
 refine .inl ?_
 conv => whnf
 obtain ⟨q, hq, hql⟩ := below_idx hs c
 have hat := sOk_at hs hql
 unfold keyP
 simp only [hq, Int.toNat_natCast, getD_at hql]
 have hc := belowP_good h s.length
 generalize (belowP c s.length).2 = c0 at hc ⊢
 refine ⟨by omega, rows_len ciL_len _, ?_⟩
 conv => whnf
 refine ⟨_, takeN_rp (k := q) ciL_len hql, ?_⟩
 generalize hNq : s[q] = N at hat ⊢
 conv => whnf
 refine .inr (.inl ?_)
 conv => whnf
 refine ⟨curC_ne c0, ?_⟩
 conv => whnf
 refine ⟨_, _, _, l1Below_spec c0 N hc (by omega), ?_⟩
 conv => whnf
 refine .inl ?_
 conv => whnf
 have hb := belowP_bd c0 (n := N) (by omega) (by omega)
 have hc1 := belowP_good hc N
 generalize (belowP c0 N).2 = c1 at hc1 ⊢
 generalize (belowP c0 N).1 = a at hb ⊢
 have hw : IntKind.i64.wrap (a + 1) = a + 1 := wrap_id (by omega) (by omega)
 refine ⟨[1001, 0, 1, 2, 3, 4, 5, 6, 7, 8, 9, 10, 11, 12, 13, 14, 15, 1000, 1000], by kernel_rfl, ?_⟩
 conv => whnf
 refine ⟨by omega, ?_⟩
 conv => whnf
 refine ⟨_, rfl, ?_⟩
 conv => whnf
 refine ⟨by omega, rows_len ciL_len _, ?_⟩
 conv => whnf
 refine ⟨_, takeN_rp (k := q) ciL_len hql, ?_⟩
 rw [hNq, hw]
 conv => whnf
 generalize hd : decide (a + 1 < N) = d
 cases d with
 | false =>
  have hd' := of_decide_eq_false hd
  simp only [if_neg hd']
  conv => whnf
  refine ⟨rfl, ?_⟩
  conv => whnf
  exact ⟨rfl, curC_ne _, rfl⟩
 | true =>
  have hd' := of_decide_eq_true hd
  simp only [if_pos hd']
  conv => whnf
  refine .inr (.inl ?_)
  conv => whnf
  refine ⟨curC_ne c1, ?_⟩
  conv => whnf
  refine ⟨fun k => noSubT_lk (by kernel_rfl) k, rfl, _, _, _, l1Once_spec c1 4 hc1 (by omega), ?_⟩
  conv => whnf
  refine .inl ?_
  conv => whnf
  generalize (belowP c1 4).2 = c2
  generalize ((belowP c1 4).1 == 0) = o
  cases o with
  | false =>
   simp only [Bool.false_eq_true, if_false]
   conv => whnf
   refine ⟨rfl, ?_⟩
   conv => whnf
   exact ⟨rfl, curC_ne _, rfl⟩
  | true =>
   simp only [if_true]
   conv => whnf
   refine ⟨List.range 11, by kernel_rfl, ?_⟩
   conv => whnf
   refine ⟨by omega, ?_⟩
   conv => whnf
   refine ⟨_, rfl, ?_⟩
   conv => whnf
   refine ⟨_, rfl, .inl ⟨flat1 rfl, ?_⟩⟩
   conv => whnf
   refine ⟨by omega, rfl, _, rfl, ?_⟩
   rw [hw]
   conv => whnf
   refine ⟨rfl, ?_⟩
   conv => whnf
   exact ⟨rfl, curC_ne _, rfl⟩
def keysGo (s : List Int) : Nat → List (Int × List Int) → Cur → List (Int × List Int) × Cur
 | 0, ks, c => (ks, c)
 | n + 1, ks, c => keysGo s n (ks ++ [(keyP s c).1]) (keyP s c).2
def keysP (s : List Int) (c : Cur) : List (Int × List Int) × Cur := keysGo s (belowP c 3).1.toNat [] (belowP c 3).2
def short2 (ks : List (Int × List Int)) : Prop := ∀ x ∈ ks, x.2.length ≤ 3
theorem keysGo_ok {s : List Int} (hs : sOk s) : ∀ (n : Nat) (ks : List (Int × List Int)) (c : Cur), goodC c → short2 ks → goodC (keysGo s n ks c).2 ∧ short2 (keysGo s n ks c).1 ∧ (keysGo s n ks c).1.length = ks.length + n
 | 0, ks, c, hc, hd => ⟨hc, hd, rfl⟩
 | n + 1, ks, c, hc, hd => by
  obtain ⟨f1, f2⟩ := keyP_ok hs hc
  obtain ⟨h1, h2, h3⟩ := keysGo_ok hs n (ks ++ [(keyP s c).1]) (keyP s c).2 f1 (fun x hx => by
   rcases List.mem_append.1 hx with hx | hx
   ·exact hd x hx
   ·have : x = (keyP s c).1 := by simpa using hx
    rw [this]; omega)
  refine ⟨h1, h2, ?_⟩
  simp only [keysGo, h3, List.length_append, List.length_cons, List.length_nil]
  omega
theorem solid_tKey (k : Int × List Int) : ∀ c ∈ tKey k, solid c = true := by
 intro c hc
 simp only [tKey, List.mem_cons, List.not_mem_nil, or_false] at hc
 rcases hc with rfl | rfl <;> rfl
theorem short2_size {ks : List (Int × List Int)} (h : short2 ks) (hl : ks.length ≤ 100) : cKeyS ks ≤ 1048576 := by
 have h1 := sumB_cap' cKey 3 ks h
 show ks.length + sumB cKey ks ≤ _
 omega
set_option maxHeartbeats 2000000 in
theorem l12Keys_spec (s : List Int) (c : Cur) (hs : sOk s) (h : goodC c) : SpecR Tryz.prog 218 [vCur c, vSchema s] (wKeyS (keysP s c).1) [vCur (keysP s c).2, vSchema s] := by
 refine SpecL_of mx Γ_ok 2 Tryz.func218 rfl rfl (by omega) ?_
 conv => whnf
 refine .inr (.inl ?_)
 conv => whnf
 refine ⟨curC_ne c, ?_⟩
 conv => whnf
 refine ⟨_, _, _, l1Below_spec c 3 h (by omega), ?_⟩
 conv => whnf
 refine .inl ?_
 conv => whnf
 have hb := belowP_bd c (n := 3) (by omega) (by omega)
 unfold keysP
 have hc := belowP_good h 3
 generalize (belowP c 3).2 = c0 at hc ⊢
 obtain ⟨n0, hn0⟩ : ∃ n : Nat, (belowP c 3).1 = n := ⟨(belowP c 3).1.toNat, by omega⟩
 rw [hn0] at hb ⊢
 rw [Int.toNat_natCast]
 refine ⟨[(0,0),(3,0),(4,0),(5,0),(6,0)], fun m st => ∃ (n : Nat) (e : Int) (ks : List (Int × List Int)) (c1 : Cur) (k : Nat) (cc r : List V), e = n ∧ m = n ∧ ks.length + n ≤ 2 ∧ goodC c1 ∧ short2 ks ∧ keysGo s n0 [] c0 = keysGo s n ks c1 ∧ k = ks.length ∧ cc = curC c1 ∧ r = rows tKey ks ∧
  st = ⟨23, [(0, .ptr 0 0), (3, .ptr 2 0), (4, cnil), (5, .own 3 2 0 k k none), (6, ci e)], [some ⟨false, cc⟩, none, some ⟨true, [ints s]⟩, some ⟨false, r⟩]⟩, n0, ⟨n0, n0, [], c0, 0, _, _, rfl, rfl, by simp; omega, hc, (fun x hx => by cases hx), rfl, rfl, rfl, rfl, by kernel_rfl⟩, ?_⟩
 rintro m st ⟨n, _, ks, c1, k, _, _, rfl, hm, hdn, hc1, hsh, hgo, hk, rfl, rfl, rfl⟩
 conv => whnf
 split <;> rename_i h1
 all_goals simp only [decide_eq_true_eq, decide_eq_false_iff_not] at h1
 ·obtain ⟨n', rfl⟩ : ∃ n', n = n' + 1 := ⟨n - 1, by omega⟩
  obtain ⟨f1, f2⟩ := keyP_ok hs hc1
  conv => whnf
  refine .inr (.inl ?_)
  conv => whnf
  refine ⟨curC_ne c1, ?_⟩
  conv => whnf
  refine ⟨_, _, _, l12Key_spec s c1 hs hc1, ?_⟩
  conv => whnf
  refine .inr ?_
  conv => whnf
  refine ⟨by rw [rows_len ciL_len], ?_⟩
  conv => whnf
  refine ⟨_, rfl, .inr ⟨solid_tKey (keyP s c1).1, ?_⟩⟩
  conv => whnf
  refine ⟨by omega, by rw [rows_len tKey_len, hk], _, snoc_rows tKey _ (keyP s c1).1, ?_⟩
  conv => whnf
  refine ⟨m - 1, by omega, n', _, ks ++ [(keyP s c1).1], (keyP s c1).2, k + 1, _, _, wrap_pred n', by omega, by simp; omega, f1, fun x hx => ?_, hgo, by simp [hk], rfl, rfl, by kernel_rfl⟩
  rcases List.mem_append.1 hx with hx | hx
  ·exact hsh x hx
  ·have : x = (keyP s c1).1 := by simpa using hx
   rw [this]; omega
 ·have h0 : n = 0 := by omega
  subst h0
  conv => whnf
  simp only [keysGo] at hgo
  rw [hgo]
  refine ⟨by rw [rows_len tKey_len, hk], ?_⟩
  conv => whnf
  refine ⟨?_, curC_ne c1, rfl⟩
  rw [hk]; rfl
theorem sOk_schema {s : List Int} (h : sOk s) : isSchema s = true := by
 simp only [isSchema, Bool.and_eq_true]
 refine ⟨List.all_eq_true.2 fun x hx => ?_, ?_⟩
 ·have := h.1 x hx
  simp only [inR, Bool.and_eq_true, decide_eq_true_eq]
  exact this
 ·have h1 := h.2.1
  have h2 := h.2.2
  simp only [inR, Bool.and_eq_true, decide_eq_true_eq]
  omega
theorem l4Safe_spec (s : List Int) (hs : sOk s) : Spec Tryz.prog 219 [vSchema s] (vSchema s) := by
 have h2 := hs.2.2
 refine Spec_of mx Γ_ok Tryz.func219 rfl ?_
 conv => whnf
 refine ⟨_, specIsSchema_spec s (by omega), .inl rfl, .inl ?_⟩
 rw [sOk_schema hs]
 conv => whnf
 rfl
theorem ints_roV (s : List Int) : roV (vSchema s) = vSchema s := by
 show V.agg [.ro _ (roVs _)] = _
 rw [roVs_ci]; rfl
end Go.Proofs.YtcjdfeafcmfgpaaGreatD
