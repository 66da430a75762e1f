/- Contracts of functions and plain laws that a proof of this seat rests on; no condition. -/
import Derived.Test.YtcjdfeafcmfgpaaGreatQ20
import Derived.Test.YtcjdfeafcmfgpaaGreatQ12
import Derived.Test.YtcjdfeafcmfgpaaGreatQ11
import Derived.Test.YtcjdfeafcmfgpaaGreatQ19
set_option linter.unusedVariables false
set_option linter.unusedSimpArgs false
set_option maxRecDepth 100000
namespace Go.Proofs.YtcjdfeafcmfgpaaGreatD
open Go Go.Proofs
theorem wrap_pred (n : Nat) (h : n ≤ 1000000 := by omega) : IntKind.i64.wrap (((n + 1 : Nat) : Int) - 1) = (n : Int) := by
  rw [wrap_id (by omega) (by omega)]; omega
def schGo : Nat → List Int → Cur → List Int × Cur
  | 0, a, c => (a, c)
  | n + 1, a, c => schGo n (a ++ [IntKind.i64.wrap (1 + (belowP c 3).1)]) (belowP c 3).2
def schP (c : Cur) : List Int × Cur := schGo (belowP c 3).1.toNat [2] (belowP c 3).2
theorem schGo_ok : ∀ (n : Nat) (a : List Int) (c : Cur), goodC c → (∀ x ∈ a, 1 ≤ x ∧ x ≤ 3) → goodC (schGo n a c).2 ∧ (∀ x ∈ (schGo n a c).1, 1 ≤ x ∧ x ≤ 3) ∧ (schGo n a c).1.length = a.length + n
  | 0, a, c, hc, ha => ⟨hc, ha, rfl⟩
  | n + 1, a, c, hc, ha => by
    have hb := belowP_bd c (n := 3) (by omega) (by omega)
    have hw : IntKind.i64.wrap (1 + (belowP c 3).1) = 1 + (belowP c 3).1 := wrap_id (by omega) (by omega)
    obtain ⟨h1, h2, h3⟩ := schGo_ok n (a ++ [IntKind.i64.wrap (1 + (belowP c 3).1)]) (belowP c 3).2 (belowP_good hc 3) (fun x hx => by
      rcases List.mem_append.1 hx with hx | hx
      · exact ha x hx
      · have : x = IntKind.i64.wrap (1 + (belowP c 3).1) := by simpa using hx
        rw [this, hw]; omega)
    refine ⟨h1, h2, ?_⟩
    simp only [schGo, h3, List.length_append, List.length_cons, List.length_nil]
    omega
theorem schP_ok {c : Cur} (hc : goodC c) : goodC (schP c).2 ∧ (∀ x ∈ (schP c).1, 1 ≤ x ∧ x ≤ 3) ∧ 1 ≤ (schP c).1.length ∧ (schP c).1.length ≤ 3 := by
  have hb := belowP_bd c (n := 3) (by omega) (by omega)
  obtain ⟨h1, h2, h3⟩ := schGo_ok (belowP c 3).1.toNat [2] (belowP c 3).2 (belowP_good hc 3) (fun x hx => by
    have : x = 2 := by simpa using hx
    omega)
  refine ⟨h1, h2, ?_, ?_⟩
  · unfold schP; rw [h3]; simp
  · unfold schP; rw [h3]; simp; omega
set_option maxHeartbeats 2000000 in
theorem l3Schema_spec (c : Cur) (h : goodC c) : SpecR Tryz.prog 206 [vCur c] (wSchema (schP c).1) [vCur (schP c).2] := by
  refine SpecL_of mx Γ_ok 1 Tryz.func206 rfl rfl (by omega) ?_
  conv => whnf
  refine .inr (.inl ?_)
  conv => whnf
  refine ⟨curC_ne c, ?_⟩
  conv => whnf
  refine ⟨_, _, _, l1Below_spec c 3 h (by omega), ?_⟩
  conv => whnf
  refine .inl ?_
  conv => whnf
  have hb := belowP_bd c (n := 3) (by omega) (by omega)
  unfold schP
  have hc := belowP_good h 3
  generalize (belowP c 3).2 = c0 at hc ⊢
  obtain ⟨n0, hn0⟩ : ∃ n : Nat, (belowP c 3).1 = n := ⟨(belowP c 3).1.toNat, by omega⟩
  rw [hn0] at hb ⊢
  rw [Int.toNat_natCast]
  refine ⟨[(0,0),(2,0),(3,0),(4,0)], fun m st => ∃ (n : Nat) (e : Int) (a : List Int) (c1 : Cur) (k : Nat) (cc r : List V), e = n ∧ m = n ∧ n ≤ 2 ∧ goodC c1 ∧ schGo n0 [2] c0 = schGo n a c1 ∧ k = a.length ∧ a.length + n ≤ 3 ∧ cc = curC c1 ∧ r = rows ciL a ∧
    st = ⟨24, [(0, .ptr 0 0), (2, .ptr 1 0), (3, .ptr 2 0), (4, ci e)], [some ⟨false, cc⟩, some ⟨true, [cnil]⟩, some ⟨true, [.own 3 1 0 k k none]⟩, some ⟨false, r⟩]⟩, n0, ⟨n0, n0, [2], c0, 1, _, _, rfl, rfl, by omega, hc, rfl, rfl, by simp; omega, rfl, rfl, by kernel_rfl⟩, ?_⟩
  rintro m st ⟨n, _, a, c1, k, _, _, rfl, hm, hn2, hc1, hgo, hk, hal, rfl, rfl, rfl⟩
  conv => whnf
  split <;> rename_i h1
  all_goals simp only [decide_eq_true_eq, decide_eq_false_iff_not] at h1
  · obtain ⟨n', rfl⟩ : ∃ n', n = n' + 1 := ⟨n - 1, by omega⟩
    conv => whnf
    refine .inr (.inl ?_)
    conv => whnf
    refine ⟨curC_ne c1, ?_⟩
    conv => whnf
    refine ⟨_, _, _, l1Below_spec c1 3 hc1 (by omega), ?_⟩
    conv => whnf
    refine .inl ?_
    conv => whnf
    refine ⟨_, rfl, .inl ⟨flat1 rfl, ?_⟩⟩
    conv => whnf
    refine ⟨by omega, by rw [rows_len ciL_len, hk], _, snoc_ci _ _, ?_⟩
    conv => whnf
    refine ⟨m - 1, by omega, n', _, a ++ [IntKind.i64.wrap (1 + (belowP c1 3).1)], (belowP c1 3).2, k + 1, _, _, wrap_pred n', by omega, by omega, belowP_good hc1 3, hgo, by simp [hk], by simp; omega, rfl, rfl, by kernel_rfl⟩
  · have h0 : n = 0 := by omega
    subst h0
    conv => whnf
    simp only [schGo] at hgo
    rw [hgo]
    refine ⟨by rw [rows_len ciL_len, hk], ?_⟩
    conv => whnf
    refine ⟨?_, curC_ne c1, rfl⟩
    rw [hk]; rfl
def argGo : Nat → List Int → Cur → List Int × Cur
  | 0, a, c => (a, c)
  | n + 1, a, c => argGo n (a ++ [(belowP c 4).1]) (belowP c 4).2
def factP (s : List Int) (c : Cur) : (Int × List Int) × Cur :=
  let r := belowP c s.length
  let w := argGo (s.getD r.1.toNat 0).toNat [] r.2
  ((r.1, w.1), w.2)
theorem argGo_ok : ∀ (n : Nat) (a : List Int) (c : Cur), goodC c → goodC (argGo n a c).2 ∧ (argGo n a c).1.length = a.length + n
  | 0, a, c, hc => ⟨hc, rfl⟩
  | n + 1, a, c, hc => by
    obtain ⟨h1, h3⟩ := argGo_ok n (a ++ [(belowP c 4).1]) (belowP c 4).2 (belowP_good hc 4)
    refine ⟨h1, ?_⟩
    simp only [argGo, h3, List.length_append, List.length_cons, List.length_nil]
    omega
def sOk (s : List Int) : Prop := (∀ x ∈ s, 1 ≤ x ∧ x ≤ 3) ∧ 1 ≤ s.length ∧ s.length ≤ 4
theorem sOk_at {s : List Int} (h : sOk s) {k : Nat} (hk : k < s.length) : 1 ≤ s[k] ∧ s[k] ≤ 3 := h.1 _ (List.getElem_mem hk)
theorem below_idx {s : List Int} (h : sOk s) (c : Cur) : ∃ k : Nat, (belowP c s.length).1 = k ∧ k < s.length := by
  have h1 := h.2.1
  have h2 := h.2.2
  have hb := belowP_bd c (n := s.length) (by omega) (by omega)
  exact ⟨(belowP c s.length).1.toNat, by omega, by omega⟩
theorem factP_ok {s : List Int} (hs : sOk s) {c : Cur} (hc : goodC c) : goodC (factP s c).2 ∧ (factP s c).1.2.length ≤ 3 := by
  obtain ⟨k, h1, h2⟩ := below_idx hs c
  obtain ⟨g1, g2⟩ := argGo_ok (s.getD k 0).toNat [] (belowP c s.length).2 (belowP_good hc _)
  have h3 := sOk_at hs h2
  unfold factP
  simp only [h1, Int.toNat_natCast]
  refine ⟨g1, ?_⟩
  rw [g2, getD_at h2]
  simp only [List.length_nil]
  omega
set_option maxHeartbeats 2000000 in
theorem l5Fact_spec (s : List Int) (c : Cur) (hs : sOk s) (h : goodC c) : SpecR Tryz.prog 276 [vCur c, vSchema s] (wFact (factP s c).1) [vCur (factP s c).2, vSchema s] := by
  refine SpecL_of mx Γ_ok 2 Tryz.func276 rfl rfl (by omega) ?_
  conv => whnf
  refine .inr (.inl ?_)
  conv => whnf
  refine ⟨curC_ne c, ?_⟩
  conv => whnf
  have hsl := hs.2.2
  refine ⟨_, _, _, l1Below_spec c s.length h (by omega), ?_⟩
  conv => whnf
  refine .inl ?_
  conv => whnf
  obtain ⟨q, hq, hql⟩ := below_idx hs c
  have hat := sOk_at hs hql
  unfold factP
  simp only [hq, Int.toNat_natCast, getD_at hql]
  have hc := belowP_good h s.length
  generalize (belowP c s.length).2 = c0 at hc ⊢
  obtain ⟨N, hN⟩ : ∃ N : Nat, s[q] = N := ⟨s[q].toNat, by omega⟩
  rw [hN, Int.toNat_natCast]
  have hN3 : N ≤ 3 := by omega
  refine ⟨[(0,0),(3,0),(4,0),(5,201),(6,0)], fun m st => ∃ (n i : Nat) (e : Int) (a : List Int) (c1 : Cur) (k : Nat) (cc r : List V), e = i ∧ m = n ∧ i + n = N ∧ goodC c1 ∧ argGo N [] c0 = argGo n a c1 ∧ k = a.length ∧ a.length = i ∧ cc = curC c1 ∧ r = rows ciL a ∧
    st = ⟨33, [(0, .ptr 0 0), (3, .ptr 2 0), (4, .ptr 3 0), (5, .ptr 4 0), (6, ci e)], [some ⟨false, cc⟩, none, some ⟨true, [ints s]⟩, some ⟨true, [ci 0, cnil]⟩, some ⟨true, [ci q, .own 5 1 0 k k none]⟩, some ⟨false, r⟩]⟩, N, ⟨N, 0, 0, [], c0, 0, _, _, rfl, rfl, by omega, hc, rfl, rfl, rfl, rfl, rfl, by kernel_rfl⟩, ?_⟩
  rintro m st ⟨n, i, _, a, c1, k, _, _, rfl, hm, hin, hc1, hgo, hk, hai, rfl, rfl, rfl⟩
  conv => whnf
  refine ⟨by omega, rows_len ciL_len _, ?_⟩
  conv => whnf
  refine ⟨_, takeN_rp (k := q) ciL_len hql, ?_⟩
  rw [hN]
  conv => whnf
  split <;> rename_i h1
  all_goals simp only [decide_eq_true_eq, decide_eq_false_iff_not] at h1
  · obtain ⟨n', rfl⟩ : ∃ n', n = n' + 1 := ⟨n - 1, by omega⟩
    conv => whnf
    refine .inr (.inl ?_)
    conv => whnf
    refine ⟨curC_ne c1, ?_⟩
    conv => whnf
    refine ⟨_, _, _, l1Below_spec c1 4 hc1 (by omega), ?_⟩
    conv => whnf
    refine .inl ?_
    conv => whnf
    refine ⟨_, rfl, .inl ⟨flat1 rfl, ?_⟩⟩
    conv => whnf
    refine ⟨by omega, by rw [rows_len ciL_len, hk], _, snoc_ci _ _, ?_⟩
    conv => whnf
    refine ⟨m - 1, by omega, n', i + 1, _, a ++ [(belowP c1 4).1], (belowP c1 4).2, k + 1, _, _, wrap_id (by omega) (by omega), by omega, by omega, belowP_good hc1 4, hgo, by simp [hk], by simp; omega, rfl, rfl, by kernel_rfl⟩
  · have h0 : n = 0 := by omega
    subst h0
    conv => whnf
    simp only [argGo] at hgo
    rw [hgo]
    refine ⟨by rw [rows_len ciL_len, hk], ?_⟩
    conv => whnf
    refine ⟨?_, curC_ne c1, rfl⟩
    rw [hk]; rfl
def dbDr (s : List Int) : Nat → List (Int × List Int) → Cur → List (Int × List Int) × Cur
  | 0, db, c => (db, c)
  | n + 1, db, c => dbDr s n (putF db (factP s c).1) (factP s c).2
def dbP (s : List Int) (c : Cur) : List (Int × List Int) × Cur := dbDr s (belowP c 9).1.toNat [] (belowP c 9).2
theorem mem_putGo' (f a : FactC) : ∀ (l : List FactC) (p : Bool), a ∈ putGo f p l → a = f ∨ a ∈ l
  | [], p, h => by cases p <;> simp [putGo] at h; exact .inl h
  | x :: r, p, h => by
    have ih := mem_putGo' f a r
    simp only [putGo] at h
    split at h
    · rcases List.mem_append.1 h with h1 | h1
      · split at h1
        · cases h1
        · exact .inl (by simpa using h1)
      · rcases List.mem_cons.1 h1 with rfl | h1
        · exact .inr (by simp)
        · rcases ih true h1 with h2 | h2
          · exact .inl h2
          · exact .inr (by simp [h2])
    · rcases List.mem_cons.1 h with rfl | h1
      · exact .inr (by simp)
      · rcases ih p h1 with h2 | h2
        · exact .inl h2
        · exact .inr (by simp [h2])
theorem sumB_cap' {α : Type} (f : α → Nat) (n : Nat) : ∀ (xs : List α), (∀ x ∈ xs, f x ≤ n) → sumB f xs ≤ n * xs.length
  | [], _ => by simp [sumB]
  | x :: xs, h => by
    have h1 := sumB_cap' f n xs fun y hy => h y (by simp [hy])
    have h2 := h x (by simp)
    simp only [sumB, List.length_cons, Nat.mul_add, Nat.mul_one]
    omega
def short3 (db : List FactC) : Prop := ∀ x ∈ db, x.2.length ≤ 3
theorem short3_size {db : List FactC} (h : short3 db) (hl : db.length ≤ 100) : cFactS db ≤ 1048576 := by
  have h1 := sumB_cap' cFact 3 db h
  show db.length + sumB cFact db ≤ _
  omega
theorem short3_put {db : List FactC} {f : FactC} (h : short3 db) (hf : f.2.length ≤ 3) : short3 (putF db f) ∧ (putF db f).length ≤ db.length + 1 := by
  refine ⟨fun x hx => ?_, putGo_length f db false⟩
  rcases mem_putGo' f x db false hx with rfl | h2
  · exact hf
  · exact h x h2
theorem dbDr_ok {s : List Int} (hs : sOk s) : ∀ (n : Nat) (db : List FactC) (c : Cur), goodC c → short3 db → goodC (dbDr s n db c).2 ∧ short3 (dbDr s n db c).1 ∧ (dbDr s n db c).1.length ≤ db.length + n
  | 0, db, c, hc, hd => ⟨hc, hd, Nat.le_refl _⟩
  | n + 1, db, c, hc, hd => by
    obtain ⟨f1, f2⟩ := factP_ok hs hc
    obtain ⟨p1, p2⟩ := short3_put hd f2
    obtain ⟨h1, h2, h3⟩ := dbDr_ok hs n (putF db (factP s c).1) (factP s c).2 f1 p1
    exact ⟨h1, h2, by simp only [dbDr]; omega⟩
theorem dbP_ok {s : List Int} (hs : sOk s) {c : Cur} (hc : goodC c) : goodC (dbP s c).2 ∧ short3 (dbP s c).1 ∧ (dbP s c).1.length ≤ 8 := by
  have hb := belowP_bd c (n := 9) (by omega) (by omega)
  obtain ⟨h1, h2, h3⟩ := dbDr_ok hs (belowP c 9).1.toNat [] (belowP c 9).2 (belowP_good hc 9) (fun x hx => by cases hx)
  exact ⟨h1, h2, by unfold dbP; simp only [List.length_nil] at h3; omega⟩
set_option maxHeartbeats 2000000 in
theorem l5Db_spec (s : List Int) (c : Cur) (hs : sOk s) (h : goodC c) : SpecR Tryz.prog 211 [vCur c, vSchema s] (wFactS (dbP s c).1) [vCur (dbP s c).2, vSchema s] := by
  refine SpecL_of mx Γ_ok 2 Tryz.func211 rfl rfl (by omega) ?_
  conv => whnf
  refine .inr (.inl ?_)
  conv => whnf
  refine ⟨curC_ne c, ?_⟩
  conv => whnf
  refine ⟨_, _, _, l1Below_spec c 9 h (by omega), ?_⟩
  conv => whnf
  refine .inl ?_
  conv => whnf
  have hb := belowP_bd c (n := 9) (by omega) (by omega)
  unfold dbP
  have hc := belowP_good h 9
  generalize (belowP c 9).2 = c0 at hc ⊢
  obtain ⟨n0, hn0⟩ : ∃ n : Nat, (belowP c 9).1 = n := ⟨(belowP c 9).1.toNat, by omega⟩
  rw [hn0] at hb ⊢
  rw [Int.toNat_natCast]
  refine ⟨[(0,0),(3,0),(4,0),(5,0),(6,0)], fun m st => ∃ (n : Nat) (e : Int) (db : List FactC) (c1 : Cur) (k : Nat) (cc r : List V), e = n ∧ m = n ∧ db.length + n ≤ 8 ∧ goodC c1 ∧ short3 db ∧ dbDr s n0 [] c0 = dbDr s n db c1 ∧ k = db.length ∧ cc = curC c1 ∧ r = rows tFact db ∧
    st = ⟨20, [(0, .ptr 0 0), (3, .ptr 2 0), (4, cnil), (5, .own 3 2 0 k k none), (6, ci e)], [some ⟨false, cc⟩, none, some ⟨true, [ints s]⟩, some ⟨false, r⟩]⟩, n0, ⟨n0, n0, [], c0, 0, _, _, rfl, rfl, by simp; omega, hc, (fun x hx => by cases hx), rfl, rfl, rfl, rfl, by kernel_rfl⟩, ?_⟩
  rintro m st ⟨n, _, db, c1, k, _, _, rfl, hm, hdn, hc1, hsh, hgo, hk, rfl, rfl, rfl⟩
  conv => whnf
  split <;> rename_i h1
  all_goals simp only [decide_eq_true_eq, decide_eq_false_iff_not] at h1
  · obtain ⟨n', rfl⟩ : ∃ n', n = n' + 1 := ⟨n - 1, by omega⟩
    obtain ⟨f1, f2⟩ := factP_ok hs hc1
    obtain ⟨p1, p2⟩ := short3_put hsh f2
    conv => whnf
    refine .inr (.inl ?_)
    conv => whnf
    refine ⟨curC_ne c1, ?_⟩
    conv => whnf
    refine ⟨_, _, _, l5Fact_spec s c1 hs hc1, ?_⟩
    conv => whnf
    refine .inl ?_
    rw [wFact_ro]
    conv => whnf
    refine .inl ?_
    conv => whnf
    refine ⟨_, _, takeN_all (by rw [rows_len tFact_len, hk]), roVs_rows tFact_ro _, ?_⟩
    conv => whnf
    have hsp := l5Put_spec db (factP s c1).1 (short3_size hsh (by omega)) (by omega)
    unfold vFactS at hsp
    rw [← hk] at hsp
    refine ⟨_, hsp, .inr (closed_wFactS _), .inr ?_⟩
    conv => whnf
    refine ⟨m - 1, by omega, n', _, putF db (factP s c1).1, (factP s c1).2, _, _, _, wrap_pred n', by omega, by omega, f1, p1, hgo, rfl, rfl, rfl, by kernel_rfl⟩
  · have h0 : n = 0 := by omega
    subst h0
    conv => whnf
    simp only [dbDr] at hgo
    rw [hgo]
    refine ⟨by rw [rows_len tFact_len, hk], ?_⟩
    conv => whnf
    refine ⟨?_, curC_ne c1, rfl⟩
    rw [hk]; rfl
end Go.Proofs.YtcjdfeafcmfgpaaGreatD
set_option linter.unusedVariables false
set_option linter.unusedSimpArgs false
set_option maxRecDepth 100000
namespace Go.Proofs.YtcjdfeafcmfgpaaGreatD
open Go Go.Proofs
theorem l1Once_spec (c : Cur) (n : Int) (h : goodC c) (hn : n ≤ 256) : SpecR Tryz.prog 176 [vCur c, ci n] (cb ((belowP c n).1 == 0)) [vCur (belowP c n).2, ci n] := by
  refine SpecL_of mx Γ_ok 2 Tryz.func176 rfl rfl (by omega) ?_
  conv => whnf
  refine .inr (.inl ?_)
  conv => whnf
  refine ⟨curC_ne c, ?_⟩
  conv => whnf
  refine ⟨_, _, _, l1Below_spec c n h hn, ?_⟩
  conv => whnf
  refine .inl ?_
  conv => whnf
  exact ⟨rfl, curC_ne _, rfl⟩
theorem l1PickInt_spec (c : Cur) (xs : List Int) (h : goodC c) (h1 : 1 ≤ xs.length) (h2 : xs.length ≤ 200) : SpecR Tryz.prog 167 [vCur c, intsT xs] (ci (xs.getD (belowP c xs.length).1.toNat 0)) [vCur (belowP c xs.length).2, intsT xs] := by
  refine SpecL_of mx Γ_ok 2 Tryz.func167 rfl rfl (by omega) ?_
  conv => whnf
  refine .inr (.inl ?_)
  conv => whnf
  refine ⟨curC_ne c, ?_⟩
  conv => whnf
  refine ⟨_, _, _, l1Below_spec c xs.length h (by omega), ?_⟩
  conv => whnf
  refine .inl ?_
  conv => whnf
  have hb := belowP_bd c (n := xs.length) (by omega) (by omega)
  generalize (belowP c xs.length).2 = c1
  obtain ⟨k, hk⟩ : ∃ k : Nat, (belowP c xs.length).1 = k := ⟨(belowP c xs.length).1.toNat, by omega⟩
  rw [hk] at hb ⊢
  have hkl : k < xs.length := by omega
  rw [Int.toNat_natCast, getD_at hkl]
  refine ⟨by omega, ?_⟩
  conv => whnf
  refine ⟨_, takeN_own (k := k) (d := 0) (m := 1) (xs := xs) ciL_len (Nat.zero_add _) hkl (by omega) rfl, ?_⟩
  conv => whnf
  refine ⟨rfl, curC_ne _, by rw [rows_len ciL_len], rfl⟩
theorem sOk_schema {s : List Int} (h : sOk s) : isSchema s = true := by
  simp only [isSchema, Bool.and_eq_true]
  refine ⟨List.all_eq_true.2 fun x hx => ?_, ?_⟩
  · have := h.1 x hx
    simp only [inR, Bool.and_eq_true, decide_eq_true_eq]
    exact this
  · have h1 := h.2.1
    have h2 := h.2.2
    simp only [inR, Bool.and_eq_true, decide_eq_true_eq]
    omega
theorem l4Safe_spec (s : List Int) (hs : sOk s) : Spec Tryz.prog 219 [vSchema s] (vSchema s) := by
  have h2 := hs.2.2
  refine Spec_of mx Γ_ok Tryz.func219 rfl ?_
  conv => whnf
  refine ⟨_, specIsSchema_spec s (by omega), .inl rfl, .inl ?_⟩
  rw [sOk_schema hs]
  conv => whnf
  rfl
theorem ints_roV (s : List Int) : roV (vSchema s) = vSchema s := by
  show V.agg [.ro _ (roVs _)] = _
  rw [roVs_ci]; rfl
end Go.Proofs.YtcjdfeafcmfgpaaGreatD
set_option linter.unusedVariables false
set_option linter.unusedSimpArgs false
set_option maxRecDepth 100000
namespace Go.Proofs.YtcjdfeafcmfgpaaGreatD
open Go Go.Proofs
abbrev QueryR := List Int × List AtomC
def ren1 (to : List Int) (x : Int) : Int := if inR x 0 (to.length - 1) then to.getD x.toNat 0 else x
def renA (to : List Int) (a : AtomC) : AtomC := (a.1, a.2.map (ren1 to))
def renQ (to : List Int) (q : QueryR) : QueryR := (q.1.map (ren1 to), q.2.map (renA to))
theorem l4Term_spec (x : Int) (to : List Int) (h : to.length ≤ 1099511627776) : Spec Tryz.prog 314 [ci x, ints to] (ci (ren1 to x)) := by
  have hw : IntKind.i64.wrap ((to.length : Int) - 1) = to.length - 1 := wrap_id (by omega) (by omega)
  refine Spec_of mx Γ_ok Tryz.func314 rfl ?_
  conv => whnf
  refine ⟨_, l1In_spec _ _ _, .inl rfl, .inl ?_⟩
  rw [hw]
  conv => whnf
  unfold ren1
  generalize hb1 : inR x 0 (to.length - 1) = b1
  cases b1 with
  | false =>
    conv => whnf
    rfl
  | true =>
    conv => whnf
    have hr : 0 ≤ x ∧ x ≤ (to.length : Int) - 1 := by simpa [inR] using hb1
    obtain ⟨q, rfl⟩ : ∃ q : Nat, x = q := ⟨x.toNat, by omega⟩
    have hq : q < to.length := by omega
    refine ⟨by omega, rows_len ciL_len to, ?_⟩
    conv => whnf
    refine ⟨_, takeN_rp (k := q) ciL_len hq, ?_⟩
    conv => whnf
    rw [if_pos rfl, Int.toNat_natCast, getD_at hq]
    rfl
theorem l4Terms_spec (xs to : List Int) (h : xs.length ≤ 1048576) (ht : to.length ≤ 1099511627776) : Spec Tryz.prog 282 [ints xs, ints to] (intsT (xs.map (ren1 to))) := by
  refine Spec_of mx Γ_ok Tryz.func282 rfl ?_
  conv => whnf
  refine ⟨[(0,0),(1,0),(4,0),(5,0),(6,0)], fun m s => ∃ (k : Nat) (e : Int) (n : Nat) (r : List V), e = k ∧ m + k = xs.length ∧ n = k ∧ r = rows ciL ((xs.take k).map (ren1 to)) ∧
    s = ⟨26, [(0, ints xs), (1, ints to), (4, cnil), (5, .own 0 1 0 n n none), (6, ci e)], [some ⟨false, r⟩]⟩, xs.length, ⟨0, 0, 0, _, rfl, rfl, rfl, rfl, rfl⟩, ?_⟩
  rintro m s ⟨k, _, n, _, rfl, hm, rfl, rfl, rfl⟩
  conv => whnf
  split <;> rename_i h1
  all_goals simp only [decide_eq_true_eq, decide_eq_false_iff_not] at h1
  · conv => whnf
    have hk : n < xs.length := by omega
    refine ⟨by omega, rows_len ciL_len _, ?_⟩
    conv => whnf
    refine ⟨_, takeN_rp (k := n) ciL_len hk, ?_⟩
    conv => whnf
    refine ⟨_, l4Term_spec xs[n] to ht, .inl rfl, .inl ?_⟩
    conv => whnf
    refine ⟨_, rfl, .inl ⟨flat1 rfl, ?_⟩⟩
    conv => whnf
    refine ⟨by omega, by rw [rows_len ciL_len, List.length_map, List.length_take, Nat.min_eq_left (by omega)], _, snoc_ci _ _, ?_⟩
    conv => whnf
    refine ⟨m - 1, by omega, n + 1, _, _, _, wrap_id (by omega) (by omega), by omega, rfl, ?_, rfl⟩
    rw [List.take_succ_eq_append_getElem hk, List.map_append]
    rfl
  · conv => whnf
    have hkk : n = xs.length := by omega
    subst hkk
    rw [List.take_length]
    refine ⟨by rw [rows_len ciL_len, List.length_map], ?_⟩
    simp only [intsT, List.length_map]
    rfl
set_option maxHeartbeats 4000000 in
theorem renameQuery_spec (x0 : QueryR) (to : List Int) (h0 : cQuery x0 ≤ 1048576) (ht : to.length ≤ 1099511627776) : Spec Tryz.prog 230 [vQuery x0, ints to] (wQuery (renQ to x0)) := by
  unfold cQuery cAtomS at h0
  refine Spec_of mx Γ_ok Tryz.func230 rfl ?_
  conv => whnf
  refine ⟨_, l4Terms_spec x0.1 to (by omega) ht, .inl rfl, .inr ?_⟩
  conv => whnf
  refine ⟨[(1,0),(2,0),(4,0),(5,202),(6,0)], fun m s => ∃ (k : Nat) (e : Int) (n1 n : Nat) (r1 r : List V), e = k ∧ m + k = x0.2.length ∧ n1 = (x0.1.map (ren1 to)).length ∧ n = k ∧ r1 = rows ciL (x0.1.map (ren1 to)) ∧ r = rows tAtom ((x0.2.take k).map (renA to)) ∧
    s = ⟨40, [(1, ints to), (2, .ptr 0 0), (4, .ptr 1 0), (5, .ptr 2 0), (6, ci e)], [some ⟨true, rQuery x0⟩, some ⟨true, [cnil, cnil]⟩, some ⟨true, [.own 3 1 0 n1 n1 none, .own 4 2 0 n n none]⟩, some ⟨false, r1⟩, some ⟨false, r⟩]⟩, x0.2.length, ⟨0, 0, _, 0, _, _, rfl, rfl, rfl, rfl, rfl, rfl, rfl⟩, ?_⟩
  rintro m s ⟨k, _, n1, n, _, _, rfl, hm, hn1, rfl, rfl, rfl, rfl⟩
  conv => whnf
  split <;> rename_i h1
  all_goals simp only [decide_eq_true_eq, decide_eq_false_iff_not] at h1
  · conv => whnf
    have hk : n < x0.2.length := by omega
    have hb := sumB_one (f := cAtom) hk
    have hcb : cAtom x0.2[n] = x0.2[n].2.length := rfl
    refine ⟨List.range 21, by kernel_rfl, ?_⟩
    conv => whnf
    refine ⟨by omega, rows_len rAtom_len _, ?_⟩
    conv => whnf
    refine ⟨_, takeN_rp_field (k := n) (d := 0) (m := 1) (r := [ci x0.2[n].1]) rAtom_len hk (by omega) rfl, ?_⟩
    conv => whnf
    refine ⟨by omega, rows_len rAtom_len _, ?_⟩
    conv => whnf
    refine ⟨_, takeN_rp_field (k := n) (d := 1) (m := 1) (r := [ints x0.2[n].2]) rAtom_len hk (by omega) rfl, ?_⟩
    conv => whnf
    refine ⟨_, l4Terms_spec x0.2[n].2 to (by omega) ht, .inl rfl, .inr ?_⟩
    conv => whnf
    refine ⟨by rw [rows_len ciL_len], ?_⟩
    conv => whnf
    refine ⟨_, rfl, .inr ⟨solid_tAtom (renA to x0.2[n]), ?_⟩⟩
    conv => whnf
    refine ⟨by omega, by rw [rows_len tAtom_len, List.length_map, List.length_take, Nat.min_eq_left (by omega)], _, snoc_rows tAtom _ (renA to x0.2[n]), ?_⟩
    conv => whnf
    refine ⟨m - 1, by omega, n + 1, _, n1, _, _, _, wrap_id (by omega) (by omega), by omega, hn1, rfl, rfl, ?_, rfl⟩
    rw [List.take_succ_eq_append_getElem hk, List.map_append]
    rfl
  · conv => whnf
    have hkk : n = x0.2.length := by omega
    rw [hkk, List.take_length]
    subst hn1
    refine ⟨by rw [rows_len ciL_len], by rw [rows_len tAtom_len, List.length_map], ?_⟩
    have e : wQuery (renQ to x0) = .agg [.tr 1 (x0.1.map (ren1 to)).length (rows ciL (x0.1.map (ren1 to))), .tr 2 x0.2.length (rows tAtom (x0.2.map (renA to)))] := by
      simp only [wQuery, tQuery, renQ, wAtomS, intsT, List.length_map]
    rw [e]
    rfl
theorem ren1_nil (x : Int) : ren1 [] x = x := by
  unfold ren1
  rw [if_neg]
  simp [inR]
  omega
theorem renQ_nil (q : QueryR) : renQ [] q = q := by
  have h1 : ∀ xs : List Int, xs.map (ren1 []) = xs := fun xs => by
    rw [List.map_congr_left (g := id) (fun x _ => ren1_nil x), List.map_id]
  have h2 : ∀ xs : List AtomC, xs.map (renA []) = xs := fun xs => by
    rw [List.map_congr_left (g := id) (fun x _ => by simp only [renA, h1]; rfl), List.map_id]
  unfold renQ
  rw [h1, h2]
theorem l4Copy_spec (x0 : QueryR) (h0 : cQuery x0 ≤ 1048576) : Spec Tryz.prog 125 [vQuery x0] (wQuery x0) := by
  have hs := renameQuery_spec x0 [] h0 (by simp)
  rw [renQ_nil] at hs
  refine Spec_of mx Γ_ok Tryz.func125 rfl ?_
  conv => whnf
  refine .inl ?_
  conv => whnf
  refine ⟨_, _, rfl, rfl, ?_⟩
  conv => whnf
  refine ⟨_, hs, .inr (closed_wQuery _), .inr ?_⟩
  conv => whnf
  refine ⟨by rw [rows_len ciL_len], by rw [rows_len tAtom_len], rfl⟩
end Go.Proofs.YtcjdfeafcmfgpaaGreatD
set_option linter.unusedVariables false
set_option linter.unusedSimpArgs false
set_option maxRecDepth 100000
namespace Go.Proofs.YtcjdfeafcmfgpaaGreatD
open Go Go.Proofs
abbrev AtomD := Int × List Int
abbrev QueryW := List Int × List AtomD
def gC (c : Cur) : List (Option Obj) := [some ⟨false, curC c⟩]
theorem l2Term_g (c : Cur) (h : goodC c) : SpecG Tryz.prog 275 [.ptr 0 0] (gC c) fun r g2 => ∃ (t : Int) (c' : Cur), r = ci t ∧ goodC c' ∧ g2 = gC c' := by
  unfold gC
  refine SpecG_of mx Γ_ok 1 Tryz.func275 rfl rfl (by decide) ?_
  conv => whnf
  refine .inr (.inl ?_)
  conv => whnf
  refine ⟨curC_ne c, ?_⟩
  conv => whnf
  refine ⟨_, _, _, l1Once_spec c 4 h (by omega), ?_⟩
  conv => whnf
  refine .inl ?_
  conv => whnf
  have h1 := belowP_good h 4
  generalize (belowP c 4).2 = c1 at h1 ⊢
  generalize ((belowP c 4).1 == 0) = b
  cases b with
  | true =>
    conv => whnf
    refine .inr (.inl ?_)
    conv => whnf
    refine ⟨curC_ne c1, ?_⟩
    conv => whnf
    refine ⟨_, _, _, l1Below_spec c1 3 h1 (by omega), ?_⟩
    conv => whnf
    refine .inl ?_
    conv => whnf
    refine ⟨[], ?_⟩
    conv => whnf
    exact ⟨_, _, rfl, belowP_good h1 3, rfl⟩
  | false =>
    conv => whnf
    refine .inr (.inl ?_)
    conv => whnf
    refine ⟨curC_ne c1, ?_⟩
    conv => whnf
    refine ⟨_, _, _, l1Below_spec c1 4 h1 (by omega), ?_⟩
    conv => whnf
    refine .inl ?_
    conv => whnf
    refine ⟨[], ?_⟩
    conv => whnf
    exact ⟨_, _, rfl, belowP_good h1 4, rfl⟩
theorem l2Any_g (c : Cur) (h : goodC c) : SpecG Tryz.prog 209 [.ptr 0 0] (gC c) fun r g2 => ∃ (t : Int) (c' : Cur), r = ci t ∧ goodC c' ∧ g2 = gC c' := by
  unfold gC
  refine SpecG_of mx Γ_ok 1 Tryz.func209 rfl rfl (by decide) ?_
  conv => whnf
  refine .inr (.inl ?_)
  conv => whnf
  refine ⟨curC_ne c, ?_⟩
  conv => whnf
  refine ⟨_, _, _, l1Once_spec c 6 h (by omega), ?_⟩
  conv => whnf
  refine .inl ?_
  conv => whnf
  have h1 := belowP_good h 6
  generalize (belowP c 6).2 = c1 at h1 ⊢
  generalize ((belowP c 6).1 == 0) = b
  cases b with
  | true =>
    conv => whnf
    refine .inr (.inl ?_)
    conv => whnf
    refine ⟨curC_ne c1, ?_⟩
    conv => whnf
    refine ⟨rfl, ?_⟩
    conv => whnf
    refine ⟨_, _, _, l1PickInt_spec c1 [19, 20, -80, -81, -1, 99] h1 (by decide) (by decide), ?_⟩
    conv => whnf
    refine .inl ?_
    conv => whnf
    refine ⟨[], ?_⟩
    conv => whnf
    exact ⟨_, _, rfl, belowP_good h1 6, rfl⟩
  | false =>
    conv => whnf
    refine .inr (.inr ⟨[0], [], ?_⟩)
    conv => whnf
    refine ⟨_, l2Term_g c1 h1, fun r g2 hP => ?_⟩
    obtain ⟨t, c2, rfl, h2, rfl⟩ := hP
    refine .inl ?_
    conv => whnf
    refine ⟨[], ?_⟩
    conv => whnf
    exact ⟨_, _, rfl, h2, rfl⟩
set_option maxHeartbeats 2000000 in
theorem l3Atom_g (s : List Int) (c : Cur) (hs : sOk s) (h : goodC c) : SpecG Tryz.prog 274 [.ptr 0 0, vSchema s] (gC c) fun r g2 => ∃ (a : AtomD) (c' : Cur), r = wAtom a ∧ a.2.length ≤ 3 ∧ goodC c' ∧ g2 = gC c' := by
  unfold gC
  have hsl := hs.2.2
  refine SpecG_of mx Γ_ok 1 Tryz.func274 rfl rfl (by decide) ?_
  conv => whnf
  refine .inr (.inl ?_)
  conv => whnf
  refine ⟨curC_ne c, ?_⟩
  conv => whnf
  refine ⟨_, _, _, l1Below_spec c s.length h (by omega), ?_⟩
  conv => whnf
  refine .inl ?_
  conv => whnf
  obtain ⟨q, hq, hql⟩ := below_idx hs c
  have hat := sOk_at hs hql
  rw [hq]
  have hc := belowP_good h s.length
  generalize (belowP c s.length).2 = c0 at hc ⊢
  obtain ⟨N, hN⟩ : ∃ N : Nat, s[q] = N := ⟨s[q].toNat, by omega⟩
  have hN3 : N ≤ 3 := by omega
  refine ⟨[(0,0),(3,0),(4,0),(5,201),(6,0)], fun m st => ∃ (i : Nat) (e : Int) (a : List Int) (c1 : Cur) (k : Nat) (cc r : List V), e = i ∧ m + i = N ∧ goodC c1 ∧ k = a.length ∧ a.length = i ∧ cc = curC c1 ∧ r = rows ciL a ∧
    st = ⟨33, [(0, .ptr 0 0), (3, .ptr 1 0), (4, .ptr 2 0), (5, .ptr 3 0), (6, ci e)], [some ⟨false, cc⟩, some ⟨true, [ints s]⟩, some ⟨true, [ci 0, cnil]⟩, some ⟨true, [ci q, .own 4 1 0 k k none]⟩, some ⟨false, r⟩]⟩, N, ⟨0, 0, [], c0, 0, _, _, rfl, by omega, hc, rfl, rfl, rfl, rfl, by kernel_rfl⟩, ?_⟩
  rintro m st ⟨i, _, a, c1, k, _, _, rfl, hm, hc1, hk, hai, rfl, rfl, rfl⟩
  conv => whnf
  refine ⟨by omega, rows_len ciL_len _, ?_⟩
  conv => whnf
  refine ⟨_, takeN_rp (k := q) ciL_len hql, ?_⟩
  rw [hN]
  conv => whnf
  split <;> rename_i h1
  all_goals simp only [decide_eq_true_eq, decide_eq_false_iff_not] at h1
  · conv => whnf
    refine .inr (.inr ⟨[0], [], ?_⟩)
    conv => whnf
    refine ⟨_, l2Term_g c1 hc1, fun r g2 hP => ?_⟩
    obtain ⟨t, c2, rfl, h2, rfl⟩ := hP
    refine .inl ?_
    conv => whnf
    refine ⟨_, rfl, .inl ⟨flat1 rfl, ?_⟩⟩
    conv => whnf
    refine ⟨by omega, by rw [rows_len ciL_len, hk], _, snoc_ci _ _, ?_⟩
    conv => whnf
    exact ⟨m - 1, by omega, i + 1, IntKind.i64.wrap ((i : Int) + 1), a ++ [t], c2, k + 1, curC c2, rows ciL (a ++ [t]), wrap_id (by omega) (by omega), by omega, h2, by simp [hk], by simp [hai], rfl, rfl, by kernel_rfl⟩
  · conv => whnf
    refine ⟨[], ?_⟩
    conv => whnf
    subst hk
    refine ⟨by rw [rows_len ciL_len], ?_⟩
    exact ⟨((q : Int), a), c1, rfl, by show a.length ≤ 3; omega, hc1, rfl⟩
end Go.Proofs.YtcjdfeafcmfgpaaGreatD
