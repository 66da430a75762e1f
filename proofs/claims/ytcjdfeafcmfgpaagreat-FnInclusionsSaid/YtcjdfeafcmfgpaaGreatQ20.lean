/- Contracts and plain laws of this seat; no condition. -/
import Derived.Test.YtcjdfeafcmfgpaaGreatQ19
set_option linter.unusedVariables false
set_option linter.unusedSimpArgs false
set_option maxRecDepth 100000
namespace Go.Proofs.YtcjdfeafcmfgpaaGreatD
open Go Go.Proofs
def SV : List Int := [0, 1, 2, 3, 99, 100, -1]
def smF (n : Nat) (f : FactC) : Prop := f.2.length ≤ n ∧ ∀ x ∈ f.2, x ∈ SV
def smDb (n m : Nat) (db : List FactC) : Prop := db.length ≤ n ∧ ∀ f ∈ db, smF m f
theorem below4_sv (c : Cur) : (belowP c 4).1 ∈ SV := by
 have hb := belowP_bd c (n := 4) (by omega) (by omega)
 have : (belowP c 4).1 = 0 ∨ (belowP c 4).1 = 1 ∨ (belowP c 4).1 = 2 ∨ (belowP c 4).1 = 3 := by omega
 rcases this with h | h | h | h <;> rw [h] <;> decide
theorem argGo_sv : ∀ (n : Nat) (a : List Int) (c : Cur), (∀ x ∈ a, x ∈ SV) → ∀ x ∈ (argGo n a c).1, x ∈ SV
 | 0, a, c, h => h
 | n + 1, a, c, h => argGo_sv n _ _ fun x hx => by
  rcases List.mem_append.1 hx with hx | hx
  ·exact h x hx
  ·rw [List.mem_singleton.1 hx]; exact below4_sv c
theorem factP_sv {s : List Int} (hs : sOk s) {c : Cur} (hc : goodC c) : smF 3 (factP s c).1 ∧ 1 ≤ (factP s c).1.2.length := by
 obtain ⟨k, h1, h2⟩ := below_idx hs c
 have h3 := sOk_at hs h2
 refine ⟨⟨(factP_ok hs hc).2, ?_⟩, ?_⟩
 ·exact argGo_sv _ _ _ fun x hx => by cases hx
 ·obtain ⟨g1, g2⟩ := argGo_ok (s.getD k 0).toNat [] (belowP c s.length).2 (belowP_good hc _)
  unfold factP
  simp only [h1, Int.toNat_natCast]
  rw [g2, getD_at h2]
  simp only [List.length_nil]
  omega
theorem dbDr_sv {s : List Int} (hs : sOk s) : ∀ (n : Nat) (db : List FactC) (c : Cur), goodC c → (∀ f ∈ db, smF 3 f) → ∀ f ∈ (dbDr s n db c).1, smF 3 f
 | 0, db, c, _, h => h
 | n + 1, db, c, hc, h => dbDr_sv hs n _ _ (factP_ok hs hc).1 fun f hf => by
  rcases mem_putGo' _ f db false hf with rfl | hf
  ·exact (factP_sv hs hc).1
  ·exact h f hf
theorem dbP_sv {s : List Int} (hs : sOk s) {c : Cur} (hc : goodC c) : goodC (dbP s c).2 ∧ smDb 8 3 (dbP s c).1 := by
 obtain ⟨h1, h2, h3⟩ := dbP_ok hs hc
 exact ⟨h1, h3, dbDr_sv hs _ _ _ (belowP_good hc 9) fun f hf => by cases hf⟩
theorem smDb_size {n m : Nat} {db : List FactC} (h : smDb n m db) (hn : n ≤ 100) (hm : m ≤ 100) : cFactS db ≤ 1048576 := by
 have h1 := sumB_cap' cFact m db fun x hx => (h.2 x hx).1
 have h2 := h.1
 have h3 : m * db.length ≤ 100 * 100 := Nat.mul_le_mul hm (by omega)
 show db.length + sumB cFact db ≤ _
 omega
theorem set0_ci (xs : List Int) (t : Int) (h : 0 < xs.length) : setC (rows ciL xs) (0 + 0 * 1) [ci t] = rows ciL (xs.set 0 t) := (congrArg (fun o => setC (rows ciL xs) o (ciL t)) (Nat.zero_add _)).trans (setC_rows ciL_len (by omega) h _)
set_option maxHeartbeats 4000000 in
theorem l5AnyFact_g (s : List Int) (c : Cur) (hs : sOk s) (h : goodC c) : SpecG Tryz.prog 212 [.ptr 0 0, vSchema s] (gC c) fun r g2 => ∃ (f : FactC) (c' : Cur), r = wFact f ∧ smF 4 f ∧ goodC c' ∧ g2 = gC c' := by
 unfold gC
 refine SpecG_of mx Γ_ok 1 Tryz.func212 rfl rfl (by decide) ?_
 conv => whnf
 refine ⟨_, l4Safe_spec s hs, .inl rfl, .inl ?_⟩
 rw [ints_roV]
 conv => whnf
 refine .inr (.inl ?_)
 conv => whnf
 refine ⟨curC_ne c, ?_⟩
 conv => whnf
 refine ⟨_, _, _, l5Fact_spec s c hs h, ?_⟩
 conv => whnf
 refine .inr ?_
 conv => whnf
 obtain ⟨⟨f1, f2⟩, f3⟩ := factP_sv hs h
 have g1 := (factP_ok hs h).1
 generalize (factP s c).2 = c1 at g1 ⊢
 generalize (factP s c).1 = F at f1 f2 f3 ⊢
 refine .inr (.inl ?_)
 conv => whnf
 refine ⟨curC_ne c1, ?_⟩
 conv => whnf
 refine ⟨_, _, _, l1Below_spec c1 10 g1 (by omega), ?_⟩
 conv => whnf
 refine .inl ?_
 conv => whnf
 have g2 := belowP_good g1 10
 generalize (belowP c1 10).2 = c2 at g2 ⊢
 generalize (belowP c1 10).1 = v
 have pick : ∀ (xs : List Int) (c : Cur), (∀ x ∈ xs, x ∈ SV) → 1 ≤ xs.length → xs.length ≤ 200 → xs.getD (belowP c xs.length).1.toNat 0 ∈ SV := fun xs c hx h1 h2 => by
  have hb := belowP_bd c (n := xs.length) (by omega) (by omega)
  have hk : (belowP c xs.length).1.toNat < xs.length := by omega
  rw [getD_at0 hk]
  exact hx _ (List.getElem_mem hk)
 generalize (v == 0) = b0
 cases b0 with
 | true =>
  conv => whnf
  refine ⟨[1001, 0, 1, 2, 3, 4, 5, 6, 7, 8, 1000, 1000], by kernel_rfl, ?_⟩
  conv => whnf
  refine .inr (.inl ?_)
  conv => whnf
  refine ⟨curC_ne c2, ?_⟩
  conv => whnf
  refine ⟨rfl, ?_⟩
  conv => whnf
  refine ⟨fun k => noSubT_lk (by kernel_rfl) k, rfl, _, _, _, l1PickInt_spec c2 [0, 99, 100, -1] g2 (by decide) (by decide), ?_⟩
  conv => whnf
  refine .inl ?_
  have hp := pick [0, 99, 100, -1] c2 (by decide) (by decide) (by decide)
  have g3 := belowP_good g2 4
  have e4 : (([0, 99, 100, -1] : List Int).length : Int) = 4 := rfl
  rw [e4] at hp ⊢
  generalize (belowP c2 4).2 = c3 at g3 ⊢
  generalize ([0, 99, 100, -1] : List Int).getD (belowP c2 4).1.toNat 0 = t at hp ⊢
  conv => whnf
  refine ⟨_, rfl, .inl ⟨flat1 rfl, ?_⟩⟩
  conv => whnf
  refine ⟨by omega, by rw [rows_len ciL_len], _, snoc_ci _ _, ?_⟩
  conv => whnf
  refine ⟨[], ?_⟩
  conv => whnf
  refine ⟨by rw [rows_len ciL_len, List.length_append]; rfl, ?_⟩
  refine ⟨(F.1, F.2 ++ [t]), c3, ?_, ⟨by simp only [List.length_append, List.length_cons, List.length_nil]; omega, fun x hx => ?_⟩, g3, rfl⟩
  ·simp only [wFact, tFact, intsT, List.length_append]
   rfl
  ·rcases List.mem_append.1 hx with hx | hx
   ·exact f2 x hx
   ·rw [List.mem_singleton.1 hx]; exact hp
 | false =>
  conv => whnf
  generalize (v == 1) = b1
  cases b1 with
  | true =>
   conv => whnf
   refine .inr (.inl ?_)
   conv => whnf
   refine ⟨curC_ne c2, ?_⟩
   conv => whnf
   refine ⟨rfl, ?_⟩
   conv => whnf
   refine ⟨_, _, _, l1PickInt_spec c2 [-1, 3, 4] g2 (by decide) (by decide), ?_⟩
   conv => whnf
   refine .inl ?_
   have g3 := belowP_good g2 3
   have e4 : (([-1, 3, 4] : List Int).length : Int) = 3 := rfl
   rw [e4]
   generalize (belowP c2 3).2 = c3 at g3 ⊢
   generalize ([-1, 3, 4] : List Int).getD (belowP c2 3).1.toNat 0 = t
   conv => whnf
   refine ⟨[], ?_⟩
   conv => whnf
   refine ⟨by rw [rows_len ciL_len], ?_⟩
   exact ⟨(t, F.2), c3, rfl, ⟨by show F.2.length ≤ 4; omega, f2⟩, g3, rfl⟩
  | false =>
   conv => whnf
   generalize (v == 2) = b2
   cases b2 with
   | true =>
    conv => whnf
    refine ⟨[1001, 0, 1, 2, 3, 4, 5, 6, 1000, 1000], by kernel_rfl, ?_⟩
    conv => whnf
    refine .inr (.inl ?_)
    conv => whnf
    refine ⟨curC_ne c2, ?_⟩
    conv => whnf
    refine ⟨rfl, ?_⟩
    conv => whnf
    refine ⟨fun k => noSubT_lk (by kernel_rfl) k, rfl, _, _, _, l1PickInt_spec c2 [99, 100, -1] g2 (by decide) (by decide), ?_⟩
    conv => whnf
    refine .inl ?_
    have hp := pick [99, 100, -1] c2 (by decide) (by decide) (by decide)
    have g3 := belowP_good g2 3
    have e4 : (([99, 100, -1] : List Int).length : Int) = 3 := rfl
    rw [e4] at hp ⊢
    generalize (belowP c2 3).2 = c3 at g3 ⊢
    generalize ([99, 100, -1] : List Int).getD (belowP c2 3).1.toNat 0 = t at hp ⊢
    conv => whnf
    refine ⟨by omega, ?_⟩
    conv => whnf
    refine ⟨_, takeN_own (k := 0) (d := 0) (m := 1) (xs := F.2) ciL_len (Nat.zero_add _) (by omega) (by omega) rfl, _, set0_ci F.2 t (by omega), ?_⟩
    conv => whnf
    refine ⟨[], ?_⟩
    conv => whnf
    refine ⟨by rw [rows_len ciL_len, List.length_set], ?_⟩
    refine ⟨(F.1, F.2.set 0 t), c3, ?_, ⟨by simp only [List.length_set]; omega, fun x hx => ?_⟩, g3, rfl⟩
    ·simp only [wFact, tFact, intsT, List.length_set]
     rfl
    ·rcases List.mem_or_eq_of_mem_set hx with hx | hx
     ·exact f2 x hx
     ·rw [hx]; exact hp
   | false =>
    conv => whnf
    refine ⟨[], ?_⟩
    conv => whnf
    refine ⟨by rw [rows_len ciL_len], ?_⟩
    exact ⟨F, c2, rfl, ⟨by omega, f2⟩, g2, rfl⟩
theorem solid_tFactD (f : FactC) : ∀ c ∈ tFact f, solid c = true := by
 intro c hc
 simp only [tFact, List.mem_cons, List.not_mem_nil, or_false] at hc
 rcases hc with rfl | rfl <;> rfl
set_option maxHeartbeats 4000000 in
theorem l6Draw_g (c : Cur) (h : goodC c) : SpecG Tryz.prog 107 [.ptr 0 0] (gC c) fun r g2 => ∃ (s : List Int) (q : QueryW) (db : List FactC) (c' : Cur), r = .tup [vSchema s, wQuery q, wFactS db] ∧ s.length ≤ 8 ∧ qSm q ∧ q.2.length ≤ 3 ∧ smDb 9 4 db ∧ goodC c' ∧ g2 = gC c' := by
 unfold gC
 refine SpecG_of mx Γ_ok 1 Tryz.func107 rfl rfl (by decide) ?_
 conv => whnf
 refine .inr (.inl ?_)
 conv => whnf
 refine ⟨curC_ne c, ?_⟩
 conv => whnf
 refine ⟨_, _, _, l3Schema_spec c h, ?_⟩
 conv => whnf
 refine .inl ?_
 rw [wSchema_ro]
 conv => whnf
 obtain ⟨h1, s1, s2, s3⟩ := schP_ok h
 have hs : sOk (schP c).1 := ⟨s1, s2, by omega⟩
 generalize (schP c).2 = c1 at h1 ⊢
 generalize (schP c).1 = s at hs s3 ⊢
 refine .inr (.inr ⟨[0], [], ?_⟩)
 conv => whnf
 refine ⟨_, l4Query_g s c1 hs h1, fun r g2 hP => ?_⟩
 obtain ⟨q, c2, rfl, q1, q2, _, q3, h2, rfl⟩ := hP
 refine .inr ?_
 conv => whnf
 refine .inr (.inl ?_)
 conv => whnf
 refine ⟨curC_ne c2, ?_⟩
 conv => whnf
 refine ⟨_, _, _, l5Db_spec s c2 hs h2, ?_⟩
 conv => whnf
 refine .inr ?_
 conv => whnf
 obtain ⟨h3, d1, d2⟩ := dbP_sv hs h2
 generalize (dbP s c2).2 = c3 at h3 ⊢
 generalize (dbP s c2).1 = db at d1 d2 ⊢
 refine .inr (.inl ?_)
 conv => whnf
 refine ⟨curC_ne c3, ?_⟩
 conv => whnf
 refine ⟨_, _, _, l1Below_spec c3 14 h3 (by omega), ?_⟩
 conv => whnf
 refine .inl ?_
 conv => whnf
 have h4 := belowP_good h3 14
 generalize (belowP c3 14).2 = c4 at h4 ⊢
 generalize (belowP c3 14).1 = v
 have hqs : qSm q := ⟨by omega, by omega, fun a ha => by have := q3 a ha; omega⟩
 have hd : smDb 9 4 db := ⟨by omega, fun f hf => ⟨by have := (d2 f hf).1; omega, (d2 f hf).2⟩⟩
 generalize (v == 0) = b0
 cases b0 with
 | true =>
  conv => whnf
  refine ⟨[1001, 0, 1, 2, 3, 4, 5, 6, 7, 1000, 1000], by kernel_rfl, ?_⟩
  conv => whnf
  refine .inr (.inr ⟨[0], fun k => noSubT_lk (by kernel_rfl) k, rfl, ?_⟩)
  conv => whnf
  refine ⟨_, l2Any_g c4 h4, fun r g2 hP => ?_⟩
  obtain ⟨t, c5, rfl, h5, rfl⟩ := hP
  refine .inl ?_
  conv => whnf
  refine ⟨_, rfl, .inl ⟨flat1 rfl, ?_⟩⟩
  conv => whnf
  refine ⟨by omega, by rw [rows_len ciL_len], _, snoc_ci _ _, ?_⟩
  conv => whnf
  refine ⟨[2001, 0, 1, 2, 3, 4, 5], by kernel_rfl, ?_⟩
  conv => whnf
  refine ⟨rfl, ?_⟩
  conv => whnf
  refine ⟨[], ?_⟩
  conv => whnf
  refine ⟨by rw [rows_len ciL_len, List.length_append]; rfl, by rw [rows_len tAtom_len], by rw [rows_len tFact_len], ?_⟩
  refine ⟨s, (q.1 ++ [t], q.2), db, c5, ?_, by omega, ⟨by simp; omega, hqs.2.1, hqs.2.2⟩, q2, hd, h5, rfl⟩
  show _ = V.tup [_, .agg [.tr 1 (q.1 ++ [t]).length _, _], _]
  rw [List.length_append]
  rfl
 | false =>
  conv => whnf
  generalize (v == 1) = b1
  cases b1 with
  | true =>
   conv => whnf
   refine .inr (.inr ⟨[0], [], ?_⟩)
   conv => whnf
   refine ⟨_, l5AnyFact_g s c4 hs h4, fun r g2 hP => ?_⟩
   obtain ⟨f, c5, rfl, hf, h5, rfl⟩ := hP
   refine .inr ?_
   conv => whnf
   refine ⟨by rw [rows_len ciL_len], ?_⟩
   conv => whnf
   refine ⟨_, rfl, .inr ⟨solid_tFactD f, ?_⟩⟩
   conv => whnf
   refine ⟨by omega, by rw [rows_len tFact_len], _, snoc_rowsD tFact _ f, ?_⟩
   conv => whnf
   refine ⟨[2001, 0, 1, 2, 3, 4, 5], by kernel_rfl, ?_⟩
   conv => whnf
   refine ⟨rfl, ?_⟩
   conv => whnf
   refine ⟨[], ?_⟩
   conv => whnf
   refine ⟨by rw [rows_len ciL_len], by rw [rows_len tAtom_len], by rw [rows_len tFact_len, List.length_append]; rfl, ?_⟩
   refine ⟨s, q, db ++ [f], c5, ?_, by omega, hqs, q2, ⟨by simp; omega, fun x hx => ?_⟩, h5, rfl⟩
   ·show _ = V.tup [_, _, .tr 2 (db ++ [f]).length _]
    rw [List.length_append]
    rfl
   ·rcases List.mem_append.1 hx with hx | hx
    ·exact hd.2 x hx
    ·rw [List.mem_singleton.1 hx]; exact hf
  | false =>
   conv => whnf
   generalize (v == 2) = b2
   cases b2 with
   | true =>
    conv => whnf
    refine .inr (.inr ⟨[0], [], ?_⟩)
    conv => whnf
    refine ⟨_, l3Any_g c4 h4, fun r g2 hP => ?_⟩
    obtain ⟨s', c5, rfl, hs', h5, rfl⟩ := hP
    refine .inl ?_
    rw [wSchema_ro]
    conv => whnf
    refine ⟨[2001, 0, 1, 2, 3, 4, 5], by kernel_rfl, ?_⟩
    conv => whnf
    refine ⟨rfl, ?_⟩
    conv => whnf
    refine ⟨[], ?_⟩
    conv => whnf
    refine ⟨by rw [rows_len ciL_len], by rw [rows_len tAtom_len], by rw [rows_len tFact_len], ?_⟩
    exact ⟨s', q, db, c5, rfl, hs', hqs, q2, hd, h5, rfl⟩
   | false =>
    conv => whnf
    refine ⟨[2001, 0, 1, 2, 3, 4, 5], by kernel_rfl, ?_⟩
    conv => whnf
    refine ⟨rfl, ?_⟩
    conv => whnf
    refine ⟨[], ?_⟩
    conv => whnf
    refine ⟨by rw [rows_len ciL_len], by rw [rows_len tAtom_len], by rw [rows_len tFact_len], ?_⟩
    exact ⟨s, q, db, c4, rfl, by omega, hqs, q2, hd, h4, rfl⟩
set_option maxHeartbeats 1000000 in
theorem drawAnswers_g (xs : List Int) (h : xs.length ≤ 1099511627776) : SpecG Tryz.prog 17 [bytesR xs] [] fun r g2 => ∃ (s : List Int) (q : QueryW) (db : List FactC), r = .tup [vSchema s, wQuery q, wFactS db] ∧ s.length ≤ 8 ∧ qSm q ∧ q.2.length ≤ 3 ∧ smDb 9 4 db ∧ g2 = [] := by
 refine SpecG_of mx Γ_ok 0 Tryz.func17 rfl rfl (by decide) ?_
 conv => whnf
 refine ⟨_, l1New_spec xs h, .inl rfl, .inr ?_⟩
 conv => whnf
 have g0 := good_new h
 generalize newCur xs = c0 at g0 ⊢
 refine .inr (.inr ⟨[2], [], ?_⟩)
 conv => whnf
 refine ⟨_, l6Draw_g c0 g0, fun r g2 hP => ?_⟩
 obtain ⟨s, q, db, c1, rfl, hs, hq, hq2, hd, g1, rfl⟩ := hP
 refine .inr ?_
 conv => whnf
 refine ⟨[2000, 0, 1, 2, 3, 4, 5], by kernel_rfl, ?_⟩
 conv => whnf
 refine ⟨rfl, ?_⟩
 conv => whnf
 refine ⟨[], ?_⟩
 conv => whnf
 refine ⟨by rw [rows_len ciL_len], by rw [rows_len tAtom_len], by rw [rows_len tFact_len], ?_⟩
 exact ⟨s, q, db, rfl, hs, hq, hq2, hd, rfl⟩
end Go.Proofs.YtcjdfeafcmfgpaaGreatD
