/- Contracts and plain laws of this seat; no condition. -/
import Derived.Test.YtboolngaahifdaaGreatQ14
import Derived.Test.YtboolngaahifdaaGreatQ12
import Derived.Test.YtboolngaahifdaaGreatQ9
import Derived.Test.YtboolngaahifdaaGreatQ10
set_option linter.unusedVariables false
set_option linter.unusedSimpArgs false
set_option maxRecDepth 100000
namespace Go.Proofs.YtboolngaahifdaaGreatD
open Go Go.Proofs
def SV : List Int := [0, 1, 2, 3, 99, 100, -1]
def smF (n : Nat) (f : FactC) : Prop := f.2.length ≤ n ∧ ∀ x ∈ f.2, x ∈ SV
def smDb (n m : Nat) (db : List FactC) : Prop := db.length ≤ n ∧ ∀ f ∈ db, smF m f
theorem below4_sv (c : Cur) : (belowP c 4).1 ∈ SV := by
 have hb := belowP_bd c (n := 4) (by omega) (by omega)
 have : (belowP c 4).1 = 0 ∨ (belowP c 4).1 = 1 ∨ (belowP c 4).1 = 2 ∨ (belowP c 4).1 = 3 := by omega
 rcases this with h | h | h | h <;> rw [h] <;> decide
theorem argGo_sv : ∀ (n : Nat) (a : List Int) (c : Cur), (∀ x ∈ a, x ∈ SV) → ∀ x ∈ (argGo n a c).1, x ∈ SV
 | 0, a, c, h => h
 | n + 1, a, c, h => argGo_sv n _ _ fun x hx => by
  rcases List.mem_append.1 hx with hx | hx
  ·exact h x hx
  ·rw [List.mem_singleton.1 hx]; exact below4_sv c
theorem factP_sv {s : List Int} (hs : sOk s) {c : Cur} (hc : goodC c) : smF 3 (factP s c).1 ∧ 1 ≤ (factP s c).1.2.length := by
 obtain ⟨k, h1, h2⟩ := below_idx hs c
 have h3 := sOk_at hs h2
 refine ⟨⟨(factP_ok hs hc).2, ?_⟩, ?_⟩
 ·exact argGo_sv _ _ _ fun x hx => by cases hx
 ·obtain ⟨g1, g2⟩ := argGo_ok (s.getD k 0).toNat [] (belowP c s.length).2 (belowP_good hc _)
  unfold factP
  simp only [h1, Int.toNat_natCast]
  rw [g2, getD_at h2]
  simp only [List.length_nil]
  omega
theorem dbDr_sv {s : List Int} (hs : sOk s) : ∀ (n : Nat) (db : List FactC) (c : Cur), goodC c → (∀ f ∈ db, smF 3 f) → ∀ f ∈ (dbDr s n db c).1, smF 3 f
 | 0, db, c, _, h => h
 | n + 1, db, c, hc, h => dbDr_sv hs n _ _ (factP_ok hs hc).1 fun f hf => by
  rcases mem_putGo' _ f db false hf with rfl | hf
  ·exact (factP_sv hs hc).1
  ·exact h f hf
theorem dbP_sv {s : List Int} (hs : sOk s) {c : Cur} (hc : goodC c) : goodC (dbP s c).2 ∧ smDb 8 3 (dbP s c).1 := by
 obtain ⟨h1, h2, h3⟩ := dbP_ok hs hc
 exact ⟨h1, h3, dbDr_sv hs _ _ _ (belowP_good hc 9) fun f hf => by cases hf⟩
theorem smDb_size {n m : Nat} {db : List FactC} (h : smDb n m db) (hn : n ≤ 100) (hm : m ≤ 100) : cFactS db ≤ 1048576 := by
 have h1 := sumB_cap' cFact m db fun x hx => (h.2 x hx).1
 have h2 := h.1
 have h3 : m * db.length ≤ 100 * 100 := Nat.mul_le_mul hm (by omega)
 show db.length + sumB cFact db ≤ _
 omega
theorem set0_ci (xs : List Int) (t : Int) (h : 0 < xs.length) : setC (rows ciL xs) (0 + 0 * 1) [ci t] = rows ciL (xs.set 0 t) := (congrArg (fun o => setC (rows ciL xs) o (ciL t)) (Nat.zero_add _)).trans (setC_rows ciL_len (by omega) h _)
set_option maxHeartbeats 4000000 in
theorem l5AnyFact_g (s : List Int) (c : Cur) (hs : sOk s) (h : goodC c) : SpecG Tryz.prog 142 [.ptr 0 0, vSchema s] (gC c) fun r g2 => ∃ (f : FactC) (c' : Cur), r = wFact f ∧ smF 4 f ∧ goodC c' ∧ g2 = gC c' := by
 unfold gC
 refine SpecG_of mx Γ_ok 1 Tryz.func142 rfl rfl (by decide) ?_
 conv => whnf
 refine ⟨_, l4Safe_spec s hs, .inl rfl, .inl ?_⟩
 rw [ints_roV]
 conv => whnf
 refine .inr (.inl ?_)
 conv => whnf
 refine ⟨curC_ne c, ?_⟩
 conv => whnf
 refine ⟨_, _, _, l5Fact_spec s c hs h, ?_⟩
 conv => whnf
 refine .inr ?_
 conv => whnf
 obtain ⟨⟨f1, f2⟩, f3⟩ := factP_sv hs h
 have g1 := (factP_ok hs h).1
 generalize (factP s c).2 = c1 at g1 ⊢
 generalize (factP s c).1 = F at f1 f2 f3 ⊢
 refine .inr (.inl ?_)
 conv => whnf
 refine ⟨curC_ne c1, ?_⟩
 conv => whnf
 refine ⟨_, _, _, l1Below_spec c1 10 g1 (by omega), ?_⟩
 conv => whnf
 refine .inl ?_
 conv => whnf
 have g2 := belowP_good g1 10
 generalize (belowP c1 10).2 = c2 at g2 ⊢
 generalize (belowP c1 10).1 = v
 have pick : ∀ (xs : List Int) (c : Cur), (∀ x ∈ xs, x ∈ SV) → 1 ≤ xs.length → xs.length ≤ 200 → xs.getD (belowP c xs.length).1.toNat 0 ∈ SV := fun xs c hx h1 h2 => by
  have hb := belowP_bd c (n := xs.length) (by omega) (by omega)
  have hk : (belowP c xs.length).1.toNat < xs.length := by omega
  rw [getD_at0 hk]
  exact hx _ (List.getElem_mem hk)
 generalize (v == 0) = b0
 cases b0 with
 | true =>
  conv => whnf
  refine ⟨[1001, 0, 1, 2, 3, 4, 5, 6, 7, 8, 1000, 1000], by kernel_rfl, ?_⟩
  conv => whnf
  refine .inr (.inl ?_)
  conv => whnf
  refine ⟨curC_ne c2, ?_⟩
  conv => whnf
  refine ⟨rfl, ?_⟩
  conv => whnf
  refine ⟨fun k => noSubT_lk (by kernel_rfl) k, rfl, _, _, _, l1PickInt_spec c2 [0, 99, 100, -1] g2 (by decide) (by decide), ?_⟩
  conv => whnf
  refine .inl ?_
  have hp := pick [0, 99, 100, -1] c2 (by decide) (by decide) (by decide)
  have g3 := belowP_good g2 4
  have e4 : (([0, 99, 100, -1] : List Int).length : Int) = 4 := rfl
  rw [e4] at hp ⊢
  generalize (belowP c2 4).2 = c3 at g3 ⊢
  generalize ([0, 99, 100, -1] : List Int).getD (belowP c2 4).1.toNat 0 = t at hp ⊢
  conv => whnf
  refine ⟨_, rfl, .inl ⟨flat1 rfl, ?_⟩⟩
  conv => whnf
  refine ⟨by omega, by rw [rows_len ciL_len], _, snoc_ci _ _, ?_⟩
  conv => whnf
  refine ⟨[], ?_⟩
  conv => whnf
  refine ⟨by rw [rows_len ciL_len, List.length_append]; rfl, ?_⟩
  refine ⟨(F.1, F.2 ++ [t]), c3, ?_, ⟨by simp only [List.length_append, List.length_cons, List.length_nil]; omega, fun x hx => ?_⟩, g3, rfl⟩
  ·simp only [wFact, tFact, intsT, List.length_append]
   rfl
  ·rcases List.mem_append.1 hx with hx | hx
   ·exact f2 x hx
   ·rw [List.mem_singleton.1 hx]; exact hp
 | false =>
  conv => whnf
  generalize (v == 1) = b1
  cases b1 with
  | true =>
   conv => whnf
   refine .inr (.inl ?_)
   conv => whnf
   refine ⟨curC_ne c2, ?_⟩
   conv => whnf
   refine ⟨rfl, ?_⟩
   conv => whnf
   refine ⟨_, _, _, l1PickInt_spec c2 [-1, 3, 4] g2 (by decide) (by decide), ?_⟩
   conv => whnf
   refine .inl ?_
   have g3 := belowP_good g2 3
   have e4 : (([-1, 3, 4] : List Int).length : Int) = 3 := rfl
   rw [e4]
   generalize (belowP c2 3).2 = c3 at g3 ⊢
   generalize ([-1, 3, 4] : List Int).getD (belowP c2 3).1.toNat 0 = t
   conv => whnf
   refine ⟨[], ?_⟩
   conv => whnf
   refine ⟨by rw [rows_len ciL_len], ?_⟩
   exact ⟨(t, F.2), c3, rfl, ⟨by show F.2.length ≤ 4; omega, f2⟩, g3, rfl⟩
  | false =>
   conv => whnf
   generalize (v == 2) = b2
   cases b2 with
   | true =>
    conv => whnf
    refine ⟨[1001, 0, 1, 2, 3, 4, 5, 6, 1000, 1000], by kernel_rfl, ?_⟩
    conv => whnf
    refine .inr (.inl ?_)
    conv => whnf
    refine ⟨curC_ne c2, ?_⟩
    conv => whnf
    refine ⟨rfl, ?_⟩
    conv => whnf
    refine ⟨fun k => noSubT_lk (by kernel_rfl) k, rfl, _, _, _, l1PickInt_spec c2 [99, 100, -1] g2 (by decide) (by decide), ?_⟩
    conv => whnf
    refine .inl ?_
    have hp := pick [99, 100, -1] c2 (by decide) (by decide) (by decide)
    have g3 := belowP_good g2 3
    have e4 : (([99, 100, -1] : List Int).length : Int) = 3 := rfl
    rw [e4] at hp ⊢
    generalize (belowP c2 3).2 = c3 at g3 ⊢
    generalize ([99, 100, -1] : List Int).getD (belowP c2 3).1.toNat 0 = t at hp ⊢
    conv => whnf
    refine ⟨by omega, ?_⟩
    conv => whnf
    refine ⟨_, takeN_own (k := 0) (d := 0) (m := 1) (xs := F.2) ciL_len (Nat.zero_add _) (by omega) (by omega) rfl, _, set0_ci F.2 t (by omega), ?_⟩
    conv => whnf
    refine ⟨[], ?_⟩
    conv => whnf
    refine ⟨by rw [rows_len ciL_len, List.length_set], ?_⟩
    refine ⟨(F.1, F.2.set 0 t), c3, ?_, ⟨by simp only [List.length_set]; omega, fun x hx => ?_⟩, g3, rfl⟩
    ·simp only [wFact, tFact, intsT, List.length_set]
     rfl
    ·rcases List.mem_or_eq_of_mem_set hx with hx | hx
     ·exact f2 x hx
     ·rw [hx]; exact hp
   | false =>
    conv => whnf
    refine ⟨[], ?_⟩
    conv => whnf
    refine ⟨by rw [rows_len ciL_len], ?_⟩
    exact ⟨F, c2, rfl, ⟨by omega, f2⟩, g2, rfl⟩
theorem solid_tFactD (f : FactC) : ∀ c ∈ tFact f, solid c = true := by
 intro c hc
 simp only [tFact, List.mem_cons, List.not_mem_nil, or_false] at hc
 rcases hc with rfl | rfl <;> rfl
set_option maxHeartbeats 4000000 in
theorem l6Draw_g (c : Cur) (h : goodC c) : SpecG Tryz.prog 63 [.ptr 0 0] (gC c) fun r g2 => ∃ (s : List Int) (q : QueryW) (db : List FactC) (c' : Cur), r = .tup [vSchema s, wQuery q, wFactS db] ∧ s.length ≤ 8 ∧ qSm q ∧ q.2.length ≤ 3 ∧ smDb 9 4 db ∧ goodC c' ∧ g2 = gC c' := by
 unfold gC
 refine SpecG_of mx Γ_ok 1 Tryz.func63 rfl rfl (by decide) ?_
 conv => whnf
 refine .inr (.inl ?_)
 conv => whnf
 refine ⟨curC_ne c, ?_⟩
 conv => whnf
 refine ⟨_, _, _, l3Schema_spec c h, ?_⟩
 conv => whnf
 refine .inl ?_
 rw [wSchema_ro]
 conv => whnf
 obtain ⟨h1, s1, s2, s3⟩ := schP_ok h
 have hs : sOk (schP c).1 := ⟨s1, s2, by omega⟩
 generalize (schP c).2 = c1 at h1 ⊢
 generalize (schP c).1 = s at hs s3 ⊢
 refine .inr (.inr ⟨[0], [], ?_⟩)
 conv => whnf
 refine ⟨_, l4Query_g s c1 hs h1, fun r g2 hP => ?_⟩
 obtain ⟨q, c2, rfl, q1, q2, _, q3, h2, rfl⟩ := hP
 refine .inr ?_
 conv => whnf
 refine .inr (.inl ?_)
 conv => whnf
 refine ⟨curC_ne c2, ?_⟩
 conv => whnf
 refine ⟨_, _, _, l5Db_spec s c2 hs h2, ?_⟩
 conv => whnf
 refine .inr ?_
 conv => whnf
 obtain ⟨h3, d1, d2⟩ := dbP_sv hs h2
 generalize (dbP s c2).2 = c3 at h3 ⊢
 generalize (dbP s c2).1 = db at d1 d2 ⊢
 refine .inr (.inl ?_)
 conv => whnf
 refine ⟨curC_ne c3, ?_⟩
 conv => whnf
 refine ⟨_, _, _, l1Below_spec c3 14 h3 (by omega), ?_⟩
 conv => whnf
 refine .inl ?_
 conv => whnf
 have h4 := belowP_good h3 14
 generalize (belowP c3 14).2 = c4 at h4 ⊢
 generalize (belowP c3 14).1 = v
 have hqs : qSm q := ⟨by omega, by omega, fun a ha => by have := q3 a ha; omega⟩
 have hd : smDb 9 4 db := ⟨by omega, fun f hf => ⟨by have := (d2 f hf).1; omega, (d2 f hf).2⟩⟩
 generalize (v == 0) = b0
 cases b0 with
 | true =>
  conv => whnf
  refine ⟨[1001, 0, 1, 2, 3, 4, 5, 6, 7, 1000, 1000], by kernel_rfl, ?_⟩
  conv => whnf
  refine .inr (.inr ⟨[0], fun k => noSubT_lk (by kernel_rfl) k, rfl, ?_⟩)
  conv => whnf
  refine ⟨_, l2Any_g c4 h4, fun r g2 hP => ?_⟩
  obtain ⟨t, c5, rfl, h5, rfl⟩ := hP
  refine .inl ?_
  conv => whnf
  refine ⟨_, rfl, .inl ⟨flat1 rfl, ?_⟩⟩
  conv => whnf
  refine ⟨by omega, by rw [rows_len ciL_len], _, snoc_ci _ _, ?_⟩
  conv => whnf
  refine ⟨[2001, 0, 1, 2, 3, 4, 5], by kernel_rfl, ?_⟩
  conv => whnf
  refine ⟨rfl, ?_⟩
  conv => whnf
  refine ⟨[], ?_⟩
  conv => whnf
  refine ⟨by rw [rows_len ciL_len, List.length_append]; rfl, by rw [rows_len tAtom_len], by rw [rows_len tFact_len], ?_⟩
  refine ⟨s, (q.1 ++ [t], q.2), db, c5, ?_, by omega, ⟨by simp; omega, hqs.2.1, hqs.2.2⟩, q2, hd, h5, rfl⟩
  show _ = V.tup [_, .agg [.tr 1 (q.1 ++ [t]).length _, _], _]
  rw [List.length_append]
  rfl
 | false =>
  conv => whnf
  generalize (v == 1) = b1
  cases b1 with
  | true =>
   conv => whnf
   refine .inr (.inr ⟨[0], [], ?_⟩)
   conv => whnf
   refine ⟨_, l5AnyFact_g s c4 hs h4, fun r g2 hP => ?_⟩
   obtain ⟨f, c5, rfl, hf, h5, rfl⟩ := hP
   refine .inr ?_
   conv => whnf
   refine ⟨by rw [rows_len ciL_len], ?_⟩
   conv => whnf
   refine ⟨_, rfl, .inr ⟨solid_tFactD f, ?_⟩⟩
   conv => whnf
   refine ⟨by omega, by rw [rows_len tFact_len], _, snoc_rowsD tFact _ f, ?_⟩
   conv => whnf
   refine ⟨[2001, 0, 1, 2, 3, 4, 5], by kernel_rfl, ?_⟩
   conv => whnf
   refine ⟨rfl, ?_⟩
   conv => whnf
   refine ⟨[], ?_⟩
   conv => whnf
   refine ⟨by rw [rows_len ciL_len], by rw [rows_len tAtom_len], by rw [rows_len tFact_len, List.length_append]; rfl, ?_⟩
   refine ⟨s, q, db ++ [f], c5, ?_, by omega, hqs, q2, ⟨by simp; omega, fun x hx => ?_⟩, h5, rfl⟩
   ·show _ = V.tup [_, _, .tr 2 (db ++ [f]).length _]
    rw [List.length_append]
    rfl
   ·rcases List.mem_append.1 hx with hx | hx
    ·exact hd.2 x hx
    ·rw [List.mem_singleton.1 hx]; exact hf
  | false =>
   conv => whnf
   generalize (v == 2) = b2
   cases b2 with
   | true =>
    conv => whnf
    refine .inr (.inr ⟨[0], [], ?_⟩)
    conv => whnf
    refine ⟨_, l3Any_g c4 h4, fun r g2 hP => ?_⟩
    obtain ⟨s', c5, rfl, hs', h5, rfl⟩ := hP
    refine .inl ?_
    rw [wSchema_ro]
    conv => whnf
    refine ⟨[2001, 0, 1, 2, 3, 4, 5], by kernel_rfl, ?_⟩
    conv => whnf
    refine ⟨rfl, ?_⟩
    conv => whnf
    refine ⟨[], ?_⟩
    conv => whnf
    refine ⟨by rw [rows_len ciL_len], by rw [rows_len tAtom_len], by rw [rows_len tFact_len], ?_⟩
    exact ⟨s', q, db, c5, rfl, hs', hqs, q2, hd, h5, rfl⟩
   | false =>
    conv => whnf
    refine ⟨[2001, 0, 1, 2, 3, 4, 5], by kernel_rfl, ?_⟩
    conv => whnf
    refine ⟨rfl, ?_⟩
    conv => whnf
    refine ⟨[], ?_⟩
    conv => whnf
    refine ⟨by rw [rows_len ciL_len], by rw [rows_len tAtom_len], by rw [rows_len tFact_len], ?_⟩
    exact ⟨s, q, db, c4, rfl, by omega, hqs, q2, hd, h4, rfl⟩
end Go.Proofs.YtboolngaahifdaaGreatD
namespace Go.Proofs.YtboolngaahifdaaGreatD
open Go Go.Proofs
structure Tot {α : Type} (lt : α → α → Bool) : Prop where
 irr : ∀ a, lt a a = false
 tr : ∀ a b c, lt a b = true → lt b c = true → lt a c = true
 tri : ∀ a b, lt a b = true ∨ a = b ∨ lt b a = true
section
variable {α : Type} {lt : α → α → Bool}
theorem Tot.asym (h : Tot lt) {a b : α} (h1 : lt a b = true) : lt b a = false := by
 cases h2 : lt b a with
 | false => rfl
 | true => have := h.tr _ _ _ h1 h2; rw [h.irr] at this; cases this
def Strict (lt : α → α → Bool) (l : List α) : Prop := l.Pairwise fun a b => lt a b = true
theorem strict_unique (h : Tot lt) : ∀ {l m : List α}, Strict lt l → Strict lt m → (∀ a, a ∈ l ↔ a ∈ m) → l = m
 | [], [], _, _, _ => rfl
 | [], y :: m, _, _, hm => absurd ((hm y).2 (by simp)) (by simp)
 | x :: l, [], _, _, hm => absurd ((hm x).1 (by simp)) (by simp)
 | x :: l, y :: m, hl, hr, hm => by
  obtain ⟨hx, hl'⟩ := List.pairwise_cons.1 hl
  obtain ⟨hy, hr'⟩ := List.pairwise_cons.1 hr
  have hxy : x = y := by
   have h1 : x = y ∨ x ∈ m := by have := (hm x).1 (by simp); simpa using this
   have h2 : y = x ∨ y ∈ l := by have := (hm y).2 (by simp); simpa using this
   rcases h1 with h1 | h1
   ·exact h1
   ·rcases h2 with h2 | h2
    ·exact h2.symm
    ·have := h.asym (hx y h2)
     rw [hy x h1] at this; cases this
  subst hxy
  congr 1
  refine strict_unique h hl' hr' fun a => ?_
  have := hm a
  simp only [List.mem_cons] at this
  constructor
  ·intro ha
   rcases this.1 (.inr ha) with rfl | h2
   ·have := hx a ha; rw [h.irr] at this; cases this
   ·exact h2
  ·intro ha
   rcases this.2 (.inr ha) with rfl | h2
   ·have := hy a ha; rw [h.irr] at this; cases this
   ·exact h2
end
theorem cmpI_anti : ∀ xs ys : List Int, cmpI ys xs = - cmpI xs ys
 | [], [] => rfl
 | [], _ :: _ => rfl
 | _ :: _, [] => rfl
 | x :: xs, y :: ys => by
  simp only [cmpI]
  have := cmpI_anti xs ys
  rcases Int.lt_trichotomy x y with h | h | h
  ·rw [if_neg (by omega), if_pos h, if_pos h]; omega
  ·subst h; simp [this]
  ·rw [if_pos h, if_neg (by omega), if_pos h]
theorem cmpI_zero : ∀ xs ys : List Int, cmpI xs ys = 0 → xs = ys
 | [], [], _ => rfl
 | [], _ :: _, h => by simp [cmpI] at h
 | _ :: _, [], h => by simp [cmpI] at h
 | x :: xs, y :: ys, h => by
  simp only [cmpI] at h
  split at h
  ·omega
  ·split at h
   ·omega
   ·rw [cmpI_zero xs ys h, show x = y from by omega]
theorem cmpI_self (xs : List Int) : cmpI xs xs = 0 := by have := cmpI_anti xs xs; omega
theorem ltI_iff : ∀ xs ys : List Int, ltI xs ys = true ↔ cmpI xs ys < 0
 | [], [] => by simp [ltI, cmpI]
 | [], _ :: _ => by simp [ltI, cmpI]
 | _ :: _, [] => by simp [ltI, cmpI]
 | x :: xs, y :: ys => by
  simp only [ltI, cmpI]
  have ih := ltI_iff xs ys
  split
  ·rename_i h
   rw [if_neg (by omega), if_neg (by omega)]; exact ih
  ·rename_i h
   simp only [decide_eq_true_eq]
   constructor
   ·intro h1; rw [if_pos h1]; omega
   ·intro h1
    split at h1
    ·assumption
    ·rw [if_pos (by omega)] at h1; omega
theorem ltI_cmp (xs ys : List Int) : ltI xs ys = decide (cmpI xs ys < 0) := by
 rw [Bool.eq_iff_iff, ltI_iff, decide_eq_true_eq]
theorem cmpI_tr : ∀ xs ys zs : List Int, cmpI xs ys < 0 → cmpI ys zs < 0 → cmpI xs zs < 0
 | _, ys, [], _, h2 => by cases ys <;> simp [cmpI] at h2
 | [], _, _ :: _, _, _ => by simp [cmpI]
 | x :: xs, [], z :: zs, h1, _ => by simp [cmpI] at h1
 | x :: xs, y :: ys, z :: zs, h1, h2 => by
  have ih := cmpI_tr xs ys zs
  simp only [cmpI] at h1 h2 ⊢
  split at h1 <;> split at h2 <;> (try split at h1) <;> (try split at h2) <;> (split <;> try split) <;> first | omega | exact ih h1 h2
theorem totI : Tot ltI where
 irr := fun a => by rw [ltI_cmp, cmpI_self]; rfl
 tr := fun a b c h1 h2 => by rw [ltI_cmp] at h1 h2 ⊢; exact decide_eq_true (cmpI_tr a b c (of_decide_eq_true h1) (of_decide_eq_true h2))
 tri := fun a b => by
  rw [ltI_cmp, ltI_cmp, cmpI_anti a b]
  by_cases h : cmpI a b = 0
  ·exact .inr (.inl (cmpI_zero a b h))
  ·by_cases h1 : cmpI a b < 0
   ·exact .inl (decide_eq_true h1)
   ·exact .inr (.inr (decide_eq_true (by omega)))
theorem ltF_cmp (a b : FactC) : ltF a b = decide (cmpF a b < 0) := by
 rw [Bool.eq_iff_iff, decide_eq_true_eq]
 unfold ltF cmpF
 split
 ·rename_i h
  rw [if_neg (by omega), if_neg (by omega)]; exact ltI_iff _ _
 ·rename_i h
  simp only [decide_eq_true_eq]
  constructor
  ·intro h1; rw [if_pos h1]; omega
  ·intro h1
   split at h1
   ·assumption
   ·rw [if_pos (by omega)] at h1; omega
theorem totF : Tot ltF where
 irr := fun a => by unfold ltF; rw [if_pos rfl, totI.irr]
 tr := fun a b c h1 h2 => by
  unfold ltF at h1 h2 ⊢
  split at h1 <;> split at h2 <;> split <;> first
   | exact totI.tr _ _ _ h1 h2
   | (have h1 := of_decide_eq_true h1; have h2 := of_decide_eq_true h2; first | omega | exact decide_eq_true (by omega))
   | (have h1 := of_decide_eq_true h1; first | omega | exact decide_eq_true (by omega))
   | (have h2 := of_decide_eq_true h2; first | omega | exact decide_eq_true (by omega))
   | omega
 tri := fun a b => by
  unfold ltF
  rcases Int.lt_trichotomy a.1 b.1 with h | h | h
  ·rw [if_neg (by omega)]; exact .inl (decide_eq_true h)
  ·rw [if_pos h, if_pos h.symm]
   rcases totI.tri a.2 b.2 with h1 | h1 | h1
   ·exact .inl h1
   ·exact .inr (.inl (Prod.ext h h1))
   ·exact .inr (.inr h1)
  ·rw [if_neg (by omega), if_neg (by omega)]; exact .inr (.inr (decide_eq_true h))
end Go.Proofs.YtboolngaahifdaaGreatD
namespace Go.Proofs.YtboolngaahifdaaGreatD
open Go Go.Proofs
section
variable {α : Type} {lt : α → α → Bool}
variable [DecidableEq α]
theorem compG_ok (h : Tot lt) : ∀ (xs : List α) (p : α), (∀ a ∈ xs, lt a p = false) → xs.Pairwise (fun a b => lt b a = false) →
  Strict lt (compG (fun a b => decide (a = b)) p xs) ∧ (∀ a, a ∈ compG (fun a b => decide (a = b)) p xs ↔ a ∈ xs ∧ a ≠ p)
 | [], p, _, _ => ⟨List.Pairwise.nil, fun a => by simp [compG]⟩
 | x :: r, p, hp, hs => by
  obtain ⟨hx, hr⟩ := List.pairwise_cons.1 hs
  obtain ⟨i1, i2⟩ := compG_ok h r x hx hr
  simp only [compG]
  by_cases hxp : x = p
  ·subst hxp
   simp only [decide_true, if_true]
   refine ⟨i1, fun a => ?_⟩
   rw [i2 a]
   simp only [List.mem_cons]
   constructor
   ·rintro ⟨h1, h2⟩; exact ⟨.inr h1, h2⟩
   ·rintro ⟨h1 | h1, h2⟩
    ·exact absurd h1 h2
    ·exact ⟨h1, h2⟩
  ·simp only [hxp, decide_false, Bool.false_eq_true, if_false]
   have hpx : lt p x = true := by
    rcases h.tri p x with h1 | h1 | h1
    ·exact h1
    ·exact absurd h1.symm hxp
    ·rw [hp x (by simp)] at h1; cases h1
   refine ⟨List.pairwise_cons.2 ⟨fun a ha => ?_, i1⟩, fun a => ?_⟩
   ·obtain ⟨h1, h2⟩ := (i2 a).1 ha
    rcases h.tri x a with h3 | h3 | h3
    ·exact h3
    ·exact absurd h3.symm h2
    ·rw [hx a h1] at h3; cases h3
   ·simp only [List.mem_cons, i2 a]
    constructor
    ·rintro (rfl | ⟨h1, h2⟩)
     ·exact ⟨.inl rfl, hxp⟩
     ·refine ⟨.inr h1, fun e => ?_⟩
      subst e
      have := hx a h1
      rw [hpx] at this; cases this
    ·rintro ⟨rfl | h1, h2⟩
     ·exact .inl rfl
     ·by_cases e : a = x
      ·exact .inl e
      ·exact .inr ⟨h1, e⟩
theorem compL_ok (h : Tot lt) (xs : List α) (hs : xs.Pairwise (fun a b => lt b a = false)) : Strict lt (compL (fun a b => decide (a = b)) xs) ∧ (∀ a, a ∈ compL (fun a b => decide (a = b)) xs ↔ a ∈ xs) := by
 cases xs with
 | nil => exact ⟨List.Pairwise.nil, fun a => by simp [compL]⟩
 | cons x r =>
  obtain ⟨hx, hr⟩ := List.pairwise_cons.1 hs
  obtain ⟨i1, i2⟩ := compG_ok h r x hx hr
  refine ⟨List.pairwise_cons.2 ⟨fun a ha => ?_, i1⟩, fun a => ?_⟩
  ·obtain ⟨h1, h2⟩ := (i2 a).1 ha
   rcases h.tri x a with h3 | h3 | h3
   ·exact h3
   ·exact absurd h3.symm h2
   ·rw [hx a h1] at h3; cases h3
  ·simp only [compL, List.mem_cons, i2 a]
   constructor
   ·rintro (h1 | ⟨h1, _⟩)
    ·exact .inl h1
    ·exact .inr h1
   ·rintro (h1 | h1)
    ·exact .inl h1
    ·by_cases e : a = x
     ·exact .inl e
     ·exact .inr ⟨h1, e⟩
end
theorem swo_of_tot {α : Type} {cf : α → α → Int} {lt : α → α → Bool} (h : Tot lt) (hc : ∀ a b, lt a b = decide (cf a b < 0)) : Go.Sort.SWO (ltOf cf) := by
 have e : ltOf cf = lt := by funext a b; exact (hc a b).symm
 rw [e]
 refine ⟨h.irr, h.tr, fun a b c h1 h2 => ?_⟩
 cases h3 : lt a c with
 | false => rfl
 | true =>
  rcases h.tri a b with h4 | h4 | h4
  ·rw [h1] at h4; cases h4
  ·subst h4; rw [h2] at h3; cases h3
  ·have := h.tr _ _ _ h4 h3; rw [h2] at this; cases this
end Go.Proofs.YtboolngaahifdaaGreatD
namespace Go.Proofs.YtboolngaahifdaaGreatD
open Go Go.Proofs Go.Shelf
def layLRen : Ren := ⟨fun x => match x with | 6 => 69 | 15 => 150 | 14 => 149 | 28 => 208 | 29 => 209 | 20 => 200 | 21 => 201 | 22 => 202 | 23 => 203 | 24 => 204 | 25 => 205 | 26 => 206 | 27 => 207 | 46 => 225 | 47 => 226 | 48 => 227 | 49 => 228 | 50 => 229 | 57 => 246 | n => n, fun x => match x with | 22 => 33 | 24 => 24 | 25 => 103 | 3 => 3 | 39 => 157 | 0 => 0 | 53 => 193 | 55 => 195 | 4 => 4 | 46 => 186 | 45 => 185 | 50 => 190 | 5 => 5 | 9 => 9 | 66 => 209 | 70 => 213 | 76 => 226 | 77 => 227 | n => n, fun x => have n := x; n⟩
theorem layL_ok : SlLaysF.n6 Tryz.prog layLRen where
 mixed := mx
 f6 := ⟨"slices.SortFunc[[][]int,[]int]", by decide, Tryz.func69.trans (congrArg some (by kernel_rfl))⟩
 f14 := ⟨"slices.pdqsortCmpFunc[[]int]", by decide, Tryz.func149.trans (congrArg some (by kernel_rfl))⟩
 f15 := Tryz.func150.trans (congrArg some (by kernel_rfl))
 f20 := ⟨"slices.insertionSortCmpFunc[[]int]", by decide, Tryz.func200.trans (congrArg some (by kernel_rfl))⟩
 f21 := ⟨"slices.heapSortCmpFunc[[]int]", by decide, Tryz.func201.trans (congrArg some (by kernel_rfl))⟩
 f22 := ⟨"slices.breakPatternsCmpFunc[[]int]", by decide, Tryz.func202.trans (congrArg some (by kernel_rfl))⟩
 f23 := ⟨"slices.choosePivotCmpFunc[[]int]", by decide, Tryz.func203.trans (congrArg some (by kernel_rfl))⟩
 f24 := ⟨"slices.reverseRangeCmpFunc[[]int]", by decide, Tryz.func204.trans (congrArg some (by kernel_rfl))⟩
 f25 := ⟨"slices.partialInsertionSortCmpFunc[[]int]", by decide, Tryz.func205.trans (congrArg some (by kernel_rfl))⟩
 f26 := ⟨"slices.partitionEqualCmpFunc[[]int]", by decide, Tryz.func206.trans (congrArg some (by kernel_rfl))⟩
 f27 := ⟨"slices.partitionCmpFunc[[]int]", by decide, Tryz.func207.trans (congrArg some (by kernel_rfl))⟩
 f28 := Tryz.func208.trans (congrArg some (by kernel_rfl))
 f29 := Tryz.func209.trans (congrArg some (by kernel_rfl))
 f46 := ⟨"slices.siftDownCmpFunc[[]int]", by decide, Tryz.func225.trans (congrArg some (by kernel_rfl))⟩
 f47 := Tryz.func226.trans (congrArg some (by kernel_rfl))
 f48 := Tryz.func227.trans (congrArg some (by kernel_rfl))
 f49 := ⟨"slices.medianAdjacentCmpFunc[[]int]", by decide, Tryz.func228.trans (congrArg some (by kernel_rfl))⟩
 f50 := ⟨"slices.medianCmpFunc[[]int]", by decide, Tryz.func229.trans (congrArg some (by kernel_rfl))⟩
 f57 := ⟨"slices.order2CmpFunc[[]int]", by decide, Tryz.func246.trans (congrArg some (by kernel_rfl))⟩
 t0 := Tryz.underlying0
 a0 := Tryz.isAgg0
 z0 := Tryz.sizeOf0
 v0 := Tryz.zeroValue0
 t3 := Tryz.underlying3
 a3 := Tryz.isAgg3
 z3 := Tryz.sizeOf3
 v3 := Tryz.zeroValue3
 t4 := Tryz.underlying4
 a4 := Tryz.isAgg4
 z4 := Tryz.sizeOf4
 v4 := Tryz.zeroValue4
 t5 := Tryz.underlying5
 a5 := Tryz.isAgg5
 z5 := Tryz.sizeOf5
 v5 := Tryz.zeroValue5
 t9 := Tryz.underlying9
 a9 := Tryz.isAgg9
 z9 := Tryz.sizeOf9
 v9 := Tryz.zeroValue9
 t22 := Tryz.underlying33
 a22 := Tryz.isAgg33
 z22 := Tryz.sizeOf33
 v22 := Tryz.zeroValue33
 a24 := Tryz.isAgg24
 z24 := Tryz.sizeOf24
 t25 := Tryz.underlying103
 a25 := Tryz.isAgg103
 z25 := Tryz.sizeOf103
 v25 := Tryz.zeroValue103
 t39 := Tryz.underlying157
 a39 := Tryz.isAgg157
 z39 := Tryz.sizeOf157
 v39 := Tryz.zeroValue157
 t45 := Tryz.underlying185
 a45 := Tryz.isAgg185
 z45 := Tryz.sizeOf185
 v45 := Tryz.zeroValue185
 t46 := Tryz.underlying186
 a46 := Tryz.isAgg186
 z46 := Tryz.sizeOf186
 v46 := Tryz.zeroValue186
 t50 := Tryz.underlying190
 a50 := Tryz.isAgg190
 z50 := Tryz.sizeOf190
 v50 := Tryz.zeroValue190
 t53 := Tryz.underlying193
 a53 := Tryz.isAgg193
 z53 := Tryz.sizeOf193
 v53 := Tryz.zeroValue193
 t55 := Tryz.underlying195
 a55 := Tryz.isAgg195
 z55 := Tryz.sizeOf195
 v55 := Tryz.zeroValue195
 t66 := Tryz.underlying209
 a66 := Tryz.isAgg209
 z66 := Tryz.sizeOf209
 v66 := Tryz.zeroValue209
 t70 := Tryz.underlying213
 a70 := Tryz.isAgg213
 z70 := Tryz.sizeOf213
 v70 := Tryz.zeroValue213
 t76 := Tryz.underlying226
 a76 := Tryz.isAgg226
 z76 := Tryz.sizeOf226
 v76 := Tryz.zeroValue226
 t77 := Tryz.underlying227
 a77 := Tryz.isAgg227
 z77 := Tryz.sizeOf227
 v77 := Tryz.zeroValue227
end Go.Proofs.YtboolngaahifdaaGreatD
