/- Contracts and plain laws of this seat; no condition. -/
import Derived.Test.YtcjdfeafcmfgpaaGreatQ24
set_option linter.unusedVariables false
set_option linter.unusedSimpArgs false
set_option maxRecDepth 100000
namespace Go.Proofs.YtcjdfeafcmfgpaaGreatD
open Go Go.Proofs
abbrev InclD := Int × List Int × Int × List Int
def smI (n : Nat) (x : InclD) : Prop := 1 ≤ x.2.1.length ∧ x.2.1.length ≤ n ∧ x.2.2.2.length ≤ n
set_option maxHeartbeats 4000000 in
theorem l14Inclusion_g (s : List Int) (c : Cur) (hs : sOk s) (h : goodC c) : SpecG Tryz.prog 279 [.ptr 0 0, vSchema s] (gC c) fun r g2 => ∃ (x : InclD) (c' : Cur), r = wInclusion x ∧ smI 2 x ∧ goodC c' ∧ g2 = gC c' := by
 unfold gC
 have hsl := hs.2.2
 refine SpecG_of mx Γ_ok 1 Tryz.func279 rfl rfl (by decide) ?_
 conv => whnf
 refine ⟨[1001, 0, 1, 2, 3, 5, 6, 7, 8, 4, 9, 10, 1000, 11, 1000, 12], by kernel_rfl, ?_⟩
 conv => whnf
 refine .inr (.inl ?_)
 conv => whnf
 refine ⟨curC_ne c, ?_⟩
 conv => whnf
 refine ⟨fun k => noSubT_lk (by kernel_rfl) k, rfl, _, _, _, l1Below_spec c s.length h (by omega), ?_⟩
 conv => whnf
 refine .inl ?_
 obtain ⟨p, hp, hpl⟩ := below_idx hs c
 have g1 := belowP_good h s.length
 rw [hp]
 generalize (belowP c s.length).2 = c1 at g1 ⊢
 conv => whnf
 refine .inr (.inl ?_)
 conv => whnf
 refine ⟨curC_ne c1, ?_⟩
 conv => whnf
 refine ⟨fun k => noSubT_lk (by kernel_rfl) k, rfl, _, _, _, l1Below_spec c1 s.length g1 (by omega), ?_⟩
 conv => whnf
 refine .inl ?_
 obtain ⟨q, hq, hql⟩ := below_idx hs c1
 have g2 := belowP_good g1 s.length
 rw [hq]
 generalize (belowP c1 s.length).2 = c2 at g2 ⊢
 conv => whnf
 have hat := sOk_at hs hpl
 have hat2 := sOk_at hs hql
 refine ⟨by omega, rows_len ciL_len _, ?_⟩
 conv => whnf
 refine ⟨_, takeN_rp (k := p) ciL_len hpl, ?_⟩
 generalize hn : s[p] = n at hat ⊢
 conv => whnf
 refine .inr (.inl ?_)
 conv => whnf
 refine ⟨curC_ne c2, ?_⟩
 conv => whnf
 refine ⟨_, _, _, l1Below_spec c2 n g2 (by omega), ?_⟩
 conv => whnf
 refine .inl ?_
 have g3 := belowP_good g2 n
 generalize (belowP c2 n).2 = c3 at g3 ⊢
 generalize (belowP c2 n).1 = u
 conv => whnf
 refine ⟨by omega, rows_len ciL_len _, ?_⟩
 conv => whnf
 refine ⟨_, takeN_rp (k := q) ciL_len hql, ?_⟩
 generalize hn2 : s[q] = n2 at hat2 ⊢
 conv => whnf
 refine .inr (.inl ?_)
 conv => whnf
 refine ⟨curC_ne c3, ?_⟩
 conv => whnf
 refine ⟨_, _, _, l1Below_spec c3 n2 g3 (by omega), ?_⟩
 conv => whnf
 refine .inl ?_
 have g4 := belowP_good g3 n2
 generalize (belowP c3 n2).2 = c4 at g4 ⊢
 generalize (belowP c3 n2).1 = w
 conv => whnf
 refine .inr (.inl ?_)
 conv => whnf
 refine ⟨curC_ne c4, ?_⟩
 conv => whnf
 refine ⟨_, _, _, l1Once_spec c4 4 g4 (by omega), ?_⟩
 conv => whnf
 refine .inl ?_
 have g5 := belowP_good g4 4
 generalize (belowP c4 4).2 = c5 at g5 ⊢
 generalize ((belowP c4 4).1 == 0) = o
 cases o with
 | false =>
  conv => whnf
  refine ⟨[], ?_⟩
  conv => whnf
  refine ⟨rfl, rfl, ?_⟩
  exact ⟨((p : Int), [u], (q : Int), [w]), c5, rfl, ⟨by simp, by simp, by simp⟩, g5, rfl⟩
 | true =>
  conv => whnf
  refine ⟨by omega, rows_len ciL_len _, ?_⟩
  conv => whnf
  refine ⟨_, takeN_rp (k := p) ciL_len hpl, ?_⟩
  rw [hn]
  conv => whnf
  generalize decide (n > 1) = d1
  cases d1 with
  | false =>
   conv => whnf
   refine ⟨[], ?_⟩
   conv => whnf
   refine ⟨rfl, rfl, ?_⟩
   exact ⟨((p : Int), [u], (q : Int), [w]), c5, rfl, ⟨by simp, by simp, by simp⟩, g5, rfl⟩
  | true =>
   conv => whnf
   refine ⟨by omega, rows_len ciL_len _, ?_⟩
   conv => whnf
   refine ⟨_, takeN_rp (k := q) ciL_len hql, ?_⟩
   rw [hn2]
   conv => whnf
   generalize decide (n2 > 1) = d2
   cases d2 with
   | false =>
    conv => whnf
    refine ⟨[], ?_⟩
    conv => whnf
    refine ⟨rfl, rfl, ?_⟩
    exact ⟨((p : Int), [u], (q : Int), [w]), c5, rfl, ⟨by simp, by simp, by simp⟩, g5, rfl⟩
   | true =>
    conv => whnf
    refine ⟨[], ?_⟩
    conv => whnf
    refine ⟨rfl, rfl, ?_⟩
    exact ⟨((p : Int), [0, 1], (q : Int), [1, 0]), c5, rfl, ⟨by simp, by simp, by simp⟩, g5, rfl⟩
theorem set0_ciD (xs : List Int) (t : Int) (h : 0 < xs.length) : setC (rows ciL xs) (0 + 0 * 1) [ci t] = rows ciL (xs.set 0 t) := (congrArg (fun o => setC (rows ciL xs) o (ciL t)) (Nat.zero_add _)).trans (setC_rows ciL_len (by omega) h _)
theorem solid_tInclD (x : InclD) : ∀ c ∈ tInclusion x, solid c = true := by
 intro c hc
 simp only [tInclusion, List.mem_cons, List.not_mem_nil, or_false] at hc
 rcases hc with rfl | rfl | rfl | rfl <;> rfl
set_option maxHeartbeats 2000000 in
theorem l14List_g (s : List Int) (c : Cur) (hs : sOk s) (h : goodC c) : SpecG Tryz.prog 220 [.ptr 0 0, vSchema s] (gC c) fun r g2 => ∃ (l : List InclD) (c' : Cur), r = wInclusionS l ∧ l.length ≤ 2 ∧ (∀ x ∈ l, smI 2 x) ∧ goodC c' ∧ g2 = gC c' := by
 unfold gC
 refine SpecG_of mx Γ_ok 1 Tryz.func220 rfl rfl (by decide) ?_
 conv => whnf
 refine .inr (.inl ?_)
 conv => whnf
 refine ⟨curC_ne c, ?_⟩
 conv => whnf
 refine ⟨_, _, _, l1Below_spec c 3 h (by omega), ?_⟩
 conv => whnf
 refine .inl ?_
 conv => whnf
 have hb := belowP_bd c (n := 3) (by omega) (by omega)
 have hc := belowP_good h 3
 generalize (belowP c 3).2 = c0 at hc ⊢
 obtain ⟨n0, hn0⟩ : ∃ n : Nat, (belowP c 3).1 = n := ⟨(belowP c 3).1.toNat, by omega⟩
 rw [hn0] at hb ⊢
 refine ⟨[(0,0),(3,0),(4,0),(5,0),(6,0)], fun m st => ∃ (n : Nat) (e : Int) (l : List InclD) (c1 : Cur) (k : Nat) (cc r : List V), e = n ∧ m = n ∧ l.length + n ≤ 2 ∧ goodC c1 ∧ (∀ x ∈ l, smI 2 x) ∧ k = l.length ∧ cc = curC c1 ∧ r = rows tInclusion l ∧
  st = ⟨23, [(0, .ptr 0 0), (3, .ptr 1 0), (4, cnil), (5, .own 2 4 0 k k none), (6, ci e)], [some ⟨false, cc⟩, some ⟨true, [ints s]⟩, some ⟨false, r⟩]⟩, n0, ⟨n0, n0, [], c0, 0, _, _, rfl, rfl, by simp; omega, hc, (fun x hx => by cases hx), rfl, rfl, rfl, by kernel_rfl⟩, ?_⟩
 rintro m st ⟨n, _, l, c1, k, _, _, rfl, hm, hdn, hc1, hsh, hk, rfl, rfl, rfl⟩
 conv => whnf
 split <;> rename_i h1
 all_goals simp only [decide_eq_true_eq, decide_eq_false_iff_not] at h1
 ·obtain ⟨n', rfl⟩ : ∃ n', n = n' + 1 := ⟨n - 1, by omega⟩
  conv => whnf
  refine .inr (.inr ⟨[0], [], ?_⟩)
  conv => whnf
  refine ⟨_, l14Inclusion_g s c1 hs hc1, fun r g2 hP => ?_⟩
  obtain ⟨x, c2, rfl, hx, hc2, rfl⟩ := hP
  refine .inr ?_
  conv => whnf
  refine ⟨by rw [rows_len ciL_len], by rw [rows_len ciL_len], ?_⟩
  conv => whnf
  refine ⟨_, rfl, .inr ⟨solid_tInclD x, ?_⟩⟩
  conv => whnf
  refine ⟨by omega, by rw [rows_len tInclusion_len, hk], _, snoc_rowsD tInclusion _ x, ?_⟩
  conv => whnf
  refine ⟨m - 1, by omega, n', IntKind.i64.wrap (((n' + 1 : Nat) : Int) - 1), l ++ [x], c2, k + 1, curC c2, rows tInclusion (l ++ [x]), wrap_pred n', by omega, by simp; omega, hc2, fun y hy => ?_, by simp [hk], rfl, rfl, by kernel_rfl⟩
  rcases List.mem_append.1 hy with hy | hy
  ·exact hsh y hy
  ·rw [List.mem_singleton.1 hy]; exact hx
 ·have h0 : n = 0 := by omega
  subst h0
  subst hk
  conv => whnf
  refine ⟨[], ?_⟩
  conv => whnf
  refine ⟨by rw [rows_len tInclusion_len], ?_⟩
  exact ⟨l, c1, rfl, by omega, hsh, hc1, rfl⟩
set_option maxHeartbeats 4000000 in
theorem l14Any_g (s : List Int) (c : Cur) (hs : s.length ≤ 1099511627776) (h : goodC c) : SpecG Tryz.prog 221 [.ptr 0 0, vSchema s] (gC c) fun r g2 => ∃ (x : InclD) (c' : Cur), r = wInclusion x ∧ smI 3 x ∧ goodC c' ∧ g2 = gC c' := by
 unfold gC
 have hsO := safeS_ok s
 obtain ⟨r0, hr1, hr2⟩ := l4SafeG_spec s hs
 generalize safeS s = z at hsO hr2
 refine SpecG_of mx Γ_ok 1 Tryz.func221 rfl rfl (by decide) ?_
 conv => whnf
 refine ⟨_, hr1, .inl rfl, .inl ?_⟩
 rw [hr2]
 conv => whnf
 refine .inr (.inr ⟨[0], [], ?_⟩)
 conv => whnf
 refine ⟨_, l14Inclusion_g z c hsO h, fun r g2 hP => ?_⟩
 obtain ⟨x, c1, rfl, ⟨x1, x2, x3⟩, f1, rfl⟩ := hP
 refine .inr ?_
 conv => whnf
 refine .inr (.inl ?_)
 conv => whnf
 refine ⟨curC_ne c1, ?_⟩
 conv => whnf
 refine ⟨_, _, _, l1Below_spec c1 8 f1 (by omega), ?_⟩
 conv => whnf
 refine .inl ?_
 conv => whnf
 have f3 := belowP_good f1 8
 generalize (belowP c1 8).2 = c2 at f3 ⊢
 generalize (belowP c1 8).1 = v
 generalize (v == 0) = b0
 cases b0 with
 | true =>
  conv => whnf
  refine .inr (.inl ?_)
  conv => whnf
  refine ⟨curC_ne c2, ?_⟩
  conv => whnf
  refine ⟨rfl, ?_⟩
  conv => whnf
  refine ⟨_, _, _, l1PickInt_spec c2 [-1, 3, 4] f3 (by decide) (by decide), ?_⟩
  conv => whnf
  refine .inl ?_
  have g3 := belowP_good f3 3
  have e4 : (([-1, 3, 4] : List Int).length : Int) = 3 := rfl
  rw [e4]
  generalize (belowP c2 3).2 = c3 at g3 ⊢
  generalize ([-1, 3, 4] : List Int).getD (belowP c2 3).1.toNat 0 = t
  conv => whnf
  refine ⟨[], ?_⟩
  conv => whnf
  refine ⟨by rw [rows_len ciL_len], by rw [rows_len ciL_len], ?_⟩
  exact ⟨(x.1, x.2.1, t, x.2.2.2), c3, rfl, ⟨x1, by show x.2.1.length ≤ 3; omega, by show x.2.2.2.length ≤ 3; omega⟩, g3, rfl⟩
 | false =>
  conv => whnf
  generalize (v == 1) = b1
  cases b1 with
  | true =>
   conv => whnf
   refine ⟨[1001, 0, 1, 2, 3, 4, 5, 6, 7, 8, 1000, 1000], by kernel_rfl, ?_⟩
   conv => whnf
   refine .inr (.inl ?_)
   conv => whnf
   refine ⟨curC_ne c2, ?_⟩
   conv => whnf
   refine ⟨rfl, ?_⟩
   conv => whnf
   refine ⟨fun k => noSubT_lk (by kernel_rfl) k, rfl, _, _, _, l1PickInt_spec c2 [0, 2, 3] f3 (by decide) (by decide), ?_⟩
   conv => whnf
   refine .inl ?_
   have g3 := belowP_good f3 3
   have e4 : (([0, 2, 3] : List Int).length : Int) = 3 := rfl
   rw [e4]
   generalize (belowP c2 3).2 = c3 at g3 ⊢
   generalize ([0, 2, 3] : List Int).getD (belowP c2 3).1.toNat 0 = t
   conv => whnf
   refine ⟨_, rfl, .inl ⟨flat1 rfl, ?_⟩⟩
   conv => whnf
   refine ⟨by omega, by rw [rows_len ciL_len], _, snoc_ci _ _, ?_⟩
   conv => whnf
   refine ⟨[], ?_⟩
   conv => whnf
   refine ⟨by rw [rows_len ciL_len], by rw [rows_len ciL_len, List.length_append]; rfl, ?_⟩
   refine ⟨(x.1, x.2.1, x.2.2.1, x.2.2.2 ++ [t]), c3, ?_, ⟨x1, by show x.2.1.length ≤ 3; omega, by simp only [List.length_append, List.length_cons, List.length_nil]; omega⟩, g3, rfl⟩
   simp only [wInclusion, tInclusion, intsT, List.length_append]
   rfl
  | false =>
   conv => whnf
   generalize (v == 2) = b2
   cases b2 with
   | true =>
    conv => whnf
    refine ⟨[1001, 0, 1, 2, 3, 4, 5, 6, 1000, 1000], by kernel_rfl, ?_⟩
    conv => whnf
    refine .inr (.inl ?_)
    conv => whnf
    refine ⟨curC_ne c2, ?_⟩
    conv => whnf
    refine ⟨rfl, ?_⟩
    conv => whnf
    refine ⟨fun k => noSubT_lk (by kernel_rfl) k, rfl, _, _, _, l1PickInt_spec c2 [-1, 2, 3] f3 (by decide) (by decide), ?_⟩
    conv => whnf
    refine .inl ?_
    have g3 := belowP_good f3 3
    have e4 : (([-1, 2, 3] : List Int).length : Int) = 3 := rfl
    rw [e4]
    generalize (belowP c2 3).2 = c3 at g3 ⊢
    generalize ([-1, 2, 3] : List Int).getD (belowP c2 3).1.toNat 0 = t
    conv => whnf
    refine ⟨by omega, ?_⟩
    conv => whnf
    refine ⟨_, takeN_own (k := 0) (d := 0) (m := 1) (xs := x.2.1) ciL_len (Nat.zero_add _) (by omega) (by omega) rfl, _, set0_ciD x.2.1 t (by omega), ?_⟩
    conv => whnf
    refine ⟨[], ?_⟩
    conv => whnf
    refine ⟨by rw [rows_len ciL_len, List.length_set], by rw [rows_len ciL_len], ?_⟩
    refine ⟨(x.1, x.2.1.set 0 t, x.2.2.1, x.2.2.2), c3, ?_, ⟨by simp only [List.length_set]; omega, by simp only [List.length_set]; omega, by show x.2.2.2.length ≤ 3; omega⟩, g3, rfl⟩
    simp only [wInclusion, tInclusion, intsT, List.length_set]
    rfl
   | false =>
    conv => whnf
    refine ⟨[], ?_⟩
    conv => whnf
    refine ⟨by rw [rows_len ciL_len], by rw [rows_len ciL_len], ?_⟩
    exact ⟨x, c2, rfl, ⟨x1, by omega, by omega⟩, f3, rfl⟩
theorem smI_size {n : Nat} {l : List InclD} (h : ∀ x ∈ l, smI n x) (hn : n ≤ 10) (hl : l.length ≤ 100) : cInclusionS l ≤ 1048576 := by
 have h1 := sumB_cap' cInclusion 20 l fun x hx => by
  obtain ⟨_, a, b⟩ := h x hx
  show x.2.1.length + x.2.2.2.length ≤ 20
  omega
 show l.length + sumB cInclusion l ≤ _
 omega
theorem rInclusion_roD (x : InclD) : roVs (rInclusion x) = rInclusion x := by simp only [rInclusion, roVs, roV, ints, roVs_ci, ci_ro]
theorem vInclusionS_roD (l : List InclD) : roV (vInclusionS l) = vInclusionS l := congrArg (V.ro l.length) (roVs_rows rInclusion_roD l)
theorem sqqki_ro (s : List Int) (a b : QueryW) (ks : List (Int × List Int)) (l : List InclD) : roV (.tup [vSchema s, vQuery a, vQuery b, wKeyS ks, wInclusionS l]) = .tup [vSchema s, vQuery a, vQuery b, vKeyS ks, vInclusionS l] := by
 show V.tup [roV (vSchema s), roV (vQuery a), roV (vQuery b), roV (wKeyS ks), roV (wInclusionS l)] = _
 rw [ints_roV, vQ_ro, vQ_ro, wKeyS_ro, wInclusionS_ro]
set_option maxHeartbeats 8000000 in
theorem l14Draw_g (xs : List Int) (h : xs.length ≤ 1099511627776) : SpecG Tryz.prog 115 [bytesR xs] [] fun r g2 => ∃ (s : List Int) (a b : QueryW) (ks : List (Int × List Int)) (l : List InclD), roV r = .tup [vSchema s, vQuery a, vQuery b, vKeyS ks, vInclusionS l] ∧ s.length ≤ 8 ∧ cQuery a ≤ 1048576 ∧ cQuery b ≤ 1048576 ∧ cKeyS ks ≤ 1048576 ∧ cInclusionS l ≤ 1048576 ∧ g2 = [] := by
 refine SpecG_of mx Γ_ok 0 Tryz.func115 rfl rfl (by decide) ?_
 conv => whnf
 refine ⟨_, l1New_spec xs h, .inl rfl, .inr ?_⟩
 conv => whnf
 have g0 := good_new h
 generalize newCur xs = c0 at g0 ⊢
 refine .inr (.inr ⟨[3], [], ?_⟩)
 conv => whnf
 refine ⟨_, l7Pair_g c0 g0, fun r g2 hP => ?_⟩
 obtain ⟨s, a, b, c1, hr, hs, ha, hb, g1, rfl⟩ := hP
 refine .inl ?_
 rw [hr]
 conv => whnf
 have hsO := safeS_ok s
 obtain ⟨r0, hr1, hr2⟩ := l4SafeG_spec s (by omega)
 generalize safeS s = z at hsO hr2
 refine ⟨_, hr1, .inl rfl, .inl ?_⟩
 rw [hr2]
 conv => whnf
 refine .inr (.inl ?_)
 conv => whnf
 refine ⟨curC_ne c1, ?_⟩
 conv => whnf
 refine ⟨_, _, _, l12Keys_spec z c1 hsO g1, ?_⟩
 conv => whnf
 refine .inr ?_
 obtain ⟨k1, k2, k3⟩ := keysP_short hsO g1
 generalize (keysP z c1).2 = c2 at k1 ⊢
 generalize (keysP z c1).1 = ks at k2 k3 ⊢
 have hks := short2_size k2 (by omega)
 conv => whnf
 refine ⟨_, hr1, .inl rfl, .inl ?_⟩
 rw [hr2]
 conv => whnf
 refine .inr (.inr ⟨[3], [], ?_⟩)
 conv => whnf
 refine ⟨_, l14List_g z c2 hsO k1, fun r g2 hP => ?_⟩
 obtain ⟨l, c3, rfl, l1, l2, l3, rfl⟩ := hP
 refine .inr ?_
 conv => whnf
 refine .inr (.inl ?_)
 conv => whnf
 refine ⟨curC_ne c3, ?_⟩
 conv => whnf
 refine ⟨_, _, _, l1Once_spec c3 14 l3 (by omega), ?_⟩
 conv => whnf
 refine .inl ?_
 have k4 := belowP_good l3 14
 generalize (belowP c3 14).2 = c4 at k4 ⊢
 generalize ((belowP c3 14).1 == 0) = o
 cases o with
 | false =>
  conv => whnf
  refine ⟨[2000, 2001, 0, 1, 2, 3, 4, 5, 6, 7, 8, 9], by kernel_rfl, ?_⟩
  conv => whnf
  refine ⟨rfl, ?_⟩
  conv => whnf
  refine ⟨rfl, ?_⟩
  conv => whnf
  refine ⟨[], ?_⟩
  conv => whnf
  refine ⟨by rw [rows_len tKey_len], by rw [rows_len tInclusion_len], ?_⟩
  exact ⟨s, a, b, ks, l, sqqki_ro s a b ks l, hs, ha, hb, hks, smI_size l2 (by omega) (by omega), rfl⟩
 | true =>
  conv => whnf
  refine .inr (.inr ⟨[3], [], ?_⟩)
  conv => whnf
  refine ⟨_, l14Any_g s c4 (by omega) k4, fun r g2 hP => ?_⟩
  obtain ⟨x, c5, rfl, hx, k5, rfl⟩ := hP
  refine .inr ?_
  conv => whnf
  refine ⟨by rw [rows_len ciL_len], by rw [rows_len ciL_len], ?_⟩
  conv => whnf
  refine ⟨_, rfl, .inr ⟨solid_tInclD x, ?_⟩⟩
  conv => whnf
  refine ⟨by omega, by rw [rows_len tInclusion_len], _, snoc_rowsD tInclusion _ x, ?_⟩
  conv => whnf
  refine ⟨[2000, 2001, 0, 1, 2, 3, 4, 5, 6, 7, 8, 9], by kernel_rfl, ?_⟩
  conv => whnf
  refine ⟨rfl, ?_⟩
  conv => whnf
  refine ⟨rfl, ?_⟩
  conv => whnf
  refine ⟨[], ?_⟩
  conv => whnf
  refine ⟨by rw [rows_len tKey_len], by rw [rows_len tInclusion_len, List.length_append]; rfl, ?_⟩
  refine ⟨s, a, b, ks, l ++ [x], ?_, hs, ha, hb, hks, smI_size (n := 3) (fun y hy => ?_) (by omega) (by simp; omega), rfl⟩
  ·rw [← sqqki_ro s a b ks (l ++ [x])]
   show _ = roV (V.tup [_, _, _, _, .tr 4 (l ++ [x]).length _])
   rw [List.length_append]
   rfl
  ·rcases List.mem_append.1 hy with hy | hy
   ·obtain ⟨u1, u2, u3⟩ := l2 y hy
    exact ⟨u1, by omega, by omega⟩
   ·rw [List.mem_singleton.1 hy]; exact hx
theorem drawContainedWith_g (xs : List Int) (h : xs.length ≤ 1099511627776) : SpecG Tryz.prog 24 [bytesR xs] [] fun r g2 => ∃ (s : List Int) (a b : QueryW) (ks : List (Int × List Int)) (l : List InclD), roV r = .tup [vSchema s, vQuery a, vQuery b, vKeyS ks, vInclusionS l] ∧ s.length ≤ 8 ∧ cQuery a ≤ 1048576 ∧ cQuery b ≤ 1048576 ∧ cKeyS ks ≤ 1048576 ∧ cInclusionS l ≤ 1048576 ∧ g2 = [] := by
 refine SpecG_ofE (ex := { ex := fun k => Nat.beq k 115, hid := fun _ => false }) mx Γ_ok 0 Tryz.func24 rfl rfl (by decide) ?_
 conv => whnf
 refine .inr (.inr ⟨[], [], ?_⟩)
 conv => whnf
 refine ⟨_, l14Draw_g xs h, fun r g2 hP => ?_⟩
 obtain ⟨s, a, b, ks, l, hr, hs, ha, hb, hk, hl, rfl⟩ := hP
 refine .inl ?_
 rw [hr]
 conv => whnf
 refine ⟨[2000, 2001, 0, 1, 2, 3, 4, 5, 6, 7, 8, 9], by kernel_rfl, ?_⟩
 conv => whnf
 refine ⟨rfl, ?_⟩
 conv => whnf
 refine ⟨rfl, ?_⟩
 conv => whnf
 refine ⟨[], ?_⟩
 conv => whnf
 refine ⟨s, a, b, ks, l, ?_, hs, ha, hb, hk, hl, rfl⟩
 show V.tup [roV (vSchema s), roV (vQuery a), roV (vQuery b), roV (vKeyS ks), roV (vInclusionS l)] = _
 rw [ints_roV, vQ_ro, vQ_ro, vKeyS_roD, vInclusionS_roD]
end Go.Proofs.YtcjdfeafcmfgpaaGreatD
