/- Contracts and plain laws of this seat; no condition. -/
import Derived.Test.YtboolngaahifdaaGreatQ38
import Derived.Test.YtboolngaahifdaaGreatQ23
import Derived.Test.YtboolngaahifdaaGreatQ12
import Derived.Test.YtboolngaahifdaaGreatQ11
import Derived.Test.YtboolngaahifdaaGreatQ13
import Derived.Test.YtboolngaahifdaaGreatQ10
import Derived.Test.YtboolngaahifdaaGreatQ20
set_option linter.unusedVariables false
set_option linter.unusedSimpArgs false
set_option maxRecDepth 100000
namespace Go.Proofs.YtboolngaahifdaaGreatD
open Go Go.Proofs
set_option maxHeartbeats 1000000 in
theorem drawViewTuples_g (xs : List Int) (h : xs.length ≤ 1099511627776) : SpecG Tryz.prog 40 [bytesR xs] [] fun r g2 => ∃ (s : List Int) (vs : List QueryW) (q : QueryW), r = .tup [vSchema s, wQueryS vs, wQuery q] ∧ s.length ≤ 8 ∧ okVs vs ∧ smT4 q ∧ g2 = [] := by
 refine SpecG_of mx Γ_ok 0 Tryz.func40 rfl rfl (by decide) ?_
 conv => whnf
 refine ⟨_, l1New_spec xs h, .inl rfl, .inr ?_⟩
 conv => whnf
 have g0 := good_new h
 generalize newCur xs = c0 at g0 ⊢
 refine .inr (.inr ⟨[2], [], ?_⟩)
 conv => whnf
 refine ⟨_, l16Draw_g c0 g0, fun r g2 hP => ?_⟩
 obtain ⟨s, vs, q, c1, rfl, hs, hv, hq, g1, rfl⟩ := hP
 refine .inr ?_
 conv => whnf
 refine ⟨[2000, 0, 1, 2, 3, 4, 5], by kernel_rfl, ?_⟩
 conv => whnf
 refine ⟨rfl, ?_⟩
 conv => whnf
 refine ⟨[], ?_⟩
 conv => whnf
 refine ⟨by rw [rows_len tQuery_len], by rw [rows_len ciL_len], by rw [rows_len tAtom_len], ?_⟩
 exact ⟨s, vs, q, rfl, hs, hv, hq, rfl⟩
theorem closed_wAtomsT (l : List AtomD) : closed (wAtomS l) := closeds_rows (f := tAtom) (fun a => ⟨trivial, closed_ciT a.2, trivial⟩) l
theorem smT4_sm {q : QueryW} (h : smT4 q) : qSm q := ⟨by have := h.1; omega, by have := h.2.1; omega, fun a ha => by have := h.2.2 a ha; omega⟩
theorem smT4_size {q : QueryW} (h : smT4 q) : cQuery q ≤ 1048576 := qSm_size (smT4_sm h)
theorem vt_short (s : List Int) (vs : List QueryW) (q : QueryW) : ∀ a ∈ pViewTuples s vs q, a.2.length ≤ 3 := by
 intro a ha
 unfold pViewTuples at ha
 split at ha
 ·rename_i h
  simp only [Bool.and_eq_true] at h
  exact vtGo_short (s := s) (pFreeze q).1 (frz_short h.2).2.1 vs 0 (fun v hv => by
   obtain ⟨i, hi, rfl⟩ := List.getElem_of_mem hv
   exact viewOk_at h.1 hi) a (List.mem_of_mem_take ha)
 ·cases ha
set_option maxHeartbeats 4000000 in
theorem drawCandidateOf_g (xs : List Int) (h : xs.length ≤ 1099511627776) : SpecG Tryz.prog 46 [bytesR xs] [] fun r g2 => ∃ (q : QueryW) (l : List AtomD) (set : List Int), r = .tup [wQuery q, wAtomS l, intsT set] ∧ smT4 q ∧ cAtomS l ≤ 1048576 ∧ (∀ a ∈ l, a.2.length ≤ 3) ∧ set.length ≤ 8 ∧ g2 = [] := by
 refine SpecG_of mx Γ_ok 0 Tryz.func46 rfl rfl (by decide) ?_
 conv => whnf
 refine ⟨_, l1New_spec xs h, .inl rfl, .inr ?_⟩
 conv => whnf
 have g0 := good_new h
 generalize newCur xs = c0 at g0 ⊢
 refine .inr (.inr ⟨[1], [], ?_⟩)
 conv => whnf
 refine ⟨_, l16Draw_g c0 g0, fun r g2 hP => ?_⟩
 obtain ⟨s, vs, q, c1, rfl, hs, hv, hq, g1, rfl⟩ := hP
 refine .inr ?_
 conv => whnf
 refine .inr (.inl ?_)
 conv => whnf
 refine ⟨curC_ne c1, ?_⟩
 conv => whnf
 refine ⟨_, _, _, l1Below_spec c1 4 g1 (by omega), ?_⟩
 conv => whnf
 refine .inl ?_
 have hb := belowP_bd c1 (n := 4) (by omega) (by omega)
 have g2 := belowP_good g1 4
 generalize (belowP c1 4).2 = c2 at g2 ⊢
 obtain ⟨n0, hn0⟩ : ∃ n : Nat, (belowP c1 4).1 = n := ⟨(belowP c1 4).1.toNat, by omega⟩
 rw [hn0] at hb ⊢
 conv => whnf
 refine ⟨[(2,0),(3,0),(4,0),(5,0),(6,0),(7,0),(8,0),(9,0),(10,0)], fun m st => ∃ (n : Nat) (e : Int) (l : List Int) (c1 : Cur) (k : Nat) (cc r : List V), e = n ∧ m = n ∧ l.length + n = n0 ∧ goodC c1 ∧ k = l.length ∧ cc = curC c1 ∧ r = rows ciL l ∧
  st = ⟨40, [(2, .ptr 0 0), (3, cnil), (4, cnil), (5, .ptr 1 0), (6, .ptr 2 0), (7, .own 3 2 0 vs.length vs.length none), (8, .ptr 4 0), (9, .own 5 1 0 k k none), (10, ci e)], [some ⟨true, [cnil, cnil]⟩, some ⟨false, cc⟩, some ⟨true, [ints s]⟩, some ⟨false, rows tQuery vs⟩, some ⟨true, [.own 6 1 0 q.1.length q.1.length none, .own 7 2 0 q.2.length q.2.length none]⟩, some ⟨false, r⟩, some ⟨false, rows ciL q.1⟩, some ⟨false, rows tAtom q.2⟩]⟩, n0, ⟨n0, n0, [], c2, 0, _, _, rfl, rfl, by simp, g2, rfl, rfl, rfl, by kernel_rfl⟩, ?_⟩
 rintro m st ⟨n, _, l, c3, k, _, _, rfl, hm, hln, g3, hk, rfl, rfl, rfl⟩
 conv => whnf
 split <;> rename_i h1
 all_goals simp only [decide_eq_true_eq, decide_eq_false_iff_not] at h1
 ·obtain ⟨n', rfl⟩ : ∃ n', n = n' + 1 := ⟨n - 1, by omega⟩
  conv => whnf
  refine .inr (.inl ?_)
  conv => whnf
  refine ⟨curC_ne c3, ?_⟩
  conv => whnf
  refine ⟨_, _, _, l1Below_spec c3 6 g3 (by omega), ?_⟩
  conv => whnf
  refine .inl ?_
  have g4 := belowP_good g3 6
  generalize (belowP c3 6).2 = c4 at g4 ⊢
  generalize (belowP c3 6).1 = t
  conv => whnf
  refine ⟨_, rfl, .inl ⟨flat1 rfl, ?_⟩⟩
  conv => whnf
  refine ⟨by omega, by rw [rows_len ciL_len, hk], _, snoc_ci _ _, ?_⟩
  conv => whnf
  exact ⟨m - 1, by omega, n', IntKind.i64.wrap (((n' + 1 : Nat) : Int) - 1), l ++ [IntKind.i64.wrap (t - 1)], c4, k + 1, curC c4, rows ciL (l ++ [IntKind.i64.wrap (t - 1)]), wrap_pred n', by omega, by simp; omega, g4, by simp [hk], rfl, rfl, by kernel_rfl⟩
 ·conv => whnf
  refine ⟨[0, 1, 2, 3, 5, 4, 6, 7, 8], by kernel_rfl, ?_⟩
  conv => whnf
  refine ⟨_, _, takeN_all (by rw [rows_len tQuery_len]), roVs_rows tQuery_ro _, ?_⟩
  conv => whnf
  refine ⟨_, _, takeN_all (by rw [rows_len ciL_len]), roVs_ci _, ?_⟩
  conv => whnf
  refine ⟨_, _, takeN_all (by rw [rows_len tAtom_len]), roVs_rows tAtom_ro _, ?_⟩
  conv => whnf
  have hvz := okVs_size hv
  have hsz : cAtomS (pViewTuples s vs q) ≤ 1048576 := small_ViewTuples s vs q (by show s.length ≤ _; omega) hvz (smT4_size hq)
  refine ⟨_, specViewTuples_spec s vs q (by show s.length ≤ _; omega) hvz (smT4_size hq), .inr (closed_wAtomsT _), ?_⟩
  have hL3 := vt_short s vs q
  generalize pViewTuples s vs q = L at hsz hL3
  refine .inr ?_
  conv => whnf
  refine ⟨[], ?_⟩
  conv => whnf
  refine ⟨by rw [rows_len ciL_len], by rw [rows_len tAtom_len], by rw [rows_len tAtom_len], by rw [rows_len ciL_len, hk], ?_⟩
  exact ⟨q, L, l, by rw [hk]; rfl, hq, hsz, hL3, by omega, rfl⟩
set_option maxHeartbeats 4000000 in
theorem drawNextSet_g (xs : List Int) (h : xs.length ≤ 1099511627776) : SpecG Tryz.prog 47 [bytesR xs] [] fun r g2 => ∃ (l : List Int) (n : Int), r = .tup [intsT l, ci n] ∧ smN l ∧ -1000 ≤ n ∧ n ≤ 1000 ∧ g2 = [] := by
 refine SpecG_of mx Γ_ok 0 Tryz.func47 rfl rfl (by decide) ?_
 conv => whnf
 refine ⟨_, l1New_spec xs h, .inl rfl, .inr ?_⟩
 conv => whnf
 have g0 := good_new h
 generalize newCur xs = c0 at g0 ⊢
 refine .inr (.inl ?_)
 conv => whnf
 refine ⟨curC_ne c0, ?_⟩
 conv => whnf
 refine ⟨_, _, _, l1Below_spec c0 3 g0 (by omega), ?_⟩
 conv => whnf
 refine .inl ?_
 have hx := belowP_bd c0 (n := 3) (by omega) (by omega)
 have g1 := belowP_good g0 3
 generalize (belowP c0 3).2 = c1 at g1 ⊢
 generalize (belowP c0 3).1 = x0 at hx ⊢
 conv => whnf
 refine .inr (.inl ?_)
 conv => whnf
 refine ⟨curC_ne c1, ?_⟩
 conv => whnf
 refine ⟨_, _, _, l1Below_spec c1 4 g1 (by omega), ?_⟩
 conv => whnf
 refine .inl ?_
 have hb := belowP_bd c1 (n := 4) (by omega) (by omega)
 have g2 := belowP_good g1 4
 generalize (belowP c1 4).2 = c2 at g2 ⊢
 obtain ⟨n0, hn0⟩ : ∃ n : Nat, (belowP c1 4).1 = n := ⟨(belowP c1 4).1.toNat, by omega⟩
 rw [hn0] at hb ⊢
 conv => whnf
 refine ⟨[(2,0),(3,0),(4,0),(5,0),(6,0),(7,0)], fun m st => ∃ (n : Nat) (e x : Int) (l : List Int) (c1 : Cur) (k : Nat) (cc r : List V), e = n ∧ m = n ∧ l.length + n = n0 ∧ goodC c1 ∧ 0 ≤ x ∧ x ≤ 3 + 3 * (l.length : Int) ∧ (∀ y ∈ l, -1000 ≤ y ∧ y ≤ 1000) ∧ k = l.length ∧ cc = curC c1 ∧ r = rows ciL l ∧
  st = ⟨36, [(2, cnil), (3, ci 0), (4, .ptr 0 0), (5, .own 1 1 0 k k none), (6, ci x), (7, ci e)], [some ⟨false, cc⟩, some ⟨false, r⟩]⟩, n0, ⟨n0, n0, x0, [], c2, 0, _, _, rfl, rfl, by simp, g2, hx.1, by simp; omega, (fun y hy => by cases hy), rfl, rfl, rfl, by kernel_rfl⟩, ?_⟩
 rintro m st ⟨n, _, x, l, c3, k, _, _, rfl, hm, hln, g3, hx1, hx2, hl, hk, rfl, rfl, rfl⟩
 conv => whnf
 split <;> rename_i h1
 all_goals simp only [decide_eq_true_eq, decide_eq_false_iff_not] at h1
 ·obtain ⟨n', rfl⟩ : ∃ n', n = n' + 1 := ⟨n - 1, by omega⟩
  conv => whnf
  refine ⟨_, rfl, .inl ⟨flat1 rfl, ?_⟩⟩
  conv => whnf
  refine ⟨by omega, by rw [rows_len ciL_len, hk], _, snoc_ci _ _, ?_⟩
  conv => whnf
  refine .inr (.inl ?_)
  conv => whnf
  refine ⟨curC_ne c3, ?_⟩
  conv => whnf
  refine ⟨_, _, _, l1Below_spec c3 2 g3 (by omega), ?_⟩
  conv => whnf
  refine .inl ?_
  have hb4 := belowP_bd c3 (n := 2) (by omega) (by omega)
  have g4 := belowP_good g3 2
  generalize (belowP c3 2).2 = c4 at g4 ⊢
  generalize (belowP c3 2).1 = t at hb4 ⊢
  conv => whnf
  rw [show IntKind.i64.wrap (IntKind.i64.wrap (x + 1) + t) = x + 1 + t from by rw [wrap_id (x := x + 1) (by omega) (by omega), wrap_id (by omega) (by omega)]]
  refine ⟨m - 1, by omega, n', IntKind.i64.wrap (((n' + 1 : Nat) : Int) - 1), x + 1 + t, l ++ [x], c4, k + 1, curC c4, rows ciL (l ++ [x]), wrap_pred n', by omega, by simp; omega, g4, by omega, by simp; omega, ?_, by simp [hk], rfl, rfl, by kernel_rfl⟩
  intro y hy
  rcases List.mem_append.1 hy with hy | hy
  ·exact hl y hy
  ·rw [List.mem_singleton.1 hy]; omega
 ·have hn : n = 0 := by omega
  subst hn
  conv => whnf
  refine .inr (.inl ?_)
  conv => whnf
  refine ⟨curC_ne c3, ?_⟩
  conv => whnf
  refine ⟨_, _, _, l1Once_spec c3 10 g3 (by omega), ?_⟩
  conv => whnf
  refine .inl ?_
  have g4 := belowP_good g3 10
  generalize (belowP c3 10).2 = c4 at g4 ⊢
  generalize ((belowP c3 10).1 == 0) = o
  cases o with
  | false =>
   conv => whnf
   refine .inr (.inl ?_)
   conv => whnf
   refine ⟨curC_ne c4, ?_⟩
   conv => whnf
   refine ⟨_, _, _, l1Below_spec c4 9 g4 (by omega), ?_⟩
   conv => whnf
   refine .inl ?_
   have hb5 := belowP_bd c4 (n := 9) (by omega) (by omega)
   conv => whnf
   refine ⟨[], ?_⟩
   conv => whnf
   refine ⟨by rw [rows_len ciL_len, hk], ?_⟩
   exact ⟨l, _, by rw [hk]; rfl, ⟨by omega, hl⟩, by omega, by omega, rfl⟩
  | true =>
   conv => whnf
   refine ⟨_, rfl, .inl ⟨flat1 rfl, ?_⟩⟩
   conv => whnf
   refine ⟨by omega, by rw [rows_len ciL_len, hk], _, snoc_ci _ _, ?_⟩
   conv => whnf
   refine .inr (.inl ?_)
   conv => whnf
   refine ⟨curC_ne c4, ?_⟩
   conv => whnf
   refine ⟨_, _, _, l1Below_spec c4 9 g4 (by omega), ?_⟩
   conv => whnf
   refine .inl ?_
   have hb5 := belowP_bd c4 (n := 9) (by omega) (by omega)
   conv => whnf
   refine ⟨[], ?_⟩
   conv => whnf
   refine ⟨by rw [rows_len ciL_len, hk, List.length_append]; rfl, ?_⟩
   refine ⟨l ++ [0], _, by rw [hk]; show _ = V.tup [.tr 1 (l ++ [0]).length _, _]; rw [List.length_append]; rfl, ⟨by simp; omega, fun y hy => ?_⟩, ?_, ?_, rfl⟩
   ·rcases List.mem_append.1 hy with hy | hy
    ·exact hl y hy
    ·rw [List.mem_singleton.1 hy]; omega
   ·omega
   ·omega
theorem big_spec (xs : List Int) : Spec Tryz.prog 7 [bytesR xs] (cb (decide ((xs.length : Int) > 1048576))) := by
 unfold bytesR
 refine Spec_of mx Γ_ok Tryz.func7 rfl ?_
 conv => whnf
 rfl
theorem sameInts_spec (xs ys : List Int) (hl : xs.length ≤ 1099511627776) (hl' : ys.length ≤ 1099511627776) : Spec Tryz.prog 15 [ints xs, ints ys] (cb (decide (xs = ys))) := by
 refine Spec_of mx Γ_ok Tryz.func15 rfl ?_
 conv => whnf
 split <;> rename_i h0
 ·conv => whnf
  simp only [bne_iff_ne, ne_eq] at h0
  show cb false = _
  rw [ne_len (by omega)]
 conv => whnf
 have h0' : xs.length = ys.length := by
  have h3 : (xs.length : Int) = ys.length := by simpa using h0
  omega
 refine ⟨[(0,0),(1,0),(4,0),(5,0)], fun m s => ∃ (k : Nat) (e : Int), e = k ∧ m + k = xs.length ∧ decide (xs = ys) = decide (xs.drop k = ys.drop k) ∧
  s = ⟨26, [(0, ints xs), (1, ints ys), (4, cb false), (5, ci e)], []⟩, xs.length, ⟨0, 0, rfl, rfl, rfl, rfl⟩, ?_⟩
 rintro m s ⟨k, _, rfl, hm, hj, rfl⟩
 conv => whnf
 split <;> rename_i h1
 all_goals simp only [decide_eq_true_eq, decide_eq_false_iff_not] at h1
 ·conv => whnf
  have hk : k < xs.length := by omega
  have hk' : k < ys.length := by omega
  rw [drop_eq_at hk hk'] at hj
  refine ⟨List.range 9, by kernel_rfl, ?_⟩
  conv => whnf
  refine ⟨by omega, rows_len ciL_len xs, ?_⟩
  conv => whnf
  refine ⟨_, takeN_rp (k := k) ciL_len hk, ?_⟩
  conv => whnf
  refine ⟨by omega, rows_len ciL_len ys, ?_⟩
  conv => whnf
  refine ⟨_, takeN_rp (k := k) ciL_len hk', ?_⟩
  conv => whnf
  split <;> rename_i h2
  ·conv => whnf
   show cb false = _
   rw [hj, decide_eq_false (p := xs[k] = ys[k]) (by simpa using h2), Bool.false_and]
  ·conv => whnf
   rw [decide_eq_true (p := xs[k] = ys[k]) (by simpa using h2), Bool.true_and] at hj
   exact ⟨m - 1, by omega, k + 1, _, wrap_id (by omega) (by omega), by omega, hj, rfl⟩
 ·conv => whnf
  rw [hj, drop_end (by omega), drop_end (by omega)]
  rfl
abbrev QueryQ := List Int × List (Int × List Int)
theorem eqA_dec (a b : AtomC) : eqA a b = decide (a = b) := by
 obtain ⟨a1, a2⟩ := a
 obtain ⟨b1, b2⟩ := b
 unfold eqA
 simp only [Prod.mk.injEq, Bool.decide_and]
theorem eqQ_dec (a b : QueryQ) : decide (a = b) = (decide (a.1 = b.1) && decide (a.2 = b.2)) := by
 obtain ⟨a1, a2⟩ := a
 obtain ⟨b1, b2⟩ := b
 simp only [Prod.mk.injEq, Bool.decide_and]
theorem q_sizes {a : QueryQ} (h : cQuery a ≤ 1048576) : a.1.length ≤ 1048576 ∧ a.2.length ≤ 1048576 ∧ ∀ {k : Nat} (hk : k < a.2.length), a.2[k].2.length ≤ 1048576 := by
 unfold cQuery cAtomS at h
 refine ⟨by omega, by omega, fun {k} hk => ?_⟩
 have := sumB_one (f := cAtom) hk
 have e : cAtom a.2[k] = a.2[k].2.length := rfl
 omega
set_option maxHeartbeats 2000000 in
theorem specEqualQueries_spec (a b : QueryQ) (ha : cQuery a ≤ 1048576) (hb : cQuery b ≤ 1048576) : Spec Tryz.prog 50 [vQuery a, vQuery b] (cb (decide (a = b))) := by
 obtain ⟨a1, a2, a3⟩ := q_sizes ha
 obtain ⟨b1, b2, b3⟩ := q_sizes hb
 rw [eqQ_dec]
 refine Spec_of mx Γ_ok Tryz.func50 rfl ?_
 conv => whnf
 refine ⟨_, l2Ints_spec a.1 b.1 (by omega) (by omega), .inl rfl, .inl ?_⟩
 generalize decide (a.1 = b.1) = c1
 cases c1 with
 | false =>
  conv => whnf
  rfl
 | true =>
 conv => whnf
 rw [Bool.true_and]
 generalize hc2 : ((a.2.length : Int) != (b.2.length : Int)) = c2
 cases c2 with
 | true =>
  conv => whnf
  rw [ne_len (by intro h; rw [h] at hc2; simp at hc2)]
  rfl
 | false =>
 have hlen : a.2.length = b.2.length := by
  have : (a.2.length : Int) = b.2.length := by simpa using hc2
  omega
 conv => whnf
 refine ⟨[(2,0),(3,0),(5,0)], fun m st => ∃ (k : Nat) (e : Int), e = k ∧ m + k = a.2.length ∧ decide (a.2 = b.2) = decide (a.2.drop k = b.2.drop k) ∧
  st = ⟨40, [(2, .ptr 0 0), (3, .ptr 1 0), (5, ci e)], [some ⟨true, rQuery a⟩, some ⟨true, rQuery b⟩]⟩, a.2.length, ⟨0, 0, rfl, rfl, rfl, by kernel_rfl⟩, ?_⟩
 rintro m st ⟨k, _, rfl, hm, hj, rfl⟩
 conv => whnf
 split <;> rename_i h1
 all_goals simp only [decide_eq_true_eq, decide_eq_false_iff_not] at h1
 ·have hk : k < a.2.length := by omega
  have hk' : k < b.2.length := by omega
  have h3 := a3 hk
  have h4 := b3 hk'
  rw [drop_eq_at hk hk'] at hj
  conv => whnf
  refine ⟨List.range 12, by kernel_rfl, ?_⟩
  conv => whnf
  refine ⟨by omega, rows_len rAtom_len _, ?_⟩
  conv => whnf
  refine ⟨_, takeN_rp (k := k) rAtom_len hk, ?_⟩
  conv => whnf
  refine ⟨by omega, rows_len rAtom_len _, ?_⟩
  conv => whnf
  refine ⟨_, takeN_rp (k := k) rAtom_len hk', ?_⟩
  conv => whnf
  refine ⟨_, specEqualAtoms_spec a.2[k] b.2[k] (by omega) (by omega), .inl rfl, .inl ?_⟩
  rw [eqA_dec]
  generalize decide (a.2[k] = b.2[k]) = c3 at hj
  cases c3 with
  | false =>
   conv => whnf
   rw [hj]
   rfl
  | true =>
   conv => whnf
   exact ⟨m - 1, by omega, k + 1, IntKind.i64.wrap ((k : Int) + 1), wrap_id (by omega) (by omega), by omega, by rw [hj, Bool.true_and], by kernel_rfl⟩
 ·conv => whnf
  rw [hj, List.drop_eq_nil_of_le (by omega), List.drop_eq_nil_of_le (by omega)]
  rfl
end Go.Proofs.YtboolngaahifdaaGreatD
