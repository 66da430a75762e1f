/- What the law FnTerms draws. -/
import Derived.Test.YthfjngmbdbocbaaFDraw7
set_option linter.unusedVariables false
set_option linter.unusedSimpArgs false
set_option maxRecDepth 100000
namespace Go.Proofs.YthfjngmbdbocbaaD
open Go Go.Proofs

theorem drawIsTerm_g (xs : List Int) (h : xs.length ≤ 1099511627776) : SpecG Try.prog 17 [bytesR xs] [] fun r g2 => ∃ t : Int, r = ci t ∧ g2 = [] := by
  refine SpecG_of mx Γ_ok 0 Try.func17 rfl rfl (by decide) ?_
  conv => whnf
  refine ⟨_, l1New_spec xs h, .inl rfl, .inr ?_⟩
  conv => whnf
  have g0 := good_new h
  generalize newCur xs = c0 at g0 ⊢
  refine .inr (.inr ⟨[0], [], ?_⟩)
  conv => whnf
  refine ⟨_, l2Any_g c0 g0, fun r g2 hP => ?_⟩
  obtain ⟨t, c1, rfl, g1, rfl⟩ := hP
  refine .inl ?_
  conv => whnf
  refine ⟨[], ?_⟩
  conv => whnf
  exact ⟨t, rfl, rfl⟩
theorem drawMakeConst_g (xs : List Int) (h : xs.length ≤ 1099511627776) : SpecG Try.prog 18 [bytesR xs] [] fun r g2 => ∃ t : Int, r = ci t ∧ g2 = [] := by
  refine SpecG_of mx Γ_ok 0 Try.func18 rfl rfl (by decide) ?_
  conv => whnf
  refine ⟨_, l1New_spec xs h, .inl rfl, .inr ?_⟩
  conv => whnf
  have g0 := good_new h
  generalize newCur xs = c0 at g0 ⊢
  refine .inr (.inl ?_)
  conv => whnf
  refine ⟨curC_ne c0, ?_⟩
  conv => whnf
  refine ⟨rfl, ?_⟩
  conv => whnf
  refine ⟨_, _, _, l1PickInt_spec c0 [-1, 0, 5, 79, 80] g0 (by decide) (by decide), ?_⟩
  conv => whnf
  refine .inl ?_
  conv => whnf
  refine ⟨[], ?_⟩
  conv => whnf
  exact ⟨_, rfl, rfl⟩
set_option maxHeartbeats 1000000 in
theorem drawReplaceTerm_g (xs : List Int) (h : xs.length ≤ 1099511627776) : SpecG Try.prog 26 [bytesR xs] [] fun r g2 => ∃ (q : QueryW) (t u : Int), r = .tup [wQuery q, ci t, ci u] ∧ qSm q ∧ g2 = [] := by
  refine SpecG_of mx Γ_ok 0 Try.func26 rfl rfl (by decide) ?_
  conv => whnf
  refine ⟨_, l1New_spec xs h, .inl rfl, .inr ?_⟩
  conv => whnf
  have g0 := good_new h
  generalize newCur xs = c0 at g0 ⊢
  refine .inr (.inr ⟨[1], [], ?_⟩)
  conv => whnf
  refine ⟨_, l4Any_g c0 g0, fun r g2 hP => ?_⟩
  obtain ⟨s, q, c1, rfl, hs, hq, g1, rfl⟩ := hP
  refine .inr ?_
  conv => whnf
  refine .inr (.inr ⟨[1], [], ?_⟩)
  conv => whnf
  refine ⟨_, l2Term_g c1 g1, fun r g2 hP => ?_⟩
  obtain ⟨t, c2, rfl, g2, rfl⟩ := hP
  refine .inl ?_
  conv => whnf
  refine ⟨[1001, 0, 1, 2, 3, 4, 5, 6, 1000, 1000], by kernel_rfl, ?_⟩
  conv => whnf
  refine .inr (.inr ⟨[1], fun k => noSubT_lk (by kernel_rfl) k, rfl, ?_⟩)
  conv => whnf
  refine ⟨_, l2Term_g c2 g2, fun r g2 hP => ?_⟩
  obtain ⟨u, c3, rfl, g3, rfl⟩ := hP
  refine .inl ?_
  conv => whnf
  refine ⟨[], ?_⟩
  conv => whnf
  refine ⟨by rw [rows_len ciL_len], by rw [rows_len tAtom_len], ?_⟩
  exact ⟨q, t, u, rfl, hq, rfl⟩
set_option maxHeartbeats 1000000 in
theorem drawLessAtom_g (xs : List Int) (h : xs.length ≤ 1099511627776) : SpecG Try.prog 29 [bytesR xs] [] fun r g2 => ∃ (a b : AtomD), r = .tup [wAtom a, wAtom b] ∧ a.2.length ≤ 8 ∧ b.2.length ≤ 8 ∧ g2 = [] := by
  refine SpecG_of mx Γ_ok 0 Try.func29 rfl rfl (by decide) ?_
  conv => whnf
  refine ⟨_, l1New_spec xs h, .inl rfl, .inr ?_⟩
  conv => whnf
  have g0 := good_new h
  generalize newCur xs = c0 at g0 ⊢
  refine .inr (.inr ⟨[2], [], ?_⟩)
  conv => whnf
  refine ⟨_, l3AnyAtom_g c0 g0, fun r g2 hP => ?_⟩
  obtain ⟨a, c1, rfl, ha, g1, rfl⟩ := hP
  refine .inr ?_
  conv => whnf
  refine ⟨[1001, 0, 1, 2, 3, 4, 1000, 1000], by kernel_rfl, ?_⟩
  conv => whnf
  refine .inr (.inr ⟨[2], fun k => noSubT_lk (by kernel_rfl) k, rfl, ?_⟩)
  conv => whnf
  refine ⟨_, l3AnyAtom_g c1 g1, fun r g2 hP => ?_⟩
  obtain ⟨b, c2, rfl, hb, g2, rfl⟩ := hP
  refine .inr ?_
  conv => whnf
  refine ⟨[], ?_⟩
  conv => whnf
  refine ⟨by rw [rows_len ciL_len], by rw [rows_len ciL_len], ?_⟩
  exact ⟨a, b, rfl, by omega, by omega, rfl⟩
theorem sOk_of {s : List Int} (h : isSchema s = true) : sOk s := by
  simp only [isSchema, Bool.and_eq_true] at h
  obtain ⟨h1, h2⟩ := h
  have h3 : 1 ≤ (s.length : Int) ∧ (s.length : Int) ≤ 4 := by simpa [inR] using h2
  refine ⟨fun x hx => ?_, by omega, by omega⟩
  have := List.all_eq_true.1 h1 x hx
  simpa [inR] using this
set_option maxHeartbeats 1000000 in
theorem drawIsAtom_g (xs : List Int) (h : xs.length ≤ 1099511627776) : SpecG Try.prog 30 [bytesR xs] [] fun r g2 => ∃ (s : List Int) (a : AtomD), r = .tup [vSchema s, wAtom a] ∧ s.length ≤ 8 ∧ a.2.length ≤ 8 ∧ g2 = [] := by
  refine SpecG_of mx Γ_ok 0 Try.func30 rfl rfl (by decide) ?_
  conv => whnf
  refine ⟨_, l1New_spec xs h, .inl rfl, .inr ?_⟩
  conv => whnf
  have g0 := good_new h
  generalize newCur xs = c0 at g0 ⊢
  refine .inr (.inr ⟨[2], [], ?_⟩)
  conv => whnf
  refine ⟨_, l3Any_g c0 g0, fun r g2 hP => ?_⟩
  obtain ⟨s, c1, rfl, hs, g1, rfl⟩ := hP
  refine .inl ?_
  rw [wSchema_ro]
  conv => whnf
  refine ⟨_, specIsSchema_spec s (by omega), .inl rfl, .inl ?_⟩
  generalize hb : isSchema s = b
  have rest : ∀ (c2 : Cur) (g2 : goodC c2), True := fun _ _ => trivial
  cases b with
  | false =>
    conv => whnf
    refine ⟨[1001, 0, 1, 2, 3, 4, 1000, 1000], by kernel_rfl, ?_⟩
    conv => whnf
    refine .inr (.inr ⟨[2], fun k => noSubT_lk (by kernel_rfl) k, rfl, ?_⟩)
    conv => whnf
    refine ⟨_, l3AnyAtom_g c1 g1, fun r g2 hP => ?_⟩
    obtain ⟨a, c2, rfl, ha, g2, rfl⟩ := hP
    refine .inr ?_
    conv => whnf
    refine ⟨[], ?_⟩
    conv => whnf
    refine ⟨by rw [rows_len ciL_len], ?_⟩
    exact ⟨s, a, rfl, by omega, by omega, rfl⟩
  | true =>
    conv => whnf
    refine .inr (.inl ?_)
    conv => whnf
    refine ⟨curC_ne c1, ?_⟩
    conv => whnf
    refine ⟨_, _, _, l1Once_spec c1 4 g1 (by omega), ?_⟩
    conv => whnf
    refine .inl ?_
    have g2 := belowP_good g1 4
    generalize (belowP c1 4).2 = c2 at g2 ⊢
    generalize ((belowP c1 4).1 == 0) = o
    cases o with
    | false =>
      conv => whnf
      refine ⟨[1001, 0, 1, 2, 3, 4, 5, 1000, 1000], by kernel_rfl, ?_⟩
      conv => whnf
      refine .inr (.inr ⟨[2], fun k => noSubT_lk (by kernel_rfl) k, rfl, ?_⟩)
      conv => whnf
      refine ⟨_, l3Atom_g s c2 (sOk_of hb) g2, fun r g2 hP => ?_⟩
      obtain ⟨a, c3, rfl, ha, g3, rfl⟩ := hP
      refine .inr ?_
      conv => whnf
      refine ⟨[], ?_⟩
      conv => whnf
      refine ⟨by rw [rows_len ciL_len], ?_⟩
      exact ⟨s, a, rfl, by omega, by omega, rfl⟩
    | true =>
      conv => whnf
      refine ⟨[1001, 0, 1, 2, 3, 4, 1000, 1000], by kernel_rfl, ?_⟩
      conv => whnf
      refine .inr (.inr ⟨[2], fun k => noSubT_lk (by kernel_rfl) k, rfl, ?_⟩)
      conv => whnf
      refine ⟨_, l3AnyAtom_g c2 g2, fun r g2 hP => ?_⟩
      obtain ⟨a, c3, rfl, ha, g3, rfl⟩ := hP
      refine .inr ?_
      conv => whnf
      refine ⟨[], ?_⟩
      conv => whnf
      refine ⟨by rw [rows_len ciL_len], ?_⟩
      exact ⟨s, a, rfl, by omega, by omega, rfl⟩
set_option maxHeartbeats 2000000 in
theorem drawRenameQuery_g (xs : List Int) (h : xs.length ≤ 1099511627776) : SpecG Try.prog 28 [bytesR xs] [] fun r g2 => ∃ (q : QueryW) (l : List Int), r = .tup [wQuery q, intsT l] ∧ qSm q ∧ l.length ≤ 8 ∧ g2 = [] := by
  refine SpecG_of mx Γ_ok 0 Try.func28 rfl rfl (by decide) ?_
  conv => whnf
  refine ⟨_, l1New_spec xs h, .inl rfl, .inr ?_⟩
  conv => whnf
  have g0 := good_new h
  generalize newCur xs = c0 at g0 ⊢
  refine .inr (.inr ⟨[1], [], ?_⟩)
  conv => whnf
  refine ⟨_, l4Any_g c0 g0, fun r g2 hP => ?_⟩
  obtain ⟨s, q, c1, rfl, hs, hq, g1, rfl⟩ := hP
  refine .inr ?_
  conv => whnf
  refine .inr (.inl ?_)
  conv => whnf
  refine ⟨curC_ne c1, ?_⟩
  conv => whnf
  refine ⟨_, _, _, l1Below_spec c1 5 g1 (by omega), ?_⟩
  conv => whnf
  refine .inl ?_
  have hb := belowP_bd c1 (n := 5) (by omega) (by omega)
  have g2 := belowP_good g1 5
  generalize (belowP c1 5).2 = c2 at g2 ⊢
  obtain ⟨n0, hn0⟩ : ∃ n : Nat, (belowP c1 5).1 = n := ⟨(belowP c1 5).1.toNat, by omega⟩
  rw [hn0] at hb ⊢
  conv => whnf
  refine ⟨[(2,0),(4,0),(6,0),(7,0),(8,0)], fun m st => ∃ (n : Nat) (e : Int) (l : List Int) (c1 : Cur) (k : Nat) (cc r : List V), e = n ∧ m = n ∧ l.length + n = n0 ∧ goodC c1 ∧ k = l.length ∧ cc = curC c1 ∧ r = rows ciL l ∧
    st = ⟨32, [(2, .ptr 0 0), (4, .ptr 1 0), (6, .ptr 2 0), (7, .own 3 1 0 k k none), (8, ci e)], [some ⟨true, [cnil, cnil]⟩, some ⟨false, cc⟩, some ⟨true, [.own 4 1 0 q.1.length q.1.length none, .own 5 2 0 q.2.length q.2.length none]⟩, some ⟨false, r⟩, some ⟨false, rows ciL q.1⟩, some ⟨false, rows tAtom q.2⟩]⟩, n0, ⟨n0, n0, [], c2, 0, _, _, rfl, rfl, by simp, g2, rfl, rfl, rfl, by kernel_rfl⟩, ?_⟩
  rintro m st ⟨n, _, l, c3, k, _, _, rfl, hm, hln, g3, hk, rfl, rfl, rfl⟩
  conv => whnf
  split <;> rename_i h1
  all_goals simp only [decide_eq_true_eq, decide_eq_false_iff_not] at h1
  · obtain ⟨n', rfl⟩ : ∃ n', n = n' + 1 := ⟨n - 1, by omega⟩
    conv => whnf
    refine .inr (.inr ⟨[1], [], ?_⟩)
    conv => whnf
    refine ⟨_, l2Term_g c3 g3, fun r g2 hP => ?_⟩
    obtain ⟨t, c4, rfl, g4, rfl⟩ := hP
    refine .inl ?_
    conv => whnf
    refine ⟨_, rfl, .inl ⟨flat1 rfl, ?_⟩⟩
    conv => whnf
    refine ⟨by omega, by rw [rows_len ciL_len, hk], _, snoc_ci _ _, ?_⟩
    conv => whnf
    exact ⟨m - 1, by omega, n', IntKind.i64.wrap (((n' + 1 : Nat) : Int) - 1), l ++ [t], c4, k + 1, curC c4, rows ciL (l ++ [t]), wrap_pred n', by omega, by simp; omega, g4, by simp [hk], rfl, rfl, by kernel_rfl⟩
  · have hn : n = 0 := by omega
    subst hn
    subst hk
    conv => whnf
    refine ⟨[], ?_⟩
    conv => whnf
    refine ⟨by rw [rows_len ciL_len], by rw [rows_len tAtom_len], by rw [rows_len ciL_len], ?_⟩
    exact ⟨q, l, rfl, hq, by omega, rfl⟩
end Go.Proofs.YthfjngmbdbocbaaD
