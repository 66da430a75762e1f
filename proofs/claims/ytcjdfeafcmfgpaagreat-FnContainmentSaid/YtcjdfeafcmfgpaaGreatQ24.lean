/- Part 24 of the proof of the statement FnContainment: contracts of functions and plain laws; no condition. -/
import Derived.Test.YtcjdfeafcmfgpaaGreatQ23
import Derived.Test.YtcjdfeafcmfgpaaGreatQ11
import Derived.Test.YtcjdfeafcmfgpaaGreatQ9
import Derived.WalkKit
import Derived.WalkSpells
set_option linter.unusedVariables false
set_option linter.unusedSimpArgs false
set_option maxRecDepth 100000
namespace Go.Proofs.YtcjdfeafcmfgpaaGreatD
open Go Go.Proofs
theorem ints_ro2 (xs : List Int) : roV (ints xs) = ints xs := by
  show V.ro _ (roVs (rows ciL xs)) = _
  rw [roVs_ci]
  rfl
theorem rA_ro2 (a : AtomD) : roVs (rAtom a) = rAtom a := by
  show [roV (ci a.1), roV (ints a.2)] = _
  rw [ints_ro2]
  rfl
theorem vQ_ro (q : QueryW) : roV (vQuery q) = vQuery q := by
  show V.agg [roV (ints q.1), .ro _ (roVs (rows rAtom q.2))] = _
  rw [ints_ro2, roVs_rows rA_ro2]
  rfl
theorem qSm_size1 {q : QueryW} (h : qSm q) : cQuery (q.1, q.2) + 1 ≤ 1048576 := by
  obtain ⟨h1, h2, h3⟩ := h
  have := sm_sum h3
  show q.1.length + (q.2.length + sumB cAtom q.2) + 1 ≤ _
  omega
theorem app_size (hd : List Int) (b : List AtomD) (t : Int) : cQuery (hd ++ [t], b) = cQuery (hd, b) + 1 := by
  show (hd ++ [t]).length + _ = hd.length + _ + 1
  rw [List.length_append]
  simp only [List.length_cons, List.length_nil]
  show _ + 1 + (b.length + sumB cAtom b) = _ + (b.length + sumB cAtom b) + 1
  omega
set_option maxHeartbeats 16000000 in
theorem l7Pair_g (c : Cur) (h : goodC c) : SpecG Tryz.prog 103 [.ptr 0 0] (gC c) fun r g2 => ∃ (s : List Int) (a b : QueryW) (c' : Cur), roV r = .tup [vSchema s, vQuery a, vQuery b] ∧ s.length ≤ 8 ∧ cQuery a ≤ 1048576 ∧ cQuery b ≤ 1048576 ∧ goodC c' ∧ g2 = gC c' := by
  unfold gC
  refine SpecG_of mx Γ_ok 1 Tryz.func103 rfl rfl (by decide) ?_
  conv => whnf
  refine .inr (.inl ?_)
  conv => whnf
  refine ⟨curC_ne c, ?_⟩
  conv => whnf
  refine ⟨_, _, _, l3Schema_spec c h, ?_⟩
  conv => whnf
  refine .inl ?_
  rw [wSchema_ro]
  conv => whnf
  obtain ⟨h1, s1, s2, s3⟩ := schP_ok h
  have hs : sOk (schP c).1 := ⟨s1, s2, by omega⟩
  generalize (schP c).2 = c1 at h1 ⊢
  generalize (schP c).1 = s at hs s3 ⊢
  refine .inr (.inr ⟨[0], [], ?_⟩)
  conv => whnf
  refine ⟨_, l4Query_g s c1 hs h1, fun r g2 hP => ?_⟩
  obtain ⟨a, c2, rfl, q1, q2, q3, q4, h2, rfl⟩ := hP
  have ha : qSm a := ⟨by omega, by omega, fun x hx => by have := q4 x hx; omega⟩
  have has := qSm_size ha
  refine .inl ?_
  rw [wQuery_ro]
  conv => whnf
  refine .inr (.inr ⟨[0], [], ?_⟩)
  conv => whnf
  refine ⟨_, l4Near_g s a c2 hs ha q3 h2, fun r g2 hP => ?_⟩
  obtain ⟨b, c3, rfl, hb, hb1, h3, rfl⟩ := hP
  refine .inr ?_
  conv => whnf
  refine .inr (.inl ?_)
  conv => whnf
  refine ⟨curC_ne c3, ?_⟩
  conv => whnf
  refine ⟨_, _, _, l1Once_spec c3 3 h3 (by omega), ?_⟩
  conv => whnf
  refine .inl ?_
  have h4 := belowP_good h3 3
  generalize (belowP c3 3).2 = c4 at h4 ⊢
  generalize ((belowP c3 3).1 == 0) = o1
  cases o1 with
  | true =>
    conv => whnf
    refine .inr (.inr ⟨[0], [6, 7], ?_⟩)
    conv => whnf
    refine ⟨_, _, takeN_all (by rw [rows_len ciL_len]), roVs_ci _, ?_⟩
    conv => whnf
    refine ⟨_, _, takeN_all (by rw [rows_len tAtom_len]), roVs_rows tAtom_ro _, ?_⟩
    conv => whnf
    refine ⟨_, l4Near_g s b c4 hs hb hb1 h4, fun r g2 hP => ?_⟩
    obtain ⟨b', c5, rfl, hb', hb1', h5, rfl⟩ := hP
    refine .inr ?_
    have hbs := qSm_size hb'
    have hbs1 : cQuery (b'.1, b'.2) + 1 ≤ 1048576 := qSm_size1 hb'
    have hbl := hb'.1
    conv => whnf
    refine .inr (.inl ?_)
    conv => whnf
    refine ⟨curC_ne c5, ?_⟩
    conv => whnf
    refine ⟨_, _, _, l1Below_spec c5 16 h5 (by omega), ?_⟩
    conv => whnf
    refine .inl ?_
    have gy := belowP_good h5 16
    generalize (belowP c5 16).2 = cy at gy ⊢
    generalize (belowP c5 16).1 = v
    conv => whnf
    generalize (v == 0) = b0
    cases b0 with
    | true =>
      conv => whnf
      refine ⟨[1001, 0, 1, 2, 3, 4, 5, 6, 7, 1000, 1000], by kernel_rfl, ?_⟩
      conv => whnf
      refine .inr (.inr ⟨[0], fun k => noSubT_lk (by kernel_rfl) k, rfl, ?_⟩)
      conv => whnf
      refine ⟨_, l2Any_g cy gy, fun r g2 hP => ?_⟩
      obtain ⟨tt, cx, rfl, gx, rfl⟩ := hP
      refine .inl ?_
      conv => whnf
      refine ⟨_, rfl, .inl ⟨flat1 rfl, ?_⟩⟩
      conv => whnf
      refine ⟨by omega, by rw [rows_len ciL_len], _, snoc_ci _ _, ?_⟩
      conv => whnf
      obtain ⟨b2, hb2⟩ : ∃ b2 : QueryW, b2 = (b'.1 ++ [tt], b'.2) := ⟨_, rfl⟩
      have hb2s : cQuery b2 ≤ 1048576 := by rw [hb2, app_size]; exact hbs1
      have e1 : rows ciL (b'.1 ++ [tt]) = rows ciL b2.1 := by rw [hb2]
      have e2 : rows tAtom b'.2 = rows tAtom b2.2 := by rw [hb2]
      have e3 : b'.1.length + 1 = b2.1.length := by rw [hb2]; simp
      have e4 : b'.2.length = b2.2.length := by rw [hb2]
      rw [e1, e2, e3, e4]
      clear e1 e2 e3 e4 hb2
      refine .inr (.inl ?_)
      conv => whnf
      refine ⟨curC_ne cx, ?_⟩
      conv => whnf
      refine ⟨_, _, _, l1Once_spec cx 2 gx (by omega), ?_⟩
      conv => whnf
      refine .inl ?_
      have gz := belowP_good gx 2
      generalize (belowP cx 2).2 = cz at gz ⊢
      generalize ((belowP cx 2).1 == 0) = o2
      cases o2 with
      | false =>
        conv => whnf
        refine ⟨[2001, 2002, 0, 1, 2, 3, 4, 5], by kernel_rfl, ?_⟩
        conv => whnf
        refine ⟨rfl, ?_⟩
        conv => whnf
        refine ⟨rfl, ?_⟩
        conv => whnf
        refine ⟨[], ?_⟩
        conv => whnf
        refine ⟨by rw [rows_len ciL_len], by rw [rows_len tAtom_len], ?_⟩
        exact ⟨s, a, b2, cz, by show V.tup [roV (vSchema s), roV (vQuery a), roV (wQuery b2)] = _; rw [ints_roV, vQ_ro, wQuery_ro], (by omega), has, hb2s, gz, rfl⟩
      | true =>
        conv => whnf
        refine ⟨[2001, 2002, 0, 1, 2, 3, 4, 5], by kernel_rfl, ?_⟩
        conv => whnf
        refine ⟨rfl, ?_⟩
        conv => whnf
        refine ⟨rfl, ?_⟩
        conv => whnf
        refine ⟨[], ?_⟩
        conv => whnf
        refine ⟨by rw [rows_len ciL_len], by rw [rows_len tAtom_len], ?_⟩
        exact ⟨s, b2, a, cz, by show V.tup [roV (vSchema s), roV (wQuery b2), roV (vQuery a)] = _; rw [ints_roV, wQuery_ro, vQ_ro], (by omega), hb2s, has, gz, rfl⟩
    | false =>
      conv => whnf
      generalize (v == 1) = b1
      cases b1 with
      | true =>
        conv => whnf
        refine .inr (.inr ⟨[0], [], ?_⟩)
        conv => whnf
        refine ⟨_, l3Any_g cy gy, fun r g2 hP => ?_⟩
        obtain ⟨s2, cx, rfl, hs2, gx, rfl⟩ := hP
        refine .inl ?_
        rw [wSchema_ro]
        conv => whnf
        refine .inr (.inl ?_)
        conv => whnf
        refine ⟨curC_ne cx, ?_⟩
        conv => whnf
        refine ⟨_, _, _, l1Once_spec cx 2 gx (by omega), ?_⟩
        conv => whnf
        refine .inl ?_
        have gz := belowP_good gx 2
        generalize (belowP cx 2).2 = cz at gz ⊢
        generalize ((belowP cx 2).1 == 0) = o2
        cases o2 with
        | false =>
          conv => whnf
          refine ⟨[2001, 2002, 0, 1, 2, 3, 4, 5], by kernel_rfl, ?_⟩
          conv => whnf
          refine ⟨rfl, ?_⟩
          conv => whnf
          refine ⟨rfl, ?_⟩
          conv => whnf
          refine ⟨[], ?_⟩
          conv => whnf
          refine ⟨by rw [rows_len ciL_len], by rw [rows_len tAtom_len], ?_⟩
          exact ⟨s2, a, b', cz, by show V.tup [roV (vSchema s2), roV (vQuery a), roV (wQuery b')] = _; rw [ints_roV, vQ_ro, wQuery_ro], hs2, has, hbs, gz, rfl⟩
        | true =>
          conv => whnf
          refine ⟨[2001, 2002, 0, 1, 2, 3, 4, 5], by kernel_rfl, ?_⟩
          conv => whnf
          refine ⟨rfl, ?_⟩
          conv => whnf
          refine ⟨rfl, ?_⟩
          conv => whnf
          refine ⟨[], ?_⟩
          conv => whnf
          refine ⟨by rw [rows_len ciL_len], by rw [rows_len tAtom_len], ?_⟩
          exact ⟨s2, b', a, cz, by show V.tup [roV (vSchema s2), roV (wQuery b'), roV (vQuery a)] = _; rw [ints_roV, wQuery_ro, vQ_ro], hs2, hbs, has, gz, rfl⟩
      | false =>
        conv => whnf
        refine .inr (.inl ?_)
        conv => whnf
        refine ⟨curC_ne cy, ?_⟩
        conv => whnf
        refine ⟨_, _, _, l1Once_spec cy 2 gy (by omega), ?_⟩
        conv => whnf
        refine .inl ?_
        have gz := belowP_good gy 2
        generalize (belowP cy 2).2 = cz at gz ⊢
        generalize ((belowP cy 2).1 == 0) = o2
        cases o2 with
        | false =>
          conv => whnf
          refine ⟨[2001, 2002, 0, 1, 2, 3, 4, 5], by kernel_rfl, ?_⟩
          conv => whnf
          refine ⟨rfl, ?_⟩
          conv => whnf
          refine ⟨rfl, ?_⟩
          conv => whnf
          refine ⟨[], ?_⟩
          conv => whnf
          refine ⟨by rw [rows_len ciL_len], by rw [rows_len tAtom_len], ?_⟩
          exact ⟨s, a, b', cz, by show V.tup [roV (vSchema s), roV (vQuery a), roV (wQuery b')] = _; rw [ints_roV, vQ_ro, wQuery_ro], (by omega), has, hbs, gz, rfl⟩
        | true =>
          conv => whnf
          refine ⟨[2001, 2002, 0, 1, 2, 3, 4, 5], by kernel_rfl, ?_⟩
          conv => whnf
          refine ⟨rfl, ?_⟩
          conv => whnf
          refine ⟨rfl, ?_⟩
          conv => whnf
          refine ⟨[], ?_⟩
          conv => whnf
          refine ⟨by rw [rows_len ciL_len], by rw [rows_len tAtom_len], ?_⟩
          exact ⟨s, b', a, cz, by show V.tup [roV (vSchema s), roV (wQuery b'), roV (vQuery a)] = _; rw [ints_roV, wQuery_ro, vQ_ro], (by omega), hbs, has, gz, rfl⟩
  | false =>
    have hbs := qSm_size hb
    have hbs1 : cQuery (b.1, b.2) + 1 ≤ 1048576 := qSm_size1 hb
    have hbl := hb.1
    conv => whnf
    refine .inr (.inl ?_)
    conv => whnf
    refine ⟨curC_ne c4, ?_⟩
    conv => whnf
    refine ⟨_, _, _, l1Below_spec c4 16 h4 (by omega), ?_⟩
    conv => whnf
    refine .inl ?_
    have gy := belowP_good h4 16
    generalize (belowP c4 16).2 = cy at gy ⊢
    generalize (belowP c4 16).1 = v
    conv => whnf
    generalize (v == 0) = b0
    cases b0 with
    | true =>
      conv => whnf
      refine ⟨[1001, 0, 1, 2, 3, 4, 5, 6, 7, 1000, 1000], by kernel_rfl, ?_⟩
      conv => whnf
      refine .inr (.inr ⟨[0], fun k => noSubT_lk (by kernel_rfl) k, rfl, ?_⟩)
      conv => whnf
      refine ⟨_, l2Any_g cy gy, fun r g2 hP => ?_⟩
      obtain ⟨tt, cx, rfl, gx, rfl⟩ := hP
      refine .inl ?_
      conv => whnf
      refine ⟨_, rfl, .inl ⟨flat1 rfl, ?_⟩⟩
      conv => whnf
      refine ⟨by omega, by rw [rows_len ciL_len], _, snoc_ci _ _, ?_⟩
      conv => whnf
      obtain ⟨b2, hb2⟩ : ∃ b2 : QueryW, b2 = (b.1 ++ [tt], b.2) := ⟨_, rfl⟩
      have hb2s : cQuery b2 ≤ 1048576 := by rw [hb2, app_size]; exact hbs1
      have e1 : rows ciL (b.1 ++ [tt]) = rows ciL b2.1 := by rw [hb2]
      have e2 : rows tAtom b.2 = rows tAtom b2.2 := by rw [hb2]
      have e3 : b.1.length + 1 = b2.1.length := by rw [hb2]; simp
      have e4 : b.2.length = b2.2.length := by rw [hb2]
      rw [e1, e2, e3, e4]
      clear e1 e2 e3 e4 hb2
      refine .inr (.inl ?_)
      conv => whnf
      refine ⟨curC_ne cx, ?_⟩
      conv => whnf
      refine ⟨_, _, _, l1Once_spec cx 2 gx (by omega), ?_⟩
      conv => whnf
      refine .inl ?_
      have gz := belowP_good gx 2
      generalize (belowP cx 2).2 = cz at gz ⊢
      generalize ((belowP cx 2).1 == 0) = o2
      cases o2 with
      | false =>
        conv => whnf
        refine ⟨[2001, 2002, 0, 1, 2, 3, 4, 5], by kernel_rfl, ?_⟩
        conv => whnf
        refine ⟨rfl, ?_⟩
        conv => whnf
        refine ⟨rfl, ?_⟩
        conv => whnf
        refine ⟨[], ?_⟩
        conv => whnf
        refine ⟨by rw [rows_len ciL_len], by rw [rows_len tAtom_len], ?_⟩
        exact ⟨s, a, b2, cz, by show V.tup [roV (vSchema s), roV (vQuery a), roV (wQuery b2)] = _; rw [ints_roV, vQ_ro, wQuery_ro], (by omega), has, hb2s, gz, rfl⟩
      | true =>
        conv => whnf
        refine ⟨[2001, 2002, 0, 1, 2, 3, 4, 5], by kernel_rfl, ?_⟩
        conv => whnf
        refine ⟨rfl, ?_⟩
        conv => whnf
        refine ⟨rfl, ?_⟩
        conv => whnf
        refine ⟨[], ?_⟩
        conv => whnf
        refine ⟨by rw [rows_len ciL_len], by rw [rows_len tAtom_len], ?_⟩
        exact ⟨s, b2, a, cz, by show V.tup [roV (vSchema s), roV (wQuery b2), roV (vQuery a)] = _; rw [ints_roV, wQuery_ro, vQ_ro], (by omega), hb2s, has, gz, rfl⟩
    | false =>
      conv => whnf
      generalize (v == 1) = b1
      cases b1 with
      | true =>
        conv => whnf
        refine .inr (.inr ⟨[0], [], ?_⟩)
        conv => whnf
        refine ⟨_, l3Any_g cy gy, fun r g2 hP => ?_⟩
        obtain ⟨s2, cx, rfl, hs2, gx, rfl⟩ := hP
        refine .inl ?_
        rw [wSchema_ro]
        conv => whnf
        refine .inr (.inl ?_)
        conv => whnf
        refine ⟨curC_ne cx, ?_⟩
        conv => whnf
        refine ⟨_, _, _, l1Once_spec cx 2 gx (by omega), ?_⟩
        conv => whnf
        refine .inl ?_
        have gz := belowP_good gx 2
        generalize (belowP cx 2).2 = cz at gz ⊢
        generalize ((belowP cx 2).1 == 0) = o2
        cases o2 with
        | false =>
          conv => whnf
          refine ⟨[2001, 2002, 0, 1, 2, 3, 4, 5], by kernel_rfl, ?_⟩
          conv => whnf
          refine ⟨rfl, ?_⟩
          conv => whnf
          refine ⟨rfl, ?_⟩
          conv => whnf
          refine ⟨[], ?_⟩
          conv => whnf
          refine ⟨by rw [rows_len ciL_len], by rw [rows_len tAtom_len], ?_⟩
          exact ⟨s2, a, b, cz, by show V.tup [roV (vSchema s2), roV (vQuery a), roV (wQuery b)] = _; rw [ints_roV, vQ_ro, wQuery_ro], hs2, has, hbs, gz, rfl⟩
        | true =>
          conv => whnf
          refine ⟨[2001, 2002, 0, 1, 2, 3, 4, 5], by kernel_rfl, ?_⟩
          conv => whnf
          refine ⟨rfl, ?_⟩
          conv => whnf
          refine ⟨rfl, ?_⟩
          conv => whnf
          refine ⟨[], ?_⟩
          conv => whnf
          refine ⟨by rw [rows_len ciL_len], by rw [rows_len tAtom_len], ?_⟩
          exact ⟨s2, b, a, cz, by show V.tup [roV (vSchema s2), roV (wQuery b), roV (vQuery a)] = _; rw [ints_roV, wQuery_ro, vQ_ro], hs2, hbs, has, gz, rfl⟩
      | false =>
        conv => whnf
        refine .inr (.inl ?_)
        conv => whnf
        refine ⟨curC_ne cy, ?_⟩
        conv => whnf
        refine ⟨_, _, _, l1Once_spec cy 2 gy (by omega), ?_⟩
        conv => whnf
        refine .inl ?_
        have gz := belowP_good gy 2
        generalize (belowP cy 2).2 = cz at gz ⊢
        generalize ((belowP cy 2).1 == 0) = o2
        cases o2 with
        | false =>
          conv => whnf
          refine ⟨[2001, 2002, 0, 1, 2, 3, 4, 5], by kernel_rfl, ?_⟩
          conv => whnf
          refine ⟨rfl, ?_⟩
          conv => whnf
          refine ⟨rfl, ?_⟩
          conv => whnf
          refine ⟨[], ?_⟩
          conv => whnf
          refine ⟨by rw [rows_len ciL_len], by rw [rows_len tAtom_len], ?_⟩
          exact ⟨s, a, b, cz, by show V.tup [roV (vSchema s), roV (vQuery a), roV (wQuery b)] = _; rw [ints_roV, vQ_ro, wQuery_ro], (by omega), has, hbs, gz, rfl⟩
        | true =>
          conv => whnf
          refine ⟨[2001, 2002, 0, 1, 2, 3, 4, 5], by kernel_rfl, ?_⟩
          conv => whnf
          refine ⟨rfl, ?_⟩
          conv => whnf
          refine ⟨rfl, ?_⟩
          conv => whnf
          refine ⟨[], ?_⟩
          conv => whnf
          refine ⟨by rw [rows_len ciL_len], by rw [rows_len tAtom_len], ?_⟩
          exact ⟨s, b, a, cz, by show V.tup [roV (vSchema s), roV (wQuery b), roV (vQuery a)] = _; rw [ints_roV, wQuery_ro, vQ_ro], (by omega), hbs, has, gz, rfl⟩
end Go.Proofs.YtcjdfeafcmfgpaaGreatD
set_option linter.unusedVariables false
set_option linter.unusedSimpArgs false
set_option maxRecDepth 100000
namespace Go.Proofs.YtcjdfeafcmfgpaaGreatD
open Go Go.Proofs
theorem drawIsContained_g (xs : List Int) (h : xs.length ≤ 1099511627776) : SpecG Tryz.prog 13 [bytesR xs] [] fun r g2 => ∃ (s : List Int) (a b : QueryW), roV r = .tup [vSchema s, vQuery a, vQuery b] ∧ s.length ≤ 8 ∧ cQuery a ≤ 1048576 ∧ cQuery b ≤ 1048576 ∧ g2 = [] := by
  refine SpecG_of mx Γ_ok 0 Tryz.func13 rfl rfl (by decide) ?_
  conv => whnf
  refine ⟨_, l1New_spec xs h, .inl rfl, .inr ?_⟩
  conv => whnf
  have g0 := good_new h
  generalize newCur xs = c0 at g0 ⊢
  refine .inr (.inr ⟨[3], [], ?_⟩)
  conv => whnf
  refine ⟨_, l7Pair_g c0 g0, fun r g2 hP => ?_⟩
  obtain ⟨s, a, b, c1, hr, hs, ha, hb, g1, rfl⟩ := hP
  refine .inl ?_
  rw [hr]
  conv => whnf
  refine ⟨[2000, 2001, 0, 1, 2, 3, 4, 5], by kernel_rfl, ?_⟩
  conv => whnf
  refine ⟨rfl, ?_⟩
  conv => whnf
  refine ⟨rfl, ?_⟩
  conv => whnf
  refine ⟨[], ?_⟩
  conv => whnf
  exact ⟨s, a, b, by show V.tup [roV (vSchema s), roV (vQuery a), roV (vQuery b)] = _; rw [ints_roV, vQ_ro, vQ_ro], hs, ha, hb, rfl⟩
end Go.Proofs.YtcjdfeafcmfgpaaGreatD
set_option linter.unusedVariables false
set_option linter.unusedSimpArgs false
namespace Go.Proofs.YtcjdfeafcmfgpaaGreatD
open Go Go.Proofs Go.RowKit Go.Shelf Go.Sort Go.Lib
set_option maxHeartbeats 4000000 in
set_option maxRecDepth 1000000 in
theorem compact_walkK {α : Type} [Inhabited α] (ea eb : α → Value) (ef : α → α → Bool) (g blk off cap : Nat) (d : Array α) (w : World)
    (eg : ∀ args w, (callFunc g args).run Tryz.prog w = .ok (.enter g args) w) (hcmp : EqLays Tryz.prog g (fun x => .agg #[ea x, eb x]) (fun x => [ea x, eb x]) 2 ef w blk off d.size) (h1 : ∀ x, (ea x).oneCell' = true ∧ (eb x).oneCell' = true) (hH : HoldsK (fun x => [ea x, eb x]) 2 w blk off d) (hblk : blk < w.heap.size) (hF : ∀ c e, w.heap[blk]? = some (.cells c e (0, 0)) → off + d.size * 2 ≤ c.size) (hsz : d.size < 4611686018427387904) (hcap : d.size ≤ cap) :
    Calls Tryz.prog 165 #[.slice (some ⟨blk, off, none⟩) d.size cap, .func (.func g) #[] #[]] w fun e w' =>
      ∃ m : Nat, CompOut (fun x => [ea x, eb x]) 2 ef d w w' blk off m ∧ e = .returned (.slice (some ⟨blk, off, none⟩) m cap) := by
  have mixed : Tryz.prog.follows .mixedOrders = true := by kernel_rfl
  have hS0 : SWK (fun x => [ea x, eb x]) 2 w blk off d w := SWK.start hH
  have same : ∀ W, SWK (fun x => [ea x, eb x]) 2 w blk off d W → (∀ j, j < d.size → keepsB ef d j = true) → CompOut (fun x => [ea x, eb x]) 2 ef d w W blk off d.size := fun W hW hall => CompOut.all hblk hF hW hall
  have cut : ∀ (dk : Array α) (m : Nat) W l, SWK (fun x => [ea x, eb x]) 2 w blk off dk W → CInv ef d d.size m dk → CompOut (fun x => [ea x, eb x]) 2 ef d w (W.setCells blk (off + m * 2) l) blk off m := fun dk m W l hW hI => CompOut.cut hblk hF hW hI l
  have HT : Aside _ := cut
  have HS : Aside _ := same
  have HC : Aside _ := hcmp
  have HH : Aside _ := hH
  have S0 : Aside _ := hS0
  have H1 : Aside _ := h1
  have HF : Aside _ := hF
  clear same cut hcmp hH hS0 h1 hF
  by_cases h2 : d.size < 2
  · go_enter Tryz.func165, Tryz.ntmps165
    go_wp2
    go_ret
    have := HS.out w S0.out (fun j hj => by
      rcases Nat.eq_zero_or_pos j with h | h
      · subst h; exact keepsB_lt_one d 0 Nat.one_pos
      · omega)
    first | exact this | exact ⟨_, this, rfl⟩
  · go_enter Tryz.func165, Tryz.ntmps165
    go_wp2
    go_loopg [5] d.size (fun g5 s5 wr => ∃ k : Nat, 1 ≤ k ∧ k ≤ d.size ∧ d.size - k ≤ g5 ∧ s5 = .int .i64 k ∧ SWK (fun x => [ea x, eb x]) 2 w blk off d wr ∧ ∀ j, j < k → keepsB ef d j = true)
    case atStart => exact ⟨1, Nat.le_refl _, by omega, by omega, rfl, S0.out, keepsB_lt_one d⟩
    case round =>
      obtain ⟨k, hk1, hkd, hg, rfl, hW, hall⟩ := hrel
      by_cases hlt : k < d.size
      · obtain ⟨kp, rfl⟩ : ∃ kp, k = kp + 1 := ⟨k - 1, by omega⟩
        obtain ⟨xj, hxj⟩ : ∃ x, d[kp + 1]! = x := ⟨_, rfl⟩
        obtain ⟨xp, hxp⟩ : ∃ x, d[kp]! = x := ⟨_, rfl⟩
        have hHc : ∀ n' os', HoldsK (fun x => [ea x, eb x]) 2 (grow (wr.drewN n') os') blk off d := fun n' os' => (SWK_grown hW n' os').holds hblk HH.out rfl
        have lj0 : ∀ n' os', (grow (wr.drewN n') os').cell? ⟨blk, off + (kp + 1) * 2, none⟩ = some (ea xj) := fun n' os' => by
          rw [← hxj]; exact ((hHc n' os').cell (i := kp + 1) (c := 0) hlt (by omega)).1
        have lj1 : ∀ n' os', (grow (wr.drewN n') os').cell? ⟨blk, off + (kp + 1) * 2 + 1, none⟩ = some (eb xj) := fun n' os' => by
          rw [← hxj]; exact ((hHc n' os').cell (i := kp + 1) (c := 1) hlt (by omega)).1
        have lp0 : ∀ n' os', (grow (wr.drewN n') os').cell? ⟨blk, off + kp * 2, none⟩ = some (ea xp) := fun n' os' => by
          rw [← hxp]; exact ((hHc n' os').cell (i := kp) (c := 0) (by omega) (by omega)).1
        have lp1 : ∀ n' os', (grow (wr.drewN n') os').cell? ⟨blk, off + kp * 2 + 1, none⟩ = some (eb xp) := fun n' os' => by
          rw [← hxp]; exact ((hHc n' os').cell (i := kp) (c := 1) (by omega) (by omega)).1
        have hcg : ∀ n' os', Calls Tryz.prog g #[.agg #[ea xj, eb xj], .agg #[ea xp, eb xp]] (grow (wr.drewN n') os') fun e w' => e = .returned (.bool (ef xj xp)) ∧ ∃ q os'', w' = grow ((grow (wr.drewN n') os').drewN q) os'' := fun n' os' =>
          HC.out d _ rfl (SWK_grown hW n' os') xj xp
        have hwp : IntKind.i64.wrap (kp : Int) = (kp : Int) := by rw [IntKind.wrap_i64]; omega
        have jz : (kp : Int) + 1 < (d.size : Int) := by omega
        have jz1 : (kp : Int) < (d.size : Int) := by omega
        have p0 : (0 : Int) ≤ (kp : Int) + 1 := by omega
        have e0 : ((kp : Int) + 1).toNat = kp + 1 := by omega
        have HW : Aside _ := hW
        have HA : Aside _ := hall
        have HX : Aside (d[kp + 1]! = xj ∧ d[kp]! = xp) := ⟨hxj, hxp⟩
        clear hW hall hHc hxj hxp
        cases hef : ef xj xp
        · rw [hef] at hcg
          go_wp2_with fail
          go_quiet_grown (first | (go_at_fn g; refine Calls.grown_of (hcg _ _)))
          go_wp2
          go_roundg (d.size - (kp + 1 + 1))
          case measure => omega
          case rel =>
            refine ⟨kp + 1 + 1, by omega, by omega, Nat.le_refl _, by go_num, SWK_grown HW.out _ _, fun j hj => ?_⟩
            by_cases e : j = kp + 1
            · subst e
              exact keepsB_pos (by rw [Nat.add_sub_cancel, HX.out.1, HX.out.2]; exact hef)
            · exact HA.out j (by omega)
        · rw [hef] at hcg
          go_wp2_with fail
          go_quiet_grown (first | (go_at_fn g; refine Calls.grown_of (hcg _ _)))
          go_wp2
          clear lj0 lj1 lp0 lp1 hcg
          go_loopg [5, 7] d.size (fun g5 s5 s7 wr2 => ∃ (kk k2 : Nat) (dk : Array α), s5 = .int .i64 kk ∧ s7 = .int .i64 k2 ∧ 1 ≤ k2 ∧ kp + 1 + k2 ≤ d.size ∧ d.size - (kp + 1 + k2) ≤ g5 ∧ SWK (fun x => [ea x, eb x]) 2 w blk off dk wr2 ∧ CInv ef d (kp + 1 + k2) kk dk)
          case atStart => exact ⟨kp + 1, 1, d, by go_num, rfl, Nat.le_refl _, by omega, by omega, SWK_grown HW.out _ _, CInv.start HA.out (keepsB_neg (by omega) (by rw [Nat.add_sub_cancel, HX.out.1, HX.out.2]; exact hef))⟩
          case round =>
            obtain ⟨kk, k2, dk, rfl, rfl, hk2, hle, hg2, hW2, hI⟩ := hrel
            have hkk := hI.lt
            have hds := hI.size
            by_cases hlt2 : kp + 1 + k2 < d.size
            · obtain ⟨kq, rfl⟩ : ∃ kq, k2 = kq + 1 := ⟨k2 - 1, by omega⟩
              obtain ⟨u, hu⟩ : ∃ x, d[kp + 1 + (kq + 1)]! = x := ⟨_, rfl⟩
              obtain ⟨v, hv⟩ : ∃ x, d[kp + 1 + kq]! = x := ⟨_, rfl⟩
              have eu : dk[kp + 1 + (kq + 1)]! = u := by rw [hI.high _ (by omega)]; exact hu
              have ev : dk[kp + 1 + kq]! = v := by rw [hI.high _ (by omega)]; exact hv
              have hHc : ∀ n' os', HoldsK (fun x => [ea x, eb x]) 2 (grow (wr.drewN n') os') blk off dk := fun n' os' => (SWK_grown hW2 n' os').holds hblk HH.out hds
              have lj0 : ∀ n' os', (grow (wr.drewN n') os').cell? ⟨blk, off + (kp + 1) * 2 + (kq + 1) * 2, none⟩ = some (ea u) := fun n' os' => by
                rw [← eu, Nat.add_assoc, ← Nat.add_mul]; exact ((hHc n' os').cell (i := kp + 1 + (kq + 1)) (c := 0) (by omega) (by omega)).1
              have lj1 : ∀ n' os', (grow (wr.drewN n') os').cell? ⟨blk, off + (kp + 1) * 2 + (kq + 1) * 2 + 1, none⟩ = some (eb u) := fun n' os' => by
                rw [← eu, Nat.add_assoc off, ← Nat.add_mul]; exact ((hHc n' os').cell (i := kp + 1 + (kq + 1)) (c := 1) (by omega) (by omega)).1
              have lp0 : ∀ n' os', (grow (wr.drewN n') os').cell? ⟨blk, off + (kp + 1) * 2 + kq * 2, none⟩ = some (ea v) := fun n' os' => by
                rw [← ev, Nat.add_assoc, ← Nat.add_mul]; exact ((hHc n' os').cell (i := kp + 1 + kq) (c := 0) (by omega) (by omega)).1
              have lp1 : ∀ n' os', (grow (wr.drewN n') os').cell? ⟨blk, off + (kp + 1) * 2 + kq * 2 + 1, none⟩ = some (eb v) := fun n' os' => by
                rw [← ev, Nat.add_assoc off, ← Nat.add_mul]; exact ((hHc n' os').cell (i := kp + 1 + kq) (c := 1) (by omega) (by omega)).1
              have hcg : ∀ n' os', Calls Tryz.prog g #[.agg #[ea u, eb u], .agg #[ea v, eb v]] (grow (wr.drewN n') os') fun e w' => e = .returned (.bool (ef u v)) ∧ ∃ q os'', w' = grow ((grow (wr.drewN n') os').drewN q) os'' := fun n' os' =>
                HC.out dk _ hds (SWK_grown hW2 n' os') u v
              have kc0 : ∀ n' os', (grow (wr.drewN n') os').cell? ⟨blk, off + kk * 2, none⟩ = some (ea dk[kk]!) := fun n' os' => ((hHc n' os').cell (i := kk) (c := 0) (by omega) (by omega)).1
              have kc1 : ∀ n' os', (grow (wr.drewN n') os').cell? ⟨blk, off + kk * 2 + 1, none⟩ = some (eb dk[kk]!) := fun n' os' => ((hHc n' os').cell (i := kk) (c := 1) (by omega) (by omega)).1
              have kf0 : ∀ n' os', (grow (wr.drewN n') os').frozen? ⟨blk, off + kk * 2, none⟩ = false := fun n' os' => ((hHc n' os').cell (i := kk) (c := 0) (by omega) (by omega)).2
              have kf1 : ∀ n' os', (grow (wr.drewN n') os').frozen? ⟨blk, off + kk * 2 + 1, none⟩ = false := fun n' os' => ((hHc n' os').cell (i := kk) (c := 1) (by omega) (by omega)).2
              have sa : ∀ (a : Addr) (m : Mode) (w : World), Sem.run Tryz.prog (store a (ea u) m) w = stored Tryz.prog w a (ea u) m := fun a m w => run_store Tryz.prog w a _ m (H1.out u).1
              have sb : ∀ (a : Addr) (m : Mode) (w : World), Sem.run Tryz.prog (store a (eb u) m) w = stored Tryz.prog w a (eb u) m := fun a m w => run_store Tryz.prog w a _ m (H1.out u).2
              generalize dk[kk]! = old at kc0 kc1
              have hwq : IntKind.i64.wrap (kq : Int) = (kq : Int) := by rw [IntKind.wrap_i64]; omega
              have j0 : (kq : Int) + 1 < (d.size - (kp + 1) : Nat) := by omega
              have j1 : (kq : Int) < (d.size - (kp + 1) : Nat) := by omega
              have j2 : (kk : Int) < (d.size : Int) := by omega
              have q0 : (0 : Int) ≤ (kq : Int) + 1 := by omega
              have e0' : ((kq : Int) + 1).toNat = kq + 1 := by omega
              have HW2 : Aside _ := hW2
              have HI : Aside _ := hI
              have HX2 : Aside (d[kp + 1 + (kq + 1)]! = u ∧ d[kp + 1 + kq]! = v) := ⟨hu, hv⟩
              clear hW2 hI hHc hu hv eu ev
              cases hef2 : ef u v
              · rw [hef2] at hcg
                go_wp2_with fail
                go_quiet_grown (first | (go_at_fn g; refine Calls.grown_of (hcg _ _)))
                go_wp2
                go_roundg (d.size - (kp + 1 + (kq + 1 + 1)))
                case measure => omega
                case rel => exact ⟨kk + 1, kq + 1 + 1, dk.setIfInBounds kk u, by go_num, by go_num, by omega, by omega, Nat.le_refl _, SWK_store (SWK_grown HW2.out nq osq) (fun _ => rfl) hblk (by omega) u, by
                  have := HI.out.keep hlt2 (keepsB_pos (by rw [show kp + 1 + (kq + 1) - 1 = kp + 1 + kq from by omega, HX2.out.1, HX2.out.2]; exact hef2))
                  rwa [HX2.out.1] at this⟩
              · rw [hef2] at hcg
                clear sa sb kc0 kc1 kf0 kf1
                go_wp2_with fail
                go_quiet_grown (first | (go_at_fn g; refine Calls.grown_of (hcg _ _)))
                go_wp2
                go_roundg (d.size - (kp + 1 + (kq + 1 + 1)))
                case measure => omega
                case rel => exact ⟨kk, kq + 1 + 1, dk, rfl, by go_num, by omega, by omega, Nat.le_refl _, SWK_grown HW2.out _ _, HI.out.skip (keepsB_neg (by omega) (by rw [show kp + 1 + (kq + 1) - 1 = kp + 1 + kq from by omega, HX2.out.1, HX2.out.2]; exact hef2))⟩
            · have hend : kp + 1 + k2 = d.size := by omega
              have hHc := hW2.holds hblk HH.out hds
              obtain ⟨l, hcl⟩ := run_clear_cells (P := Tryz.prog) wr 33 151 (.agg #[.int .i64 0, .slice none 0 0]) [.int .i64 0, .slice none 0 0] (by kernel_rfl) (fun w => by go_simp) rfl (by decide) (by simp [Value.oneCell']) blk (off + kk * 2) (d.size - kk) (cap - kk) (by omega)
                (fun j hj => by
                  have hj' : j < (d.size - kk) * 2 := hj
                  have := (hHc (kk * 2 + j) (by rw [size_flatK]; omega)).1
                  rw [Nat.add_assoc, this]; rfl)
                (fun j hj => by
                  have hj' : j < (d.size - kk) * 2 := hj
                  rw [Nat.add_assoc]; exact (hHc (kk * 2 + j) (by rw [size_flatK]; omega)).2)
              clear hHc
              have HW2 : Aside _ := hW2
              have HI : Aside _ := hI
              clear hW2 hI
              go_wp2
              go_ret
              have := HT.out dk kk wr l HW2.out (by have := HI.out; rwa [hend] at this)
              first | exact this | exact ⟨_, this, rfl⟩
      · have : k = d.size := by omega
        subst this
        have HW : Aside _ := hW
        have HA : Aside _ := hall
        clear hW hall
        go_wp2
        go_ret
        have := HS.out _ HW.out HA.out
        first | exact this | exact ⟨_, this, rfl⟩
end Go.Proofs.YtcjdfeafcmfgpaaGreatD
