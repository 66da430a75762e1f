/- Contracts and plain laws of this seat; no condition. -/
import Derived.Test.YtcjdfeafcmfgpaaGreatQ21
import Derived.Test.YtcjdfeafcmfgpaaGreatQ22
set_option linter.unusedVariables false
set_option linter.unusedSimpArgs false
set_option maxRecDepth 100000
namespace Go.Proofs.YtcjdfeafcmfgpaaGreatD
open Go Go.Proofs
theorem ints_ro2 (xs : List Int) : roV (ints xs) = ints xs := by
 show V.ro _ (roVs (rows ciL xs)) = _
 rw [roVs_ci]
 rfl
theorem rA_ro2 (a : AtomD) : roVs (rAtom a) = rAtom a := by
 show [roV (ci a.1), roV (ints a.2)] = _
 rw [ints_ro2]
 rfl
theorem vQ_ro (q : QueryW) : roV (vQuery q) = vQuery q := by
 show V.agg [roV (ints q.1), .ro _ (roVs (rows rAtom q.2))] = _
 rw [ints_ro2, roVs_rows rA_ro2]
 rfl
theorem qSm_size1 {q : QueryW} (h : qSm q) : cQuery (q.1, q.2) + 1 ≤ 1048576 := by
 obtain ⟨h1, h2, h3⟩ := h
 have := sm_sum h3
 show q.1.length + (q.2.length + sumB cAtom q.2) + 1 ≤ _
 omega
theorem app_size (hd : List Int) (b : List AtomD) (t : Int) : cQuery (hd ++ [t], b) = cQuery (hd, b) + 1 := by
 show (hd ++ [t]).length + _ = hd.length + _ + 1
 rw [List.length_append]
 simp only [List.length_cons, List.length_nil]
 show _ + 1 + (b.length + sumB cAtom b) = _ + (b.length + sumB cAtom b) + 1
 omega
set_option maxHeartbeats 16000000 in
theorem l7Pair_g (c : Cur) (h : goodC c) : SpecG Tryz.prog 103 [.ptr 0 0] (gC c) fun r g2 => ∃ (s : List Int) (a b : QueryW) (c' : Cur), roV r = .tup [vSchema s, vQuery a, vQuery b] ∧ s.length ≤ 8 ∧ cQuery a ≤ 1048576 ∧ cQuery b ≤ 1048576 ∧ goodC c' ∧ g2 = gC c' := by
 unfold gC
 refine SpecG_of mx Γ_ok 1 Tryz.func103 rfl rfl (by decide) ?_
 conv => whnf
 refine .inr (.inl ?_)
 conv => whnf
 refine ⟨curC_ne c, ?_⟩
 conv => whnf
 refine ⟨_, _, _, l3Schema_spec c h, ?_⟩
 conv => whnf
 refine .inl ?_
 rw [wSchema_ro]
 conv => whnf
 obtain ⟨h1, s1, s2, s3⟩ := schP_ok h
 have hs : sOk (schP c).1 := ⟨s1, s2, by omega⟩
 generalize (schP c).2 = c1 at h1 ⊢
 generalize (schP c).1 = s at hs s3 ⊢
 refine .inr (.inr ⟨[0], [], ?_⟩)
 conv => whnf
 refine ⟨_, l4Query_g s c1 hs h1, fun r g2 hP => ?_⟩
 obtain ⟨a, c2, rfl, q1, q2, q3, q4, h2, rfl⟩ := hP
 have ha : qSm a := ⟨by omega, by omega, fun x hx => by have := q4 x hx; omega⟩
 have has := qSm_size ha
 refine .inl ?_
 rw [wQuery_ro]
 conv => whnf
 refine .inr (.inr ⟨[0], [], ?_⟩)
 conv => whnf
 refine ⟨_, l4Near_g s a c2 hs ha q3 h2, fun r g2 hP => ?_⟩
 obtain ⟨b, c3, rfl, hb, hb1, h3, rfl⟩ := hP
 refine .inr ?_
 conv => whnf
 refine .inr (.inl ?_)
 conv => whnf
 refine ⟨curC_ne c3, ?_⟩
 conv => whnf
 refine ⟨_, _, _, l1Once_spec c3 3 h3 (by omega), ?_⟩
 conv => whnf
 refine .inl ?_
 have h4 := belowP_good h3 3
 generalize (belowP c3 3).2 = c4 at h4 ⊢
 generalize ((belowP c3 3).1 == 0) = o1
 cases o1 with
 | true =>
  conv => whnf
  refine .inr (.inr ⟨[0], [6, 7], ?_⟩)
  conv => whnf
  refine ⟨_, _, takeN_all (by rw [rows_len ciL_len]), roVs_ci _, ?_⟩
  conv => whnf
  refine ⟨_, _, takeN_all (by rw [rows_len tAtom_len]), roVs_rows tAtom_ro _, ?_⟩
  conv => whnf
  refine ⟨_, l4Near_g s b c4 hs hb hb1 h4, fun r g2 hP => ?_⟩
  obtain ⟨b', c5, rfl, hb', hb1', h5, rfl⟩ := hP
  refine .inr ?_
  have hbs := qSm_size hb'
  have hbs1 : cQuery (b'.1, b'.2) + 1 ≤ 1048576 := qSm_size1 hb'
  have hbl := hb'.1
  conv => whnf
  refine .inr (.inl ?_)
  conv => whnf
  refine ⟨curC_ne c5, ?_⟩
  conv => whnf
  refine ⟨_, _, _, l1Below_spec c5 16 h5 (by omega), ?_⟩
  conv => whnf
  refine .inl ?_
  have gy := belowP_good h5 16
  generalize (belowP c5 16).2 = cy at gy ⊢
  generalize (belowP c5 16).1 = v
  conv => whnf
  generalize (v == 0) = b0
  cases b0 with
  | true =>
   conv => whnf
   refine ⟨[1001, 0, 1, 2, 3, 4, 5, 6, 7, 1000, 1000], by kernel_rfl, ?_⟩
   conv => whnf
   refine .inr (.inr ⟨[0], fun k => noSubT_lk (by kernel_rfl) k, rfl, ?_⟩)
   conv => whnf
   refine ⟨_, l2Any_g cy gy, fun r g2 hP => ?_⟩
   obtain ⟨tt, cx, rfl, gx, rfl⟩ := hP
   refine .inl ?_
   conv => whnf
   refine ⟨_, rfl, .inl ⟨flat1 rfl, ?_⟩⟩
   conv => whnf
   refine ⟨by omega, by rw [rows_len ciL_len], _, snoc_ci _ _, ?_⟩
   conv => whnf
   obtain ⟨b2, hb2⟩ : ∃ b2 : QueryW, b2 = (b'.1 ++ [tt], b'.2) := ⟨_, rfl⟩
   have hb2s : cQuery b2 ≤ 1048576 := by rw [hb2, app_size]; exact hbs1
   have e1 : rows ciL (b'.1 ++ [tt]) = rows ciL b2.1 := by rw [hb2]
   have e2 : rows tAtom b'.2 = rows tAtom b2.2 := by rw [hb2]
   have e3 : b'.1.length + 1 = b2.1.length := by rw [hb2]; simp
   have e4 : b'.2.length = b2.2.length := by rw [hb2]
   rw [e1, e2, e3, e4]
   clear e1 e2 e3 e4 hb2
   refine .inr (.inl ?_)
   conv => whnf
   refine ⟨curC_ne cx, ?_⟩
   conv => whnf
   refine ⟨_, _, _, l1Once_spec cx 2 gx (by omega), ?_⟩
   conv => whnf
   refine .inl ?_
   have gz := belowP_good gx 2
   generalize (belowP cx 2).2 = cz at gz ⊢
   generalize ((belowP cx 2).1 == 0) = o2
   cases o2 with
   | false =>
    conv => whnf
    refine ⟨[2001, 2002, 0, 1, 2, 3, 4, 5], by kernel_rfl, ?_⟩
    conv => whnf
    refine ⟨rfl, ?_⟩
    conv => whnf
    refine ⟨rfl, ?_⟩
    conv => whnf
    refine ⟨[], ?_⟩
    conv => whnf
    refine ⟨by rw [rows_len ciL_len], by rw [rows_len tAtom_len], ?_⟩
    exact ⟨s, a, b2, cz, by show V.tup [roV (vSchema s), roV (vQuery a), roV (wQuery b2)] = _; rw [ints_roV, vQ_ro, wQuery_ro], (by omega), has, hb2s, gz, rfl⟩
   | true =>
    conv => whnf
    refine ⟨[2001, 2002, 0, 1, 2, 3, 4, 5], by kernel_rfl, ?_⟩
    conv => whnf
    refine ⟨rfl, ?_⟩
    conv => whnf
    refine ⟨rfl, ?_⟩
    conv => whnf
    refine ⟨[], ?_⟩
    conv => whnf
    refine ⟨by rw [rows_len ciL_len], by rw [rows_len tAtom_len], ?_⟩
    exact ⟨s, b2, a, cz, by show V.tup [roV (vSchema s), roV (wQuery b2), roV (vQuery a)] = _; rw [ints_roV, wQuery_ro, vQ_ro], (by omega), hb2s, has, gz, rfl⟩
  | false =>
   conv => whnf
   generalize (v == 1) = b1
   cases b1 with
   | true =>
    conv => whnf
    refine .inr (.inr ⟨[0], [], ?_⟩)
    conv => whnf
    refine ⟨_, l3Any_g cy gy, fun r g2 hP => ?_⟩
    obtain ⟨s2, cx, rfl, hs2, gx, rfl⟩ := hP
    refine .inl ?_
    rw [wSchema_ro]
    conv => whnf
    refine .inr (.inl ?_)
    conv => whnf
    refine ⟨curC_ne cx, ?_⟩
    conv => whnf
    refine ⟨_, _, _, l1Once_spec cx 2 gx (by omega), ?_⟩
    conv => whnf
    refine .inl ?_
    have gz := belowP_good gx 2
    generalize (belowP cx 2).2 = cz at gz ⊢
    generalize ((belowP cx 2).1 == 0) = o2
    cases o2 with
    | false =>
     conv => whnf
     refine ⟨[2001, 2002, 0, 1, 2, 3, 4, 5], by kernel_rfl, ?_⟩
     conv => whnf
     refine ⟨rfl, ?_⟩
     conv => whnf
     refine ⟨rfl, ?_⟩
     conv => whnf
     refine ⟨[], ?_⟩
     conv => whnf
     refine ⟨by rw [rows_len ciL_len], by rw [rows_len tAtom_len], ?_⟩
     exact ⟨s2, a, b', cz, by show V.tup [roV (vSchema s2), roV (vQuery a), roV (wQuery b')] = _; rw [ints_roV, vQ_ro, wQuery_ro], hs2, has, hbs, gz, rfl⟩
    | true =>
     conv => whnf
     refine ⟨[2001, 2002, 0, 1, 2, 3, 4, 5], by kernel_rfl, ?_⟩
     conv => whnf
     refine ⟨rfl, ?_⟩
     conv => whnf
     refine ⟨rfl, ?_⟩
     conv => whnf
     refine ⟨[], ?_⟩
     conv => whnf
     refine ⟨by rw [rows_len ciL_len], by rw [rows_len tAtom_len], ?_⟩
     exact ⟨s2, b', a, cz, by show V.tup [roV (vSchema s2), roV (wQuery b'), roV (vQuery a)] = _; rw [ints_roV, wQuery_ro, vQ_ro], hs2, hbs, has, gz, rfl⟩
   | false =>
    conv => whnf
    refine .inr (.inl ?_)
    conv => whnf
    refine ⟨curC_ne cy, ?_⟩
    conv => whnf
    refine ⟨_, _, _, l1Once_spec cy 2 gy (by omega), ?_⟩
    conv => whnf
    refine .inl ?_
    have gz := belowP_good gy 2
    generalize (belowP cy 2).2 = cz at gz ⊢
    generalize ((belowP cy 2).1 == 0) = o2
    cases o2 with
    | false =>
     conv => whnf
     refine ⟨[2001, 2002, 0, 1, 2, 3, 4, 5], by kernel_rfl, ?_⟩
     conv => whnf
     refine ⟨rfl, ?_⟩
     conv => whnf
     refine ⟨rfl, ?_⟩
     conv => whnf
     refine ⟨[], ?_⟩
     conv => whnf
     refine ⟨by rw [rows_len ciL_len], by rw [rows_len tAtom_len], ?_⟩
     exact ⟨s, a, b', cz, by show V.tup [roV (vSchema s), roV (vQuery a), roV (wQuery b')] = _; rw [ints_roV, vQ_ro, wQuery_ro], (by omega), has, hbs, gz, rfl⟩
    | true =>
     conv => whnf
     refine ⟨[2001, 2002, 0, 1, 2, 3, 4, 5], by kernel_rfl, ?_⟩
     conv => whnf
     refine ⟨rfl, ?_⟩
     conv => whnf
     refine ⟨rfl, ?_⟩
     conv => whnf
     refine ⟨[], ?_⟩
     conv => whnf
     refine ⟨by rw [rows_len ciL_len], by rw [rows_len tAtom_len], ?_⟩
     exact ⟨s, b', a, cz, by show V.tup [roV (vSchema s), roV (wQuery b'), roV (vQuery a)] = _; rw [ints_roV, wQuery_ro, vQ_ro], (by omega), hbs, has, gz, rfl⟩
 | false =>
  have hbs := qSm_size hb
  have hbs1 : cQuery (b.1, b.2) + 1 ≤ 1048576 := qSm_size1 hb
  have hbl := hb.1
  conv => whnf
  refine .inr (.inl ?_)
  conv => whnf
  refine ⟨curC_ne c4, ?_⟩
  conv => whnf
  refine ⟨_, _, _, l1Below_spec c4 16 h4 (by omega), ?_⟩
  conv => whnf
  refine .inl ?_
  have gy := belowP_good h4 16
  generalize (belowP c4 16).2 = cy at gy ⊢
  generalize (belowP c4 16).1 = v
  conv => whnf
  generalize (v == 0) = b0
  cases b0 with
  | true =>
   conv => whnf
   refine ⟨[1001, 0, 1, 2, 3, 4, 5, 6, 7, 1000, 1000], by kernel_rfl, ?_⟩
   conv => whnf
   refine .inr (.inr ⟨[0], fun k => noSubT_lk (by kernel_rfl) k, rfl, ?_⟩)
   conv => whnf
   refine ⟨_, l2Any_g cy gy, fun r g2 hP => ?_⟩
   obtain ⟨tt, cx, rfl, gx, rfl⟩ := hP
   refine .inl ?_
   conv => whnf
   refine ⟨_, rfl, .inl ⟨flat1 rfl, ?_⟩⟩
   conv => whnf
   refine ⟨by omega, by rw [rows_len ciL_len], _, snoc_ci _ _, ?_⟩
   conv => whnf
   obtain ⟨b2, hb2⟩ : ∃ b2 : QueryW, b2 = (b.1 ++ [tt], b.2) := ⟨_, rfl⟩
   have hb2s : cQuery b2 ≤ 1048576 := by rw [hb2, app_size]; exact hbs1
   have e1 : rows ciL (b.1 ++ [tt]) = rows ciL b2.1 := by rw [hb2]
   have e2 : rows tAtom b.2 = rows tAtom b2.2 := by rw [hb2]
   have e3 : b.1.length + 1 = b2.1.length := by rw [hb2]; simp
   have e4 : b.2.length = b2.2.length := by rw [hb2]
   rw [e1, e2, e3, e4]
   clear e1 e2 e3 e4 hb2
   refine .inr (.inl ?_)
   conv => whnf
   refine ⟨curC_ne cx, ?_⟩
   conv => whnf
   refine ⟨_, _, _, l1Once_spec cx 2 gx (by omega), ?_⟩
   conv => whnf
   refine .inl ?_
   have gz := belowP_good gx 2
   generalize (belowP cx 2).2 = cz at gz ⊢
   generalize ((belowP cx 2).1 == 0) = o2
   cases o2 with
   | false =>
    conv => whnf
    refine ⟨[2001, 2002, 0, 1, 2, 3, 4, 5], by kernel_rfl, ?_⟩
    conv => whnf
    refine ⟨rfl, ?_⟩
    conv => whnf
    refine ⟨rfl, ?_⟩
    conv => whnf
    refine ⟨[], ?_⟩
    conv => whnf
    refine ⟨by rw [rows_len ciL_len], by rw [rows_len tAtom_len], ?_⟩
    exact ⟨s, a, b2, cz, by show V.tup [roV (vSchema s), roV (vQuery a), roV (wQuery b2)] = _; rw [ints_roV, vQ_ro, wQuery_ro], (by omega), has, hb2s, gz, rfl⟩
   | true =>
    conv => whnf
    refine ⟨[2001, 2002, 0, 1, 2, 3, 4, 5], by kernel_rfl, ?_⟩
    conv => whnf
    refine ⟨rfl, ?_⟩
    conv => whnf
    refine ⟨rfl, ?_⟩
    conv => whnf
    refine ⟨[], ?_⟩
    conv => whnf
    refine ⟨by rw [rows_len ciL_len], by rw [rows_len tAtom_len], ?_⟩
    exact ⟨s, b2, a, cz, by show V.tup [roV (vSchema s), roV (wQuery b2), roV (vQuery a)] = _; rw [ints_roV, wQuery_ro, vQ_ro], (by omega), hb2s, has, gz, rfl⟩
  | false =>
   conv => whnf
   generalize (v == 1) = b1
   cases b1 with
   | true =>
    conv => whnf
    refine .inr (.inr ⟨[0], [], ?_⟩)
    conv => whnf
    refine ⟨_, l3Any_g cy gy, fun r g2 hP => ?_⟩
    obtain ⟨s2, cx, rfl, hs2, gx, rfl⟩ := hP
    refine .inl ?_
    rw [wSchema_ro]
    conv => whnf
    refine .inr (.inl ?_)
    conv => whnf
    refine ⟨curC_ne cx, ?_⟩
    conv => whnf
    refine ⟨_, _, _, l1Once_spec cx 2 gx (by omega), ?_⟩
    conv => whnf
    refine .inl ?_
    have gz := belowP_good gx 2
    generalize (belowP cx 2).2 = cz at gz ⊢
    generalize ((belowP cx 2).1 == 0) = o2
    cases o2 with
    | false =>
     conv => whnf
     refine ⟨[2001, 2002, 0, 1, 2, 3, 4, 5], by kernel_rfl, ?_⟩
     conv => whnf
     refine ⟨rfl, ?_⟩
     conv => whnf
     refine ⟨rfl, ?_⟩
     conv => whnf
     refine ⟨[], ?_⟩
     conv => whnf
     refine ⟨by rw [rows_len ciL_len], by rw [rows_len tAtom_len], ?_⟩
     exact ⟨s2, a, b, cz, by show V.tup [roV (vSchema s2), roV (vQuery a), roV (wQuery b)] = _; rw [ints_roV, vQ_ro, wQuery_ro], hs2, has, hbs, gz, rfl⟩
    | true =>
     conv => whnf
     refine ⟨[2001, 2002, 0, 1, 2, 3, 4, 5], by kernel_rfl, ?_⟩
     conv => whnf
     refine ⟨rfl, ?_⟩
     conv => whnf
     refine ⟨rfl, ?_⟩
     conv => whnf
     refine ⟨[], ?_⟩
     conv => whnf
     refine ⟨by rw [rows_len ciL_len], by rw [rows_len tAtom_len], ?_⟩
     exact ⟨s2, b, a, cz, by show V.tup [roV (vSchema s2), roV (wQuery b), roV (vQuery a)] = _; rw [ints_roV, wQuery_ro, vQ_ro], hs2, hbs, has, gz, rfl⟩
   | false =>
    conv => whnf
    refine .inr (.inl ?_)
    conv => whnf
    refine ⟨curC_ne cy, ?_⟩
    conv => whnf
    refine ⟨_, _, _, l1Once_spec cy 2 gy (by omega), ?_⟩
    conv => whnf
    refine .inl ?_
    have gz := belowP_good gy 2
    generalize (belowP cy 2).2 = cz at gz ⊢
    generalize ((belowP cy 2).1 == 0) = o2
    cases o2 with
    | false =>
     conv => whnf
     refine ⟨[2001, 2002, 0, 1, 2, 3, 4, 5], by kernel_rfl, ?_⟩
     conv => whnf
     refine ⟨rfl, ?_⟩
     conv => whnf
     refine ⟨rfl, ?_⟩
     conv => whnf
     refine ⟨[], ?_⟩
     conv => whnf
     refine ⟨by rw [rows_len ciL_len], by rw [rows_len tAtom_len], ?_⟩
     exact ⟨s, a, b, cz, by show V.tup [roV (vSchema s), roV (vQuery a), roV (wQuery b)] = _; rw [ints_roV, vQ_ro, wQuery_ro], (by omega), has, hbs, gz, rfl⟩
    | true =>
     conv => whnf
     refine ⟨[2001, 2002, 0, 1, 2, 3, 4, 5], by kernel_rfl, ?_⟩
     conv => whnf
     refine ⟨rfl, ?_⟩
     conv => whnf
     refine ⟨rfl, ?_⟩
     conv => whnf
     refine ⟨[], ?_⟩
     conv => whnf
     refine ⟨by rw [rows_len ciL_len], by rw [rows_len tAtom_len], ?_⟩
     exact ⟨s, b, a, cz, by show V.tup [roV (vSchema s), roV (wQuery b), roV (vQuery a)] = _; rw [ints_roV, wQuery_ro, vQ_ro], (by omega), hbs, has, gz, rfl⟩
end Go.Proofs.YtcjdfeafcmfgpaaGreatD
