/- Drawn pairs that are often the same but for names and order. -/
import Derived.Test.YthfjngmbdbocbaaFDraw10
set_option linter.unusedVariables false
set_option linter.unusedSimpArgs false
set_option maxRecDepth 100000
namespace Go.Proofs.YthfjngmbdbocbaaD
open Go Go.Proofs

set_option maxHeartbeats 8000000 in
theorem drawIsIsomorphic_g (xs : List Int) (h : xs.length ≤ 1099511627776) : SpecG Try.prog 50 [bytesR xs] [] fun r g2 => ∃ (s : List Int) (a b : QueryW), roV r = .tup [vSchema s, vQuery a, vQuery b] ∧ s.length ≤ 8 ∧ cQuery a ≤ 1048576 ∧ cQuery b ≤ 1048576 ∧ g2 = [] := by
  refine SpecG_of mx Γ_ok 0 Try.func50 rfl rfl (by decide) ?_
  conv => whnf
  refine ⟨_, l1New_spec xs h, .inl rfl, .inr ?_⟩
  conv => whnf
  have g0 := good_new h
  generalize newCur xs = c0 at g0 ⊢
  refine .inr (.inr ⟨[3], [], ?_⟩)
  conv => whnf
  refine ⟨_, l7Pair_g c0 g0, fun r g2 hP => ?_⟩
  obtain ⟨s, a, b, c1, hr, hs, ha, hb, g1, rfl⟩ := hP
  refine .inl ?_
  rw [hr]
  conv => whnf
  refine ⟨_, specIsQuery_spec s a (by show s.length ≤ _; omega) ha, .inl rfl, .inl ?_⟩
  generalize hq : isQuery s a = q
  cases q with
  | false =>
    conv => whnf
    refine ⟨[2000, 2001, 0, 1, 2, 3, 4, 5], by kernel_rfl, ?_⟩
    conv => whnf
    refine ⟨rfl, ?_⟩
    conv => whnf
    refine ⟨rfl, ?_⟩
    conv => whnf
    refine ⟨[], ?_⟩
    conv => whnf
    exact ⟨s, a, b, by show V.tup [roV (vSchema s), roV (vQuery a), roV (vQuery b)] = _; rw [ints_roV, vQ_ro, vQ_ro], hs, ha, hb, rfl⟩
  | true =>
    conv => whnf
    refine .inr (.inl ?_)
    conv => whnf
    refine ⟨curC_ne c1, ?_⟩
    conv => whnf
    refine ⟨_, _, _, l1Once_spec c1 2 g1 (by omega), ?_⟩
    conv => whnf
    refine .inl ?_
    generalize (belowP c1 2).2 = c2
    generalize ((belowP c1 2).1 == 0) = o
    cases o with
    | false =>
      conv => whnf
      refine ⟨[2000, 2001, 0, 1, 2, 3, 4, 5], by kernel_rfl, ?_⟩
      conv => whnf
      refine ⟨rfl, ?_⟩
      conv => whnf
      refine ⟨rfl, ?_⟩
      conv => whnf
      refine ⟨[], ?_⟩
      conv => whnf
      exact ⟨s, a, b, by show V.tup [roV (vSchema s), roV (vQuery a), roV (vQuery b)] = _; rw [ints_roV, vQ_ro, vQ_ro], hs, ha, hb, rfl⟩
    | true =>
      conv => whnf
      refine .inl ?_
      conv => whnf
      refine ⟨_, _, takeN_all rfl, rfl, ?_⟩
      conv => whnf
      refine ⟨_, renameQuery_spec a [2, 3, 1, 0] ha (by decide), .inr (closed_wQuery _), .inr ?_⟩
      conv => whnf
      have hd : cQuery (renQ [2, 3, 1, 0] a) ≤ 1048576 := by rw [ren_size2]; exact ha
      generalize renQ [2, 3, 1, 0] a = d at hd ⊢
      generalize hlen : decide (((d.2.length : Nat) : Int) > 1) = bl
      cases bl with
      | false =>
        conv => whnf
        refine ⟨[2000, 2001, 0, 1, 2, 3, 4, 5], by kernel_rfl, ?_⟩
        conv => whnf
        refine ⟨rfl, ?_⟩
        conv => whnf
        refine ⟨rfl, ?_⟩
        conv => whnf
        refine ⟨[], ?_⟩
        conv => whnf
        refine ⟨by rw [rows_len ciL_len], by rw [rows_len tAtom_len], ?_⟩
        exact ⟨s, a, d, by show V.tup [roV (vSchema s), roV (vQuery a), roV (wQuery d)] = _; rw [ints_roV, vQ_ro, wQuery_ro], hs, ha, hd, rfl⟩
      | true =>
        obtain ⟨dh, db⟩ := d
        cases db with
        | nil => have := of_decide_eq_true hlen; simp at this
        | cons d0 dr =>
        have hsz : dh.length + ((d0 :: dr).length + sumB cAtom (d0 :: dr)) ≤ 1048576 := hd
        have hzl : (d0 :: dr).length = dr.length + 1 := rfl
        have hzl2 : ((dh, d0 :: dr) : QueryW).2.length = dr.length + 1 := rfl
        conv => whnf
        refine ⟨List.range 11, by kernel_rfl, ?_⟩
        conv => whnf
        refine ⟨⟨by omega, by omega, by omega⟩, ?_⟩
        conv => whnf
        refine ⟨⟨by omega, by omega⟩, ?_⟩
        conv => whnf
        refine ⟨_, rfl, ?_⟩
        conv => whnf
        refine ⟨_, _, _, rfl, ?_⟩
        conv => whnf
        refine ⟨_, rfl, .inr ⟨solid_tAtomD d0, ?_⟩⟩
        conv => whnf
        refine ⟨by omega, ?_, _, snoc_rowsD tAtom dr d0, ?_⟩
        · show (V.sc _ :: V.any :: rows tAtom dr).length = _
          simp only [List.length_cons, rows_len tAtom_len]
          show _ = 1 + 1 + (dr.length + 1 - 1) * 2
          omega
        conv => whnf
        refine ⟨[2000, 2001, 0, 1, 2, 3, 4, 5], by kernel_rfl, ?_⟩
        conv => whnf
        refine ⟨rfl, ?_⟩
        conv => whnf
        refine ⟨rfl, ?_⟩
        conv => whnf
        refine ⟨[], ?_⟩
        conv => whnf
        refine ⟨by rw [rows_len ciL_len], by rw [rows_len tAtom_len]; simp, ?_⟩
        have hd2 : cQuery (dh, dr ++ [d0]) ≤ 1048576 := by
          show dh.length + ((dr ++ [d0]).length + sumB cAtom (dr ++ [d0])) ≤ _
          have e : sumB cAtom (dr ++ [d0]) = sumB cAtom (d0 :: dr) := by
            have : ∀ l : List AtomD, sumB cAtom (l ++ [d0]) = cAtom d0 + sumB cAtom l := by
              intro l
              induction l with
              | nil => rfl
              | cons x l ih => simp only [List.cons_append, sumB, ih]; omega
            rw [this]; rfl
          rw [e, List.length_append]
          simp only [List.length_cons, List.length_nil] at hsz ⊢
          omega
        refine ⟨s, a, (dh, dr ++ [d0]), ?_, hs, ha, hd2, rfl⟩
        have e9 : V.tup [vSchema s, vQuery a, wQuery (dh, dr ++ [d0])] = V.tup [vSchema s, vQuery a, .agg [.tr 1 dh.length (rows ciL dh), .tr 2 ((d0 :: dr).length - Int.toNat 1 + 1) (rows tAtom (dr ++ [d0]))]] := by
          show V.tup [_, _, .agg [_, .tr 2 (dr ++ [d0]).length _]] = _
          rw [List.length_append]
          rfl
        show roV (V.tup [vSchema s, vQuery a, .agg [.tr 1 dh.length (rows ciL dh), .tr 2 ((d0 :: dr).length - Int.toNat 1 + 1) (rows tAtom (dr ++ [d0]))]]) = _
        rw [← e9]
        show V.tup [roV (vSchema s), roV (vQuery a), roV (wQuery _)] = _
        rw [ints_roV, vQ_ro, wQuery_ro]
end Go.Proofs.YthfjngmbdbocbaaD
