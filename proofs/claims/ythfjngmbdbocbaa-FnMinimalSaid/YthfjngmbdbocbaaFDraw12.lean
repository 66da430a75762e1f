/- What the law FnMinimal draws. -/
import Derived.Test.YthfjngmbdbocbaaFDraw10
set_option linter.unusedVariables false
set_option linter.unusedSimpArgs false
set_option maxRecDepth 100000
namespace Go.Proofs.YthfjngmbdbocbaaD
open Go Go.Proofs

def ex9 : Exs := { ex := fun k => Nat.beq k 115, hid := fun _ => false }
theorem drawMinimizeQuery_g (xs : List Int) (h : xs.length ≤ 1099511627776) : SpecG Try.prog 58 [bytesR xs] [] fun r g2 => ∃ (s : List Int) (q : QueryW), r = .tup [vSchema s, wQuery q] ∧ s.length ≤ 8 ∧ qSm q ∧ g2 = [] := by
  refine SpecG_ofE (ex := ex9) mx Γ_ok 0 Try.func58 rfl rfl (by decide) ?_
  conv => whnf
  refine .inr (.inr ⟨[], [], ?_⟩)
  conv => whnf
  refine ⟨_, l9Draw_g xs h, fun r g2 hP => ?_⟩
  obtain ⟨c, s, q, rfl, hs, hq, hc, rfl⟩ := hP
  refine .inr ?_
  conv => whnf
  refine ⟨[2000, 0, 1, 2, 3], by kernel_rfl, ?_⟩
  conv => whnf
  refine ⟨rfl, ?_⟩
  conv => whnf
  refine ⟨[], ?_⟩
  conv => whnf
  refine ⟨by rw [rows_len ciL_len], by rw [rows_len tAtom_len], ?_⟩
  exact ⟨s, q, rfl, hs, hq, rfl⟩
theorem drawIsEquivalent_g (xs : List Int) (h : xs.length ≤ 1099511627776) : SpecG Try.prog 63 [bytesR xs] [] fun r g2 => ∃ (s : List Int) (a b : QueryW), roV r = .tup [vSchema s, vQuery a, vQuery b] ∧ s.length ≤ 8 ∧ cQuery a ≤ 1048576 ∧ cQuery b ≤ 1048576 ∧ g2 = [] := by
  refine SpecG_of mx Γ_ok 0 Try.func63 rfl rfl (by decide) ?_
  conv => whnf
  refine ⟨_, l1New_spec xs h, .inl rfl, .inr ?_⟩
  conv => whnf
  have g0 := good_new h
  generalize newCur xs = c0 at g0 ⊢
  refine .inr (.inr ⟨[3], [], ?_⟩)
  conv => whnf
  refine ⟨_, l7Pair_g c0 g0, fun r g2 hP => ?_⟩
  obtain ⟨s, a, b, c1, hr, hs, ha, hb, g1, rfl⟩ := hP
  refine .inl ?_
  rw [hr]
  conv => whnf
  refine ⟨[2000, 2001, 0, 1, 2, 3, 4, 5], by kernel_rfl, ?_⟩
  conv => whnf
  refine ⟨rfl, ?_⟩
  conv => whnf
  refine ⟨rfl, ?_⟩
  conv => whnf
  refine ⟨[], ?_⟩
  conv => whnf
  exact ⟨s, a, b, by show V.tup [roV (vSchema s), roV (vQuery a), roV (vQuery b)] = _; rw [ints_roV, vQ_ro, vQ_ro], hs, ha, hb, rfl⟩
theorem drawIsRedundant_g (xs : List Int) (h : xs.length ≤ 1099511627776) : SpecG Try.prog 65 [bytesR xs] [] fun r g2 => ∃ (s : List Int) (q : QueryW) (i : Int), r = .tup [vSchema s, wQuery q, ci i] ∧ s.length ≤ 8 ∧ qSm q ∧ g2 = [] := by
  refine SpecG_ofE (ex := ex9) mx Γ_ok 0 Try.func65 rfl rfl (by decide) ?_
  conv => whnf
  refine .inr (.inr ⟨[], [], ?_⟩)
  conv => whnf
  refine ⟨_, l9Draw_g xs h, fun r g2 hP => ?_⟩
  obtain ⟨c, s, q, rfl, hs, hq, hc, rfl⟩ := hP
  refine .inr ?_
  conv => whnf
  refine ⟨[1001, 2000, 2001, 0, 1, 2, 3, 4, 5, 6, 7, 1000, 1000], by kernel_rfl, ?_⟩
  conv => whnf
  refine .inr (.inl ?_)
  conv => whnf
  refine ⟨curC_ne c, ?_⟩
  conv => whnf
  refine ⟨fun k => noSubT_lk (by kernel_rfl) k, rfl, _, _, _, l1Below_spec c 6 hc (by omega), ?_⟩
  conv => whnf
  refine .inl ?_
  conv => whnf
  refine ⟨rfl, ?_⟩
  conv => whnf
  refine ⟨rfl, ?_⟩
  conv => whnf
  refine ⟨[], ?_⟩
  conv => whnf
  refine ⟨by rw [rows_len ciL_len], by rw [rows_len tAtom_len], ?_⟩
  exact ⟨s, q, _, rfl, hs, hq, rfl⟩
noncomputable def rgD2 : Array Oper := regOps Try.f68 2
def exDd : Exs := { ex := fun k => Nat.beq k 115, hid := fun _ => false, cut := fun k => Nat.beq k 2 }
theorem rA_ro3 (x : AtomD) : roVs (rAtom x) = rAtom x := rA_ro2 x
theorem solid_rAtomD (a : AtomD) : ∀ c ∈ rAtom a, flat c = true := by
  intro c hc
  simp only [rAtom, List.mem_cons, List.not_mem_nil, or_false] at hc
  rcases hc with rfl | rfl <;> rfl
set_option maxHeartbeats 4000000 in
theorem drawDedupeAtoms_g (xs : List Int) (h : xs.length ≤ 1099511627776) : SpecG Try.prog 68 [bytesR xs] [] fun r g2 => ∃ (q : QueryW), roV r = vQuery q ∧ cQuery q ≤ 1048576 ∧ g2 = [] := by
  refine SpecG_ofE (ex := exDd) mx Γ_ok 0 Try.func68 rfl rfl (by decide) ?_
  conv => whnf
  refine .inr (.inr ⟨[], [], ?_⟩)
  conv => whnf
  refine ⟨_, l9Draw_g xs h, fun r g2 hP => ?_⟩
  obtain ⟨c, s, q, rfl, hs, hq, hc, rfl⟩ := hP
  have hqs := qSm_size hq
  refine .inr ?_
  conv => whnf
  refine ⟨[(2,0),(3,0),(5,0)], [4], ⟨35, [(2, .ptr 0 0), (3, .ptr 1 0), (5, .ptr 2 0)], [some ⟨true, [cnil, cnil]⟩, some ⟨false, curC c⟩, some ⟨true, [.own 3 1 0 q.1.length q.1.length none, .own 4 2 0 q.2.length q.2.length none]⟩, some ⟨false, rows ciL q.1⟩, some ⟨false, roVs (rows tAtom q.2)⟩]⟩, rgD2, by kernel_rfl, by kernel_rfl, ?_⟩
  rw [roVs_rows tAtom_ro]
  have fin : V.agg [.ro q.1.length (roVs (rows ciL q.1)), .ro q.2.length (roVs (rows rAtom q.2))] = vQuery q := by
    rw [roVs_ci, roVs_rows rA_ro2]
    rfl
  conv => whnf
  generalize hlen : decide (((q.2.length : Nat) : Int) > 0) = bl
  cases bl with
  | false =>
    conv => whnf
    refine ⟨[], ?_⟩
    conv => whnf
    refine ⟨by rw [rows_len ciL_len], by rw [rows_len rAtom_len], ?_⟩
    exact ⟨q, fin, hqs, rfl⟩
  | true =>
    have hpos := of_decide_eq_true hlen
    conv => whnf
    refine .inr (.inl ?_)
    conv => whnf
    refine ⟨curC_ne c, ?_⟩
    conv => whnf
    refine ⟨_, _, _, l1Once_spec c 2 hc (by omega), ?_⟩
    conv => whnf
    refine .inl ?_
    have h2 := belowP_good hc 2
    generalize (belowP c 2).2 = c2 at h2 ⊢
    generalize ((belowP c 2).1 == 0) = o
    cases o with
    | false =>
      conv => whnf
      refine ⟨[], ?_⟩
      conv => whnf
      refine ⟨by rw [rows_len ciL_len], by rw [rows_len rAtom_len], ?_⟩
      exact ⟨q, fin, hqs, rfl⟩
    | true =>
      have hz2 := hq.2.1
      conv => whnf
      refine ⟨[1001, 0, 1, 2, 3, 4, 5, 6, 7, 8, 9, 10, 11, 12, 13, 14, 1000, 1000], by kernel_rfl, ?_⟩
      conv => whnf
      refine .inr (.inl ?_)
      conv => whnf
      refine ⟨curC_ne c2, ?_⟩
      conv => whnf
      refine ⟨fun k => noSubT_lk (by kernel_rfl) k, rfl, _, _, _, l1Below_spec c2 q.2.length h2 (by omega), ?_⟩
      conv => whnf
      refine .inl ?_
      have hb := belowP_bd c2 (n := q.2.length) (by omega) (by omega)
      generalize (belowP c2 q.2.length).2 = c3
      obtain ⟨k, hk⟩ : ∃ k : Nat, (belowP c2 q.2.length).1 = k := ⟨(belowP c2 q.2.length).1.toNat, by omega⟩
      rw [hk] at hb ⊢
      have hkl : k < q.2.length := by omega
      conv => whnf
      refine ⟨by omega, ?_⟩
      conv => whnf
      refine ⟨_, takeN_own (k := k) (d := 0) (m := 2) (xs := q.2) (r := rAtom q.2[k]) rAtom_len (Nat.zero_add _) hkl (by omega) rfl, ?_⟩
      conv => whnf
      refine ⟨_, rfl, .inl ⟨solid_rAtomD q.2[k], ?_⟩⟩
      conv => whnf
      refine ⟨by omega, by rw [rows_len rAtom_len], _, snoc_rowsD rAtom _ q.2[k], ?_⟩
      conv => whnf
      refine ⟨[], ?_⟩
      conv => whnf
      refine ⟨by rw [rows_len ciL_len], by rw [rows_len rAtom_len, List.length_append]; rfl, ?_⟩
      refine ⟨(q.1, q.2 ++ [q.2[k]]), ?_, ?_, rfl⟩
      · show V.agg [.ro q.1.length (roVs (rows ciL q.1)), .ro (q.2.length + 1) (roVs (rows rAtom (q.2 ++ [q.2[k]])))] = .agg [.ro q.1.length (rows ciL q.1), .ro (q.2 ++ [q.2[k]]).length _]
        rw [roVs_ci, roVs_rows rA_ro2, List.length_append]
        rfl
      · have hz1 := hq.1
        exact sm_cons (by omega) (by simp; omega) (mem_snoc (fun x hx => by have := hq.2.2 x hx; omega) (by have := hq.2.2 _ (List.getElem_mem hkl); omega))
end Go.Proofs.YthfjngmbdbocbaaD
