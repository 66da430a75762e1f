/- What the law FnTerms draws. -/
import Derived.Test.YthfjngmbdbocbaaFDraw6
set_option linter.unusedVariables false
set_option linter.unusedSimpArgs false
set_option maxRecDepth 100000
namespace Go.Proofs.YthfjngmbdbocbaaD
open Go Go.Proofs

set_option maxHeartbeats 4000000 in
theorem l4Any_g (c : Cur) (h : goodC c) : SpecG Try.prog 92 [.ptr 0 0] (gC c) fun r g2 => ∃ (s : List Int) (q : QueryW) (c' : Cur), r = .tup [vSchema s, wQuery q] ∧ s.length ≤ 8 ∧ qSm q ∧ goodC c' ∧ g2 = gC c' := by
  unfold gC
  refine SpecG_of mx Γ_ok 1 Try.func92 rfl rfl (by decide) ?_
  conv => whnf
  refine .inr (.inl ?_)
  conv => whnf
  refine ⟨curC_ne c, ?_⟩
  conv => whnf
  refine ⟨_, _, _, l3Schema_spec c h, ?_⟩
  conv => whnf
  refine .inl ?_
  rw [wSchema_ro]
  conv => whnf
  obtain ⟨h1, s1, s2, s3⟩ := schP_ok h
  have hs : sOk (schP c).1 := ⟨s1, s2, by omega⟩
  generalize (schP c).2 = c1 at h1 ⊢
  generalize (schP c).1 = s at hs s3 ⊢
  refine .inr (.inr ⟨[0], [], ?_⟩)
  conv => whnf
  refine ⟨_, l4Query_g s c1 hs h1, fun r g2 hP => ?_⟩
  obtain ⟨q, c2, rfl, q1, q2, q3, h2, rfl⟩ := hP
  refine .inr ?_
  conv => whnf
  refine .inr (.inl ?_)
  conv => whnf
  refine ⟨curC_ne c2, ?_⟩
  conv => whnf
  refine ⟨_, _, _, l1Below_spec c2 12 h2 (by omega), ?_⟩
  conv => whnf
  refine .inl ?_
  conv => whnf
  have h3 := belowP_good h2 12
  generalize (belowP c2 12).2 = c3 at h3 ⊢
  generalize (belowP c2 12).1 = v
  have hret : ∀ (s : List Int) (q : QueryW), s.length ≤ 8 → qSm q → True := fun _ _ _ _ => trivial
  have hqs : qSm q := ⟨by omega, by omega, fun a ha => by have := q3 a ha; omega⟩
  generalize (v == 0) = b0
  cases b0 with
  | true =>
    conv => whnf
    refine ⟨[1001, 0, 1, 2, 3, 4, 5, 6, 7, 1000, 1000], by kernel_rfl, ?_⟩
    conv => whnf
    refine .inr (.inr ⟨[0], fun k => noSubT_lk (by kernel_rfl) k, rfl, ?_⟩)
    conv => whnf
    refine ⟨_, l2Any_g c3 h3, fun r g2 hP => ?_⟩
    obtain ⟨t, c4, rfl, h4, rfl⟩ := hP
    refine .inl ?_
    conv => whnf
    refine ⟨_, rfl, .inl ⟨flat1 rfl, ?_⟩⟩
    conv => whnf
    refine ⟨by omega, by rw [rows_len ciL_len], _, snoc_ci _ _, ?_⟩
    conv => whnf
    refine ⟨[2001, 0, 1, 2, 3], by kernel_rfl, ?_⟩
    conv => whnf
    refine ⟨rfl, ?_⟩
    conv => whnf
    refine ⟨[], ?_⟩
    conv => whnf
    refine ⟨by rw [rows_len ciL_len, List.length_append]; rfl, by rw [rows_len tAtom_len], ?_⟩
    refine ⟨s, (q.1 ++ [t], q.2), c4, ?_, by omega, ⟨by simp; omega, hqs.2.1, hqs.2.2⟩, h4, rfl⟩
    show _ = V.tup [_, .agg [.tr 1 (q.1 ++ [t]).length _, _]]
    rw [List.length_append]
    rfl
  | false =>
    conv => whnf
    generalize (v == 1) = b1
    cases b1 with
    | true =>
      conv => whnf
      refine ⟨[1001, 0, 1, 2, 3, 4, 5, 6, 7, 1000, 1000], by kernel_rfl, ?_⟩
      conv => whnf
      refine .inr (.inr ⟨[0], fun k => noSubT_lk (by kernel_rfl) k, rfl, ?_⟩)
      conv => whnf
      refine ⟨_, l3AnyAtom_g c3 h3, fun r g2 hP => ?_⟩
      obtain ⟨a, c4, rfl, ha, h4, rfl⟩ := hP
      refine .inr ?_
      conv => whnf
      refine ⟨by rw [rows_len ciL_len], ?_⟩
      conv => whnf
      refine ⟨_, rfl, .inr ⟨solid_tAtomD a, ?_⟩⟩
      conv => whnf
      refine ⟨by omega, by rw [rows_len tAtom_len], _, snoc_rowsD tAtom _ a, ?_⟩
      conv => whnf
      refine ⟨[2001, 0, 1, 2, 3], by kernel_rfl, ?_⟩
      conv => whnf
      refine ⟨rfl, ?_⟩
      conv => whnf
      refine ⟨[], ?_⟩
      conv => whnf
      refine ⟨by rw [rows_len ciL_len], by rw [rows_len tAtom_len, List.length_append]; rfl, ?_⟩
      refine ⟨s, (q.1, q.2 ++ [a]), c4, ?_, by omega, ⟨hqs.1, by simp; omega, fun x hx => ?_⟩, h4, rfl⟩
      · show _ = V.tup [_, .agg [_, .tr 2 (q.2 ++ [a]).length _]]
        rw [List.length_append]
        rfl
      · rcases List.mem_append.1 hx with hx | hx
        · exact hqs.2.2 x hx
        · rw [List.mem_singleton.1 hx]; omega
    | false =>
      conv => whnf
      generalize (v == 2) = b2
      cases b2 with
      | true =>
        conv => whnf
        refine ⟨[2001, 0, 1, 2, 3], by kernel_rfl, ?_⟩
        conv => whnf
        refine ⟨rfl, ?_⟩
        conv => whnf
        refine ⟨[], ?_⟩
        conv => whnf
        refine ⟨by rw [rows_len ciL_len], rfl, ?_⟩
        exact ⟨s, (q.1, []), c3, rfl, by omega, ⟨hqs.1, by simp, fun x hx => by cases hx⟩, h3, rfl⟩
      | false =>
        conv => whnf
        generalize (v == 3) = b3
        cases b3 with
        | true =>
          conv => whnf
          refine .inr (.inr ⟨[0], [], ?_⟩)
          conv => whnf
          refine ⟨_, l3Any_g c3 h3, fun r g2 hP => ?_⟩
          obtain ⟨s', c4, rfl, hs', h4, rfl⟩ := hP
          refine .inl ?_
          rw [wSchema_ro]
          conv => whnf
          refine ⟨[2001, 0, 1, 2, 3], by kernel_rfl, ?_⟩
          conv => whnf
          refine ⟨rfl, ?_⟩
          conv => whnf
          refine ⟨[], ?_⟩
          conv => whnf
          refine ⟨by rw [rows_len ciL_len], by rw [rows_len tAtom_len], ?_⟩
          exact ⟨s', q, c4, rfl, hs', hqs, h4, rfl⟩
        | false =>
          conv => whnf
          refine ⟨[2001, 0, 1, 2, 3], by kernel_rfl, ?_⟩
          conv => whnf
          refine ⟨rfl, ?_⟩
          conv => whnf
          refine ⟨[], ?_⟩
          conv => whnf
          refine ⟨by rw [rows_len ciL_len], by rw [rows_len tAtom_len], ?_⟩
          exact ⟨s, q, c3, rfl, by omega, hqs, h3, rfl⟩
end Go.Proofs.YthfjngmbdbocbaaD
