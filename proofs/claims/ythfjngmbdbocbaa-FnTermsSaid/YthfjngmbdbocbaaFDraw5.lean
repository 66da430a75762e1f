/- Drawn atoms, schemas, queries. -/
import Derived.Test.YthfjngmbdbocbaaFDraw4
set_option linter.unusedVariables false
set_option linter.unusedSimpArgs false
set_option maxRecDepth 100000
namespace Go.Proofs.YthfjngmbdbocbaaD
open Go Go.Proofs

set_option maxHeartbeats 2000000 in
theorem l3AnyAtom_g (c : Cur) (h : goodC c) : SpecG Try.prog 97 [.ptr 0 0] (gC c) fun r g2 => ∃ (a : AtomD) (c' : Cur), r = wAtom a ∧ a.2.length ≤ 4 ∧ goodC c' ∧ g2 = gC c' := by
  unfold gC
  refine SpecG_of mx Γ_ok 1 Try.func97 rfl rfl (by decide) ?_
  conv => whnf
  refine .inr (.inl ?_)
  conv => whnf
  refine ⟨curC_ne c, ?_⟩
  conv => whnf
  refine ⟨_, _, _, l3Schema_spec c h, ?_⟩
  conv => whnf
  refine .inl ?_
  rw [wSchema_ro]
  conv => whnf
  obtain ⟨h1, s1, s2, s3⟩ := schP_ok h
  have hs : sOk (schP c).1 := ⟨s1, s2, by omega⟩
  generalize (schP c).2 = c1 at h1 ⊢
  generalize (schP c).1 = s at hs ⊢
  refine .inr (.inr ⟨[0], [], ?_⟩)
  conv => whnf
  refine ⟨_, l3Atom_g s c1 hs h1, fun r g2 hP => ?_⟩
  obtain ⟨a, c2, rfl, ha, h2, rfl⟩ := hP
  refine .inr ?_
  conv => whnf
  refine .inr (.inl ?_)
  conv => whnf
  refine ⟨curC_ne c2, ?_⟩
  conv => whnf
  refine ⟨_, _, _, l1Below_spec c2 8 h2 (by omega), ?_⟩
  conv => whnf
  refine .inl ?_
  conv => whnf
  have h3 := belowP_good h2 8
  generalize (belowP c2 8).2 = c3 at h3 ⊢
  generalize (belowP c2 8).1 = v
  generalize (v == 0) = b0
  cases b0 with
  | true =>
    conv => whnf
    refine .inr (.inl ?_)
    conv => whnf
    refine ⟨curC_ne c3, ?_⟩
    conv => whnf
    refine ⟨rfl, ?_⟩
    conv => whnf
    refine ⟨_, _, _, l1PickInt_spec c3 [-1, 3, 4] h3 (by decide) (by decide), ?_⟩
    conv => whnf
    refine .inl ?_
    conv => whnf
    refine ⟨[], ?_⟩
    conv => whnf
    refine ⟨by rw [rows_len ciL_len], ?_⟩
    exact ⟨(_, a.2), _, rfl, by show a.2.length ≤ 4; omega, belowP_good h3 3, rfl⟩
  | false =>
    conv => whnf
    generalize (v == 1) = b1
    cases b1 with
    | true =>
      conv => whnf
      refine ⟨[1001, 0, 1, 2, 3, 4, 5, 6, 7, 1000, 1000], by kernel_rfl, ?_⟩
      conv => whnf
      refine .inr (.inr ⟨[0], fun k => noSubT_lk (by kernel_rfl) k, rfl, ?_⟩)
      conv => whnf
      refine ⟨_, l2Any_g c3 h3, fun r g2 hP => ?_⟩
      obtain ⟨t, c4, rfl, h4, rfl⟩ := hP
      refine .inl ?_
      conv => whnf
      refine ⟨_, rfl, .inl ⟨flat1 rfl, ?_⟩⟩
      conv => whnf
      refine ⟨by omega, by rw [rows_len ciL_len], _, snoc_ci _ _, ?_⟩
      conv => whnf
      refine ⟨[], ?_⟩
      conv => whnf
      refine ⟨by rw [rows_len ciL_len, List.length_append]; rfl, ?_⟩
      refine ⟨(a.1, a.2 ++ [t]), c4, ?_, by simp; omega, h4, rfl⟩
      show _ = V.agg [ci a.1, .tr 1 (a.2 ++ [t]).length _]
      rw [List.length_append]
      rfl
    | false =>
      conv => whnf
      refine ⟨[], ?_⟩
      conv => whnf
      refine ⟨by rw [rows_len ciL_len], ?_⟩
      exact ⟨a, c3, rfl, by omega, h3, rfl⟩
set_option maxHeartbeats 2000000 in
theorem l3Any_g (c : Cur) (h : goodC c) : SpecG Try.prog 98 [.ptr 0 0] (gC c) fun r g2 => ∃ (s : List Int) (c' : Cur), r = wSchema s ∧ s.length ≤ 8 ∧ goodC c' ∧ g2 = gC c' := by
  unfold gC
  refine SpecG_of mx Γ_ok 1 Try.func98 rfl rfl (by decide) ?_
  conv => whnf
  refine .inr (.inl ?_)
  conv => whnf
  refine ⟨curC_ne c, ?_⟩
  conv => whnf
  refine ⟨_, _, _, l3Schema_spec c h, ?_⟩
  conv => whnf
  refine .inr ?_
  conv => whnf
  obtain ⟨h1, s1, s2, s3⟩ := schP_ok h
  generalize (schP c).2 = c1 at h1 ⊢
  generalize (schP c).1 = s at s3 ⊢
  refine .inr (.inl ?_)
  conv => whnf
  refine ⟨curC_ne c1, ?_⟩
  conv => whnf
  refine ⟨_, _, _, l1Below_spec c1 10 h1 (by omega), ?_⟩
  conv => whnf
  refine .inl ?_
  conv => whnf
  have h2 := belowP_good h1 10
  generalize (belowP c1 10).2 = c2 at h2 ⊢
  generalize (belowP c1 10).1 = v
  generalize (v == 0) = b0
  cases b0 with
  | true =>
    conv => whnf
    refine ⟨[1001, 0, 1, 2, 3, 4, 5, 6, 7, 8, 1000, 1000], by kernel_rfl, ?_⟩
    conv => whnf
    refine .inr (.inl ?_)
    conv => whnf
    refine ⟨curC_ne c2, ?_⟩
    conv => whnf
    refine ⟨rfl, ?_⟩
    conv => whnf
    refine ⟨fun k => noSubT_lk (by kernel_rfl) k, rfl, _, _, _, l1PickInt_spec c2 [0, 3, 4] h2 (by decide) (by decide), ?_⟩
    conv => whnf
    refine .inl ?_
    conv => whnf
    refine ⟨_, rfl, .inl ⟨flat1 rfl, ?_⟩⟩
    conv => whnf
    refine ⟨by omega, by rw [rows_len ciL_len], _, snoc_ci _ _, ?_⟩
    conv => whnf
    refine ⟨[], ?_⟩
    conv => whnf
    refine ⟨by rw [rows_len ciL_len, List.length_append]; rfl, ?_⟩
    refine ⟨s ++ [([0, 3, 4] : List Int).getD (belowP c2 3).1.toNat 0], (belowP c2 3).2, ?_, by simp; omega, belowP_good h2 3, rfl⟩
    show _ = V.agg [.tr 1 (s ++ [([0, 3, 4] : List Int).getD (belowP c2 3).1.toNat 0]).length _]
    rw [List.length_append]
    rfl
  | false =>
    conv => whnf
    generalize (v == 1) = b1
    cases b1 with
    | true =>
      conv => whnf
      refine ⟨[], ?_⟩
      conv => whnf
      exact .inr ⟨1, [], c2, rfl, by simp, h2, rfl⟩
    | false =>
      conv => whnf
      generalize (v == 2) = b2
      cases b2 with
      | true =>
        conv => whnf
        refine ⟨[], ?_⟩
        conv => whnf
        exact ⟨rfl, [1, 2, 3, 1, 2], c2, rfl, by simp, h2, rfl⟩
      | false =>
        conv => whnf
        refine ⟨[], ?_⟩
        conv => whnf
        refine ⟨by rw [rows_len ciL_len], ?_⟩
        exact ⟨s, c2, rfl, by omega, h2, rfl⟩
end Go.Proofs.YthfjngmbdbocbaaD
