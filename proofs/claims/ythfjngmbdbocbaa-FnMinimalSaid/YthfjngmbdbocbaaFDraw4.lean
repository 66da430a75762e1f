/- Drawn terms, atoms, queries: contracts that say no more than what sizes they have. -/
import Derived.Test.YthfjngmbdbocbaaFDraw3
import Derived.Test.YthfjngmbdbocbaaFQueryOk2
import Derived.Test.YthfjngmbdbocbaaFRename
set_option linter.unusedVariables false
set_option linter.unusedSimpArgs false
set_option maxRecDepth 100000
namespace Go.Proofs.YthfjngmbdbocbaaD
open Go Go.Proofs

abbrev AtomD := Int × List Int
abbrev QueryW := List Int × List AtomD
def gC (c : Cur) : List (Option Obj) := [some ⟨false, curC c⟩]
theorem l2Term_g (c : Cur) (h : goodC c) : SpecG Try.prog 93 [.ptr 0 0] (gC c) fun r g2 => ∃ (t : Int) (c' : Cur), r = ci t ∧ goodC c' ∧ g2 = gC c' := by
  unfold gC
  refine SpecG_of mx Γ_ok 1 Try.func93 rfl rfl (by decide) ?_
  conv => whnf
  refine .inr (.inl ?_)
  conv => whnf
  refine ⟨curC_ne c, ?_⟩
  conv => whnf
  refine ⟨_, _, _, l1Once_spec c 4 h (by omega), ?_⟩
  conv => whnf
  refine .inl ?_
  conv => whnf
  have h1 := belowP_good h 4
  generalize (belowP c 4).2 = c1 at h1 ⊢
  generalize ((belowP c 4).1 == 0) = b
  cases b with
  | true =>
    conv => whnf
    refine .inr (.inl ?_)
    conv => whnf
    refine ⟨curC_ne c1, ?_⟩
    conv => whnf
    refine ⟨_, _, _, l1Below_spec c1 3 h1 (by omega), ?_⟩
    conv => whnf
    refine .inl ?_
    conv => whnf
    refine ⟨[], ?_⟩
    conv => whnf
    exact ⟨_, _, rfl, belowP_good h1 3, rfl⟩
  | false =>
    conv => whnf
    refine .inr (.inl ?_)
    conv => whnf
    refine ⟨curC_ne c1, ?_⟩
    conv => whnf
    refine ⟨_, _, _, l1Below_spec c1 4 h1 (by omega), ?_⟩
    conv => whnf
    refine .inl ?_
    conv => whnf
    refine ⟨[], ?_⟩
    conv => whnf
    exact ⟨_, _, rfl, belowP_good h1 4, rfl⟩
theorem l2Any_g (c : Cur) (h : goodC c) : SpecG Try.prog 87 [.ptr 0 0] (gC c) fun r g2 => ∃ (t : Int) (c' : Cur), r = ci t ∧ goodC c' ∧ g2 = gC c' := by
  unfold gC
  refine SpecG_of mx Γ_ok 1 Try.func87 rfl rfl (by decide) ?_
  conv => whnf
  refine .inr (.inl ?_)
  conv => whnf
  refine ⟨curC_ne c, ?_⟩
  conv => whnf
  refine ⟨_, _, _, l1Once_spec c 6 h (by omega), ?_⟩
  conv => whnf
  refine .inl ?_
  conv => whnf
  have h1 := belowP_good h 6
  generalize (belowP c 6).2 = c1 at h1 ⊢
  generalize ((belowP c 6).1 == 0) = b
  cases b with
  | true =>
    conv => whnf
    refine .inr (.inl ?_)
    conv => whnf
    refine ⟨curC_ne c1, ?_⟩
    conv => whnf
    refine ⟨rfl, ?_⟩
    conv => whnf
    refine ⟨_, _, _, l1PickInt_spec c1 [19, 20, -80, -81, -1, 99] h1 (by decide) (by decide), ?_⟩
    conv => whnf
    refine .inl ?_
    conv => whnf
    refine ⟨[], ?_⟩
    conv => whnf
    exact ⟨_, _, rfl, belowP_good h1 6, rfl⟩
  | false =>
    conv => whnf
    refine .inr (.inr ⟨[0], [], ?_⟩)
    conv => whnf
    refine ⟨_, l2Term_g c1 h1, fun r g2 hP => ?_⟩
    obtain ⟨t, c2, rfl, h2, rfl⟩ := hP
    refine .inl ?_
    conv => whnf
    refine ⟨[], ?_⟩
    conv => whnf
    exact ⟨_, _, rfl, h2, rfl⟩
set_option maxHeartbeats 2000000 in
theorem l3Atom_g (s : List Int) (c : Cur) (hs : sOk s) (h : goodC c) : SpecG Try.prog 100 [.ptr 0 0, vSchema s] (gC c) fun r g2 => ∃ (a : AtomD) (c' : Cur), r = wAtom a ∧ a.2.length ≤ 3 ∧ goodC c' ∧ g2 = gC c' := by
  unfold gC
  have hsl := hs.2.2
  refine SpecG_of mx Γ_ok 1 Try.func100 rfl rfl (by decide) ?_
  conv => whnf
  refine .inr (.inl ?_)
  conv => whnf
  refine ⟨curC_ne c, ?_⟩
  conv => whnf
  refine ⟨_, _, _, l1Below_spec c s.length h (by omega), ?_⟩
  conv => whnf
  refine .inl ?_
  conv => whnf
  obtain ⟨q, hq, hql⟩ := below_idx hs c
  have hat := sOk_at hs hql
  rw [hq]
  have hc := belowP_good h s.length
  generalize (belowP c s.length).2 = c0 at hc ⊢
  obtain ⟨N, hN⟩ : ∃ N : Nat, s[q] = N := ⟨s[q].toNat, by omega⟩
  have hN3 : N ≤ 3 := by omega
  refine ⟨[(0,0),(3,0),(4,0),(5,201),(6,0)], fun m st => ∃ (i : Nat) (e : Int) (a : List Int) (c1 : Cur) (k : Nat) (cc r : List V), e = i ∧ m + i = N ∧ goodC c1 ∧ k = a.length ∧ a.length = i ∧ cc = curC c1 ∧ r = rows ciL a ∧
    st = ⟨33, [(0, .ptr 0 0), (3, .ptr 1 0), (4, .ptr 2 0), (5, .ptr 3 0), (6, ci e)], [some ⟨false, cc⟩, some ⟨true, [ints s]⟩, some ⟨true, [ci 0, cnil]⟩, some ⟨true, [ci q, .own 4 1 0 k k none]⟩, some ⟨false, r⟩]⟩, N, ⟨0, 0, [], c0, 0, _, _, rfl, by omega, hc, rfl, rfl, rfl, rfl, by kernel_rfl⟩, ?_⟩
  rintro m st ⟨i, _, a, c1, k, _, _, rfl, hm, hc1, hk, hai, rfl, rfl, rfl⟩
  conv => whnf
  refine ⟨by omega, rows_len ciL_len _, ?_⟩
  conv => whnf
  refine ⟨_, takeN_rp (k := q) ciL_len hql, ?_⟩
  rw [hN]
  conv => whnf
  split <;> rename_i h1
  all_goals simp only [decide_eq_true_eq, decide_eq_false_iff_not] at h1
  · conv => whnf
    refine .inr (.inr ⟨[0], [], ?_⟩)
    conv => whnf
    refine ⟨_, l2Term_g c1 hc1, fun r g2 hP => ?_⟩
    obtain ⟨t, c2, rfl, h2, rfl⟩ := hP
    refine .inl ?_
    conv => whnf
    refine ⟨_, rfl, .inl ⟨flat1 rfl, ?_⟩⟩
    conv => whnf
    refine ⟨by omega, by rw [rows_len ciL_len, hk], _, snoc_ci _ _, ?_⟩
    conv => whnf
    exact ⟨m - 1, by omega, i + 1, IntKind.i64.wrap ((i : Int) + 1), a ++ [t], c2, k + 1, curC c2, rows ciL (a ++ [t]), wrap_id (by omega) (by omega), by omega, h2, by simp [hk], by simp [hai], rfl, rfl, by kernel_rfl⟩
  · conv => whnf
    refine ⟨[], ?_⟩
    conv => whnf
    subst hk
    refine ⟨by rw [rows_len ciL_len], ?_⟩
    exact ⟨((q : Int), a), c1, rfl, by show a.length ≤ 3; omega, hc1, rfl⟩
end Go.Proofs.YthfjngmbdbocbaaD
