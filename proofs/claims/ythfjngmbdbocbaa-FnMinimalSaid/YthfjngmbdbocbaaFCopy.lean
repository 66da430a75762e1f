/- Copies of ints and of atoms. -/
import Derived.Test.YthfjngmbdbocbaaFGen
set_option linter.unusedVariables false
set_option linter.unusedSimpArgs false
set_option maxRecDepth 100000
namespace Go.Proofs.YthfjngmbdbocbaaD
open Go Go.Proofs

abbrev AtomC := Int × List Int
theorem copyInts_spec (xs : List Int) (h : xs.length ≤ 1099511627776) : Spec Try.prog 127 [ints xs] (intsT xs) := by
  refine Spec_of mx Γ_ok Try.func127 rfl ?_
  conv => whnf
  refine ⟨rows_len ciL_len _, solid_ci _, ?_⟩
  conv => whnf
  refine ⟨by omega, rfl, _, app_ci [] xs, ?_⟩
  conv => whnf
  refine ⟨by rw [rows_len ciL_len, List.nil_append, Nat.zero_add]; rfl, ?_⟩
  rw [List.nil_append, Nat.zero_add]
  rfl
theorem solid_tAtom (a : AtomC) : ∀ c ∈ tAtom a, solid c = true := by
  intro c hc
  simp only [tAtom, List.mem_cons, List.not_mem_nil, or_false] at hc
  rcases hc with rfl | rfl <;> rfl
theorem snoc_rows {α : Type} (f : α → List V) (xs : List α) (x : α) : rows f xs ++ f x = rows f (xs ++ [x]) := by
  rw [rows_append]
  congr 1
  simp [rows]
set_option maxHeartbeats 1000000 in
theorem copyAtoms_spec (xs : List AtomC) (h : cAtomS xs ≤ 1099511627776) : Spec Try.prog 128 [vAtomS xs] (wAtomS xs) := by
  unfold cAtomS at h
  refine Spec_of mx Γ_ok Try.func128 rfl ?_
  conv => whnf
  refine ⟨[(2,0),(3,0),(7,0),(8,0),(9,0)], fun m s => ∃ (k : Nat) (e : Int) (n : Nat) (r : List V), e = k ∧ m + k = xs.length ∧ n = k ∧ r = rows tAtom (xs.take k) ∧
    s = ⟨24, [(2, cnil), (3, .own 0 2 0 n n none), (7, vAtomS xs), (8, ci xs.length), (9, ci e)], [some ⟨false, r⟩]⟩, xs.length, ⟨0, 0, 0, _, rfl, rfl, rfl, rfl, rfl⟩, ?_⟩
  rintro m s ⟨k, _, n, _, rfl, hm, rfl, rfl, rfl⟩
  conv => whnf
  split <;> rename_i h1
  all_goals simp only [decide_eq_true_eq, decide_eq_false_iff_not] at h1
  · conv => whnf
    have hk : n < xs.length := by omega
    have hb := sumB_one (f := cAtom) hk
    have hcb : cAtom xs[n] = xs[n].2.length := rfl
    refine ⟨by omega, rows_len rAtom_len xs, ?_⟩
    conv => whnf
    refine ⟨_, takeN_rp (k := n) rAtom_len hk, ?_⟩
    conv => whnf
    refine ⟨List.range 10, by kernel_rfl, ?_⟩
    conv => whnf
    refine ⟨_, copyInts_spec xs[n].2 (by omega), .inl rfl, .inr ?_⟩
    conv => whnf
    refine ⟨by rw [rows_len ciL_len], ?_⟩
    conv => whnf
    refine ⟨_, rfl, .inr ⟨solid_tAtom xs[n], ?_⟩⟩
    conv => whnf
    refine ⟨by omega, by rw [rows_len tAtom_len, List.length_take]; congr 1; omega, _, snoc_rows tAtom _ xs[n], ?_⟩
    conv => whnf
    refine ⟨m - 1, by omega, n + 1, _, _, _, wrap_id (by omega) (by omega), by omega, rfl, ?_, rfl⟩
    rw [List.take_succ_eq_append_getElem hk]
  · conv => whnf
    have hkk : n = xs.length := by omega
    subst hkk
    rw [List.take_length]
    refine ⟨by rw [rows_len tAtom_len], ?_⟩
    rfl
end Go.Proofs.YthfjngmbdbocbaaD
