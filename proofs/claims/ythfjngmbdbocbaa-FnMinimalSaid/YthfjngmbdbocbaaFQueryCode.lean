/- QueryCode, twice. -/
import Derived.Test.YthfjngmbdbocbaaFGen
set_option linter.unusedVariables false
set_option linter.unusedSimpArgs false
set_option maxRecDepth 100000
namespace Go.Proofs.YthfjngmbdbocbaaD
open Go Go.Proofs

def codeA (a : Int × List Int) : List Int := a.1 :: a.2
def pQueryCode (q : List Int × List (Int × List Int)) : List Int := ((q.1.length : Int) :: q.1) ++ q.2.flatMap codeA
theorem codeA_len (a : Int × List Int) : (codeA a).length = eAtom a := by simp only [codeA, eAtom, List.length_cons]; omega
theorem small_QueryCode (x0 : List Int × List (Int × List Int)) (h0 : cQuery x0 ≤ 1048576) : (pQueryCode x0).length ≤ 2147483648 := by
  unfold cQuery cAtomS at h0
  have := sumB_le4 eAtom_le x0.2
  simp only [pQueryCode, List.length_append, List.length_cons, flatMap_len codeA_len]
  omega
theorem specQueryCode_gen (x0 : List Int × List (Int × List Int)) (h0 : cQuery x0 ≤ 1048576) : Spec Try.prog 57 [vQuery x0] (intsT (pQueryCode x0)) := by
  have hsm := small_QueryCode x0 h0
  have htot : ∀ k, (((x0.1.length : Int) :: x0.1) ++ (x0.2.take k).flatMap codeA).length ≤ 2147483648 := by
    intro k
    have h1 := flatMap_len codeA_len (x0.2.take k)
    have h2 := sumB_take (f := eAtom) x0.2 k
    have h3 := flatMap_len codeA_len x0.2
    simp only [pQueryCode, List.length_append, List.length_cons] at hsm ⊢
    omega
  unfold cQuery cAtomS at h0
  refine Spec_of mx Γ_ok Try.func57 rfl ?_
  conv => whnf
  refine ⟨rows_len ciL_len _, solid_ci _, ?_⟩
  conv => whnf
  refine ⟨by omega, rfl, _, snoc_ci [] _ ▸ app_ci [(x0.1.length : Int)] x0.1, ?_⟩
  conv => whnf
  refine ⟨[(1,0),(2,0),(3,0),(4,0)], fun m s => ∃ (k : Nat) (e : Int) (n : Nat) (r : List V), e = k ∧ m + k = x0.2.length ∧ n = (((x0.1.length : Int) :: x0.1) ++ (x0.2.take k).flatMap codeA).length ∧ r = rows ciL (((x0.1.length : Int) :: x0.1) ++ (x0.2.take k).flatMap codeA) ∧
    s = ⟨37, [(1, .ptr 0 0), (2, cnil), (3, .own 1 1 0 n n none), (4, ci e)], [some ⟨true, rQuery x0⟩, some ⟨false, r⟩]⟩, x0.2.length, ⟨0, 0, 1 + x0.1.length, _, rfl, rfl, by simp; omega, by simp, rfl⟩, ?_⟩
  rintro m s ⟨k, _, n, _, rfl, hm, hn, rfl, rfl⟩
  conv => whnf
  split <;> rename_i h1
  all_goals simp only [decide_eq_true_eq, decide_eq_false_iff_not] at h1
  · conv => whnf
    have hk : k < x0.2.length := by omega
    have ht1 := htot k
    have ht2 := htot (k + 1)
    rw [flatMap_at hk] at ht2
    simp only [List.length_append, List.length_cons, codeA] at ht1 ht2 hn
    refine ⟨by omega, rows_len rAtom_len _, ?_⟩
    conv => whnf
    refine ⟨_, takeN_rp_field (k := k) (d := 0) (m := 1) (r := [ci x0.2[k].1]) rAtom_len hk (by omega) rfl, ?_⟩
    conv => whnf
    refine ⟨_, rfl, .inl ⟨flat1 rfl, ?_⟩⟩
    conv => whnf
    refine ⟨by omega, by rw [rows_len ciL_len, hn]; simp only [List.length_append, List.length_cons], _, snoc_ci _ _, ?_⟩
    conv => whnf
    refine ⟨by omega, rows_len rAtom_len _, ?_⟩
    conv => whnf
    refine ⟨_, takeN_rp_field (k := k) (d := 1) (m := 1) (r := [ints x0.2[k].2]) rAtom_len hk (by omega) rfl, ?_⟩
    conv => whnf
    refine ⟨rows_len ciL_len _, solid_ci _, ?_⟩
    conv => whnf
    refine ⟨by omega, by rw [rows_len ciL_len, hn]; simp only [List.length_append, List.length_cons, List.length_nil], _, app_ci _ _, ?_⟩
    conv => whnf
    refine ⟨m - 1, by omega, k + 1, _, _, _, wrap_id (by omega) (by omega), by omega, ?_, ?_, rfl⟩
    · rw [flatMap_at hk, hn]
      simp only [List.length_append, List.length_cons, codeA, List.length_nil]
      omega
    · rw [flatMap_at hk]
      simp only [codeA, List.append_assoc, List.cons_append, List.nil_append]
  · conv => whnf
    have hkk : k = x0.2.length := by omega
    have hfin : (x0.2.take k) = x0.2 := by rw [hkk, List.take_length]
    rw [hfin] at hn ⊢
    refine ⟨by rw [rows_len ciL_len, hn], ?_⟩
    subst hn
    rfl
theorem implQueryCode_gen (x0 : List Int × List (Int × List Int)) (h0 : cQuery x0 ≤ 1048576) : Spec Try.prog 56 [vQuery x0] (intsT (pQueryCode x0)) := by
  have hsm := small_QueryCode x0 h0
  have htot : ∀ k, (((x0.1.length : Int) :: x0.1) ++ (x0.2.take k).flatMap codeA).length ≤ 2147483648 := by
    intro k
    have h1 := flatMap_len codeA_len (x0.2.take k)
    have h2 := sumB_take (f := eAtom) x0.2 k
    have h3 := flatMap_len codeA_len x0.2
    simp only [pQueryCode, List.length_append, List.length_cons] at hsm ⊢
    omega
  unfold cQuery cAtomS at h0
  refine Spec_of mx Γ_ok Try.func56 rfl ?_
  conv => whnf
  refine ⟨rows_len ciL_len _, solid_ci _, ?_⟩
  conv => whnf
  refine ⟨by omega, rfl, _, snoc_ci [] _ ▸ app_ci [(x0.1.length : Int)] x0.1, ?_⟩
  conv => whnf
  refine ⟨[(3,0),(14,0),(15,0),(16,0)], fun m s => ∃ (k : Nat) (e : Int) (n : Nat) (r : List V), e = k ∧ m + k = x0.2.length ∧ n = (((x0.1.length : Int) :: x0.1) ++ (x0.2.take k).flatMap codeA).length ∧ r = rows ciL (((x0.1.length : Int) :: x0.1) ++ (x0.2.take k).flatMap codeA) ∧
    s = ⟨30, [(3, .own 0 1 0 n n none), (14, vAtomS x0.2), (15, ci x0.2.length), (16, ci e)], [some ⟨false, r⟩]⟩, x0.2.length, ⟨0, 0, 1 + x0.1.length, _, rfl, rfl, by simp; omega, by simp, rfl⟩, ?_⟩
  rintro m s ⟨k, _, n, _, rfl, hm, hn, rfl, rfl⟩
  conv => whnf
  split <;> rename_i h1
  all_goals simp only [decide_eq_true_eq, decide_eq_false_iff_not] at h1
  · conv => whnf
    have hk : k < x0.2.length := by omega
    have ht1 := htot k
    have ht2 := htot (k + 1)
    rw [flatMap_at hk] at ht2
    simp only [List.length_append, List.length_cons, codeA] at ht1 ht2 hn
    refine ⟨by omega, rows_len rAtom_len _, ?_⟩
    conv => whnf
    refine ⟨_, takeN_rp (k := k) rAtom_len hk, ?_⟩
    conv => whnf
    refine ⟨[0,1,2,5,6,3,4,7,8], by kernel_rfl, ?_⟩
    conv => whnf
    refine ⟨_, rfl, .inl ⟨flat1 rfl, ?_⟩⟩
    conv => whnf
    refine ⟨by omega, by rw [rows_len ciL_len, hn]; simp only [List.length_append, List.length_cons], _, snoc_ci _ _, ?_⟩
    conv => whnf
    refine ⟨rows_len ciL_len _, solid_ci _, ?_⟩
    conv => whnf
    refine ⟨by omega, by rw [rows_len ciL_len, hn]; simp only [List.length_append, List.length_cons, List.length_nil], _, app_ci _ _, ?_⟩
    conv => whnf
    refine ⟨m - 1, by omega, k + 1, _, _, _, wrap_id (by omega) (by omega), by omega, ?_, ?_, rfl⟩
    · rw [flatMap_at hk, hn]
      simp only [List.length_append, List.length_cons, codeA, List.length_nil]
      omega
    · rw [flatMap_at hk]
      simp only [codeA, List.append_assoc, List.cons_append, List.nil_append]
  · conv => whnf
    have hkk : k = x0.2.length := by omega
    have hfin : (x0.2.take k) = x0.2 := by rw [hkk, List.take_length]
    rw [hfin] at hn ⊢
    refine ⟨by rw [rows_len ciL_len, hn], ?_⟩
    subst hn
    rfl
theorem specQueryCode_spec (x0 : List Int × List (Int × List Int)) (h0 : cQuery x0 ≤ 1048576) (q0 : qQuery x0) : Spec Try.prog 57 [vQuery x0] (intsT (pQueryCode x0)) := specQueryCode_gen x0 h0
theorem implQueryCode_spec (x0 : List Int × List (Int × List Int)) (h0 : cQuery x0 ≤ 1048576) (q0 : qQuery x0) : Spec Try.prog 56 [vQuery x0] (intsT (pQueryCode x0)) := implQueryCode_gen x0 h0
end Go.Proofs.YthfjngmbdbocbaaD
