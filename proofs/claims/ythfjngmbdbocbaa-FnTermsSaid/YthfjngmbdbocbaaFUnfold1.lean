/- The variables of a query, twice; RenameQuery, the second program. -/
import Derived.Test.YthfjngmbdbocbaaFChase0
import Derived.Test.YthfjngmbdbocbaaFRename
set_option linter.unusedVariables false
set_option linter.unusedSimpArgs false
set_option maxRecDepth 100000
namespace Go.Proofs.YthfjngmbdbocbaaD
open Go Go.Proofs

def pvar (q : QueryT) (v : Nat) : Bool := occurs q (v : Int) || has q.1 (v : Int)
def varsTo (q : QueryT) (k : Nat) : List Int := ((List.range k).filter (pvar q)).map Int.ofNat
def varsOf (q : QueryT) : List Int := varsTo q 20
theorem varsTo_succ (q : QueryT) (k : Nat) : varsTo q (k + 1) = if pvar q k then varsTo q k ++ [(k : Int)] else varsTo q k := by
  unfold varsTo
  rw [List.range_succ, List.filter_append, List.map_append]
  by_cases h : pvar q k = true
  · simp [h]
  · simp [h]
theorem varsTo_len (q : QueryT) (k : Nat) : (varsTo q k).length ≤ k := by
  unfold varsTo
  rw [List.length_map]
  exact Nat.le_trans (List.length_filter_le _ _) (by simp)
theorem has_varsOf (q : QueryT) (k : Nat) (hk : k < 20) : has (varsOf q) (k : Int) = pvar q k := by
  cases h : pvar q k with
  | true =>
    simp only [has, List.any_eq_true, varsOf, varsTo, List.mem_map, List.mem_filter, List.mem_range]
    exact ⟨k, ⟨k, ⟨hk, h⟩, rfl⟩, by simp [eqV]⟩
  | false =>
    cases h2 : has (varsOf q) (k : Int) with
    | false => rfl
    | true =>
      simp only [has, List.any_eq_true, varsOf, varsTo, List.mem_map, List.mem_filter, List.mem_range] at h2
      obtain ⟨_, ⟨j, ⟨_, hj⟩, rfl⟩, he⟩ := h2
      have : j = k := by
        have h3 : (j : Int) = k := by simpa [eqV] using he
        omega
      subst this
      rw [h] at hj
      cases hj
theorem implVarsOf_spec (q : QueryT) (h : cQuery q ≤ 1048576) : Spec Try.prog 34 [vQuery q] (intsT (varsOf q)) := by
  have h' := h
  unfold cQuery cAtomS at h'
  refine Spec_of mx Γ_ok Try.func34 rfl ?_
  conv => whnf
  refine ⟨[(1,0),(2,0),(3,0),(6,0)], fun m s => ∃ (k : Nat) (e : Int) (n : Nat) (r : List V), e = k ∧ m + k = 20 ∧ n = (varsTo q k).length ∧ r = rows ciL (varsTo q k) ∧
    s = ⟨24, [(1, .ptr 0 0), (2, cnil), (3, .own 1 1 0 n n none), (6, ci e)], [some ⟨true, rQuery q⟩, some ⟨false, r⟩]⟩, 20, ⟨0, 0, 0, _, rfl, rfl, rfl, rfl, rfl⟩, ?_⟩
  rintro m s ⟨k, _, n, _, rfl, hm, rfl, rfl, rfl⟩
  have hvl := varsTo_len q k
  have hnx := varsTo_succ q k
  conv => whnf
  split <;> rename_i h1
  all_goals simp only [decide_eq_true_eq, decide_eq_false_iff_not] at h1
  · conv => whnf
    refine ⟨_, occurs_spec q k h, .inl rfl, .inl ?_⟩
    conv => whnf
    unfold pvar at hnx
    generalize occurs q (k : Int) = b1 at hnx
    cases b1 with
    | true =>
      conv => whnf
      refine ⟨_, rfl, .inl ⟨flat1 rfl, ?_⟩⟩
      conv => whnf
      refine ⟨by omega, rows_len ciL_len _, _, snoc_ci _ _, ?_⟩
      conv => whnf
      rw [Bool.true_or, if_pos rfl] at hnx
      refine ⟨m - 1, by omega, k + 1, _, _, _, wrap_id (by omega) (by omega), by omega, ?_, by rw [hnx], rfl⟩
      rw [hnx, List.length_append]
      rfl
    | false =>
      conv => whnf
      refine ⟨_, slicesContains_spec q.1 k (by omega), .inl rfl, .inl ?_⟩
      conv => whnf
      rw [Bool.false_or] at hnx
      generalize has q.1 (k : Int) = b2 at hnx
      cases b2 with
      | true =>
        conv => whnf
        refine ⟨_, rfl, .inl ⟨flat1 rfl, ?_⟩⟩
        conv => whnf
        refine ⟨by omega, rows_len ciL_len _, _, snoc_ci _ _, ?_⟩
        conv => whnf
        rw [if_pos rfl] at hnx
        refine ⟨m - 1, by omega, k + 1, _, _, _, wrap_id (by omega) (by omega), by omega, ?_, by rw [hnx], rfl⟩
        rw [hnx, List.length_append]
        rfl
      | false =>
        conv => whnf
        rw [if_neg (by simp)] at hnx
        exact ⟨m - 1, by omega, k + 1, _, _, _, wrap_id (by omega) (by omega), by omega, by rw [hnx], by rw [hnx], rfl⟩
  · conv => whnf
    have hkk : k = 20 := by omega
    subst hkk
    refine ⟨by rw [rows_len ciL_len], ?_⟩
    rfl
theorem specVarsOf_spec (q : QueryT) (h : cQuery q ≤ 1048576) : Spec Try.prog 38 [vQuery q] (intsT (varsOf q)) := by
  have h' := h
  unfold cQuery cAtomS at h'
  have hbl : (bodyVars q).length ≤ 1048576 := by
    have h1 := bodyVars_len q (termsL q.2) []
    rw [termsL_len] at h1
    simp only [List.length_nil] at h1
    unfold bodyVars
    omega
  refine Spec_of mx Γ_ok Try.func38 rfl ?_
  conv => whnf
  refine ⟨[(1,0),(2,0),(3,0),(4,0)], fun m s => ∃ (k : Nat) (e : Int) (n : Nat) (r : List V), e = k ∧ m + k = 20 ∧ n = (varsTo q k).length ∧ r = rows ciL (varsTo q k) ∧
    s = ⟨25, [(1, .ptr 0 0), (2, cnil), (3, .own 1 1 0 n n none), (4, ci e)], [some ⟨true, rQuery q⟩, some ⟨false, r⟩]⟩, 20, ⟨0, 0, 0, _, rfl, rfl, rfl, rfl, rfl⟩, ?_⟩
  rintro m s ⟨k, _, n, _, rfl, hm, rfl, rfl, rfl⟩
  have hvl := varsTo_len q k
  have hnx := varsTo_succ q k
  conv => whnf
  split <;> rename_i h1
  all_goals simp only [decide_eq_true_eq, decide_eq_false_iff_not] at h1
  · conv => whnf
    refine ⟨_, bodyVars_spec q h, .inl rfl, .inl ?_⟩
    rw [intsT_ro]
    conv => whnf
    refine ⟨_, l2Has_spec (bodyVars q) k (by omega), .inl rfl, .inl ?_⟩
    conv => whnf
    have hiv : isVar (k : Int) = true := by simp only [isVar, inR, Bool.and_eq_true, decide_eq_true_eq]; omega
    rw [has_bodyVars q _ hiv]
    unfold pvar at hnx
    generalize occurs q (k : Int) = b1 at hnx
    cases b1 with
    | true =>
      conv => whnf
      refine ⟨_, rfl, .inl ⟨flat1 rfl, ?_⟩⟩
      conv => whnf
      refine ⟨by omega, rows_len ciL_len _, _, snoc_ci _ _, ?_⟩
      conv => whnf
      rw [Bool.true_or, if_pos rfl] at hnx
      refine ⟨m - 1, by omega, k + 1, _, _, _, wrap_id (by omega) (by omega), by omega, ?_, by rw [hnx], rfl⟩
      rw [hnx, List.length_append]
      rfl
    | false =>
      conv => whnf
      refine ⟨_, l2Has_spec q.1 k (by omega), .inl rfl, .inl ?_⟩
      conv => whnf
      rw [Bool.false_or] at hnx
      generalize has q.1 (k : Int) = b2 at hnx
      cases b2 with
      | true =>
        conv => whnf
        refine ⟨_, rfl, .inl ⟨flat1 rfl, ?_⟩⟩
        conv => whnf
        refine ⟨by omega, rows_len ciL_len _, _, snoc_ci _ _, ?_⟩
        conv => whnf
        rw [if_pos rfl] at hnx
        refine ⟨m - 1, by omega, k + 1, _, _, _, wrap_id (by omega) (by omega), by omega, ?_, by rw [hnx], rfl⟩
        rw [hnx, List.length_append]
        rfl
      | false =>
        conv => whnf
        rw [if_neg (by simp)] at hnx
        exact ⟨m - 1, by omega, k + 1, _, _, _, wrap_id (by omega) (by omega), by omega, by rw [hnx], by rw [hnx], rfl⟩
  · conv => whnf
    have hkk : k = 20 := by omega
    subst hkk
    refine ⟨by rw [rows_len ciL_len], ?_⟩
    rfl
end Go.Proofs.YthfjngmbdbocbaaD
