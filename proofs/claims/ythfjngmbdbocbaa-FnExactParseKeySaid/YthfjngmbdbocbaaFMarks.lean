/- Lists of numbers: how the laws write into them and look at what is written. -/
import Derived.Test.YthfjngmbdbocbaaFInts
set_option linter.unusedVariables false
set_option linter.unusedSimpArgs false
namespace Go.Proofs.YthfjngmbdbocbaaD
open Go Go.Proofs

def mkI : Nat → Int → List Int
  | 0, _ => []
  | n + 1, k => k :: mkI n (k + 1)
theorem mkI_len : ∀ (n : Nat) (k : Int), (mkI n k).length = n
  | 0, _ => rfl
  | n + 1, k => by simp [mkI, mkI_len n]
theorem mkI_get : ∀ (n : Nat) (k : Int) (j : Nat), j < n → (mkI n k)[j]? = some (k + j)
  | n + 1, k, 0, _ => by simp [mkI]
  | n + 1, k, j + 1, h => by
    simp only [mkI, List.getElem?_cons_succ]
    rw [mkI_get n (k + 1) j (by omega)]
    congr 1
    omega
theorem markIntS_spec (xs : List Int) (k : Int) (hl : xs.length ≤ 1099511627776) (h1 : 0 ≤ k) (h2 : k ≤ 4398046511104) : SpecR Try.prog 85 [intsT xs, ci k] (ci (k + xs.length)) [intsT (mkI xs.length k), ci k] := by
  refine SpecL_of mx Γ_ok 2 Try.func85 rfl rfl (by omega) ?_
  conv => whnf
  refine ⟨[(0,0),(1,0),(4,0),(5,0)], fun m s => ∃ (i : Nat) (e f : Int) (ys : List Int) (r : List V), e = i ∧ f = k + i ∧ m + i = xs.length ∧ ys.length = xs.length ∧ (∀ j, j < i → ys[j]? = some (k + j)) ∧ r = rows ciL ys ∧
    s = ⟨19, [(0, .own 0 1 0 xs.length xs.length none), (1, ci f), (4, ci 0), (5, ci e)], [some ⟨false, r⟩, none]⟩, xs.length, ⟨0, 0, k, xs, _, rfl, by simp, rfl, rfl, by simp, rfl, rfl⟩, ?_⟩
  rintro m s ⟨i, _, _, ys, _, rfl, rfl, hm, hy, hj, rfl, rfl⟩
  conv => whnf
  split <;> rename_i h3
  all_goals simp only [decide_eq_true_eq, decide_eq_false_iff_not] at h3
  · conv => whnf
    have hi : i < xs.length := by omega
    refine ⟨by omega, ?_⟩
    conv => whnf
    refine ⟨_, takeN_own (k := i) (d := 0) (xs := ys) ciL_len (Nat.zero_add _) (by omega) (Nat.le_refl _) rfl, _, rfl, ?_⟩
    conv => whnf
    refine ⟨m - 1, by omega, i + 1, _, _, ys.set i (k + i), _, wrap_id (by omega) (by omega), ?_, by omega, by simp [hy], fun j hjj => ?_, ?_, rfl⟩
    · rw [wrap_id (by omega) (by omega)]
      omega
    · rw [List.getElem?_set]
      by_cases h4 : i = j
      · subst h4
        rw [if_pos rfl, if_pos (by omega)]
      · rw [if_neg h4]
        exact hj j (by omega)
    · exact (congrArg (fun o => setC (rows ciL ys) o (ciL (k + i))) (Nat.zero_add _)).trans (setC_rows ciL_len (by omega) (by omega) _)
  · conv => whnf
    have hii : i = xs.length := by omega
    subst hii
    refine ⟨rfl, by rw [rows_len ciL_len, hy], ?_⟩
    have : ys = mkI xs.length k := by
      apply List.ext_getElem?
      intro j
      rcases Nat.lt_or_ge j xs.length with h4 | h4
      · rw [hj j h4, mkI_get _ _ _ h4]
      · rw [List.getElem?_eq_none (by omega), List.getElem?_eq_none (by rw [mkI_len]; exact h4)]
    rw [this]
    unfold intsT
    rw [mkI_len]
    rfl
theorem heldIntS_spec (n : Nat) (k : Int) (hl : n ≤ 1099511627776) (h1 : 0 ≤ k) (h2 : k ≤ 4398046511104) : Spec Try.prog 86 [ints (mkI n k), ci k] (ci (k + n)) := by
  refine Spec_of mx Γ_ok Try.func86 rfl ?_
  conv => whnf
  have hn := mkI_len n k
  refine ⟨[(0,0),(1,0),(4,0),(5,0)], fun m s => ∃ (i : Nat) (e f : Int), e = i ∧ f = k + i ∧ m + i = n ∧
    s = ⟨21, [(0, ints (mkI n k)), (1, ci f), (4, ci 0), (5, ci e)], []⟩, n, ⟨0, 0, k, rfl, by simp, rfl, rfl⟩, ?_⟩
  rintro m s ⟨i, _, _, rfl, rfl, hm, rfl⟩
  conv => whnf
  rw [hn]
  split <;> rename_i h3
  all_goals simp only [decide_eq_true_eq, decide_eq_false_iff_not] at h3
  · conv => whnf
    have hi : i < (mkI n k).length := by omega
    refine ⟨by omega, rows_len ciL_len _, ?_⟩
    conv => whnf
    refine ⟨_, takeN_rp (k := i) ciL_len hi, ?_⟩
    conv => whnf
    have hg : (mkI n k)[i] = k + i := by
      have := mkI_get n k i (by omega)
      rw [List.getElem?_eq_getElem hi] at this
      exact Option.some.inj this
    rw [hg, bne_self_eq_false]
    conv => whnf
    refine ⟨m - 1, by omega, i + 1, _, _, wrap_id (by omega) (by omega), ?_, by omega, rfl⟩
    rw [wrap_id (by omega) (by omega)]
    omega
  · conv => whnf
    show ci (k + i) = _
    have hii : i = n := by omega
    rw [hii]
end Go.Proofs.YthfjngmbdbocbaaD
