/- Lists of numbers: how the laws copy, compare and count them. -/
import Derived.Test.YthfjngmbdbocbaaTab
import Derived.Test.YthfjngmbdbocbaaD22
set_option linter.unusedVariables false
set_option linter.unusedSimpArgs false
namespace Go.Proofs.YthfjngmbdbocbaaD
open Go Go.Proofs

theorem repl_rows {α : Type} {f : α → List V} {d : α} {z : List V} (h : f d = z) : ∀ n : Nat, repl n z = rows f (List.replicate n d)
  | 0 => rfl
  | n + 1 => by simp only [repl, List.replicate_succ, rows, h, repl_rows h n]
theorem list_eq {xs ys : List Int} (hl : ys.length = xs.length) (h : ∀ j, j < xs.length → ys[j]? = xs[j]?) : ys = xs := by
  apply List.ext_getElem?
  intro j
  rcases Nat.lt_or_ge j xs.length with h1 | h1
  · exact h j h1
  · rw [List.getElem?_eq_none h1, List.getElem?_eq_none (by omega)]
theorem toIntS_spec (xs : List Int) (hl : xs.length ≤ 1099511627776) : Spec Try.prog 79 [ints xs] (intsT xs) := by
  refine Spec_of mx Γ_ok Try.func79 rfl ?_
  conv => whnf
  refine ⟨by omega, _, repl_rows (f := ciL) (d := 0) rfl _, ?_⟩
  conv => whnf
  refine ⟨[(0,0),(2,0),(3,0),(4,0)], fun m s => ∃ (k : Nat) (e : Int) (ys : List Int) (r : List V), e = k ∧ m + k = xs.length ∧ ys.length = xs.length ∧ (∀ j, j < k → ys[j]? = xs[j]?) ∧ r = rows ciL ys ∧
    s = ⟨22, [(0, ints xs), (2, cnil), (3, .own 0 1 0 xs.length xs.length none), (4, ci e)], [some ⟨false, r⟩]⟩, xs.length, ⟨0, 0, List.replicate xs.length 0, _, rfl, rfl, by simp, by simp, rfl, rfl⟩, ?_⟩
  rintro m s ⟨k, _, ys, _, rfl, hm, hy, hj, rfl, rfl⟩
  conv => whnf
  split <;> rename_i h1
  all_goals simp only [decide_eq_true_eq, decide_eq_false_iff_not] at h1
  · conv => whnf
    have hk : k < xs.length := by omega
    refine ⟨by omega, rows_len ciL_len xs, ?_⟩
    conv => whnf
    refine ⟨_, takeN_rp (k := k) ciL_len hk, ?_⟩
    conv => whnf
    refine ⟨by omega, ?_⟩
    conv => whnf
    refine ⟨_, takeN_own (k := k) (d := 0) (xs := ys) ciL_len (Nat.zero_add _) (by omega) (Nat.le_refl _) rfl, _, rfl, ?_⟩
    conv => whnf
    refine ⟨m - 1, by omega, k + 1, _, ys.set k xs[k], _, wrap_id (by omega) (by omega), by omega, by simp [hy], ?_, ?_, rfl⟩
    · intro j hj'
      rw [List.getElem?_set]
      by_cases h2 : k = j
      · subst h2
        rw [if_pos rfl, if_pos (by omega), List.getElem?_eq_getElem hk]
      · rw [if_neg h2]
        exact hj j (by omega)
    · exact (congrArg (fun o => setC (rows ciL ys) o (ciL xs[k])) (Nat.zero_add _)).trans (setC_rows ciL_len (by omega) (by omega) _)
  · conv => whnf
    refine ⟨by rw [rows_len ciL_len, hy], ?_⟩
    have : ys = xs := list_eq hy fun j h => hj j (by omega)
    rw [this]
    rfl
theorem beq_len {xs ys : List Int} (h : xs.length ≠ ys.length) : (xs == ys) = false := by
  rw [beq_eq_false_iff_ne]
  intro he
  exact h (congrArg List.length he)
theorem eqIntS_spec (xs ys : List Int) (hl : xs.length ≤ 1099511627776) (hl' : ys.length ≤ 1099511627776) : Spec Try.prog 84 [ints xs, ints ys] (cb (xs == ys)) := by
  refine Spec_of mx Γ_ok Try.func84 rfl ?_
  conv => whnf
  split <;> rename_i h0
  · conv => whnf
    simp only [bne_iff_ne, ne_eq] at h0
    show cb false = _
    rw [beq_len (by omega)]
  conv => whnf
  have h0' : xs.length = ys.length := by
    have h3 : (xs.length : Int) = ys.length := by simpa using h0
    omega
  refine ⟨[(0,0),(1,0),(4,0),(5,0)], fun m s => ∃ (k : Nat) (e : Int), e = k ∧ m + k = xs.length ∧ (∀ j, j < k → ys[j]? = xs[j]?) ∧
    s = ⟨26, [(0, ints xs), (1, ints ys), (4, cb false), (5, ci e)], []⟩, xs.length, ⟨0, 0, rfl, rfl, by simp, rfl⟩, ?_⟩
  rintro m s ⟨k, _, rfl, hm, hj, rfl⟩
  conv => whnf
  split <;> rename_i h1
  all_goals simp only [decide_eq_true_eq, decide_eq_false_iff_not] at h1
  · conv => whnf
    have hk : k < xs.length := by omega
    refine ⟨[0,1,2,3,4,5,6,7,8], by kernel_rfl, ?_⟩
    conv => whnf
    refine ⟨by omega, rows_len ciL_len xs, ?_⟩
    conv => whnf
    refine ⟨_, takeN_rp (k := k) ciL_len hk, ?_⟩
    conv => whnf
    refine ⟨by omega, rows_len ciL_len ys, ?_⟩
    conv => whnf
    refine ⟨_, takeN_rp (k := k) ciL_len (by omega), ?_⟩
    conv => whnf
    split <;> rename_i h2
    · conv => whnf
      show cb false = _
      have : (xs == ys) = false := by
        rw [beq_eq_false_iff_ne]
        rintro rfl
        simp at h2
      rw [this]
    · conv => whnf
      refine ⟨m - 1, by omega, k + 1, _, wrap_id (by omega) (by omega), by omega, fun j hj' => ?_, rfl⟩
      rcases Nat.lt_succ_iff_lt_or_eq.1 hj' with h | rfl
      · exact hj j h
      · rw [List.getElem?_eq_getElem hk, List.getElem?_eq_getElem (by omega)]
        simp at h2
        rw [h2]
  · conv => whnf
    show cb true = _
    have : ys = xs := list_eq h0'.symm fun j h => hj j (by omega)
    rw [this, beq_self_eq_true]
def sz1 (n : Nat) (left : Int) : Int := if left - n < 0 then -1 else left - n
theorem szIntS_spec (xs : List Int) (left : Int) (hl : xs.length ≤ 9223372036854775807) (h1 : 0 ≤ left) (h2 : left ≤ 1099511627776) : Spec Try.prog 74 [ints xs, ci left] (ci (sz1 xs.length left)) := by
  refine Spec_of mx Γ_ok Try.func74 rfl ?_
  conv => whnf
  have hw : IntKind.i64.wrap (left - xs.length) = left - xs.length := wrap_id (by omega) (by omega)
  rw [hw]
  split <;> rename_i h0
  all_goals simp only [decide_eq_true_eq, decide_eq_false_iff_not] at h0
  · conv => whnf
    show ci (-1) = _
    unfold sz1
    rw [if_pos h0]
  · conv => whnf
    show ci (left - xs.length) = _
    unfold sz1
    rw [if_neg h0]
end Go.Proofs.YthfjngmbdbocbaaD
