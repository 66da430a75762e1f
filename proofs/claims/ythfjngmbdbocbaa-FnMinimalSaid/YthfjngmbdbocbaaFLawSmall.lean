/- Small functions of the laws; terms made of numbers; the order of atoms. -/
import Derived.Test.YthfjngmbdbocbaaFDraw1
import Derived.Test.YthfjngmbdbocbaaFFz2
import Derived.Test.YthfjngmbdbocbaaFHas
import Derived.Test.YthfjngmbdbocbaaFOrdT
set_option linter.unusedVariables false
set_option linter.unusedSimpArgs false
set_option maxRecDepth 100000
namespace Go.Proofs.YthfjngmbdbocbaaD
open Go Go.Proofs

theorem big_spec (xs : List Int) : Spec Try.prog 16 [bytesR xs] (cb (decide ((xs.length : Int) > 1048576))) := by
  unfold bytesR
  refine Spec_of mx Γ_ok Try.func16 rfl ?_
  conv => whnf
  rfl
theorem sameInts_spec (xs ys : List Int) (hl : xs.length ≤ 1099511627776) (hl' : ys.length ≤ 1099511627776) : Spec Try.prog 37 [ints xs, ints ys] (cb (decide (xs = ys))) := by
  refine Spec_of mx Γ_ok Try.func37 rfl ?_
  conv => whnf
  split <;> rename_i h0
  · conv => whnf
    simp only [bne_iff_ne, ne_eq] at h0
    show cb false = _
    rw [ne_len (by omega)]
  conv => whnf
  have h0' : xs.length = ys.length := by
    have h3 : (xs.length : Int) = ys.length := by simpa using h0
    omega
  refine ⟨[(0,0),(1,0),(4,0),(5,0)], fun m s => ∃ (k : Nat) (e : Int), e = k ∧ m + k = xs.length ∧ decide (xs = ys) = decide (xs.drop k = ys.drop k) ∧
    s = ⟨26, [(0, ints xs), (1, ints ys), (4, cb false), (5, ci e)], []⟩, xs.length, ⟨0, 0, rfl, rfl, rfl, rfl⟩, ?_⟩
  rintro m s ⟨k, _, rfl, hm, hj, rfl⟩
  conv => whnf
  split <;> rename_i h1
  all_goals simp only [decide_eq_true_eq, decide_eq_false_iff_not] at h1
  · conv => whnf
    have hk : k < xs.length := by omega
    have hk' : k < ys.length := by omega
    rw [drop_eq_at hk hk'] at hj
    refine ⟨List.range 9, by kernel_rfl, ?_⟩
    conv => whnf
    refine ⟨by omega, rows_len ciL_len xs, ?_⟩
    conv => whnf
    refine ⟨_, takeN_rp (k := k) ciL_len hk, ?_⟩
    conv => whnf
    refine ⟨by omega, rows_len ciL_len ys, ?_⟩
    conv => whnf
    refine ⟨_, takeN_rp (k := k) ciL_len hk', ?_⟩
    conv => whnf
    split <;> rename_i h2
    · conv => whnf
      show cb false = _
      rw [hj, decide_eq_false (p := xs[k] = ys[k]) (by simpa using h2), Bool.false_and]
    · conv => whnf
      rw [decide_eq_true (p := xs[k] = ys[k]) (by simpa using h2), Bool.true_and] at hj
      exact ⟨m - 1, by omega, k + 1, _, wrap_id (by omega) (by omega), by omega, hj, rfl⟩
  · conv => whnf
    rw [hj, drop_end (by omega), drop_end (by omega)]
    rfl
theorem lawHas_spec (xs : List Int) (v : Int) (hl : xs.length ≤ 1099511627776) : Spec Try.prog 33 [ints xs, ci v] (cb (has xs v)) := by
  refine Spec_of mx Γ_ok Try.func33 rfl ?_
  conv => whnf
  refine ⟨[(0,0),(1,0),(4,0),(5,0)], fun m s => ∃ (k : Nat) (e : Int), e = k ∧ m + k = xs.length ∧ has xs v = (xs.drop k).any (eqV v) ∧ s = ⟨18, [(0, ints xs), (1, ci v), (4, cb false), (5, ci e)], []⟩, xs.length, ⟨0, 0, rfl, rfl, rfl, rfl⟩, ?_⟩
  rintro m s ⟨k, _, rfl, hm, hj, rfl⟩
  conv => whnf
  split <;> rename_i h1
  all_goals simp only [decide_eq_true_eq, decide_eq_false_iff_not] at h1
  · conv => whnf
    have hk : k < xs.length := by omega
    rw [drop_any hk] at hj
    refine ⟨by omega, rows_len ciL_len xs, ?_⟩
    conv => whnf
    refine ⟨_, takeN_rp (k := k) ciL_len hk, ?_⟩
    conv => whnf
    split <;> rename_i h2
    · conv => whnf
      rw [hj, show eqV v xs[k] = true from h2]
      rfl
    · conv => whnf
      rw [show eqV v xs[k] = false from h2, Bool.false_or] at hj
      exact ⟨m - 1, by omega, k + 1, _, wrap_id (by omega) (by omega), by omega, hj, rfl⟩
  · conv => whnf
    rw [hj, drop_end (by omega)]
    rfl
def mkConst (n : Int) : Int := if inR n 0 79 then -1 - n else 0
theorem specMakeConst_spec (n : Int) : Spec Try.prog 25 [ci n] (ci (mkConst n)) := by
  refine Spec_of mx Γ_ok Try.func25 rfl ?_
  conv => whnf
  refine ⟨_, l1In_spec n 0 79, .inl rfl, .inl ?_⟩
  unfold mkConst
  generalize hb : inR n 0 79 = b
  cases b with
  | false =>
    conv => whnf
    rfl
  | true =>
    have hr : 0 ≤ n ∧ n ≤ 79 := by simpa [inR] using hb
    conv => whnf
    show ci (IntKind.i64.wrap (-1 - n)) = _
    rw [wrap_id (by omega) (by omega)]
    rfl
theorem implMakeConst_spec (n : Int) : Spec Try.prog 19 [ci n] (ci (mkConst n)) := by
  refine Spec_of mx Γ_ok Try.func19 rfl ?_
  conv => whnf
  refine ⟨_, within_spec n 0 79, .inl rfl, .inl ?_⟩
  unfold mkConst
  generalize hb : inR n 0 79 = b
  cases b with
  | false =>
    conv => whnf
    rfl
  | true =>
    have hr : 0 ≤ n ∧ n ≤ 79 := by simpa [inR] using hb
    conv => whnf
    show ci (IntKind.i64.wrap (-1 - n)) = _
    rw [wrap_id (by omega) (by omega)]
    rfl
theorem constOf_mk {n : Int} (h : mkConst n ≠ 0) : constOf (mkConst n) = n := by
  unfold mkConst at h ⊢
  by_cases hb : inR n 0 79 = true
  · have hr : 0 ≤ n ∧ n ≤ 79 := by simpa [inR] using hb
    rw [if_pos hb]
    unfold constOf
    rw [if_pos (by simp [inR]; omega)]
    omega
  · rw [if_neg hb] at h
    exact absurd rfl h
/-! Atoms in order. -/
theorem specLessAtom_spec (a b : FactC) (ha : a.2.length ≤ 1099511627776) (hb : b.2.length ≤ 1099511627776) : Spec Try.prog 40 [vAtom a, vAtom b] (cb (ltF a b)) := by
  refine Spec_of mx Γ_ok Try.func40 rfl ?_
  conv => whnf
  unfold ltF
  split <;> rename_i h2
  · have h3 : ¬ a.1 = b.1 := by simpa using h2
    conv => whnf
    rw [if_neg h3]
    rfl
  · have h3 : a.1 = b.1 := by simpa using h2
    conv => whnf
    refine ⟨_, l2Less_spec a.2 b.2 ha hb, .inl rfl, .inl ?_⟩
    conv => whnf
    rw [if_pos h3]
    rfl
theorem implLessAtom_spec (a b : FactC) (ha : a.2.length ≤ 1099511627776) (hb : b.2.length ≤ 1099511627776) : Spec Try.prog 39 [vAtom a, vAtom b] (cb (ltF a b)) := by
  refine Spec_of mx Γ_ok Try.func39 rfl ?_
  conv => whnf
  unfold ltF
  generalize hd : decide (a.1 < b.1) = d
  cases d with
  | true =>
    have hl := of_decide_eq_true hd
    conv => whnf
    rw [if_neg (by omega)]
    rfl
  | false =>
    have hl := of_decide_eq_false hd
    conv => whnf
    generalize he : (a.1 == b.1) = e
    cases e with
    | false =>
      have h3 : ¬ a.1 = b.1 := by simpa using he
      conv => whnf
      rw [if_neg h3]
      rfl
    | true =>
      have h3 : a.1 = b.1 := by simpa using he
      conv => whnf
      refine ⟨_, slicesCompare_spec a.2 b.2 ha hb, .inl rfl, .inl ?_⟩
      conv => whnf
      rw [if_pos h3, ltI_cmp]
      rfl
end Go.Proofs.YthfjngmbdbocbaaD
