/- UsedViews, twice. -/
import Derived.Test.YtifmkifkjmfceaaFHas
set_option linter.unusedVariables false
set_option linter.unusedSimpArgs false
set_option maxRecDepth 100000
namespace Go.Proofs.YtifmkifkjmfceaaD
open Go Go.Proofs
abbrev AtomU := Int × List Int
abbrev QueryU := List Int × List AtomU
def isV (v : Int) (a : AtomU) : Bool := a.1 == v
def usesV (q : QueryU) (v : Nat) : Bool := q.2.any (isV v)
def oneV (b : Bool) (v : Nat) : List Int := if b then [(v : Int)] else []
def usedL (q : QueryU) : Nat → List Int
  | 0 => []
  | n + 1 => usedL q n ++ oneV (usesV q n) n
def pUsedViews (q : QueryU) : List Int := usedL q 4
theorem usedL_len (q : QueryU) : ∀ n, (usedL q n).length ≤ n
  | 0 => Nat.le_refl _
  | n + 1 => by
    have := usedL_len q n
    unfold usedL oneV
    rw [List.length_append]
    split
    · simp; omega
    · simp; omega
theorem has_app (xs ys : List Int) (v : Int) : has (xs ++ ys) v = (has xs v || has ys v) := List.any_append
theorem usedL_has (q : QueryU) : ∀ n v, n ≤ v → has (usedL q n) (v : Int) = false
  | 0, v, _ => rfl
  | n + 1, v, h => by
    unfold usedL
    rw [has_app, usedL_has q n v (by omega), Bool.false_or]
    unfold oneV
    split
    · show (eqV (v : Int) (n : Int) || false) = false
      rw [Bool.or_false]
      show ((n : Int) == (v : Int)) = false
      rw [beq_eq_false_iff_ne]
      omega
    · rfl
theorem oneV_has (b : Bool) (v : Nat) : has (oneV b v) (v : Int) = b := by
  cases b with
  | false => rfl
  | true => show ((v : Int) == (v : Int) || false) = true; rw [beq_self_eq_true]; rfl
theorem small_UsedViews (x0 : QueryU) (h0 : cQuery x0 ≤ 1048576) : (pUsedViews x0).length ≤ 2147483648 := by
  have := usedL_len x0 4
  unfold pUsedViews
  omega
set_option maxHeartbeats 1000000 in
theorem specUsedViews_spec (x0 : QueryU) (h0 : cQuery x0 ≤ 1048576) (q0 : qQuery x0) : Spec Try.prog 42 [vQuery x0] (intsT (pUsedViews x0)) := by
  unfold cQuery cAtomS at h0
  refine Spec_of mx Γ_ok Try.func42 rfl ?_
  conv => whnf
  refine ⟨[(1,0),(2,0),(3,0),(4,0)], fun m s => ∃ (k : Nat) (e : Int) (n : Nat) (r : List V), e = k ∧ m + k = 4 ∧ n = (usedL x0 k).length ∧ r = rows ciL (usedL x0 k) ∧
    s = ⟨37, [(1, .ptr 0 0), (2, cnil), (3, .own 1 1 0 n n none), (4, ci e)], [some ⟨true, rQuery x0⟩, some ⟨false, r⟩]⟩, 4, ⟨0, 0, 0, _, rfl, rfl, rfl, rfl, rfl⟩, ?_⟩
  rintro m s ⟨k, _, n, _, rfl, hm, hn, rfl, rfl⟩
  conv => whnf
  split <;> rename_i h1
  all_goals simp only [decide_eq_true_eq, decide_eq_false_iff_not] at h1
  · conv => whnf
    have hul := usedL_len x0 k
    refine ⟨[(1,0),(2,0),(3,0),(4,0),(5,0)], fun m s => ∃ (j : Nat) (e : Int) (b : Bool) (n : Nat) (r : List V), e = j ∧ m + j = x0.2.length ∧ usesV x0 k = (b || (x0.2.drop j).any (isV k)) ∧ n = (usedL x0 k ++ oneV b k).length ∧ r = rows ciL (usedL x0 k ++ oneV b k) ∧
      s = ⟨37, [(1, .ptr 0 0), (2, cnil), (3, .own 1 1 0 n n none), (4, ci k), (5, ci e)], [some ⟨true, rQuery x0⟩, some ⟨false, r⟩]⟩, x0.2.length, ⟨0, 0, false, n, _, rfl, rfl, rfl, by rw [hn]; simp [oneV], by simp [oneV], rfl⟩, ?_⟩
    rintro m' s ⟨j, _, b, n', _, rfl, hm', hb, hn', rfl, rfl⟩
    have hol : (oneV b k).length ≤ 1 := by cases b <;> simp [oneV]
    have hlen : (usedL x0 k ++ oneV b k).length ≤ 5 := by rw [List.length_append]; omega
    conv => whnf
    split <;> rename_i h2
    all_goals simp only [decide_eq_true_eq, decide_eq_false_iff_not] at h2
    · conv => whnf
      have hj : j < x0.2.length := by omega
      rw [drop_any hj] at hb
      refine ⟨by omega, rows_len rAtom_len _, ?_⟩
      conv => whnf
      refine ⟨_, takeN_rp_field (k := j) (d := 0) (m := 1) (r := [ci x0.2[j].1]) rAtom_len hj (by omega) rfl, ?_⟩
      conv => whnf
      generalize hb1 : (x0.2[j].1 == (k : Int)) = b1
      rw [show isV k x0.2[j] = b1 from hb1] at hb
      cases b1 with
      | false =>
        conv => whnf
        rw [Bool.false_or] at hb
        exact ⟨m' - 1, by omega, j + 1, _, b, n', _, wrap_id (by omega) (by omega), by omega, hb, hn', rfl, rfl⟩
      | true =>
      conv => whnf
      rw [Bool.true_or, Bool.or_true] at hb
      refine .inl ?_
      conv => whnf
      refine ⟨_, _, takeN_all (by rw [rows_len ciL_len, hn']), roVs_ci _, ?_⟩
      conv => whnf
      have hs := l2Has_spec (usedL x0 k ++ oneV b k) (k : Int) (by omega)
      rw [has_app, usedL_has x0 k k (Nat.le_refl _), oneV_has, Bool.false_or] at hs
      subst hn'
      refine ⟨_, hs, .inr trivial, .inl ?_⟩
      conv => whnf
      cases b with
      | true =>
        conv => whnf
        exact ⟨m' - 1, by omega, j + 1, _, true, _, _, wrap_id (by omega) (by omega), by omega, by rw [hb]; rfl, rfl, rfl, rfl⟩
      | false =>
        conv => whnf
        refine ⟨_, rfl, .inl ⟨flat1 rfl, ?_⟩⟩
        conv => whnf
        refine ⟨by omega, rows_len ciL_len _, _, snoc_ci _ _, ?_⟩
        conv => whnf
        refine ⟨m' - 1, by omega, j + 1, _, true, _, _, wrap_id (by omega) (by omega), by omega, by rw [hb]; rfl, ?_, ?_, rfl⟩
        · simp [oneV]
        · simp [oneV]
    · conv => whnf
      rw [drop_end (by omega), List.any_nil, Bool.or_false] at hb
      refine ⟨m - 1, by omega, k + 1, _, n', _, wrap_id (by omega) (by omega), by omega, ?_, ?_, rfl⟩
      · rw [hn', usedL, hb]
      · rw [usedL, hb]
  · conv => whnf
    have hkk : k = 4 := by omega
    subst hkk
    subst hn
    refine ⟨by rw [rows_len ciL_len], ?_⟩
    rfl
theorem usedC_spec (a : AtomU) (v : Int) : Spec Try.prog 94 [vAtom a, .rp [ci v]] (cb (isV v a)) := by
  refine Spec_of mx Γ_ok Try.func94 rfl ?_
  conv => whnf
  refine ⟨_, rfl, ?_⟩
  conv => whnf
  rfl
def idxU (v : Int) : List AtomU → Nat → Int
  | [], _ => -1
  | a :: l, k => if isV v a then k else idxU v l (k + 1)
theorem idxU_ge (v : Int) : ∀ l k, decide (idxU v l k ≥ 0) = l.any (isV v)
  | [], k => rfl
  | a :: l, k => by
    unfold idxU
    rw [List.any_cons]
    cases h : isV v a with
    | true =>
      rw [if_pos rfl]
      exact decide_eq_true (by omega)
    | false =>
      rw [if_neg (by simp)]
      exact idxU_ge v l (k + 1)
theorem indexU_spec (xs : List AtomU) (v : Int) (h : xs.length ≤ 1099511627776) : Spec Try.prog 115 [vAtomS xs, .fn 94 [.rp [ci v]]] (ci (idxU v xs 0)) := by
  refine Spec_of mx Γ_ok Try.func115 rfl ?_
  conv => whnf
  refine ⟨[(0,0),(1,0),(4,0),(7,0),(8,0)], fun m s => ∃ (k : Nat) (e : Int), e = k ∧ m + k = xs.length ∧ idxU v xs 0 = idxU v (xs.drop k) k ∧
    s = ⟨19, [(0, vAtomS xs), (1, .fn 94 [.rp [ci v]]), (4, ci 0), (7, ci xs.length), (8, ci e)], []⟩, xs.length, ⟨0, 0, rfl, rfl, rfl, rfl⟩, ?_⟩
  rintro m s ⟨k, _, rfl, hm, hj, rfl⟩
  conv => whnf
  split <;> rename_i h1
  all_goals simp only [decide_eq_true_eq, decide_eq_false_iff_not] at h1
  · conv => whnf
    have hk : k < xs.length := by omega
    rw [List.drop_eq_getElem_cons hk, idxU] at hj
    refine ⟨by omega, rows_len rAtom_len xs, ?_⟩
    conv => whnf
    refine ⟨_, takeN_rp (k := k) rAtom_len hk, ?_⟩
    conv => whnf
    refine ⟨_, usedC_spec xs[k] v, .inl rfl, .inl ?_⟩
    conv => whnf
    generalize isV v xs[k] = b at hj
    cases b with
    | true =>
      conv => whnf
      rw [hj]
      rfl
    | false =>
      conv => whnf
      exact ⟨m - 1, by omega, k + 1, _, wrap_id (by omega) (by omega), by omega, hj, rfl⟩
  · conv => whnf
    rw [hj, drop_end (by omega)]
    rfl
theorem containsU_spec (xs : List AtomU) (v : Int) (h : xs.length ≤ 1099511627776) : Spec Try.prog 93 [vAtomS xs, .fn 94 [.rp [ci v]]] (cb (xs.any (isV v))) := by
  refine Spec_of mx Γ_ok Try.func93 rfl ?_
  conv => whnf
  refine ⟨_, indexU_spec xs v h, .inl rfl, .inl ?_⟩
  conv => whnf
  exact congrArg cb (idxU_ge v xs 0)
theorem implUsedViews_spec (x0 : QueryU) (h0 : cQuery x0 ≤ 1048576) (q0 : qQuery x0) : Spec Try.prog 43 [vQuery x0] (intsT (pUsedViews x0)) := by
  unfold cQuery cAtomS at h0
  refine Spec_of mx Γ_ok Try.func43 rfl ?_
  conv => whnf
  refine ⟨[(1,0),(2,0),(3,0),(6,0)], fun m s => ∃ (k : Nat) (e : Int) (n : Nat) (r : List V), e = k ∧ m + k = 4 ∧ n = (usedL x0 k).length ∧ r = rows ciL (usedL x0 k) ∧
    s = ⟨19, [(1, .ptr 0 0), (2, cnil), (3, .own 1 1 0 n n none), (6, ci e)], [some ⟨true, rQuery x0⟩, some ⟨false, r⟩]⟩, 4, ⟨0, 0, 0, _, rfl, rfl, rfl, rfl, rfl⟩, ?_⟩
  rintro m s ⟨k, _, n, _, rfl, hm, hn, rfl, rfl⟩
  conv => whnf
  split <;> rename_i h1
  all_goals simp only [decide_eq_true_eq, decide_eq_false_iff_not] at h1
  · conv => whnf
    have hul := usedL_len x0 k
    refine .inl ?_
    conv => whnf
    refine ⟨_, rfl, ?_⟩
    conv => whnf
    refine ⟨_, containsU_spec x0.2 k (by omega), .inr trivial, .inl ?_⟩
    conv => whnf
    generalize hb1 : x0.2.any (isV (k : Int)) = b1
    have hu : usedL x0 (k + 1) = usedL x0 k ++ oneV b1 k := by rw [usedL, usesV, hb1]
    cases b1 with
    | true =>
      conv => whnf
      refine ⟨_, rfl, .inl ⟨flat1 rfl, ?_⟩⟩
      conv => whnf
      refine ⟨by omega, by rw [rows_len ciL_len, hn], _, snoc_ci _ _, ?_⟩
      conv => whnf
      refine ⟨m - 1, by omega, k + 1, _, _, _, wrap_id (by omega) (by omega), by omega, ?_, ?_, rfl⟩
      · rw [hu, hn]; simp [oneV]
      · rw [hu]; rfl
    | false =>
      conv => whnf
      refine ⟨m - 1, by omega, k + 1, _, n, _, wrap_id (by omega) (by omega), by omega, ?_, ?_, rfl⟩
      · rw [hu, hn]; simp [oneV]
      · rw [hu]; simp [oneV]
  · conv => whnf
    have hkk : k = 4 := by omega
    subst hkk
    subst hn
    refine ⟨by rw [rows_len ciL_len], ?_⟩
    rfl
end Go.Proofs.YtifmkifkjmfceaaD
