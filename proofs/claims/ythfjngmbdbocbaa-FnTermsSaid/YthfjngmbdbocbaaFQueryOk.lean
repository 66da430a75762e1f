/- Which queries are in order. -/
import Derived.Test.YthfjngmbdbocbaaFTerms
set_option linter.unusedVariables false
set_option linter.unusedSimpArgs false
set_option maxRecDepth 100000
namespace Go.Proofs.YthfjngmbdbocbaaD
open Go Go.Proofs

def idxI (v : Int) : List Int → Nat → Int
  | [], _ => -1
  | a :: l, k => if eqV v a then k else idxI v l (k + 1)
theorem idxI_ge (v : Int) : ∀ l k, decide (idxI v l k ≥ 0) = has l v
  | [], k => rfl
  | a :: l, k => by
    unfold idxI
    rw [has, List.any_cons]
    cases h : eqV v a with
    | true =>
      rw [if_pos rfl]
      exact decide_eq_true (by omega)
    | false =>
      rw [if_neg (by simp)]
      exact idxI_ge v l (k + 1)
theorem slicesIndex_spec (xs : List Int) (v : Int) (h : xs.length ≤ 1099511627776) : Spec Try.prog 137 [ints xs, ci v] (ci (idxI v xs 0)) := by
  refine Spec_of mx Γ_ok Try.func137 rfl ?_
  conv => whnf
  refine ⟨[(0,0),(1,0),(4,0),(7,0),(8,0)], fun m s => ∃ (k : Nat) (e : Int), e = k ∧ m + k = xs.length ∧ idxI v xs 0 = idxI v (xs.drop k) k ∧
    s = ⟨17 + 2, [(0, ints xs), (1, ci v), (4, ci 0), (7, ci xs.length), (8, ci e)], []⟩, xs.length, ⟨0, 0, rfl, rfl, rfl, rfl⟩, ?_⟩
  rintro m s ⟨k, _, rfl, hm, hj, rfl⟩
  conv => whnf
  split <;> rename_i h1
  all_goals simp only [decide_eq_true_eq, decide_eq_false_iff_not] at h1
  · conv => whnf
    have hk : k < xs.length := by omega
    rw [List.drop_eq_getElem_cons hk, idxI] at hj
    refine ⟨by omega, rows_len ciL_len xs, ?_⟩
    conv => whnf
    refine ⟨_, takeN_rp (k := k) ciL_len hk, ?_⟩
    conv => whnf
    generalize hb1 : (v == xs[k]) = b1
    have hb2 : eqV v xs[k] = b1 := by rw [← hb1, eqV, Bool.beq_comm]
    rw [hb2] at hj
    cases b1 with
    | true =>
      conv => whnf
      rw [hj]
      rfl
    | false =>
      conv => whnf
      exact ⟨m - 1, by omega, k + 1, _, wrap_id (by omega) (by omega), by omega, hj, rfl⟩
  · conv => whnf
    rw [hj, drop_end (by omega)]
    rfl
theorem slicesContains_spec (xs : List Int) (v : Int) (h : xs.length ≤ 1099511627776) : Spec Try.prog 105 [ints xs, ci v] (cb (has xs v)) := by
  refine Spec_of mx Γ_ok Try.func105 rfl ?_
  conv => whnf
  refine ⟨_, slicesIndex_spec xs v h, .inl rfl, .inl ?_⟩
  conv => whnf
  exact congrArg cb (idxI_ge v xs 0)
def hasA (x : Int) (a : AtomT) : Bool := has a.2 x
def occurs (q : QueryT) (x : Int) : Bool := q.2.any (hasA x)
theorem occurs_spec (q : QueryT) (x : Int) (h : cQuery q ≤ 1048576) : Spec Try.prog 104 [vQuery q, ci x] (cb (occurs q x)) := by
  unfold cQuery cAtomS at h
  refine Spec_of mx Γ_ok Try.func104 rfl ?_
  conv => whnf
  refine ⟨[(1,0),(4,0),(8,0),(9,0),(10,0)], fun m s => ∃ (k : Nat) (e : Int), e = k ∧ m + k = q.2.length ∧ occurs q x = (q.2.drop k).any (hasA x) ∧
    s = ⟨19, [(1, ci x), (4, cb false), (8, vAtomS q.2), (9, ci q.2.length), (10, ci e)], []⟩, q.2.length, ⟨0, 0, rfl, rfl, rfl, rfl⟩, ?_⟩
  rintro m s ⟨k, _, rfl, hm, hj, rfl⟩
  conv => whnf
  split <;> rename_i h1
  all_goals simp only [decide_eq_true_eq, decide_eq_false_iff_not] at h1
  · conv => whnf
    have hk : k < q.2.length := by omega
    have hb := sumB_one (f := cAtom) hk
    have hcb : cAtom q.2[k] = q.2[k].2.length := rfl
    rw [drop_any hk] at hj
    refine ⟨by omega, rows_len rAtom_len _, ?_⟩
    conv => whnf
    refine ⟨_, takeN_rp (k := k) rAtom_len hk, ?_⟩
    conv => whnf
    refine ⟨_, slicesContains_spec q.2[k].2 x (by omega), .inl rfl, .inl ?_⟩
    conv => whnf
    generalize hb1 : has q.2[k].2 x = b1
    rw [show hasA x q.2[k] = b1 from hb1] at hj
    cases b1 with
    | true =>
      conv => whnf
      rw [hj]
      rfl
    | false =>
      conv => whnf
      rw [Bool.false_or] at hj
      exact ⟨m - 1, by omega, k + 1, _, wrap_id (by omega) (by omega), by omega, hj, rfl⟩
  · conv => whnf
    rw [hj, drop_end (by omega)]
    rfl
def safeV (q : QueryT) (x : Int) : Bool := !(isVar x && !occurs q x)
theorem isSafe_spec (q : QueryT) (h : cQuery q ≤ 1048576) : Spec Try.prog 142 [vQuery q] (cb (q.1.all (safeV q))) := by
  have h' := h
  unfold cQuery at h'
  refine Spec_of mx Γ_ok Try.func142 rfl ?_
  conv => whnf
  refine ⟨[(1,0),(2,0),(6,0),(7,0),(8,0)], fun m s => ∃ (k : Nat) (e : Int), e = k ∧ m + k = q.1.length ∧ q.1.all (safeV q) = (q.1.drop k).all (safeV q) ∧
    s = ⟨21, [(1, .ptr 0 0), (2, cb false), (6, ints q.1), (7, ci q.1.length), (8, ci e)], [some ⟨true, rQuery q⟩]⟩, q.1.length, ⟨0, 0, rfl, rfl, rfl, rfl⟩, ?_⟩
  rintro m s ⟨k, _, rfl, hm, hj, rfl⟩
  conv => whnf
  split <;> rename_i h1
  all_goals simp only [decide_eq_true_eq, decide_eq_false_iff_not] at h1
  · conv => whnf
    have hk : k < q.1.length := by omega
    rw [drop_all hk, safeV] at hj
    refine ⟨by omega, rows_len ciL_len _, ?_⟩
    conv => whnf
    refine ⟨_, takeN_rp (k := k) ciL_len hk, ?_⟩
    conv => whnf
    refine ⟨_, implIsVar_spec q.1[k], .inl rfl, .inl ?_⟩
    conv => whnf
    generalize isVar q.1[k] = b1 at hj
    cases b1 with
    | false =>
      conv => whnf
      exact ⟨m - 1, by omega, k + 1, _, wrap_id (by omega) (by omega), by omega, hj, rfl⟩
    | true =>
    conv => whnf
    refine ⟨_, occurs_spec q q.1[k] h, .inl rfl, .inl ?_⟩
    conv => whnf
    generalize occurs q q.1[k] = b2 at hj
    cases b2 with
    | false =>
      conv => whnf
      rw [hj]
      rfl
    | true =>
      conv => whnf
      exact ⟨m - 1, by omega, k + 1, _, wrap_id (by omega) (by omega), by omega, hj, rfl⟩
  · conv => whnf
    rw [hj, drop_end (by omega)]
    rfl
def fineQ (s : List Int) (q : QueryT) (n : Int) : Bool := isSchema s && (terms3 q.1 && (inR q.2.length 1 n && (q.2.all (isAtom s) && q.1.all (safeV q))))
def isQuery (s : List Int) (q : QueryT) : Bool := fineQ s q 4
theorem implIsQuery_spec (s : List Int) (q : QueryT) (hs : cSchema s ≤ 1048576) (h : cQuery q ≤ 1048576) : Spec Try.prog 116 [vSchema s, vQuery q] (cb (isQuery s q)) := by
  unfold cSchema at hs
  have h' := h
  unfold cQuery cAtomS at h'
  refine Spec_of mx Γ_ok Try.func116 rfl ?_
  conv => whnf
  refine ⟨_, implIsSchema_spec s (by omega), .inl rfl, .inl ?_⟩
  conv => whnf
  unfold isQuery fineQ
  generalize isSchema s = b1
  cases b1 with
  | false =>
    conv => whnf
    rfl
  | true =>
  conv => whnf
  generalize hb2 : decide ((q.1.length : Int) > 3) = b2
  cases b2 with
  | true =>
    conv => whnf
    have := of_decide_eq_true hb2
    rw [terms3, decide_eq_false (p := q.1.length ≤ 3) (by omega), Bool.and_false]
    rfl
  | false =>
  conv => whnf
  have h3 := of_decide_eq_false hb2
  rw [terms3, decide_eq_true (p := q.1.length ≤ 3) (by omega), Bool.and_true]
  refine ⟨_, areTerms_spec q.1 (by omega), .inl rfl, .inl ?_⟩
  conv => whnf
  generalize q.1.all isTerm = b3
  cases b3 with
  | false =>
    conv => whnf
    rfl
  | true =>
  conv => whnf
  refine ⟨_, within_spec (q.2.length : Int) 1 4, .inl rfl, .inl ?_⟩
  conv => whnf
  generalize inR (q.2.length : Int) 1 4 = b4
  cases b4 with
  | false =>
    conv => whnf
    rfl
  | true =>
  conv => whnf
  refine ⟨[(2,0),(3,0),(4,0),(30,0),(31,0),(32,0)], fun m st => ∃ (k : Nat) (e : Int), e = k ∧ m + k = q.2.length ∧ q.2.all (isAtom s) = (q.2.drop k).all (isAtom s) ∧
    st = ⟨43, [(2, .ptr 0 0), (3, .ptr 1 0), (4, cb false), (30, vAtomS q.2), (31, ci q.2.length), (32, ci e)], [some ⟨true, [ints s]⟩, some ⟨true, rQuery q⟩]⟩, q.2.length, ⟨0, 0, rfl, rfl, rfl, rfl⟩, ?_⟩
  rintro m st ⟨k, _, rfl, hm, hj, rfl⟩
  conv => whnf
  split <;> rename_i h1
  all_goals simp only [decide_eq_true_eq, decide_eq_false_iff_not] at h1
  · conv => whnf
    have hk : k < q.2.length := by omega
    have hb := sumB_one (f := cAtom) hk
    have hcb : cAtom q.2[k] = q.2[k].2.length := rfl
    rw [drop_all hk] at hj
    refine ⟨by omega, rows_len rAtom_len _, ?_⟩
    conv => whnf
    refine ⟨_, takeN_rp (k := k) rAtom_len hk, ?_⟩
    conv => whnf
    refine ⟨_, implIsAtom_spec s q.2[k] (by omega) (by omega), .inl rfl, .inl ?_⟩
    conv => whnf
    generalize isAtom s q.2[k] = b5 at hj
    cases b5 with
    | false =>
      conv => whnf
      rw [hj]
      rfl
    | true =>
      conv => whnf
      rw [Bool.true_and] at hj
      exact ⟨m - 1, by omega, k + 1, _, wrap_id (by omega) (by omega), by omega, hj, rfl⟩
  · conv => whnf
    rw [drop_end (by omega)] at hj
    rw [hj]
    refine ⟨_, isSafe_spec q h, .inl rfl, .inl ?_⟩
    conv => whnf
    rfl
end Go.Proofs.YthfjngmbdbocbaaD
