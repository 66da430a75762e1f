/- Terms and atoms. -/
import Derived.Test.YthfjngmbdbocbaaFIsKey
import Derived.Test.YthfjngmbdbocbaaFHas
set_option linter.unusedVariables false
set_option linter.unusedSimpArgs false
set_option maxRecDepth 100000
namespace Go.Proofs.YthfjngmbdbocbaaD
open Go Go.Proofs

abbrev AtomT := Int × List Int
abbrev QueryT := List Int × List AtomT
def isVar (x : Int) : Bool := inR x 0 19
def isTerm (x : Int) : Bool := inR x (-80) 19
def constOf (x : Int) : Int := if inR x (-80) (-1) then -1 - x else -1
theorem isTerm_eq (x : Int) : isTerm x = (isVar x || decide (constOf x ≥ 0)) := by
  rw [Bool.eq_iff_iff]
  simp only [isTerm, isVar, constOf, inR, Bool.or_eq_true, Bool.and_eq_true, decide_eq_true_eq]
  split <;> omega
theorem specIsVar_spec (x : Int) : Spec Try.prog 21 [ci x] (cb (isVar x)) := by
  refine Spec_of mx Γ_ok Try.func21 rfl ?_
  conv => whnf
  refine ⟨_, l1In_spec x 0 19, .inl rfl, .inl ?_⟩
  conv => whnf
  rfl
theorem implIsVar_spec (x : Int) : Spec Try.prog 20 [ci x] (cb (isVar x)) := by
  refine Spec_of mx Γ_ok Try.func20 rfl ?_
  conv => whnf
  refine ⟨_, within_spec x 0 19, .inl rfl, .inl ?_⟩
  conv => whnf
  rfl
theorem implIsTerm_spec (x : Int) : Spec Try.prog 24 [ci x] (cb (isTerm x)) := by
  refine Spec_of mx Γ_ok Try.func24 rfl ?_
  conv => whnf
  refine ⟨_, within_spec x (-80) 19, .inl rfl, .inl ?_⟩
  conv => whnf
  rfl
theorem specConstOf_spec (x : Int) : Spec Try.prog 23 [ci x] (ci (constOf x)) := by
  refine Spec_of mx Γ_ok Try.func23 rfl ?_
  conv => whnf
  refine ⟨_, l1In_spec x (-80) (-1), .inl rfl, .inl ?_⟩
  conv => whnf
  unfold constOf
  generalize hb1 : inR x (-80) (-1) = b1
  cases b1 with
  | false =>
    conv => whnf
    rfl
  | true =>
    conv => whnf
    have hr : -80 ≤ x ∧ x ≤ -1 := by simpa [inR] using hb1
    show ci (IntKind.i64.wrap (-1 - x)) = ci (-1 - x)
    rw [wrap_id (by omega) (by omega)]
theorem specIsTerm_spec (x : Int) : Spec Try.prog 140 [ci x] (cb (isTerm x)) := by
  rw [isTerm_eq]
  refine Spec_of mx Γ_ok Try.func140 rfl ?_
  conv => whnf
  refine ⟨_, specIsVar_spec x, .inl rfl, .inl ?_⟩
  conv => whnf
  generalize isVar x = b1
  cases b1 with
  | true =>
    conv => whnf
    rfl
  | false =>
    conv => whnf
    refine ⟨_, specConstOf_spec x, .inl rfl, .inl ?_⟩
    conv => whnf
    rfl
def terms3 (xs : List Int) : Bool := xs.all isTerm && decide (xs.length ≤ 3)
theorem l3Terms_spec (xs : List Int) (h : xs.length ≤ 1099511627776) : Spec Try.prog 114 [ints xs] (cb (terms3 xs)) := by
  refine Spec_of mx Γ_ok Try.func114 rfl ?_
  conv => whnf
  refine ⟨[(0,0),(2,0),(3,0)], fun m s => ∃ (k : Nat) (e : Int), e = k ∧ m + k = xs.length ∧ xs.all isTerm = (xs.drop k).all isTerm ∧
    s = ⟨19, [(0, ints xs), (2, cb false), (3, ci e)], []⟩, xs.length, ⟨0, 0, rfl, rfl, rfl, rfl⟩, ?_⟩
  rintro m s ⟨k, _, rfl, hm, hall, rfl⟩
  conv => whnf
  split <;> rename_i h3
  all_goals simp only [decide_eq_true_eq, decide_eq_false_iff_not] at h3
  · conv => whnf
    have hk : k < xs.length := by omega
    rw [drop_all hk] at hall
    refine ⟨by omega, rows_len ciL_len _, ?_⟩
    conv => whnf
    refine ⟨_, takeN_rp (k := k) ciL_len hk, ?_⟩
    conv => whnf
    refine ⟨_, specIsTerm_spec xs[k], .inl rfl, .inl ?_⟩
    conv => whnf
    generalize isTerm xs[k] = b1 at hall
    cases b1 with
    | false =>
      conv => whnf
      unfold terms3
      rw [hall]
      rfl
    | true =>
      conv => whnf
      rw [Bool.true_and] at hall
      exact ⟨m - 1, by omega, k + 1, _, wrap_id (by omega) (by omega), by omega, hall, rfl⟩
  · conv => whnf
    rw [drop_end (by omega)] at hall
    unfold terms3
    rw [hall]
    show cb _ = cb _
    congr 1
    simp only [List.all_nil, Bool.true_and, decide_eq_decide]
    omega
theorem areTerms_spec (xs : List Int) (h : xs.length ≤ 1099511627776) : Spec Try.prog 113 [ints xs] (cb (xs.all isTerm)) := by
  refine Spec_of mx Γ_ok Try.func113 rfl ?_
  conv => whnf
  refine ⟨[(2,0),(5,0),(6,0),(7,0)], fun m s => ∃ (k : Nat) (e : Int), e = k ∧ m + k = xs.length ∧ xs.all isTerm = (xs.drop k).all isTerm ∧
    s = ⟨15, [(2, cb false), (5, ints xs), (6, ci xs.length), (7, ci e)], []⟩, xs.length, ⟨0, 0, rfl, rfl, rfl, rfl⟩, ?_⟩
  rintro m s ⟨k, _, rfl, hm, hall, rfl⟩
  conv => whnf
  split <;> rename_i h3
  all_goals simp only [decide_eq_true_eq, decide_eq_false_iff_not] at h3
  · conv => whnf
    have hk : k < xs.length := by omega
    rw [drop_all hk] at hall
    refine ⟨by omega, rows_len ciL_len _, ?_⟩
    conv => whnf
    refine ⟨_, takeN_rp (k := k) ciL_len hk, ?_⟩
    conv => whnf
    refine ⟨_, implIsTerm_spec xs[k], .inl rfl, .inl ?_⟩
    conv => whnf
    generalize isTerm xs[k] = b1 at hall
    cases b1 with
    | false =>
      conv => whnf
      rw [hall]
      rfl
    | true =>
      conv => whnf
      rw [Bool.true_and] at hall
      exact ⟨m - 1, by omega, k + 1, _, wrap_id (by omega) (by omega), by omega, hall, rfl⟩
  · conv => whnf
    rw [drop_end (by omega)] at hall
    rw [hall]
    rfl
def takesS (s : List Int) (r n : Int) : Bool := isSchema s && (inR r 0 (s.length - 1) && decide (s.getD r.toNat 0 = n))
def isAtom (s : List Int) (a : AtomT) : Bool := takesS s a.1 a.2.length && a.2.all isTerm
theorem takes_spec (s : List Int) (r n : Int) (hs : s.length ≤ 1099511627776) : Spec Try.prog 112 [vSchema s, ci r, ci n] (cb (takesS s r n)) := by
  have hw : IntKind.i64.wrap ((s.length : Int) - 1) = s.length - 1 := wrap_id (by omega) (by omega)
  refine Spec_of mx Γ_ok Try.func112 rfl ?_
  conv => whnf
  refine ⟨_, implIsSchema_spec s hs, .inl rfl, .inl ?_⟩
  conv => whnf
  unfold takesS
  generalize isSchema s = b1
  cases b1 with
  | false =>
    conv => whnf
    rfl
  | true =>
  conv => whnf
  refine ⟨_, within_spec _ _ _, .inl rfl, .inl ?_⟩
  rw [hw]
  conv => whnf
  generalize hb2 : inR r 0 (s.length - 1) = b2
  cases b2 with
  | false =>
    conv => whnf
    rfl
  | true =>
  conv => whnf
  have hr : 0 ≤ r ∧ r ≤ (s.length : Int) - 1 := by simpa [inR] using hb2
  obtain ⟨q, rfl⟩ : ∃ q : Nat, r = q := ⟨r.toNat, by omega⟩
  have hq : q < s.length := by omega
  refine ⟨by omega, rows_len ciL_len s, ?_⟩
  conv => whnf
  refine ⟨_, takeN_rp (k := q) ciL_len hq, ?_⟩
  conv => whnf
  rw [Int.toNat_natCast, getD_at hq]
  show cb (s[q] == n) = cb (decide (s[q] = n))
  congr 1
theorem implIsAtom_spec (s : List Int) (a : AtomT) (hs : s.length ≤ 1099511627776) (ha : a.2.length ≤ 1099511627776) : Spec Try.prog 41 [vSchema s, vAtom a] (cb (isAtom s a)) := by
  refine Spec_of mx Γ_ok Try.func41 rfl ?_
  conv => whnf
  refine ⟨_, takes_spec s a.1 a.2.length hs, .inl rfl, .inl ?_⟩
  conv => whnf
  unfold isAtom
  generalize takesS s a.1 a.2.length = b1
  cases b1 with
  | false =>
    conv => whnf
    rfl
  | true =>
  conv => whnf
  refine ⟨_, areTerms_spec a.2 ha, .inl rfl, .inl ?_⟩
  conv => whnf
  rfl
theorem specIsAtom_spec (s : List Int) (a : AtomT) (hs : s.length ≤ 1099511627776) (ha : a.2.length ≤ 1099511627776) : Spec Try.prog 42 [vSchema s, vAtom a] (cb (isAtom s a)) := by
  have hw : IntKind.i64.wrap ((s.length : Int) - 1) = s.length - 1 := wrap_id (by omega) (by omega)
  refine Spec_of mx Γ_ok Try.func42 rfl ?_
  conv => whnf
  refine ⟨List.range 29, by kernel_rfl, ?_⟩
  conv => whnf
  refine ⟨_, specIsSchema_spec s hs, .inl rfl, .inl ?_⟩
  conv => whnf
  unfold isAtom takesS
  generalize hb1 : isSchema s = b1
  cases b1 with
  | false =>
    conv => whnf
    rfl
  | true =>
  conv => whnf
  refine ⟨_, l1In_spec _ _ _, .inl rfl, .inl ?_⟩
  rw [hw]
  conv => whnf
  generalize hb2 : inR a.1 0 (s.length - 1) = b2
  cases b2 with
  | false =>
    conv => whnf
    rfl
  | true =>
  conv => whnf
  have hr : 0 ≤ a.1 ∧ a.1 ≤ (s.length : Int) - 1 := by simpa [inR] using hb2
  obtain ⟨q, hqa⟩ : ∃ q : Nat, a.1 = q := ⟨a.1.toNat, by omega⟩
  have hq : q < s.length := by omega
  rw [hqa]
  refine ⟨by omega, rows_len ciL_len s, ?_⟩
  conv => whnf
  refine ⟨_, takeN_rp (k := q) ciL_len hq, ?_⟩
  conv => whnf
  have h13 := schema_at hb1 hq
  rw [Int.toNat_natCast, getD_at hq]
  generalize hb3 : ((a.2.length : Int) == s[q]) = b3
  cases b3 with
  | false =>
    conv => whnf
    have : ¬ s[q] = (a.2.length : Int) := fun h => by rw [h, beq_self_eq_true] at hb3; cases hb3
    rw [decide_eq_false this]
    rfl
  | true =>
  conv => whnf
  have he : s[q] = (a.2.length : Int) := (eq_of_beq hb3).symm
  refine ⟨_, l3Terms_spec a.2 ha, .inl rfl, .inl ?_⟩
  conv => whnf
  rw [decide_eq_true he]
  show cb (terms3 a.2) = cb (a.2.all isTerm)
  rw [terms3, decide_eq_true (p := a.2.length ≤ 3) (by omega), Bool.and_true]
end Go.Proofs.YthfjngmbdbocbaaD
