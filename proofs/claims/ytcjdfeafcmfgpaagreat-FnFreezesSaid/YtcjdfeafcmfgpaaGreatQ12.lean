/- Part 12 of the proof of the statement FnFreezes: contracts of functions and plain laws; no condition. -/
import Derived.Test.YtcjdfeafcmfgpaaGreatQ11
set_option linter.unusedVariables false
set_option linter.unusedSimpArgs false
set_option maxRecDepth 100000
namespace Go.Proofs.YtcjdfeafcmfgpaaGreatD
open Go Go.Proofs
abbrev AtomT := Int × List Int
abbrev QueryT := List Int × List AtomT
def isVar (x : Int) : Bool := inR x 0 19
def isTerm (x : Int) : Bool := inR x (-80) 19
def constOf (x : Int) : Int := if inR x (-80) (-1) then -1 - x else -1
theorem isTerm_eq (x : Int) : isTerm x = (isVar x || decide (constOf x ≥ 0)) := by
  rw [Bool.eq_iff_iff]
  simp only [isTerm, isVar, constOf, inR, Bool.or_eq_true, Bool.and_eq_true, decide_eq_true_eq]
  split <;> omega
theorem specIsVar_spec (x : Int) : Spec Tryz.prog 217 [ci x] (cb (isVar x)) := by
  refine Spec_of mx Γ_ok Tryz.func217 rfl ?_
  conv => whnf
  refine ⟨_, l1In_spec x 0 19, .inl rfl, .inl ?_⟩
  conv => whnf
  rfl
theorem implIsVar_spec (x : Int) : Spec Tryz.prog 244 [ci x] (cb (isVar x)) := by
  refine Spec_of mx Γ_ok Tryz.func244 rfl ?_
  conv => whnf
  refine ⟨_, within_spec x 0 19, .inl rfl, .inl ?_⟩
  conv => whnf
  rfl
theorem implIsTerm_spec (x : Int) : Spec Tryz.prog 251 [ci x] (cb (isTerm x)) := by
  refine Spec_of mx Γ_ok Tryz.func251 rfl ?_
  conv => whnf
  refine ⟨_, within_spec x (-80) 19, .inl rfl, .inl ?_⟩
  conv => whnf
  rfl
theorem specConstOf_spec (x : Int) : Spec Tryz.prog 284 [ci x] (ci (constOf x)) := by
  refine Spec_of mx Γ_ok Tryz.func284 rfl ?_
  conv => whnf
  refine ⟨_, l1In_spec x (-80) (-1), .inl rfl, .inl ?_⟩
  conv => whnf
  unfold constOf
  generalize hb1 : inR x (-80) (-1) = b1
  cases b1 with
  | false =>
    conv => whnf
    rfl
  | true =>
    conv => whnf
    have hr : -80 ≤ x ∧ x ≤ -1 := by simpa [inR] using hb1
    show ci (IntKind.i64.wrap (-1 - x)) = ci (-1 - x)
    rw [wrap_id (by omega) (by omega)]
theorem specIsTerm_spec (x : Int) : Spec Tryz.prog 237 [ci x] (cb (isTerm x)) := by
  rw [isTerm_eq]
  refine Spec_of mx Γ_ok Tryz.func237 rfl ?_
  conv => whnf
  refine ⟨_, specIsVar_spec x, .inl rfl, .inl ?_⟩
  conv => whnf
  generalize isVar x = b1
  cases b1 with
  | true =>
    conv => whnf
    rfl
  | false =>
    conv => whnf
    refine ⟨_, specConstOf_spec x, .inl rfl, .inl ?_⟩
    conv => whnf
    rfl
def terms3 (xs : List Int) : Bool := xs.all isTerm && decide (xs.length ≤ 3)
theorem l3Terms_spec (xs : List Int) (h : xs.length ≤ 1099511627776) : Spec Tryz.prog 137 [ints xs] (cb (terms3 xs)) := by
  refine Spec_of mx Γ_ok Tryz.func137 rfl ?_
  conv => whnf
  refine ⟨[(0,0),(2,0),(3,0)], fun m s => ∃ (k : Nat) (e : Int), e = k ∧ m + k = xs.length ∧ xs.all isTerm = (xs.drop k).all isTerm ∧
    s = ⟨19, [(0, ints xs), (2, cb false), (3, ci e)], []⟩, xs.length, ⟨0, 0, rfl, rfl, rfl, rfl⟩, ?_⟩
  rintro m s ⟨k, _, rfl, hm, hall, rfl⟩
  conv => whnf
  split <;> rename_i h3
  all_goals simp only [decide_eq_true_eq, decide_eq_false_iff_not] at h3
  · conv => whnf
    have hk : k < xs.length := by omega
    rw [drop_all hk] at hall
    refine ⟨by omega, rows_len ciL_len _, ?_⟩
    conv => whnf
    refine ⟨_, takeN_rp (k := k) ciL_len hk, ?_⟩
    conv => whnf
    refine ⟨_, specIsTerm_spec xs[k], .inl rfl, .inl ?_⟩
    conv => whnf
    generalize isTerm xs[k] = b1 at hall
    cases b1 with
    | false =>
      conv => whnf
      unfold terms3
      rw [hall]
      rfl
    | true =>
      conv => whnf
      rw [Bool.true_and] at hall
      exact ⟨m - 1, by omega, k + 1, _, wrap_id (by omega) (by omega), by omega, hall, rfl⟩
  · conv => whnf
    rw [drop_end (by omega)] at hall
    unfold terms3
    rw [hall]
    show cb _ = cb _
    congr 1
    simp only [List.all_nil, Bool.true_and, decide_eq_decide]
    omega
theorem areTerms_spec (xs : List Int) (h : xs.length ≤ 1099511627776) : Spec Tryz.prog 161 [ints xs] (cb (xs.all isTerm)) := by
  refine Spec_of mx Γ_ok Tryz.func161 rfl ?_
  conv => whnf
  refine ⟨[(2,0),(5,0),(6,0),(7,0)], fun m s => ∃ (k : Nat) (e : Int), e = k ∧ m + k = xs.length ∧ xs.all isTerm = (xs.drop k).all isTerm ∧
    s = ⟨15, [(2, cb false), (5, ints xs), (6, ci xs.length), (7, ci e)], []⟩, xs.length, ⟨0, 0, rfl, rfl, rfl, rfl⟩, ?_⟩
  rintro m s ⟨k, _, rfl, hm, hall, rfl⟩
  conv => whnf
  split <;> rename_i h3
  all_goals simp only [decide_eq_true_eq, decide_eq_false_iff_not] at h3
  · conv => whnf
    have hk : k < xs.length := by omega
    rw [drop_all hk] at hall
    refine ⟨by omega, rows_len ciL_len _, ?_⟩
    conv => whnf
    refine ⟨_, takeN_rp (k := k) ciL_len hk, ?_⟩
    conv => whnf
    refine ⟨_, implIsTerm_spec xs[k], .inl rfl, .inl ?_⟩
    conv => whnf
    generalize isTerm xs[k] = b1 at hall
    cases b1 with
    | false =>
      conv => whnf
      rw [hall]
      rfl
    | true =>
      conv => whnf
      rw [Bool.true_and] at hall
      exact ⟨m - 1, by omega, k + 1, _, wrap_id (by omega) (by omega), by omega, hall, rfl⟩
  · conv => whnf
    rw [drop_end (by omega)] at hall
    rw [hall]
    rfl
def takesS (s : List Int) (r n : Int) : Bool := isSchema s && (inR r 0 (s.length - 1) && decide (s.getD r.toNat 0 = n))
def isAtom (s : List Int) (a : AtomT) : Bool := takesS s a.1 a.2.length && a.2.all isTerm
theorem takes_spec (s : List Int) (r n : Int) (hs : s.length ≤ 1099511627776) : Spec Tryz.prog 277 [vSchema s, ci r, ci n] (cb (takesS s r n)) := by
  have hw : IntKind.i64.wrap ((s.length : Int) - 1) = s.length - 1 := wrap_id (by omega) (by omega)
  refine Spec_of mx Γ_ok Tryz.func277 rfl ?_
  conv => whnf
  refine ⟨_, implIsSchema_spec s hs, .inl rfl, .inl ?_⟩
  conv => whnf
  unfold takesS
  generalize isSchema s = b1
  cases b1 with
  | false =>
    conv => whnf
    rfl
  | true =>
  conv => whnf
  refine ⟨_, within_spec _ _ _, .inl rfl, .inl ?_⟩
  rw [hw]
  conv => whnf
  generalize hb2 : inR r 0 (s.length - 1) = b2
  cases b2 with
  | false =>
    conv => whnf
    rfl
  | true =>
  conv => whnf
  have hr : 0 ≤ r ∧ r ≤ (s.length : Int) - 1 := by simpa [inR] using hb2
  obtain ⟨q, rfl⟩ : ∃ q : Nat, r = q := ⟨r.toNat, by omega⟩
  have hq : q < s.length := by omega
  refine ⟨by omega, rows_len ciL_len s, ?_⟩
  conv => whnf
  refine ⟨_, takeN_rp (k := q) ciL_len hq, ?_⟩
  conv => whnf
  rw [Int.toNat_natCast, getD_at hq]
  show cb (s[q] == n) = cb (decide (s[q] = n))
  congr 1
theorem implIsAtom_spec (s : List Int) (a : AtomT) (hs : s.length ≤ 1099511627776) (ha : a.2.length ≤ 1099511627776) : Spec Tryz.prog 215 [vSchema s, vAtom a] (cb (isAtom s a)) := by
  refine Spec_of mx Γ_ok Tryz.func215 rfl ?_
  conv => whnf
  refine ⟨_, takes_spec s a.1 a.2.length hs, .inl rfl, .inl ?_⟩
  conv => whnf
  unfold isAtom
  generalize takesS s a.1 a.2.length = b1
  cases b1 with
  | false =>
    conv => whnf
    rfl
  | true =>
  conv => whnf
  refine ⟨_, areTerms_spec a.2 ha, .inl rfl, .inl ?_⟩
  conv => whnf
  rfl
theorem specIsAtom_spec (s : List Int) (a : AtomT) (hs : s.length ≤ 1099511627776) (ha : a.2.length ≤ 1099511627776) : Spec Tryz.prog 216 [vSchema s, vAtom a] (cb (isAtom s a)) := by
  have hw : IntKind.i64.wrap ((s.length : Int) - 1) = s.length - 1 := wrap_id (by omega) (by omega)
  refine Spec_of mx Γ_ok Tryz.func216 rfl ?_
  conv => whnf
  refine ⟨List.range 29, by kernel_rfl, ?_⟩
  conv => whnf
  refine ⟨_, specIsSchema_spec s hs, .inl rfl, .inl ?_⟩
  conv => whnf
  unfold isAtom takesS
  generalize hb1 : isSchema s = b1
  cases b1 with
  | false =>
    conv => whnf
    rfl
  | true =>
  conv => whnf
  refine ⟨_, l1In_spec _ _ _, .inl rfl, .inl ?_⟩
  rw [hw]
  conv => whnf
  generalize hb2 : inR a.1 0 (s.length - 1) = b2
  cases b2 with
  | false =>
    conv => whnf
    rfl
  | true =>
  conv => whnf
  have hr : 0 ≤ a.1 ∧ a.1 ≤ (s.length : Int) - 1 := by simpa [inR] using hb2
  obtain ⟨q, hqa⟩ : ∃ q : Nat, a.1 = q := ⟨a.1.toNat, by omega⟩
  have hq : q < s.length := by omega
  rw [hqa]
  refine ⟨by omega, rows_len ciL_len s, ?_⟩
  conv => whnf
  refine ⟨_, takeN_rp (k := q) ciL_len hq, ?_⟩
  conv => whnf
  have h13 := schema_at hb1 hq
  rw [Int.toNat_natCast, getD_at hq]
  generalize hb3 : ((a.2.length : Int) == s[q]) = b3
  cases b3 with
  | false =>
    conv => whnf
    have : ¬ s[q] = (a.2.length : Int) := fun h => by rw [h, beq_self_eq_true] at hb3; cases hb3
    rw [decide_eq_false this]
    rfl
  | true =>
  conv => whnf
  have he : s[q] = (a.2.length : Int) := (eq_of_beq hb3).symm
  refine ⟨_, l3Terms_spec a.2 ha, .inl rfl, .inl ?_⟩
  conv => whnf
  rw [decide_eq_true he]
  show cb (terms3 a.2) = cb (a.2.all isTerm)
  rw [terms3, decide_eq_true (p := a.2.length ≤ 3) (by omega), Bool.and_true]
end Go.Proofs.YtcjdfeafcmfgpaaGreatD
set_option linter.unusedVariables false
set_option linter.unusedSimpArgs false
set_option maxRecDepth 100000
namespace Go.Proofs.YtcjdfeafcmfgpaaGreatD
open Go Go.Proofs
theorem snoc_rows {α : Type} (f : α → List V) (xs : List α) (x : α) : rows f xs ++ f x = rows f (xs ++ [x]) := by
  rw [rows_append]
  congr 1
  simp [rows]
end Go.Proofs.YtcjdfeafcmfgpaaGreatD
set_option linter.unusedVariables false
set_option linter.unusedSimpArgs false
set_option maxRecDepth 100000
namespace Go.Proofs.YtcjdfeafcmfgpaaGreatD
open Go Go.Proofs
abbrev FactC := Int × List Int
def cmp1 (x y : Int) : Int := if x < y then -1 else if y < x then 1 else 0
def ltI : List Int → List Int → Bool
  | _, [] => false
  | [], _ :: _ => true
  | x :: xs, y :: ys => if x = y then ltI xs ys else decide (x < y)
def cmpI : List Int → List Int → Int
  | [], [] => 0
  | [], _ :: _ => -1
  | _ :: _, [] => 1
  | x :: xs, y :: ys => if x < y then -1 else if y < x then 1 else cmpI xs ys
def ltF (a b : FactC) : Bool := if a.1 = b.1 then ltI a.2 b.2 else decide (a.1 < b.1)
def cmpF (a b : FactC) : Int := if a.1 < b.1 then -1 else if b.1 < a.1 then 1 else cmpI a.2 b.2
def eqF (a b : FactC) : Bool := decide (a = b)
theorem eqF_eq (a b : FactC) : eqF a b = (decide (a.1 = b.1) && decide (a.2 = b.2)) := by
  unfold eqF
  rw [← Bool.decide_and, decide_eq_decide]
  exact Prod.ext_iff
theorem l2Less_spec (xs ys : List Int) (hl : xs.length ≤ 1099511627776) (hl' : ys.length ≤ 1099511627776) : Spec Tryz.prog 213 [ints xs, ints ys] (cb (ltI xs ys)) := by
  refine Spec_of mx Γ_ok Tryz.func213 rfl ?_
  conv => whnf
  refine ⟨[(0,0),(1,0),(4,0),(5,0)], fun m s => ∃ (k : Nat) (e : Int), e = k ∧ m + k = xs.length ∧ k ≤ ys.length ∧ ltI xs ys = ltI (xs.drop k) (ys.drop k) ∧
    s = ⟨41, [(0, ints xs), (1, ints ys), (4, cb false), (5, ci e)], []⟩, xs.length, ⟨0, 0, rfl, rfl, Nat.zero_le _, rfl, rfl⟩, ?_⟩
  rintro m s ⟨k, _, rfl, hm, hky, hj, rfl⟩
  conv => whnf
  generalize hc1 : decide ((k : Int) < (xs.length : Int)) = c1
  cases c1 with
  | false =>
    have hk : k = xs.length := by have := of_decide_eq_false hc1; omega
    conv => whnf
    rw [hj, drop_end (by omega)]
    have hlt : ∀ l : List Int, ltI [] l = decide (0 < l.length) := fun l => by cases l <;> rfl
    rw [hlt, List.length_drop]
    show cb _ = cb _
    congr 1
    rw [decide_eq_decide]
    omega
  | true =>
    have hk : k < xs.length := by have := of_decide_eq_true hc1; omega
    conv => whnf
    generalize hc2 : decide ((k : Int) < (ys.length : Int)) = c2
    cases c2 with
    | false =>
      have hk2 : k = ys.length := by have := of_decide_eq_false hc2; omega
      conv => whnf
      rw [hj, drop_end (xs := ys) (by omega)]
      have hlt : ∀ l : List Int, ltI l [] = false := fun l => by cases l <;> rfl
      rw [hlt]
      show cb _ = cb _
      rw [decide_eq_false (by omega)]
    | true =>
      have hk2 : k < ys.length := by have := of_decide_eq_true hc2; omega
      conv => whnf
      refine ⟨List.range 9, by kernel_rfl, ?_⟩
      conv => whnf
      refine ⟨by omega, rows_len ciL_len xs, ?_⟩
      conv => whnf
      refine ⟨_, takeN_rp (k := k) ciL_len hk, ?_⟩
      conv => whnf
      refine ⟨by omega, rows_len ciL_len ys, ?_⟩
      conv => whnf
      refine ⟨_, takeN_rp (k := k) ciL_len hk2, ?_⟩
      rw [List.drop_eq_getElem_cons hk, List.drop_eq_getElem_cons hk2, ltI] at hj
      conv => whnf
      split <;> rename_i h2
      · have h3 : ¬ xs[k] = ys[k] := by simpa using h2
        rw [if_neg h3] at hj
        conv => whnf
        refine ⟨List.range 10, by kernel_rfl, ?_⟩
        conv => whnf
        refine ⟨by omega, rows_len ciL_len xs, ?_⟩
        conv => whnf
        refine ⟨_, takeN_rp (k := k) ciL_len hk, ?_⟩
        conv => whnf
        refine ⟨by omega, rows_len ciL_len ys, ?_⟩
        conv => whnf
        refine ⟨_, takeN_rp (k := k) ciL_len hk2, ?_⟩
        conv => whnf
        rw [hj]
        rfl
      · have h3 : xs[k] = ys[k] := by simpa using h2
        rw [if_pos h3] at hj
        conv => whnf
        exact ⟨m - 1, by omega, k + 1, _, wrap_id (by omega) (by omega), by omega, by omega, hj, rfl⟩
theorem l5Less_spec (a b : FactC) (ha : a.2.length ≤ 1099511627776) (hb : b.2.length ≤ 1099511627776) : Spec Tryz.prog 155 [vFact a, vFact b] (cb (ltF a b)) := by
  refine Spec_of mx Γ_ok Tryz.func155 rfl ?_
  conv => whnf
  unfold ltF
  split <;> rename_i h2
  · have h3 : ¬ a.1 = b.1 := by simpa using h2
    conv => whnf
    rw [if_neg h3]
    rfl
  · have h3 : a.1 = b.1 := by simpa using h2
    conv => whnf
    refine ⟨_, l2Less_spec a.2 b.2 ha hb, .inl rfl, .inl ?_⟩
    conv => whnf
    rw [if_pos h3]
    rfl
theorem l5Same_spec (a b : FactC) (ha : a.2.length ≤ 1099511627776) (hb : b.2.length ≤ 1099511627776) : Spec Tryz.prog 153 [vFact a, vFact b] (cb (eqF a b)) := by
  rw [eqF_eq]
  refine Spec_of mx Γ_ok Tryz.func153 rfl ?_
  conv => whnf
  generalize hc : (a.1 == b.1) = c
  have hc' : decide (a.1 = b.1) = c := by rw [← hc]; rfl
  rw [hc']
  cases c with
  | false =>
    conv => whnf
    rfl
  | true =>
    conv => whnf
    refine ⟨_, l2Ints_spec a.2 b.2 ha hb, .inl rfl, .inl ?_⟩
    conv => whnf
    rfl
theorem equalFact_spec (a b : FactC) (ha : a.2.length ≤ 1099511627776) (hb : b.2.length ≤ 1099511627776) : Spec Tryz.prog 141 [vFact a, vFact b] (cb (eqF a b)) := by
  rw [eqF_eq]
  refine Spec_of mx Γ_ok Tryz.func141 rfl ?_
  conv => whnf
  generalize hc : (a.1 == b.1) = c
  have hc' : decide (a.1 = b.1) = c := by rw [← hc]; rfl
  rw [hc']
  cases c with
  | false =>
    conv => whnf
    rfl
  | true =>
    conv => whnf
    refine ⟨_, slicesEq_spec a.2 b.2 ha hb, .inl rfl, .inl ?_⟩
    conv => whnf
    rfl
theorem isNaN_spec (x : Int) : Spec Tryz.prog 308 [ci x] (cb false) := by
  refine Spec_of mx Γ_ok Tryz.func308 rfl ?_
  conv => whnf
  show cb (x != x) = cb false
  rw [bne_self_eq_false]
theorem cmpCompare_spec (x y : Int) : Spec Tryz.prog 258 [ci x, ci y] (ci (cmp1 x y)) := by
  refine Spec_of mx Γ_ok Tryz.func258 rfl ?_
  conv => whnf
  refine ⟨_, isNaN_spec x, .inl rfl, .inl ?_⟩
  conv => whnf
  refine ⟨_, isNaN_spec y, .inl rfl, .inl ?_⟩
  conv => whnf
  unfold cmp1
  split <;> rename_i h1
  · have h1 : x < y := of_decide_eq_true h1
    conv => whnf
    rw [if_pos h1]
    rfl
  · have h1 : ¬ x < y := of_decide_eq_false h1
    conv => whnf
    rw [if_neg h1]
    split <;> rename_i h2
    · have h2 : y < x := of_decide_eq_true h2
      conv => whnf
      rw [if_pos h2]
      rfl
    · have h2 : ¬ y < x := of_decide_eq_false h2
      conv => whnf
      rw [if_neg h2]
      rfl
theorem slicesCompare_spec (xs ys : List Int) (hl : xs.length ≤ 1099511627776) (hl' : ys.length ≤ 1099511627776) : Spec Tryz.prog 172 [ints xs, ints ys] (ci (cmpI xs ys)) := by
  refine Spec_of mx Γ_ok Tryz.func172 rfl ?_
  conv => whnf
  refine ⟨[(0,0),(1,0),(4,0),(9,0),(10,0),(11,0)], fun m s => ∃ (k : Nat) (e : Int), e = k ∧ m + k = xs.length ∧ k ≤ ys.length ∧ cmpI xs ys = cmpI (xs.drop k) (ys.drop k) ∧
    s = ⟨36, [(0, ints xs), (1, ints ys), (4, ci 0), (9, ints xs), (10, ci xs.length), (11, ci e)], []⟩, xs.length, ⟨0, 0, rfl, rfl, Nat.zero_le _, rfl, rfl⟩, ?_⟩
  rintro m s ⟨k, _, rfl, hm, hky, hj, rfl⟩
  conv => whnf
  split <;> rename_i h1
  all_goals simp only [decide_eq_true_eq, decide_eq_false_iff_not] at h1
  · conv => whnf
    have hk : k < xs.length := by omega
    refine ⟨by omega, rows_len ciL_len xs, ?_⟩
    conv => whnf
    refine ⟨_, takeN_rp (k := k) ciL_len hk, ?_⟩
    conv => whnf
    rw [List.drop_eq_getElem_cons hk] at hj
    split <;> rename_i h2
    all_goals simp only [decide_eq_true_eq, decide_eq_false_iff_not] at h2
    · conv => whnf
      rw [hj, drop_end (xs := ys) (by omega)]
      rfl
    · conv => whnf
      have hk2 : k < ys.length := by omega
      refine ⟨by omega, rows_len ciL_len ys, ?_⟩
      conv => whnf
      refine ⟨_, takeN_rp (k := k) ciL_len hk2, ?_⟩
      conv => whnf
      refine ⟨_, cmpCompare_spec xs[k] ys[k], .inl rfl, .inl ?_⟩
      conv => whnf
      rw [List.drop_eq_getElem_cons hk2, cmpI] at hj
      generalize hc : cmp1 xs[k] ys[k] = c
      unfold cmp1 at hc
      split <;> rename_i h3
      · have h4 : ¬ c = 0 := by simpa using h3
        conv => whnf
        rw [hj]
        split at hc
        · rename_i h5; rw [if_pos h5, ← hc]; rfl
        · rename_i h5
          rw [if_neg h5]
          split at hc
          · rename_i h6; rw [if_pos h6, ← hc]; rfl
          · exact absurd hc.symm h4
      · have h4 : c = 0 := by simpa using h3
        conv => whnf
        refine ⟨m - 1, by omega, k + 1, _, wrap_id (by omega) (by omega), by omega, by omega, ?_, rfl⟩
        rw [hj]
        split at hc
        · omega
        · rename_i h5
          rw [if_neg h5]
          split at hc
          · omega
          · rename_i h6; rw [if_neg h6]
  · conv => whnf
    rw [hj, drop_end (xs := xs) (by omega)]
    split <;> rename_i h2
    all_goals simp only [decide_eq_true_eq, decide_eq_false_iff_not] at h2
    · conv => whnf
      have hk2 : k < ys.length := by omega
      rw [List.drop_eq_getElem_cons hk2]
      rfl
    · conv => whnf
      rw [drop_end (xs := ys) (by omega)]
      rfl
theorem compareFacts_spec (a b : FactC) (ha : a.2.length ≤ 1099511627776) (hb : b.2.length ≤ 1099511627776) : Spec Tryz.prog 164 [vFact a, vFact b] (ci (cmpF a b)) := by
  refine Spec_of mx Γ_ok Tryz.func164 rfl ?_
  conv => whnf
  unfold cmpF
  split <;> rename_i h1
  · have h1 : a.1 < b.1 := of_decide_eq_true h1
    conv => whnf
    rw [if_pos h1]
    rfl
  · have h1 : ¬ a.1 < b.1 := of_decide_eq_false h1
    conv => whnf
    rw [if_neg h1]
    split <;> rename_i h2
    · have h2 : b.1 < a.1 := of_decide_eq_true h2
      conv => whnf
      rw [if_pos h2]
      rfl
    · have h2 : ¬ b.1 < a.1 := of_decide_eq_false h2
      conv => whnf
      rw [if_neg h2]
      refine ⟨_, slicesCompare_spec a.2 b.2 ha hb, .inl rfl, .inl ?_⟩
      conv => whnf
      rfl
def fz (x : Int) : Int := if x < 0 then -1 - x else 80 + x
theorem l8Value_spec (x : Int) (h : isTerm x = true) : Spec Tryz.prog 184 [ci x] (ci (fz x)) := by
  have hr : -80 ≤ x ∧ x ≤ 19 := by simpa [isTerm, inR] using h
  refine Spec_of mx Γ_ok Tryz.func184 rfl ?_
  conv => whnf
  unfold fz
  split <;> rename_i h1
  · have h1 : x < 0 := of_decide_eq_true h1
    conv => whnf
    rw [if_pos h1]
    show ci (IntKind.i64.wrap (-1 - x)) = ci (-1 - x)
    rw [wrap_id (by omega) (by omega)]
  · have h1 : ¬ x < 0 := of_decide_eq_false h1
    conv => whnf
    rw [if_neg h1]
    show ci (IntKind.i64.wrap (80 + x)) = ci (80 + x)
    rw [wrap_id (by omega) (by omega)]
theorem implConstOf_spec (x : Int) : Spec Tryz.prog 268 [ci x] (ci (constOf x)) := by
  refine Spec_of mx Γ_ok Tryz.func268 rfl ?_
  conv => whnf
  refine ⟨_, implIsTerm_spec x, .inl rfl, .inl ?_⟩
  conv => whnf
  generalize ht : isTerm x = b1
  cases b1 with
  | false =>
    conv => whnf
    have hr : ¬ (-80 ≤ x ∧ x ≤ 19) := by
      intro hh
      have : isTerm x = true := by simp [isTerm, inR, hh]
      rw [this] at ht; cases ht
    unfold constOf
    rw [if_neg]
    · rfl
    · simp [inR]; omega
  | true =>
    have hr : -80 ≤ x ∧ x ≤ 19 := by simpa [isTerm, inR] using ht
    conv => whnf
    refine ⟨_, implIsVar_spec x, .inl rfl, .inl ?_⟩
    conv => whnf
    generalize hv : isVar x = b2
    cases b2 with
    | true =>
      have hv : 0 ≤ x ∧ x ≤ 19 := by simpa [isVar, inR] using hv
      conv => whnf
      unfold constOf
      rw [if_neg]
      · rfl
      · simp [inR]; omega
    | false =>
      have hv : ¬ (0 ≤ x ∧ x ≤ 19) := by
        intro hh
        have : isVar x = true := by simp [isVar, inR, hh]
        rw [this] at hv; cases hv
      conv => whnf
      unfold constOf
      rw [if_pos]
      · show ci (IntKind.i64.wrap (-1 - x)) = ci (-1 - x)
        rw [wrap_id (by omega) (by omega)]
      · simp [inR]; omega
theorem frozen_spec (x : Int) (h : isTerm x = true) : Spec Tryz.prog 189 [ci x] (ci (fz x)) := by
  have hr : -80 ≤ x ∧ x ≤ 19 := by simpa [isTerm, inR] using h
  refine Spec_of mx Γ_ok Tryz.func189 rfl ?_
  conv => whnf
  refine ⟨_, implIsVar_spec x, .inl rfl, .inl ?_⟩
  conv => whnf
  unfold fz
  generalize hv : isVar x = b2
  cases b2 with
  | true =>
    have hv : 0 ≤ x ∧ x ≤ 19 := by simpa [isVar, inR] using hv
    conv => whnf
    rw [if_neg (by omega)]
    show ci (IntKind.i64.wrap (80 + x)) = ci (80 + x)
    rw [wrap_id (by omega) (by omega)]
  | false =>
    have hv : ¬ (0 ≤ x ∧ x ≤ 19) := by
      intro hh
      have : isVar x = true := by simp [isVar, inR, hh]
      rw [this] at hv; cases hv
    conv => whnf
    refine ⟨_, implConstOf_spec x, .inl rfl, .inl ?_⟩
    conv => whnf
    rw [if_pos (by omega)]
    unfold constOf
    rw [if_pos (by simp [inR]; omega)]
    rfl
theorem fz_all_at {xs : List Int} {p : Int → Bool} (h : xs.all p = true) {k : Nat} (hk : k < xs.length) : p xs[k] = true := List.all_eq_true.1 h _ (List.getElem_mem hk)
theorem l8Values_spec (xs : List Int) (h : xs.length ≤ 1099511627776) (ht : xs.all isTerm = true) : Spec Tryz.prog 139 [ints xs] (intsT (xs.map fz)) := by
  refine Spec_of mx Γ_ok Tryz.func139 rfl ?_
  conv => whnf
  refine ⟨[(0,0),(2,0),(3,0),(4,0)], fun m s => ∃ (k : Nat) (e : Int) (n : Nat) (r : List V), e = k ∧ m + k = xs.length ∧ n = k ∧ r = rows ciL ((xs.take k).map fz) ∧
    s = ⟨21, [(0, ints xs), (2, cnil), (3, .own 0 1 0 n n none), (4, ci e)], [some ⟨false, r⟩]⟩, xs.length, ⟨0, 0, 0, _, rfl, rfl, rfl, rfl, rfl⟩, ?_⟩
  rintro m s ⟨k, _, n, _, rfl, hm, rfl, rfl, rfl⟩
  conv => whnf
  split <;> rename_i h1
  all_goals simp only [decide_eq_true_eq, decide_eq_false_iff_not] at h1
  · conv => whnf
    have hk : n < xs.length := by omega
    refine ⟨by omega, rows_len ciL_len xs, ?_⟩
    conv => whnf
    refine ⟨_, takeN_rp (k := n) ciL_len hk, ?_⟩
    conv => whnf
    refine ⟨_, l8Value_spec xs[n] (fz_all_at ht hk), .inl rfl, .inl ?_⟩
    conv => whnf
    refine ⟨_, rfl, .inl ⟨flat1 rfl, ?_⟩⟩
    conv => whnf
    refine ⟨by omega, by rw [rows_len ciL_len, List.length_map, List.length_take]; congr 1; omega, _, snoc_ci _ _, ?_⟩
    conv => whnf
    refine ⟨m - 1, by omega, n + 1, _, _, _, wrap_id (by omega) (by omega), by omega, rfl, ?_, rfl⟩
    rw [List.take_succ_eq_append_getElem hk, List.map_append, List.map_singleton]
  · conv => whnf
    have hkk : n = xs.length := by omega
    subst hkk
    rw [List.take_length]
    refine ⟨by rw [rows_len ciL_len, List.length_map], ?_⟩
    show V.tr 1 xs.length _ = intsT _
    rw [intsT, List.length_map]
theorem frozenAll_spec (xs : List Int) (h : xs.length ≤ 1099511627776) (ht : xs.all isTerm = true) : Spec Tryz.prog 162 [ints xs] (intsT (xs.map fz)) := by
  refine Spec_of mx Γ_ok Tryz.func162 rfl ?_
  conv => whnf
  refine ⟨[(2,0),(3,0),(7,0),(8,0),(9,0)], fun m s => ∃ (k : Nat) (e : Int) (n : Nat) (r : List V), e = k ∧ m + k = xs.length ∧ n = k ∧ r = rows ciL ((xs.take k).map fz) ∧
    s = ⟨20, [(2, cnil), (3, .own 0 1 0 n n none), (7, ints xs), (8, ci xs.length), (9, ci e)], [some ⟨false, r⟩]⟩, xs.length, ⟨0, 0, 0, _, rfl, rfl, rfl, rfl, rfl⟩, ?_⟩
  rintro m s ⟨k, _, n, _, rfl, hm, rfl, rfl, rfl⟩
  conv => whnf
  split <;> rename_i h1
  all_goals simp only [decide_eq_true_eq, decide_eq_false_iff_not] at h1
  · conv => whnf
    have hk : n < xs.length := by omega
    refine ⟨by omega, rows_len ciL_len xs, ?_⟩
    conv => whnf
    refine ⟨_, takeN_rp (k := n) ciL_len hk, ?_⟩
    conv => whnf
    refine ⟨_, frozen_spec xs[n] (fz_all_at ht hk), .inl rfl, .inl ?_⟩
    conv => whnf
    refine ⟨_, rfl, .inl ⟨flat1 rfl, ?_⟩⟩
    conv => whnf
    refine ⟨by omega, by rw [rows_len ciL_len, List.length_map, List.length_take]; congr 1; omega, _, snoc_ci _ _, ?_⟩
    conv => whnf
    refine ⟨m - 1, by omega, n + 1, _, _, _, wrap_id (by omega) (by omega), by omega, rfl, ?_, rfl⟩
    rw [List.take_succ_eq_append_getElem hk, List.map_append, List.map_singleton]
  · conv => whnf
    have hkk : n = xs.length := by omega
    subst hkk
    rw [List.take_length]
    refine ⟨by rw [rows_len ciL_len, List.length_map], ?_⟩
    show V.tr 1 xs.length _ = intsT _
    rw [intsT, List.length_map]
end Go.Proofs.YtcjdfeafcmfgpaaGreatD
