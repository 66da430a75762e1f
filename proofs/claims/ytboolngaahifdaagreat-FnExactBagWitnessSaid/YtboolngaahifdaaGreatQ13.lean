/- Contracts and plain laws of this seat; no condition. -/
import Derived.Test.YtboolngaahifdaaGreatQ12
set_option linter.unusedVariables false
set_option linter.unusedSimpArgs false
set_option maxRecDepth 100000
namespace Go.Proofs.YtboolngaahifdaaGreatD
open Go Go.Proofs
theorem drop_eq_at {α : Type} [DecidableEq α] {xs ys : List α} {k : Nat} (hk : k < xs.length) (hk' : k < ys.length) : decide (xs.drop k = ys.drop k) = (decide (xs[k] = ys[k]) && decide (xs.drop (k + 1) = ys.drop (k + 1))) := by
 rw [List.drop_eq_getElem_cons hk, List.drop_eq_getElem_cons hk', ← Bool.decide_and, decide_eq_decide]
 simp only [List.cons.injEq]
theorem ne_len {α : Type} [DecidableEq α] {xs ys : List α} (h : xs.length ≠ ys.length) : decide (xs = ys) = false := decide_eq_false fun e => h (congrArg List.length e)
theorem l2Ints_spec (xs ys : List Int) (hl : xs.length ≤ 1099511627776) (hl' : ys.length ≤ 1099511627776) : Spec Tryz.prog 77 [ints xs, ints ys] (cb (decide (xs = ys))) := by
 refine Spec_of mx Γ_ok Tryz.func77 rfl ?_
 conv => whnf
 split <;> rename_i h0
 ·conv => whnf
  simp only [bne_iff_ne, ne_eq] at h0
  show cb false = _
  rw [ne_len (by omega)]
 conv => whnf
 have h0' : xs.length = ys.length := by
  have h3 : (xs.length : Int) = ys.length := by simpa using h0
  omega
 refine ⟨[(0,0),(1,0),(4,0),(5,0)], fun m s => ∃ (k : Nat) (e : Int), e = k ∧ m + k = xs.length ∧ decide (xs = ys) = decide (xs.drop k = ys.drop k) ∧
  s = ⟨26, [(0, ints xs), (1, ints ys), (4, cb false), (5, ci e)], []⟩, xs.length, ⟨0, 0, rfl, rfl, rfl, rfl⟩, ?_⟩
 rintro m s ⟨k, _, rfl, hm, hj, rfl⟩
 conv => whnf
 split <;> rename_i h1
 all_goals simp only [decide_eq_true_eq, decide_eq_false_iff_not] at h1
 ·conv => whnf
  have hk : k < xs.length := by omega
  have hk' : k < ys.length := by omega
  rw [drop_eq_at hk hk'] at hj
  refine ⟨List.range 9, by kernel_rfl, ?_⟩
  conv => whnf
  refine ⟨by omega, rows_len ciL_len xs, ?_⟩
  conv => whnf
  refine ⟨_, takeN_rp (k := k) ciL_len hk, ?_⟩
  conv => whnf
  refine ⟨by omega, rows_len ciL_len ys, ?_⟩
  conv => whnf
  refine ⟨_, takeN_rp (k := k) ciL_len hk', ?_⟩
  conv => whnf
  split <;> rename_i h2
  ·conv => whnf
   show cb false = _
   rw [hj, decide_eq_false (p := xs[k] = ys[k]) (by simpa using h2), Bool.false_and]
  ·conv => whnf
   rw [decide_eq_true (p := xs[k] = ys[k]) (by simpa using h2), Bool.true_and] at hj
   exact ⟨m - 1, by omega, k + 1, _, wrap_id (by omega) (by omega), by omega, hj, rfl⟩
 ·conv => whnf
  rw [hj, drop_end (by omega), drop_end (by omega)]
  rfl
theorem slicesEq_spec (xs ys : List Int) (hl : xs.length ≤ 1099511627776) (hl' : ys.length ≤ 1099511627776) : Spec Tryz.prog 119 [ints xs, ints ys] (cb (decide (xs = ys))) := by
 refine Spec_of mx Γ_ok Tryz.func119 rfl ?_
 conv => whnf
 split <;> rename_i h0
 ·conv => whnf
  simp only [bne_iff_ne, ne_eq] at h0
  show cb false = _
  rw [ne_len (by omega)]
 conv => whnf
 have h0' : xs.length = ys.length := by
  have h3 : (xs.length : Int) = ys.length := by simpa using h0
  omega
 refine ⟨[(0,0),(1,0),(4,0),(12,0),(13,0)], fun m s => ∃ (k : Nat) (e : Int), e = k ∧ m + k = xs.length ∧ decide (xs = ys) = decide (xs.drop k = ys.drop k) ∧
  s = ⟨26, [(0, ints xs), (1, ints ys), (4, cb false), (12, ci xs.length), (13, ci e)], []⟩, xs.length, ⟨0, 0, rfl, rfl, rfl, rfl⟩, ?_⟩
 rintro m s ⟨k, _, rfl, hm, hj, rfl⟩
 conv => whnf
 split <;> rename_i h1
 all_goals simp only [decide_eq_true_eq, decide_eq_false_iff_not] at h1
 ·conv => whnf
  have hk : k < xs.length := by omega
  have hk' : k < ys.length := by omega
  rw [drop_eq_at hk hk'] at hj
  refine ⟨List.range 9, by kernel_rfl, ?_⟩
  conv => whnf
  refine ⟨by omega, rows_len ciL_len xs, ?_⟩
  conv => whnf
  refine ⟨_, takeN_rp (k := k) ciL_len hk, ?_⟩
  conv => whnf
  refine ⟨by omega, rows_len ciL_len ys, ?_⟩
  conv => whnf
  refine ⟨_, takeN_rp (k := k) ciL_len hk', ?_⟩
  conv => whnf
  split <;> rename_i h2
  ·conv => whnf
   show cb false = _
   rw [hj, decide_eq_false (p := xs[k] = ys[k]) (by simpa using h2), Bool.false_and]
  ·conv => whnf
   rw [decide_eq_true (p := xs[k] = ys[k]) (by simpa using h2), Bool.true_and] at hj
   exact ⟨m - 1, by omega, k + 1, _, wrap_id (by omega) (by omega), by omega, hj, rfl⟩
 ·conv => whnf
  rw [hj, drop_end (by omega), drop_end (by omega)]
  rfl
def schema (xs : List Int) : V := .agg [ints xs]
def key (r : Int) (xs : List Int) : V := .agg [ci r, ints xs]
def inR (x lo hi : Int) : Bool := decide (lo ≤ x) && decide (x ≤ hi)
theorem inR_of {x lo hi : Int} {b : Bool} (h : decide (x ≥ lo) = b) : inR x lo hi = (b && decide (x ≤ hi)) := by
 unfold inR
 rw [show decide (lo ≤ x) = b from h]
theorem l1In_spec (x lo hi : Int) : Spec Tryz.prog 127 [ci x, ci lo, ci hi] (cb (inR x lo hi)) := by
 refine Spec_of mx Γ_ok Tryz.func127 rfl ?_
 (repeat' ((conv => whnf); (split <;> rename_i hsplit <;> (try rw [hsplit]))))
 all_goals conv => whnf
 ·rw [inR_of hsplit, Bool.true_and]
  rfl
 ·rw [inR_of hsplit, Bool.false_and]
  rfl
theorem within_spec (x lo hi : Int) : Spec Tryz.prog 85 [ci x, ci lo, ci hi] (cb (inR x lo hi)) := by
 refine Spec_of mx Γ_ok Tryz.func85 rfl ?_
 (repeat' ((conv => whnf); (split <;> rename_i hsplit <;> (try rw [hsplit]))))
 all_goals conv => whnf
 ·rw [inR_of hsplit, Bool.true_and]
  rfl
 ·rw [inR_of hsplit, Bool.false_and]
  rfl
def isSchema (xs : List Int) : Bool := xs.all (fun x => inR x 1 3) && inR xs.length 1 4
theorem all_true {α : Type} {p : α → Bool} {xs : List α} (h : ∀ j y, j < xs.length → xs[j]? = some y → p y = true) : xs.all p = true := by
 rw [List.all_eq_true]
 intro y hy
 obtain ⟨j, hj⟩ := List.getElem?_of_mem hy
 exact h j y (List.getElem?_eq_some_iff.1 hj).1 hj
theorem all_false {α : Type} {p : α → Bool} {xs : List α} {k : Nat} (hk : k < xs.length) (h : p xs[k] = false) : xs.all p = false := by
 rw [Bool.eq_false_iff]
 intro ha
 rw [List.all_eq_true] at ha
 rw [ha _ (List.getElem_mem hk)] at h
 cases h
theorem step_inv {α : Type} {p : α → Bool} {xs : List α} {k : Nat} (hk : k < xs.length) (hj : ∀ j y, j < k → xs[j]? = some y → p y = true) (h : p xs[k] = true) : ∀ j y, j < k + 1 → xs[j]? = some y → p y = true := by
 intro j y hlt hy
 rcases Nat.lt_succ_iff_lt_or_eq.1 hlt with h1 | rfl
 ·exact hj j y h1 hy
 ·rw [List.getElem?_eq_getElem hk] at hy
  cases hy
  exact h
theorem specIsSchema_spec (xs : List Int) (hl : xs.length ≤ 1099511627776) : Spec Tryz.prog 95 [schema xs] (cb (isSchema xs)) := by
 refine Spec_of mx Γ_ok Tryz.func95 rfl ?_
 conv => whnf
 refine ⟨[(1,0),(2,0),(3,0)], fun m s => ∃ (k : Nat) (e : Int), e = k ∧ m + k = xs.length ∧ (∀ j y, j < k → xs[j]? = some y → inR y 1 3 = true) ∧
  s = ⟨22, [(1, .ptr 0 0), (2, cb false), (3, ci e)], [some ⟨true, [ints xs]⟩]⟩, xs.length, ⟨0, 0, rfl, rfl, by simp, rfl⟩, ?_⟩
 rintro m s ⟨k, _, rfl, hm, hj, rfl⟩
 conv => whnf
 split <;> rename_i h1
 all_goals simp only [decide_eq_true_eq, decide_eq_false_iff_not] at h1
 ·conv => whnf
  have hk : k < xs.length := by omega
  refine ⟨by omega, rows_len ciL_len xs, ?_⟩
  conv => whnf
  refine ⟨_, takeN_rp (k := k) ciL_len hk, ?_⟩
  conv => whnf
  refine ⟨_, l1In_spec _ _ _, .inl rfl, .inl ?_⟩
  conv => whnf
  split <;> rename_i h2
  all_goals simp only [Bool.not_eq_true', Bool.not_eq_false'] at h2
  ·conv => whnf
   show cb false = _
   unfold isSchema
   rw [all_false (p := fun x => inR x 1 3) hk h2, Bool.false_and]
  ·conv => whnf
   exact ⟨m - 1, by omega, k + 1, _, wrap_id (by omega) (by omega), by omega, step_inv hk hj h2, rfl⟩
 ·conv => whnf
  refine ⟨_, l1In_spec _ _ _, .inl rfl, .inl ?_⟩
  conv => whnf
  show cb (inR xs.length 1 4) = _
  unfold isSchema
  rw [all_true (p := fun x => inR x 1 3) fun j y h hy => hj j y (by omega) hy, Bool.true_and]
theorem implIsSchema_spec (xs : List Int) (hl : xs.length ≤ 1099511627776) : Spec Tryz.prog 144 [schema xs] (cb (isSchema xs)) := by
 refine Spec_of mx Γ_ok Tryz.func144 rfl ?_
 conv => whnf
 refine ⟨[(1,0),(2,0),(6,0),(7,0),(8,0)], fun m s => ∃ (k : Nat) (e : Int), e = k ∧ m + k = xs.length ∧ (∀ j y, j < k → xs[j]? = some y → inR y 1 3 = true) ∧
  s = ⟨20, [(1, .ptr 0 0), (2, cb false), (6, ints xs), (7, ci xs.length), (8, ci e)], [some ⟨true, [ints xs]⟩]⟩, xs.length, ⟨0, 0, rfl, rfl, by simp, rfl⟩, ?_⟩
 rintro m s ⟨k, _, rfl, hm, hj, rfl⟩
 conv => whnf
 split <;> rename_i h1
 all_goals simp only [decide_eq_true_eq, decide_eq_false_iff_not] at h1
 ·conv => whnf
  have hk : k < xs.length := by omega
  refine ⟨by omega, rows_len ciL_len xs, ?_⟩
  conv => whnf
  refine ⟨_, takeN_rp (k := k) ciL_len hk, ?_⟩
  conv => whnf
  refine ⟨_, within_spec _ _ _, .inl rfl, .inl ?_⟩
  conv => whnf
  split <;> rename_i h2
  all_goals simp only [Bool.not_eq_true', Bool.not_eq_false'] at h2
  ·conv => whnf
   show cb false = _
   unfold isSchema
   rw [all_false (p := fun x => inR x 1 3) hk h2, Bool.false_and]
  ·conv => whnf
   exact ⟨m - 1, by omega, k + 1, _, wrap_id (by omega) (by omega), by omega, step_inv hk hj h2, rfl⟩
 ·conv => whnf
  refine ⟨_, within_spec _ _ _, .inl rfl, .inl ?_⟩
  conv => whnf
  show cb (inR xs.length 1 4) = _
  unfold isSchema
  rw [all_true (p := fun x => inR x 1 3) fun j y h hy => hj j y (by omega) hy, Bool.true_and]
theorem getD_at {ps : List Int} {k : Nat} (hk : k < ps.length) : ps.getD k 0 = ps[k] := by simp [List.getD_eq_getElem?_getD, hk]
theorem schema_at {xs : List Int} (h : isSchema xs = true) {q : Nat} (hq : q < xs.length) : 1 ≤ xs[q] ∧ xs[q] ≤ 3 := by
 unfold isSchema at h
 simp only [Bool.and_eq_true, List.all_eq_true] at h
 have := h.1 xs[q] (List.getElem_mem hq)
 simpa [inR] using this
def eqV (v : Int) (y : Int) : Bool := y == v
def has (xs : List Int) (v : Int) : Bool := xs.any (eqV v)
theorem l2Has_spec (xs : List Int) (v : Int) (hl : xs.length ≤ 1099511627776) : Spec Tryz.prog 90 [ints xs, ci v] (cb (has xs v)) := by
 refine Spec_of mx Γ_ok Tryz.func90 rfl ?_
 conv => whnf
 refine ⟨[(0,0),(1,0),(4,0),(5,0)], fun m s => ∃ (k : Nat) (e : Int), e = k ∧ m + k = xs.length ∧ has xs v = (xs.drop k).any (eqV v) ∧ s = ⟨18, [(0, ints xs), (1, ci v), (4, cb false), (5, ci e)], []⟩, xs.length, ⟨0, 0, rfl, rfl, rfl, rfl⟩, ?_⟩
 rintro m s ⟨k, _, rfl, hm, hj, rfl⟩
 conv => whnf
 split <;> rename_i h1
 all_goals simp only [decide_eq_true_eq, decide_eq_false_iff_not] at h1
 ·conv => whnf
  have hk : k < xs.length := by omega
  rw [drop_any hk] at hj
  refine ⟨by omega, rows_len ciL_len xs, ?_⟩
  conv => whnf
  refine ⟨_, takeN_rp (k := k) ciL_len hk, ?_⟩
  conv => whnf
  split <;> rename_i h2
  ·conv => whnf
   rw [hj, show eqV v xs[k] = true from h2]
   rfl
  ·conv => whnf
   rw [show eqV v xs[k] = false from h2, Bool.false_or] at hj
   exact ⟨m - 1, by omega, k + 1, _, wrap_id (by omega) (by omega), by omega, hj, rfl⟩
 ·conv => whnf
  rw [hj, drop_end (by omega)]
  rfl
abbrev AtomT := Int × List Int
abbrev QueryT := List Int × List AtomT
def isVar (x : Int) : Bool := inR x 0 19
def isTerm (x : Int) : Bool := inR x (-80) 19
def constOf (x : Int) : Int := if inR x (-80) (-1) then -1 - x else -1
theorem isTerm_eq (x : Int) : isTerm x = (isVar x || decide (constOf x ≥ 0)) := by
 rw [Bool.eq_iff_iff]
 simp only [isTerm, isVar, constOf, inR, Bool.or_eq_true, Bool.and_eq_true, decide_eq_true_eq]
 split <;> omega
theorem specIsVar_spec (x : Int) : Spec Tryz.prog 166 [ci x] (cb (isVar x)) := by
 refine Spec_of mx Γ_ok Tryz.func166 rfl ?_
 conv => whnf
 refine ⟨_, l1In_spec x 0 19, .inl rfl, .inl ?_⟩
 conv => whnf
 rfl
theorem implIsVar_spec (x : Int) : Spec Tryz.prog 161 [ci x] (cb (isVar x)) := by
 refine Spec_of mx Γ_ok Tryz.func161 rfl ?_
 conv => whnf
 refine ⟨_, within_spec x 0 19, .inl rfl, .inl ?_⟩
 conv => whnf
 rfl
theorem implIsTerm_spec (x : Int) : Spec Tryz.prog 160 [ci x] (cb (isTerm x)) := by
 refine Spec_of mx Γ_ok Tryz.func160 rfl ?_
 conv => whnf
 refine ⟨_, within_spec x (-80) 19, .inl rfl, .inl ?_⟩
 conv => whnf
 rfl
theorem specConstOf_spec (x : Int) : Spec Tryz.prog 212 [ci x] (ci (constOf x)) := by
 refine Spec_of mx Γ_ok Tryz.func212 rfl ?_
 conv => whnf
 refine ⟨_, l1In_spec x (-80) (-1), .inl rfl, .inl ?_⟩
 conv => whnf
 unfold constOf
 generalize hb1 : inR x (-80) (-1) = b1
 cases b1 with
 | false =>
  conv => whnf
  rfl
 | true =>
  conv => whnf
  have hr : -80 ≤ x ∧ x ≤ -1 := by simpa [inR] using hb1
  show ci (IntKind.i64.wrap (-1 - x)) = ci (-1 - x)
  rw [wrap_id (by omega) (by omega)]
theorem specIsTerm_spec (x : Int) : Spec Tryz.prog 164 [ci x] (cb (isTerm x)) := by
 rw [isTerm_eq]
 refine Spec_of mx Γ_ok Tryz.func164 rfl ?_
 conv => whnf
 refine ⟨_, specIsVar_spec x, .inl rfl, .inl ?_⟩
 conv => whnf
 generalize isVar x = b1
 cases b1 with
 | true =>
  conv => whnf
  rfl
 | false =>
  conv => whnf
  refine ⟨_, specConstOf_spec x, .inl rfl, .inl ?_⟩
  conv => whnf
  rfl
def terms3 (xs : List Int) : Bool := xs.all isTerm && decide (xs.length ≤ 3)
theorem l3Terms_spec (xs : List Int) (h : xs.length ≤ 1099511627776) : Spec Tryz.prog 89 [ints xs] (cb (terms3 xs)) := by
 refine Spec_of mx Γ_ok Tryz.func89 rfl ?_
 conv => whnf
 refine ⟨[(0,0),(2,0),(3,0)], fun m s => ∃ (k : Nat) (e : Int), e = k ∧ m + k = xs.length ∧ xs.all isTerm = (xs.drop k).all isTerm ∧
  s = ⟨19, [(0, ints xs), (2, cb false), (3, ci e)], []⟩, xs.length, ⟨0, 0, rfl, rfl, rfl, rfl⟩, ?_⟩
 rintro m s ⟨k, _, rfl, hm, hall, rfl⟩
 conv => whnf
 split <;> rename_i h3
 all_goals simp only [decide_eq_true_eq, decide_eq_false_iff_not] at h3
 ·conv => whnf
  have hk : k < xs.length := by omega
  rw [drop_all hk] at hall
  refine ⟨by omega, rows_len ciL_len _, ?_⟩
  conv => whnf
  refine ⟨_, takeN_rp (k := k) ciL_len hk, ?_⟩
  conv => whnf
  refine ⟨_, specIsTerm_spec xs[k], .inl rfl, .inl ?_⟩
  conv => whnf
  generalize isTerm xs[k] = b1 at hall
  cases b1 with
  | false =>
   conv => whnf
   unfold terms3
   rw [hall]
   rfl
  | true =>
   conv => whnf
   rw [Bool.true_and] at hall
   exact ⟨m - 1, by omega, k + 1, _, wrap_id (by omega) (by omega), by omega, hall, rfl⟩
 ·conv => whnf
  rw [drop_end (by omega)] at hall
  unfold terms3
  rw [hall]
  show cb _ = cb _
  congr 1
  simp only [List.all_nil, Bool.true_and, decide_eq_decide]
  omega
theorem areTerms_spec (xs : List Int) (h : xs.length ≤ 1099511627776) : Spec Tryz.prog 84 [ints xs] (cb (xs.all isTerm)) := by
 refine Spec_of mx Γ_ok Tryz.func84 rfl ?_
 conv => whnf
 refine ⟨[(2,0),(5,0),(6,0),(7,0)], fun m s => ∃ (k : Nat) (e : Int), e = k ∧ m + k = xs.length ∧ xs.all isTerm = (xs.drop k).all isTerm ∧
  s = ⟨15, [(2, cb false), (5, ints xs), (6, ci xs.length), (7, ci e)], []⟩, xs.length, ⟨0, 0, rfl, rfl, rfl, rfl⟩, ?_⟩
 rintro m s ⟨k, _, rfl, hm, hall, rfl⟩
 conv => whnf
 split <;> rename_i h3
 all_goals simp only [decide_eq_true_eq, decide_eq_false_iff_not] at h3
 ·conv => whnf
  have hk : k < xs.length := by omega
  rw [drop_all hk] at hall
  refine ⟨by omega, rows_len ciL_len _, ?_⟩
  conv => whnf
  refine ⟨_, takeN_rp (k := k) ciL_len hk, ?_⟩
  conv => whnf
  refine ⟨_, implIsTerm_spec xs[k], .inl rfl, .inl ?_⟩
  conv => whnf
  generalize isTerm xs[k] = b1 at hall
  cases b1 with
  | false =>
   conv => whnf
   rw [hall]
   rfl
  | true =>
   conv => whnf
   rw [Bool.true_and] at hall
   exact ⟨m - 1, by omega, k + 1, _, wrap_id (by omega) (by omega), by omega, hall, rfl⟩
 ·conv => whnf
  rw [drop_end (by omega)] at hall
  rw [hall]
  rfl
def takesS (s : List Int) (r n : Int) : Bool := isSchema s && (inR r 0 (s.length - 1) && decide (s.getD r.toNat 0 = n))
def isAtom (s : List Int) (a : AtomT) : Bool := takesS s a.1 a.2.length && a.2.all isTerm
theorem takes_spec (s : List Int) (r n : Int) (hs : s.length ≤ 1099511627776) : Spec Tryz.prog 197 [vSchema s, ci r, ci n] (cb (takesS s r n)) := by
 have hw : IntKind.i64.wrap ((s.length : Int) - 1) = s.length - 1 := wrap_id (by omega) (by omega)
 refine Spec_of mx Γ_ok Tryz.func197 rfl ?_
 conv => whnf
 refine ⟨_, implIsSchema_spec s hs, .inl rfl, .inl ?_⟩
 conv => whnf
 unfold takesS
 generalize isSchema s = b1
 cases b1 with
 | false =>
  conv => whnf
  rfl
 | true =>
 conv => whnf
 refine ⟨_, within_spec _ _ _, .inl rfl, .inl ?_⟩
 rw [hw]
 conv => whnf
 generalize hb2 : inR r 0 (s.length - 1) = b2
 cases b2 with
 | false =>
  conv => whnf
  rfl
 | true =>
 conv => whnf
 have hr : 0 ≤ r ∧ r ≤ (s.length : Int) - 1 := by simpa [inR] using hb2
 obtain ⟨q, rfl⟩ : ∃ q : Nat, r = q := ⟨r.toNat, by omega⟩
 have hq : q < s.length := by omega
 refine ⟨by omega, rows_len ciL_len s, ?_⟩
 conv => whnf
 refine ⟨_, takeN_rp (k := q) ciL_len hq, ?_⟩
 conv => whnf
 rw [Int.toNat_natCast, getD_at hq]
 show cb (s[q] == n) = cb (decide (s[q] = n))
 congr 1
theorem implIsAtom_spec (s : List Int) (a : AtomT) (hs : s.length ≤ 1099511627776) (ha : a.2.length ≤ 1099511627776) : Spec Tryz.prog 145 [vSchema s, vAtom a] (cb (isAtom s a)) := by
 refine Spec_of mx Γ_ok Tryz.func145 rfl ?_
 conv => whnf
 refine ⟨_, takes_spec s a.1 a.2.length hs, .inl rfl, .inl ?_⟩
 conv => whnf
 unfold isAtom
 generalize takesS s a.1 a.2.length = b1
 cases b1 with
 | false =>
  conv => whnf
  rfl
 | true =>
 conv => whnf
 refine ⟨_, areTerms_spec a.2 ha, .inl rfl, .inl ?_⟩
 conv => whnf
 rfl
theorem specIsAtom_spec (s : List Int) (a : AtomT) (hs : s.length ≤ 1099511627776) (ha : a.2.length ≤ 1099511627776) : Spec Tryz.prog 165 [vSchema s, vAtom a] (cb (isAtom s a)) := by
 have hw : IntKind.i64.wrap ((s.length : Int) - 1) = s.length - 1 := wrap_id (by omega) (by omega)
 refine Spec_of mx Γ_ok Tryz.func165 rfl ?_
 conv => whnf
 refine ⟨List.range 29, by kernel_rfl, ?_⟩
 conv => whnf
 refine ⟨_, specIsSchema_spec s hs, .inl rfl, .inl ?_⟩
 conv => whnf
 unfold isAtom takesS
 generalize hb1 : isSchema s = b1
 cases b1 with
 | false =>
  conv => whnf
  rfl
 | true =>
 conv => whnf
 refine ⟨_, l1In_spec _ _ _, .inl rfl, .inl ?_⟩
 rw [hw]
 conv => whnf
 generalize hb2 : inR a.1 0 (s.length - 1) = b2
 cases b2 with
 | false =>
  conv => whnf
  rfl
 | true =>
 conv => whnf
 have hr : 0 ≤ a.1 ∧ a.1 ≤ (s.length : Int) - 1 := by simpa [inR] using hb2
 obtain ⟨q, hqa⟩ : ∃ q : Nat, a.1 = q := ⟨a.1.toNat, by omega⟩
 have hq : q < s.length := by omega
 rw [hqa]
 refine ⟨by omega, rows_len ciL_len s, ?_⟩
 conv => whnf
 refine ⟨_, takeN_rp (k := q) ciL_len hq, ?_⟩
 conv => whnf
 have h13 := schema_at hb1 hq
 rw [Int.toNat_natCast, getD_at hq]
 generalize hb3 : ((a.2.length : Int) == s[q]) = b3
 cases b3 with
 | false =>
  conv => whnf
  have : ¬ s[q] = (a.2.length : Int) := fun h => by rw [h, beq_self_eq_true] at hb3; cases hb3
  rw [decide_eq_false this]
  rfl
 | true =>
 conv => whnf
 have he : s[q] = (a.2.length : Int) := (eq_of_beq hb3).symm
 refine ⟨_, l3Terms_spec a.2 ha, .inl rfl, .inl ?_⟩
 conv => whnf
 rw [decide_eq_true he]
 show cb (terms3 a.2) = cb (a.2.all isTerm)
 rw [terms3, decide_eq_true (p := a.2.length ≤ 3) (by omega), Bool.and_true]
theorem copyInts_spec (xs : List Int) (h : xs.length ≤ 1099511627776) : Spec Tryz.prog 124 [ints xs] (intsT xs) := by
 refine Spec_of mx Γ_ok Tryz.func124 rfl ?_
 conv => whnf
 refine ⟨rows_len ciL_len _, solid_ci _, ?_⟩
 conv => whnf
 refine ⟨by omega, rfl, _, app_ci [] xs, ?_⟩
 conv => whnf
 refine ⟨by rw [rows_len ciL_len, List.nil_append, Nat.zero_add]; rfl, ?_⟩
 rw [List.nil_append, Nat.zero_add]
 rfl
theorem snoc_rows {α : Type} (f : α → List V) (xs : List α) (x : α) : rows f xs ++ f x = rows f (xs ++ [x]) := by
 rw [rows_append]
 congr 1
 simp [rows]
end Go.Proofs.YtboolngaahifdaaGreatD
