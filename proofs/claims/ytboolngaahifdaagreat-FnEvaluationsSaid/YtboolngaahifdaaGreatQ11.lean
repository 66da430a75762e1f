/- Contracts and plain laws of this seat; no condition. -/
import Derived.Test.YtboolngaahifdaaGreatQ10
set_option linter.unusedVariables false
set_option linter.unusedSimpArgs false
set_option maxRecDepth 100000
namespace Go.Proofs.YtboolngaahifdaaGreatD
open Go Go.Proofs
def cu8 (x : Int) : List V := [.sc (.int .u8 x)]
theorem cu8_len (x : Int) : (cu8 x).length = 1 := rfl
def bytesR (xs : List Int) : V := .ro xs.length (rows cu8 xs)
abbrev Cur := List Int × Nat × Int
def curC (c : Cur) : List V := [bytesR c.1, ci c.2.1, ci c.2.2]
def vCur (c : Cur) : V := .bp (curC c)
def goodC (c : Cur) : Prop := c.1.length ≤ 1099511627776 ∧ c.2.1 ≤ c.1.length
def hStep (h b : Int) : Int := andI .i64 (IntKind.i64.wrap (IntKind.i64.wrap (IntKind.i64.wrap (h * 131) + IntKind.i64.wrap b) + 7)) 1073741823
def newCur (xs : List Int) : Cur := (xs, 0, (xs.take 4000).foldl hStep (IntKind.i64.wrap (10101 + xs.length)))
theorem good_new {xs : List Int} (h : xs.length ≤ 1099511627776) : goodC (newCur xs) := ⟨h, Nat.zero_le _⟩
theorem l1New_spec (xs : List Int) (h : xs.length ≤ 1099511627776) : Spec Tryz.prog 64 [bytesR xs] (vCur (newCur xs)) := by
 unfold bytesR
 refine Spec_of mx Γ_ok Tryz.func64 rfl ?_
 conv => whnf
 refine ⟨[(0,0),(3,0),(4,0)], fun m st => ∃ (k : Nat) (e f : Int), e = k ∧ m + k = xs.length + 1 ∧ k ≤ 4000 ∧ k ≤ xs.length ∧ f = ((xs.take k).foldl hStep (IntKind.i64.wrap (10101 + xs.length))) ∧
  st = ⟨32, [(0, bytesR xs), (3, ci f), (4, ci e)], []⟩, xs.length + 1, ⟨0, 0, _, rfl, rfl, by omega, by omega, rfl, by kernel_rfl⟩, ?_⟩
 rintro m st ⟨k, _, _, rfl, hm, hk4, hkl, rfl, rfl⟩
 unfold bytesR
 have fin : ∀ f : Int, (k = xs.length ∨ k = 4000) → f = (xs.take k).foldl hStep (IntKind.i64.wrap (10101 + xs.length)) → (newCur xs) = (xs, 0, f) := by
  rintro f hk rfl
  unfold newCur
  rcases hk with rfl | rfl
  ·rw [List.take_length, List.take_of_length_le (by omega)]
  ·rfl
 conv => whnf
 generalize hc1 : decide ((k : Int) < (xs.length : Int)) = c1
 cases c1 with
 | false =>
  conv => whnf
  rw [fin _ (.inl (by have := of_decide_eq_false hc1; omega)) rfl]
  exact ⟨rfl, rfl, rfl⟩
 | true =>
  have hk : k < xs.length := by have := of_decide_eq_true hc1; omega
  conv => whnf
  generalize hc2 : decide ((k : Int) < 4000) = c2
  cases c2 with
  | false =>
   conv => whnf
   rw [fin _ (.inr (by have := of_decide_eq_false hc2; omega)) rfl]
   exact ⟨rfl, rfl, rfl⟩
  | true =>
   have hk4 : k < 4000 := by have := of_decide_eq_true hc2; omega
   conv => whnf
   refine ⟨by omega, rows_len cu8_len _, ?_⟩
   conv => whnf
   refine ⟨_, takeN_rp (k := k) cu8_len hk, ?_⟩
   conv => whnf
   refine ⟨m - 1, by omega, k + 1, _, hStep ((xs.take k).foldl hStep (IntKind.i64.wrap (10101 + xs.length))) xs[k], wrap_id (by omega) (by omega), by omega, by omega, by omega, ?_, by kernel_rfl⟩
   rw [List.take_succ_eq_append_getElem hk, List.foldl_append]
   rfl
def nextH (h : Int) : Int := IntKind.i64.wrap (IntKind.i64.wrap (h * 6364136223846793005) + 1442695040888963407)
def rawB (h : Int) : Int := andI .i64 (xorI .i64 (shrI .i64 h 33) (shrI .i64 h 45)) 255
def byteP (c : Cur) : Int × Cur := if c.2.1 < c.1.length then (andI .i64 (IntKind.i64.wrap (rawB (nextH c.2.2) + IntKind.i64.wrap (c.1.getD c.2.1 0))) 255, (c.1, c.2.1 + 1, nextH c.2.2)) else (rawB (nextH c.2.2), (c.1, c.2.1, nextH c.2.2))
theorem and_255 (a : Int) : 0 ≤ andI .i64 a 255 ∧ andI .i64 a 255 ≤ 255 := by
 have h : (BitVec.ofInt 64 a &&& BitVec.ofInt 64 255).toNat ≤ 255 := by
  rw [BitVec.toNat_and]
  have : (BitVec.ofInt 64 255).toNat = 255 := by decide
  rw [this]
  exact Nat.and_le_right
 have e : andI .i64 a 255 = IntKind.i64.wrap ((BitVec.ofInt 64 a &&& BitVec.ofInt 64 255).toNat : Int) := rfl
 rw [e, wrap_id (by omega) (by omega)]
 omega
theorem byteP_bd (c : Cur) : 0 ≤ (byteP c).1 ∧ (byteP c).1 ≤ 255 := by
 unfold byteP
 split
 ·exact and_255 _
 ·exact and_255 _
theorem byteP_good {c : Cur} (h : goodC c) : goodC (byteP c).2 := by
 unfold byteP
 obtain ⟨h1, h2⟩ := h
 split
 ·exact ⟨h1, by simp only; omega⟩
 ·exact ⟨h1, h2⟩
theorem curC_ne (c : Cur) : curC c ≠ [] := by unfold curC; simp
theorem set3_ne {a b d x : V} : setC [a, b, d] 2 [x] ≠ [] := by show [a, b, x] ≠ []; simp
theorem set31_ne {a b d x y : V} : setC (setC [a, b, d] 2 [x]) 1 [y] ≠ [] := by show [a, y, x] ≠ []; simp
theorem getD_at0 {l : List Int} {i : Nat} (h : i < l.length) : l.getD i 0 = l[i] := by simp [List.getD_eq_getElem?_getD, h]
set_option maxHeartbeats 1000000 in
theorem l1Byte_spec (c : Cur) (h : goodC c) : SpecR Tryz.prog 159 [vCur c] (ci (byteP c).1) [vCur (byteP c).2] := by
 obtain ⟨xs, i, hh⟩ := c
 obtain ⟨h1, h2⟩ := h
 simp only at h1 h2
 unfold vCur curC bytesR
 refine SpecL_of mx Γ_ok 1 Tryz.func159 rfl rfl (by omega) ?_
 conv => whnf
 refine ⟨_, rfl, ?_⟩
 conv => whnf
 refine ⟨_, rfl, _, rfl, ?_⟩
 conv => whnf
 refine ⟨List.range 13, by kernel_rfl, ?_⟩
 conv => whnf
 refine ⟨_, rfl, ?_⟩
 conv => whnf
 refine ⟨by decide, ?_⟩
 conv => whnf
 refine ⟨_, rfl, ?_⟩
 conv => whnf
 refine ⟨by decide, ?_⟩
 conv => whnf
 refine ⟨List.range 10, by kernel_rfl, ?_⟩
 conv => whnf
 refine ⟨_, rfl, ?_⟩
 conv => whnf
 refine ⟨_, rfl, ?_⟩
 conv => whnf
 unfold byteP
 simp only
 generalize hc1 : decide ((i : Int) < (xs.length : Int)) = c1
 cases c1 with
 | false =>
  have hk : ¬ i < xs.length := by have := of_decide_eq_false hc1; omega
  simp only [if_neg hk]
  conv => whnf
  exact ⟨rfl, set3_ne, rfl⟩
 | true =>
  have hk : i < xs.length := by have := of_decide_eq_true hc1; omega
  have hw : IntKind.i64.wrap ((i : Int) + 1) = ((i + 1 : Nat) : Int) := wrap_id (by omega) (by omega)
  simp only [if_pos hk, getD_at0 hk]
  conv => whnf
  refine ⟨List.range 15, by kernel_rfl, ?_⟩
  conv => whnf
  refine ⟨_, rfl, ?_⟩
  conv => whnf
  refine ⟨_, rfl, ?_⟩
  conv => whnf
  refine ⟨by omega, rows_len cu8_len _, ?_⟩
  conv => whnf
  refine ⟨_, takeN_rp (k := i) cu8_len hk, ?_⟩
  conv => whnf
  refine ⟨_, rfl, ?_⟩
  conv => whnf
  refine ⟨_, rfl, _, rfl, ?_⟩
  conv => whnf
  refine ⟨rfl, set31_ne, ?_⟩
  rw [← hw]
  rfl
def belowP (c : Cur) (n : Int) : Int × Cur :=
 if n ≤ 0 then (0, c) else if n ≤ 256 then ((byteP c).1.tmod n, (byteP c).2) else
  let a := byteP c
  let b := byteP a.2
  let d := byteP b.2
  let e := byteP d.2
  ((IntKind.i64.wrap (IntKind.i64.wrap (IntKind.i64.wrap (IntKind.i64.wrap (a.1 * 16777216) + IntKind.i64.wrap (b.1 * 65536)) + IntKind.i64.wrap (d.1 * 256)) + e.1)).tmod n, e.2)
theorem belowP_bd (c : Cur) {n : Int} (h : 0 < n) (h2 : n ≤ 256) : 0 ≤ (belowP c n).1 ∧ (belowP c n).1 < n := by
 unfold belowP
 rw [if_neg (by omega), if_pos h2]
 have := byteP_bd c
 simp only
 rw [Int.tmod_eq_emod_of_nonneg this.1]
 exact ⟨Int.emod_nonneg _ (by omega), Int.emod_lt_of_pos _ h⟩
theorem belowP_good {c : Cur} (h : goodC c) (n : Int) : goodC (belowP c n).2 := by
 unfold belowP
 split
 ·exact h
 ·split
  ·exact byteP_good h
  ·exact byteP_good (byteP_good (byteP_good (byteP_good h)))
theorem l1Below_spec (c : Cur) (n : Int) (h : goodC c) (hn : n ≤ 256) : SpecR Tryz.prog 81 [vCur c, ci n] (ci (belowP c n).1) [vCur (belowP c n).2, ci n] := by
 unfold belowP
 rw [show vCur c = .bp (curC c) from rfl]
 unfold curC bytesR
 refine SpecL_of mx Γ_ok 2 Tryz.func81 rfl rfl (by omega) ?_
 conv => whnf
 generalize hc1 : decide (n ≤ 0) = c1
 cases c1 with
 | true =>
  rw [if_pos (of_decide_eq_true hc1)]
  conv => whnf
  exact ⟨rfl, by simp, rfl⟩
 | false =>
  have h0 := of_decide_eq_false hc1
  rw [if_neg h0, if_pos hn]
  have e : decide (n ≤ 256) = true := decide_eq_true hn
  conv => whnf
  rw [e]
  conv => whnf
  refine .inr (.inl ?_)
  conv => whnf
  refine ⟨by simp, ?_⟩
  conv => whnf
  have hs := l1Byte_spec c h
  refine ⟨_, _, _, hs, ?_⟩
  conv => whnf
  refine .inl ?_
  conv => whnf
  refine ⟨by omega, ?_⟩
  conv => whnf
  exact ⟨rfl, curC_ne _, rfl⟩
theorem drop_eq_at {α : Type} [DecidableEq α] {xs ys : List α} {k : Nat} (hk : k < xs.length) (hk' : k < ys.length) : decide (xs.drop k = ys.drop k) = (decide (xs[k] = ys[k]) && decide (xs.drop (k + 1) = ys.drop (k + 1))) := by
 rw [List.drop_eq_getElem_cons hk, List.drop_eq_getElem_cons hk', ← Bool.decide_and, decide_eq_decide]
 simp only [List.cons.injEq]
theorem ne_len {α : Type} [DecidableEq α] {xs ys : List α} (h : xs.length ≠ ys.length) : decide (xs = ys) = false := decide_eq_false fun e => h (congrArg List.length e)
theorem l2Ints_spec (xs ys : List Int) (hl : xs.length ≤ 1099511627776) (hl' : ys.length ≤ 1099511627776) : Spec Tryz.prog 77 [ints xs, ints ys] (cb (decide (xs = ys))) := by
 refine Spec_of mx Γ_ok Tryz.func77 rfl ?_
 conv => whnf
 split <;> rename_i h0
 ·conv => whnf
  simp only [bne_iff_ne, ne_eq] at h0
  show cb false = _
  rw [ne_len (by omega)]
 conv => whnf
 have h0' : xs.length = ys.length := by
  have h3 : (xs.length : Int) = ys.length := by simpa using h0
  omega
 refine ⟨[(0,0),(1,0),(4,0),(5,0)], fun m s => ∃ (k : Nat) (e : Int), e = k ∧ m + k = xs.length ∧ decide (xs = ys) = decide (xs.drop k = ys.drop k) ∧
  s = ⟨26, [(0, ints xs), (1, ints ys), (4, cb false), (5, ci e)], []⟩, xs.length, ⟨0, 0, rfl, rfl, rfl, rfl⟩, ?_⟩
 rintro m s ⟨k, _, rfl, hm, hj, rfl⟩
 conv => whnf
 split <;> rename_i h1
 all_goals simp only [decide_eq_true_eq, decide_eq_false_iff_not] at h1
 ·conv => whnf
  have hk : k < xs.length := by omega
  have hk' : k < ys.length := by omega
  rw [drop_eq_at hk hk'] at hj
  refine ⟨List.range 9, by kernel_rfl, ?_⟩
  conv => whnf
  refine ⟨by omega, rows_len ciL_len xs, ?_⟩
  conv => whnf
  refine ⟨_, takeN_rp (k := k) ciL_len hk, ?_⟩
  conv => whnf
  refine ⟨by omega, rows_len ciL_len ys, ?_⟩
  conv => whnf
  refine ⟨_, takeN_rp (k := k) ciL_len hk', ?_⟩
  conv => whnf
  split <;> rename_i h2
  ·conv => whnf
   show cb false = _
   rw [hj, decide_eq_false (p := xs[k] = ys[k]) (by simpa using h2), Bool.false_and]
  ·conv => whnf
   rw [decide_eq_true (p := xs[k] = ys[k]) (by simpa using h2), Bool.true_and] at hj
   exact ⟨m - 1, by omega, k + 1, _, wrap_id (by omega) (by omega), by omega, hj, rfl⟩
 ·conv => whnf
  rw [hj, drop_end (by omega), drop_end (by omega)]
  rfl
theorem slicesEq_spec (xs ys : List Int) (hl : xs.length ≤ 1099511627776) (hl' : ys.length ≤ 1099511627776) : Spec Tryz.prog 119 [ints xs, ints ys] (cb (decide (xs = ys))) := by
 refine Spec_of mx Γ_ok Tryz.func119 rfl ?_
 conv => whnf
 split <;> rename_i h0
 ·conv => whnf
  simp only [bne_iff_ne, ne_eq] at h0
  show cb false = _
  rw [ne_len (by omega)]
 conv => whnf
 have h0' : xs.length = ys.length := by
  have h3 : (xs.length : Int) = ys.length := by simpa using h0
  omega
 refine ⟨[(0,0),(1,0),(4,0),(12,0),(13,0)], fun m s => ∃ (k : Nat) (e : Int), e = k ∧ m + k = xs.length ∧ decide (xs = ys) = decide (xs.drop k = ys.drop k) ∧
  s = ⟨26, [(0, ints xs), (1, ints ys), (4, cb false), (12, ci xs.length), (13, ci e)], []⟩, xs.length, ⟨0, 0, rfl, rfl, rfl, rfl⟩, ?_⟩
 rintro m s ⟨k, _, rfl, hm, hj, rfl⟩
 conv => whnf
 split <;> rename_i h1
 all_goals simp only [decide_eq_true_eq, decide_eq_false_iff_not] at h1
 ·conv => whnf
  have hk : k < xs.length := by omega
  have hk' : k < ys.length := by omega
  rw [drop_eq_at hk hk'] at hj
  refine ⟨List.range 9, by kernel_rfl, ?_⟩
  conv => whnf
  refine ⟨by omega, rows_len ciL_len xs, ?_⟩
  conv => whnf
  refine ⟨_, takeN_rp (k := k) ciL_len hk, ?_⟩
  conv => whnf
  refine ⟨by omega, rows_len ciL_len ys, ?_⟩
  conv => whnf
  refine ⟨_, takeN_rp (k := k) ciL_len hk', ?_⟩
  conv => whnf
  split <;> rename_i h2
  ·conv => whnf
   show cb false = _
   rw [hj, decide_eq_false (p := xs[k] = ys[k]) (by simpa using h2), Bool.false_and]
  ·conv => whnf
   rw [decide_eq_true (p := xs[k] = ys[k]) (by simpa using h2), Bool.true_and] at hj
   exact ⟨m - 1, by omega, k + 1, _, wrap_id (by omega) (by omega), by omega, hj, rfl⟩
 ·conv => whnf
  rw [hj, drop_end (by omega), drop_end (by omega)]
  rfl
theorem getD_at {ps : List Int} {k : Nat} (hk : k < ps.length) : ps.getD k 0 = ps[k] := by simp [List.getD_eq_getElem?_getD, hk]
theorem schema_at {xs : List Int} (h : isSchema xs = true) {q : Nat} (hq : q < xs.length) : 1 ≤ xs[q] ∧ xs[q] ≤ 3 := by
 unfold isSchema at h
 simp only [Bool.and_eq_true, List.all_eq_true] at h
 have := h.1 xs[q] (List.getElem_mem hq)
 simpa [inR] using this
def eqV (v : Int) (y : Int) : Bool := y == v
def has (xs : List Int) (v : Int) : Bool := xs.any (eqV v)
theorem l2Has_spec (xs : List Int) (v : Int) (hl : xs.length ≤ 1099511627776) : Spec Tryz.prog 90 [ints xs, ci v] (cb (has xs v)) := by
 refine Spec_of mx Γ_ok Tryz.func90 rfl ?_
 conv => whnf
 refine ⟨[(0,0),(1,0),(4,0),(5,0)], fun m s => ∃ (k : Nat) (e : Int), e = k ∧ m + k = xs.length ∧ has xs v = (xs.drop k).any (eqV v) ∧ s = ⟨18, [(0, ints xs), (1, ci v), (4, cb false), (5, ci e)], []⟩, xs.length, ⟨0, 0, rfl, rfl, rfl, rfl⟩, ?_⟩
 rintro m s ⟨k, _, rfl, hm, hj, rfl⟩
 conv => whnf
 split <;> rename_i h1
 all_goals simp only [decide_eq_true_eq, decide_eq_false_iff_not] at h1
 ·conv => whnf
  have hk : k < xs.length := by omega
  rw [drop_any hk] at hj
  refine ⟨by omega, rows_len ciL_len xs, ?_⟩
  conv => whnf
  refine ⟨_, takeN_rp (k := k) ciL_len hk, ?_⟩
  conv => whnf
  split <;> rename_i h2
  ·conv => whnf
   rw [hj, show eqV v xs[k] = true from h2]
   rfl
  ·conv => whnf
   rw [show eqV v xs[k] = false from h2, Bool.false_or] at hj
   exact ⟨m - 1, by omega, k + 1, _, wrap_id (by omega) (by omega), by omega, hj, rfl⟩
 ·conv => whnf
  rw [hj, drop_end (by omega)]
  rfl
abbrev AtomT := Int × List Int
abbrev QueryT := List Int × List AtomT
def isVar (x : Int) : Bool := inR x 0 19
def isTerm (x : Int) : Bool := inR x (-80) 19
def constOf (x : Int) : Int := if inR x (-80) (-1) then -1 - x else -1
theorem isTerm_eq (x : Int) : isTerm x = (isVar x || decide (constOf x ≥ 0)) := by
 rw [Bool.eq_iff_iff]
 simp only [isTerm, isVar, constOf, inR, Bool.or_eq_true, Bool.and_eq_true, decide_eq_true_eq]
 split <;> omega
theorem specIsVar_spec (x : Int) : Spec Tryz.prog 166 [ci x] (cb (isVar x)) := by
 refine Spec_of mx Γ_ok Tryz.func166 rfl ?_
 conv => whnf
 refine ⟨_, l1In_spec x 0 19, .inl rfl, .inl ?_⟩
 conv => whnf
 rfl
theorem implIsVar_spec (x : Int) : Spec Tryz.prog 161 [ci x] (cb (isVar x)) := by
 refine Spec_of mx Γ_ok Tryz.func161 rfl ?_
 conv => whnf
 refine ⟨_, within_spec x 0 19, .inl rfl, .inl ?_⟩
 conv => whnf
 rfl
theorem implIsTerm_spec (x : Int) : Spec Tryz.prog 160 [ci x] (cb (isTerm x)) := by
 refine Spec_of mx Γ_ok Tryz.func160 rfl ?_
 conv => whnf
 refine ⟨_, within_spec x (-80) 19, .inl rfl, .inl ?_⟩
 conv => whnf
 rfl
theorem specConstOf_spec (x : Int) : Spec Tryz.prog 212 [ci x] (ci (constOf x)) := by
 refine Spec_of mx Γ_ok Tryz.func212 rfl ?_
 conv => whnf
 refine ⟨_, l1In_spec x (-80) (-1), .inl rfl, .inl ?_⟩
 conv => whnf
 unfold constOf
 generalize hb1 : inR x (-80) (-1) = b1
 cases b1 with
 | false =>
  conv => whnf
  rfl
 | true =>
  conv => whnf
  have hr : -80 ≤ x ∧ x ≤ -1 := by simpa [inR] using hb1
  show ci (IntKind.i64.wrap (-1 - x)) = ci (-1 - x)
  rw [wrap_id (by omega) (by omega)]
theorem specIsTerm_spec (x : Int) : Spec Tryz.prog 164 [ci x] (cb (isTerm x)) := by
 rw [isTerm_eq]
 refine Spec_of mx Γ_ok Tryz.func164 rfl ?_
 conv => whnf
 refine ⟨_, specIsVar_spec x, .inl rfl, .inl ?_⟩
 conv => whnf
 generalize isVar x = b1
 cases b1 with
 | true =>
  conv => whnf
  rfl
 | false =>
  conv => whnf
  refine ⟨_, specConstOf_spec x, .inl rfl, .inl ?_⟩
  conv => whnf
  rfl
def terms3 (xs : List Int) : Bool := xs.all isTerm && decide (xs.length ≤ 3)
theorem l3Terms_spec (xs : List Int) (h : xs.length ≤ 1099511627776) : Spec Tryz.prog 89 [ints xs] (cb (terms3 xs)) := by
 refine Spec_of mx Γ_ok Tryz.func89 rfl ?_
 conv => whnf
 refine ⟨[(0,0),(2,0),(3,0)], fun m s => ∃ (k : Nat) (e : Int), e = k ∧ m + k = xs.length ∧ xs.all isTerm = (xs.drop k).all isTerm ∧
  s = ⟨19, [(0, ints xs), (2, cb false), (3, ci e)], []⟩, xs.length, ⟨0, 0, rfl, rfl, rfl, rfl⟩, ?_⟩
 rintro m s ⟨k, _, rfl, hm, hall, rfl⟩
 conv => whnf
 split <;> rename_i h3
 all_goals simp only [decide_eq_true_eq, decide_eq_false_iff_not] at h3
 ·conv => whnf
  have hk : k < xs.length := by omega
  rw [drop_all hk] at hall
  refine ⟨by omega, rows_len ciL_len _, ?_⟩
  conv => whnf
  refine ⟨_, takeN_rp (k := k) ciL_len hk, ?_⟩
  conv => whnf
  refine ⟨_, specIsTerm_spec xs[k], .inl rfl, .inl ?_⟩
  conv => whnf
  generalize isTerm xs[k] = b1 at hall
  cases b1 with
  | false =>
   conv => whnf
   unfold terms3
   rw [hall]
   rfl
  | true =>
   conv => whnf
   rw [Bool.true_and] at hall
   exact ⟨m - 1, by omega, k + 1, _, wrap_id (by omega) (by omega), by omega, hall, rfl⟩
 ·conv => whnf
  rw [drop_end (by omega)] at hall
  unfold terms3
  rw [hall]
  show cb _ = cb _
  congr 1
  simp only [List.all_nil, Bool.true_and, decide_eq_decide]
  omega
theorem areTerms_spec (xs : List Int) (h : xs.length ≤ 1099511627776) : Spec Tryz.prog 84 [ints xs] (cb (xs.all isTerm)) := by
 refine Spec_of mx Γ_ok Tryz.func84 rfl ?_
 conv => whnf
 refine ⟨[(2,0),(5,0),(6,0),(7,0)], fun m s => ∃ (k : Nat) (e : Int), e = k ∧ m + k = xs.length ∧ xs.all isTerm = (xs.drop k).all isTerm ∧
  s = ⟨15, [(2, cb false), (5, ints xs), (6, ci xs.length), (7, ci e)], []⟩, xs.length, ⟨0, 0, rfl, rfl, rfl, rfl⟩, ?_⟩
 rintro m s ⟨k, _, rfl, hm, hall, rfl⟩
 conv => whnf
 split <;> rename_i h3
 all_goals simp only [decide_eq_true_eq, decide_eq_false_iff_not] at h3
 ·conv => whnf
  have hk : k < xs.length := by omega
  rw [drop_all hk] at hall
  refine ⟨by omega, rows_len ciL_len _, ?_⟩
  conv => whnf
  refine ⟨_, takeN_rp (k := k) ciL_len hk, ?_⟩
  conv => whnf
  refine ⟨_, implIsTerm_spec xs[k], .inl rfl, .inl ?_⟩
  conv => whnf
  generalize isTerm xs[k] = b1 at hall
  cases b1 with
  | false =>
   conv => whnf
   rw [hall]
   rfl
  | true =>
   conv => whnf
   rw [Bool.true_and] at hall
   exact ⟨m - 1, by omega, k + 1, _, wrap_id (by omega) (by omega), by omega, hall, rfl⟩
 ·conv => whnf
  rw [drop_end (by omega)] at hall
  rw [hall]
  rfl
def takesS (s : List Int) (r n : Int) : Bool := isSchema s && (inR r 0 (s.length - 1) && decide (s.getD r.toNat 0 = n))
def isAtom (s : List Int) (a : AtomT) : Bool := takesS s a.1 a.2.length && a.2.all isTerm
theorem takes_spec (s : List Int) (r n : Int) (hs : s.length ≤ 1099511627776) : Spec Tryz.prog 197 [vSchema s, ci r, ci n] (cb (takesS s r n)) := by
 have hw : IntKind.i64.wrap ((s.length : Int) - 1) = s.length - 1 := wrap_id (by omega) (by omega)
 refine Spec_of mx Γ_ok Tryz.func197 rfl ?_
 conv => whnf
 refine ⟨_, implIsSchema_spec s hs, .inl rfl, .inl ?_⟩
 conv => whnf
 unfold takesS
 generalize isSchema s = b1
 cases b1 with
 | false =>
  conv => whnf
  rfl
 | true =>
 conv => whnf
 refine ⟨_, within_spec _ _ _, .inl rfl, .inl ?_⟩
 rw [hw]
 conv => whnf
 generalize hb2 : inR r 0 (s.length - 1) = b2
 cases b2 with
 | false =>
  conv => whnf
  rfl
 | true =>
 conv => whnf
 have hr : 0 ≤ r ∧ r ≤ (s.length : Int) - 1 := by simpa [inR] using hb2
 obtain ⟨q, rfl⟩ : ∃ q : Nat, r = q := ⟨r.toNat, by omega⟩
 have hq : q < s.length := by omega
 refine ⟨by omega, rows_len ciL_len s, ?_⟩
 conv => whnf
 refine ⟨_, takeN_rp (k := q) ciL_len hq, ?_⟩
 conv => whnf
 rw [Int.toNat_natCast, getD_at hq]
 show cb (s[q] == n) = cb (decide (s[q] = n))
 congr 1
theorem implIsAtom_spec (s : List Int) (a : AtomT) (hs : s.length ≤ 1099511627776) (ha : a.2.length ≤ 1099511627776) : Spec Tryz.prog 145 [vSchema s, vAtom a] (cb (isAtom s a)) := by
 refine Spec_of mx Γ_ok Tryz.func145 rfl ?_
 conv => whnf
 refine ⟨_, takes_spec s a.1 a.2.length hs, .inl rfl, .inl ?_⟩
 conv => whnf
 unfold isAtom
 generalize takesS s a.1 a.2.length = b1
 cases b1 with
 | false =>
  conv => whnf
  rfl
 | true =>
 conv => whnf
 refine ⟨_, areTerms_spec a.2 ha, .inl rfl, .inl ?_⟩
 conv => whnf
 rfl
theorem specIsAtom_spec (s : List Int) (a : AtomT) (hs : s.length ≤ 1099511627776) (ha : a.2.length ≤ 1099511627776) : Spec Tryz.prog 165 [vSchema s, vAtom a] (cb (isAtom s a)) := by
 have hw : IntKind.i64.wrap ((s.length : Int) - 1) = s.length - 1 := wrap_id (by omega) (by omega)
 refine Spec_of mx Γ_ok Tryz.func165 rfl ?_
 conv => whnf
 refine ⟨List.range 29, by kernel_rfl, ?_⟩
 conv => whnf
 refine ⟨_, specIsSchema_spec s hs, .inl rfl, .inl ?_⟩
 conv => whnf
 unfold isAtom takesS
 generalize hb1 : isSchema s = b1
 cases b1 with
 | false =>
  conv => whnf
  rfl
 | true =>
 conv => whnf
 refine ⟨_, l1In_spec _ _ _, .inl rfl, .inl ?_⟩
 rw [hw]
 conv => whnf
 generalize hb2 : inR a.1 0 (s.length - 1) = b2
 cases b2 with
 | false =>
  conv => whnf
  rfl
 | true =>
 conv => whnf
 have hr : 0 ≤ a.1 ∧ a.1 ≤ (s.length : Int) - 1 := by simpa [inR] using hb2
 obtain ⟨q, hqa⟩ : ∃ q : Nat, a.1 = q := ⟨a.1.toNat, by omega⟩
 have hq : q < s.length := by omega
 rw [hqa]
 refine ⟨by omega, rows_len ciL_len s, ?_⟩
 conv => whnf
 refine ⟨_, takeN_rp (k := q) ciL_len hq, ?_⟩
 conv => whnf
 have h13 := schema_at hb1 hq
 rw [Int.toNat_natCast, getD_at hq]
 generalize hb3 : ((a.2.length : Int) == s[q]) = b3
 cases b3 with
 | false =>
  conv => whnf
  have : ¬ s[q] = (a.2.length : Int) := fun h => by rw [h, beq_self_eq_true] at hb3; cases hb3
  rw [decide_eq_false this]
  rfl
 | true =>
 conv => whnf
 have he : s[q] = (a.2.length : Int) := (eq_of_beq hb3).symm
 refine ⟨_, l3Terms_spec a.2 ha, .inl rfl, .inl ?_⟩
 conv => whnf
 rw [decide_eq_true he]
 show cb (terms3 a.2) = cb (a.2.all isTerm)
 rw [terms3, decide_eq_true (p := a.2.length ≤ 3) (by omega), Bool.and_true]
abbrev AtomC := Int × List Int
theorem snoc_rows {α : Type} (f : α → List V) (xs : List α) (x : α) : rows f xs ++ f x = rows f (xs ++ [x]) := by
 rw [rows_append]
 congr 1
 simp [rows]
end Go.Proofs.YtboolngaahifdaaGreatD
