/- The cursor that inputs are drawn with. -/
import Derived.Test.YthfjngmbdbocbaaFBase
set_option linter.unusedVariables false
set_option linter.unusedSimpArgs false
set_option maxRecDepth 100000
namespace Go.Proofs.YthfjngmbdbocbaaD
open Go Go.Proofs

def cu8 (x : Int) : List V := [.sc (.int .u8 x)]
theorem cu8_len (x : Int) : (cu8 x).length = 1 := rfl
def bytesR (xs : List Int) : V := .ro xs.length (rows cu8 xs)
/-- Bytes, a place in them, a number. -/
abbrev Cur := List Int × Nat × Int
def curC (c : Cur) : List V := [bytesR c.1, ci c.2.1, ci c.2.2]
def vCur (c : Cur) : V := .bp (curC c)
def goodC (c : Cur) : Prop := c.1.length ≤ 1099511627776 ∧ c.2.1 ≤ c.1.length
def hStep (h b : Int) : Int := andI .i64 (IntKind.i64.wrap (IntKind.i64.wrap (IntKind.i64.wrap (h * 131) + IntKind.i64.wrap b) + 7)) 1073741823
def newCur (xs : List Int) : Cur := (xs, 0, (xs.take 4000).foldl hStep (IntKind.i64.wrap (10101 + xs.length)))
theorem good_new {xs : List Int} (h : xs.length ≤ 1099511627776) : goodC (newCur xs) := ⟨h, Nat.zero_le _⟩
theorem l1New_spec (xs : List Int) (h : xs.length ≤ 1099511627776) : Spec Try.prog 88 [bytesR xs] (vCur (newCur xs)) := by
  unfold bytesR
  refine Spec_of mx Γ_ok Try.func88 rfl ?_
  conv => whnf
  refine ⟨[(0,0),(3,0),(4,0)], fun m st => ∃ (k : Nat) (e f : Int), e = k ∧ m + k = xs.length + 1 ∧ k ≤ 4000 ∧ k ≤ xs.length ∧ f = ((xs.take k).foldl hStep (IntKind.i64.wrap (10101 + xs.length))) ∧
    st = ⟨32, [(0, bytesR xs), (3, ci f), (4, ci e)], []⟩, xs.length + 1, ⟨0, 0, _, rfl, rfl, by omega, by omega, rfl, by kernel_rfl⟩, ?_⟩
  rintro m st ⟨k, _, _, rfl, hm, hk4, hkl, rfl, rfl⟩
  unfold bytesR
  have fin : ∀ f : Int, (k = xs.length ∨ k = 4000) → f = (xs.take k).foldl hStep (IntKind.i64.wrap (10101 + xs.length)) → (newCur xs) = (xs, 0, f) := by
    rintro f hk rfl
    unfold newCur
    rcases hk with rfl | rfl
    · rw [List.take_length, List.take_of_length_le (by omega)]
    · rfl
  conv => whnf
  generalize hc1 : decide ((k : Int) < (xs.length : Int)) = c1
  cases c1 with
  | false =>
    conv => whnf
    rw [fin _ (.inl (by have := of_decide_eq_false hc1; omega)) rfl]
    exact ⟨rfl, rfl, rfl⟩
  | true =>
    have hk : k < xs.length := by have := of_decide_eq_true hc1; omega
    conv => whnf
    generalize hc2 : decide ((k : Int) < 4000) = c2
    cases c2 with
    | false =>
      conv => whnf
      rw [fin _ (.inr (by have := of_decide_eq_false hc2; omega)) rfl]
      exact ⟨rfl, rfl, rfl⟩
    | true =>
      have hk4 : k < 4000 := by have := of_decide_eq_true hc2; omega
      conv => whnf
      refine ⟨by omega, rows_len cu8_len _, ?_⟩
      conv => whnf
      refine ⟨_, takeN_rp (k := k) cu8_len hk, ?_⟩
      conv => whnf
      refine ⟨m - 1, by omega, k + 1, _, hStep ((xs.take k).foldl hStep (IntKind.i64.wrap (10101 + xs.length))) xs[k], wrap_id (by omega) (by omega), by omega, by omega, by omega, ?_, by kernel_rfl⟩
      rw [List.take_succ_eq_append_getElem hk, List.foldl_append]
      rfl
/-! A byte. -/
def nextH (h : Int) : Int := IntKind.i64.wrap (IntKind.i64.wrap (h * 6364136223846793005) + 1442695040888963407)
def rawB (h : Int) : Int := andI .i64 (xorI .i64 (shrI .i64 h 33) (shrI .i64 h 45)) 255
def byteP (c : Cur) : Int × Cur := if c.2.1 < c.1.length then (andI .i64 (IntKind.i64.wrap (rawB (nextH c.2.2) + IntKind.i64.wrap (c.1.getD c.2.1 0))) 255, (c.1, c.2.1 + 1, nextH c.2.2)) else (rawB (nextH c.2.2), (c.1, c.2.1, nextH c.2.2))
theorem and_255 (a : Int) : 0 ≤ andI .i64 a 255 ∧ andI .i64 a 255 ≤ 255 := by
  have h : (BitVec.ofInt 64 a &&& BitVec.ofInt 64 255).toNat ≤ 255 := by
    rw [BitVec.toNat_and]
    have : (BitVec.ofInt 64 255).toNat = 255 := by decide
    rw [this]
    exact Nat.and_le_right
  have e : andI .i64 a 255 = IntKind.i64.wrap ((BitVec.ofInt 64 a &&& BitVec.ofInt 64 255).toNat : Int) := rfl
  rw [e, wrap_id (by omega) (by omega)]
  omega
theorem byteP_bd (c : Cur) : 0 ≤ (byteP c).1 ∧ (byteP c).1 ≤ 255 := by
  unfold byteP
  split
  · exact and_255 _
  · exact and_255 _
theorem byteP_good {c : Cur} (h : goodC c) : goodC (byteP c).2 := by
  unfold byteP
  obtain ⟨h1, h2⟩ := h
  split
  · exact ⟨h1, by simp only; omega⟩
  · exact ⟨h1, h2⟩
theorem curC_ne (c : Cur) : curC c ≠ [] := by unfold curC; simp
theorem set3_ne {a b d x : V} : setC [a, b, d] 2 [x] ≠ [] := by show [a, b, x] ≠ []; simp
theorem set31_ne {a b d x y : V} : setC (setC [a, b, d] 2 [x]) 1 [y] ≠ [] := by show [a, y, x] ≠ []; simp
theorem getD_at0 {l : List Int} {i : Nat} (h : i < l.length) : l.getD i 0 = l[i] := by simp [List.getD_eq_getElem?_getD, h]
set_option maxHeartbeats 1000000 in
theorem l1Byte_spec (c : Cur) (h : goodC c) : SpecR Try.prog 136 [vCur c] (ci (byteP c).1) [vCur (byteP c).2] := by
  obtain ⟨xs, i, hh⟩ := c
  obtain ⟨h1, h2⟩ := h
  simp only at h1 h2
  unfold vCur curC bytesR
  refine SpecL_of mx Γ_ok 1 Try.func136 rfl rfl (by omega) ?_
  conv => whnf
  refine ⟨_, rfl, ?_⟩
  conv => whnf
  refine ⟨_, rfl, _, rfl, ?_⟩
  conv => whnf
  refine ⟨List.range 13, by kernel_rfl, ?_⟩
  conv => whnf
  refine ⟨_, rfl, ?_⟩
  conv => whnf
  refine ⟨by decide, ?_⟩
  conv => whnf
  refine ⟨_, rfl, ?_⟩
  conv => whnf
  refine ⟨by decide, ?_⟩
  conv => whnf
  refine ⟨List.range 10, by kernel_rfl, ?_⟩
  conv => whnf
  refine ⟨_, rfl, ?_⟩
  conv => whnf
  refine ⟨_, rfl, ?_⟩
  conv => whnf
  unfold byteP
  simp only
  generalize hc1 : decide ((i : Int) < (xs.length : Int)) = c1
  cases c1 with
  | false =>
    have hk : ¬ i < xs.length := by have := of_decide_eq_false hc1; omega
    simp only [if_neg hk]
    conv => whnf
    exact ⟨rfl, set3_ne, rfl⟩
  | true =>
    have hk : i < xs.length := by have := of_decide_eq_true hc1; omega
    have hw : IntKind.i64.wrap ((i : Int) + 1) = ((i + 1 : Nat) : Int) := wrap_id (by omega) (by omega)
    simp only [if_pos hk, getD_at0 hk]
    conv => whnf
    refine ⟨List.range 15, by kernel_rfl, ?_⟩
    conv => whnf
    refine ⟨_, rfl, ?_⟩
    conv => whnf
    refine ⟨_, rfl, ?_⟩
    conv => whnf
    refine ⟨by omega, rows_len cu8_len _, ?_⟩
    conv => whnf
    refine ⟨_, takeN_rp (k := i) cu8_len hk, ?_⟩
    conv => whnf
    refine ⟨_, rfl, ?_⟩
    conv => whnf
    refine ⟨_, rfl, _, rfl, ?_⟩
    conv => whnf
    refine ⟨rfl, set31_ne, ?_⟩
    rw [← hw]
    rfl
/-! A number below n. -/
def belowP (c : Cur) (n : Int) : Int × Cur :=
  if n ≤ 0 then (0, c) else if n ≤ 256 then ((byteP c).1.tmod n, (byteP c).2) else
    let a := byteP c
    let b := byteP a.2
    let d := byteP b.2
    let e := byteP d.2
    ((IntKind.i64.wrap (IntKind.i64.wrap (IntKind.i64.wrap (IntKind.i64.wrap (a.1 * 16777216) + IntKind.i64.wrap (b.1 * 65536)) + IntKind.i64.wrap (d.1 * 256)) + e.1)).tmod n, e.2)
theorem belowP_bd (c : Cur) {n : Int} (h : 0 < n) (h2 : n ≤ 256) : 0 ≤ (belowP c n).1 ∧ (belowP c n).1 < n := by
  unfold belowP
  rw [if_neg (by omega), if_pos h2]
  have := byteP_bd c
  simp only
  rw [Int.tmod_eq_emod_of_nonneg this.1]
  exact ⟨Int.emod_nonneg _ (by omega), Int.emod_lt_of_pos _ h⟩
theorem belowP_good {c : Cur} (h : goodC c) (n : Int) : goodC (belowP c n).2 := by
  unfold belowP
  split
  · exact h
  · split
    · exact byteP_good h
    · exact byteP_good (byteP_good (byteP_good (byteP_good h)))
theorem l1Below_spec (c : Cur) (n : Int) (h : goodC c) (hn : n ≤ 256) : SpecR Try.prog 96 [vCur c, ci n] (ci (belowP c n).1) [vCur (belowP c n).2, ci n] := by
  unfold belowP
  rw [show vCur c = .bp (curC c) from rfl]
  unfold curC bytesR
  refine SpecL_of mx Γ_ok 2 Try.func96 rfl rfl (by omega) ?_
  conv => whnf
  generalize hc1 : decide (n ≤ 0) = c1
  cases c1 with
  | true =>
    rw [if_pos (of_decide_eq_true hc1)]
    conv => whnf
    exact ⟨rfl, by simp, rfl⟩
  | false =>
    have h0 := of_decide_eq_false hc1
    rw [if_neg h0, if_pos hn]
    have e : decide (n ≤ 256) = true := decide_eq_true hn
    conv => whnf
    rw [e]
    conv => whnf
    refine .inr (.inl ?_)
    conv => whnf
    refine ⟨by simp, ?_⟩
    conv => whnf
    have hs := l1Byte_spec c h
    refine ⟨_, _, _, hs, ?_⟩
    conv => whnf
    refine .inl ?_
    conv => whnf
    refine ⟨by omega, ?_⟩
    conv => whnf
    exact ⟨rfl, curC_ne _, rfl⟩
end Go.Proofs.YthfjngmbdbocbaaD
