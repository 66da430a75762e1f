/- Contracts and plain laws of this seat; no condition. -/
import Derived.Test.YtboolngaahifdaaGreatQ11
import Derived.Test.YtboolngaahifdaaGreatQ12
import Derived.Test.YtboolngaahifdaaGreatQ18
import Derived.Test.YtboolngaahifdaaGreatQ20
set_option linter.unusedVariables false
set_option linter.unusedSimpArgs false
set_option maxRecDepth 100000
namespace Go.Proofs.YtboolngaahifdaaGreatD
open Go Go.Proofs
def cu8 (x : Int) : List V := [.sc (.int .u8 x)]
theorem cu8_len (x : Int) : (cu8 x).length = 1 := rfl
def bytesR (xs : List Int) : V := .ro xs.length (rows cu8 xs)
abbrev Cur := List Int × Nat × Int
def curC (c : Cur) : List V := [bytesR c.1, ci c.2.1, ci c.2.2]
def vCur (c : Cur) : V := .bp (curC c)
def goodC (c : Cur) : Prop := c.1.length ≤ 1099511627776 ∧ c.2.1 ≤ c.1.length
def hStep (h b : Int) : Int := andI .i64 (IntKind.i64.wrap (IntKind.i64.wrap (IntKind.i64.wrap (h * 131) + IntKind.i64.wrap b) + 7)) 1073741823
def newCur (xs : List Int) : Cur := (xs, 0, (xs.take 4000).foldl hStep (IntKind.i64.wrap (10101 + xs.length)))
theorem good_new {xs : List Int} (h : xs.length ≤ 1099511627776) : goodC (newCur xs) := ⟨h, Nat.zero_le _⟩
theorem l1New_spec (xs : List Int) (h : xs.length ≤ 1099511627776) : Spec Tryz.prog 64 [bytesR xs] (vCur (newCur xs)) := by
 unfold bytesR
 refine Spec_of mx Γ_ok Tryz.func64 rfl ?_
 conv => whnf
 refine ⟨[(0,0),(3,0),(4,0)], fun m st => ∃ (k : Nat) (e f : Int), e = k ∧ m + k = xs.length + 1 ∧ k ≤ 4000 ∧ k ≤ xs.length ∧ f = ((xs.take k).foldl hStep (IntKind.i64.wrap (10101 + xs.length))) ∧
  st = ⟨32, [(0, bytesR xs), (3, ci f), (4, ci e)], []⟩, xs.length + 1, ⟨0, 0, _, rfl, rfl, by omega, by omega, rfl, by kernel_rfl⟩, ?_⟩
 rintro m st ⟨k, _, _, rfl, hm, hk4, hkl, rfl, rfl⟩
 unfold bytesR
 have fin : ∀ f : Int, (k = xs.length ∨ k = 4000) → f = (xs.take k).foldl hStep (IntKind.i64.wrap (10101 + xs.length)) → (newCur xs) = (xs, 0, f) := by
  rintro f hk rfl
  unfold newCur
  rcases hk with rfl | rfl
  ·rw [List.take_length, List.take_of_length_le (by omega)]
  ·rfl
 conv => whnf
 generalize hc1 : decide ((k : Int) < (xs.length : Int)) = c1
 cases c1 with
 | false =>
  conv => whnf
  rw [fin _ (.inl (by have := of_decide_eq_false hc1; omega)) rfl]
  exact ⟨rfl, rfl, rfl⟩
 | true =>
  have hk : k < xs.length := by have := of_decide_eq_true hc1; omega
  conv => whnf
  generalize hc2 : decide ((k : Int) < 4000) = c2
  cases c2 with
  | false =>
   conv => whnf
   rw [fin _ (.inr (by have := of_decide_eq_false hc2; omega)) rfl]
   exact ⟨rfl, rfl, rfl⟩
  | true =>
   have hk4 : k < 4000 := by have := of_decide_eq_true hc2; omega
   conv => whnf
   refine ⟨by omega, rows_len cu8_len _, ?_⟩
   conv => whnf
   refine ⟨_, takeN_rp (k := k) cu8_len hk, ?_⟩
   conv => whnf
   refine ⟨m - 1, by omega, k + 1, _, hStep ((xs.take k).foldl hStep (IntKind.i64.wrap (10101 + xs.length))) xs[k], wrap_id (by omega) (by omega), by omega, by omega, by omega, ?_, by kernel_rfl⟩
   rw [List.take_succ_eq_append_getElem hk, List.foldl_append]
   rfl
def nextH (h : Int) : Int := IntKind.i64.wrap (IntKind.i64.wrap (h * 6364136223846793005) + 1442695040888963407)
def rawB (h : Int) : Int := andI .i64 (xorI .i64 (shrI .i64 h 33) (shrI .i64 h 45)) 255
def byteP (c : Cur) : Int × Cur := if c.2.1 < c.1.length then (andI .i64 (IntKind.i64.wrap (rawB (nextH c.2.2) + IntKind.i64.wrap (c.1.getD c.2.1 0))) 255, (c.1, c.2.1 + 1, nextH c.2.2)) else (rawB (nextH c.2.2), (c.1, c.2.1, nextH c.2.2))
theorem and_255 (a : Int) : 0 ≤ andI .i64 a 255 ∧ andI .i64 a 255 ≤ 255 := by
 have h : (BitVec.ofInt 64 a &&& BitVec.ofInt 64 255).toNat ≤ 255 := by
  rw [BitVec.toNat_and]
  have : (BitVec.ofInt 64 255).toNat = 255 := by decide
  rw [this]
  exact Nat.and_le_right
 have e : andI .i64 a 255 = IntKind.i64.wrap ((BitVec.ofInt 64 a &&& BitVec.ofInt 64 255).toNat : Int) := rfl
 rw [e, wrap_id (by omega) (by omega)]
 omega
theorem byteP_bd (c : Cur) : 0 ≤ (byteP c).1 ∧ (byteP c).1 ≤ 255 := by
 unfold byteP
 split
 ·exact and_255 _
 ·exact and_255 _
theorem byteP_good {c : Cur} (h : goodC c) : goodC (byteP c).2 := by
 unfold byteP
 obtain ⟨h1, h2⟩ := h
 split
 ·exact ⟨h1, by simp only; omega⟩
 ·exact ⟨h1, h2⟩
theorem curC_ne (c : Cur) : curC c ≠ [] := by unfold curC; simp
theorem set3_ne {a b d x : V} : setC [a, b, d] 2 [x] ≠ [] := by show [a, b, x] ≠ []; simp
theorem set31_ne {a b d x y : V} : setC (setC [a, b, d] 2 [x]) 1 [y] ≠ [] := by show [a, y, x] ≠ []; simp
theorem getD_at0 {l : List Int} {i : Nat} (h : i < l.length) : l.getD i 0 = l[i] := by simp [List.getD_eq_getElem?_getD, h]
set_option maxHeartbeats 1000000 in
theorem l1Byte_spec (c : Cur) (h : goodC c) : SpecR Tryz.prog 159 [vCur c] (ci (byteP c).1) [vCur (byteP c).2] := by
 obtain ⟨xs, i, hh⟩ := c
 obtain ⟨h1, h2⟩ := h
 simp only at h1 h2
 unfold vCur curC bytesR
 refine SpecL_of mx Γ_ok 1 Tryz.func159 rfl rfl (by omega) ?_
 conv => whnf
 refine ⟨_, rfl, ?_⟩
 conv => whnf
 refine ⟨_, rfl, _, rfl, ?_⟩
 conv => whnf
 refine ⟨List.range 13, by kernel_rfl, ?_⟩
 conv => whnf
 refine ⟨_, rfl, ?_⟩
 conv => whnf
 refine ⟨by decide, ?_⟩
 conv => whnf
 refine ⟨_, rfl, ?_⟩
 conv => whnf
 refine ⟨by decide, ?_⟩
 conv => whnf
 refine ⟨List.range 10, by kernel_rfl, ?_⟩
 conv => whnf
 refine ⟨_, rfl, ?_⟩
 conv => whnf
 refine ⟨_, rfl, ?_⟩
 conv => whnf
 unfold byteP
 simp only
 generalize hc1 : decide ((i : Int) < (xs.length : Int)) = c1
 cases c1 with
 | false =>
  have hk : ¬ i < xs.length := by have := of_decide_eq_false hc1; omega
  simp only [if_neg hk]
  conv => whnf
  exact ⟨rfl, set3_ne, rfl⟩
 | true =>
  have hk : i < xs.length := by have := of_decide_eq_true hc1; omega
  have hw : IntKind.i64.wrap ((i : Int) + 1) = ((i + 1 : Nat) : Int) := wrap_id (by omega) (by omega)
  simp only [if_pos hk, getD_at0 hk]
  conv => whnf
  refine ⟨List.range 15, by kernel_rfl, ?_⟩
  conv => whnf
  refine ⟨_, rfl, ?_⟩
  conv => whnf
  refine ⟨_, rfl, ?_⟩
  conv => whnf
  refine ⟨by omega, rows_len cu8_len _, ?_⟩
  conv => whnf
  refine ⟨_, takeN_rp (k := i) cu8_len hk, ?_⟩
  conv => whnf
  refine ⟨_, rfl, ?_⟩
  conv => whnf
  refine ⟨_, rfl, _, rfl, ?_⟩
  conv => whnf
  refine ⟨rfl, set31_ne, ?_⟩
  rw [← hw]
  rfl
def belowP (c : Cur) (n : Int) : Int × Cur :=
 if n ≤ 0 then (0, c) else if n ≤ 256 then ((byteP c).1.tmod n, (byteP c).2) else
  let a := byteP c
  let b := byteP a.2
  let d := byteP b.2
  let e := byteP d.2
  ((IntKind.i64.wrap (IntKind.i64.wrap (IntKind.i64.wrap (IntKind.i64.wrap (a.1 * 16777216) + IntKind.i64.wrap (b.1 * 65536)) + IntKind.i64.wrap (d.1 * 256)) + e.1)).tmod n, e.2)
theorem belowP_bd (c : Cur) {n : Int} (h : 0 < n) (h2 : n ≤ 256) : 0 ≤ (belowP c n).1 ∧ (belowP c n).1 < n := by
 unfold belowP
 rw [if_neg (by omega), if_pos h2]
 have := byteP_bd c
 simp only
 rw [Int.tmod_eq_emod_of_nonneg this.1]
 exact ⟨Int.emod_nonneg _ (by omega), Int.emod_lt_of_pos _ h⟩
theorem belowP_good {c : Cur} (h : goodC c) (n : Int) : goodC (belowP c n).2 := by
 unfold belowP
 split
 ·exact h
 ·split
  ·exact byteP_good h
  ·exact byteP_good (byteP_good (byteP_good (byteP_good h)))
theorem l1Below_spec (c : Cur) (n : Int) (h : goodC c) (hn : n ≤ 256) : SpecR Tryz.prog 81 [vCur c, ci n] (ci (belowP c n).1) [vCur (belowP c n).2, ci n] := by
 unfold belowP
 rw [show vCur c = .bp (curC c) from rfl]
 unfold curC bytesR
 refine SpecL_of mx Γ_ok 2 Tryz.func81 rfl rfl (by omega) ?_
 conv => whnf
 generalize hc1 : decide (n ≤ 0) = c1
 cases c1 with
 | true =>
  rw [if_pos (of_decide_eq_true hc1)]
  conv => whnf
  exact ⟨rfl, by simp, rfl⟩
 | false =>
  have h0 := of_decide_eq_false hc1
  rw [if_neg h0, if_pos hn]
  have e : decide (n ≤ 256) = true := decide_eq_true hn
  conv => whnf
  rw [e]
  conv => whnf
  refine .inr (.inl ?_)
  conv => whnf
  refine ⟨by simp, ?_⟩
  conv => whnf
  have hs := l1Byte_spec c h
  refine ⟨_, _, _, hs, ?_⟩
  conv => whnf
  refine .inl ?_
  conv => whnf
  refine ⟨by omega, ?_⟩
  conv => whnf
  exact ⟨rfl, curC_ne _, rfl⟩
theorem wrap_pred (n : Nat) (h : n ≤ 1000000 := by omega) : IntKind.i64.wrap (((n + 1 : Nat) : Int) - 1) = (n : Int) := by
 rw [wrap_id (by omega) (by omega)]; omega
def schGo : Nat → List Int → Cur → List Int × Cur
 | 0, a, c => (a, c)
 | n + 1, a, c => schGo n (a ++ [IntKind.i64.wrap (1 + (belowP c 3).1)]) (belowP c 3).2
def schP (c : Cur) : List Int × Cur := schGo (belowP c 3).1.toNat [2] (belowP c 3).2
theorem schGo_ok : ∀ (n : Nat) (a : List Int) (c : Cur), goodC c → (∀ x ∈ a, 1 ≤ x ∧ x ≤ 3) → goodC (schGo n a c).2 ∧ (∀ x ∈ (schGo n a c).1, 1 ≤ x ∧ x ≤ 3) ∧ (schGo n a c).1.length = a.length + n
 | 0, a, c, hc, ha => ⟨hc, ha, rfl⟩
 | n + 1, a, c, hc, ha => by
  have hb := belowP_bd c (n := 3) (by omega) (by omega)
  have hw : IntKind.i64.wrap (1 + (belowP c 3).1) = 1 + (belowP c 3).1 := wrap_id (by omega) (by omega)
  obtain ⟨h1, h2, h3⟩ := schGo_ok n (a ++ [IntKind.i64.wrap (1 + (belowP c 3).1)]) (belowP c 3).2 (belowP_good hc 3) (fun x hx => by
   rcases List.mem_append.1 hx with hx | hx
   ·exact ha x hx
   ·have : x = IntKind.i64.wrap (1 + (belowP c 3).1) := by simpa using hx
    rw [this, hw]; omega)
  refine ⟨h1, h2, ?_⟩
  simp only [schGo, h3, List.length_append, List.length_cons, List.length_nil]
  omega
theorem schP_ok {c : Cur} (hc : goodC c) : goodC (schP c).2 ∧ (∀ x ∈ (schP c).1, 1 ≤ x ∧ x ≤ 3) ∧ 1 ≤ (schP c).1.length ∧ (schP c).1.length ≤ 3 := by
 have hb := belowP_bd c (n := 3) (by omega) (by omega)
 obtain ⟨h1, h2, h3⟩ := schGo_ok (belowP c 3).1.toNat [2] (belowP c 3).2 (belowP_good hc 3) (fun x hx => by
  have : x = 2 := by simpa using hx
  omega)
 refine ⟨h1, h2, ?_, ?_⟩
 ·unfold schP; rw [h3]; simp
 ·unfold schP; rw [h3]; simp; omega
set_option maxHeartbeats 2000000 in
theorem l3Schema_spec (c : Cur) (h : goodC c) : SpecR Tryz.prog 138 [vCur c] (wSchema (schP c).1) [vCur (schP c).2] := by
 refine SpecL_of mx Γ_ok 1 Tryz.func138 rfl rfl (by omega) ?_
 conv => whnf
 refine .inr (.inl ?_)
 conv => whnf
 refine ⟨curC_ne c, ?_⟩
 conv => whnf
 refine ⟨_, _, _, l1Below_spec c 3 h (by omega), ?_⟩
 conv => whnf
 refine .inl ?_
 conv => whnf
 have hb := belowP_bd c (n := 3) (by omega) (by omega)
 unfold schP
 have hc := belowP_good h 3
 generalize (belowP c 3).2 = c0 at hc ⊢
 obtain ⟨n0, hn0⟩ : ∃ n : Nat, (belowP c 3).1 = n := ⟨(belowP c 3).1.toNat, by omega⟩
 rw [hn0] at hb ⊢
 rw [Int.toNat_natCast]
 refine ⟨[(0,0),(2,0),(3,0),(4,0)], fun m st => ∃ (n : Nat) (e : Int) (a : List Int) (c1 : Cur) (k : Nat) (cc r : List V), e = n ∧ m = n ∧ n ≤ 2 ∧ goodC c1 ∧ schGo n0 [2] c0 = schGo n a c1 ∧ k = a.length ∧ a.length + n ≤ 3 ∧ cc = curC c1 ∧ r = rows ciL a ∧
  st = ⟨24, [(0, .ptr 0 0), (2, .ptr 1 0), (3, .ptr 2 0), (4, ci e)], [some ⟨false, cc⟩, some ⟨true, [cnil]⟩, some ⟨true, [.own 3 1 0 k k none]⟩, some ⟨false, r⟩]⟩, n0, ⟨n0, n0, [2], c0, 1, _, _, rfl, rfl, by omega, hc, rfl, rfl, by simp; omega, rfl, rfl, by kernel_rfl⟩, ?_⟩
 rintro m st ⟨n, _, a, c1, k, _, _, rfl, hm, hn2, hc1, hgo, hk, hal, rfl, rfl, rfl⟩
 conv => whnf
 split <;> rename_i h1
 all_goals simp only [decide_eq_true_eq, decide_eq_false_iff_not] at h1
 ·obtain ⟨n', rfl⟩ : ∃ n', n = n' + 1 := ⟨n - 1, by omega⟩
  conv => whnf
  refine .inr (.inl ?_)
  conv => whnf
  refine ⟨curC_ne c1, ?_⟩
  conv => whnf
  refine ⟨_, _, _, l1Below_spec c1 3 hc1 (by omega), ?_⟩
  conv => whnf
  refine .inl ?_
  conv => whnf
  refine ⟨_, rfl, .inl ⟨flat1 rfl, ?_⟩⟩
  conv => whnf
  refine ⟨by omega, by rw [rows_len ciL_len, hk], _, snoc_ci _ _, ?_⟩
  conv => whnf
  refine ⟨m - 1, by omega, n', _, a ++ [IntKind.i64.wrap (1 + (belowP c1 3).1)], (belowP c1 3).2, k + 1, _, _, wrap_pred n', by omega, by omega, belowP_good hc1 3, hgo, by simp [hk], by simp; omega, rfl, rfl, by kernel_rfl⟩
 ·have h0 : n = 0 := by omega
  subst h0
  conv => whnf
  simp only [schGo] at hgo
  rw [hgo]
  refine ⟨by rw [rows_len ciL_len, hk], ?_⟩
  conv => whnf
  refine ⟨?_, curC_ne c1, rfl⟩
  rw [hk]; rfl
def sOk (s : List Int) : Prop := (∀ x ∈ s, 1 ≤ x ∧ x ≤ 3) ∧ 1 ≤ s.length ∧ s.length ≤ 4
theorem sOk_at {s : List Int} (h : sOk s) {k : Nat} (hk : k < s.length) : 1 ≤ s[k] ∧ s[k] ≤ 3 := h.1 _ (List.getElem_mem hk)
theorem below_idx {s : List Int} (h : sOk s) (c : Cur) : ∃ k : Nat, (belowP c s.length).1 = k ∧ k < s.length := by
 have h1 := h.2.1
 have h2 := h.2.2
 have hb := belowP_bd c (n := s.length) (by omega) (by omega)
 exact ⟨(belowP c s.length).1.toNat, by omega, by omega⟩
theorem sumB_cap' {α : Type} (f : α → Nat) (n : Nat) : ∀ (xs : List α), (∀ x ∈ xs, f x ≤ n) → sumB f xs ≤ n * xs.length
 | [], _ => by simp [sumB]
 | x :: xs, h => by
  have h1 := sumB_cap' f n xs fun y hy => h y (by simp [hy])
  have h2 := h x (by simp)
  simp only [sumB, List.length_cons, Nat.mul_add, Nat.mul_one]
  omega
theorem l1Once_spec (c : Cur) (n : Int) (h : goodC c) (hn : n ≤ 256) : SpecR Tryz.prog 80 [vCur c, ci n] (cb ((belowP c n).1 == 0)) [vCur (belowP c n).2, ci n] := by
 refine SpecL_of mx Γ_ok 2 Tryz.func80 rfl rfl (by omega) ?_
 conv => whnf
 refine .inr (.inl ?_)
 conv => whnf
 refine ⟨curC_ne c, ?_⟩
 conv => whnf
 refine ⟨_, _, _, l1Below_spec c n h hn, ?_⟩
 conv => whnf
 refine .inl ?_
 conv => whnf
 exact ⟨rfl, curC_ne _, rfl⟩
theorem l1PickInt_spec (c : Cur) (xs : List Int) (h : goodC c) (h1 : 1 ≤ xs.length) (h2 : xs.length ≤ 200) : SpecR Tryz.prog 194 [vCur c, intsT xs] (ci (xs.getD (belowP c xs.length).1.toNat 0)) [vCur (belowP c xs.length).2, intsT xs] := by
 refine SpecL_of mx Γ_ok 2 Tryz.func194 rfl rfl (by omega) ?_
 conv => whnf
 refine .inr (.inl ?_)
 conv => whnf
 refine ⟨curC_ne c, ?_⟩
 conv => whnf
 refine ⟨_, _, _, l1Below_spec c xs.length h (by omega), ?_⟩
 conv => whnf
 refine .inl ?_
 conv => whnf
 have hb := belowP_bd c (n := xs.length) (by omega) (by omega)
 generalize (belowP c xs.length).2 = c1
 obtain ⟨k, hk⟩ : ∃ k : Nat, (belowP c xs.length).1 = k := ⟨(belowP c xs.length).1.toNat, by omega⟩
 rw [hk] at hb ⊢
 have hkl : k < xs.length := by omega
 rw [Int.toNat_natCast, getD_at hkl]
 refine ⟨by omega, ?_⟩
 conv => whnf
 refine ⟨_, takeN_own (k := k) (d := 0) (m := 1) (xs := xs) ciL_len (Nat.zero_add _) hkl (by omega) rfl, ?_⟩
 conv => whnf
 refine ⟨rfl, curC_ne _, by rw [rows_len ciL_len], rfl⟩
theorem ints_roV (s : List Int) : roV (vSchema s) = vSchema s := by
 show V.agg [.ro _ (roVs _)] = _
 rw [roVs_ci]; rfl
abbrev AtomD := Int × List Int
abbrev QueryW := List Int × List AtomD
def gC (c : Cur) : List (Option Obj) := [some ⟨false, curC c⟩]
theorem l2Term_g (c : Cur) (h : goodC c) : SpecG Tryz.prog 195 [.ptr 0 0] (gC c) fun r g2 => ∃ (t : Int) (c' : Cur), r = ci t ∧ goodC c' ∧ g2 = gC c' := by
 unfold gC
 refine SpecG_of mx Γ_ok 1 Tryz.func195 rfl rfl (by decide) ?_
 conv => whnf
 refine .inr (.inl ?_)
 conv => whnf
 refine ⟨curC_ne c, ?_⟩
 conv => whnf
 refine ⟨_, _, _, l1Once_spec c 4 h (by omega), ?_⟩
 conv => whnf
 refine .inl ?_
 conv => whnf
 have h1 := belowP_good h 4
 generalize (belowP c 4).2 = c1 at h1 ⊢
 generalize ((belowP c 4).1 == 0) = b
 cases b with
 | true =>
  conv => whnf
  refine .inr (.inl ?_)
  conv => whnf
  refine ⟨curC_ne c1, ?_⟩
  conv => whnf
  refine ⟨_, _, _, l1Below_spec c1 3 h1 (by omega), ?_⟩
  conv => whnf
  refine .inl ?_
  conv => whnf
  refine ⟨[], ?_⟩
  conv => whnf
  exact ⟨_, _, rfl, belowP_good h1 3, rfl⟩
 | false =>
  conv => whnf
  refine .inr (.inl ?_)
  conv => whnf
  refine ⟨curC_ne c1, ?_⟩
  conv => whnf
  refine ⟨_, _, _, l1Below_spec c1 4 h1 (by omega), ?_⟩
  conv => whnf
  refine .inl ?_
  conv => whnf
  refine ⟨[], ?_⟩
  conv => whnf
  exact ⟨_, _, rfl, belowP_good h1 4, rfl⟩
theorem l2Any_g (c : Cur) (h : goodC c) : SpecG Tryz.prog 141 [.ptr 0 0] (gC c) fun r g2 => ∃ (t : Int) (c' : Cur), r = ci t ∧ goodC c' ∧ g2 = gC c' := by
 unfold gC
 refine SpecG_of mx Γ_ok 1 Tryz.func141 rfl rfl (by decide) ?_
 conv => whnf
 refine .inr (.inl ?_)
 conv => whnf
 refine ⟨curC_ne c, ?_⟩
 conv => whnf
 refine ⟨_, _, _, l1Once_spec c 6 h (by omega), ?_⟩
 conv => whnf
 refine .inl ?_
 conv => whnf
 have h1 := belowP_good h 6
 generalize (belowP c 6).2 = c1 at h1 ⊢
 generalize ((belowP c 6).1 == 0) = b
 cases b with
 | true =>
  conv => whnf
  refine .inr (.inl ?_)
  conv => whnf
  refine ⟨curC_ne c1, ?_⟩
  conv => whnf
  refine ⟨rfl, ?_⟩
  conv => whnf
  refine ⟨_, _, _, l1PickInt_spec c1 [19, 20, -80, -81, -1, 99] h1 (by decide) (by decide), ?_⟩
  conv => whnf
  refine .inl ?_
  conv => whnf
  refine ⟨[], ?_⟩
  conv => whnf
  exact ⟨_, _, rfl, belowP_good h1 6, rfl⟩
 | false =>
  conv => whnf
  refine .inr (.inr ⟨[0], [], ?_⟩)
  conv => whnf
  refine ⟨_, l2Term_g c1 h1, fun r g2 hP => ?_⟩
  obtain ⟨t, c2, rfl, h2, rfl⟩ := hP
  refine .inl ?_
  conv => whnf
  refine ⟨[], ?_⟩
  conv => whnf
  exact ⟨_, _, rfl, h2, rfl⟩
set_option maxHeartbeats 2000000 in
theorem l3Atom_g (s : List Int) (c : Cur) (hs : sOk s) (h : goodC c) : SpecG Tryz.prog 192 [.ptr 0 0, vSchema s] (gC c) fun r g2 => ∃ (a : AtomD) (c' : Cur), r = wAtom a ∧ a.2.length ≤ 3 ∧ goodC c' ∧ g2 = gC c' := by
 unfold gC
 have hsl := hs.2.2
 refine SpecG_of mx Γ_ok 1 Tryz.func192 rfl rfl (by decide) ?_
 conv => whnf
 refine .inr (.inl ?_)
 conv => whnf
 refine ⟨curC_ne c, ?_⟩
 conv => whnf
 refine ⟨_, _, _, l1Below_spec c s.length h (by omega), ?_⟩
 conv => whnf
 refine .inl ?_
 conv => whnf
 obtain ⟨q, hq, hql⟩ := below_idx hs c
 have hat := sOk_at hs hql
 rw [hq]
 have hc := belowP_good h s.length
 generalize (belowP c s.length).2 = c0 at hc ⊢
 obtain ⟨N, hN⟩ : ∃ N : Nat, s[q] = N := ⟨s[q].toNat, by omega⟩
 have hN3 : N ≤ 3 := by omega
 refine ⟨[(0,0),(3,0),(4,0),(5,201),(6,0)], fun m st => ∃ (i : Nat) (e : Int) (a : List Int) (c1 : Cur) (k : Nat) (cc r : List V), e = i ∧ m + i = N ∧ goodC c1 ∧ k = a.length ∧ a.length = i ∧ cc = curC c1 ∧ r = rows ciL a ∧
  st = ⟨33, [(0, .ptr 0 0), (3, .ptr 1 0), (4, .ptr 2 0), (5, .ptr 3 0), (6, ci e)], [some ⟨false, cc⟩, some ⟨true, [ints s]⟩, some ⟨true, [ci 0, cnil]⟩, some ⟨true, [ci q, .own 4 1 0 k k none]⟩, some ⟨false, r⟩]⟩, N, ⟨0, 0, [], c0, 0, _, _, rfl, by omega, hc, rfl, rfl, rfl, rfl, by kernel_rfl⟩, ?_⟩
 rintro m st ⟨i, _, a, c1, k, _, _, rfl, hm, hc1, hk, hai, rfl, rfl, rfl⟩
 conv => whnf
 refine ⟨by omega, rows_len ciL_len _, ?_⟩
 conv => whnf
 refine ⟨_, takeN_rp (k := q) ciL_len hql, ?_⟩
 rw [hN]
 conv => whnf
 split <;> rename_i h1
 all_goals simp only [decide_eq_true_eq, decide_eq_false_iff_not] at h1
 ·conv => whnf
  refine .inr (.inr ⟨[0], [], ?_⟩)
  conv => whnf
  refine ⟨_, l2Term_g c1 hc1, fun r g2 hP => ?_⟩
  obtain ⟨t, c2, rfl, h2, rfl⟩ := hP
  refine .inl ?_
  conv => whnf
  refine ⟨_, rfl, .inl ⟨flat1 rfl, ?_⟩⟩
  conv => whnf
  refine ⟨by omega, by rw [rows_len ciL_len, hk], _, snoc_ci _ _, ?_⟩
  conv => whnf
  exact ⟨m - 1, by omega, i + 1, IntKind.i64.wrap ((i : Int) + 1), a ++ [t], c2, k + 1, curC c2, rows ciL (a ++ [t]), wrap_id (by omega) (by omega), by omega, h2, by simp [hk], by simp [hai], rfl, rfl, by kernel_rfl⟩
 ·conv => whnf
  refine ⟨[], ?_⟩
  conv => whnf
  subst hk
  refine ⟨by rw [rows_len ciL_len], ?_⟩
  exact ⟨((q : Int), a), c1, rfl, by show a.length ≤ 3; omega, hc1, rfl⟩
set_option maxHeartbeats 2000000 in
theorem l3AnyAtom_g (c : Cur) (h : goodC c) : SpecG Tryz.prog 215 [.ptr 0 0] (gC c) fun r g2 => ∃ (a : AtomD) (c' : Cur), r = wAtom a ∧ a.2.length ≤ 4 ∧ goodC c' ∧ g2 = gC c' := by
 unfold gC
 refine SpecG_of mx Γ_ok 1 Tryz.func215 rfl rfl (by decide) ?_
 conv => whnf
 refine .inr (.inl ?_)
 conv => whnf
 refine ⟨curC_ne c, ?_⟩
 conv => whnf
 refine ⟨_, _, _, l3Schema_spec c h, ?_⟩
 conv => whnf
 refine .inl ?_
 rw [wSchema_ro]
 conv => whnf
 obtain ⟨h1, s1, s2, s3⟩ := schP_ok h
 have hs : sOk (schP c).1 := ⟨s1, s2, by omega⟩
 generalize (schP c).2 = c1 at h1 ⊢
 generalize (schP c).1 = s at hs ⊢
 refine .inr (.inr ⟨[0], [], ?_⟩)
 conv => whnf
 refine ⟨_, l3Atom_g s c1 hs h1, fun r g2 hP => ?_⟩
 obtain ⟨a, c2, rfl, ha, h2, rfl⟩ := hP
 refine .inr ?_
 conv => whnf
 refine .inr (.inl ?_)
 conv => whnf
 refine ⟨curC_ne c2, ?_⟩
 conv => whnf
 refine ⟨_, _, _, l1Below_spec c2 8 h2 (by omega), ?_⟩
 conv => whnf
 refine .inl ?_
 conv => whnf
 have h3 := belowP_good h2 8
 generalize (belowP c2 8).2 = c3 at h3 ⊢
 generalize (belowP c2 8).1 = v
 generalize (v == 0) = b0
 cases b0 with
 | true =>
  conv => whnf
  refine .inr (.inl ?_)
  conv => whnf
  refine ⟨curC_ne c3, ?_⟩
  conv => whnf
  refine ⟨rfl, ?_⟩
  conv => whnf
  refine ⟨_, _, _, l1PickInt_spec c3 [-1, 3, 4] h3 (by decide) (by decide), ?_⟩
  conv => whnf
  refine .inl ?_
  conv => whnf
  refine ⟨[], ?_⟩
  conv => whnf
  refine ⟨by rw [rows_len ciL_len], ?_⟩
  exact ⟨(_, a.2), _, rfl, by show a.2.length ≤ 4; omega, belowP_good h3 3, rfl⟩
 | false =>
  conv => whnf
  generalize (v == 1) = b1
  cases b1 with
  | true =>
   conv => whnf
   refine ⟨[1001, 0, 1, 2, 3, 4, 5, 6, 7, 1000, 1000], by kernel_rfl, ?_⟩
   conv => whnf
   refine .inr (.inr ⟨[0], fun k => noSubT_lk (by kernel_rfl) k, rfl, ?_⟩)
   conv => whnf
   refine ⟨_, l2Any_g c3 h3, fun r g2 hP => ?_⟩
   obtain ⟨t, c4, rfl, h4, rfl⟩ := hP
   refine .inl ?_
   conv => whnf
   refine ⟨_, rfl, .inl ⟨flat1 rfl, ?_⟩⟩
   conv => whnf
   refine ⟨by omega, by rw [rows_len ciL_len], _, snoc_ci _ _, ?_⟩
   conv => whnf
   refine ⟨[], ?_⟩
   conv => whnf
   refine ⟨by rw [rows_len ciL_len, List.length_append]; rfl, ?_⟩
   refine ⟨(a.1, a.2 ++ [t]), c4, ?_, by simp; omega, h4, rfl⟩
   show _ = V.agg [ci a.1, .tr 1 (a.2 ++ [t]).length _]
   rw [List.length_append]
   rfl
  | false =>
   conv => whnf
   refine ⟨[], ?_⟩
   conv => whnf
   refine ⟨by rw [rows_len ciL_len], ?_⟩
   exact ⟨a, c3, rfl, by omega, h3, rfl⟩
def qSm (q : QueryW) : Prop := q.1.length ≤ 8 ∧ q.2.length ≤ 8 ∧ ∀ a ∈ q.2, a.2.length ≤ 8
theorem sm_sum : ∀ {l : List AtomD}, (∀ a ∈ l, a.2.length ≤ 8) → sumB cAtom l ≤ 8 * l.length
 | [], _ => by simp [sumB]
 | a :: l, h => by
  have h1 := sm_sum (l := l) fun x hx => h x (by simp [hx])
  have h2 : cAtom a = a.2.length := rfl
  have h3 := h a (by simp)
  simp only [sumB, List.length_cons]
  omega
theorem qSm_size {q : QueryW} (h : qSm q) : cQuery q ≤ 1048576 := by
 obtain ⟨h1, h2, h3⟩ := h
 have := sm_sum h3
 show q.1.length + (q.2.length + sumB cAtom q.2) ≤ _
 omega
theorem termsL_sum : ∀ l : List AtomD, (termsL l).length = sumB cAtom l
 | [] => rfl
 | a :: l => by
  have h := termsL_sum l
  have e : termsL (a :: l) = a.2 ++ termsL l := by simp [termsL]
  rw [e, List.length_append, h]
  rfl
theorem bodyVars_small {q : QueryW} (h : qSm q) : (bodyVars q).length ≤ 64 := by
 have h1 := bodyVars_len q (termsL q.2) []
 have h2 := sm_sum h.2.2
 have h3 := h.2.1
 rw [termsL_sum] at h1
 unfold bodyVars
 simp only [List.length_nil] at h1
 omega
theorem solid_tAtomD (a : AtomD) : ∀ c ∈ tAtom a, solid c = true := by
 intro c hc
 simp only [tAtom, List.mem_cons, List.not_mem_nil, or_false] at hc
 rcases hc with rfl | rfl <;> rfl
theorem snoc_rowsD {α : Type} (f : α → List V) (xs : List α) (x : α) : rows f xs ++ f x = rows f (xs ++ [x]) := by
 rw [rows_append]
 simp [rows]
end Go.Proofs.YtboolngaahifdaaGreatD
