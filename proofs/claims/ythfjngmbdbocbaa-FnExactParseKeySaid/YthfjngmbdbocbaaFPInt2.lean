/- ParseInt, twice: it returns something for every text, and a digit's number for a digit. -/
import Derived.Test.YthfjngmbdbocbaaFPInt
import Derived.Laws.Strings
set_option linter.unusedVariables false
set_option linter.unusedSimpArgs false
set_option maxRecDepth 100000
namespace Go.Proofs.YthfjngmbdbocbaaD
open Go Go.Proofs

def byteAt (s : ByteArray) (i : Nat) : Int := if h : i < s.size then ((s[i]'h).toNat : Int) else 0
theorem getB (s : ByteArray) (i : Nat) (h : (i : Int).toNat < s.size) : ((s[(i : Int).toNat]'h).toNat : Int) = byteAt s i := by
  have h2 : i < s.size := h
  unfold byteAt
  rw [dif_pos h2]
  rfl
theorem getB0 (s : ByteArray) (h : (0 : Int).toNat < s.size) : ((s[(0 : Int).toNat]'h).toNat : Int) = byteAt s 0 := getB s 0 h
theorem dig_byte {d : Int} (h0 : 0 ≤ d) (h9 : d ≤ 9) : byteAt (dig d) 0 = 48 + d := by
  have : d = 0 ∨ d = 1 ∨ d = 2 ∨ d = 3 ∨ d = 4 ∨ d = 5 ∨ d = 6 ∨ d = 7 ∨ d = 8 ∨ d = 9 := by omega
  rcases this with rfl | rfl | rfl | rfl | rfl | rfl | rfl | rfl | rfl | rfl <;> decide
theorem eqS {a b : ByteArray} (h : (a.toList == b.toList) = true) : a = b := by
  have h := eq_of_beq h
  rw [ByteArray.toList_eq, ByteArray.toList_eq] at h
  obtain ⟨a⟩ := a
  obtain ⟨b⟩ := b
  exact congrArg ByteArray.mk (Array.ext' h)
theorem u8dig {x : Int} (h1 : 48 ≤ x) (h2 : x ≤ 57) : IntKind.u8.wrap (x - 48) = x - 48 := by
  have : x = 48 ∨ x = 49 ∨ x = 50 ∨ x = 51 ∨ x = 52 ∨ x = 53 ∨ x = 54 ∨ x = 55 ∨ x = 56 ∨ x = 57 := by omega
  rcases this with rfl | rfl | rfl | rfl | rfl | rfl | rfl | rfl | rfl | rfl <;> rfl
theorem pstep {n : Nat} {x : Int} (hn : n ≤ 1000000000000) (h1 : 48 ≤ x) (h2 : x ≤ 57) : IntKind.i64.wrap (IntKind.i64.wrap ((n : Int) * 10) + IntKind.i64.wrap (IntKind.u8.wrap (x - 48))) = ((n * 10 + (x - 48).toNat : Nat) : Int) := by
  rw [u8dig h1 h2, wrap_id (x := (n : Int) * 10) (by omega) (by omega), wrap_id (x := x - 48) (by omega) (by omega), wrap_id (by omega) (by omega)]
  omega
theorem pstep2 {n : Nat} {x : Int} (hn : n ≤ 1000000000000) (h1 : 48 ≤ x) (h2 : x ≤ 57) : IntKind.i64.wrap (IntKind.i64.wrap (10 * (n : Int)) + IntKind.i64.wrap (IntKind.u8.wrap (x - 48))) = ((n * 10 + (x - 48).toNat : Nat) : Int) := by
  rw [Int.mul_comm]
  exact pstep hn h1 h2
def PI (s : ByteArray) (i n k : Nat) : Prop := ∀ d : Int, 0 ≤ d → d ≤ 9 → s = dig d → (n : Int) = i * d ∧ k = i
theorem PI_byte {s : ByteArray} {i : Nat} {d : Int} (h0 : 0 ≤ d) (h9 : d ≤ 9) (hd : s = dig d) (hi : i < s.size) : i = 0 ∧ byteAt s i = 48 + d := by
  have hs : s.size = 1 := by rw [hd]; rfl
  obtain rfl : i = 0 := by omega
  refine ⟨rfl, ?_⟩
  rw [hd]
  exact dig_byte h0 h9
theorem PI_step {s : ByteArray} {i n k : Nat} (h : PI s i n k) (hi : i < s.size) : PI s (i + 1) (n * 10 + (byteAt s i - 48).toNat) (k + 1) := by
  intro d h0 h9 hd
  obtain ⟨rfl, hb⟩ := PI_byte h0 h9 hd hi
  obtain ⟨h1, h2⟩ := h d h0 h9 hd
  rw [hb]
  have hn : n = 0 := by
    rw [show ((0 : Nat) : Int) * d = 0 from Int.zero_mul d] at h1
    omega
  subst hn
  refine ⟨?_, by omega⟩
  rw [show ((0 + 1 : Nat) : Int) * d = d from Int.one_mul d]
  omega
theorem PI_skip {s : ByteArray} {i n k : Nat} (h : PI s i n k) (hi : i < s.size) (hx : ¬ (48 ≤ byteAt s i ∧ byteAt s i ≤ 57)) : PI s (i + 1) n k := by
  intro d h0 h9 hd
  obtain ⟨rfl, hb⟩ := PI_byte h0 h9 hd hi
  exact absurd ⟨by omega, by omega⟩ hx
theorem PI_end {s : ByteArray} {i n k : Nat} (h : PI s i n k) (he : s.size ≤ i ∨ 11 ≤ i) (hi : i ≤ s.size) : ∀ d : Int, 0 ≤ d → d ≤ 9 → s = dig d → (n : Int) = d ∧ k = 1 := by
  intro d h0 h9 hd
  have hs : s.size = 1 := by rw [hd]; rfl
  obtain rfl : i = 1 := by omega
  obtain ⟨h1, h2⟩ := h d h0 h9 hd
  rw [show ((1 : Nat) : Int) * d = d from Int.one_mul d] at h1
  exact ⟨h1, h2⟩
theorem pow_bd {n i : Nat} (h : n + 1 ≤ 10 ^ i) (hi : i ≤ 11) : n ≤ 100000000000 := by
  have h2 : 10 ^ i ≤ 10 ^ 11 := Nat.pow_le_pow_right (by decide) hi
  have h3 : (10 : Nat) ^ 11 = 100000000000 := by decide
  omega
theorem pow_step {n i t : Nat} (h : n + 1 ≤ 10 ^ i) (ht : t ≤ 9) : n * 10 + t + 1 ≤ 10 ^ (i + 1) := by
  rw [Nat.pow_succ]
  omega
theorem share1 {α : Type} {P : α → Prop} {G : Prop} (pre : α → Prop) (hx : ∀ a, pre a → P a) (h : (∀ a, pre a → P a) → G) : G := h hx
noncomputable def rgS11 : Array Oper := regOps Try.f76 11
def exPS : Exs := { ex := fun f => Nat.beq f 130, hid := fun _ => false, cut := fun k => Nat.beq k 11 }
def DigOk (s : ByteArray) (n : Int) (ok : Bool) : Prop := ∀ d : Int, 0 ≤ d → d ≤ 9 → s = dig d → n = d ∧ ok = true
set_option maxHeartbeats 4000000 in
theorem specParseInt_g (s : ByteArray) (hs : s.size ≤ 1099511627776) : SpecG Try.prog 76 [str s] [] fun r g2 => ∃ (n : Int) (ok : Bool), DigOk s n ok ∧ r = .tup [ci n, cb ok] ∧ g2 = [] := by
  refine SpecG_ofE (ex := exPS) mx Γ_ok 0 Try.func76 rfl rfl (by decide) ?_
  conv => whnf
  apply shareC (α := Int) (fun n k => n.natAbs ≤ 100000000000 ∧ (∀ d : Int, 0 ≤ d → d ≤ 9 → s = dig d → n = d ∧ k = 1))
  case h =>
    intro hrest
    refine ⟨[(0,0),(2,0),(3,0),(4,0),(5,0),(6,0)], fun m st => ∃ (i n k : Nat) (ei en ek : Int), ei = i ∧ en = n ∧ ek = k ∧ m + i = s.size ∧ n + 1 ≤ 10 ^ i ∧ i ≤ 11 ∧ k ≤ i ∧ PI s i n k ∧ st = ⟨61, [(0, str s), (2, ci 0), (3, cb false), (4, ci en), (5, ci ek), (6, ci ei)], []⟩, s.size, ⟨0, 0, 0, _, _, _, rfl, rfl, rfl, rfl, by decide, by omega, by omega, (fun d _ _ _ => ⟨(Int.zero_mul d).symm, rfl⟩), rfl⟩, ?_⟩
    rintro m st ⟨i, n, k, _, _, _, rfl, rfl, rfl, hm, hn, hi, hk, hp, rfl⟩
    have hnb := pow_bd hn hi
    conv => whnf
    have hfin : (s.size ≤ i ∨ 11 ≤ i) → ∀ d : Int, 0 ≤ d → d ≤ 9 → s = dig d → (n : Int) = d ∧ k = 1 := fun he => PI_end hp he (by omega)
    have hneg : byteAt s 0 = 45 → ∀ (n' : Int) (d : Int), 0 ≤ d → d ≤ 9 → s = dig d → n' = d ∧ k = 1 := fun h45 n' d h0 h9 hd => by
      have hb := dig_byte h0 h9
      rw [← hd, h45] at hb
      omega
    generalize hb1 : decide ((i : Int) < (s.size : Int)) = b1
    cases b1 with
    | true =>
      simp only [decide_eq_true_eq] at hb1
      conv => whnf
      generalize hb2 : decide ((i : Int) < 11) = b2
      cases b2 with
      | true =>
        simp only [decide_eq_true_eq] at hb2
        have hi1 : i < s.size := by omega
        conv => whnf
        refine ⟨⟨_, rfl, rfl⟩, ⟨by omega, by omega⟩, ?_⟩
        rw [getB]
        conv => whnf
        generalize hb3 : decide (byteAt s i ≥ 48) = b3
        cases b3 with
        | true =>
          conv => whnf
          refine ⟨⟨_, rfl, rfl⟩, ⟨by omega, by omega⟩, ?_⟩
          rw [getB]
          conv => whnf
          generalize hb4 : decide (byteAt s i ≤ 57) = b4
          cases b4 with
          | true =>
            simp only [decide_eq_true_eq, ge_iff_le] at hb3 hb4
            conv => whnf
            refine ⟨⟨_, rfl, rfl⟩, ⟨by omega, by omega⟩, ?_⟩
            rw [getB]
            conv => whnf
            refine ⟨m - 1, by omega, i + 1, n * 10 + (byteAt s i - 48).toNat, k + 1, _, _, _, wrap_id (by omega) (by omega), pstep (by omega) hb3 hb4, wrap_id (by omega) (by omega), by omega, pow_step hn (by omega), by omega, by omega, PI_step hp hi1, rfl⟩
          | false =>
            simp only [decide_eq_true_eq, decide_eq_false_iff_not, ge_iff_le] at hb3 hb4
            conv => whnf
            refine ⟨m - 1, by omega, i + 1, n, k, _, _, _, wrap_id (by omega) (by omega), rfl, rfl, by omega, by have := pow_step hn (t := 0) (by omega); omega, by omega, by omega, PI_skip hp hi1 (fun h => hb4 h.2), rfl⟩
        | false =>
          simp only [decide_eq_false_iff_not, ge_iff_le] at hb3
          conv => whnf
          refine ⟨m - 1, by omega, i + 1, n, k, _, _, _, wrap_id (by omega) (by omega), rfl, rfl, by omega, by have := pow_step hn (t := 0) (by omega); omega, by omega, by omega, PI_skip hp hi1 (fun h => hb3 h.1), rfl⟩
      | false =>
        simp only [decide_eq_false_iff_not] at hb2
        conv => whnf
        generalize hb5 : decide ((s.size : Int) > 0) = b5
        cases b5 with
        | true =>
          simp only [decide_eq_true_eq] at hb5
          conv => whnf
          refine ⟨⟨_, rfl, rfl⟩, ⟨by omega, by omega⟩, ?_⟩
          rw [getB0]
          conv => whnf
          generalize hb6 : (byteAt s 0 == 45) = b6
          cases b6 with
          | true =>
            conv => whnf
            obtain ⟨n', hn'⟩ : ∃ n' : Int, n' = IntKind.i64.wrap (0 - (n : Int)) := ⟨_, rfl⟩
            refine ⟨[(0,0),(2,0),(3,0),(4,0),(5,0)], [], ⟨61, [(0, str s), (2, ci 0), (3, cb false), (4, ci n'), (5, ci k)], []⟩, rgS11, by rw [hn']; kernel_rfl, by kernel_rfl, ?_⟩
            exact hrest n' k ⟨by rw [hn', wrap_id (by omega) (by omega)]; omega, hneg (by simpa using hb6) n'⟩
          | false =>
            conv => whnf
            obtain ⟨n', hn'⟩ : ∃ n' : Int, n' = (n : Int) := ⟨_, rfl⟩
            refine ⟨[(0,0),(2,0),(3,0),(4,0),(5,0)], [], ⟨61, [(0, str s), (2, ci 0), (3, cb false), (4, ci n'), (5, ci k)], []⟩, rgS11, by rw [hn']; kernel_rfl, by kernel_rfl, ?_⟩
            exact hrest n' k ⟨by omega, by rw [hn']; exact hfin (.inr (by omega))⟩
        | false =>
          simp only [decide_eq_false_iff_not] at hb5
          omega
    | false =>
      simp only [decide_eq_false_iff_not] at hb1
      conv => whnf
      generalize hb5 : decide ((s.size : Int) > 0) = b5
      cases b5 with
      | true =>
        simp only [decide_eq_true_eq] at hb5
        conv => whnf
        refine ⟨⟨_, rfl, rfl⟩, ⟨by omega, by omega⟩, ?_⟩
        rw [getB0]
        conv => whnf
        generalize hb6 : (byteAt s 0 == 45) = b6
        cases b6 with
        | true =>
          conv => whnf
          obtain ⟨n', hn'⟩ : ∃ n' : Int, n' = IntKind.i64.wrap (0 - (n : Int)) := ⟨_, rfl⟩
          refine ⟨[(0,0),(2,0),(3,0),(4,0),(5,0)], [], ⟨61, [(0, str s), (2, ci 0), (3, cb false), (4, ci n'), (5, ci k)], []⟩, rgS11, by rw [hn']; kernel_rfl, by kernel_rfl, ?_⟩
          exact hrest n' k ⟨by rw [hn', wrap_id (by omega) (by omega)]; omega, hneg (by simpa using hb6) n'⟩
        | false =>
          conv => whnf
          obtain ⟨n', hn'⟩ : ∃ n' : Int, n' = (n : Int) := ⟨_, rfl⟩
          refine ⟨[(0,0),(2,0),(3,0),(4,0),(5,0)], [], ⟨61, [(0, str s), (2, ci 0), (3, cb false), (4, ci n'), (5, ci k)], []⟩, rgS11, by rw [hn']; kernel_rfl, by kernel_rfl, ?_⟩
          exact hrest n' k ⟨by omega, by rw [hn']; exact hfin (.inl (by omega))⟩
      | false =>
        conv => whnf
        obtain ⟨n', hn'⟩ : ∃ n' : Int, n' = (n : Int) := ⟨_, rfl⟩
        refine ⟨[(0,0),(2,0),(3,0),(4,0),(5,0)], [], ⟨61, [(0, str s), (2, ci 0), (3, cb false), (4, ci n'), (5, ci k)], []⟩, rgS11, by rw [hn']; kernel_rfl, by kernel_rfl, ?_⟩
        exact hrest n' k ⟨by omega, by rw [hn']; exact hfin (.inl (by omega))⟩
  case hx =>
    rintro n k ⟨hn, hp⟩
    conv => whnf
    generalize hb1 : decide ((k : Int) > 9) = b1
    cases b1 with
    | true =>
      simp only [decide_eq_true_eq] at hb1
      conv => whnf
      refine ⟨[], ?_⟩
      conv => whnf
      refine ⟨0, false, fun d h0 h9 hd => ?_, rfl, rfl⟩
      have := (hp d h0 h9 hd).2
      omega
    | false =>
      conv => whnf
      generalize hb2 : decide ((s.size : Int) > 10) = b2
      cases b2 with
      | true =>
        simp only [decide_eq_true_eq] at hb2
        conv => whnf
        refine ⟨[], ?_⟩
        conv => whnf
        refine ⟨0, false, fun d h0 h9 hd => ?_, rfl, rfl⟩
        have hs1 : s.size = 1 := by rw [hd]; rfl
        omega
      | false =>
        conv => whnf
        by_cases hd : 0 ≤ n ∧ n ≤ 9
        · refine .inl ?_
          conv => whnf
          refine ⟨_, specFormatInt_spec n hd.1 hd.2, .inl rfl, .inl ?_⟩
          conv => whnf
          generalize hb3 : (!((dig n).toList == s.toList)) = b3
          cases b3 with
          | true =>
            conv => whnf
            refine ⟨[], ?_⟩
            conv => whnf
            refine ⟨0, false, fun d h0 h9 hd => ?_, rfl, rfl⟩
            obtain ⟨rfl, _⟩ := hp d h0 h9 hd
            rw [hd] at hb3
            simp at hb3
          | false =>
            conv => whnf
            refine ⟨[], ?_⟩
            conv => whnf
            exact ⟨n, true, fun d h0 h9 hd => ⟨(hp d h0 h9 hd).1, rfl⟩, rfl, rfl⟩
        · refine .inr (.inr ⟨[], [], ?_⟩)
          conv => whnf
          refine ⟨_, specFormatInt_g n (by omega), fun r g2 hP => ?_⟩
          obtain ⟨b, hb, rfl, rfl⟩ := hP
          refine .inl ?_
          conv => whnf
          generalize hb3 : (!(b.toList == s.toList)) = b3
          cases b3 with
          | true =>
            conv => whnf
            refine ⟨[], ?_⟩
            conv => whnf
            refine ⟨0, false, fun d h0 h9 hd2 => ?_, rfl, rfl⟩
            obtain ⟨rfl, _⟩ := hp d h0 h9 hd2
            exact absurd ⟨h0, h9⟩ hd
          | false =>
            conv => whnf
            refine ⟨[], ?_⟩
            conv => whnf
            exact ⟨n, true, fun d h0 h9 hd => ⟨(hp d h0 h9 hd).1, rfl⟩, rfl, rfl⟩
end Go.Proofs.YthfjngmbdbocbaaD
