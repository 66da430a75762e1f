/- impl.ParseInt. -/
import Derived.Test.YthfjngmbdbocbaaFPInt2
set_option linter.unusedVariables false
set_option linter.unusedSimpArgs false
set_option maxRecDepth 100000
namespace Go.Proofs.YthfjngmbdbocbaaD
open Go Go.Proofs

noncomputable def rgI4 : Array Oper := regOps Try.f81 4
noncomputable def rgI15 : Array Oper := regOps Try.f81 15
def exPI : Exs := { ex := fun f => Nat.beq f 131, hid := fun _ => false, cut := fun k => Nat.beq k 4 || Nat.beq k 15 }
def sPI (s : ByteArray) (a : Int) : St := ⟨55, [(0, str s), (2, ci 0), (3, cb false), (4, ci a)], []⟩
def tPI (s : ByteArray) (n : Int) : St := ⟨55, [(0, str s), (2, ci 0), (3, cb false), (5, ci n)], []⟩
set_option maxHeartbeats 4000000 in
theorem implParseInt_g (s : ByteArray) (hs : s.size ≤ 1099511627776) : SpecG Try.prog 81 [str s] [] fun r g2 => ∃ (n : Int) (ok : Bool), DigOk s n ok ∧ r = .tup [ci n, cb ok] ∧ g2 = [] := by
  have hneg : byteAt s 0 = 45 → ∀ (d : Int), 0 ≤ d → d ≤ 9 → s = dig d → False := fun h45 d h0 h9 hd => by
    have hb := dig_byte h0 h9
    rw [← hd, h45] at hb
    omega
  refine SpecG_ofE (ex := exPI) mx Γ_ok 0 Try.func81 rfl rfl (by decide) ?_
  conv => whnf
  apply share1 (α := Int) (fun a => (a = 0 ∨ a = 1) ∧ (∀ d : Int, 0 ≤ d → d ≤ 9 → s = dig d → a = 0))
  case h =>
    intro hrest
    generalize hb5 : decide ((s.size : Int) > 0) = b5
    cases b5 with
    | true =>
      simp only [decide_eq_true_eq] at hb5
      conv => whnf
      refine ⟨⟨_, rfl, rfl⟩, ⟨by omega, by omega⟩, ?_⟩
      rw [getB0]
      conv => whnf
      generalize hb6 : (byteAt s 0 == 45) = b6
      cases b6 with
      | true =>
        conv => whnf
        obtain ⟨a, ha⟩ : ∃ a : Int, a = 1 := ⟨_, rfl⟩
        refine ⟨[(0,0),(2,0),(3,0),(4,0)], [], sPI s a, rgI4, by rw [ha]; kernel_rfl, by kernel_rfl, ?_⟩
        exact hrest a ⟨.inr ha, fun d h0 h9 hd => (hneg (by simpa using hb6) d h0 h9 hd).elim⟩
      | false =>
        conv => whnf
        obtain ⟨a, ha⟩ : ∃ a : Int, a = 0 := ⟨_, rfl⟩
        refine ⟨[(0,0),(2,0),(3,0),(4,0)], [], sPI s a, rgI4, by rw [ha]; kernel_rfl, by kernel_rfl, ?_⟩
        exact hrest a ⟨.inl ha, fun d h0 h9 hd => ha⟩
    | false =>
      conv => whnf
      obtain ⟨a, ha⟩ : ∃ a : Int, a = 0 := ⟨_, rfl⟩
      refine ⟨[(0,0),(2,0),(3,0),(4,0)], [], sPI s a, rgI4, by rw [ha]; kernel_rfl, by kernel_rfl, ?_⟩
      exact hrest a ⟨.inl ha, fun d h0 h9 hd => ha⟩
  case hx =>
    rintro a ⟨ha, had⟩
    obtain ⟨q, rfl⟩ : ∃ q : Nat, a = q := ⟨a.toNat, by omega⟩
    unfold sPI
    conv => whnf
    have hw : IntKind.i64.wrap ((s.size : Int) - q) = (s.size : Int) - q := wrap_id (by omega) (by omega)
    rw [hw]
    refine ⟨_, within_spec _ _ _, .inl rfl, .inl ?_⟩
    conv => whnf
    generalize hb1 : (!inR ((s.size : Int) - q) 1 9) = b1
    cases b1 with
    | true =>
      conv => whnf
      refine ⟨[], ?_⟩
      conv => whnf
      refine ⟨0, false, fun d h0 h9 hd => ?_, rfl, rfl⟩
      have hs1 : s.size = 1 := by rw [hd]; rfl
      have h2 := had d h0 h9 hd
      rw [hs1, h2] at hb1
      cases hb1
    | false =>
      simp only [Bool.not_eq_false', inR, Bool.and_eq_true, decide_eq_true_eq] at hb1
      conv => whnf
      apply share1 (α := Int) (fun n => n.natAbs ≤ 100000000000 ∧ (∀ d : Int, 0 ≤ d → d ≤ 9 → s = dig d → n = d))
      case h =>
        intro hrest
        refine ⟨[(0,0),(2,0),(3,0),(4,0),(5,0),(6,0)], fun m st => ∃ (i n : Nat) (ei en : Int), ei = i ∧ en = n ∧ m + i = s.size ∧ n + 1 ≤ 10 ^ i ∧ PI s i n i ∧ st = ⟨55, [(0, str s), (2, ci 0), (3, cb false), (4, ci q), (5, ci en), (6, ci ei)], []⟩, s.size - q, ⟨q, 0, _, _, rfl, rfl, by omega, Nat.pow_pos (by decide), fun d h0 h9 hd => ⟨by have := had d h0 h9 hd; rw [this]; exact (Int.zero_mul d).symm, rfl⟩, rfl⟩, ?_⟩
        rintro m st ⟨i, n, _, _, rfl, rfl, hm, hn, hp, rfl⟩
        have hi : i ≤ 11 := by omega
        have hnb := pow_bd hn hi
        conv => whnf
        generalize hb2 : decide ((i : Int) < (s.size : Int)) = b2
        cases b2 with
        | true =>
          simp only [decide_eq_true_eq] at hb2
          have hi1 : i < s.size := by omega
          conv => whnf
          refine ⟨⟨_, rfl, rfl⟩, ⟨by omega, by omega⟩, ?_⟩
          rw [getB]
          conv => whnf
          generalize hb3 : decide (byteAt s i < 48) = b3
          cases b3 with
          | true =>
            simp only [decide_eq_true_eq] at hb3
            conv => whnf
            refine ⟨[], ?_⟩
            conv => whnf
            refine ⟨0, false, fun d h0 h9 hd => ?_, rfl, rfl⟩
            have := (PI_byte h0 h9 hd hi1).2
            omega
          | false =>
            simp only [decide_eq_false_iff_not] at hb3
            conv => whnf
            refine ⟨⟨_, rfl, rfl⟩, ⟨by omega, by omega⟩, ?_⟩
            rw [getB]
            conv => whnf
            generalize hb4 : decide (byteAt s i > 57) = b4
            cases b4 with
            | true =>
              simp only [decide_eq_true_eq] at hb4
              conv => whnf
              refine ⟨[], ?_⟩
              conv => whnf
              refine ⟨0, false, fun d h0 h9 hd => ?_, rfl, rfl⟩
              have := (PI_byte h0 h9 hd hi1).2
              omega
            | false =>
              simp only [decide_eq_false_iff_not] at hb4
              conv => whnf
              refine ⟨⟨_, rfl, rfl⟩, ⟨by omega, by omega⟩, ?_⟩
              rw [getB]
              conv => whnf
              exact ⟨m - 1, by omega, i + 1, n * 10 + (byteAt s i - 48).toNat, _, _, wrap_id (by omega) (by omega), pstep2 (by omega) (by omega) (by omega), by omega, pow_step hn (by omega), PI_step hp hi1, rfl⟩
        | false =>
          simp only [decide_eq_false_iff_not] at hb2
          have hfin := PI_end hp (.inl (by omega)) (by omega)
          conv => whnf
          generalize hb6 : ((q : Int) == 1) = b6
          cases b6 with
          | true =>
            conv => whnf
            obtain ⟨n', hn'⟩ : ∃ n' : Int, n' = IntKind.i64.wrap (0 - (n : Int)) := ⟨_, rfl⟩
            refine ⟨[(0,0),(2,0),(3,0),(5,0)], [], tPI s n', rgI15, by rw [hn']; kernel_rfl, by kernel_rfl, ?_⟩
            refine hrest n' ⟨by rw [hn', wrap_id (by omega) (by omega)]; omega, fun d h0 h9 hd => ?_⟩
            have h2 := had d h0 h9 hd
            rw [h2] at hb6
            cases hb6
          | false =>
            conv => whnf
            obtain ⟨n', hn'⟩ : ∃ n' : Int, n' = (n : Int) := ⟨_, rfl⟩
            refine ⟨[(0,0),(2,0),(3,0),(5,0)], [], tPI s n', rgI15, by rw [hn']; kernel_rfl, by kernel_rfl, ?_⟩
            exact hrest n' ⟨by omega, fun d h0 h9 hd => by rw [hn']; exact (hfin d h0 h9 hd).1⟩
      case hx =>
        rintro n ⟨hn, hp⟩
        unfold tPI
        conv => whnf
        by_cases hd : 0 ≤ n ∧ n ≤ 9
        · refine .inl ?_
          conv => whnf
          refine ⟨_, implFormatInt_spec n hd.1 hd.2, .inl rfl, .inl ?_⟩
          conv => whnf
          generalize hb3 : (!((dig n).toList == s.toList)) = b3
          cases b3 with
          | true =>
            conv => whnf
            refine ⟨[], ?_⟩
            conv => whnf
            refine ⟨0, false, fun d h0 h9 hd => ?_, rfl, rfl⟩
            obtain rfl := hp d h0 h9 hd
            rw [hd] at hb3
            simp at hb3
          | false =>
            conv => whnf
            refine ⟨[], ?_⟩
            conv => whnf
            exact ⟨n, true, fun d h0 h9 hd => ⟨hp d h0 h9 hd, rfl⟩, rfl, rfl⟩
        · refine .inr (.inr ⟨[], [], ?_⟩)
          conv => whnf
          refine ⟨_, implFormatInt_g n (by omega), fun r g2 hP => ?_⟩
          obtain ⟨b, hb, rfl, rfl⟩ := hP
          refine .inl ?_
          conv => whnf
          generalize hb3 : (!(b.toList == s.toList)) = b3
          cases b3 with
          | true =>
            conv => whnf
            refine ⟨[], ?_⟩
            conv => whnf
            refine ⟨0, false, fun d h0 h9 hd2 => ?_, rfl, rfl⟩
            obtain rfl := hp d h0 h9 hd2
            exact absurd ⟨h0, h9⟩ hd
          | false =>
            conv => whnf
            refine ⟨[], ?_⟩
            conv => whnf
            exact ⟨n, true, fun d h0 h9 hd => ⟨hp d h0 h9 hd, rfl⟩, rfl, rfl⟩
end Go.Proofs.YthfjngmbdbocbaaD
