/- FormatInclusion, twice. -/
import Derived.Test.YtifmkifkjmfceaaFPlaces
import Derived.Test.YtifmkifkjmfceaaFSpaced
set_option linter.unusedVariables false
set_option linter.unusedSimpArgs false
set_option maxRecDepth 100000
namespace Go.Proofs.YtifmkifkjmfceaaD
open Go Go.Proofs

theorem inR_iff {x lo hi : Int} (h : inR x lo hi = true) : lo ≤ x ∧ x ≤ hi := by simpa [inR] using h
theorem l14Ints_spec (ps : List Int) (hl : ps.length ≤ 3) (hp : ∀ x ∈ ps, 0 ≤ x ∧ x ≤ 9) : Spec Try.prog 86 [ints ps] (str (accK ByteArray.empty ps)) := by
  refine Spec_of mx Γ_ok Try.func86 rfl ?_
  conv => whnf
  refine ⟨[(0,0),(2,0),(3,0),(4,0)], fun m s => ∃ (k : Nat) (e : Int) (b : ByteArray), e = k ∧ m + k = ps.length ∧ accK ByteArray.empty ps = accK b (ps.drop k) ∧ b.size ≤ 2 * k ∧
    s = ⟨20, [(0, ints ps), (2, str ByteArray.empty), (3, str b), (4, ci e)], []⟩, ps.length, ⟨0, 0, _, rfl, rfl, rfl, by show 0 ≤ _; omega, rfl⟩, ?_⟩
  rintro m s ⟨k, _, b, rfl, hm, hall, hbs, rfl⟩
  conv => whnf
  split <;> rename_i h3
  all_goals simp only [decide_eq_true_eq, decide_eq_false_iff_not] at h3
  · conv => whnf
    have hk : k < ps.length := by omega
    have hv := hp ps[k] (List.getElem_mem hk)
    rw [List.drop_eq_getElem_cons hk] at hall
    refine ⟨by rw [show (⟨#[32]⟩ : ByteArray).size = 1 from rfl]; omega, ?_⟩
    conv => whnf
    refine ⟨by omega, rows_len ciL_len _, ?_⟩
    conv => whnf
    refine ⟨_, takeN_rp (k := k) ciL_len hk, ?_⟩
    conv => whnf
    refine ⟨_, specFormatInt_spec ps[k] hv.1 (by omega), .inl rfl, .inl ?_⟩
    conv => whnf
    refine ⟨by rw [ByteArray.size_append, dig_size, show (⟨#[32]⟩ : ByteArray).size = 1 from rfl]; omega, ?_⟩
    conv => whnf
    refine ⟨m - 1, by omega, k + 1, _, _, wrap_id (by omega) (by omega), by omega, hall, ?_, rfl⟩
    rw [ByteArray.size_append, ByteArray.size_append, dig_size, show sp.size = 1 from rfl]
    omega
  · conv => whnf
    rw [hall, drop_end (by omega)]
    rfl
abbrev InclF := Int × List Int × Int × List Int
def inS : ByteArray := ⟨#[32, 105, 110, 32, 114]⟩
def okIncl (x : InclF) : Bool := inR x.1 0 3 && (inR x.2.2.1 0 3 && (decide (x.2.1.length = x.2.2.2.length) && (arePl 3 x.2.1 && arePl 3 x.2.2.2)))
def pFormatInclusion (x : InclF) : ByteArray := if okIncl x then accK ((accK (⟨#[114]⟩ ++ dig x.1) x.2.1 ++ inS) ++ dig x.2.2.1) x.2.2.2 else ByteArray.empty
theorem no_incl {x : InclF} (h : okIncl x = false) : str ByteArray.empty = str (pFormatInclusion x) := by rw [pFormatInclusion, h]; rfl
theorem arePl_facts {l : List Int} (h : arePl 3 l = true) : (1 ≤ l.length ∧ l.length ≤ 3) ∧ ∀ x ∈ l, 0 ≤ x ∧ x ≤ 9 := by
  rw [arePl_eq, Bool.and_eq_true, Bool.and_eq_true] at h
  have hl := inR_iff h.2
  refine ⟨by omega, fun x hx => ?_⟩
  have := inR_iff (List.all_eq_true.1 h.1.1 x hx)
  omega
set_option maxHeartbeats 1000000 in
theorem specFormatInclusion_spec (x0 : InclF) (h0 : cInclusion x0 ≤ 1048576) (q0 : qInclusion x0) : Spec Try.prog 40 [vInclusion x0] (str (pFormatInclusion x0)) := by
  unfold cInclusion at h0
  refine Spec_of mx Γ_ok Try.func40 rfl ?_
  conv => whnf
  refine ⟨_, l1In_spec _ _ _, .inl rfl, .inl ?_⟩
  conv => whnf
  generalize hb1 : (!inR x0.1 0 3) = b1
  cases b1 with
  | true =>
    conv => whnf
    simp only [Bool.not_eq_true'] at hb1
    exact no_incl (by rw [okIncl, hb1]; rfl)
  | false =>
  conv => whnf
  simp only [Bool.not_eq_false'] at hb1
  refine ⟨_, l1In_spec _ _ _, .inl rfl, .inl ?_⟩
  conv => whnf
  generalize hb2 : (!inR x0.2.2.1 0 3) = b2
  cases b2 with
  | true =>
    conv => whnf
    simp only [Bool.not_eq_true'] at hb2
    exact no_incl (by rw [okIncl, hb2, Bool.false_and, Bool.and_false])
  | false =>
  conv => whnf
  simp only [Bool.not_eq_false'] at hb2
  generalize hb3 : ((x0.2.1.length : Int) != (x0.2.2.2.length : Int)) = b3
  cases b3 with
  | true =>
    conv => whnf
    have : ¬ x0.2.1.length = x0.2.2.2.length := by
      have : ¬ (x0.2.1.length : Int) = x0.2.2.2.length := by simpa using hb3
      omega
    exact no_incl (by rw [okIncl, decide_eq_false this, Bool.false_and, Bool.and_false, Bool.and_false])
  | false =>
  conv => whnf
  have hln : x0.2.1.length = x0.2.2.2.length := by
    have : (x0.2.1.length : Int) = x0.2.2.2.length := by simpa using hb3
    omega
  refine ⟨_, l14Places_spec x0.2.1 3 (by omega) (by omega), .inl rfl, .inl ?_⟩
  conv => whnf
  generalize hb4 : (!arePl 3 x0.2.1) = b4
  cases b4 with
  | true =>
    conv => whnf
    simp only [Bool.not_eq_true'] at hb4
    exact no_incl (by rw [okIncl, hb4, Bool.false_and, Bool.and_false, Bool.and_false, Bool.and_false])
  | false =>
  conv => whnf
  simp only [Bool.not_eq_false'] at hb4
  refine ⟨_, l14Places_spec x0.2.2.2 3 (by omega) (by omega), .inl rfl, .inl ?_⟩
  conv => whnf
  generalize hb5 : (!arePl 3 x0.2.2.2) = b5
  cases b5 with
  | true =>
    conv => whnf
    simp only [Bool.not_eq_true'] at hb5
    exact no_incl (by rw [okIncl, hb5, Bool.and_false, Bool.and_false, Bool.and_false, Bool.and_false])
  | false =>
  conv => whnf
  simp only [Bool.not_eq_false'] at hb5
  have hok : okIncl x0 = true := by rw [okIncl, hb1, hb2, hb4, hb5, decide_eq_true hln]; rfl
  obtain ⟨hl1, hp1⟩ := arePl_facts hb4
  obtain ⟨hl2, hp2⟩ := arePl_facts hb5
  have hr1 := inR_iff hb1
  have hr2 := inR_iff hb2
  have hz1 := accK_size x0.2.1 ByteArray.empty
  have hz2 := accK_size x0.2.2.2 ByteArray.empty
  have he : ByteArray.empty.size = 0 := rfl
  refine ⟨[0, 1, 4, 5, 9, 10, 13, 14, 2, 3, 6, 7, 8, 11, 12, 15, 16, 17], by kernel_rfl, ?_⟩
  conv => whnf
  refine ⟨_, specFormatInt_spec x0.1 hr1.1 (by omega), .inl rfl, .inl ?_⟩
  conv => whnf
  refine ⟨by show 1 + 1 ≤ _; omega, ?_⟩
  conv => whnf
  refine ⟨_, l14Ints_spec x0.2.1 (by omega) hp1, .inl rfl, .inl ?_⟩
  conv => whnf
  have hs1 : ((⟨#[114]⟩ : ByteArray) ++ dig x0.1).size = 2 := rfl
  refine ⟨by rw [hs1, hz1]; omega, ?_⟩
  conv => whnf
  refine ⟨by rw [ByteArray.size_append, hs1, hz1, show (⟨#[32, 105, 110, 32, 114]⟩ : ByteArray).size = 5 from rfl]; omega, ?_⟩
  conv => whnf
  refine ⟨_, specFormatInt_spec x0.2.2.1 hr2.1 (by omega), .inl rfl, .inl ?_⟩
  conv => whnf
  refine ⟨by rw [ByteArray.size_append, ByteArray.size_append, hs1, hz1, dig_size, show (⟨#[32, 105, 110, 32, 114]⟩ : ByteArray).size = 5 from rfl]; omega, ?_⟩
  conv => whnf
  refine ⟨_, l14Ints_spec x0.2.2.2 (by omega) hp2, .inl rfl, .inl ?_⟩
  conv => whnf
  refine ⟨by rw [ByteArray.size_append, ByteArray.size_append, ByteArray.size_append, hs1, hz1, hz2, dig_size, show (⟨#[32, 105, 110, 32, 114]⟩ : ByteArray).size = 5 from rfl]; omega, ?_⟩
  conv => whnf
  rw [pFormatInclusion, hok, if_pos rfl]
  show str ((((((⟨#[114]⟩ : ByteArray) ++ dig x0.1) ++ accK ByteArray.empty x0.2.1) ++ inS) ++ dig x0.2.2.1) ++ accK ByteArray.empty x0.2.2.2) = _
  rw [accK_app, accK_app, ByteArray.append_empty, ByteArray.append_empty]
set_option maxHeartbeats 1000000 in
theorem implFormatInclusion_spec (x0 : InclF) (h0 : cInclusion x0 ≤ 1048576) (q0 : qInclusion x0) : Spec Try.prog 41 [vInclusion x0] (str (pFormatInclusion x0)) := by
  unfold cInclusion at h0
  have hpl : ∀ l : List Int, arePl 3 l = (places3 l && differ l) := fun l => by
    rw [arePl_eq, places3, Bool.and_right_comm]
    rfl
  refine Spec_of mx Γ_ok Try.func41 rfl ?_
  conv => whnf
  refine ⟨_, within_spec _ _ _, .inl rfl, .inl ?_⟩
  conv => whnf
  generalize hb1 : (!inR x0.1 0 3) = b1
  cases b1 with
  | true =>
    conv => whnf
    simp only [Bool.not_eq_true'] at hb1
    exact no_incl (by rw [okIncl, hb1]; rfl)
  | false =>
  conv => whnf
  simp only [Bool.not_eq_false'] at hb1
  refine ⟨_, within_spec _ _ _, .inl rfl, .inl ?_⟩
  conv => whnf
  generalize hb2 : (!inR x0.2.2.1 0 3) = b2
  cases b2 with
  | true =>
    conv => whnf
    simp only [Bool.not_eq_true'] at hb2
    exact no_incl (by rw [okIncl, hb2, Bool.false_and, Bool.and_false])
  | false =>
  conv => whnf
  simp only [Bool.not_eq_false'] at hb2
  generalize hb3 : ((x0.2.1.length : Int) != (x0.2.2.2.length : Int)) = b3
  cases b3 with
  | true =>
    conv => whnf
    have : ¬ x0.2.1.length = x0.2.2.2.length := by
      have : ¬ (x0.2.1.length : Int) = x0.2.2.2.length := by simpa using hb3
      omega
    exact no_incl (by rw [okIncl, decide_eq_false this, Bool.false_and, Bool.and_false, Bool.and_false])
  | false =>
  conv => whnf
  have hln : x0.2.1.length = x0.2.2.2.length := by
    have : (x0.2.1.length : Int) = x0.2.2.2.length := by simpa using hb3
    omega
  refine ⟨_, arePlaces_spec x0.2.1 (by omega), .inl rfl, .inl ?_⟩
  conv => whnf
  generalize hb4 : (!places3 x0.2.1) = b4
  cases b4 with
  | true =>
    conv => whnf
    simp only [Bool.not_eq_true'] at hb4
    exact no_incl (by rw [okIncl, hpl x0.2.1, hb4, Bool.false_and, Bool.false_and, Bool.and_false, Bool.and_false, Bool.and_false])
  | false =>
  conv => whnf
  simp only [Bool.not_eq_false'] at hb4
  refine ⟨_, arePlaces_spec x0.2.2.2 (by omega), .inl rfl, .inl ?_⟩
  conv => whnf
  generalize hb5 : (!places3 x0.2.2.2) = b5
  cases b5 with
  | true =>
    conv => whnf
    simp only [Bool.not_eq_true'] at hb5
    exact no_incl (by rw [okIncl, hpl x0.2.2.2, hb5, Bool.false_and, Bool.and_false, Bool.and_false, Bool.and_false, Bool.and_false])
  | false =>
  conv => whnf
  simp only [Bool.not_eq_false'] at hb5
  refine ⟨_, areDifferent_spec x0.2.1 (by omega), .inl rfl, .inl ?_⟩
  conv => whnf
  generalize hb6 : (!differ x0.2.1) = b6
  cases b6 with
  | true =>
    conv => whnf
    simp only [Bool.not_eq_true'] at hb6
    exact no_incl (by rw [okIncl, hpl x0.2.1, hb6, Bool.and_false, Bool.false_and, Bool.and_false, Bool.and_false, Bool.and_false])
  | false =>
  conv => whnf
  simp only [Bool.not_eq_false'] at hb6
  refine ⟨_, areDifferent_spec x0.2.2.2 (by omega), .inl rfl, .inl ?_⟩
  conv => whnf
  generalize hb7 : (!differ x0.2.2.2) = b7
  cases b7 with
  | true =>
    conv => whnf
    simp only [Bool.not_eq_true'] at hb7
    exact no_incl (by rw [okIncl, hpl x0.2.2.2, hb7, Bool.and_false, Bool.and_false, Bool.and_false, Bool.and_false, Bool.and_false])
  | false =>
  conv => whnf
  simp only [Bool.not_eq_false'] at hb7
  have ha1 : arePl 3 x0.2.1 = true := by rw [hpl, hb4, hb6]; rfl
  have ha2 : arePl 3 x0.2.2.2 = true := by rw [hpl, hb5, hb7]; rfl
  have hok : okIncl x0 = true := by rw [okIncl, hb1, hb2, ha1, ha2, decide_eq_true hln]; rfl
  obtain ⟨hl1, hp1⟩ := arePl_facts ha1
  obtain ⟨hl2, hp2⟩ := arePl_facts ha2
  have hr1 := inR_iff hb1
  have hr2 := inR_iff hb2
  have hz1 := spc_size (ps := x0.2.1) (by omega)
  have hz2 := spc_size (ps := x0.2.2.2) (by omega)
  refine ⟨[0, 1, 5, 6, 10, 11, 15, 16, 2, 3, 4, 7, 8, 9, 12, 13, 14, 17, 18, 19], by kernel_rfl, ?_⟩
  conv => whnf
  refine ⟨_, implFormatInt_spec x0.1 hr1.1 (by omega), .inl rfl, .inl ?_⟩
  conv => whnf
  refine ⟨by show 1 + 1 ≤ _; omega, ?_⟩
  conv => whnf
  refine ⟨by show 2 + 1 ≤ _; omega, ?_⟩
  conv => whnf
  refine ⟨_, spaced_spec x0.2.1 (by omega) hp1, .inl rfl, .inl ?_⟩
  conv => whnf
  refine ⟨by show 3 + (spc x0.2.1).size ≤ _; omega, ?_⟩
  conv => whnf
  have hs1 : (((⟨#[114]⟩ : ByteArray) ++ dig x0.1) ++ sp).size = 3 := rfl
  refine ⟨by show ((((⟨#[114]⟩ : ByteArray) ++ dig x0.1) ++ sp) ++ spc x0.2.1).size + 5 ≤ _; rw [ByteArray.size_append, hs1]; omega, ?_⟩
  conv => whnf
  have hs2 : (((((⟨#[114]⟩ : ByteArray) ++ dig x0.1) ++ sp) ++ spc x0.2.1) ++ inS).size = 3 + (spc x0.2.1).size + 5 := by rw [ByteArray.size_append, ByteArray.size_append, hs1]; rfl
  refine ⟨_, implFormatInt_spec x0.2.2.1 hr2.1 (by omega), .inl rfl, .inl ?_⟩
  conv => whnf
  refine ⟨by show (((((⟨#[114]⟩ : ByteArray) ++ dig x0.1) ++ sp) ++ spc x0.2.1) ++ inS).size + 1 ≤ _; rw [hs2]; omega, ?_⟩
  conv => whnf
  refine ⟨by show ((((((⟨#[114]⟩ : ByteArray) ++ dig x0.1) ++ sp) ++ spc x0.2.1) ++ inS) ++ dig x0.2.2.1).size + 1 ≤ _; rw [ByteArray.size_append, hs2, dig_size]; omega, ?_⟩
  conv => whnf
  refine ⟨_, spaced_spec x0.2.2.2 (by omega) hp2, .inl rfl, .inl ?_⟩
  conv => whnf
  refine ⟨by show (((((((⟨#[114]⟩ : ByteArray) ++ dig x0.1) ++ sp) ++ spc x0.2.1) ++ inS) ++ dig x0.2.2.1) ++ sp).size + (spc x0.2.2.2).size ≤ _; rw [ByteArray.size_append, ByteArray.size_append, hs2, dig_size, show sp.size = 1 from rfl]; omega, ?_⟩
  conv => whnf
  rw [pFormatInclusion, hok, if_pos rfl]
  show str ((((((((⟨#[114]⟩ : ByteArray) ++ dig x0.1) ++ sp) ++ spc x0.2.1) ++ inS) ++ dig x0.2.2.1) ++ sp) ++ spc x0.2.2.2) = _
  rw [spc_acc _ (by omega), spc_acc _ (by omega)]
end Go.Proofs.YtifmkifkjmfceaaD
