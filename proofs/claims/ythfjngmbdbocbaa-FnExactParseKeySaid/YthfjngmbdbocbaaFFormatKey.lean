/- FormatKey, twice. -/
import Derived.Test.YthfjngmbdbocbaaFSpaced
set_option linter.unusedVariables false
set_option linter.unusedSimpArgs false
set_option maxRecDepth 100000
namespace Go.Proofs.YthfjngmbdbocbaaD
open Go Go.Proofs

def keyS : ByteArray := ⟨#[107, 101, 121, 32, 114]⟩
def pFormatKey (x : Int × List Int) : ByteArray := if inR x.1 0 3 && places3 x.2 then accK (keyS ++ dig x.1) x.2 else ByteArray.empty
theorem inR_iff {x lo hi : Int} (h : inR x lo hi = true) : lo ≤ x ∧ x ≤ hi := by simpa [inR] using h
theorem specFormatKey_w (x0 : Int × List Int) (h0 : cKey x0 ≤ 1048576) : Spec Try.prog 78 [vKey x0] (str (pFormatKey x0)) := by
  unfold cKey at h0
  refine Spec_of mx Γ_ok Try.func78 rfl ?_
  conv => whnf
  refine ⟨_, l1In_spec _ _ _, .inl rfl, .inl ?_⟩
  conv => whnf
  generalize hb1 : (!inR x0.1 0 3) = b1
  cases b1 with
  | true =>
    conv => whnf
    simp only [Bool.not_eq_true'] at hb1
    show str ByteArray.empty = _
    rw [pFormatKey, hb1]
    rfl
  | false =>
  conv => whnf
  simp only [Bool.not_eq_false'] at hb1
  have hr := inR_iff hb1
  refine ⟨_, l1In_spec _ _ _, .inl rfl, .inl ?_⟩
  conv => whnf
  generalize hb2 : (!inR x0.2.length 1 3) = b2
  cases b2 with
  | true =>
    conv => whnf
    simp only [Bool.not_eq_true'] at hb2
    show str ByteArray.empty = _
    rw [pFormatKey, places3, hb2, Bool.and_false, Bool.and_false]
    rfl
  | false =>
  conv => whnf
  simp only [Bool.not_eq_false'] at hb2
  have hl := inR_iff hb2
  have hp : pFormatKey x0 = if x0.2.all in02 then accK (keyS ++ dig x0.1) x0.2 else ByteArray.empty := by
    rw [pFormatKey, places3, hb1, hb2, Bool.true_and, Bool.and_true]
  refine ⟨_, specFormatInt_spec x0.1 hr.1 (by omega), .inl rfl, .inl ?_⟩
  conv => whnf
  refine ⟨by show 5 + 1 ≤ _; omega, ?_⟩
  conv => whnf
  refine ⟨[(1,0),(2,0),(3,0),(4,0)], fun m s => ∃ (k : Nat) (e : Int) (b : ByteArray), e = k ∧ m + k = x0.2.length ∧ pFormatKey x0 = (if (x0.2.drop k).all in02 then accK b (x0.2.drop k) else ByteArray.empty) ∧ b.size ≤ 6 + 2 * k ∧
    s = ⟨44, [(1, .ptr 0 0), (2, str ByteArray.empty), (3, str b), (4, ci e)], [some ⟨true, rKey x0⟩]⟩, x0.2.length, ⟨0, 0, _, rfl, rfl, hp, by show 6 ≤ _; omega, rfl⟩, ?_⟩
  rintro m s ⟨k, _, b, rfl, hm, hall, hbs, rfl⟩
  conv => whnf
  split <;> rename_i h3
  all_goals simp only [decide_eq_true_eq, decide_eq_false_iff_not] at h3
  · conv => whnf
    have hk : k < x0.2.length := by omega
    rw [List.drop_eq_getElem_cons hk, List.all_cons] at hall
    refine ⟨by omega, rows_len ciL_len _, ?_⟩
    conv => whnf
    refine ⟨_, takeN_rp (k := k) ciL_len hk, ?_⟩
    conv => whnf
    refine ⟨_, l1In_spec _ _ _, .inl rfl, .inl ?_⟩
    conv => whnf
    generalize hb3 : (!inR x0.2[k] 0 2) = b3
    cases b3 with
    | true =>
      conv => whnf
      simp only [Bool.not_eq_true'] at hb3
      show str ByteArray.empty = _
      rw [hall, show in02 x0.2[k] = false from hb3]
      rfl
    | false =>
    conv => whnf
    simp only [Bool.not_eq_false'] at hb3
    have hv := inR_iff hb3
    rw [show in02 x0.2[k] = true from hb3, Bool.true_and] at hall
    refine ⟨by rw [show (⟨#[32]⟩ : ByteArray).size = 1 from rfl]; omega, ?_⟩
    conv => whnf
    refine ⟨by omega, rows_len ciL_len _, ?_⟩
    conv => whnf
    refine ⟨_, takeN_rp (k := k) ciL_len hk, ?_⟩
    conv => whnf
    refine ⟨_, specFormatInt_spec x0.2[k] hv.1 (by omega), .inl rfl, .inl ?_⟩
    conv => whnf
    refine ⟨by rw [ByteArray.size_append, dig_size, show (⟨#[32]⟩ : ByteArray).size = 1 from rfl]; omega, ?_⟩
    conv => whnf
    refine ⟨m - 1, by omega, k + 1, _, _, wrap_id (by omega) (by omega), by omega, hall, ?_, rfl⟩
    rw [ByteArray.size_append, ByteArray.size_append, dig_size, show sp.size = 1 from rfl]
    omega
  · conv => whnf
    rw [drop_end (by omega)] at hall
    rw [hall]
    rfl
theorem implFormatKey_w (x0 : Int × List Int) (h0 : cKey x0 ≤ 1048576) : Spec Try.prog 83 [vKey x0] (str (pFormatKey x0)) := by
  unfold cKey at h0
  refine Spec_of mx Γ_ok Try.func83 rfl ?_
  conv => whnf
  refine ⟨_, within_spec _ _ _, .inl rfl, .inl ?_⟩
  conv => whnf
  generalize hb1 : (!inR x0.1 0 3) = b1
  cases b1 with
  | true =>
    conv => whnf
    simp only [Bool.not_eq_true'] at hb1
    show str ByteArray.empty = _
    rw [pFormatKey, hb1]
    rfl
  | false =>
  conv => whnf
  simp only [Bool.not_eq_false'] at hb1
  have hr := inR_iff hb1
  refine ⟨_, arePlaces_spec _ (by omega), .inl rfl, .inl ?_⟩
  conv => whnf
  generalize hb2 : (!places3 x0.2) = b2
  cases b2 with
  | true =>
    conv => whnf
    simp only [Bool.not_eq_true'] at hb2
    show str ByteArray.empty = _
    rw [pFormatKey, hb2, Bool.and_false]
    rfl
  | false =>
  conv => whnf
  simp only [Bool.not_eq_false'] at hb2
  have hp3 := hb2
  rw [places3, Bool.and_eq_true] at hp3
  have hl := inR_iff hp3.2
  have hin : ∀ x ∈ x0.2, 0 ≤ x ∧ x ≤ 9 := fun x hx => by
    have := inR_iff (List.all_eq_true.1 hp3.1 x hx)
    omega
  refine ⟨[0, 1, 5, 6, 2, 3, 4, 7, 8, 9], by kernel_rfl, ?_⟩
  conv => whnf
  refine ⟨_, implFormatInt_spec x0.1 hr.1 (by omega), .inl rfl, .inl ?_⟩
  conv => whnf
  refine ⟨by show 5 + 1 ≤ _; omega, ?_⟩
  conv => whnf
  refine ⟨by show 6 + 1 ≤ _; omega, ?_⟩
  conv => whnf
  refine ⟨_, spaced_spec x0.2 (by omega) hin, .inl rfl, .inl ?_⟩
  conv => whnf
  have hsz := spc_size (ps := x0.2) (by omega)
  refine ⟨by show 7 + (spc x0.2).size ≤ _; omega, ?_⟩
  conv => whnf
  rw [pFormatKey, hb1, hb2]
  show str ((keyS ++ dig x0.1 ++ sp) ++ spc x0.2) = _
  rw [spc_acc _ (by omega)]
  rfl
theorem specFormatKey_spec (x0 : Int × List Int) (h0 : cKey x0 ≤ 1048576) (q0 : qKey x0) : Spec Try.prog 78 [vKey x0] (str (pFormatKey x0)) := specFormatKey_w x0 h0
theorem implFormatKey_spec (x0 : Int × List Int) (h0 : cKey x0 ≤ 1048576) (q0 : qKey x0) : Spec Try.prog 83 [vKey x0] (str (pFormatKey x0)) := implFormatKey_w x0 h0
end Go.Proofs.YthfjngmbdbocbaaD
