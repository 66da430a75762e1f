/- l14Fits. -/
import Derived.Test.YthfjngmbdbocbaaGreatFAgree2
set_option linter.unusedVariables false
set_option linter.unusedSimpArgs false
set_option maxRecDepth 100000
namespace Go.Proofs.YthfjngmbdbocbaaGreatD
open Go Go.Proofs

theorem l14Fits_spec (a b : List Int) (x : Int × List Int × Int × List Int) (ha : a.length ≤ 1099511627776) (hb : b.length ≤ 1099511627776) (hp : x.2.1.length ≤ 1099511627776) (hqq : x.2.2.2.length ≤ 1099511627776) : Spec Tryz.prog 67 [ints a, ints b, vInclusion x] (cb (agreeI a x.2.1 b x.2.2.2)) := by
  have hw : IntKind.i64.wrap ((a.length : Int) - 1) = a.length - 1 := wrap_id (by omega) (by omega)
  have hwb : IntKind.i64.wrap ((b.length : Int) - 1) = b.length - 1 := wrap_id (by omega) (by omega)
  refine Spec_of mx Γ_ok Tryz.func67 rfl ?_
  conv => whnf
  refine ⟨[(0,0),(1,0),(5,0),(6,0),(7,0)], fun m s => ∃ (k : Nat) (e : Int), e = k ∧ m + k = x.2.1.length ∧ (x.2.1.length = x.2.2.2.length → agreeI a x.2.1 b x.2.2.2 = (ran k x.2.1.length).all (agreeA a x.2.1 b x.2.2.2)) ∧
    s = ⟨72, [(0, ints a), (1, ints b), (5, .ptr 0 0), (6, cb false), (7, ci e)], [some ⟨true, rInclusion x⟩]⟩, x.2.1.length, ⟨0, 0, rfl, rfl, fun h => by unfold agreeI; rw [decide_eq_true h, Bool.true_and], rfl⟩, ?_⟩
  rintro m s ⟨k, _, rfl, hm, hall, rfl⟩
  conv => whnf
  generalize hb1 : decide ((k : Int) < x.2.1.length) = b1
  cases b1 with
  | false =>
    have h1 := of_decide_eq_false hb1
    conv => whnf
    by_cases h0 : x.2.1.length = x.2.2.2.length
    · rw [hall h0, ran_end (by omega)]
      show cb _ = cb true
      congr 1 <;> simp <;> omega
    · show cb _ = _
      unfold agreeI
      rw [decide_eq_false h0, Bool.false_and]
      congr 1 <;> simp <;> omega
  | true =>
  have h1 := of_decide_eq_true hb1
  conv => whnf
  split <;> rename_i h0
  · conv => whnf
    have h0' : x.2.1.length = x.2.2.2.length := by
      have h3 : (x.2.1.length : Int) = x.2.2.2.length := by simpa using h0
      omega
    have hk : k < x.2.1.length := by omega
    have hkq : k < x.2.2.2.length := by omega
    have hall := hall h0'
    rw [ran_at hk, List.all_cons] at hall
    have hA : agreeA a x.2.1 b x.2.2.2 k = agree1 a b x.2.1[k] x.2.2.2[k] := by unfold agreeA; rw [getD_at' hk, getD_at' hkq]
    refine ⟨List.range 41, by kernel_rfl, ?_⟩
    conv => whnf
    refine ⟨by omega, rows_len ciL_len x.2.1, ?_⟩
    conv => whnf
    refine ⟨_, takeN_rp (k := k) ciL_len hk, ?_⟩
    conv => whnf
    refine ⟨_, l1In_spec _ _ _, .inl rfl, .inl ?_⟩
    rw [hw]
    conv => whnf
    generalize hb4 : (!inR x.2.1[k] 0 (a.length - 1)) = b4
    cases b4 with
    | true =>
      conv => whnf
      show cb false = _
      simp only [Bool.not_eq_true'] at hb4
      rw [hall, hA, agree1, hb4, Bool.false_and, Bool.false_and]
    | false =>
    conv => whnf
    simp only [Bool.not_eq_false'] at hb4
    have hr : 0 ≤ x.2.1[k] ∧ x.2.1[k] ≤ (a.length : Int) - 1 := by simpa [inR] using hb4
    refine ⟨by omega, rows_len ciL_len x.2.2.2, ?_⟩
    conv => whnf
    refine ⟨_, takeN_rp (k := k) ciL_len hkq, ?_⟩
    conv => whnf
    refine ⟨_, l1In_spec _ _ _, .inl rfl, .inl ?_⟩
    rw [hwb]
    conv => whnf
    generalize hb5 : (!inR x.2.2.2[k] 0 (b.length - 1)) = b5
    cases b5 with
    | true =>
      conv => whnf
      show cb false = _
      simp only [Bool.not_eq_true'] at hb5
      rw [hall, hA, agree1, hb5, Bool.false_and, Bool.and_false, Bool.false_and]
    | false =>
    conv => whnf
    simp only [Bool.not_eq_false'] at hb5
    have hs : 0 ≤ x.2.2.2[k] ∧ x.2.2.2[k] ≤ (b.length : Int) - 1 := by simpa [inR] using hb5
    obtain ⟨u, hu⟩ : ∃ u : Nat, x.2.1[k] = u := ⟨x.2.1[k].toNat, by omega⟩
    obtain ⟨w, hw2⟩ : ∃ w : Nat, x.2.2.2[k] = w := ⟨x.2.2.2[k].toNat, by omega⟩
    rw [hu] at hr
    rw [hw2] at hs
    have hua : u < a.length := by omega
    have hwq : w < b.length := by omega
    refine ⟨by omega, rows_len ciL_len x.2.1, ?_⟩
    conv => whnf
    refine ⟨_, takeN_rp (k := k) ciL_len hk, ?_⟩
    rw [hu]
    conv => whnf
    refine ⟨by omega, rows_len ciL_len a, ?_⟩
    conv => whnf
    refine ⟨_, takeN_rp (k := u) ciL_len hua, ?_⟩
    conv => whnf
    refine ⟨by omega, rows_len ciL_len x.2.2.2, ?_⟩
    conv => whnf
    refine ⟨_, takeN_rp (k := k) ciL_len hkq, ?_⟩
    rw [hw2]
    conv => whnf
    refine ⟨by omega, rows_len ciL_len b, ?_⟩
    conv => whnf
    refine ⟨_, takeN_rp (k := w) ciL_len hwq, ?_⟩
    conv => whnf
    have hA2 : agreeA a x.2.1 b x.2.2.2 k = decide (a[u] = b[w]) := by
      rw [hA, agree1, hb4, hb5, Bool.true_and, Bool.true_and, hu, hw2, getI_at hua, getI_at hwq]
    split <;> rename_i h2
    · conv => whnf
      show cb false = _
      rw [hall, hA2, decide_eq_false (by simpa using h2), Bool.false_and]
    · conv => whnf
      rw [hA2, decide_eq_true (p := a[u] = b[w]) (by simpa using h2), Bool.true_and] at hall
      exact ⟨m - 1, by omega, k + 1, _, wrap_id (by omega) (by omega), by omega, fun _ => hall, rfl⟩
  · conv => whnf
    have h0' : ¬ x.2.1.length = x.2.2.2.length := by
      have h3 : ¬ (x.2.1.length : Int) = x.2.2.2.length := by simpa using h0
      omega
    show cb _ = _
    unfold agreeI
    rw [decide_eq_false h0', Bool.false_and]
    congr 1 <;> simp <;> omega
end Go.Proofs.YthfjngmbdbocbaaGreatD
