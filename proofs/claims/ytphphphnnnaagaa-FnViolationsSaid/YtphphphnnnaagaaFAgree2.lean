/- Rows that agree at places: the second program. -/
import Derived.Test.YtphphphnnnaagaaFAgree
set_option linter.unusedVariables false
set_option linter.unusedSimpArgs false
set_option maxRecDepth 100000
namespace Go.Proofs.YtphphphnnnaagaaD
open Go Go.Proofs

theorem agree_spec (a p b q : List Int) (ha : a.length ≤ 1099511627776) (hb : b.length ≤ 1099511627776) (hp : p.length ≤ 1099511627776) (hqq : q.length ≤ 1099511627776) : Spec Try.prog 80 [ints a, ints p, ints b, ints q] (cb (agreeI a p b q)) := by
  refine Spec_of mx Γ_ok Try.func80 rfl ?_
  conv => whnf
  split <;> rename_i h0
  · conv => whnf
    simp only [bne_iff_ne, ne_eq] at h0
    show cb false = _
    unfold agreeI
    rw [decide_eq_false (by omega), Bool.false_and]
  conv => whnf
  have h0' : p.length = q.length := by
    have h3 : (p.length : Int) = q.length := by simpa using h0
    omega
  refine ⟨[(0,0),(1,0),(2,0),(3,0),(8,0),(16,0),(17,0)], fun m s => ∃ (k : Nat) (e : Int), e = k ∧ m + k = p.length ∧ agreeI a p b q = (ran k p.length).all (agreeA a p b q) ∧
    s = ⟨58, [(0, ints a), (1, ints p), (2, ints b), (3, ints q), (8, cb false), (16, ci p.length), (17, ci e)], []⟩, p.length, ⟨0, 0, rfl, rfl, by unfold agreeI; rw [decide_eq_true h0', Bool.true_and], rfl⟩, ?_⟩
  rintro m s ⟨k, _, rfl, hm, hall, rfl⟩
  conv => whnf
  split <;> rename_i h1
  all_goals simp only [decide_eq_true_eq, decide_eq_false_iff_not] at h1
  · conv => whnf
    have hk : k < p.length := by omega
    have hkq : k < q.length := by omega
    rw [ran_at hk, List.all_cons] at hall
    have hA : agreeA a p b q k = agree1 a b p[k] q[k] := by unfold agreeA; rw [getD_at' hk, getD_at' hkq]
    have hw : IntKind.i64.wrap ((a.length : Int) - 1) = a.length - 1 := wrap_id (by omega) (by omega)
    have hwb : IntKind.i64.wrap ((b.length : Int) - 1) = b.length - 1 := wrap_id (by omega) (by omega)
    refine ⟨List.range 37, by kernel_rfl, ?_⟩
    conv => whnf
    refine ⟨by omega, rows_len ciL_len p, ?_⟩
    conv => whnf
    refine ⟨_, takeN_rp (k := k) ciL_len hk, ?_⟩
    conv => whnf
    refine ⟨_, within_spec _ _ _, .inl rfl, .inl ?_⟩
    rw [hw]
    conv => whnf
    generalize hb4 : (!inR p[k] 0 (a.length - 1)) = b4
    cases b4 with
    | true =>
      conv => whnf
      show cb false = _
      simp only [Bool.not_eq_true'] at hb4
      rw [hall, hA, agree1, hb4, Bool.false_and, Bool.false_and]
    | false =>
    conv => whnf
    simp only [Bool.not_eq_false'] at hb4
    have hr : 0 ≤ p[k] ∧ p[k] ≤ (a.length : Int) - 1 := by simpa [inR] using hb4
    refine ⟨by omega, rows_len ciL_len q, ?_⟩
    conv => whnf
    refine ⟨_, takeN_rp (k := k) ciL_len hkq, ?_⟩
    conv => whnf
    refine ⟨_, within_spec _ _ _, .inl rfl, .inl ?_⟩
    rw [hwb]
    conv => whnf
    generalize hb5 : (!inR q[k] 0 (b.length - 1)) = b5
    cases b5 with
    | true =>
      conv => whnf
      show cb false = _
      simp only [Bool.not_eq_true'] at hb5
      rw [hall, hA, agree1, hb5, Bool.false_and, Bool.and_false, Bool.false_and]
    | false =>
    conv => whnf
    simp only [Bool.not_eq_false'] at hb5
    have hs : 0 ≤ q[k] ∧ q[k] ≤ (b.length : Int) - 1 := by simpa [inR] using hb5
    obtain ⟨u, hu⟩ : ∃ u : Nat, p[k] = u := ⟨p[k].toNat, by omega⟩
    obtain ⟨w, hw2⟩ : ∃ w : Nat, q[k] = w := ⟨q[k].toNat, by omega⟩
    rw [hu] at hr
    rw [hw2] at hs
    have hua : u < a.length := by omega
    have hwq : w < b.length := by omega
    refine ⟨by omega, rows_len ciL_len p, ?_⟩
    conv => whnf
    refine ⟨_, takeN_rp (k := k) ciL_len hk, ?_⟩
    rw [hu]
    conv => whnf
    refine ⟨by omega, rows_len ciL_len a, ?_⟩
    conv => whnf
    refine ⟨_, takeN_rp (k := u) ciL_len hua, ?_⟩
    conv => whnf
    refine ⟨by omega, rows_len ciL_len q, ?_⟩
    conv => whnf
    refine ⟨_, takeN_rp (k := k) ciL_len hkq, ?_⟩
    rw [hw2]
    conv => whnf
    refine ⟨by omega, rows_len ciL_len b, ?_⟩
    conv => whnf
    refine ⟨_, takeN_rp (k := w) ciL_len hwq, ?_⟩
    conv => whnf
    have hA2 : agreeA a p b q k = decide (a[u] = b[w]) := by
      rw [hA, agree1, hb4, hb5, Bool.true_and, Bool.true_and, hu, hw2, getI_at hua, getI_at hwq]
    split <;> rename_i h2
    · conv => whnf
      show cb false = _
      rw [hall, hA2, decide_eq_false (by simpa using h2), Bool.false_and]
    · conv => whnf
      rw [hA2, decide_eq_true (p := a[u] = b[w]) (by simpa using h2), Bool.true_and] at hall
      exact ⟨m - 1, by omega, k + 1, _, wrap_id (by omega) (by omega), by omega, hall, rfl⟩
  · conv => whnf
    rw [hall, ran_end (by omega)]
    rfl
end Go.Proofs.YtphphphnnnaagaaD
