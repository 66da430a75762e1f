/- Rows that agree at places. -/
import Derived.Test.YthfjngmbdbocbaaGreatFBase
import Derived.Test.YthfjngmbdbocbaaGreatFSameEq
set_option linter.unusedVariables false
set_option linter.unusedSimpArgs false
set_option maxRecDepth 100000
namespace Go.Proofs.YthfjngmbdbocbaaGreatD
open Go Go.Proofs

def ran (k n : Nat) : List Nat := List.range' k (n - k)
theorem ran_at {k n : Nat} (h : k < n) : ran k n = k :: ran (k + 1) n := by
  unfold ran
  rw [show n - k = (n - (k + 1)) + 1 from by omega, List.range'_succ]
theorem ran_end {k n : Nat} (h : n ≤ k) : ran k n = [] := by
  unfold ran
  rw [show n - k = 0 from by omega]
  rfl
def getI (a : List Int) (x : Int) : Int := a.getD x.toNat 0
def agree1 (a b : List Int) (x y : Int) : Bool := inR x 0 (a.length - 1) && (inR y 0 (b.length - 1) && decide (getI a x = getI b y))
def agreeA (a p b q : List Int) (k : Nat) : Bool := agree1 a b (p.getD k 0) (q.getD k 0)
def agreeI (a p b q : List Int) : Bool := decide (p.length = q.length) && (ran 0 p.length).all (agreeA a p b q)
theorem getD_at' {ps : List Int} {k : Nat} (hk : k < ps.length) : ps.getD k 0 = ps[k] := by simp [List.getD_eq_getElem?_getD, hk]
theorem getI_at {a : List Int} {q : Nat} (hq : q < a.length) : getI a (q : Int) = a[q] := by
  unfold getI
  rw [Int.toNat_natCast]
  exact getD_at' hq
theorem l12Agree_spec (a b p : List Int) (ha : a.length ≤ 1099511627776) (hb : b.length ≤ 1099511627776) (hp : p.length ≤ 1099511627776) : Spec Tryz.prog 98 [ints a, ints b, ints p] (cb (agreeI a p b p)) := by
  refine Spec_of mx Γ_ok Tryz.func98 rfl ?_
  conv => whnf
  refine ⟨[(0,0),(1,0),(2,0),(6,0),(7,0)], fun m s => ∃ (k : Nat) (e : Int), e = k ∧ m + k = p.length ∧ agreeI a p b p = (ran k p.length).all (agreeA a p b p) ∧
    s = ⟨49, [(0, ints a), (1, ints b), (2, ints p), (6, cb false), (7, ci e)], []⟩, p.length, ⟨0, 0, rfl, rfl, by unfold agreeI; rw [decide_eq_true rfl, Bool.true_and], rfl⟩, ?_⟩
  rintro m s ⟨k, _, rfl, hm, hall, rfl⟩
  conv => whnf
  split <;> rename_i h1
  all_goals simp only [decide_eq_true_eq, decide_eq_false_iff_not] at h1
  · conv => whnf
    have hk : k < p.length := by omega
    rw [ran_at hk, List.all_cons] at hall
    have hA : agreeA a p b p k = agree1 a b p[k] p[k] := by unfold agreeA; rw [getD_at' hk]
    refine ⟨List.range 35, by kernel_rfl, ?_⟩
    conv => whnf
    refine ⟨by omega, rows_len ciL_len p, ?_⟩
    conv => whnf
    refine ⟨_, takeN_rp (k := k) ciL_len hk, ?_⟩
    conv => whnf
    have hw : IntKind.i64.wrap ((a.length : Int) - 1) = a.length - 1 := wrap_id (by omega) (by omega)
    refine ⟨_, l1In_spec _ _ _, .inl rfl, .inl ?_⟩
    rw [hw]
    conv => whnf
    generalize hb4 : (!inR p[k] 0 (a.length - 1)) = b4
    cases b4 with
    | true =>
      conv => whnf
      show cb false = _
      simp only [Bool.not_eq_true'] at hb4
      rw [hall, hA, agree1, hb4, Bool.false_and, Bool.false_and]
    | false =>
    conv => whnf
    simp only [Bool.not_eq_false'] at hb4
    have hr : 0 ≤ p[k] ∧ p[k] ≤ (a.length : Int) - 1 := by simpa [inR] using hb4
    refine ⟨by omega, rows_len ciL_len p, ?_⟩
    conv => whnf
    refine ⟨_, takeN_rp (k := k) ciL_len hk, ?_⟩
    conv => whnf
    generalize hb5 : decide (p[k] ≥ (b.length : Int)) = b5
    cases b5 with
    | true =>
      conv => whnf
      show cb false = _
      have h5 := of_decide_eq_true hb5
      have : inR p[k] 0 (b.length - 1) = false := by unfold inR; rw [Bool.and_eq_false_iff]; right; exact decide_eq_false (by omega)
      rw [hall, hA, agree1, this, Bool.false_and, Bool.and_false, Bool.false_and]
    | false =>
    conv => whnf
    have h5 := of_decide_eq_false hb5
    have hin : inR p[k] 0 (b.length - 1) = true := by unfold inR; rw [Bool.and_eq_true]; exact ⟨decide_eq_true hr.1, decide_eq_true (by omega)⟩
    obtain ⟨q, hq⟩ : ∃ q : Nat, p[k] = q := ⟨p[k].toNat, by omega⟩
    rw [hq] at hr h5
    have hqa : q < a.length := by omega
    have hqb : q < b.length := by omega
    refine ⟨by omega, rows_len ciL_len p, ?_⟩
    conv => whnf
    refine ⟨_, takeN_rp (k := k) ciL_len hk, ?_⟩
    rw [hq]
    conv => whnf
    refine ⟨by omega, rows_len ciL_len a, ?_⟩
    conv => whnf
    refine ⟨_, takeN_rp (k := q) ciL_len hqa, ?_⟩
    conv => whnf
    refine ⟨by omega, rows_len ciL_len p, ?_⟩
    conv => whnf
    refine ⟨_, takeN_rp (k := k) ciL_len hk, ?_⟩
    rw [hq]
    conv => whnf
    refine ⟨by omega, rows_len ciL_len b, ?_⟩
    conv => whnf
    refine ⟨_, takeN_rp (k := q) ciL_len hqb, ?_⟩
    conv => whnf
    have hA2 : agreeA a p b p k = decide (a[q] = b[q]) := by
      rw [hA, agree1, hb4, hin, Bool.true_and, Bool.true_and, hq, getI_at hqa, getI_at hqb]
    split <;> rename_i h2
    · conv => whnf
      show cb false = _
      rw [hall, hA2, decide_eq_false (by simpa using h2), Bool.false_and]
    · conv => whnf
      rw [hA2, decide_eq_true (p := a[q] = b[q]) (by simpa using h2), Bool.true_and] at hall
      exact ⟨m - 1, by omega, k + 1, _, wrap_id (by omega) (by omega), by omega, hall, rfl⟩
  · conv => whnf
    rw [hall, ran_end (by omega)]
    rfl
end Go.Proofs.YthfjngmbdbocbaaGreatD

/- Rows that agree at places: the second program. -/
set_option linter.unusedVariables false
set_option linter.unusedSimpArgs false
set_option maxRecDepth 100000
namespace Go.Proofs.YthfjngmbdbocbaaGreatD
open Go Go.Proofs

theorem agree_spec (a p b q : List Int) (ha : a.length ≤ 1099511627776) (hb : b.length ≤ 1099511627776) (hp : p.length ≤ 1099511627776) (hqq : q.length ≤ 1099511627776) : Spec Tryz.prog 82 [ints a, ints p, ints b, ints q] (cb (agreeI a p b q)) := by
  refine Spec_of mx Γ_ok Tryz.func82 rfl ?_
  conv => whnf
  split <;> rename_i h0
  · conv => whnf
    simp only [bne_iff_ne, ne_eq] at h0
    show cb false = _
    unfold agreeI
    rw [decide_eq_false (by omega), Bool.false_and]
  conv => whnf
  have h0' : p.length = q.length := by
    have h3 : (p.length : Int) = q.length := by simpa using h0
    omega
  refine ⟨[(0,0),(1,0),(2,0),(3,0),(8,0),(16,0),(17,0)], fun m s => ∃ (k : Nat) (e : Int), e = k ∧ m + k = p.length ∧ agreeI a p b q = (ran k p.length).all (agreeA a p b q) ∧
    s = ⟨58, [(0, ints a), (1, ints p), (2, ints b), (3, ints q), (8, cb false), (16, ci p.length), (17, ci e)], []⟩, p.length, ⟨0, 0, rfl, rfl, by unfold agreeI; rw [decide_eq_true h0', Bool.true_and], rfl⟩, ?_⟩
  rintro m s ⟨k, _, rfl, hm, hall, rfl⟩
  conv => whnf
  split <;> rename_i h1
  all_goals simp only [decide_eq_true_eq, decide_eq_false_iff_not] at h1
  · conv => whnf
    have hk : k < p.length := by omega
    have hkq : k < q.length := by omega
    rw [ran_at hk, List.all_cons] at hall
    have hA : agreeA a p b q k = agree1 a b p[k] q[k] := by unfold agreeA; rw [getD_at' hk, getD_at' hkq]
    have hw : IntKind.i64.wrap ((a.length : Int) - 1) = a.length - 1 := wrap_id (by omega) (by omega)
    have hwb : IntKind.i64.wrap ((b.length : Int) - 1) = b.length - 1 := wrap_id (by omega) (by omega)
    refine ⟨List.range 37, by kernel_rfl, ?_⟩
    conv => whnf
    refine ⟨by omega, rows_len ciL_len p, ?_⟩
    conv => whnf
    refine ⟨_, takeN_rp (k := k) ciL_len hk, ?_⟩
    conv => whnf
    refine ⟨_, within_spec _ _ _, .inl rfl, .inl ?_⟩
    rw [hw]
    conv => whnf
    generalize hb4 : (!inR p[k] 0 (a.length - 1)) = b4
    cases b4 with
    | true =>
      conv => whnf
      show cb false = _
      simp only [Bool.not_eq_true'] at hb4
      rw [hall, hA, agree1, hb4, Bool.false_and, Bool.false_and]
    | false =>
    conv => whnf
    simp only [Bool.not_eq_false'] at hb4
    have hr : 0 ≤ p[k] ∧ p[k] ≤ (a.length : Int) - 1 := by simpa [inR] using hb4
    refine ⟨by omega, rows_len ciL_len q, ?_⟩
    conv => whnf
    refine ⟨_, takeN_rp (k := k) ciL_len hkq, ?_⟩
    conv => whnf
    refine ⟨_, within_spec _ _ _, .inl rfl, .inl ?_⟩
    rw [hwb]
    conv => whnf
    generalize hb5 : (!inR q[k] 0 (b.length - 1)) = b5
    cases b5 with
    | true =>
      conv => whnf
      show cb false = _
      simp only [Bool.not_eq_true'] at hb5
      rw [hall, hA, agree1, hb5, Bool.false_and, Bool.and_false, Bool.false_and]
    | false =>
    conv => whnf
    simp only [Bool.not_eq_false'] at hb5
    have hs : 0 ≤ q[k] ∧ q[k] ≤ (b.length : Int) - 1 := by simpa [inR] using hb5
    obtain ⟨u, hu⟩ : ∃ u : Nat, p[k] = u := ⟨p[k].toNat, by omega⟩
    obtain ⟨w, hw2⟩ : ∃ w : Nat, q[k] = w := ⟨q[k].toNat, by omega⟩
    rw [hu] at hr
    rw [hw2] at hs
    have hua : u < a.length := by omega
    have hwq : w < b.length := by omega
    refine ⟨by omega, rows_len ciL_len p, ?_⟩
    conv => whnf
    refine ⟨_, takeN_rp (k := k) ciL_len hk, ?_⟩
    rw [hu]
    conv => whnf
    refine ⟨by omega, rows_len ciL_len a, ?_⟩
    conv => whnf
    refine ⟨_, takeN_rp (k := u) ciL_len hua, ?_⟩
    conv => whnf
    refine ⟨by omega, rows_len ciL_len q, ?_⟩
    conv => whnf
    refine ⟨_, takeN_rp (k := k) ciL_len hkq, ?_⟩
    rw [hw2]
    conv => whnf
    refine ⟨by omega, rows_len ciL_len b, ?_⟩
    conv => whnf
    refine ⟨_, takeN_rp (k := w) ciL_len hwq, ?_⟩
    conv => whnf
    have hA2 : agreeA a p b q k = decide (a[u] = b[w]) := by
      rw [hA, agree1, hb4, hb5, Bool.true_and, Bool.true_and, hu, hw2, getI_at hua, getI_at hwq]
    split <;> rename_i h2
    · conv => whnf
      show cb false = _
      rw [hall, hA2, decide_eq_false (by simpa using h2), Bool.false_and]
    · conv => whnf
      rw [hA2, decide_eq_true (p := a[u] = b[w]) (by simpa using h2), Bool.true_and] at hall
      exact ⟨m - 1, by omega, k + 1, _, wrap_id (by omega) (by omega), by omega, hall, rfl⟩
  · conv => whnf
    rw [hall, ran_end (by omega)]
    rfl
end Go.Proofs.YthfjngmbdbocbaaGreatD
