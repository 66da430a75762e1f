/- IsKey, twice. -/
import Derived.Test.YthfjngmbdbocbaaFBase
set_option linter.unusedVariables false
set_option linter.unusedSimpArgs false
set_option maxRecDepth 100000
namespace Go.Proofs.YthfjngmbdbocbaaD
open Go Go.Proofs

def keyAt (n : Int) (ps : List Int) (i : Nat) : Bool := inR (ps.getD i 0) 0 n && (Nat.beq i 0 || decide (ps.getD (i - 1) 0 < ps.getD i 0))
def isKey (xs : List Int) (r : Int) (ps : List Int) : Bool := isSchema xs && inR r 0 (xs.length - 1) && inR ps.length 1 3 && (List.range ps.length).all (keyAt (xs.getD r.toNat 0 - 1) ps)
theorem isKey_false {xs : List Int} {r : Int} {ps : List Int} {k : Nat} (hk : k < ps.length) (h : keyAt (xs.getD r.toNat 0 - 1) ps k = false) : isKey xs r ps = false := by
  unfold isKey
  have : (List.range ps.length).all (keyAt (xs.getD r.toNat 0 - 1) ps) = false := by
    rw [Bool.eq_false_iff]
    intro ha
    rw [List.all_eq_true] at ha
    rw [ha k (by simpa using hk)] at h
    cases h
  rw [this, Bool.and_false]
theorem getD_at {ps : List Int} {k : Nat} (hk : k < ps.length) : ps.getD k 0 = ps[k] := by simp [List.getD_eq_getElem?_getD, hk]

theorem schema_at {xs : List Int} (h : isSchema xs = true) {q : Nat} (hq : q < xs.length) : 1 ≤ xs[q] ∧ xs[q] ≤ 3 := by
  unfold isSchema at h
  simp only [Bool.and_eq_true, List.all_eq_true] at h
  have := h.1 xs[q] (List.getElem_mem hq)
  simpa [inR] using this
theorem specIsKey_spec (xs : List Int) (r : Int) (ps : List Int) (hl : xs.length ≤ 1099511627776) (hp : ps.length ≤ 1099511627776) (hwf : ∀ x ∈ xs, -9223372036854775808 ≤ x ∧ x ≤ 9223372036854775807) : Spec Try.prog 77 [schema xs, key r ps] (cb (isKey xs r ps)) := by
  refine Spec_of mx Γ_ok Try.func77 rfl ?_
  conv => whnf
  refine ⟨_, specIsSchema_spec xs hl, .inl rfl, .inl ?_⟩
  conv => whnf
  generalize hb1 : (!isSchema xs) = b1
  cases b1 with
  | true =>
    conv => whnf
    show cb false = _
    simp at hb1
    unfold isKey
    rw [hb1]
    rfl
  | false =>
  conv => whnf
  have hw : IntKind.i64.wrap ((xs.length : Int) - 1) = xs.length - 1 := wrap_id (by omega) (by omega)
  refine ⟨_, l1In_spec _ _ _, .inl rfl, .inl ?_⟩
  rw [hw]
  conv => whnf
  generalize hb2 : (!inR r 0 (xs.length - 1)) = b2
  cases b2 with
  | true =>
    conv => whnf
    show cb false = _
    simp at hb2
    unfold isKey
    rw [hb2, Bool.and_false]
    rfl
  | false =>
  conv => whnf
  refine ⟨_, l1In_spec _ _ _, .inl rfl, .inl ?_⟩
  conv => whnf
  generalize hb3 : (!inR ps.length 1 3) = b3
  cases b3 with
  | true =>
    conv => whnf
    show cb false = _
    simp at hb3
    unfold isKey
    rw [hb3, Bool.and_false]
    rfl
  | false =>
  conv => whnf
  simp only [Bool.not_eq_false'] at hb1 hb2 hb3
  have hr : 0 ≤ r ∧ r ≤ (xs.length : Int) - 1 := by simpa [inR] using hb2
  obtain ⟨q, rfl⟩ : ∃ q : Nat, r = q := ⟨r.toNat, by omega⟩
  have hq : q < xs.length := by omega
  refine ⟨[(2,0),(3,0),(4,0),(5,0)], fun m s => ∃ (k : Nat) (e : Int), e = k ∧ m + k = ps.length ∧ (∀ j, j < k → keyAt (xs[q] - 1) ps j = true) ∧
    s = ⟨65, [(2, .ptr 0 0), (3, .ptr 1 0), (4, cb false), (5, ci e)], [some ⟨true, [ints xs]⟩, some ⟨true, [ci q, ints ps]⟩]⟩, ps.length, ⟨0, 0, rfl, rfl, by simp, rfl⟩, ?_⟩
  rintro m s ⟨k, _, rfl, hm, hj, rfl⟩
  conv => whnf
  have hxq := hwf xs[q] (List.getElem_mem hq)
  split <;> rename_i h1
  all_goals simp only [decide_eq_true_eq, decide_eq_false_iff_not] at h1
  · conv => whnf
    have hk : k < ps.length := by omega
    refine ⟨List.range 32, by kernel_rfl, ?_⟩
    conv => whnf
    refine ⟨by omega, rows_len ciL_len ps, ?_⟩
    conv => whnf
    refine ⟨_, takeN_rp (k := k) ciL_len hk, ?_⟩
    conv => whnf
    refine ⟨by omega, rows_len ciL_len xs, ?_⟩
    conv => whnf
    refine ⟨_, takeN_rp (k := q) ciL_len hq, ?_⟩
    conv => whnf
    have hw2 : IntKind.i64.wrap (xs[q] - 1) = xs[q] - 1 := by
      have := (schema_at hb1 hq)
      exact wrap_id (by omega) (by omega)
    refine ⟨_, l1In_spec _ _ _, .inl rfl, .inl ?_⟩
    rw [hw2]
    conv => whnf
    have hfalse : keyAt (xs[q] - 1) ps k = false → cb false = cb (isKey xs q ps) := by
      intro h
      rw [isKey_false hk (by rw [show xs.getD ((q : Int)).toNat 0 = xs[q] from by simp [List.getD_eq_getElem?_getD, hq]]; exact h)]
    have hnext : keyAt (xs[q] - 1) ps k = true → ∀ j, j < k + 1 → keyAt (xs[q] - 1) ps j = true := by
      intro h j hlt
      rcases Nat.lt_succ_iff_lt_or_eq.1 hlt with h2 | rfl
      · exact hj j h2
      · exact h
    generalize hb4 : (!inR ps[k] 0 (xs[q] - 1)) = b4
    cases b4 with
    | true =>
      conv => whnf
      refine hfalse ?_
      simp only [Bool.not_eq_true'] at hb4
      unfold keyAt
      rw [getD_at hk, hb4, Bool.false_and]
    | false =>
    conv => whnf
    simp only [Bool.not_eq_false'] at hb4
    generalize hb5 : decide ((k : Int) > 0) = b5
    cases b5 with
    | false =>
      conv => whnf
      have hk0 : k = 0 := by have := of_decide_eq_false hb5; omega
      refine ⟨m - 1, by omega, k + 1, _, wrap_id (by omega) (by omega), by omega, hnext ?_, rfl⟩
      unfold keyAt
      have h7 : Nat.beq k 0 = true := by rw [hk0]; rfl
      rw [getD_at hk, hb4, h7]
      rfl
    | true =>
    conv => whnf
    have hk0 : 0 < k := by have := of_decide_eq_true hb5; omega
    refine ⟨by omega, rows_len ciL_len ps, ?_⟩
    conv => whnf
    refine ⟨_, takeN_rp (k := k) ciL_len hk, ?_⟩
    conv => whnf
    have hw3 : IntKind.i64.wrap ((k : Int) - 1) = ((k - 1 : Nat) : Int) := (wrap_id (by omega) (by omega)).trans (by omega)
    rw [hw3]
    refine ⟨by omega, rows_len ciL_len ps, ?_⟩
    conv => whnf
    refine ⟨_, takeN_rp (k := k - 1) ciL_len (by omega), ?_⟩
    conv => whnf
    generalize hb6 : decide (ps[k] ≤ ps[k - 1]) = b6
    cases b6 with
    | true =>
      conv => whnf
      refine hfalse ?_
      have h6 := of_decide_eq_true hb6
      unfold keyAt
      rw [getD_at hk, getD_at (by omega)]
      have : Nat.beq k 0 = false := by
        cases hq0 : Nat.beq k 0 with
        | false => rfl
        | true => have := Nat.eq_of_beq_eq_true hq0; omega
      rw [this, Bool.false_or, decide_eq_false (by omega), Bool.and_false]
    | false =>
      conv => whnf
      refine ⟨m - 1, by omega, k + 1, _, wrap_id (by omega) (by omega), by omega, hnext ?_, rfl⟩
      have h6 := of_decide_eq_false hb6
      unfold keyAt
      rw [getD_at hk, getD_at (by omega), hb4, decide_eq_true (by omega)]
      simp
  · conv => whnf
    show cb true = _
    unfold isKey
    have : (List.range ps.length).all (keyAt (xs.getD ((q : Int)).toNat 0 - 1) ps) = true := by
      rw [List.all_eq_true]
      intro j hjm
      have : xs.getD ((q : Int)).toNat 0 = xs[q] := by simp [List.getD_eq_getElem?_getD, hq]
      rw [this]
      exact hj j (by simp at hjm; omega)
    rw [hb1, hb2, hb3, this]
    rfl
theorem implIsKey_spec (xs : List Int) (r : Int) (ps : List Int) (hl : xs.length ≤ 1099511627776) (hp : ps.length ≤ 1099511627776) (hwf : ∀ x ∈ xs, -9223372036854775808 ≤ x ∧ x ≤ 9223372036854775807) : Spec Try.prog 82 [schema xs, key r ps] (cb (isKey xs r ps)) := by
  refine Spec_of mx Γ_ok Try.func82 rfl ?_
  conv => whnf
  refine ⟨_, implIsSchema_spec xs hl, .inl rfl, .inl ?_⟩
  conv => whnf
  generalize hb1 : (!isSchema xs) = b1
  cases b1 with
  | true =>
    conv => whnf
    show cb false = _
    simp at hb1
    unfold isKey
    rw [hb1]
    rfl
  | false =>
  conv => whnf
  have hw : IntKind.i64.wrap ((xs.length : Int) - 1) = xs.length - 1 := wrap_id (by omega) (by omega)
  refine ⟨_, within_spec _ _ _, .inl rfl, .inl ?_⟩
  rw [hw]
  conv => whnf
  generalize hb2 : (!inR r 0 (xs.length - 1)) = b2
  cases b2 with
  | true =>
    conv => whnf
    show cb false = _
    simp at hb2
    unfold isKey
    rw [hb2, Bool.and_false]
    rfl
  | false =>
  conv => whnf
  refine ⟨_, within_spec _ _ _, .inl rfl, .inl ?_⟩
  conv => whnf
  generalize hb3 : (!inR ps.length 1 3) = b3
  cases b3 with
  | true =>
    conv => whnf
    show cb false = _
    simp at hb3
    unfold isKey
    rw [hb3, Bool.and_false]
    rfl
  | false =>
  conv => whnf
  simp only [Bool.not_eq_false'] at hb1 hb2 hb3
  have hr : 0 ≤ r ∧ r ≤ (xs.length : Int) - 1 := by simpa [inR] using hb2
  obtain ⟨q, rfl⟩ : ∃ q : Nat, r = q := ⟨r.toNat, by omega⟩
  have hq : q < xs.length := by omega
  refine ⟨[(2,0),(3,0),(4,0),(28,0),(29,0),(30,0)], fun m s => ∃ (k : Nat) (e : Int), e = k ∧ m + k = ps.length ∧ (∀ j, j < k → keyAt (xs[q] - 1) ps j = true) ∧
    s = ⟨60, [(2, .ptr 0 0), (3, .ptr 1 0), (4, cb false), (28, ints ps), (29, ci ps.length), (30, ci e)], [some ⟨true, [ints xs]⟩, some ⟨true, [ci q, ints ps]⟩]⟩, ps.length, ⟨0, 0, rfl, rfl, by simp, rfl⟩, ?_⟩
  rintro m s ⟨k, _, rfl, hm, hj, rfl⟩
  conv => whnf
  have hxq := hwf xs[q] (List.getElem_mem hq)
  split <;> rename_i h1
  all_goals simp only [decide_eq_true_eq, decide_eq_false_iff_not] at h1
  · conv => whnf
    have hk : k < ps.length := by omega
    refine ⟨by omega, rows_len ciL_len ps, ?_⟩
    conv => whnf
    refine ⟨_, takeN_rp (k := k) ciL_len hk, ?_⟩
    conv => whnf
    refine ⟨by omega, rows_len ciL_len xs, ?_⟩
    conv => whnf
    refine ⟨_, takeN_rp (k := q) ciL_len hq, ?_⟩
    conv => whnf
    have hw2 : IntKind.i64.wrap (xs[q] - 1) = xs[q] - 1 := by
      have := (schema_at hb1 hq)
      exact wrap_id (by omega) (by omega)
    refine ⟨_, within_spec _ _ _, .inl rfl, .inl ?_⟩
    rw [hw2]
    conv => whnf
    have hfalse : keyAt (xs[q] - 1) ps k = false → cb false = cb (isKey xs q ps) := by
      intro h
      rw [isKey_false hk (by rw [show xs.getD ((q : Int)).toNat 0 = xs[q] from by simp [List.getD_eq_getElem?_getD, hq]]; exact h)]
    have hnext : keyAt (xs[q] - 1) ps k = true → ∀ j, j < k + 1 → keyAt (xs[q] - 1) ps j = true := by
      intro h j hlt
      rcases Nat.lt_succ_iff_lt_or_eq.1 hlt with h2 | rfl
      · exact hj j h2
      · exact h
    generalize hb4 : (!inR ps[k] 0 (xs[q] - 1)) = b4
    cases b4 with
    | true =>
      conv => whnf
      refine hfalse ?_
      simp only [Bool.not_eq_true'] at hb4
      unfold keyAt
      rw [getD_at hk, hb4, Bool.false_and]
    | false =>
    conv => whnf
    simp only [Bool.not_eq_false'] at hb4
    generalize hb5 : decide ((k : Int) > 0) = b5
    cases b5 with
    | false =>
      conv => whnf
      have hk0 : k = 0 := by have := of_decide_eq_false hb5; omega
      refine ⟨m - 1, by omega, k + 1, _, wrap_id (by omega) (by omega), by omega, hnext ?_, rfl⟩
      unfold keyAt
      have h7 : Nat.beq k 0 = true := by rw [hk0]; rfl
      rw [getD_at hk, hb4, h7]
      rfl
    | true =>
    conv => whnf
    have hk0 : 0 < k := by have := of_decide_eq_true hb5; omega
    have hw3 : IntKind.i64.wrap ((k : Int) - 1) = ((k - 1 : Nat) : Int) := (wrap_id (by omega) (by omega)).trans (by omega)
    rw [hw3]
    refine ⟨by omega, rows_len ciL_len ps, ?_⟩
    conv => whnf
    refine ⟨_, takeN_rp (k := k - 1) ciL_len (by omega), ?_⟩
    conv => whnf
    generalize hb6 : decide (ps[k - 1] ≥ ps[k]) = b6
    cases b6 with
    | true =>
      conv => whnf
      refine hfalse ?_
      have h6 := of_decide_eq_true hb6
      unfold keyAt
      rw [getD_at hk, getD_at (by omega)]
      have : Nat.beq k 0 = false := by
        cases hq0 : Nat.beq k 0 with
        | false => rfl
        | true => have := Nat.eq_of_beq_eq_true hq0; omega
      rw [this, Bool.false_or, decide_eq_false (by omega), Bool.and_false]
    | false =>
      conv => whnf
      refine ⟨m - 1, by omega, k + 1, _, wrap_id (by omega) (by omega), by omega, hnext ?_, rfl⟩
      have h6 := of_decide_eq_false hb6
      unfold keyAt
      rw [getD_at hk, getD_at (by omega), hb4, decide_eq_true (by omega)]
      simp
  · conv => whnf
    show cb true = _
    unfold isKey
    have : (List.range ps.length).all (keyAt (xs.getD ((q : Int)).toNat 0 - 1) ps) = true := by
      rw [List.all_eq_true]
      intro j hjm
      have : xs.getD ((q : Int)).toNat 0 = xs[q] := by simp [List.getD_eq_getElem?_getD, hq]
      rw [this]
      exact hj j (by simp at hjm; omega)
    rw [hb1, hb2, hb3, this]
    rfl
end Go.Proofs.YthfjngmbdbocbaaD
