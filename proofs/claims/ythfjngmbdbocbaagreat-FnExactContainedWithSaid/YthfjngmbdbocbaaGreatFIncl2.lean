/- IsInclusion, twice. -/
import Derived.Test.YthfjngmbdbocbaaGreatFIncl
set_option linter.unusedVariables false
set_option linter.unusedSimpArgs false
set_option maxRecDepth 100000
namespace Go.Proofs.YthfjngmbdbocbaaGreatD
open Go Go.Proofs

def isIncl (xs : List Int) (f : Int) (fa : List Int) (t : Int) (ta : List Int) : Bool := isSchema xs && inR f 0 (xs.length - 1) && inR t 0 (xs.length - 1) && (fa.length == ta.length) && arePl (xs.getD f.toNat 0) fa && arePl (xs.getD t.toNat 0) ta
theorem specIsInclusion_gen (xs : List Int) (f : Int) (fa : List Int) (t : Int) (ta : List Int) (hl : xs.length ≤ 1099511627776) (hf : fa.length ≤ 1099511627776) (ht : ta.length ≤ 1099511627776) : Spec Tryz.prog 62 [schema xs, incl f fa t ta] (cb (isIncl xs f fa t ta)) := by
  refine Spec_of mx Γ_ok Tryz.func62 rfl ?_
  conv => whnf
  refine ⟨_, specIsSchema_spec xs hl, .inl rfl, .inl ?_⟩
  conv => whnf
  generalize hb1 : (!isSchema xs) = b1
  cases b1 with
  | true =>
    conv => whnf
    show cb false = _
    simp at hb1
    unfold isIncl
    rw [hb1]
    rfl
  | false =>
  conv => whnf
  have hw : IntKind.i64.wrap ((xs.length : Int) - 1) = xs.length - 1 := wrap_id (by omega) (by omega)
  refine ⟨_, l1In_spec _ _ _, .inl rfl, .inl ?_⟩
  rw [hw]
  conv => whnf
  generalize hb2 : (!inR f 0 (xs.length - 1)) = b2
  cases b2 with
  | true =>
    conv => whnf
    show cb false = _
    simp at hb2
    unfold isIncl
    rw [hb2]
    simp
  | false =>
  conv => whnf
  refine ⟨_, l1In_spec _ _ _, .inl rfl, .inl ?_⟩
  rw [hw]
  conv => whnf
  generalize hb3 : (!inR t 0 (xs.length - 1)) = b3
  cases b3 with
  | true =>
    conv => whnf
    show cb false = _
    simp at hb3
    unfold isIncl
    rw [hb3]
    simp
  | false =>
  conv => whnf
  simp only [Bool.not_eq_false'] at hb1 hb2 hb3
  split <;> rename_i hb4
  · conv => whnf
    show cb false = _
    have : (fa.length == ta.length) = false := by
      rw [beq_eq_false_iff_ne]
      intro h
      rw [h] at hb4
      simp at hb4
    unfold isIncl
    rw [this]
    simp
  have hlen : (fa.length == ta.length) = true := by
    have : (fa.length : Int) = ta.length := by simpa using hb4
    rw [beq_iff_eq]
    omega
  have hr : 0 ≤ f ∧ f ≤ (xs.length : Int) - 1 := by simpa [inR] using hb2
  have hs : 0 ≤ t ∧ t ≤ (xs.length : Int) - 1 := by simpa [inR] using hb3
  obtain ⟨p, rfl⟩ : ∃ p : Nat, f = p := ⟨f.toNat, by omega⟩
  obtain ⟨q, rfl⟩ : ∃ q : Nat, t = q := ⟨t.toNat, by omega⟩
  have hp : p < xs.length := by omega
  have hq : q < xs.length := by omega
  have hxp := schema_at hb1 hp
  have hxq := schema_at hb1 hq
  have hres : isIncl xs p fa q ta = (arePl xs[p] fa && arePl xs[q] ta) := by
    unfold isIncl
    rw [hb1, hb2, hb3, hlen, show ((p : Int)).toNat = p from rfl, show ((q : Int)).toNat = q from rfl, getD_at hp, getD_at hq]
    simp
  rw [hres]
  conv => whnf
  refine ⟨List.range 21, by kernel_rfl, ?_⟩
  conv => whnf
  refine ⟨by omega, rows_len ciL_len xs, ?_⟩
  conv => whnf
  refine ⟨_, takeN_rp (k := p) ciL_len hp, ?_⟩
  conv => whnf
  refine ⟨_, l14Places_spec fa xs[p] hf (by omega), .inl rfl, .inl ?_⟩
  conv => whnf
  generalize hb5 : arePl xs[p] fa = b5
  cases b5 with
  | false =>
    conv => whnf
    rfl
  | true =>
  conv => whnf
  refine ⟨by omega, rows_len ciL_len xs, ?_⟩
  conv => whnf
  refine ⟨_, takeN_rp (k := q) ciL_len hq, ?_⟩
  conv => whnf
  refine ⟨_, l14Places_spec ta xs[q] ht (by omega), .inl rfl, .inl ?_⟩
  conv => whnf
  rfl
theorem implIsInclusion_gen (xs : List Int) (f : Int) (fa : List Int) (t : Int) (ta : List Int) (hl : xs.length ≤ 1099511627776) (hf : fa.length ≤ 1099511627776) (ht : ta.length ≤ 1099511627776) : Spec Tryz.prog 77 [schema xs, incl f fa t ta] (cb (isIncl xs f fa t ta)) := by
  refine Spec_of mx Γ_ok Tryz.func77 rfl ?_
  conv => whnf
  refine ⟨_, implIsSchema_spec xs hl, .inl rfl, .inl ?_⟩
  conv => whnf
  generalize hb1 : (!isSchema xs) = b1
  cases b1 with
  | true =>
    conv => whnf
    show cb false = _
    simp at hb1
    unfold isIncl
    rw [hb1]
    rfl
  | false =>
  conv => whnf
  have hw : IntKind.i64.wrap ((xs.length : Int) - 1) = xs.length - 1 := wrap_id (by omega) (by omega)
  refine ⟨_, within_spec _ _ _, .inl rfl, .inl ?_⟩
  rw [hw]
  conv => whnf
  generalize hb2 : (!inR f 0 (xs.length - 1)) = b2
  cases b2 with
  | true =>
    conv => whnf
    show cb false = _
    simp at hb2
    unfold isIncl
    rw [hb2]
    simp
  | false =>
  conv => whnf
  refine ⟨_, within_spec _ _ _, .inl rfl, .inl ?_⟩
  rw [hw]
  conv => whnf
  generalize hb3 : (!inR t 0 (xs.length - 1)) = b3
  cases b3 with
  | true =>
    conv => whnf
    show cb false = _
    simp at hb3
    unfold isIncl
    rw [hb3]
    simp
  | false =>
  conv => whnf
  simp only [Bool.not_eq_false'] at hb1 hb2 hb3
  conv => whnf
  have hr : 0 ≤ f ∧ f ≤ (xs.length : Int) - 1 := by simpa [inR] using hb2
  have hs : 0 ≤ t ∧ t ≤ (xs.length : Int) - 1 := by simpa [inR] using hb3
  obtain ⟨p, rfl⟩ : ∃ p : Nat, f = p := ⟨f.toNat, by omega⟩
  obtain ⟨q, rfl⟩ : ∃ q : Nat, t = q := ⟨t.toNat, by omega⟩
  have hp : p < xs.length := by omega
  have hq : q < xs.length := by omega
  have hxp := schema_at hb1 hp
  have hxq := schema_at hb1 hq
  have hres : isIncl xs p fa q ta = ((fa.length == ta.length) && arePl xs[p] fa && arePl xs[q] ta) := by
    unfold isIncl
    rw [hb1, hb2, hb3, show ((p : Int)).toNat = p from rfl, show ((q : Int)).toNat = q from rfl, getD_at hp, getD_at hq]
    simp
  refine ⟨List.range 46, by kernel_rfl, ?_⟩
  conv => whnf
  generalize hb4 : ((fa.length : Int) == ta.length) = b4
  cases b4 with
  | false =>
    conv => whnf
    show cb false = _
    have : (fa.length == ta.length) = false := by
      rw [beq_eq_false_iff_ne]
      intro h
      rw [h] at hb4
      simp at hb4
    rw [hres, this]
    rfl
  | true =>
  have hb4' : (fa.length == ta.length) = true := by
    have : (fa.length : Int) = ta.length := by simpa using hb4
    rw [beq_iff_eq]
    omega
  conv => whnf
  refine ⟨_, within_spec _ _ _, .inl rfl, .inl ?_⟩
  conv => whnf
  generalize hb5 : inR fa.length 1 3 = b5
  cases b5 with
  | false =>
    conv => whnf
    show cb false = _
    rw [hres, arePl_eq, arePl_eq, hb5]
    simp
  | true =>
  conv => whnf
  refine ⟨_, areDifferent_spec fa hf, .inl rfl, .inl ?_⟩
  conv => whnf
  generalize hb6 : differ fa = b6
  cases b6 with
  | false =>
    conv => whnf
    show cb false = _
    rw [hres, arePl_eq, arePl_eq, hb6]
    simp
  | true =>
  conv => whnf
  refine ⟨_, areDifferent_spec ta ht, .inl rfl, .inl ?_⟩
  conv => whnf
  generalize hb7 : differ ta = b7
  cases b7 with
  | false =>
    conv => whnf
    show cb false = _
    rw [hres, arePl_eq, arePl_eq, hb7]
    simp
  | true =>
  conv => whnf
  refine ⟨by omega, rows_len ciL_len xs, ?_⟩
  conv => whnf
  refine ⟨_, takeN_rp (k := p) ciL_len hp, ?_⟩
  conv => whnf
  refine ⟨_, areIn_spec fa xs[p] hf (by omega), .inl rfl, .inl ?_⟩
  conv => whnf
  generalize hb8 : (fa.all fun x => inR x 0 (xs[p] - 1)) = b8
  cases b8 with
  | false =>
    conv => whnf
    show cb false = _
    rw [hres, arePl_eq, hb8]
    simp
  | true =>
  conv => whnf
  refine ⟨by omega, rows_len ciL_len xs, ?_⟩
  conv => whnf
  refine ⟨_, takeN_rp (k := q) ciL_len hq, ?_⟩
  conv => whnf
  refine ⟨_, areIn_spec ta xs[q] ht (by omega), .inl rfl, .inl ?_⟩
  conv => whnf
  show cb (ta.all fun x => inR x 0 (xs[q] - 1)) = _
  have hl5 : inR ta.length 1 3 = true := by
    rw [beq_iff_eq] at hb4'
    rw [← hb4']
    exact hb5
  rw [hres, arePl_eq, arePl_eq, hb4', hb8, hb6, hb7, hb5, hl5]
  simp
abbrev InclQ := Int × List Int × Int × List Int
def pIsInclusion (x0 : List Int) (x1 : InclQ) : Bool := isIncl x0 x1.1 x1.2.1 x1.2.2.1 x1.2.2.2
theorem specIsInclusion_spec (x0 : List Int) (x1 : InclQ) (h0 : cSchema x0 ≤ 1048576) (h1 : cInclusion x1 ≤ 1048576) (q0 : qSchema x0) (q1 : qInclusion x1) : Spec Tryz.prog 62 [vSchema x0, vInclusion x1] (cb (pIsInclusion x0 x1)) := by
  unfold cSchema at h0
  unfold cInclusion at h1
  exact specIsInclusion_gen x0 x1.1 x1.2.1 x1.2.2.1 x1.2.2.2 (by omega) (by omega) (by omega)
theorem implIsInclusion_spec (x0 : List Int) (x1 : InclQ) (h0 : cSchema x0 ≤ 1048576) (h1 : cInclusion x1 ≤ 1048576) (q0 : qSchema x0) (q1 : qInclusion x1) : Spec Tryz.prog 77 [vSchema x0, vInclusion x1] (cb (pIsInclusion x0 x1)) := by
  unfold cSchema at h0
  unfold cInclusion at h1
  exact implIsInclusion_gen x0 x1.1 x1.2.1 x1.2.2.1 x1.2.2.2 (by omega) (by omega) (by omega)
end Go.Proofs.YthfjngmbdbocbaaGreatD
