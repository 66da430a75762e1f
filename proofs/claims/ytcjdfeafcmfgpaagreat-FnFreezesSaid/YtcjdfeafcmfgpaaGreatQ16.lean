/- Part 16 of the proof of the statement FnFreezes: contracts of functions and plain laws; no condition. -/
import Derived.Test.YtcjdfeafcmfgpaaGreatQ11
import Derived.Test.YtcjdfeafcmfgpaaGreatQ12
import Derived.Test.YtcjdfeafcmfgpaaGreatQ13
import Derived.Test.YtcjdfeafcmfgpaaGreatQ9
set_option linter.unusedVariables false
set_option linter.unusedSimpArgs false
set_option maxRecDepth 100000
namespace Go.Proofs.YtcjdfeafcmfgpaaGreatD
open Go Go.Proofs
def unfz (x : Int) : Int := if x > 79 then IntKind.i64.wrap (IntKind.i64.wrap (x - 79) - 1) else IntKind.i64.wrap (-1 - x)
theorem specUnfreeze_spec (xs : List Int) (h : xs.length ≤ 1099511627776) : Spec Tryz.prog 54 [ints xs] (intsT (xs.map unfz)) := by
  refine Spec_of mx Γ_ok Tryz.func54 rfl ?_
  conv => whnf
  refine ⟨[(0,0),(2,0),(3,0),(4,0)], fun m st => ∃ (k : Nat) (e : Int) (n : Nat) (r : List V), e = k ∧ m + k = xs.length ∧ n = k ∧ r = rows ciL ((xs.take k).map unfz) ∧
    st = ⟨31, [(0, ints xs), (2, cnil), (3, .own 0 1 0 n n none), (4, ci e)], [some ⟨false, r⟩]⟩, xs.length, ⟨0, 0, 0, _, rfl, rfl, rfl, rfl, rfl⟩, ?_⟩
  rintro m st ⟨k, _, n, _, rfl, hm, rfl, rfl, rfl⟩
  conv => whnf
  split <;> rename_i h1
  all_goals simp only [decide_eq_true_eq, decide_eq_false_iff_not] at h1
  · conv => whnf
    have hk : n < xs.length := by omega
    refine ⟨by omega, rows_len ciL_len _, ?_⟩
    conv => whnf
    refine ⟨_, takeN_rp (k := n) ciL_len hk, ?_⟩
    conv => whnf
    have hs : (xs.take (n + 1)).map unfz = (xs.take n).map unfz ++ [unfz xs[n]] := by
      rw [List.take_succ_eq_append_getElem hk, List.map_append]; rfl
    split <;> rename_i h2
    all_goals simp only [decide_eq_true_eq, decide_eq_false_iff_not] at h2
    · have hu : unfz xs[n] = IntKind.i64.wrap (IntKind.i64.wrap (xs[n] - 79) - 1) := if_pos h2
      conv => whnf
      refine ⟨_, rfl, .inl ⟨flat1 rfl, ?_⟩⟩
      conv => whnf
      refine ⟨by omega, by rw [rows_len ciL_len, List.length_map, List.length_take, Nat.min_eq_left (by omega)], _, snoc_ci _ _, ?_⟩
      conv => whnf
      refine ⟨m - 1, by omega, n + 1, _, _, _, wrap_id (by omega) (by omega), by omega, rfl, ?_, rfl⟩
      rw [hs, hu]
    · have hu : unfz xs[n] = IntKind.i64.wrap (-1 - xs[n]) := if_neg h2
      conv => whnf
      refine ⟨_, rfl, .inl ⟨flat1 rfl, ?_⟩⟩
      conv => whnf
      refine ⟨by omega, by rw [rows_len ciL_len, List.length_map, List.length_take, Nat.min_eq_left (by omega)], _, snoc_ci _ _, ?_⟩
      conv => whnf
      refine ⟨m - 1, by omega, n + 1, _, _, _, wrap_id (by omega) (by omega), by omega, rfl, ?_, rfl⟩
      rw [hs, hu]
  · conv => whnf
    have hkk : n = xs.length := by omega
    subst hkk
    rw [List.take_length]
    refine ⟨by rw [rows_len ciL_len, List.length_map], ?_⟩
    simp only [intsT, List.length_map]
    rfl
theorem implUnfreeze_spec (xs : List Int) (h : xs.length ≤ 1099511627776) : Spec Tryz.prog 53 [ints xs] (intsT (xs.map unfz)) := by
  refine Spec_of mx Γ_ok Tryz.func53 rfl ?_
  conv => whnf
  refine ⟨[(2,0),(3,0),(7,0),(8,0),(9,0)], fun m st => ∃ (k : Nat) (e : Int) (n : Nat) (r : List V), e = k ∧ m + k = xs.length ∧ n = k ∧ r = rows ciL ((xs.take k).map unfz) ∧
    st = ⟨28, [(2, cnil), (3, .own 0 1 0 n n none), (7, ints xs), (8, ci xs.length), (9, ci e)], [some ⟨false, r⟩]⟩, xs.length, ⟨0, 0, 0, _, rfl, rfl, rfl, rfl, rfl⟩, ?_⟩
  rintro m st ⟨k, _, n, _, rfl, hm, rfl, rfl, rfl⟩
  conv => whnf
  split <;> rename_i h1
  all_goals simp only [decide_eq_true_eq, decide_eq_false_iff_not] at h1
  · conv => whnf
    have hk : n < xs.length := by omega
    refine ⟨by omega, rows_len ciL_len _, ?_⟩
    conv => whnf
    refine ⟨_, takeN_rp (k := n) ciL_len hk, ?_⟩
    conv => whnf
    have hs : (xs.take (n + 1)).map unfz = (xs.take n).map unfz ++ [unfz xs[n]] := by
      rw [List.take_succ_eq_append_getElem hk, List.map_append]; rfl
    split <;> rename_i h2
    all_goals simp only [decide_eq_true_eq, decide_eq_false_iff_not] at h2
    · have hu : unfz xs[n] = IntKind.i64.wrap (IntKind.i64.wrap (xs[n] - 79) - 1) := if_pos h2
      conv => whnf
      refine ⟨_, rfl, .inl ⟨flat1 rfl, ?_⟩⟩
      conv => whnf
      refine ⟨by omega, by rw [rows_len ciL_len, List.length_map, List.length_take, Nat.min_eq_left (by omega)], _, snoc_ci _ _, ?_⟩
      conv => whnf
      refine ⟨m - 1, by omega, n + 1, _, _, _, wrap_id (by omega) (by omega), by omega, rfl, ?_, rfl⟩
      rw [hs, hu]
    · have hu : unfz xs[n] = IntKind.i64.wrap (-1 - xs[n]) := if_neg h2
      conv => whnf
      refine ⟨_, rfl, .inl ⟨flat1 rfl, ?_⟩⟩
      conv => whnf
      refine ⟨by omega, by rw [rows_len ciL_len, List.length_map, List.length_take, Nat.min_eq_left (by omega)], _, snoc_ci _ _, ?_⟩
      conv => whnf
      refine ⟨m - 1, by omega, n + 1, _, _, _, wrap_id (by omega) (by omega), by omega, rfl, ?_, rfl⟩
      rw [hs, hu]
  · conv => whnf
    have hkk : n = xs.length := by omega
    subst hkk
    rw [List.take_length]
    refine ⟨by rw [rows_len ciL_len, List.length_map], ?_⟩
    simp only [intsT, List.length_map]
    rfl
end Go.Proofs.YtcjdfeafcmfgpaaGreatD
set_option linter.unusedVariables false
set_option linter.unusedSimpArgs false
set_option maxRecDepth 100000
namespace Go.Proofs.YtcjdfeafcmfgpaaGreatD
open Go Go.Proofs
theorem specEqualFacts_spec (a b : List FactC) (ha : cFactS a ≤ 1048576) (hb : cFactS b ≤ 1048576) : Spec Tryz.prog 43 [vFactS a, vFactS b] (cb (decide (a = b))) := by
  unfold cFactS at ha hb
  refine Spec_of mx Γ_ok Tryz.func43 rfl ?_
  conv => whnf
  generalize hc2 : ((a.length : Int) != (b.length : Int)) = c2
  cases c2 with
  | true =>
    conv => whnf
    rw [ne_len (by intro h; rw [h] at hc2; simp at hc2)]
    rfl
  | false =>
  have hlen : a.length = b.length := by
    have : (a.length : Int) = b.length := by simpa using hc2
    omega
  conv => whnf
  refine ⟨[(0,0),(1,0),(4,0),(5,0)], fun m st => ∃ (k : Nat) (e : Int), e = k ∧ m + k = a.length ∧ decide (a = b) = decide (a.drop k = b.drop k) ∧
    st = ⟨27, [(0, vFactS a), (1, vFactS b), (4, cb false), (5, ci e)], []⟩, a.length, ⟨0, 0, rfl, rfl, rfl, by kernel_rfl⟩, ?_⟩
  rintro m st ⟨k, _, rfl, hm, hj, rfl⟩
  conv => whnf
  split <;> rename_i h1
  all_goals simp only [decide_eq_true_eq, decide_eq_false_iff_not] at h1
  · have hk : k < a.length := by omega
    have hk' : k < b.length := by omega
    have h3 := sumB_one (f := cFact) hk
    have h4 := sumB_one (f := cFact) hk'
    have e3 : cFact a[k] = a[k].2.length := rfl
    have e4 : cFact b[k] = b[k].2.length := rfl
    rw [drop_eq_at hk hk'] at hj
    conv => whnf
    refine ⟨List.range 10, by kernel_rfl, ?_⟩
    conv => whnf
    refine ⟨by omega, rows_len rFact_len _, ?_⟩
    conv => whnf
    refine ⟨_, takeN_rp (k := k) rFact_len hk, ?_⟩
    conv => whnf
    refine ⟨by omega, rows_len rFact_len _, ?_⟩
    conv => whnf
    refine ⟨_, takeN_rp (k := k) rFact_len hk', ?_⟩
    conv => whnf
    refine ⟨_, l5Same_spec a[k] b[k] (by omega) (by omega), .inl rfl, .inl ?_⟩
    unfold eqF
    generalize decide (a[k] = b[k]) = c3 at hj
    cases c3 with
    | false =>
      conv => whnf
      rw [hj]
      rfl
    | true =>
      conv => whnf
      exact ⟨m - 1, by omega, k + 1, IntKind.i64.wrap ((k : Int) + 1), wrap_id (by omega) (by omega), by omega, by rw [hj, Bool.true_and], by kernel_rfl⟩
  · conv => whnf
    rw [hj, List.drop_eq_nil_of_le (by omega), List.drop_eq_nil_of_le (by omega)]
    rfl
end Go.Proofs.YtcjdfeafcmfgpaaGreatD
set_option linter.unusedVariables false
set_option linter.unusedSimpArgs false
namespace Go.Proofs.YtcjdfeafcmfgpaaGreatD
open Go Go.Proofs
section
variable {α : Type} {lt : α → α → Bool}
variable [DecidableEq α]
theorem compG_ok (h : Tot lt) : ∀ (xs : List α) (p : α), (∀ a ∈ xs, lt a p = false) → xs.Pairwise (fun a b => lt b a = false) →
    Strict lt (compG (fun a b => decide (a = b)) p xs) ∧ (∀ a, a ∈ compG (fun a b => decide (a = b)) p xs ↔ a ∈ xs ∧ a ≠ p)
  | [], p, _, _ => ⟨List.Pairwise.nil, fun a => by simp [compG]⟩
  | x :: r, p, hp, hs => by
    obtain ⟨hx, hr⟩ := List.pairwise_cons.1 hs
    obtain ⟨i1, i2⟩ := compG_ok h r x hx hr
    simp only [compG]
    by_cases hxp : x = p
    · subst hxp
      simp only [decide_true, if_true]
      refine ⟨i1, fun a => ?_⟩
      rw [i2 a]
      simp only [List.mem_cons]
      constructor
      · rintro ⟨h1, h2⟩; exact ⟨.inr h1, h2⟩
      · rintro ⟨h1 | h1, h2⟩
        · exact absurd h1 h2
        · exact ⟨h1, h2⟩
    · simp only [hxp, decide_false, Bool.false_eq_true, if_false]
      have hpx : lt p x = true := by
        rcases h.tri p x with h1 | h1 | h1
        · exact h1
        · exact absurd h1.symm hxp
        · rw [hp x (by simp)] at h1; cases h1
      refine ⟨List.pairwise_cons.2 ⟨fun a ha => ?_, i1⟩, fun a => ?_⟩
      · obtain ⟨h1, h2⟩ := (i2 a).1 ha
        rcases h.tri x a with h3 | h3 | h3
        · exact h3
        · exact absurd h3.symm h2
        · rw [hx a h1] at h3; cases h3
      · simp only [List.mem_cons, i2 a]
        constructor
        · rintro (rfl | ⟨h1, h2⟩)
          · exact ⟨.inl rfl, hxp⟩
          · refine ⟨.inr h1, fun e => ?_⟩
            subst e
            have := hx a h1
            rw [hpx] at this; cases this
        · rintro ⟨rfl | h1, h2⟩
          · exact .inl rfl
          · by_cases e : a = x
            · exact .inl e
            · exact .inr ⟨h1, e⟩
theorem compL_ok (h : Tot lt) (xs : List α) (hs : xs.Pairwise (fun a b => lt b a = false)) : Strict lt (compL (fun a b => decide (a = b)) xs) ∧ (∀ a, a ∈ compL (fun a b => decide (a = b)) xs ↔ a ∈ xs) := by
  cases xs with
  | nil => exact ⟨List.Pairwise.nil, fun a => by simp [compL]⟩
  | cons x r =>
    obtain ⟨hx, hr⟩ := List.pairwise_cons.1 hs
    obtain ⟨i1, i2⟩ := compG_ok h r x hx hr
    refine ⟨List.pairwise_cons.2 ⟨fun a ha => ?_, i1⟩, fun a => ?_⟩
    · obtain ⟨h1, h2⟩ := (i2 a).1 ha
      rcases h.tri x a with h3 | h3 | h3
      · exact h3
      · exact absurd h3.symm h2
      · rw [hx a h1] at h3; cases h3
    · simp only [compL, List.mem_cons, i2 a]
      constructor
      · rintro (h1 | ⟨h1, _⟩)
        · exact .inl h1
        · exact .inr h1
      · rintro (h1 | h1)
        · exact .inl h1
        · by_cases e : a = x
          · exact .inl e
          · exact .inr ⟨h1, e⟩
end
theorem swo_of_tot {α : Type} {cf : α → α → Int} {lt : α → α → Bool} (h : Tot lt) (hc : ∀ a b, lt a b = decide (cf a b < 0)) : Go.Sort.SWO (ltOf cf) := by
  have e : ltOf cf = lt := by funext a b; exact (hc a b).symm
  rw [e]
  refine ⟨h.irr, h.tr, fun a b c h1 h2 => ?_⟩
  cases h3 : lt a c with
  | false => rfl
  | true =>
    rcases h.tri a b with h4 | h4 | h4
    · rw [h1] at h4; cases h4
    · subst h4; rw [h2] at h3; cases h3
    · have := h.tr _ _ _ h4 h3; rw [h2] at this; cases this
theorem sort_comp (fs ys : List FactC) (hp : ys.Perm fs) (hs : ys.Pairwise fun a b => ¬ cmpF b a < 0) : compL eqF ys = fs.foldl putF [] := by
  have hs' : ys.Pairwise fun a b => ltF b a = false := hs.imp fun {a b} h => by rw [ltF_cmp]; exact decide_eq_false h
  obtain ⟨h1, h2⟩ := compL_ok totF ys hs'
  obtain ⟨i1, i2⟩ := putAll fs [] List.Pairwise.nil
  refine strict_unique totF h1 i1 fun a => ?_
  have := i2 a
  rw [this]
  have := h2 a
  refine this.trans ?_
  rw [hp.mem_iff]
  simp
end Go.Proofs.YtcjdfeafcmfgpaaGreatD
set_option linter.unusedVariables false
set_option maxRecDepth 100000
namespace Go.Proofs.YtcjdfeafcmfgpaaGreatD
open Go Go.Proofs Go.Shelf
def layFRen : Ren := ⟨fun x => match x with | 6 => 163 | 15 => 253 | 14 => 252 | 28 => 297 | 29 => 298 | 20 => 289 | 21 => 290 | 22 => 291 | 23 => 292 | 24 => 293 | 25 => 294 | 26 => 295 | 27 => 296 | 46 => 316 | 47 => 317 | 48 => 318 | 49 => 319 | 50 => 320 | 57 => 327 | n => n, fun x => match x with | 22 => 33 | 24 => 151 | 25 => 164 | 3 => 3 | 39 => 231 | 0 => 0 | 53 => 254 | 55 => 256 | 4 => 4 | 46 => 247 | 45 => 246 | 50 => 251 | 5 => 5 | 9 => 9 | 66 => 270 | 70 => 274 | 76 => 278 | 77 => 139 | n => n, fun x => have n := x; n⟩
theorem layF_ok : SlLaysF0.n6 Tryz.prog layFRen where
  mixed := mx
  f6 := ⟨"slices.SortFunc[[]loop.example/g01985/impl.Fact,loop.example/g01985/impl.Fact]", by decide, Tryz.func163.trans (congrArg some (by kernel_rfl))⟩
  f14 := ⟨"slices.pdqsortCmpFunc[loop.example/g01985/impl.Fact]", by decide, Tryz.func252.trans (congrArg some (by kernel_rfl))⟩
  f15 := Tryz.func253.trans (congrArg some (by kernel_rfl))
  f20 := ⟨"slices.insertionSortCmpFunc[loop.example/g01985/impl.Fact]", by decide, Tryz.func289.trans (congrArg some (by kernel_rfl))⟩
  f21 := ⟨"slices.heapSortCmpFunc[loop.example/g01985/impl.Fact]", by decide, Tryz.func290.trans (congrArg some (by kernel_rfl))⟩
  f22 := ⟨"slices.breakPatternsCmpFunc[loop.example/g01985/impl.Fact]", by decide, Tryz.func291.trans (congrArg some (by kernel_rfl))⟩
  f23 := ⟨"slices.choosePivotCmpFunc[loop.example/g01985/impl.Fact]", by decide, Tryz.func292.trans (congrArg some (by kernel_rfl))⟩
  f24 := ⟨"slices.reverseRangeCmpFunc[loop.example/g01985/impl.Fact]", by decide, Tryz.func293.trans (congrArg some (by kernel_rfl))⟩
  f25 := ⟨"slices.partialInsertionSortCmpFunc[loop.example/g01985/impl.Fact]", by decide, Tryz.func294.trans (congrArg some (by kernel_rfl))⟩
  f26 := ⟨"slices.partitionEqualCmpFunc[loop.example/g01985/impl.Fact]", by decide, Tryz.func295.trans (congrArg some (by kernel_rfl))⟩
  f27 := ⟨"slices.partitionCmpFunc[loop.example/g01985/impl.Fact]", by decide, Tryz.func296.trans (congrArg some (by kernel_rfl))⟩
  f28 := Tryz.func297.trans (congrArg some (by kernel_rfl))
  f29 := Tryz.func298.trans (congrArg some (by kernel_rfl))
  f46 := ⟨"slices.siftDownCmpFunc[loop.example/g01985/impl.Fact]", by decide, Tryz.func316.trans (congrArg some (by kernel_rfl))⟩
  f47 := Tryz.func317.trans (congrArg some (by kernel_rfl))
  f48 := Tryz.func318.trans (congrArg some (by kernel_rfl))
  f49 := ⟨"slices.medianAdjacentCmpFunc[loop.example/g01985/impl.Fact]", by decide, Tryz.func319.trans (congrArg some (by kernel_rfl))⟩
  f50 := ⟨"slices.medianCmpFunc[loop.example/g01985/impl.Fact]", by decide, Tryz.func320.trans (congrArg some (by kernel_rfl))⟩
  f57 := ⟨"slices.order2CmpFunc[loop.example/g01985/impl.Fact]", by decide, Tryz.func327.trans (congrArg some (by kernel_rfl))⟩
  t0 := Tryz.underlying0
  a0 := Tryz.isAgg0
  z0 := Tryz.sizeOf0
  v0 := Tryz.zeroValue0
  t3 := Tryz.underlying3
  a3 := Tryz.isAgg3
  z3 := Tryz.sizeOf3
  v3 := Tryz.zeroValue3
  t4 := Tryz.underlying4
  a4 := Tryz.isAgg4
  z4 := Tryz.sizeOf4
  v4 := Tryz.zeroValue4
  t5 := Tryz.underlying5
  a5 := Tryz.isAgg5
  z5 := Tryz.sizeOf5
  v5 := Tryz.zeroValue5
  t9 := Tryz.underlying9
  a9 := Tryz.isAgg9
  z9 := Tryz.sizeOf9
  v9 := Tryz.zeroValue9
  t22 := Tryz.underlying33
  a22 := Tryz.isAgg33
  z22 := Tryz.sizeOf33
  v22 := Tryz.zeroValue33
  t25 := Tryz.underlying164
  a25 := Tryz.isAgg164
  z25 := Tryz.sizeOf164
  v25 := Tryz.zeroValue164
  t39 := Tryz.underlying231
  a39 := Tryz.isAgg231
  z39 := Tryz.sizeOf231
  v39 := Tryz.zeroValue231
  t45 := Tryz.underlying246
  a45 := Tryz.isAgg246
  z45 := Tryz.sizeOf246
  v45 := Tryz.zeroValue246
  t46 := Tryz.underlying247
  a46 := Tryz.isAgg247
  z46 := Tryz.sizeOf247
  v46 := Tryz.zeroValue247
  t50 := Tryz.underlying251
  a50 := Tryz.isAgg251
  z50 := Tryz.sizeOf251
  v50 := Tryz.zeroValue251
  t53 := Tryz.underlying254
  a53 := Tryz.isAgg254
  z53 := Tryz.sizeOf254
  v53 := Tryz.zeroValue254
  t55 := Tryz.underlying256
  a55 := Tryz.isAgg256
  z55 := Tryz.sizeOf256
  v55 := Tryz.zeroValue256
  t66 := Tryz.underlying270
  a66 := Tryz.isAgg270
  z66 := Tryz.sizeOf270
  v66 := Tryz.zeroValue270
  t70 := Tryz.underlying274
  a70 := Tryz.isAgg274
  z70 := Tryz.sizeOf274
  v70 := Tryz.zeroValue274
  t76 := Tryz.underlying278
  a76 := Tryz.isAgg278
  z76 := Tryz.sizeOf278
  v76 := Tryz.zeroValue278
  t77 := Tryz.underlying139
  a77 := Tryz.isAgg139
  z77 := Tryz.sizeOf139
  v77 := Tryz.zeroValue139
def layLRen : Ren := ⟨fun x => match x with | 6 => 171 | 15 => 253 | 14 => 257 | 28 => 297 | 29 => 298 | 20 => 300 | 21 => 301 | 22 => 302 | 23 => 303 | 24 => 304 | 25 => 305 | 26 => 306 | 27 => 307 | 46 => 321 | 47 => 317 | 48 => 318 | 49 => 322 | 50 => 323 | 57 => 328 | n => n, fun x => match x with | 22 => 37 | 24 => 24 | 25 => 175 | 3 => 3 | 39 => 231 | 0 => 0 | 53 => 254 | 55 => 256 | 4 => 4 | 46 => 247 | 45 => 246 | 50 => 251 | 5 => 5 | 9 => 9 | 66 => 270 | 70 => 274 | 76 => 278 | 77 => 139 | n => n, fun x => have n := x; n⟩
theorem layL_ok : SlLaysF.n6 Tryz.prog layLRen where
  mixed := mx
  f6 := ⟨"slices.SortFunc[[][]int,[]int]", by decide, Tryz.func171.trans (congrArg some (by kernel_rfl))⟩
  f14 := ⟨"slices.pdqsortCmpFunc[[]int]", by decide, Tryz.func257.trans (congrArg some (by kernel_rfl))⟩
  f15 := Tryz.func253.trans (congrArg some (by kernel_rfl))
  f20 := ⟨"slices.insertionSortCmpFunc[[]int]", by decide, Tryz.func300.trans (congrArg some (by kernel_rfl))⟩
  f21 := ⟨"slices.heapSortCmpFunc[[]int]", by decide, Tryz.func301.trans (congrArg some (by kernel_rfl))⟩
  f22 := ⟨"slices.breakPatternsCmpFunc[[]int]", by decide, Tryz.func302.trans (congrArg some (by kernel_rfl))⟩
  f23 := ⟨"slices.choosePivotCmpFunc[[]int]", by decide, Tryz.func303.trans (congrArg some (by kernel_rfl))⟩
  f24 := ⟨"slices.reverseRangeCmpFunc[[]int]", by decide, Tryz.func304.trans (congrArg some (by kernel_rfl))⟩
  f25 := ⟨"slices.partialInsertionSortCmpFunc[[]int]", by decide, Tryz.func305.trans (congrArg some (by kernel_rfl))⟩
  f26 := ⟨"slices.partitionEqualCmpFunc[[]int]", by decide, Tryz.func306.trans (congrArg some (by kernel_rfl))⟩
  f27 := ⟨"slices.partitionCmpFunc[[]int]", by decide, Tryz.func307.trans (congrArg some (by kernel_rfl))⟩
  f28 := Tryz.func297.trans (congrArg some (by kernel_rfl))
  f29 := Tryz.func298.trans (congrArg some (by kernel_rfl))
  f46 := ⟨"slices.siftDownCmpFunc[[]int]", by decide, Tryz.func321.trans (congrArg some (by kernel_rfl))⟩
  f47 := Tryz.func317.trans (congrArg some (by kernel_rfl))
  f48 := Tryz.func318.trans (congrArg some (by kernel_rfl))
  f49 := ⟨"slices.medianAdjacentCmpFunc[[]int]", by decide, Tryz.func322.trans (congrArg some (by kernel_rfl))⟩
  f50 := ⟨"slices.medianCmpFunc[[]int]", by decide, Tryz.func323.trans (congrArg some (by kernel_rfl))⟩
  f57 := ⟨"slices.order2CmpFunc[[]int]", by decide, Tryz.func328.trans (congrArg some (by kernel_rfl))⟩
  t0 := Tryz.underlying0
  a0 := Tryz.isAgg0
  z0 := Tryz.sizeOf0
  v0 := Tryz.zeroValue0
  t3 := Tryz.underlying3
  a3 := Tryz.isAgg3
  z3 := Tryz.sizeOf3
  v3 := Tryz.zeroValue3
  t4 := Tryz.underlying4
  a4 := Tryz.isAgg4
  z4 := Tryz.sizeOf4
  v4 := Tryz.zeroValue4
  t5 := Tryz.underlying5
  a5 := Tryz.isAgg5
  z5 := Tryz.sizeOf5
  v5 := Tryz.zeroValue5
  t9 := Tryz.underlying9
  a9 := Tryz.isAgg9
  z9 := Tryz.sizeOf9
  v9 := Tryz.zeroValue9
  t22 := Tryz.underlying37
  a22 := Tryz.isAgg37
  z22 := Tryz.sizeOf37
  v22 := Tryz.zeroValue37
  a24 := Tryz.isAgg24
  z24 := Tryz.sizeOf24
  t25 := Tryz.underlying175
  a25 := Tryz.isAgg175
  z25 := Tryz.sizeOf175
  v25 := Tryz.zeroValue175
  t39 := Tryz.underlying231
  a39 := Tryz.isAgg231
  z39 := Tryz.sizeOf231
  v39 := Tryz.zeroValue231
  t45 := Tryz.underlying246
  a45 := Tryz.isAgg246
  z45 := Tryz.sizeOf246
  v45 := Tryz.zeroValue246
  t46 := Tryz.underlying247
  a46 := Tryz.isAgg247
  z46 := Tryz.sizeOf247
  v46 := Tryz.zeroValue247
  t50 := Tryz.underlying251
  a50 := Tryz.isAgg251
  z50 := Tryz.sizeOf251
  v50 := Tryz.zeroValue251
  t53 := Tryz.underlying254
  a53 := Tryz.isAgg254
  z53 := Tryz.sizeOf254
  v53 := Tryz.zeroValue254
  t55 := Tryz.underlying256
  a55 := Tryz.isAgg256
  z55 := Tryz.sizeOf256
  v55 := Tryz.zeroValue256
  t66 := Tryz.underlying270
  a66 := Tryz.isAgg270
  z66 := Tryz.sizeOf270
  v66 := Tryz.zeroValue270
  t70 := Tryz.underlying274
  a70 := Tryz.isAgg274
  z70 := Tryz.sizeOf274
  v70 := Tryz.zeroValue274
  t76 := Tryz.underlying278
  a76 := Tryz.isAgg278
  z76 := Tryz.sizeOf278
  v76 := Tryz.zeroValue278
  t77 := Tryz.underlying139
  a77 := Tryz.isAgg139
  z77 := Tryz.sizeOf139
  v77 := Tryz.zeroValue139
end Go.Proofs.YtcjdfeafcmfgpaaGreatD
