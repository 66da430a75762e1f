/- Contracts and plain laws of this seat; no condition. -/
import Derived.Test.YtboolngaahifdaaGreatQ14
import Derived.Test.YtboolngaahifdaaGreatQ9
import Derived.Test.YtboolngaahifdaaGreatQ13
set_option linter.unusedVariables false
set_option linter.unusedSimpArgs false
set_option maxRecDepth 100000
namespace Go.Proofs.YtboolngaahifdaaGreatD
open Go Go.Proofs
structure Tot {α : Type} (lt : α → α → Bool) : Prop where
 irr : ∀ a, lt a a = false
 tr : ∀ a b c, lt a b = true → lt b c = true → lt a c = true
 tri : ∀ a b, lt a b = true ∨ a = b ∨ lt b a = true
section
variable {α : Type} {lt : α → α → Bool}
theorem Tot.asym (h : Tot lt) {a b : α} (h1 : lt a b = true) : lt b a = false := by
 cases h2 : lt b a with
 | false => rfl
 | true => have := h.tr _ _ _ h1 h2; rw [h.irr] at this; cases this
def Strict (lt : α → α → Bool) (l : List α) : Prop := l.Pairwise fun a b => lt a b = true
theorem strict_unique (h : Tot lt) : ∀ {l m : List α}, Strict lt l → Strict lt m → (∀ a, a ∈ l ↔ a ∈ m) → l = m
 | [], [], _, _, _ => rfl
 | [], y :: m, _, _, hm => absurd ((hm y).2 (by simp)) (by simp)
 | x :: l, [], _, _, hm => absurd ((hm x).1 (by simp)) (by simp)
 | x :: l, y :: m, hl, hr, hm => by
  obtain ⟨hx, hl'⟩ := List.pairwise_cons.1 hl
  obtain ⟨hy, hr'⟩ := List.pairwise_cons.1 hr
  have hxy : x = y := by
   have h1 : x = y ∨ x ∈ m := by have := (hm x).1 (by simp); simpa using this
   have h2 : y = x ∨ y ∈ l := by have := (hm y).2 (by simp); simpa using this
   rcases h1 with h1 | h1
   ·exact h1
   ·rcases h2 with h2 | h2
    ·exact h2.symm
    ·have := h.asym (hx y h2)
     rw [hy x h1] at this; cases this
  subst hxy
  congr 1
  refine strict_unique h hl' hr' fun a => ?_
  have := hm a
  simp only [List.mem_cons] at this
  constructor
  ·intro ha
   rcases this.1 (.inr ha) with rfl | h2
   ·have := hx a ha; rw [h.irr] at this; cases this
   ·exact h2
  ·intro ha
   rcases this.2 (.inr ha) with rfl | h2
   ·have := hy a ha; rw [h.irr] at this; cases this
   ·exact h2
end
theorem cmpI_anti : ∀ xs ys : List Int, cmpI ys xs = - cmpI xs ys
 | [], [] => rfl
 | [], _ :: _ => rfl
 | _ :: _, [] => rfl
 | x :: xs, y :: ys => by
  simp only [cmpI]
  have := cmpI_anti xs ys
  rcases Int.lt_trichotomy x y with h | h | h
  ·rw [if_neg (by omega), if_pos h, if_pos h]; omega
  ·subst h; simp [this]
  ·rw [if_pos h, if_neg (by omega), if_pos h]
theorem cmpI_zero : ∀ xs ys : List Int, cmpI xs ys = 0 → xs = ys
 | [], [], _ => rfl
 | [], _ :: _, h => by simp [cmpI] at h
 | _ :: _, [], h => by simp [cmpI] at h
 | x :: xs, y :: ys, h => by
  simp only [cmpI] at h
  split at h
  ·omega
  ·split at h
   ·omega
   ·rw [cmpI_zero xs ys h, show x = y from by omega]
theorem cmpI_self (xs : List Int) : cmpI xs xs = 0 := by have := cmpI_anti xs xs; omega
theorem ltI_iff : ∀ xs ys : List Int, ltI xs ys = true ↔ cmpI xs ys < 0
 | [], [] => by simp [ltI, cmpI]
 | [], _ :: _ => by simp [ltI, cmpI]
 | _ :: _, [] => by simp [ltI, cmpI]
 | x :: xs, y :: ys => by
  simp only [ltI, cmpI]
  have ih := ltI_iff xs ys
  split
  ·rename_i h
   rw [if_neg (by omega), if_neg (by omega)]; exact ih
  ·rename_i h
   simp only [decide_eq_true_eq]
   constructor
   ·intro h1; rw [if_pos h1]; omega
   ·intro h1
    split at h1
    ·assumption
    ·rw [if_pos (by omega)] at h1; omega
theorem ltI_cmp (xs ys : List Int) : ltI xs ys = decide (cmpI xs ys < 0) := by
 rw [Bool.eq_iff_iff, ltI_iff, decide_eq_true_eq]
theorem cmpI_tr : ∀ xs ys zs : List Int, cmpI xs ys < 0 → cmpI ys zs < 0 → cmpI xs zs < 0
 | _, ys, [], _, h2 => by cases ys <;> simp [cmpI] at h2
 | [], _, _ :: _, _, _ => by simp [cmpI]
 | x :: xs, [], z :: zs, h1, _ => by simp [cmpI] at h1
 | x :: xs, y :: ys, z :: zs, h1, h2 => by
  have ih := cmpI_tr xs ys zs
  simp only [cmpI] at h1 h2 ⊢
  split at h1 <;> split at h2 <;> (try split at h1) <;> (try split at h2) <;> (split <;> try split) <;> first | omega | exact ih h1 h2
theorem totI : Tot ltI where
 irr := fun a => by rw [ltI_cmp, cmpI_self]; rfl
 tr := fun a b c h1 h2 => by rw [ltI_cmp] at h1 h2 ⊢; exact decide_eq_true (cmpI_tr a b c (of_decide_eq_true h1) (of_decide_eq_true h2))
 tri := fun a b => by
  rw [ltI_cmp, ltI_cmp, cmpI_anti a b]
  by_cases h : cmpI a b = 0
  ·exact .inr (.inl (cmpI_zero a b h))
  ·by_cases h1 : cmpI a b < 0
   ·exact .inl (decide_eq_true h1)
   ·exact .inr (.inr (decide_eq_true (by omega)))
theorem ltF_cmp (a b : FactC) : ltF a b = decide (cmpF a b < 0) := by
 rw [Bool.eq_iff_iff, decide_eq_true_eq]
 unfold ltF cmpF
 split
 ·rename_i h
  rw [if_neg (by omega), if_neg (by omega)]; exact ltI_iff _ _
 ·rename_i h
  simp only [decide_eq_true_eq]
  constructor
  ·intro h1; rw [if_pos h1]; omega
  ·intro h1
   split at h1
   ·assumption
   ·rw [if_pos (by omega)] at h1; omega
theorem totF : Tot ltF where
 irr := fun a => by unfold ltF; rw [if_pos rfl, totI.irr]
 tr := fun a b c h1 h2 => by
  unfold ltF at h1 h2 ⊢
  split at h1 <;> split at h2 <;> split <;> first
   | exact totI.tr _ _ _ h1 h2
   | (have h1 := of_decide_eq_true h1; have h2 := of_decide_eq_true h2; first | omega | exact decide_eq_true (by omega))
   | (have h1 := of_decide_eq_true h1; first | omega | exact decide_eq_true (by omega))
   | (have h2 := of_decide_eq_true h2; first | omega | exact decide_eq_true (by omega))
   | omega
 tri := fun a b => by
  unfold ltF
  rcases Int.lt_trichotomy a.1 b.1 with h | h | h
  ·rw [if_neg (by omega)]; exact .inl (decide_eq_true h)
  ·rw [if_pos h, if_pos h.symm]
   rcases totI.tri a.2 b.2 with h1 | h1 | h1
   ·exact .inl h1
   ·exact .inr (.inl (Prod.ext h h1))
   ·exact .inr (.inr h1)
  ·rw [if_neg (by omega), if_neg (by omega)]; exact .inr (.inr (decide_eq_true h))
theorem putGo_false (f : FactC) : ∀ (l : List FactC), Strict ltF l → Strict ltF (putGo f false l) ∧ ∀ a, a ∈ putGo f false l ↔ a = f ∨ a ∈ l
 | [], _ => ⟨by simp [putGo, Strict], fun a => by simp [putGo]⟩
 | x :: r, hs => by
  obtain ⟨hx, hr⟩ := List.pairwise_cons.1 hs
  obtain ⟨i1, i2⟩ := putGo_false f r hr
  simp only [putGo, Bool.not_false, Bool.true_and]
  cases hxf : ltF x f with
  | true =>
   simp only [Bool.not_true, Bool.false_eq_true, if_false]
   refine ⟨List.pairwise_cons.2 ⟨fun a ha => ?_, i1⟩, fun a => ?_⟩
   ·rcases (i2 a).1 ha with rfl | h1
    ·exact hxf
    ·exact hx a h1
   ·simp only [List.mem_cons, i2 a]
    constructor
    ·rintro (h1 | h1 | h1) <;> simp [h1]
    ·rintro (h1 | h1 | h1) <;> simp [h1]
  | false =>
   simp only [Bool.not_false, if_true, putGo_true]
   by_cases e : x = f
   ·subst e
    simp only [eqF, decide_true, if_true, List.nil_append]
    exact ⟨hs, fun a => by simp⟩
   ·simp only [eqF, e, decide_false, Bool.false_eq_true, if_false, List.singleton_append]
    have hfx : ltF f x = true := by
     rcases totF.tri f x with h1 | h1 | h1
     ·exact h1
     ·exact absurd h1.symm e
     ·rw [hxf] at h1; cases h1
    refine ⟨List.pairwise_cons.2 ⟨fun a ha => ?_, hs⟩, fun a => by simp⟩
    rcases List.mem_cons.1 ha with rfl | h1
    ·exact hfx
    ·exact totF.tr _ _ _ hfx (hx a h1)
theorem putAll : ∀ (fs db : List FactC), Strict ltF db → Strict ltF (fs.foldl putF db) ∧ ∀ a, a ∈ fs.foldl putF db ↔ a ∈ fs ∨ a ∈ db
 | [], db, hs => ⟨hs, fun a => by simp⟩
 | f :: fs, db, hs => by
  obtain ⟨h1, h2⟩ := putGo_false f db hs
  obtain ⟨i1, i2⟩ := putAll fs (putF db f) h1
  refine ⟨i1, fun a => ?_⟩
  rw [List.foldl_cons, i2 a]
  have := h2 a
  simp only [putF, List.mem_cons, this]
  constructor
  ·rintro (h | h | h) <;> simp [h]
  ·rintro ((h | h) | h) <;> simp [h]
end Go.Proofs.YtboolngaahifdaaGreatD
namespace Go.Proofs.YtboolngaahifdaaGreatD
open Go Go.Proofs
section
variable {α : Type} {lt : α → α → Bool}
variable [DecidableEq α]
theorem compG_ok (h : Tot lt) : ∀ (xs : List α) (p : α), (∀ a ∈ xs, lt a p = false) → xs.Pairwise (fun a b => lt b a = false) →
  Strict lt (compG (fun a b => decide (a = b)) p xs) ∧ (∀ a, a ∈ compG (fun a b => decide (a = b)) p xs ↔ a ∈ xs ∧ a ≠ p)
 | [], p, _, _ => ⟨List.Pairwise.nil, fun a => by simp [compG]⟩
 | x :: r, p, hp, hs => by
  obtain ⟨hx, hr⟩ := List.pairwise_cons.1 hs
  obtain ⟨i1, i2⟩ := compG_ok h r x hx hr
  simp only [compG]
  by_cases hxp : x = p
  ·subst hxp
   simp only [decide_true, if_true]
   refine ⟨i1, fun a => ?_⟩
   rw [i2 a]
   simp only [List.mem_cons]
   constructor
   ·rintro ⟨h1, h2⟩; exact ⟨.inr h1, h2⟩
   ·rintro ⟨h1 | h1, h2⟩
    ·exact absurd h1 h2
    ·exact ⟨h1, h2⟩
  ·simp only [hxp, decide_false, Bool.false_eq_true, if_false]
   have hpx : lt p x = true := by
    rcases h.tri p x with h1 | h1 | h1
    ·exact h1
    ·exact absurd h1.symm hxp
    ·rw [hp x (by simp)] at h1; cases h1
   refine ⟨List.pairwise_cons.2 ⟨fun a ha => ?_, i1⟩, fun a => ?_⟩
   ·obtain ⟨h1, h2⟩ := (i2 a).1 ha
    rcases h.tri x a with h3 | h3 | h3
    ·exact h3
    ·exact absurd h3.symm h2
    ·rw [hx a h1] at h3; cases h3
   ·simp only [List.mem_cons, i2 a]
    constructor
    ·rintro (rfl | ⟨h1, h2⟩)
     ·exact ⟨.inl rfl, hxp⟩
     ·refine ⟨.inr h1, fun e => ?_⟩
      subst e
      have := hx a h1
      rw [hpx] at this; cases this
    ·rintro ⟨rfl | h1, h2⟩
     ·exact .inl rfl
     ·by_cases e : a = x
      ·exact .inl e
      ·exact .inr ⟨h1, e⟩
theorem compL_ok (h : Tot lt) (xs : List α) (hs : xs.Pairwise (fun a b => lt b a = false)) : Strict lt (compL (fun a b => decide (a = b)) xs) ∧ (∀ a, a ∈ compL (fun a b => decide (a = b)) xs ↔ a ∈ xs) := by
 cases xs with
 | nil => exact ⟨List.Pairwise.nil, fun a => by simp [compL]⟩
 | cons x r =>
  obtain ⟨hx, hr⟩ := List.pairwise_cons.1 hs
  obtain ⟨i1, i2⟩ := compG_ok h r x hx hr
  refine ⟨List.pairwise_cons.2 ⟨fun a ha => ?_, i1⟩, fun a => ?_⟩
  ·obtain ⟨h1, h2⟩ := (i2 a).1 ha
   rcases h.tri x a with h3 | h3 | h3
   ·exact h3
   ·exact absurd h3.symm h2
   ·rw [hx a h1] at h3; cases h3
  ·simp only [compL, List.mem_cons, i2 a]
   constructor
   ·rintro (h1 | ⟨h1, _⟩)
    ·exact .inl h1
    ·exact .inr h1
   ·rintro (h1 | h1)
    ·exact .inl h1
    ·by_cases e : a = x
     ·exact .inl e
     ·exact .inr ⟨h1, e⟩
end
theorem swo_of_tot {α : Type} {cf : α → α → Int} {lt : α → α → Bool} (h : Tot lt) (hc : ∀ a b, lt a b = decide (cf a b < 0)) : Go.Sort.SWO (ltOf cf) := by
 have e : ltOf cf = lt := by funext a b; exact (hc a b).symm
 rw [e]
 refine ⟨h.irr, h.tr, fun a b c h1 h2 => ?_⟩
 cases h3 : lt a c with
 | false => rfl
 | true =>
  rcases h.tri a b with h4 | h4 | h4
  ·rw [h1] at h4; cases h4
  ·subst h4; rw [h2] at h3; cases h3
  ·have := h.tr _ _ _ h4 h3; rw [h2] at this; cases this
theorem sort_comp (fs ys : List FactC) (hp : ys.Perm fs) (hs : ys.Pairwise fun a b => ¬ cmpF b a < 0) : compL eqF ys = fs.foldl putF [] := by
 have hs' : ys.Pairwise fun a b => ltF b a = false := hs.imp fun {a b} h => by rw [ltF_cmp]; exact decide_eq_false h
 obtain ⟨h1, h2⟩ := compL_ok totF ys hs'
 obtain ⟨i1, i2⟩ := putAll fs [] List.Pairwise.nil
 refine strict_unique totF h1 i1 fun a => ?_
 have := i2 a
 rw [this]
 have := h2 a
 refine this.trans ?_
 rw [hp.mem_iff]
 simp
end Go.Proofs.YtboolngaahifdaaGreatD
namespace Go.Proofs.YtboolngaahifdaaGreatD
open Go Go.Proofs Go.Shelf
def layFRen : Ren := ⟨fun x => match x with | 6 => 172 | 15 => 150 | 14 => 213 | 28 => 208 | 29 => 209 | 20 => 230 | 21 => 231 | 22 => 232 | 23 => 233 | 24 => 234 | 25 => 235 | 26 => 236 | 27 => 237 | 46 => 247 | 47 => 226 | 48 => 227 | 49 => 248 | 50 => 249 | 57 => 251 | n => n, fun x => match x with | 22 => 30 | 24 => 121 | 25 => 152 | 3 => 3 | 39 => 157 | 0 => 0 | 53 => 193 | 55 => 195 | 4 => 4 | 46 => 186 | 45 => 185 | 50 => 190 | 5 => 5 | 9 => 9 | 66 => 209 | 70 => 213 | 76 => 226 | 77 => 227 | n => n, fun x => have n := x; n⟩
theorem layF_ok : SlLaysF0.n6 Tryz.prog layFRen where
 mixed := mx
 f6 := ⟨"slices.SortFunc[[]loop.example/g01985/impl.Fact,loop.example/g01985/impl.Fact]", by decide, Tryz.func172.trans (congrArg some (by kernel_rfl))⟩
 f14 := ⟨"slices.pdqsortCmpFunc[loop.example/g01985/impl.Fact]", by decide, Tryz.func213.trans (congrArg some (by kernel_rfl))⟩
 f15 := Tryz.func150.trans (congrArg some (by kernel_rfl))
 f20 := ⟨"slices.insertionSortCmpFunc[loop.example/g01985/impl.Fact]", by decide, Tryz.func230.trans (congrArg some (by kernel_rfl))⟩
 f21 := ⟨"slices.heapSortCmpFunc[loop.example/g01985/impl.Fact]", by decide, Tryz.func231.trans (congrArg some (by kernel_rfl))⟩
 f22 := ⟨"slices.breakPatternsCmpFunc[loop.example/g01985/impl.Fact]", by decide, Tryz.func232.trans (congrArg some (by kernel_rfl))⟩
 f23 := ⟨"slices.choosePivotCmpFunc[loop.example/g01985/impl.Fact]", by decide, Tryz.func233.trans (congrArg some (by kernel_rfl))⟩
 f24 := ⟨"slices.reverseRangeCmpFunc[loop.example/g01985/impl.Fact]", by decide, Tryz.func234.trans (congrArg some (by kernel_rfl))⟩
 f25 := ⟨"slices.partialInsertionSortCmpFunc[loop.example/g01985/impl.Fact]", by decide, Tryz.func235.trans (congrArg some (by kernel_rfl))⟩
 f26 := ⟨"slices.partitionEqualCmpFunc[loop.example/g01985/impl.Fact]", by decide, Tryz.func236.trans (congrArg some (by kernel_rfl))⟩
 f27 := ⟨"slices.partitionCmpFunc[loop.example/g01985/impl.Fact]", by decide, Tryz.func237.trans (congrArg some (by kernel_rfl))⟩
 f28 := Tryz.func208.trans (congrArg some (by kernel_rfl))
 f29 := Tryz.func209.trans (congrArg some (by kernel_rfl))
 f46 := ⟨"slices.siftDownCmpFunc[loop.example/g01985/impl.Fact]", by decide, Tryz.func247.trans (congrArg some (by kernel_rfl))⟩
 f47 := Tryz.func226.trans (congrArg some (by kernel_rfl))
 f48 := Tryz.func227.trans (congrArg some (by kernel_rfl))
 f49 := ⟨"slices.medianAdjacentCmpFunc[loop.example/g01985/impl.Fact]", by decide, Tryz.func248.trans (congrArg some (by kernel_rfl))⟩
 f50 := ⟨"slices.medianCmpFunc[loop.example/g01985/impl.Fact]", by decide, Tryz.func249.trans (congrArg some (by kernel_rfl))⟩
 f57 := ⟨"slices.order2CmpFunc[loop.example/g01985/impl.Fact]", by decide, Tryz.func251.trans (congrArg some (by kernel_rfl))⟩
 t0 := Tryz.underlying0
 a0 := Tryz.isAgg0
 z0 := Tryz.sizeOf0
 v0 := Tryz.zeroValue0
 t3 := Tryz.underlying3
 a3 := Tryz.isAgg3
 z3 := Tryz.sizeOf3
 v3 := Tryz.zeroValue3
 t4 := Tryz.underlying4
 a4 := Tryz.isAgg4
 z4 := Tryz.sizeOf4
 v4 := Tryz.zeroValue4
 t5 := Tryz.underlying5
 a5 := Tryz.isAgg5
 z5 := Tryz.sizeOf5
 v5 := Tryz.zeroValue5
 t9 := Tryz.underlying9
 a9 := Tryz.isAgg9
 z9 := Tryz.sizeOf9
 v9 := Tryz.zeroValue9
 t22 := Tryz.underlying30
 a22 := Tryz.isAgg30
 z22 := Tryz.sizeOf30
 v22 := Tryz.zeroValue30
 t25 := Tryz.underlying152
 a25 := Tryz.isAgg152
 z25 := Tryz.sizeOf152
 v25 := Tryz.zeroValue152
 t39 := Tryz.underlying157
 a39 := Tryz.isAgg157
 z39 := Tryz.sizeOf157
 v39 := Tryz.zeroValue157
 t45 := Tryz.underlying185
 a45 := Tryz.isAgg185
 z45 := Tryz.sizeOf185
 v45 := Tryz.zeroValue185
 t46 := Tryz.underlying186
 a46 := Tryz.isAgg186
 z46 := Tryz.sizeOf186
 v46 := Tryz.zeroValue186
 t50 := Tryz.underlying190
 a50 := Tryz.isAgg190
 z50 := Tryz.sizeOf190
 v50 := Tryz.zeroValue190
 t53 := Tryz.underlying193
 a53 := Tryz.isAgg193
 z53 := Tryz.sizeOf193
 v53 := Tryz.zeroValue193
 t55 := Tryz.underlying195
 a55 := Tryz.isAgg195
 z55 := Tryz.sizeOf195
 v55 := Tryz.zeroValue195
 t66 := Tryz.underlying209
 a66 := Tryz.isAgg209
 z66 := Tryz.sizeOf209
 v66 := Tryz.zeroValue209
 t70 := Tryz.underlying213
 a70 := Tryz.isAgg213
 z70 := Tryz.sizeOf213
 v70 := Tryz.zeroValue213
 t76 := Tryz.underlying226
 a76 := Tryz.isAgg226
 z76 := Tryz.sizeOf226
 v76 := Tryz.zeroValue226
 t77 := Tryz.underlying227
 a77 := Tryz.isAgg227
 z77 := Tryz.sizeOf227
 v77 := Tryz.zeroValue227
def layLRen : Ren := ⟨fun x => match x with | 6 => 69 | 15 => 150 | 14 => 149 | 28 => 208 | 29 => 209 | 20 => 200 | 21 => 201 | 22 => 202 | 23 => 203 | 24 => 204 | 25 => 205 | 26 => 206 | 27 => 207 | 46 => 225 | 47 => 226 | 48 => 227 | 49 => 228 | 50 => 229 | 57 => 246 | n => n, fun x => match x with | 22 => 33 | 24 => 24 | 25 => 103 | 3 => 3 | 39 => 157 | 0 => 0 | 53 => 193 | 55 => 195 | 4 => 4 | 46 => 186 | 45 => 185 | 50 => 190 | 5 => 5 | 9 => 9 | 66 => 209 | 70 => 213 | 76 => 226 | 77 => 227 | n => n, fun x => have n := x; n⟩
theorem layL_ok : SlLaysF.n6 Tryz.prog layLRen where
 mixed := mx
 f6 := ⟨"slices.SortFunc[[][]int,[]int]", by decide, Tryz.func69.trans (congrArg some (by kernel_rfl))⟩
 f14 := ⟨"slices.pdqsortCmpFunc[[]int]", by decide, Tryz.func149.trans (congrArg some (by kernel_rfl))⟩
 f15 := Tryz.func150.trans (congrArg some (by kernel_rfl))
 f20 := ⟨"slices.insertionSortCmpFunc[[]int]", by decide, Tryz.func200.trans (congrArg some (by kernel_rfl))⟩
 f21 := ⟨"slices.heapSortCmpFunc[[]int]", by decide, Tryz.func201.trans (congrArg some (by kernel_rfl))⟩
 f22 := ⟨"slices.breakPatternsCmpFunc[[]int]", by decide, Tryz.func202.trans (congrArg some (by kernel_rfl))⟩
 f23 := ⟨"slices.choosePivotCmpFunc[[]int]", by decide, Tryz.func203.trans (congrArg some (by kernel_rfl))⟩
 f24 := ⟨"slices.reverseRangeCmpFunc[[]int]", by decide, Tryz.func204.trans (congrArg some (by kernel_rfl))⟩
 f25 := ⟨"slices.partialInsertionSortCmpFunc[[]int]", by decide, Tryz.func205.trans (congrArg some (by kernel_rfl))⟩
 f26 := ⟨"slices.partitionEqualCmpFunc[[]int]", by decide, Tryz.func206.trans (congrArg some (by kernel_rfl))⟩
 f27 := ⟨"slices.partitionCmpFunc[[]int]", by decide, Tryz.func207.trans (congrArg some (by kernel_rfl))⟩
 f28 := Tryz.func208.trans (congrArg some (by kernel_rfl))
 f29 := Tryz.func209.trans (congrArg some (by kernel_rfl))
 f46 := ⟨"slices.siftDownCmpFunc[[]int]", by decide, Tryz.func225.trans (congrArg some (by kernel_rfl))⟩
 f47 := Tryz.func226.trans (congrArg some (by kernel_rfl))
 f48 := Tryz.func227.trans (congrArg some (by kernel_rfl))
 f49 := ⟨"slices.medianAdjacentCmpFunc[[]int]", by decide, Tryz.func228.trans (congrArg some (by kernel_rfl))⟩
 f50 := ⟨"slices.medianCmpFunc[[]int]", by decide, Tryz.func229.trans (congrArg some (by kernel_rfl))⟩
 f57 := ⟨"slices.order2CmpFunc[[]int]", by decide, Tryz.func246.trans (congrArg some (by kernel_rfl))⟩
 t0 := Tryz.underlying0
 a0 := Tryz.isAgg0
 z0 := Tryz.sizeOf0
 v0 := Tryz.zeroValue0
 t3 := Tryz.underlying3
 a3 := Tryz.isAgg3
 z3 := Tryz.sizeOf3
 v3 := Tryz.zeroValue3
 t4 := Tryz.underlying4
 a4 := Tryz.isAgg4
 z4 := Tryz.sizeOf4
 v4 := Tryz.zeroValue4
 t5 := Tryz.underlying5
 a5 := Tryz.isAgg5
 z5 := Tryz.sizeOf5
 v5 := Tryz.zeroValue5
 t9 := Tryz.underlying9
 a9 := Tryz.isAgg9
 z9 := Tryz.sizeOf9
 v9 := Tryz.zeroValue9
 t22 := Tryz.underlying33
 a22 := Tryz.isAgg33
 z22 := Tryz.sizeOf33
 v22 := Tryz.zeroValue33
 a24 := Tryz.isAgg24
 z24 := Tryz.sizeOf24
 t25 := Tryz.underlying103
 a25 := Tryz.isAgg103
 z25 := Tryz.sizeOf103
 v25 := Tryz.zeroValue103
 t39 := Tryz.underlying157
 a39 := Tryz.isAgg157
 z39 := Tryz.sizeOf157
 v39 := Tryz.zeroValue157
 t45 := Tryz.underlying185
 a45 := Tryz.isAgg185
 z45 := Tryz.sizeOf185
 v45 := Tryz.zeroValue185
 t46 := Tryz.underlying186
 a46 := Tryz.isAgg186
 z46 := Tryz.sizeOf186
 v46 := Tryz.zeroValue186
 t50 := Tryz.underlying190
 a50 := Tryz.isAgg190
 z50 := Tryz.sizeOf190
 v50 := Tryz.zeroValue190
 t53 := Tryz.underlying193
 a53 := Tryz.isAgg193
 z53 := Tryz.sizeOf193
 v53 := Tryz.zeroValue193
 t55 := Tryz.underlying195
 a55 := Tryz.isAgg195
 z55 := Tryz.sizeOf195
 v55 := Tryz.zeroValue195
 t66 := Tryz.underlying209
 a66 := Tryz.isAgg209
 z66 := Tryz.sizeOf209
 v66 := Tryz.zeroValue209
 t70 := Tryz.underlying213
 a70 := Tryz.isAgg213
 z70 := Tryz.sizeOf213
 v70 := Tryz.zeroValue213
 t76 := Tryz.underlying226
 a76 := Tryz.isAgg226
 z76 := Tryz.sizeOf226
 v76 := Tryz.zeroValue226
 t77 := Tryz.underlying227
 a77 := Tryz.isAgg227
 z77 := Tryz.sizeOf227
 v77 := Tryz.zeroValue227
end Go.Proofs.YtboolngaahifdaaGreatD
