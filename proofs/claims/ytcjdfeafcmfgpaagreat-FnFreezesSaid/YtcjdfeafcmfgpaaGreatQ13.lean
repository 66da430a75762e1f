/- Part 13 of the proof of the statement FnFreezes: contracts of functions and plain laws; no condition. -/
import Derived.Test.YtcjdfeafcmfgpaaGreatQ12
import Derived.Test.YtcjdfeafcmfgpaaGreatQ11
set_option linter.unusedVariables false
set_option linter.unusedSimpArgs false
set_option maxRecDepth 100000
namespace Go.Proofs.YtcjdfeafcmfgpaaGreatD
open Go Go.Proofs
def putGo (f : FactC) : Bool → List FactC → List FactC
  | p, [] => if p then [] else [f]
  | p, x :: r => if !p && !ltF x f then (if eqF x f then [] else [f]) ++ x :: putGo f true r else x :: putGo f p r
def putF (db : List FactC) (f : FactC) : List FactC := putGo f false db
theorem l5Copy_spec (f : FactC) (h : f.2.length ≤ 1099511627776) : Spec Tryz.prog 238 [vFact f] (wFact f) := by
  refine Spec_of mx Γ_ok Tryz.func238 rfl ?_
  conv => whnf
  refine ⟨[0, 1, 3, 4, 2, 5, 6, 7], by kernel_rfl, ?_⟩
  conv => whnf
  refine ⟨rows_len ciL_len _, solid_ci _, ?_⟩
  conv => whnf
  refine ⟨by omega, rfl, _, app_ci [] f.2, ?_⟩
  conv => whnf
  refine ⟨by rw [rows_len ciL_len, List.nil_append, Nat.zero_add]; rfl, ?_⟩
  rw [List.nil_append, Nat.zero_add]
  rfl
theorem solid_tFact (a : FactC) : ∀ c ∈ tFact a, solid c = true := by
  intro c hc
  simp only [tFact, List.mem_cons, List.not_mem_nil, or_false] at hc
  rcases hc with rfl | rfl <;> rfl
theorem putGo_true (f : FactC) (l : List FactC) : putGo f true l = l := by
  induction l with
  | nil => rfl
  | cons x r ih => simp [putGo, ih]
theorem putGo_length (f : FactC) : ∀ (l : List FactC) (p : Bool), (putGo f p l).length ≤ l.length + 1
  | [], p => by cases p <;> simp [putGo]
  | x :: r, p => by
    have := putGo_length f r p
    simp only [putGo]
    split
    · rw [putGo_true]; split <;> simp
    · simp only [List.length_cons]; omega
set_option maxHeartbeats 4000000 in
theorem l5Put_spec (db : List FactC) (f : FactC) (h : cFactS db ≤ 1048576) (hf : f.2.length ≤ 1048576) : Spec Tryz.prog 138 [vFactS db, vFact f] (wFactS (putF db f)) := by
  unfold cFactS at h
  refine Spec_of mx Γ_ok Tryz.func138 rfl ?_
  conv => whnf
  refine ⟨[(0,0),(3,0),(4,0),(5,0),(6,0),(7,0)], fun m s => ∃ (k : Nat) (e : Int) (p : Bool) (o : List FactC) (n : Nat) (r : List V), e = k ∧ m + k = db.length ∧ putF db f = o ++ putGo f p (db.drop k) ∧ n = o.length ∧ n ≤ k + p.toNat ∧ r = rows tFact o ∧
    s = ⟨54, [(0, vFactS db), (3, .ptr 0 0), (4, cnil), (5, .own 1 2 0 n n none), (6, cb p), (7, ci e)], [some ⟨true, rFact f⟩, some ⟨false, r⟩]⟩, db.length, ⟨0, 0, false, [], 0, _, rfl, rfl, rfl, rfl, Nat.zero_le _, rfl, rfl⟩, ?_⟩
  rintro m s ⟨k, _, p, o, n, _, rfl, hm, hj, hn, hnk, rfl, rfl⟩
  conv => whnf
  split <;> rename_i h1
  all_goals simp only [decide_eq_true_eq, decide_eq_false_iff_not] at h1
  · conv => whnf
    have hk : k < db.length := by omega
    have hb := sumB_one (f := cFact) hk
    have hcb : cFact db[k] = db[k].2.length := rfl
    rw [List.drop_eq_getElem_cons hk, putGo] at hj
    cases p with
    | true =>
      conv => whnf
      simp only [Bool.toNat_true] at hnk
      refine ⟨List.range 11, by kernel_rfl, ?_⟩
      conv => whnf
      simp only [Bool.not_true, Bool.false_and, Bool.false_eq_true, if_false] at hj
      refine ⟨by omega, rows_len rFact_len db, ?_⟩
      conv => whnf
      refine ⟨_, takeN_rp (k := k) rFact_len hk, ?_⟩
      conv => whnf
      refine ⟨_, l5Copy_spec db[k] (by omega), .inl rfl, .inr ?_⟩
      conv => whnf
      refine ⟨by rw [rows_len ciL_len], ?_⟩
      conv => whnf
      refine ⟨_, rfl, .inr ⟨solid_tFact db[k], ?_⟩⟩
      conv => whnf
      refine ⟨by omega, by rw [rows_len tFact_len]; rw [hn], _, snoc_rows tFact _ db[k], ?_⟩
      conv => whnf
      refine ⟨m - 1, by omega, k + 1, _, true, _, _, _, wrap_id (by omega) (by omega), by omega, ?_, ?_, ?_, rfl, rfl⟩
      · rw [hj]; simp
      · simp [hn]
      · simp only [Bool.toNat_true]; omega
    | false =>
      conv => whnf
      simp only [Bool.toNat_false] at hnk
      refine ⟨List.range 11, by kernel_rfl, ?_⟩
      conv => whnf
      refine ⟨by omega, rows_len rFact_len db, ?_⟩
      conv => whnf
      refine ⟨_, takeN_rp (k := k) rFact_len hk, ?_⟩
      conv => whnf
      refine ⟨_, l5Less_spec db[k] f (by omega) (by omega), .inl rfl, .inl ?_⟩
      conv => whnf
      simp only [Bool.not_false, Bool.true_and] at hj
      generalize ltF db[k] f = b1 at hj
      cases b1 with
      | true =>
        conv => whnf
        simp only [Bool.not_true, Bool.false_eq_true, if_false] at hj
        refine ⟨by omega, rows_len rFact_len db, ?_⟩
        conv => whnf
        refine ⟨_, takeN_rp (k := k) rFact_len hk, ?_⟩
        conv => whnf
        refine ⟨_, l5Copy_spec db[k] (by omega), .inl rfl, .inr ?_⟩
        conv => whnf
        refine ⟨by rw [rows_len ciL_len], ?_⟩
        conv => whnf
        refine ⟨_, rfl, .inr ⟨solid_tFact db[k], ?_⟩⟩
        conv => whnf
        refine ⟨by omega, by rw [rows_len tFact_len]; rw [hn], _, snoc_rows tFact _ db[k], ?_⟩
        conv => whnf
        refine ⟨m - 1, by omega, k + 1, _, false, _, _, _, wrap_id (by omega) (by omega), by omega, ?_, ?_, ?_, rfl, rfl⟩
        · rw [hj]; simp
        · simp [hn]
        · simp only [Bool.toNat_false]; omega
      | false =>
        conv => whnf
        simp only [Bool.not_false, if_true] at hj
        refine ⟨List.range 7, by kernel_rfl, ?_⟩
        conv => whnf
        refine ⟨by omega, rows_len rFact_len db, ?_⟩
        conv => whnf
        refine ⟨_, takeN_rp (k := k) rFact_len hk, ?_⟩
        conv => whnf
        refine ⟨_, l5Same_spec db[k] f (by omega) (by omega), .inl rfl, .inl ?_⟩
        conv => whnf
        generalize eqF db[k] f = b2 at hj
        cases b2 with
        | true =>
          conv => whnf
          simp only [if_true, List.nil_append] at hj
          refine ⟨by omega, rows_len rFact_len db, ?_⟩
          conv => whnf
          refine ⟨_, takeN_rp (k := k) rFact_len hk, ?_⟩
          conv => whnf
          refine ⟨_, l5Copy_spec db[k] (by omega), .inl rfl, .inr ?_⟩
          conv => whnf
          refine ⟨by rw [rows_len ciL_len], ?_⟩
          conv => whnf
          refine ⟨_, rfl, .inr ⟨solid_tFact db[k], ?_⟩⟩
          conv => whnf
          refine ⟨by omega, by rw [rows_len tFact_len]; rw [hn], _, snoc_rows tFact _ db[k], ?_⟩
          conv => whnf
          refine ⟨m - 1, by omega, k + 1, _, true, _, _, _, wrap_id (by omega) (by omega), by omega, ?_, ?_, ?_, rfl, rfl⟩
          · rw [hj]; simp
          · simp [hn]
          · simp only [Bool.toNat_true]; omega
        | false =>
          conv => whnf
          simp only [Bool.false_eq_true, if_false, List.singleton_append] at hj
          refine ⟨_, l5Copy_spec f (by omega), .inl rfl, .inr ?_⟩
          conv => whnf
          refine ⟨by rw [rows_len ciL_len], ?_⟩
          conv => whnf
          refine ⟨_, rfl, .inr ⟨solid_tFact f, ?_⟩⟩
          conv => whnf
          refine ⟨by omega, by rw [rows_len tFact_len]; rw [hn], _, snoc_rows tFact _ f, ?_⟩
          conv => whnf
          refine ⟨by omega, rows_len rFact_len db, ?_⟩
          conv => whnf
          refine ⟨_, takeN_rp (k := k) rFact_len hk, ?_⟩
          conv => whnf
          refine ⟨_, l5Copy_spec db[k] (by omega), .inl rfl, .inr ?_⟩
          conv => whnf
          refine ⟨by rw [rows_len ciL_len], ?_⟩
          conv => whnf
          refine ⟨_, rfl, .inr ⟨solid_tFact db[k], ?_⟩⟩
          conv => whnf
          refine ⟨by omega, by rw [rows_len tFact_len, List.length_append]; rw [hn]; rfl, _, snoc_rows tFact _ db[k], ?_⟩
          conv => whnf
          refine ⟨m - 1, by omega, k + 1, _, true, _, _, _, wrap_id (by omega) (by omega), by omega, ?_, ?_, ?_, rfl, rfl⟩
          · rw [hj]; simp
          · simp [hn]
          · simp only [Bool.toNat_true]; omega
  · conv => whnf
    rw [drop_end (by omega)] at hj
    cases p with
    | true =>
      conv => whnf
      simp only [putGo, if_true, List.append_nil] at hj
      rw [hj]
      refine ⟨by rw [rows_len tFact_len, hn], ?_⟩
      subst hn
      rfl
    | false =>
      conv => whnf
      simp only [putGo, Bool.false_eq_true, if_false] at hj
      simp only [Bool.toNat_false] at hnk
      refine ⟨_, l5Copy_spec f (by omega), .inl rfl, .inr ?_⟩
      conv => whnf
      refine ⟨by rw [rows_len ciL_len], ?_⟩
      conv => whnf
      refine ⟨_, rfl, .inr ⟨solid_tFact f, ?_⟩⟩
      conv => whnf
      refine ⟨by omega, by rw [rows_len tFact_len]; rw [hn], _, snoc_rows tFact _ f, ?_⟩
      conv => whnf
      rw [hj]
      subst hn
      refine ⟨by rw [rows_len tFact_len, List.length_append]; rfl, ?_⟩
      show V.tr 2 (o.length + 1) _ = wFactS _
      rw [wFactS, List.length_append]
      rfl
end Go.Proofs.YtcjdfeafcmfgpaaGreatD
set_option linter.unusedVariables false
set_option linter.unusedSimpArgs false
namespace Go.Proofs.YtcjdfeafcmfgpaaGreatD
open Go Go.Proofs
structure Tot {α : Type} (lt : α → α → Bool) : Prop where
  irr : ∀ a, lt a a = false
  tr : ∀ a b c, lt a b = true → lt b c = true → lt a c = true
  tri : ∀ a b, lt a b = true ∨ a = b ∨ lt b a = true
section
variable {α : Type} {lt : α → α → Bool}
theorem Tot.asym (h : Tot lt) {a b : α} (h1 : lt a b = true) : lt b a = false := by
  cases h2 : lt b a with
  | false => rfl
  | true => have := h.tr _ _ _ h1 h2; rw [h.irr] at this; cases this
def Strict (lt : α → α → Bool) (l : List α) : Prop := l.Pairwise fun a b => lt a b = true
theorem strict_unique (h : Tot lt) : ∀ {l m : List α}, Strict lt l → Strict lt m → (∀ a, a ∈ l ↔ a ∈ m) → l = m
  | [], [], _, _, _ => rfl
  | [], y :: m, _, _, hm => absurd ((hm y).2 (by simp)) (by simp)
  | x :: l, [], _, _, hm => absurd ((hm x).1 (by simp)) (by simp)
  | x :: l, y :: m, hl, hr, hm => by
    obtain ⟨hx, hl'⟩ := List.pairwise_cons.1 hl
    obtain ⟨hy, hr'⟩ := List.pairwise_cons.1 hr
    have hxy : x = y := by
      have h1 : x = y ∨ x ∈ m := by have := (hm x).1 (by simp); simpa using this
      have h2 : y = x ∨ y ∈ l := by have := (hm y).2 (by simp); simpa using this
      rcases h1 with h1 | h1
      · exact h1
      · rcases h2 with h2 | h2
        · exact h2.symm
        · have := h.asym (hx y h2)
          rw [hy x h1] at this; cases this
    subst hxy
    congr 1
    refine strict_unique h hl' hr' fun a => ?_
    have := hm a
    simp only [List.mem_cons] at this
    constructor
    · intro ha
      rcases this.1 (.inr ha) with rfl | h2
      · have := hx a ha; rw [h.irr] at this; cases this
      · exact h2
    · intro ha
      rcases this.2 (.inr ha) with rfl | h2
      · have := hy a ha; rw [h.irr] at this; cases this
      · exact h2
end
theorem cmpI_anti : ∀ xs ys : List Int, cmpI ys xs = - cmpI xs ys
  | [], [] => rfl
  | [], _ :: _ => rfl
  | _ :: _, [] => rfl
  | x :: xs, y :: ys => by
    simp only [cmpI]
    have := cmpI_anti xs ys
    rcases Int.lt_trichotomy x y with h | h | h
    · rw [if_neg (by omega), if_pos h, if_pos h]; omega
    · subst h; simp [this]
    · rw [if_pos h, if_neg (by omega), if_pos h]
theorem cmpI_zero : ∀ xs ys : List Int, cmpI xs ys = 0 → xs = ys
  | [], [], _ => rfl
  | [], _ :: _, h => by simp [cmpI] at h
  | _ :: _, [], h => by simp [cmpI] at h
  | x :: xs, y :: ys, h => by
    simp only [cmpI] at h
    split at h
    · omega
    · split at h
      · omega
      · rw [cmpI_zero xs ys h, show x = y from by omega]
theorem cmpI_self (xs : List Int) : cmpI xs xs = 0 := by have := cmpI_anti xs xs; omega
theorem ltI_iff : ∀ xs ys : List Int, ltI xs ys = true ↔ cmpI xs ys < 0
  | [], [] => by simp [ltI, cmpI]
  | [], _ :: _ => by simp [ltI, cmpI]
  | _ :: _, [] => by simp [ltI, cmpI]
  | x :: xs, y :: ys => by
    simp only [ltI, cmpI]
    have ih := ltI_iff xs ys
    split
    · rename_i h
      rw [if_neg (by omega), if_neg (by omega)]; exact ih
    · rename_i h
      simp only [decide_eq_true_eq]
      constructor
      · intro h1; rw [if_pos h1]; omega
      · intro h1
        split at h1
        · assumption
        · rw [if_pos (by omega)] at h1; omega
theorem ltI_cmp (xs ys : List Int) : ltI xs ys = decide (cmpI xs ys < 0) := by
  rw [Bool.eq_iff_iff, ltI_iff, decide_eq_true_eq]
theorem cmpI_tr : ∀ xs ys zs : List Int, cmpI xs ys < 0 → cmpI ys zs < 0 → cmpI xs zs < 0
  | _, ys, [], _, h2 => by cases ys <;> simp [cmpI] at h2
  | [], _, _ :: _, _, _ => by simp [cmpI]
  | x :: xs, [], z :: zs, h1, _ => by simp [cmpI] at h1
  | x :: xs, y :: ys, z :: zs, h1, h2 => by
    have ih := cmpI_tr xs ys zs
    simp only [cmpI] at h1 h2 ⊢
    split at h1 <;> split at h2 <;> (try split at h1) <;> (try split at h2) <;> (split <;> try split) <;> first | omega | exact ih h1 h2
theorem totI : Tot ltI where
  irr := fun a => by rw [ltI_cmp, cmpI_self]; rfl
  tr := fun a b c h1 h2 => by rw [ltI_cmp] at h1 h2 ⊢; exact decide_eq_true (cmpI_tr a b c (of_decide_eq_true h1) (of_decide_eq_true h2))
  tri := fun a b => by
    rw [ltI_cmp, ltI_cmp, cmpI_anti a b]
    by_cases h : cmpI a b = 0
    · exact .inr (.inl (cmpI_zero a b h))
    · by_cases h1 : cmpI a b < 0
      · exact .inl (decide_eq_true h1)
      · exact .inr (.inr (decide_eq_true (by omega)))
theorem ltF_cmp (a b : FactC) : ltF a b = decide (cmpF a b < 0) := by
  rw [Bool.eq_iff_iff, decide_eq_true_eq]
  unfold ltF cmpF
  split
  · rename_i h
    rw [if_neg (by omega), if_neg (by omega)]; exact ltI_iff _ _
  · rename_i h
    simp only [decide_eq_true_eq]
    constructor
    · intro h1; rw [if_pos h1]; omega
    · intro h1
      split at h1
      · assumption
      · rw [if_pos (by omega)] at h1; omega
theorem totF : Tot ltF where
  irr := fun a => by unfold ltF; rw [if_pos rfl, totI.irr]
  tr := fun a b c h1 h2 => by
    unfold ltF at h1 h2 ⊢
    split at h1 <;> split at h2 <;> split <;> first
      | exact totI.tr _ _ _ h1 h2
      | (have h1 := of_decide_eq_true h1; have h2 := of_decide_eq_true h2; first | omega | exact decide_eq_true (by omega))
      | (have h1 := of_decide_eq_true h1; first | omega | exact decide_eq_true (by omega))
      | (have h2 := of_decide_eq_true h2; first | omega | exact decide_eq_true (by omega))
      | omega
  tri := fun a b => by
    unfold ltF
    rcases Int.lt_trichotomy a.1 b.1 with h | h | h
    · rw [if_neg (by omega)]; exact .inl (decide_eq_true h)
    · rw [if_pos h, if_pos h.symm]
      rcases totI.tri a.2 b.2 with h1 | h1 | h1
      · exact .inl h1
      · exact .inr (.inl (Prod.ext h h1))
      · exact .inr (.inr h1)
    · rw [if_neg (by omega), if_neg (by omega)]; exact .inr (.inr (decide_eq_true h))
theorem putGo_false (f : FactC) : ∀ (l : List FactC), Strict ltF l → Strict ltF (putGo f false l) ∧ ∀ a, a ∈ putGo f false l ↔ a = f ∨ a ∈ l
  | [], _ => ⟨by simp [putGo, Strict], fun a => by simp [putGo]⟩
  | x :: r, hs => by
    obtain ⟨hx, hr⟩ := List.pairwise_cons.1 hs
    obtain ⟨i1, i2⟩ := putGo_false f r hr
    simp only [putGo, Bool.not_false, Bool.true_and]
    cases hxf : ltF x f with
    | true =>
      simp only [Bool.not_true, Bool.false_eq_true, if_false]
      refine ⟨List.pairwise_cons.2 ⟨fun a ha => ?_, i1⟩, fun a => ?_⟩
      · rcases (i2 a).1 ha with rfl | h1
        · exact hxf
        · exact hx a h1
      · simp only [List.mem_cons, i2 a]
        constructor
        · rintro (h1 | h1 | h1) <;> simp [h1]
        · rintro (h1 | h1 | h1) <;> simp [h1]
    | false =>
      simp only [Bool.not_false, if_true, putGo_true]
      by_cases e : x = f
      · subst e
        simp only [eqF, decide_true, if_true, List.nil_append]
        exact ⟨hs, fun a => by simp⟩
      · simp only [eqF, e, decide_false, Bool.false_eq_true, if_false, List.singleton_append]
        have hfx : ltF f x = true := by
          rcases totF.tri f x with h1 | h1 | h1
          · exact h1
          · exact absurd h1.symm e
          · rw [hxf] at h1; cases h1
        refine ⟨List.pairwise_cons.2 ⟨fun a ha => ?_, hs⟩, fun a => by simp⟩
        rcases List.mem_cons.1 ha with rfl | h1
        · exact hfx
        · exact totF.tr _ _ _ hfx (hx a h1)
theorem putAll : ∀ (fs db : List FactC), Strict ltF db → Strict ltF (fs.foldl putF db) ∧ ∀ a, a ∈ fs.foldl putF db ↔ a ∈ fs ∨ a ∈ db
  | [], db, hs => ⟨hs, fun a => by simp⟩
  | f :: fs, db, hs => by
    obtain ⟨h1, h2⟩ := putGo_false f db hs
    obtain ⟨i1, i2⟩ := putAll fs (putF db f) h1
    refine ⟨i1, fun a => ?_⟩
    rw [List.foldl_cons, i2 a]
    have := h2 a
    simp only [putF, List.mem_cons, this]
    constructor
    · rintro (h | h | h) <;> simp [h]
    · rintro ((h | h) | h) <;> simp [h]
end Go.Proofs.YtcjdfeafcmfgpaaGreatD
set_option linter.unusedVariables false
set_option linter.unusedSimpArgs false
set_option maxRecDepth 100000
namespace Go.Proofs.YtcjdfeafcmfgpaaGreatD
open Go Go.Proofs
theorem big_spec (xs : List Int) : Spec Tryz.prog 12 [bytesR xs] (cb (decide ((xs.length : Int) > 1048576))) := by
  unfold bytesR
  refine Spec_of mx Γ_ok Tryz.func12 rfl ?_
  conv => whnf
  rfl
theorem sameInts_spec (xs ys : List Int) (hl : xs.length ≤ 1099511627776) (hl' : ys.length ≤ 1099511627776) : Spec Tryz.prog 50 [ints xs, ints ys] (cb (decide (xs = ys))) := by
  refine Spec_of mx Γ_ok Tryz.func50 rfl ?_
  conv => whnf
  split <;> rename_i h0
  · conv => whnf
    simp only [bne_iff_ne, ne_eq] at h0
    show cb false = _
    rw [ne_len (by omega)]
  conv => whnf
  have h0' : xs.length = ys.length := by
    have h3 : (xs.length : Int) = ys.length := by simpa using h0
    omega
  refine ⟨[(0,0),(1,0),(4,0),(5,0)], fun m s => ∃ (k : Nat) (e : Int), e = k ∧ m + k = xs.length ∧ decide (xs = ys) = decide (xs.drop k = ys.drop k) ∧
    s = ⟨26, [(0, ints xs), (1, ints ys), (4, cb false), (5, ci e)], []⟩, xs.length, ⟨0, 0, rfl, rfl, rfl, rfl⟩, ?_⟩
  rintro m s ⟨k, _, rfl, hm, hj, rfl⟩
  conv => whnf
  split <;> rename_i h1
  all_goals simp only [decide_eq_true_eq, decide_eq_false_iff_not] at h1
  · conv => whnf
    have hk : k < xs.length := by omega
    have hk' : k < ys.length := by omega
    rw [drop_eq_at hk hk'] at hj
    refine ⟨List.range 9, by kernel_rfl, ?_⟩
    conv => whnf
    refine ⟨by omega, rows_len ciL_len xs, ?_⟩
    conv => whnf
    refine ⟨_, takeN_rp (k := k) ciL_len hk, ?_⟩
    conv => whnf
    refine ⟨by omega, rows_len ciL_len ys, ?_⟩
    conv => whnf
    refine ⟨_, takeN_rp (k := k) ciL_len hk', ?_⟩
    conv => whnf
    split <;> rename_i h2
    · conv => whnf
      show cb false = _
      rw [hj, decide_eq_false (p := xs[k] = ys[k]) (by simpa using h2), Bool.false_and]
    · conv => whnf
      rw [decide_eq_true (p := xs[k] = ys[k]) (by simpa using h2), Bool.true_and] at hj
      exact ⟨m - 1, by omega, k + 1, _, wrap_id (by omega) (by omega), by omega, hj, rfl⟩
  · conv => whnf
    rw [hj, drop_end (by omega), drop_end (by omega)]
    rfl
end Go.Proofs.YtcjdfeafcmfgpaaGreatD
set_option linter.unusedVariables false
set_option linter.unusedSimpArgs false
set_option maxRecDepth 100000
namespace Go.Proofs.YtcjdfeafcmfgpaaGreatD
open Go Go.Proofs
theorem wrap_pred (n : Nat) (h : n ≤ 1000000 := by omega) : IntKind.i64.wrap (((n + 1 : Nat) : Int) - 1) = (n : Int) := by
  rw [wrap_id (by omega) (by omega)]; omega
def schGo : Nat → List Int → Cur → List Int × Cur
  | 0, a, c => (a, c)
  | n + 1, a, c => schGo n (a ++ [IntKind.i64.wrap (1 + (belowP c 3).1)]) (belowP c 3).2
def schP (c : Cur) : List Int × Cur := schGo (belowP c 3).1.toNat [2] (belowP c 3).2
theorem schGo_ok : ∀ (n : Nat) (a : List Int) (c : Cur), goodC c → (∀ x ∈ a, 1 ≤ x ∧ x ≤ 3) → goodC (schGo n a c).2 ∧ (∀ x ∈ (schGo n a c).1, 1 ≤ x ∧ x ≤ 3) ∧ (schGo n a c).1.length = a.length + n
  | 0, a, c, hc, ha => ⟨hc, ha, rfl⟩
  | n + 1, a, c, hc, ha => by
    have hb := belowP_bd c (n := 3) (by omega) (by omega)
    have hw : IntKind.i64.wrap (1 + (belowP c 3).1) = 1 + (belowP c 3).1 := wrap_id (by omega) (by omega)
    obtain ⟨h1, h2, h3⟩ := schGo_ok n (a ++ [IntKind.i64.wrap (1 + (belowP c 3).1)]) (belowP c 3).2 (belowP_good hc 3) (fun x hx => by
      rcases List.mem_append.1 hx with hx | hx
      · exact ha x hx
      · have : x = IntKind.i64.wrap (1 + (belowP c 3).1) := by simpa using hx
        rw [this, hw]; omega)
    refine ⟨h1, h2, ?_⟩
    simp only [schGo, h3, List.length_append, List.length_cons, List.length_nil]
    omega
theorem schP_ok {c : Cur} (hc : goodC c) : goodC (schP c).2 ∧ (∀ x ∈ (schP c).1, 1 ≤ x ∧ x ≤ 3) ∧ 1 ≤ (schP c).1.length ∧ (schP c).1.length ≤ 3 := by
  have hb := belowP_bd c (n := 3) (by omega) (by omega)
  obtain ⟨h1, h2, h3⟩ := schGo_ok (belowP c 3).1.toNat [2] (belowP c 3).2 (belowP_good hc 3) (fun x hx => by
    have : x = 2 := by simpa using hx
    omega)
  refine ⟨h1, h2, ?_, ?_⟩
  · unfold schP; rw [h3]; simp
  · unfold schP; rw [h3]; simp; omega
set_option maxHeartbeats 2000000 in
theorem l3Schema_spec (c : Cur) (h : goodC c) : SpecR Tryz.prog 206 [vCur c] (wSchema (schP c).1) [vCur (schP c).2] := by
  refine SpecL_of mx Γ_ok 1 Tryz.func206 rfl rfl (by omega) ?_
  conv => whnf
  refine .inr (.inl ?_)
  conv => whnf
  refine ⟨curC_ne c, ?_⟩
  conv => whnf
  refine ⟨_, _, _, l1Below_spec c 3 h (by omega), ?_⟩
  conv => whnf
  refine .inl ?_
  conv => whnf
  have hb := belowP_bd c (n := 3) (by omega) (by omega)
  unfold schP
  have hc := belowP_good h 3
  generalize (belowP c 3).2 = c0 at hc ⊢
  obtain ⟨n0, hn0⟩ : ∃ n : Nat, (belowP c 3).1 = n := ⟨(belowP c 3).1.toNat, by omega⟩
  rw [hn0] at hb ⊢
  rw [Int.toNat_natCast]
  refine ⟨[(0,0),(2,0),(3,0),(4,0)], fun m st => ∃ (n : Nat) (e : Int) (a : List Int) (c1 : Cur) (k : Nat) (cc r : List V), e = n ∧ m = n ∧ n ≤ 2 ∧ goodC c1 ∧ schGo n0 [2] c0 = schGo n a c1 ∧ k = a.length ∧ a.length + n ≤ 3 ∧ cc = curC c1 ∧ r = rows ciL a ∧
    st = ⟨24, [(0, .ptr 0 0), (2, .ptr 1 0), (3, .ptr 2 0), (4, ci e)], [some ⟨false, cc⟩, some ⟨true, [cnil]⟩, some ⟨true, [.own 3 1 0 k k none]⟩, some ⟨false, r⟩]⟩, n0, ⟨n0, n0, [2], c0, 1, _, _, rfl, rfl, by omega, hc, rfl, rfl, by simp; omega, rfl, rfl, by kernel_rfl⟩, ?_⟩
  rintro m st ⟨n, _, a, c1, k, _, _, rfl, hm, hn2, hc1, hgo, hk, hal, rfl, rfl, rfl⟩
  conv => whnf
  split <;> rename_i h1
  all_goals simp only [decide_eq_true_eq, decide_eq_false_iff_not] at h1
  · obtain ⟨n', rfl⟩ : ∃ n', n = n' + 1 := ⟨n - 1, by omega⟩
    conv => whnf
    refine .inr (.inl ?_)
    conv => whnf
    refine ⟨curC_ne c1, ?_⟩
    conv => whnf
    refine ⟨_, _, _, l1Below_spec c1 3 hc1 (by omega), ?_⟩
    conv => whnf
    refine .inl ?_
    conv => whnf
    refine ⟨_, rfl, .inl ⟨flat1 rfl, ?_⟩⟩
    conv => whnf
    refine ⟨by omega, by rw [rows_len ciL_len, hk], _, snoc_ci _ _, ?_⟩
    conv => whnf
    refine ⟨m - 1, by omega, n', _, a ++ [IntKind.i64.wrap (1 + (belowP c1 3).1)], (belowP c1 3).2, k + 1, _, _, wrap_pred n', by omega, by omega, belowP_good hc1 3, hgo, by simp [hk], by simp; omega, rfl, rfl, by kernel_rfl⟩
  · have h0 : n = 0 := by omega
    subst h0
    conv => whnf
    simp only [schGo] at hgo
    rw [hgo]
    refine ⟨by rw [rows_len ciL_len, hk], ?_⟩
    conv => whnf
    refine ⟨?_, curC_ne c1, rfl⟩
    rw [hk]; rfl
def sOk (s : List Int) : Prop := (∀ x ∈ s, 1 ≤ x ∧ x ≤ 3) ∧ 1 ≤ s.length ∧ s.length ≤ 4
theorem sOk_at {s : List Int} (h : sOk s) {k : Nat} (hk : k < s.length) : 1 ≤ s[k] ∧ s[k] ≤ 3 := h.1 _ (List.getElem_mem hk)
theorem below_idx {s : List Int} (h : sOk s) (c : Cur) : ∃ k : Nat, (belowP c s.length).1 = k ∧ k < s.length := by
  have h1 := h.2.1
  have h2 := h.2.2
  have hb := belowP_bd c (n := s.length) (by omega) (by omega)
  exact ⟨(belowP c s.length).1.toNat, by omega, by omega⟩
end Go.Proofs.YtcjdfeafcmfgpaaGreatD
set_option linter.unusedVariables false
set_option linter.unusedSimpArgs false
set_option maxRecDepth 100000
namespace Go.Proofs.YtcjdfeafcmfgpaaGreatD
open Go Go.Proofs
theorem l1Once_spec (c : Cur) (n : Int) (h : goodC c) (hn : n ≤ 256) : SpecR Tryz.prog 176 [vCur c, ci n] (cb ((belowP c n).1 == 0)) [vCur (belowP c n).2, ci n] := by
  refine SpecL_of mx Γ_ok 2 Tryz.func176 rfl rfl (by omega) ?_
  conv => whnf
  refine .inr (.inl ?_)
  conv => whnf
  refine ⟨curC_ne c, ?_⟩
  conv => whnf
  refine ⟨_, _, _, l1Below_spec c n h hn, ?_⟩
  conv => whnf
  refine .inl ?_
  conv => whnf
  exact ⟨rfl, curC_ne _, rfl⟩
theorem l1PickInt_spec (c : Cur) (xs : List Int) (h : goodC c) (h1 : 1 ≤ xs.length) (h2 : xs.length ≤ 200) : SpecR Tryz.prog 167 [vCur c, intsT xs] (ci (xs.getD (belowP c xs.length).1.toNat 0)) [vCur (belowP c xs.length).2, intsT xs] := by
  refine SpecL_of mx Γ_ok 2 Tryz.func167 rfl rfl (by omega) ?_
  conv => whnf
  refine .inr (.inl ?_)
  conv => whnf
  refine ⟨curC_ne c, ?_⟩
  conv => whnf
  refine ⟨_, _, _, l1Below_spec c xs.length h (by omega), ?_⟩
  conv => whnf
  refine .inl ?_
  conv => whnf
  have hb := belowP_bd c (n := xs.length) (by omega) (by omega)
  generalize (belowP c xs.length).2 = c1
  obtain ⟨k, hk⟩ : ∃ k : Nat, (belowP c xs.length).1 = k := ⟨(belowP c xs.length).1.toNat, by omega⟩
  rw [hk] at hb ⊢
  have hkl : k < xs.length := by omega
  rw [Int.toNat_natCast, getD_at hkl]
  refine ⟨by omega, ?_⟩
  conv => whnf
  refine ⟨_, takeN_own (k := k) (d := 0) (m := 1) (xs := xs) ciL_len (Nat.zero_add _) hkl (by omega) rfl, ?_⟩
  conv => whnf
  refine ⟨rfl, curC_ne _, by rw [rows_len ciL_len], rfl⟩
theorem ints_roV (s : List Int) : roV (vSchema s) = vSchema s := by
  show V.agg [.ro _ (roVs _)] = _
  rw [roVs_ci]; rfl
end Go.Proofs.YtcjdfeafcmfgpaaGreatD
