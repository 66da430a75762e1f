/- Contracts and plain laws of this seat; no condition. -/
import Derived.Test.YtboolngaahifdaaGreatQ11
set_option linter.unusedVariables false
set_option linter.unusedSimpArgs false
set_option maxRecDepth 100000
namespace Go.Proofs.YtboolngaahifdaaGreatD
open Go Go.Proofs
abbrev FactC := Int × List Int
def cmp1 (x y : Int) : Int := if x < y then -1 else if y < x then 1 else 0
def ltI : List Int → List Int → Bool
 | _, [] => false
 | [], _ :: _ => true
 | x :: xs, y :: ys => if x = y then ltI xs ys else decide (x < y)
def cmpI : List Int → List Int → Int
 | [], [] => 0
 | [], _ :: _ => -1
 | _ :: _, [] => 1
 | x :: xs, y :: ys => if x < y then -1 else if y < x then 1 else cmpI xs ys
def ltF (a b : FactC) : Bool := if a.1 = b.1 then ltI a.2 b.2 else decide (a.1 < b.1)
def cmpF (a b : FactC) : Int := if a.1 < b.1 then -1 else if b.1 < a.1 then 1 else cmpI a.2 b.2
def eqF (a b : FactC) : Bool := decide (a = b)
theorem eqF_eq (a b : FactC) : eqF a b = (decide (a.1 = b.1) && decide (a.2 = b.2)) := by
 unfold eqF
 rw [← Bool.decide_and, decide_eq_decide]
 exact Prod.ext_iff
theorem l2Less_spec (xs ys : List Int) (hl : xs.length ≤ 1099511627776) (hl' : ys.length ≤ 1099511627776) : Spec Tryz.prog 157 [ints xs, ints ys] (cb (ltI xs ys)) := by
 refine Spec_of mx Γ_ok Tryz.func157 rfl ?_
 conv => whnf
 refine ⟨[(0,0),(1,0),(4,0),(5,0)], fun m s => ∃ (k : Nat) (e : Int), e = k ∧ m + k = xs.length ∧ k ≤ ys.length ∧ ltI xs ys = ltI (xs.drop k) (ys.drop k) ∧
  s = ⟨41, [(0, ints xs), (1, ints ys), (4, cb false), (5, ci e)], []⟩, xs.length, ⟨0, 0, rfl, rfl, Nat.zero_le _, rfl, rfl⟩, ?_⟩
 rintro m s ⟨k, _, rfl, hm, hky, hj, rfl⟩
 conv => whnf
 generalize hc1 : decide ((k : Int) < (xs.length : Int)) = c1
 cases c1 with
 | false =>
  have hk : k = xs.length := by have := of_decide_eq_false hc1; omega
  conv => whnf
  rw [hj, drop_end (by omega)]
  have hlt : ∀ l : List Int, ltI [] l = decide (0 < l.length) := fun l => by cases l <;> rfl
  rw [hlt, List.length_drop]
  show cb _ = cb _
  congr 1
  rw [decide_eq_decide]
  omega
 | true =>
  have hk : k < xs.length := by have := of_decide_eq_true hc1; omega
  conv => whnf
  generalize hc2 : decide ((k : Int) < (ys.length : Int)) = c2
  cases c2 with
  | false =>
   have hk2 : k = ys.length := by have := of_decide_eq_false hc2; omega
   conv => whnf
   rw [hj, drop_end (xs := ys) (by omega)]
   have hlt : ∀ l : List Int, ltI l [] = false := fun l => by cases l <;> rfl
   rw [hlt]
   show cb _ = cb _
   rw [decide_eq_false (by omega)]
  | true =>
   have hk2 : k < ys.length := by have := of_decide_eq_true hc2; omega
   conv => whnf
   refine ⟨List.range 9, by kernel_rfl, ?_⟩
   conv => whnf
   refine ⟨by omega, rows_len ciL_len xs, ?_⟩
   conv => whnf
   refine ⟨_, takeN_rp (k := k) ciL_len hk, ?_⟩
   conv => whnf
   refine ⟨by omega, rows_len ciL_len ys, ?_⟩
   conv => whnf
   refine ⟨_, takeN_rp (k := k) ciL_len hk2, ?_⟩
   rw [List.drop_eq_getElem_cons hk, List.drop_eq_getElem_cons hk2, ltI] at hj
   conv => whnf
   split <;> rename_i h2
   ·have h3 : ¬ xs[k] = ys[k] := by simpa using h2
    rw [if_neg h3] at hj
    conv => whnf
    refine ⟨List.range 10, by kernel_rfl, ?_⟩
    conv => whnf
    refine ⟨by omega, rows_len ciL_len xs, ?_⟩
    conv => whnf
    refine ⟨_, takeN_rp (k := k) ciL_len hk, ?_⟩
    conv => whnf
    refine ⟨by omega, rows_len ciL_len ys, ?_⟩
    conv => whnf
    refine ⟨_, takeN_rp (k := k) ciL_len hk2, ?_⟩
    conv => whnf
    rw [hj]
    rfl
   ·have h3 : xs[k] = ys[k] := by simpa using h2
    rw [if_pos h3] at hj
    conv => whnf
    exact ⟨m - 1, by omega, k + 1, _, wrap_id (by omega) (by omega), by omega, by omega, hj, rfl⟩
theorem l5Less_spec (a b : FactC) (ha : a.2.length ≤ 1099511627776) (hb : b.2.length ≤ 1099511627776) : Spec Tryz.prog 94 [vFact a, vFact b] (cb (ltF a b)) := by
 refine Spec_of mx Γ_ok Tryz.func94 rfl ?_
 conv => whnf
 unfold ltF
 split <;> rename_i h2
 ·have h3 : ¬ a.1 = b.1 := by simpa using h2
  conv => whnf
  rw [if_neg h3]
  rfl
 ·have h3 : a.1 = b.1 := by simpa using h2
  conv => whnf
  refine ⟨_, l2Less_spec a.2 b.2 ha hb, .inl rfl, .inl ?_⟩
  conv => whnf
  rw [if_pos h3]
  rfl
theorem l5Same_spec (a b : FactC) (ha : a.2.length ≤ 1099511627776) (hb : b.2.length ≤ 1099511627776) : Spec Tryz.prog 135 [vFact a, vFact b] (cb (eqF a b)) := by
 rw [eqF_eq]
 refine Spec_of mx Γ_ok Tryz.func135 rfl ?_
 conv => whnf
 generalize hc : (a.1 == b.1) = c
 have hc' : decide (a.1 = b.1) = c := by rw [← hc]; rfl
 rw [hc']
 cases c with
 | false =>
  conv => whnf
  rfl
 | true =>
  conv => whnf
  refine ⟨_, l2Ints_spec a.2 b.2 ha hb, .inl rfl, .inl ?_⟩
  conv => whnf
  rfl
theorem equalFact_spec (a b : FactC) (ha : a.2.length ≤ 1099511627776) (hb : b.2.length ≤ 1099511627776) : Spec Tryz.prog 174 [vFact a, vFact b] (cb (eqF a b)) := by
 rw [eqF_eq]
 refine Spec_of mx Γ_ok Tryz.func174 rfl ?_
 conv => whnf
 generalize hc : (a.1 == b.1) = c
 have hc' : decide (a.1 = b.1) = c := by rw [← hc]; rfl
 rw [hc']
 cases c with
 | false =>
  conv => whnf
  rfl
 | true =>
  conv => whnf
  refine ⟨_, slicesEq_spec a.2 b.2 ha hb, .inl rfl, .inl ?_⟩
  conv => whnf
  rfl
theorem isNaN_spec (x : Int) : Spec Tryz.prog 210 [ci x] (cb false) := by
 refine Spec_of mx Γ_ok Tryz.func210 rfl ?_
 conv => whnf
 show cb (x != x) = cb false
 rw [bne_self_eq_false]
theorem cmpCompare_spec (x y : Int) : Spec Tryz.prog 151 [ci x, ci y] (ci (cmp1 x y)) := by
 refine Spec_of mx Γ_ok Tryz.func151 rfl ?_
 conv => whnf
 refine ⟨_, isNaN_spec x, .inl rfl, .inl ?_⟩
 conv => whnf
 refine ⟨_, isNaN_spec y, .inl rfl, .inl ?_⟩
 conv => whnf
 unfold cmp1
 split <;> rename_i h1
 ·have h1 : x < y := of_decide_eq_true h1
  conv => whnf
  rw [if_pos h1]
  rfl
 ·have h1 : ¬ x < y := of_decide_eq_false h1
  conv => whnf
  rw [if_neg h1]
  split <;> rename_i h2
  ·have h2 : y < x := of_decide_eq_true h2
   conv => whnf
   rw [if_pos h2]
   rfl
  ·have h2 : ¬ y < x := of_decide_eq_false h2
   conv => whnf
   rw [if_neg h2]
   rfl
theorem slicesCompare_spec (xs ys : List Int) (hl : xs.length ≤ 1099511627776) (hl' : ys.length ≤ 1099511627776) : Spec Tryz.prog 70 [ints xs, ints ys] (ci (cmpI xs ys)) := by
 refine Spec_of mx Γ_ok Tryz.func70 rfl ?_
 conv => whnf
 refine ⟨[(0,0),(1,0),(4,0),(9,0),(10,0),(11,0)], fun m s => ∃ (k : Nat) (e : Int), e = k ∧ m + k = xs.length ∧ k ≤ ys.length ∧ cmpI xs ys = cmpI (xs.drop k) (ys.drop k) ∧
  s = ⟨36, [(0, ints xs), (1, ints ys), (4, ci 0), (9, ints xs), (10, ci xs.length), (11, ci e)], []⟩, xs.length, ⟨0, 0, rfl, rfl, Nat.zero_le _, rfl, rfl⟩, ?_⟩
 rintro m s ⟨k, _, rfl, hm, hky, hj, rfl⟩
 conv => whnf
 split <;> rename_i h1
 all_goals simp only [decide_eq_true_eq, decide_eq_false_iff_not] at h1
 ·conv => whnf
  have hk : k < xs.length := by omega
  refine ⟨by omega, rows_len ciL_len xs, ?_⟩
  conv => whnf
  refine ⟨_, takeN_rp (k := k) ciL_len hk, ?_⟩
  conv => whnf
  rw [List.drop_eq_getElem_cons hk] at hj
  split <;> rename_i h2
  all_goals simp only [decide_eq_true_eq, decide_eq_false_iff_not] at h2
  ·conv => whnf
   rw [hj, drop_end (xs := ys) (by omega)]
   rfl
  ·conv => whnf
   have hk2 : k < ys.length := by omega
   refine ⟨by omega, rows_len ciL_len ys, ?_⟩
   conv => whnf
   refine ⟨_, takeN_rp (k := k) ciL_len hk2, ?_⟩
   conv => whnf
   refine ⟨_, cmpCompare_spec xs[k] ys[k], .inl rfl, .inl ?_⟩
   conv => whnf
   rw [List.drop_eq_getElem_cons hk2, cmpI] at hj
   generalize hc : cmp1 xs[k] ys[k] = c
   unfold cmp1 at hc
   split <;> rename_i h3
   ·have h4 : ¬ c = 0 := by simpa using h3
    conv => whnf
    rw [hj]
    split at hc
    ·rename_i h5; rw [if_pos h5, ← hc]; rfl
    ·rename_i h5
     rw [if_neg h5]
     split at hc
     ·rename_i h6; rw [if_pos h6, ← hc]; rfl
     ·exact absurd hc.symm h4
   ·have h4 : c = 0 := by simpa using h3
    conv => whnf
    refine ⟨m - 1, by omega, k + 1, _, wrap_id (by omega) (by omega), by omega, by omega, ?_, rfl⟩
    rw [hj]
    split at hc
    ·omega
    ·rename_i h5
     rw [if_neg h5]
     split at hc
     ·omega
     ·rename_i h6; rw [if_neg h6]
 ·conv => whnf
  rw [hj, drop_end (xs := xs) (by omega)]
  split <;> rename_i h2
  all_goals simp only [decide_eq_true_eq, decide_eq_false_iff_not] at h2
  ·conv => whnf
   have hk2 : k < ys.length := by omega
   rw [List.drop_eq_getElem_cons hk2]
   rfl
  ·conv => whnf
   rw [drop_end (xs := ys) (by omega)]
   rfl
theorem compareFacts_spec (a b : FactC) (ha : a.2.length ≤ 1099511627776) (hb : b.2.length ≤ 1099511627776) : Spec Tryz.prog 147 [vFact a, vFact b] (ci (cmpF a b)) := by
 refine Spec_of mx Γ_ok Tryz.func147 rfl ?_
 conv => whnf
 unfold cmpF
 split <;> rename_i h1
 ·have h1 : a.1 < b.1 := of_decide_eq_true h1
  conv => whnf
  rw [if_pos h1]
  rfl
 ·have h1 : ¬ a.1 < b.1 := of_decide_eq_false h1
  conv => whnf
  rw [if_neg h1]
  split <;> rename_i h2
  ·have h2 : b.1 < a.1 := of_decide_eq_true h2
   conv => whnf
   rw [if_pos h2]
   rfl
  ·have h2 : ¬ b.1 < a.1 := of_decide_eq_false h2
   conv => whnf
   rw [if_neg h2]
   refine ⟨_, slicesCompare_spec a.2 b.2 ha hb, .inl rfl, .inl ?_⟩
   conv => whnf
   rfl
def fz (x : Int) : Int := if x < 0 then -1 - x else 80 + x
theorem implConstOf_spec (x : Int) : Spec Tryz.prog 178 [ci x] (ci (constOf x)) := by
 refine Spec_of mx Γ_ok Tryz.func178 rfl ?_
 conv => whnf
 refine ⟨_, implIsTerm_spec x, .inl rfl, .inl ?_⟩
 conv => whnf
 generalize ht : isTerm x = b1
 cases b1 with
 | false =>
  conv => whnf
  have hr : ¬ (-80 ≤ x ∧ x ≤ 19) := by
   intro hh
   have : isTerm x = true := by simp [isTerm, inR, hh]
   rw [this] at ht; cases ht
  unfold constOf
  rw [if_neg]
  ·rfl
  ·simp [inR]; omega
 | true =>
  have hr : -80 ≤ x ∧ x ≤ 19 := by simpa [isTerm, inR] using ht
  conv => whnf
  refine ⟨_, implIsVar_spec x, .inl rfl, .inl ?_⟩
  conv => whnf
  generalize hv : isVar x = b2
  cases b2 with
  | true =>
   have hv : 0 ≤ x ∧ x ≤ 19 := by simpa [isVar, inR] using hv
   conv => whnf
   unfold constOf
   rw [if_neg]
   ·rfl
   ·simp [inR]; omega
  | false =>
   have hv : ¬ (0 ≤ x ∧ x ≤ 19) := by
    intro hh
    have : isVar x = true := by simp [isVar, inR, hh]
    rw [this] at hv; cases hv
   conv => whnf
   unfold constOf
   rw [if_pos]
   ·show ci (IntKind.i64.wrap (-1 - x)) = ci (-1 - x)
    rw [wrap_id (by omega) (by omega)]
   ·simp [inR]; omega
theorem fz_all_at {xs : List Int} {p : Int → Bool} (h : xs.all p = true) {k : Nat} (hk : k < xs.length) : p xs[k] = true := List.all_eq_true.1 h _ (List.getElem_mem hk)
def putGo (f : FactC) : Bool → List FactC → List FactC
 | p, [] => if p then [] else [f]
 | p, x :: r => if !p && !ltF x f then (if eqF x f then [] else [f]) ++ x :: putGo f true r else x :: putGo f p r
def putF (db : List FactC) (f : FactC) : List FactC := putGo f false db
theorem l5Copy_spec (f : FactC) (h : f.2.length ≤ 1099511627776) : Spec Tryz.prog 169 [vFact f] (wFact f) := by
 refine Spec_of mx Γ_ok Tryz.func169 rfl ?_
 conv => whnf
 refine ⟨[0, 1, 3, 4, 2, 5, 6, 7], by kernel_rfl, ?_⟩
 conv => whnf
 refine ⟨rows_len ciL_len _, solid_ci _, ?_⟩
 conv => whnf
 refine ⟨by omega, rfl, _, app_ci [] f.2, ?_⟩
 conv => whnf
 refine ⟨by rw [rows_len ciL_len, List.nil_append, Nat.zero_add]; rfl, ?_⟩
 rw [List.nil_append, Nat.zero_add]
 rfl
theorem solid_tFact (a : FactC) : ∀ c ∈ tFact a, solid c = true := by
 intro c hc
 simp only [tFact, List.mem_cons, List.not_mem_nil, or_false] at hc
 rcases hc with rfl | rfl <;> rfl
theorem putGo_true (f : FactC) (l : List FactC) : putGo f true l = l := by
 induction l with
 | nil => rfl
 | cons x r ih => simp [putGo, ih]
theorem putGo_length (f : FactC) : ∀ (l : List FactC) (p : Bool), (putGo f p l).length ≤ l.length + 1
 | [], p => by cases p <;> simp [putGo]
 | x :: r, p => by
  have := putGo_length f r p
  simp only [putGo]
  split
  ·rw [putGo_true]; split <;> simp
  ·simp only [List.length_cons]; omega
set_option maxHeartbeats 4000000 in
theorem l5Put_spec (db : List FactC) (f : FactC) (h : cFactS db ≤ 1048576) (hf : f.2.length ≤ 1048576) : Spec Tryz.prog 122 [vFactS db, vFact f] (wFactS (putF db f)) := by
 unfold cFactS at h
 refine Spec_of mx Γ_ok Tryz.func122 rfl ?_
 conv => whnf
 refine ⟨[(0,0),(3,0),(4,0),(5,0),(6,0),(7,0)], fun m s => ∃ (k : Nat) (e : Int) (p : Bool) (o : List FactC) (n : Nat) (r : List V), e = k ∧ m + k = db.length ∧ putF db f = o ++ putGo f p (db.drop k) ∧ n = o.length ∧ n ≤ k + p.toNat ∧ r = rows tFact o ∧
  s = ⟨54, [(0, vFactS db), (3, .ptr 0 0), (4, cnil), (5, .own 1 2 0 n n none), (6, cb p), (7, ci e)], [some ⟨true, rFact f⟩, some ⟨false, r⟩]⟩, db.length, ⟨0, 0, false, [], 0, _, rfl, rfl, rfl, rfl, Nat.zero_le _, rfl, rfl⟩, ?_⟩
 rintro m s ⟨k, _, p, o, n, _, rfl, hm, hj, hn, hnk, rfl, rfl⟩
 conv => whnf
 split <;> rename_i h1
 all_goals simp only [decide_eq_true_eq, decide_eq_false_iff_not] at h1
 ·conv => whnf
  have hk : k < db.length := by omega
  have hb := sumB_one (f := cFact) hk
  have hcb : cFact db[k] = db[k].2.length := rfl
  rw [List.drop_eq_getElem_cons hk, putGo] at hj
  cases p with
  | true =>
   conv => whnf
   simp only [Bool.toNat_true] at hnk
   refine ⟨List.range 11, by kernel_rfl, ?_⟩
   conv => whnf
   simp only [Bool.not_true, Bool.false_and, Bool.false_eq_true, if_false] at hj
   refine ⟨by omega, rows_len rFact_len db, ?_⟩
   conv => whnf
   refine ⟨_, takeN_rp (k := k) rFact_len hk, ?_⟩
   conv => whnf
   refine ⟨_, l5Copy_spec db[k] (by omega), .inl rfl, .inr ?_⟩
   conv => whnf
   refine ⟨by rw [rows_len ciL_len], ?_⟩
   conv => whnf
   refine ⟨_, rfl, .inr ⟨solid_tFact db[k], ?_⟩⟩
   conv => whnf
   refine ⟨by omega, by rw [rows_len tFact_len]; rw [hn], _, snoc_rows tFact _ db[k], ?_⟩
   conv => whnf
   refine ⟨m - 1, by omega, k + 1, _, true, _, _, _, wrap_id (by omega) (by omega), by omega, ?_, ?_, ?_, rfl, rfl⟩
   ·rw [hj]; simp
   ·simp [hn]
   ·simp only [Bool.toNat_true]; omega
  | false =>
   conv => whnf
   simp only [Bool.toNat_false] at hnk
   refine ⟨List.range 11, by kernel_rfl, ?_⟩
   conv => whnf
   refine ⟨by omega, rows_len rFact_len db, ?_⟩
   conv => whnf
   refine ⟨_, takeN_rp (k := k) rFact_len hk, ?_⟩
   conv => whnf
   refine ⟨_, l5Less_spec db[k] f (by omega) (by omega), .inl rfl, .inl ?_⟩
   conv => whnf
   simp only [Bool.not_false, Bool.true_and] at hj
   generalize ltF db[k] f = b1 at hj
   cases b1 with
   | true =>
    conv => whnf
    simp only [Bool.not_true, Bool.false_eq_true, if_false] at hj
    refine ⟨by omega, rows_len rFact_len db, ?_⟩
    conv => whnf
    refine ⟨_, takeN_rp (k := k) rFact_len hk, ?_⟩
    conv => whnf
    refine ⟨_, l5Copy_spec db[k] (by omega), .inl rfl, .inr ?_⟩
    conv => whnf
    refine ⟨by rw [rows_len ciL_len], ?_⟩
    conv => whnf
    refine ⟨_, rfl, .inr ⟨solid_tFact db[k], ?_⟩⟩
    conv => whnf
    refine ⟨by omega, by rw [rows_len tFact_len]; rw [hn], _, snoc_rows tFact _ db[k], ?_⟩
    conv => whnf
    refine ⟨m - 1, by omega, k + 1, _, false, _, _, _, wrap_id (by omega) (by omega), by omega, ?_, ?_, ?_, rfl, rfl⟩
    ·rw [hj]; simp
    ·simp [hn]
    ·simp only [Bool.toNat_false]; omega
   | false =>
    conv => whnf
    simp only [Bool.not_false, if_true] at hj
    refine ⟨List.range 7, by kernel_rfl, ?_⟩
    conv => whnf
    refine ⟨by omega, rows_len rFact_len db, ?_⟩
    conv => whnf
    refine ⟨_, takeN_rp (k := k) rFact_len hk, ?_⟩
    conv => whnf
    refine ⟨_, l5Same_spec db[k] f (by omega) (by omega), .inl rfl, .inl ?_⟩
    conv => whnf
    generalize eqF db[k] f = b2 at hj
    cases b2 with
    | true =>
     conv => whnf
     simp only [if_true, List.nil_append] at hj
     refine ⟨by omega, rows_len rFact_len db, ?_⟩
     conv => whnf
     refine ⟨_, takeN_rp (k := k) rFact_len hk, ?_⟩
     conv => whnf
     refine ⟨_, l5Copy_spec db[k] (by omega), .inl rfl, .inr ?_⟩
     conv => whnf
     refine ⟨by rw [rows_len ciL_len], ?_⟩
     conv => whnf
     refine ⟨_, rfl, .inr ⟨solid_tFact db[k], ?_⟩⟩
     conv => whnf
     refine ⟨by omega, by rw [rows_len tFact_len]; rw [hn], _, snoc_rows tFact _ db[k], ?_⟩
     conv => whnf
     refine ⟨m - 1, by omega, k + 1, _, true, _, _, _, wrap_id (by omega) (by omega), by omega, ?_, ?_, ?_, rfl, rfl⟩
     ·rw [hj]; simp
     ·simp [hn]
     ·simp only [Bool.toNat_true]; omega
    | false =>
     conv => whnf
     simp only [Bool.false_eq_true, if_false, List.singleton_append] at hj
     refine ⟨_, l5Copy_spec f (by omega), .inl rfl, .inr ?_⟩
     conv => whnf
     refine ⟨by rw [rows_len ciL_len], ?_⟩
     conv => whnf
     refine ⟨_, rfl, .inr ⟨solid_tFact f, ?_⟩⟩
     conv => whnf
     refine ⟨by omega, by rw [rows_len tFact_len]; rw [hn], _, snoc_rows tFact _ f, ?_⟩
     conv => whnf
     refine ⟨by omega, rows_len rFact_len db, ?_⟩
     conv => whnf
     refine ⟨_, takeN_rp (k := k) rFact_len hk, ?_⟩
     conv => whnf
     refine ⟨_, l5Copy_spec db[k] (by omega), .inl rfl, .inr ?_⟩
     conv => whnf
     refine ⟨by rw [rows_len ciL_len], ?_⟩
     conv => whnf
     refine ⟨_, rfl, .inr ⟨solid_tFact db[k], ?_⟩⟩
     conv => whnf
     refine ⟨by omega, by rw [rows_len tFact_len, List.length_append]; rw [hn]; rfl, _, snoc_rows tFact _ db[k], ?_⟩
     conv => whnf
     refine ⟨m - 1, by omega, k + 1, _, true, _, _, _, wrap_id (by omega) (by omega), by omega, ?_, ?_, ?_, rfl, rfl⟩
     ·rw [hj]; simp
     ·simp [hn]
     ·simp only [Bool.toNat_true]; omega
 ·conv => whnf
  rw [drop_end (by omega)] at hj
  cases p with
  | true =>
   conv => whnf
   simp only [putGo, if_true, List.append_nil] at hj
   rw [hj]
   refine ⟨by rw [rows_len tFact_len, hn], ?_⟩
   subst hn
   rfl
  | false =>
   conv => whnf
   simp only [putGo, Bool.false_eq_true, if_false] at hj
   simp only [Bool.toNat_false] at hnk
   refine ⟨_, l5Copy_spec f (by omega), .inl rfl, .inr ?_⟩
   conv => whnf
   refine ⟨by rw [rows_len ciL_len], ?_⟩
   conv => whnf
   refine ⟨_, rfl, .inr ⟨solid_tFact f, ?_⟩⟩
   conv => whnf
   refine ⟨by omega, by rw [rows_len tFact_len]; rw [hn], _, snoc_rows tFact _ f, ?_⟩
   conv => whnf
   rw [hj]
   subst hn
   refine ⟨by rw [rows_len tFact_len, List.length_append]; rfl, ?_⟩
   show V.tr 2 (o.length + 1) _ = wFactS _
   rw [wFactS, List.length_append]
   rfl
end Go.Proofs.YtboolngaahifdaaGreatD
