/- Contracts and plain laws of this seat; no condition. -/
import Derived.Test.YtcjdfeafcmfgpaaGreatQ11
import Derived.Test.YtcjdfeafcmfgpaaGreatQ9
set_option linter.unusedVariables false
set_option linter.unusedSimpArgs false
set_option maxRecDepth 100000
namespace Go.Proofs.YtcjdfeafcmfgpaaGreatD
open Go Go.Proofs
abbrev FactC := Int × List Int
def cmp1 (x y : Int) : Int := if x < y then -1 else if y < x then 1 else 0
def ltI : List Int → List Int → Bool
 | _, [] => false
 | [], _ :: _ => true
 | x :: xs, y :: ys => if x = y then ltI xs ys else decide (x < y)
def cmpI : List Int → List Int → Int
 | [], [] => 0
 | [], _ :: _ => -1
 | _ :: _, [] => 1
 | x :: xs, y :: ys => if x < y then -1 else if y < x then 1 else cmpI xs ys
def ltF (a b : FactC) : Bool := if a.1 = b.1 then ltI a.2 b.2 else decide (a.1 < b.1)
def cmpF (a b : FactC) : Int := if a.1 < b.1 then -1 else if b.1 < a.1 then 1 else cmpI a.2 b.2
def eqF (a b : FactC) : Bool := decide (a = b)
theorem eqF_eq (a b : FactC) : eqF a b = (decide (a.1 = b.1) && decide (a.2 = b.2)) := by
 unfold eqF
 rw [← Bool.decide_and, decide_eq_decide]
 exact Prod.ext_iff
theorem l2Less_spec (xs ys : List Int) (hl : xs.length ≤ 1099511627776) (hl' : ys.length ≤ 1099511627776) : Spec Tryz.prog 213 [ints xs, ints ys] (cb (ltI xs ys)) := by
 refine Spec_of mx Γ_ok Tryz.func213 rfl ?_
 conv => whnf
 refine ⟨[(0,0),(1,0),(4,0),(5,0)], fun m s => ∃ (k : Nat) (e : Int), e = k ∧ m + k = xs.length ∧ k ≤ ys.length ∧ ltI xs ys = ltI (xs.drop k) (ys.drop k) ∧
  s = ⟨41, [(0, ints xs), (1, ints ys), (4, cb false), (5, ci e)], []⟩, xs.length, ⟨0, 0, rfl, rfl, Nat.zero_le _, rfl, rfl⟩, ?_⟩
 rintro m s ⟨k, _, rfl, hm, hky, hj, rfl⟩
 conv => whnf
 generalize hc1 : decide ((k : Int) < (xs.length : Int)) = c1
 cases c1 with
 | false =>
  have hk : k = xs.length := by have := of_decide_eq_false hc1; omega
  conv => whnf
  rw [hj, drop_end (by omega)]
  have hlt : ∀ l : List Int, ltI [] l = decide (0 < l.length) := fun l => by cases l <;> rfl
  rw [hlt, List.length_drop]
  show cb _ = cb _
  congr 1
  rw [decide_eq_decide]
  omega
 | true =>
  have hk : k < xs.length := by have := of_decide_eq_true hc1; omega
  conv => whnf
  generalize hc2 : decide ((k : Int) < (ys.length : Int)) = c2
  cases c2 with
  | false =>
   have hk2 : k = ys.length := by have := of_decide_eq_false hc2; omega
   conv => whnf
   rw [hj, drop_end (xs := ys) (by omega)]
   have hlt : ∀ l : List Int, ltI l [] = false := fun l => by cases l <;> rfl
   rw [hlt]
   show cb _ = cb _
   rw [decide_eq_false (by omega)]
  | true =>
   have hk2 : k < ys.length := by have := of_decide_eq_true hc2; omega
   conv => whnf
   refine ⟨List.range 9, by kernel_rfl, ?_⟩
   conv => whnf
   refine ⟨by omega, rows_len ciL_len xs, ?_⟩
   conv => whnf
   refine ⟨_, takeN_rp (k := k) ciL_len hk, ?_⟩
   conv => whnf
   refine ⟨by omega, rows_len ciL_len ys, ?_⟩
   conv => whnf
   refine ⟨_, takeN_rp (k := k) ciL_len hk2, ?_⟩
   rw [List.drop_eq_getElem_cons hk, List.drop_eq_getElem_cons hk2, ltI] at hj
   conv => whnf
   split <;> rename_i h2
   ·have h3 : ¬ xs[k] = ys[k] := by simpa using h2
    rw [if_neg h3] at hj
    conv => whnf
    refine ⟨List.range 10, by kernel_rfl, ?_⟩
    conv => whnf
    refine ⟨by omega, rows_len ciL_len xs, ?_⟩
    conv => whnf
    refine ⟨_, takeN_rp (k := k) ciL_len hk, ?_⟩
    conv => whnf
    refine ⟨by omega, rows_len ciL_len ys, ?_⟩
    conv => whnf
    refine ⟨_, takeN_rp (k := k) ciL_len hk2, ?_⟩
    conv => whnf
    rw [hj]
    rfl
   ·have h3 : xs[k] = ys[k] := by simpa using h2
    rw [if_pos h3] at hj
    conv => whnf
    exact ⟨m - 1, by omega, k + 1, _, wrap_id (by omega) (by omega), by omega, by omega, hj, rfl⟩
theorem l5Less_spec (a b : FactC) (ha : a.2.length ≤ 1099511627776) (hb : b.2.length ≤ 1099511627776) : Spec Tryz.prog 155 [vFact a, vFact b] (cb (ltF a b)) := by
 refine Spec_of mx Γ_ok Tryz.func155 rfl ?_
 conv => whnf
 unfold ltF
 split <;> rename_i h2
 ·have h3 : ¬ a.1 = b.1 := by simpa using h2
  conv => whnf
  rw [if_neg h3]
  rfl
 ·have h3 : a.1 = b.1 := by simpa using h2
  conv => whnf
  refine ⟨_, l2Less_spec a.2 b.2 ha hb, .inl rfl, .inl ?_⟩
  conv => whnf
  rw [if_pos h3]
  rfl
theorem l5Same_spec (a b : FactC) (ha : a.2.length ≤ 1099511627776) (hb : b.2.length ≤ 1099511627776) : Spec Tryz.prog 153 [vFact a, vFact b] (cb (eqF a b)) := by
 rw [eqF_eq]
 refine Spec_of mx Γ_ok Tryz.func153 rfl ?_
 conv => whnf
 generalize hc : (a.1 == b.1) = c
 have hc' : decide (a.1 = b.1) = c := by rw [← hc]; rfl
 rw [hc']
 cases c with
 | false =>
  conv => whnf
  rfl
 | true =>
  conv => whnf
  refine ⟨_, l2Ints_spec a.2 b.2 ha hb, .inl rfl, .inl ?_⟩
  conv => whnf
  rfl
theorem isNaN_spec (x : Int) : Spec Tryz.prog 308 [ci x] (cb false) := by
 refine Spec_of mx Γ_ok Tryz.func308 rfl ?_
 conv => whnf
 show cb (x != x) = cb false
 rw [bne_self_eq_false]
theorem cmpCompare_spec (x y : Int) : Spec Tryz.prog 258 [ci x, ci y] (ci (cmp1 x y)) := by
 refine Spec_of mx Γ_ok Tryz.func258 rfl ?_
 conv => whnf
 refine ⟨_, isNaN_spec x, .inl rfl, .inl ?_⟩
 conv => whnf
 refine ⟨_, isNaN_spec y, .inl rfl, .inl ?_⟩
 conv => whnf
 unfold cmp1
 split <;> rename_i h1
 ·have h1 : x < y := of_decide_eq_true h1
  conv => whnf
  rw [if_pos h1]
  rfl
 ·have h1 : ¬ x < y := of_decide_eq_false h1
  conv => whnf
  rw [if_neg h1]
  split <;> rename_i h2
  ·have h2 : y < x := of_decide_eq_true h2
   conv => whnf
   rw [if_pos h2]
   rfl
  ·have h2 : ¬ y < x := of_decide_eq_false h2
   conv => whnf
   rw [if_neg h2]
   rfl
theorem slicesCompare_spec (xs ys : List Int) (hl : xs.length ≤ 1099511627776) (hl' : ys.length ≤ 1099511627776) : Spec Tryz.prog 172 [ints xs, ints ys] (ci (cmpI xs ys)) := by
 refine Spec_of mx Γ_ok Tryz.func172 rfl ?_
 conv => whnf
 refine ⟨[(0,0),(1,0),(4,0),(9,0),(10,0),(11,0)], fun m s => ∃ (k : Nat) (e : Int), e = k ∧ m + k = xs.length ∧ k ≤ ys.length ∧ cmpI xs ys = cmpI (xs.drop k) (ys.drop k) ∧
  s = ⟨36, [(0, ints xs), (1, ints ys), (4, ci 0), (9, ints xs), (10, ci xs.length), (11, ci e)], []⟩, xs.length, ⟨0, 0, rfl, rfl, Nat.zero_le _, rfl, rfl⟩, ?_⟩
 rintro m s ⟨k, _, rfl, hm, hky, hj, rfl⟩
 conv => whnf
 split <;> rename_i h1
 all_goals simp only [decide_eq_true_eq, decide_eq_false_iff_not] at h1
 ·conv => whnf
  have hk : k < xs.length := by omega
  refine ⟨by omega, rows_len ciL_len xs, ?_⟩
  conv => whnf
  refine ⟨_, takeN_rp (k := k) ciL_len hk, ?_⟩
  conv => whnf
  rw [List.drop_eq_getElem_cons hk] at hj
  split <;> rename_i h2
  all_goals simp only [decide_eq_true_eq, decide_eq_false_iff_not] at h2
  ·conv => whnf
   rw [hj, drop_end (xs := ys) (by omega)]
   rfl
  ·conv => whnf
   have hk2 : k < ys.length := by omega
   refine ⟨by omega, rows_len ciL_len ys, ?_⟩
   conv => whnf
   refine ⟨_, takeN_rp (k := k) ciL_len hk2, ?_⟩
   conv => whnf
   refine ⟨_, cmpCompare_spec xs[k] ys[k], .inl rfl, .inl ?_⟩
   conv => whnf
   rw [List.drop_eq_getElem_cons hk2, cmpI] at hj
   generalize hc : cmp1 xs[k] ys[k] = c
   unfold cmp1 at hc
   split <;> rename_i h3
   ·have h4 : ¬ c = 0 := by simpa using h3
    conv => whnf
    rw [hj]
    split at hc
    ·rename_i h5; rw [if_pos h5, ← hc]; rfl
    ·rename_i h5
     rw [if_neg h5]
     split at hc
     ·rename_i h6; rw [if_pos h6, ← hc]; rfl
     ·exact absurd hc.symm h4
   ·have h4 : c = 0 := by simpa using h3
    conv => whnf
    refine ⟨m - 1, by omega, k + 1, _, wrap_id (by omega) (by omega), by omega, by omega, ?_, rfl⟩
    rw [hj]
    split at hc
    ·omega
    ·rename_i h5
     rw [if_neg h5]
     split at hc
     ·omega
     ·rename_i h6; rw [if_neg h6]
 ·conv => whnf
  rw [hj, drop_end (xs := xs) (by omega)]
  split <;> rename_i h2
  all_goals simp only [decide_eq_true_eq, decide_eq_false_iff_not] at h2
  ·conv => whnf
   have hk2 : k < ys.length := by omega
   rw [List.drop_eq_getElem_cons hk2]
   rfl
  ·conv => whnf
   rw [drop_end (xs := ys) (by omega)]
   rfl
theorem compareFacts_spec (a b : FactC) (ha : a.2.length ≤ 1099511627776) (hb : b.2.length ≤ 1099511627776) : Spec Tryz.prog 164 [vFact a, vFact b] (ci (cmpF a b)) := by
 refine Spec_of mx Γ_ok Tryz.func164 rfl ?_
 conv => whnf
 unfold cmpF
 split <;> rename_i h1
 ·have h1 : a.1 < b.1 := of_decide_eq_true h1
  conv => whnf
  rw [if_pos h1]
  rfl
 ·have h1 : ¬ a.1 < b.1 := of_decide_eq_false h1
  conv => whnf
  rw [if_neg h1]
  split <;> rename_i h2
  ·have h2 : b.1 < a.1 := of_decide_eq_true h2
   conv => whnf
   rw [if_pos h2]
   rfl
  ·have h2 : ¬ b.1 < a.1 := of_decide_eq_false h2
   conv => whnf
   rw [if_neg h2]
   refine ⟨_, slicesCompare_spec a.2 b.2 ha hb, .inl rfl, .inl ?_⟩
   conv => whnf
   rfl
def fz (x : Int) : Int := if x < 0 then -1 - x else 80 + x
theorem implConstOf_spec (x : Int) : Spec Tryz.prog 268 [ci x] (ci (constOf x)) := by
 refine Spec_of mx Γ_ok Tryz.func268 rfl ?_
 conv => whnf
 refine ⟨_, implIsTerm_spec x, .inl rfl, .inl ?_⟩
 conv => whnf
 generalize ht : isTerm x = b1
 cases b1 with
 | false =>
  conv => whnf
  have hr : ¬ (-80 ≤ x ∧ x ≤ 19) := by
   intro hh
   have : isTerm x = true := by simp [isTerm, inR, hh]
   rw [this] at ht; cases ht
  unfold constOf
  rw [if_neg]
  ·rfl
  ·simp [inR]; omega
 | true =>
  have hr : -80 ≤ x ∧ x ≤ 19 := by simpa [isTerm, inR] using ht
  conv => whnf
  refine ⟨_, implIsVar_spec x, .inl rfl, .inl ?_⟩
  conv => whnf
  generalize hv : isVar x = b2
  cases b2 with
  | true =>
   have hv : 0 ≤ x ∧ x ≤ 19 := by simpa [isVar, inR] using hv
   conv => whnf
   unfold constOf
   rw [if_neg]
   ·rfl
   ·simp [inR]; omega
  | false =>
   have hv : ¬ (0 ≤ x ∧ x ≤ 19) := by
    intro hh
    have : isVar x = true := by simp [isVar, inR, hh]
    rw [this] at hv; cases hv
   conv => whnf
   unfold constOf
   rw [if_pos]
   ·show ci (IntKind.i64.wrap (-1 - x)) = ci (-1 - x)
    rw [wrap_id (by omega) (by omega)]
   ·simp [inR]; omega
theorem fz_all_at {xs : List Int} {p : Int → Bool} (h : xs.all p = true) {k : Nat} (hk : k < xs.length) : p xs[k] = true := List.all_eq_true.1 h _ (List.getElem_mem hk)
def putGo (f : FactC) : Bool → List FactC → List FactC
 | p, [] => if p then [] else [f]
 | p, x :: r => if !p && !ltF x f then (if eqF x f then [] else [f]) ++ x :: putGo f true r else x :: putGo f p r
def putF (db : List FactC) (f : FactC) : List FactC := putGo f false db
theorem l5Copy_spec (f : FactC) (h : f.2.length ≤ 1099511627776) : Spec Tryz.prog 238 [vFact f] (wFact f) := by
 refine Spec_of mx Γ_ok Tryz.func238 rfl ?_
 conv => whnf
 refine ⟨[0, 1, 3, 4, 2, 5, 6, 7], by kernel_rfl, ?_⟩
 conv => whnf
 refine ⟨rows_len ciL_len _, solid_ci _, ?_⟩
 conv => whnf
 refine ⟨by omega, rfl, _, app_ci [] f.2, ?_⟩
 conv => whnf
 refine ⟨by rw [rows_len ciL_len, List.nil_append, Nat.zero_add]; rfl, ?_⟩
 rw [List.nil_append, Nat.zero_add]
 rfl
theorem solid_tFact (a : FactC) : ∀ c ∈ tFact a, solid c = true := by
 intro c hc
 simp only [tFact, List.mem_cons, List.not_mem_nil, or_false] at hc
 rcases hc with rfl | rfl <;> rfl
theorem putGo_true (f : FactC) (l : List FactC) : putGo f true l = l := by
 induction l with
 | nil => rfl
 | cons x r ih => simp [putGo, ih]
theorem putGo_length (f : FactC) : ∀ (l : List FactC) (p : Bool), (putGo f p l).length ≤ l.length + 1
 | [], p => by cases p <;> simp [putGo]
 | x :: r, p => by
  have := putGo_length f r p
  simp only [putGo]
  split
  ·rw [putGo_true]; split <;> simp
  ·simp only [List.length_cons]; omega
set_option maxHeartbeats 4000000 in
theorem l5Put_spec (db : List FactC) (f : FactC) (h : cFactS db ≤ 1048576) (hf : f.2.length ≤ 1048576) : Spec Tryz.prog 138 [vFactS db, vFact f] (wFactS (putF db f)) := by
 unfold cFactS at h
 refine Spec_of mx Γ_ok Tryz.func138 rfl ?_
 conv => whnf
 refine ⟨[(0,0),(3,0),(4,0),(5,0),(6,0),(7,0)], fun m s => ∃ (k : Nat) (e : Int) (p : Bool) (o : List FactC) (n : Nat) (r : List V), e = k ∧ m + k = db.length ∧ putF db f = o ++ putGo f p (db.drop k) ∧ n = o.length ∧ n ≤ k + p.toNat ∧ r = rows tFact o ∧
  s = ⟨54, [(0, vFactS db), (3, .ptr 0 0), (4, cnil), (5, .own 1 2 0 n n none), (6, cb p), (7, ci e)], [some ⟨true, rFact f⟩, some ⟨false, r⟩]⟩, db.length, ⟨0, 0, false, [], 0, _, rfl, rfl, rfl, rfl, Nat.zero_le _, rfl, rfl⟩, ?_⟩
 rintro m s ⟨k, _, p, o, n, _, rfl, hm, hj, hn, hnk, rfl, rfl⟩
 conv => whnf
 split <;> rename_i h1
 all_goals simp only [decide_eq_true_eq, decide_eq_false_iff_not] at h1
 ·conv => whnf
  have hk : k < db.length := by omega
  have hb := sumB_one (f := cFact) hk
  have hcb : cFact db[k] = db[k].2.length := rfl
  rw [List.drop_eq_getElem_cons hk, putGo] at hj
  cases p with
  | true =>
   conv => whnf
   simp only [Bool.toNat_true] at hnk
   refine ⟨List.range 11, by kernel_rfl, ?_⟩
   conv => whnf
   simp only [Bool.not_true, Bool.false_and, Bool.false_eq_true, if_false] at hj
   refine ⟨by omega, rows_len rFact_len db, ?_⟩
   conv => whnf
   refine ⟨_, takeN_rp (k := k) rFact_len hk, ?_⟩
   conv => whnf
   refine ⟨_, l5Copy_spec db[k] (by omega), .inl rfl, .inr ?_⟩
   conv => whnf
   refine ⟨by rw [rows_len ciL_len], ?_⟩
   conv => whnf
   refine ⟨_, rfl, .inr ⟨solid_tFact db[k], ?_⟩⟩
   conv => whnf
   refine ⟨by omega, by rw [rows_len tFact_len]; rw [hn], _, snoc_rows tFact _ db[k], ?_⟩
   conv => whnf
   refine ⟨m - 1, by omega, k + 1, _, true, _, _, _, wrap_id (by omega) (by omega), by omega, ?_, ?_, ?_, rfl, rfl⟩
   ·rw [hj]; simp
   ·simp [hn]
   ·simp only [Bool.toNat_true]; omega
  | false =>
   conv => whnf
   simp only [Bool.toNat_false] at hnk
   refine ⟨List.range 11, by kernel_rfl, ?_⟩
   conv => whnf
   refine ⟨by omega, rows_len rFact_len db, ?_⟩
   conv => whnf
   refine ⟨_, takeN_rp (k := k) rFact_len hk, ?_⟩
   conv => whnf
   refine ⟨_, l5Less_spec db[k] f (by omega) (by omega), .inl rfl, .inl ?_⟩
   conv => whnf
   simp only [Bool.not_false, Bool.true_and] at hj
   generalize ltF db[k] f = b1 at hj
   cases b1 with
   | true =>
    conv => whnf
    simp only [Bool.not_true, Bool.false_eq_true, if_false] at hj
    refine ⟨by omega, rows_len rFact_len db, ?_⟩
    conv => whnf
    refine ⟨_, takeN_rp (k := k) rFact_len hk, ?_⟩
    conv => whnf
    refine ⟨_, l5Copy_spec db[k] (by omega), .inl rfl, .inr ?_⟩
    conv => whnf
    refine ⟨by rw [rows_len ciL_len], ?_⟩
    conv => whnf
    refine ⟨_, rfl, .inr ⟨solid_tFact db[k], ?_⟩⟩
    conv => whnf
    refine ⟨by omega, by rw [rows_len tFact_len]; rw [hn], _, snoc_rows tFact _ db[k], ?_⟩
    conv => whnf
    refine ⟨m - 1, by omega, k + 1, _, false, _, _, _, wrap_id (by omega) (by omega), by omega, ?_, ?_, ?_, rfl, rfl⟩
    ·rw [hj]; simp
    ·simp [hn]
    ·simp only [Bool.toNat_false]; omega
   | false =>
    conv => whnf
    simp only [Bool.not_false, if_true] at hj
    refine ⟨List.range 7, by kernel_rfl, ?_⟩
    conv => whnf
    refine ⟨by omega, rows_len rFact_len db, ?_⟩
    conv => whnf
    refine ⟨_, takeN_rp (k := k) rFact_len hk, ?_⟩
    conv => whnf
    refine ⟨_, l5Same_spec db[k] f (by omega) (by omega), .inl rfl, .inl ?_⟩
    conv => whnf
    generalize eqF db[k] f = b2 at hj
    cases b2 with
    | true =>
     conv => whnf
     simp only [if_true, List.nil_append] at hj
     refine ⟨by omega, rows_len rFact_len db, ?_⟩
     conv => whnf
     refine ⟨_, takeN_rp (k := k) rFact_len hk, ?_⟩
     conv => whnf
     refine ⟨_, l5Copy_spec db[k] (by omega), .inl rfl, .inr ?_⟩
     conv => whnf
     refine ⟨by rw [rows_len ciL_len], ?_⟩
     conv => whnf
     refine ⟨_, rfl, .inr ⟨solid_tFact db[k], ?_⟩⟩
     conv => whnf
     refine ⟨by omega, by rw [rows_len tFact_len]; rw [hn], _, snoc_rows tFact _ db[k], ?_⟩
     conv => whnf
     refine ⟨m - 1, by omega, k + 1, _, true, _, _, _, wrap_id (by omega) (by omega), by omega, ?_, ?_, ?_, rfl, rfl⟩
     ·rw [hj]; simp
     ·simp [hn]
     ·simp only [Bool.toNat_true]; omega
    | false =>
     conv => whnf
     simp only [Bool.false_eq_true, if_false, List.singleton_append] at hj
     refine ⟨_, l5Copy_spec f (by omega), .inl rfl, .inr ?_⟩
     conv => whnf
     refine ⟨by rw [rows_len ciL_len], ?_⟩
     conv => whnf
     refine ⟨_, rfl, .inr ⟨solid_tFact f, ?_⟩⟩
     conv => whnf
     refine ⟨by omega, by rw [rows_len tFact_len]; rw [hn], _, snoc_rows tFact _ f, ?_⟩
     conv => whnf
     refine ⟨by omega, rows_len rFact_len db, ?_⟩
     conv => whnf
     refine ⟨_, takeN_rp (k := k) rFact_len hk, ?_⟩
     conv => whnf
     refine ⟨_, l5Copy_spec db[k] (by omega), .inl rfl, .inr ?_⟩
     conv => whnf
     refine ⟨by rw [rows_len ciL_len], ?_⟩
     conv => whnf
     refine ⟨_, rfl, .inr ⟨solid_tFact db[k], ?_⟩⟩
     conv => whnf
     refine ⟨by omega, by rw [rows_len tFact_len, List.length_append]; rw [hn]; rfl, _, snoc_rows tFact _ db[k], ?_⟩
     conv => whnf
     refine ⟨m - 1, by omega, k + 1, _, true, _, _, _, wrap_id (by omega) (by omega), by omega, ?_, ?_, ?_, rfl, rfl⟩
     ·rw [hj]; simp
     ·simp [hn]
     ·simp only [Bool.toNat_true]; omega
 ·conv => whnf
  rw [drop_end (by omega)] at hj
  cases p with
  | true =>
   conv => whnf
   simp only [putGo, if_true, List.append_nil] at hj
   rw [hj]
   refine ⟨by rw [rows_len tFact_len, hn], ?_⟩
   subst hn
   rfl
  | false =>
   conv => whnf
   simp only [putGo, Bool.false_eq_true, if_false] at hj
   simp only [Bool.toNat_false] at hnk
   refine ⟨_, l5Copy_spec f (by omega), .inl rfl, .inr ?_⟩
   conv => whnf
   refine ⟨by rw [rows_len ciL_len], ?_⟩
   conv => whnf
   refine ⟨_, rfl, .inr ⟨solid_tFact f, ?_⟩⟩
   conv => whnf
   refine ⟨by omega, by rw [rows_len tFact_len]; rw [hn], _, snoc_rows tFact _ f, ?_⟩
   conv => whnf
   rw [hj]
   subst hn
   refine ⟨by rw [rows_len tFact_len, List.length_append]; rfl, ?_⟩
   show V.tr 2 (o.length + 1) _ = wFactS _
   rw [wFactS, List.length_append]
   rfl
end Go.Proofs.YtcjdfeafcmfgpaaGreatD
namespace Go.Proofs.YtcjdfeafcmfgpaaGreatD
open Go Go.Proofs
structure Tot {α : Type} (lt : α → α → Bool) : Prop where
 irr : ∀ a, lt a a = false
 tr : ∀ a b c, lt a b = true → lt b c = true → lt a c = true
 tri : ∀ a b, lt a b = true ∨ a = b ∨ lt b a = true
section
variable {α : Type} {lt : α → α → Bool}
theorem Tot.asym (h : Tot lt) {a b : α} (h1 : lt a b = true) : lt b a = false := by
 cases h2 : lt b a with
 | false => rfl
 | true => have := h.tr _ _ _ h1 h2; rw [h.irr] at this; cases this
def Strict (lt : α → α → Bool) (l : List α) : Prop := l.Pairwise fun a b => lt a b = true
theorem strict_unique (h : Tot lt) : ∀ {l m : List α}, Strict lt l → Strict lt m → (∀ a, a ∈ l ↔ a ∈ m) → l = m
 | [], [], _, _, _ => rfl
 | [], y :: m, _, _, hm => absurd ((hm y).2 (by simp)) (by simp)
 | x :: l, [], _, _, hm => absurd ((hm x).1 (by simp)) (by simp)
 | x :: l, y :: m, hl, hr, hm => by
  obtain ⟨hx, hl'⟩ := List.pairwise_cons.1 hl
  obtain ⟨hy, hr'⟩ := List.pairwise_cons.1 hr
  have hxy : x = y := by
   have h1 : x = y ∨ x ∈ m := by have := (hm x).1 (by simp); simpa using this
   have h2 : y = x ∨ y ∈ l := by have := (hm y).2 (by simp); simpa using this
   rcases h1 with h1 | h1
   ·exact h1
   ·rcases h2 with h2 | h2
    ·exact h2.symm
    ·have := h.asym (hx y h2)
     rw [hy x h1] at this; cases this
  subst hxy
  congr 1
  refine strict_unique h hl' hr' fun a => ?_
  have := hm a
  simp only [List.mem_cons] at this
  constructor
  ·intro ha
   rcases this.1 (.inr ha) with rfl | h2
   ·have := hx a ha; rw [h.irr] at this; cases this
   ·exact h2
  ·intro ha
   rcases this.2 (.inr ha) with rfl | h2
   ·have := hy a ha; rw [h.irr] at this; cases this
   ·exact h2
end
theorem cmpI_anti : ∀ xs ys : List Int, cmpI ys xs = - cmpI xs ys
 | [], [] => rfl
 | [], _ :: _ => rfl
 | _ :: _, [] => rfl
 | x :: xs, y :: ys => by
  simp only [cmpI]
  have := cmpI_anti xs ys
  rcases Int.lt_trichotomy x y with h | h | h
  ·rw [if_neg (by omega), if_pos h, if_pos h]; omega
  ·subst h; simp [this]
  ·rw [if_pos h, if_neg (by omega), if_pos h]
theorem cmpI_zero : ∀ xs ys : List Int, cmpI xs ys = 0 → xs = ys
 | [], [], _ => rfl
 | [], _ :: _, h => by simp [cmpI] at h
 | _ :: _, [], h => by simp [cmpI] at h
 | x :: xs, y :: ys, h => by
  simp only [cmpI] at h
  split at h
  ·omega
  ·split at h
   ·omega
   ·rw [cmpI_zero xs ys h, show x = y from by omega]
theorem cmpI_self (xs : List Int) : cmpI xs xs = 0 := by have := cmpI_anti xs xs; omega
theorem ltI_iff : ∀ xs ys : List Int, ltI xs ys = true ↔ cmpI xs ys < 0
 | [], [] => by simp [ltI, cmpI]
 | [], _ :: _ => by simp [ltI, cmpI]
 | _ :: _, [] => by simp [ltI, cmpI]
 | x :: xs, y :: ys => by
  simp only [ltI, cmpI]
  have ih := ltI_iff xs ys
  split
  ·rename_i h
   rw [if_neg (by omega), if_neg (by omega)]; exact ih
  ·rename_i h
   simp only [decide_eq_true_eq]
   constructor
   ·intro h1; rw [if_pos h1]; omega
   ·intro h1
    split at h1
    ·assumption
    ·rw [if_pos (by omega)] at h1; omega
theorem ltI_cmp (xs ys : List Int) : ltI xs ys = decide (cmpI xs ys < 0) := by
 rw [Bool.eq_iff_iff, ltI_iff, decide_eq_true_eq]
theorem cmpI_tr : ∀ xs ys zs : List Int, cmpI xs ys < 0 → cmpI ys zs < 0 → cmpI xs zs < 0
 | _, ys, [], _, h2 => by cases ys <;> simp [cmpI] at h2
 | [], _, _ :: _, _, _ => by simp [cmpI]
 | x :: xs, [], z :: zs, h1, _ => by simp [cmpI] at h1
 | x :: xs, y :: ys, z :: zs, h1, h2 => by
  have ih := cmpI_tr xs ys zs
  simp only [cmpI] at h1 h2 ⊢
  split at h1 <;> split at h2 <;> (try split at h1) <;> (try split at h2) <;> (split <;> try split) <;> first | omega | exact ih h1 h2
theorem totI : Tot ltI where
 irr := fun a => by rw [ltI_cmp, cmpI_self]; rfl
 tr := fun a b c h1 h2 => by rw [ltI_cmp] at h1 h2 ⊢; exact decide_eq_true (cmpI_tr a b c (of_decide_eq_true h1) (of_decide_eq_true h2))
 tri := fun a b => by
  rw [ltI_cmp, ltI_cmp, cmpI_anti a b]
  by_cases h : cmpI a b = 0
  ·exact .inr (.inl (cmpI_zero a b h))
  ·by_cases h1 : cmpI a b < 0
   ·exact .inl (decide_eq_true h1)
   ·exact .inr (.inr (decide_eq_true (by omega)))
theorem ltF_cmp (a b : FactC) : ltF a b = decide (cmpF a b < 0) := by
 rw [Bool.eq_iff_iff, decide_eq_true_eq]
 unfold ltF cmpF
 split
 ·rename_i h
  rw [if_neg (by omega), if_neg (by omega)]; exact ltI_iff _ _
 ·rename_i h
  simp only [decide_eq_true_eq]
  constructor
  ·intro h1; rw [if_pos h1]; omega
  ·intro h1
   split at h1
   ·assumption
   ·rw [if_pos (by omega)] at h1; omega
end Go.Proofs.YtcjdfeafcmfgpaaGreatD
namespace Go.Proofs.YtcjdfeafcmfgpaaGreatD
open Go Go.Proofs
section
variable {α : Type} {lt : α → α → Bool}
variable [DecidableEq α]
theorem compG_ok (h : Tot lt) : ∀ (xs : List α) (p : α), (∀ a ∈ xs, lt a p = false) → xs.Pairwise (fun a b => lt b a = false) →
  Strict lt (compG (fun a b => decide (a = b)) p xs) ∧ (∀ a, a ∈ compG (fun a b => decide (a = b)) p xs ↔ a ∈ xs ∧ a ≠ p)
 | [], p, _, _ => ⟨List.Pairwise.nil, fun a => by simp [compG]⟩
 | x :: r, p, hp, hs => by
  obtain ⟨hx, hr⟩ := List.pairwise_cons.1 hs
  obtain ⟨i1, i2⟩ := compG_ok h r x hx hr
  simp only [compG]
  by_cases hxp : x = p
  ·subst hxp
   simp only [decide_true, if_true]
   refine ⟨i1, fun a => ?_⟩
   rw [i2 a]
   simp only [List.mem_cons]
   constructor
   ·rintro ⟨h1, h2⟩; exact ⟨.inr h1, h2⟩
   ·rintro ⟨h1 | h1, h2⟩
    ·exact absurd h1 h2
    ·exact ⟨h1, h2⟩
  ·simp only [hxp, decide_false, Bool.false_eq_true, if_false]
   have hpx : lt p x = true := by
    rcases h.tri p x with h1 | h1 | h1
    ·exact h1
    ·exact absurd h1.symm hxp
    ·rw [hp x (by simp)] at h1; cases h1
   refine ⟨List.pairwise_cons.2 ⟨fun a ha => ?_, i1⟩, fun a => ?_⟩
   ·obtain ⟨h1, h2⟩ := (i2 a).1 ha
    rcases h.tri x a with h3 | h3 | h3
    ·exact h3
    ·exact absurd h3.symm h2
    ·rw [hx a h1] at h3; cases h3
   ·simp only [List.mem_cons, i2 a]
    constructor
    ·rintro (rfl | ⟨h1, h2⟩)
     ·exact ⟨.inl rfl, hxp⟩
     ·refine ⟨.inr h1, fun e => ?_⟩
      subst e
      have := hx a h1
      rw [hpx] at this; cases this
    ·rintro ⟨rfl | h1, h2⟩
     ·exact .inl rfl
     ·by_cases e : a = x
      ·exact .inl e
      ·exact .inr ⟨h1, e⟩
theorem compL_ok (h : Tot lt) (xs : List α) (hs : xs.Pairwise (fun a b => lt b a = false)) : Strict lt (compL (fun a b => decide (a = b)) xs) ∧ (∀ a, a ∈ compL (fun a b => decide (a = b)) xs ↔ a ∈ xs) := by
 cases xs with
 | nil => exact ⟨List.Pairwise.nil, fun a => by simp [compL]⟩
 | cons x r =>
  obtain ⟨hx, hr⟩ := List.pairwise_cons.1 hs
  obtain ⟨i1, i2⟩ := compG_ok h r x hx hr
  refine ⟨List.pairwise_cons.2 ⟨fun a ha => ?_, i1⟩, fun a => ?_⟩
  ·obtain ⟨h1, h2⟩ := (i2 a).1 ha
   rcases h.tri x a with h3 | h3 | h3
   ·exact h3
   ·exact absurd h3.symm h2
   ·rw [hx a h1] at h3; cases h3
  ·simp only [compL, List.mem_cons, i2 a]
   constructor
   ·rintro (h1 | ⟨h1, _⟩)
    ·exact .inl h1
    ·exact .inr h1
   ·rintro (h1 | h1)
    ·exact .inl h1
    ·by_cases e : a = x
     ·exact .inl e
     ·exact .inr ⟨h1, e⟩
end
theorem swo_of_tot {α : Type} {cf : α → α → Int} {lt : α → α → Bool} (h : Tot lt) (hc : ∀ a b, lt a b = decide (cf a b < 0)) : Go.Sort.SWO (ltOf cf) := by
 have e : ltOf cf = lt := by funext a b; exact (hc a b).symm
 rw [e]
 refine ⟨h.irr, h.tr, fun a b c h1 h2 => ?_⟩
 cases h3 : lt a c with
 | false => rfl
 | true =>
  rcases h.tri a b with h4 | h4 | h4
  ·rw [h1] at h4; cases h4
  ·subst h4; rw [h2] at h3; cases h3
  ·have := h.tr _ _ _ h4 h3; rw [h2] at this; cases this
end Go.Proofs.YtcjdfeafcmfgpaaGreatD
