/- Contracts and plain laws of this seat; no condition. -/
import Derived.Test.YtcjdfeafcmfgpaaGreatQ10
import Derived.Test.YtcjdfeafcmfgpaaGreatQ11
import Derived.Test.YtcjdfeafcmfgpaaGreatQ9
import Derived.WalkKit
import Derived.WalkSpells
set_option linter.unusedVariables false
set_option linter.unusedSimpArgs false
set_option maxRecDepth 100000
namespace Go.Proofs.YtcjdfeafcmfgpaaGreatD
open Go Go.Proofs
abbrev FactC := Int × List Int
def ltI : List Int → List Int → Bool
 | _, [] => false
 | [], _ :: _ => true
 | x :: xs, y :: ys => if x = y then ltI xs ys else decide (x < y)
def cmpI : List Int → List Int → Int
 | [], [] => 0
 | [], _ :: _ => -1
 | _ :: _, [] => 1
 | x :: xs, y :: ys => if x < y then -1 else if y < x then 1 else cmpI xs ys
def ltF (a b : FactC) : Bool := if a.1 = b.1 then ltI a.2 b.2 else decide (a.1 < b.1)
def eqF (a b : FactC) : Bool := decide (a = b)
theorem eqF_eq (a b : FactC) : eqF a b = (decide (a.1 = b.1) && decide (a.2 = b.2)) := by
 unfold eqF
 rw [← Bool.decide_and, decide_eq_decide]
 exact Prod.ext_iff
theorem l2Less_spec (xs ys : List Int) (hl : xs.length ≤ 1099511627776) (hl' : ys.length ≤ 1099511627776) : Spec Tryz.prog 213 [ints xs, ints ys] (cb (ltI xs ys)) := by
 refine Spec_of mx Γ_ok Tryz.func213 rfl ?_
 conv => whnf
 refine ⟨[(0,0),(1,0),(4,0),(5,0)], fun m s => ∃ (k : Nat) (e : Int), e = k ∧ m + k = xs.length ∧ k ≤ ys.length ∧ ltI xs ys = ltI (xs.drop k) (ys.drop k) ∧
  s = ⟨41, [(0, ints xs), (1, ints ys), (4, cb false), (5, ci e)], []⟩, xs.length, ⟨0, 0, rfl, rfl, Nat.zero_le _, rfl, rfl⟩, ?_⟩
 rintro m s ⟨k, _, rfl, hm, hky, hj, rfl⟩
 conv => whnf
 generalize hc1 : decide ((k : Int) < (xs.length : Int)) = c1
 cases c1 with
 | false =>
  have hk : k = xs.length := by have := of_decide_eq_false hc1; omega
  conv => whnf
  rw [hj, drop_end (by omega)]
  have hlt : ∀ l : List Int, ltI [] l = decide (0 < l.length) := fun l => by cases l <;> rfl
  rw [hlt, List.length_drop]
  show cb _ = cb _
  congr 1
  rw [decide_eq_decide]
  omega
 | true =>
  have hk : k < xs.length := by have := of_decide_eq_true hc1; omega
  conv => whnf
  generalize hc2 : decide ((k : Int) < (ys.length : Int)) = c2
  cases c2 with
  | false =>
   have hk2 : k = ys.length := by have := of_decide_eq_false hc2; omega
   conv => whnf
   rw [hj, drop_end (xs := ys) (by omega)]
   have hlt : ∀ l : List Int, ltI l [] = false := fun l => by cases l <;> rfl
   rw [hlt]
   show cb _ = cb _
   rw [decide_eq_false (by omega)]
  | true =>
   have hk2 : k < ys.length := by have := of_decide_eq_true hc2; omega
   conv => whnf
   refine ⟨List.range 9, by kernel_rfl, ?_⟩
   conv => whnf
   refine ⟨by omega, rows_len ciL_len xs, ?_⟩
   conv => whnf
   refine ⟨_, takeN_rp (k := k) ciL_len hk, ?_⟩
   conv => whnf
   refine ⟨by omega, rows_len ciL_len ys, ?_⟩
   conv => whnf
   refine ⟨_, takeN_rp (k := k) ciL_len hk2, ?_⟩
   rw [List.drop_eq_getElem_cons hk, List.drop_eq_getElem_cons hk2, ltI] at hj
   conv => whnf
   split <;> rename_i h2
   ·have h3 : ¬ xs[k] = ys[k] := by simpa using h2
    rw [if_neg h3] at hj
    conv => whnf
    refine ⟨List.range 10, by kernel_rfl, ?_⟩
    conv => whnf
    refine ⟨by omega, rows_len ciL_len xs, ?_⟩
    conv => whnf
    refine ⟨_, takeN_rp (k := k) ciL_len hk, ?_⟩
    conv => whnf
    refine ⟨by omega, rows_len ciL_len ys, ?_⟩
    conv => whnf
    refine ⟨_, takeN_rp (k := k) ciL_len hk2, ?_⟩
    conv => whnf
    rw [hj]
    rfl
   ·have h3 : xs[k] = ys[k] := by simpa using h2
    rw [if_pos h3] at hj
    conv => whnf
    exact ⟨m - 1, by omega, k + 1, _, wrap_id (by omega) (by omega), by omega, by omega, hj, rfl⟩
theorem l5Less_spec (a b : FactC) (ha : a.2.length ≤ 1099511627776) (hb : b.2.length ≤ 1099511627776) : Spec Tryz.prog 155 [vFact a, vFact b] (cb (ltF a b)) := by
 refine Spec_of mx Γ_ok Tryz.func155 rfl ?_
 conv => whnf
 unfold ltF
 split <;> rename_i h2
 ·have h3 : ¬ a.1 = b.1 := by simpa using h2
  conv => whnf
  rw [if_neg h3]
  rfl
 ·have h3 : a.1 = b.1 := by simpa using h2
  conv => whnf
  refine ⟨_, l2Less_spec a.2 b.2 ha hb, .inl rfl, .inl ?_⟩
  conv => whnf
  rw [if_pos h3]
  rfl
theorem l5Same_spec (a b : FactC) (ha : a.2.length ≤ 1099511627776) (hb : b.2.length ≤ 1099511627776) : Spec Tryz.prog 153 [vFact a, vFact b] (cb (eqF a b)) := by
 rw [eqF_eq]
 refine Spec_of mx Γ_ok Tryz.func153 rfl ?_
 conv => whnf
 generalize hc : (a.1 == b.1) = c
 have hc' : decide (a.1 = b.1) = c := by rw [← hc]; rfl
 rw [hc']
 cases c with
 | false =>
  conv => whnf
  rfl
 | true =>
  conv => whnf
  refine ⟨_, l2Ints_spec a.2 b.2 ha hb, .inl rfl, .inl ?_⟩
  conv => whnf
  rfl
def fz (x : Int) : Int := if x < 0 then -1 - x else 80 + x
theorem l8Value_spec (x : Int) (h : isTerm x = true) : Spec Tryz.prog 184 [ci x] (ci (fz x)) := by
 have hr : -80 ≤ x ∧ x ≤ 19 := by simpa [isTerm, inR] using h
 refine Spec_of mx Γ_ok Tryz.func184 rfl ?_
 conv => whnf
 unfold fz
 split <;> rename_i h1
 ·have h1 : x < 0 := of_decide_eq_true h1
  conv => whnf
  rw [if_pos h1]
  show ci (IntKind.i64.wrap (-1 - x)) = ci (-1 - x)
  rw [wrap_id (by omega) (by omega)]
 ·have h1 : ¬ x < 0 := of_decide_eq_false h1
  conv => whnf
  rw [if_neg h1]
  show ci (IntKind.i64.wrap (80 + x)) = ci (80 + x)
  rw [wrap_id (by omega) (by omega)]
theorem fz_all_at {xs : List Int} {p : Int → Bool} (h : xs.all p = true) {k : Nat} (hk : k < xs.length) : p xs[k] = true := List.all_eq_true.1 h _ (List.getElem_mem hk)
theorem l8Values_spec (xs : List Int) (h : xs.length ≤ 1099511627776) (ht : xs.all isTerm = true) : Spec Tryz.prog 139 [ints xs] (intsT (xs.map fz)) := by
 refine Spec_of mx Γ_ok Tryz.func139 rfl ?_
 conv => whnf
 refine ⟨[(0,0),(2,0),(3,0),(4,0)], fun m s => ∃ (k : Nat) (e : Int) (n : Nat) (r : List V), e = k ∧ m + k = xs.length ∧ n = k ∧ r = rows ciL ((xs.take k).map fz) ∧
  s = ⟨21, [(0, ints xs), (2, cnil), (3, .own 0 1 0 n n none), (4, ci e)], [some ⟨false, r⟩]⟩, xs.length, ⟨0, 0, 0, _, rfl, rfl, rfl, rfl, rfl⟩, ?_⟩
 rintro m s ⟨k, _, n, _, rfl, hm, rfl, rfl, rfl⟩
 conv => whnf
 split <;> rename_i h1
 all_goals simp only [decide_eq_true_eq, decide_eq_false_iff_not] at h1
 ·conv => whnf
  have hk : n < xs.length := by omega
  refine ⟨by omega, rows_len ciL_len xs, ?_⟩
  conv => whnf
  refine ⟨_, takeN_rp (k := n) ciL_len hk, ?_⟩
  conv => whnf
  refine ⟨_, l8Value_spec xs[n] (fz_all_at ht hk), .inl rfl, .inl ?_⟩
  conv => whnf
  refine ⟨_, rfl, .inl ⟨flat1 rfl, ?_⟩⟩
  conv => whnf
  refine ⟨by omega, by rw [rows_len ciL_len, List.length_map, List.length_take]; congr 1; omega, _, snoc_ci _ _, ?_⟩
  conv => whnf
  refine ⟨m - 1, by omega, n + 1, _, _, _, wrap_id (by omega) (by omega), by omega, rfl, ?_, rfl⟩
  rw [List.take_succ_eq_append_getElem hk, List.map_append, List.map_singleton]
 ·conv => whnf
  have hkk : n = xs.length := by omega
  subst hkk
  rw [List.take_length]
  refine ⟨by rw [rows_len ciL_len, List.length_map], ?_⟩
  show V.tr 1 xs.length _ = intsT _
  rw [intsT, List.length_map]
def putGo (f : FactC) : Bool → List FactC → List FactC
 | p, [] => if p then [] else [f]
 | p, x :: r => if !p && !ltF x f then (if eqF x f then [] else [f]) ++ x :: putGo f true r else x :: putGo f p r
def putF (db : List FactC) (f : FactC) : List FactC := putGo f false db
theorem l5Copy_spec (f : FactC) (h : f.2.length ≤ 1099511627776) : Spec Tryz.prog 238 [vFact f] (wFact f) := by
 refine Spec_of mx Γ_ok Tryz.func238 rfl ?_
 conv => whnf
 refine ⟨[0, 1, 3, 4, 2, 5, 6, 7], by kernel_rfl, ?_⟩
 conv => whnf
 refine ⟨rows_len ciL_len _, solid_ci _, ?_⟩
 conv => whnf
 refine ⟨by omega, rfl, _, app_ci [] f.2, ?_⟩
 conv => whnf
 refine ⟨by rw [rows_len ciL_len, List.nil_append, Nat.zero_add]; rfl, ?_⟩
 rw [List.nil_append, Nat.zero_add]
 rfl
theorem solid_tFact (a : FactC) : ∀ c ∈ tFact a, solid c = true := by
 intro c hc
 simp only [tFact, List.mem_cons, List.not_mem_nil, or_false] at hc
 rcases hc with rfl | rfl <;> rfl
theorem putGo_true (f : FactC) (l : List FactC) : putGo f true l = l := by
 induction l with
 | nil => rfl
 | cons x r ih => simp [putGo, ih]
theorem putGo_length (f : FactC) : ∀ (l : List FactC) (p : Bool), (putGo f p l).length ≤ l.length + 1
 | [], p => by cases p <;> simp [putGo]
 | x :: r, p => by
  have := putGo_length f r p
  simp only [putGo]
  split
  ·rw [putGo_true]; split <;> simp
  ·simp only [List.length_cons]; omega
set_option maxHeartbeats 4000000 in
theorem l5Put_spec (db : List FactC) (f : FactC) (h : cFactS db ≤ 1048576) (hf : f.2.length ≤ 1048576) : Spec Tryz.prog 138 [vFactS db, vFact f] (wFactS (putF db f)) := by
 unfold cFactS at h
 refine Spec_of mx Γ_ok Tryz.func138 rfl ?_
 conv => whnf
 refine ⟨[(0,0),(3,0),(4,0),(5,0),(6,0),(7,0)], fun m s => ∃ (k : Nat) (e : Int) (p : Bool) (o : List FactC) (n : Nat) (r : List V), e = k ∧ m + k = db.length ∧ putF db f = o ++ putGo f p (db.drop k) ∧ n = o.length ∧ n ≤ k + p.toNat ∧ r = rows tFact o ∧
  s = ⟨54, [(0, vFactS db), (3, .ptr 0 0), (4, cnil), (5, .own 1 2 0 n n none), (6, cb p), (7, ci e)], [some ⟨true, rFact f⟩, some ⟨false, r⟩]⟩, db.length, ⟨0, 0, false, [], 0, _, rfl, rfl, rfl, rfl, Nat.zero_le _, rfl, rfl⟩, ?_⟩
 rintro m s ⟨k, _, p, o, n, _, rfl, hm, hj, hn, hnk, rfl, rfl⟩
 conv => whnf
 split <;> rename_i h1
 all_goals simp only [decide_eq_true_eq, decide_eq_false_iff_not] at h1
 ·conv => whnf
  have hk : k < db.length := by omega
  have hb := sumB_one (f := cFact) hk
  have hcb : cFact db[k] = db[k].2.length := rfl
  rw [List.drop_eq_getElem_cons hk, putGo] at hj
  cases p with
  | true =>
   conv => whnf
   simp only [Bool.toNat_true] at hnk
   refine ⟨List.range 11, by kernel_rfl, ?_⟩
   conv => whnf
   simp only [Bool.not_true, Bool.false_and, Bool.false_eq_true, if_false] at hj
   refine ⟨by omega, rows_len rFact_len db, ?_⟩
   conv => whnf
   refine ⟨_, takeN_rp (k := k) rFact_len hk, ?_⟩
   conv => whnf
   refine ⟨_, l5Copy_spec db[k] (by omega), .inl rfl, .inr ?_⟩
   conv => whnf
   refine ⟨by rw [rows_len ciL_len], ?_⟩
   conv => whnf
   refine ⟨_, rfl, .inr ⟨solid_tFact db[k], ?_⟩⟩
   conv => whnf
   refine ⟨by omega, by rw [rows_len tFact_len]; rw [hn], _, snoc_rows tFact _ db[k], ?_⟩
   conv => whnf
   refine ⟨m - 1, by omega, k + 1, _, true, _, _, _, wrap_id (by omega) (by omega), by omega, ?_, ?_, ?_, rfl, rfl⟩
   ·rw [hj]; simp
   ·simp [hn]
   ·simp only [Bool.toNat_true]; omega
  | false =>
   conv => whnf
   simp only [Bool.toNat_false] at hnk
   refine ⟨List.range 11, by kernel_rfl, ?_⟩
   conv => whnf
   refine ⟨by omega, rows_len rFact_len db, ?_⟩
   conv => whnf
   refine ⟨_, takeN_rp (k := k) rFact_len hk, ?_⟩
   conv => whnf
   refine ⟨_, l5Less_spec db[k] f (by omega) (by omega), .inl rfl, .inl ?_⟩
   conv => whnf
   simp only [Bool.not_false, Bool.true_and] at hj
   generalize ltF db[k] f = b1 at hj
   cases b1 with
   | true =>
    conv => whnf
    simp only [Bool.not_true, Bool.false_eq_true, if_false] at hj
    refine ⟨by omega, rows_len rFact_len db, ?_⟩
    conv => whnf
    refine ⟨_, takeN_rp (k := k) rFact_len hk, ?_⟩
    conv => whnf
    refine ⟨_, l5Copy_spec db[k] (by omega), .inl rfl, .inr ?_⟩
    conv => whnf
    refine ⟨by rw [rows_len ciL_len], ?_⟩
    conv => whnf
    refine ⟨_, rfl, .inr ⟨solid_tFact db[k], ?_⟩⟩
    conv => whnf
    refine ⟨by omega, by rw [rows_len tFact_len]; rw [hn], _, snoc_rows tFact _ db[k], ?_⟩
    conv => whnf
    refine ⟨m - 1, by omega, k + 1, _, false, _, _, _, wrap_id (by omega) (by omega), by omega, ?_, ?_, ?_, rfl, rfl⟩
    ·rw [hj]; simp
    ·simp [hn]
    ·simp only [Bool.toNat_false]; omega
   | false =>
    conv => whnf
    simp only [Bool.not_false, if_true] at hj
    refine ⟨List.range 7, by kernel_rfl, ?_⟩
    conv => whnf
    refine ⟨by omega, rows_len rFact_len db, ?_⟩
    conv => whnf
    refine ⟨_, takeN_rp (k := k) rFact_len hk, ?_⟩
    conv => whnf
    refine ⟨_, l5Same_spec db[k] f (by omega) (by omega), .inl rfl, .inl ?_⟩
    conv => whnf
    generalize eqF db[k] f = b2 at hj
    cases b2 with
    | true =>
     conv => whnf
     simp only [if_true, List.nil_append] at hj
     refine ⟨by omega, rows_len rFact_len db, ?_⟩
     conv => whnf
     refine ⟨_, takeN_rp (k := k) rFact_len hk, ?_⟩
     conv => whnf
     refine ⟨_, l5Copy_spec db[k] (by omega), .inl rfl, .inr ?_⟩
     conv => whnf
     refine ⟨by rw [rows_len ciL_len], ?_⟩
     conv => whnf
     refine ⟨_, rfl, .inr ⟨solid_tFact db[k], ?_⟩⟩
     conv => whnf
     refine ⟨by omega, by rw [rows_len tFact_len]; rw [hn], _, snoc_rows tFact _ db[k], ?_⟩
     conv => whnf
     refine ⟨m - 1, by omega, k + 1, _, true, _, _, _, wrap_id (by omega) (by omega), by omega, ?_, ?_, ?_, rfl, rfl⟩
     ·rw [hj]; simp
     ·simp [hn]
     ·simp only [Bool.toNat_true]; omega
    | false =>
     conv => whnf
     simp only [Bool.false_eq_true, if_false, List.singleton_append] at hj
     refine ⟨_, l5Copy_spec f (by omega), .inl rfl, .inr ?_⟩
     conv => whnf
     refine ⟨by rw [rows_len ciL_len], ?_⟩
     conv => whnf
     refine ⟨_, rfl, .inr ⟨solid_tFact f, ?_⟩⟩
     conv => whnf
     refine ⟨by omega, by rw [rows_len tFact_len]; rw [hn], _, snoc_rows tFact _ f, ?_⟩
     conv => whnf
     refine ⟨by omega, rows_len rFact_len db, ?_⟩
     conv => whnf
     refine ⟨_, takeN_rp (k := k) rFact_len hk, ?_⟩
     conv => whnf
     refine ⟨_, l5Copy_spec db[k] (by omega), .inl rfl, .inr ?_⟩
     conv => whnf
     refine ⟨by rw [rows_len ciL_len], ?_⟩
     conv => whnf
     refine ⟨_, rfl, .inr ⟨solid_tFact db[k], ?_⟩⟩
     conv => whnf
     refine ⟨by omega, by rw [rows_len tFact_len, List.length_append]; rw [hn]; rfl, _, snoc_rows tFact _ db[k], ?_⟩
     conv => whnf
     refine ⟨m - 1, by omega, k + 1, _, true, _, _, _, wrap_id (by omega) (by omega), by omega, ?_, ?_, ?_, rfl, rfl⟩
     ·rw [hj]; simp
     ·simp [hn]
     ·simp only [Bool.toNat_true]; omega
 ·conv => whnf
  rw [drop_end (by omega)] at hj
  cases p with
  | true =>
   conv => whnf
   simp only [putGo, if_true, List.append_nil] at hj
   rw [hj]
   refine ⟨by rw [rows_len tFact_len, hn], ?_⟩
   subst hn
   rfl
  | false =>
   conv => whnf
   simp only [putGo, Bool.false_eq_true, if_false] at hj
   simp only [Bool.toNat_false] at hnk
   refine ⟨_, l5Copy_spec f (by omega), .inl rfl, .inr ?_⟩
   conv => whnf
   refine ⟨by rw [rows_len ciL_len], ?_⟩
   conv => whnf
   refine ⟨_, rfl, .inr ⟨solid_tFact f, ?_⟩⟩
   conv => whnf
   refine ⟨by omega, by rw [rows_len tFact_len]; rw [hn], _, snoc_rows tFact _ f, ?_⟩
   conv => whnf
   rw [hj]
   subst hn
   refine ⟨by rw [rows_len tFact_len, List.length_append]; rfl, ?_⟩
   show V.tr 2 (o.length + 1) _ = wFactS _
   rw [wFactS, List.length_append]
   rfl
end Go.Proofs.YtcjdfeafcmfgpaaGreatD
namespace Go.Proofs.YtcjdfeafcmfgpaaGreatD
open Go Go.Proofs
structure Tot {α : Type} (lt : α → α → Bool) : Prop where
 irr : ∀ a, lt a a = false
 tr : ∀ a b c, lt a b = true → lt b c = true → lt a c = true
 tri : ∀ a b, lt a b = true ∨ a = b ∨ lt b a = true
section
variable {α : Type} {lt : α → α → Bool}
def Strict (lt : α → α → Bool) (l : List α) : Prop := l.Pairwise fun a b => lt a b = true
end
theorem cmpI_anti : ∀ xs ys : List Int, cmpI ys xs = - cmpI xs ys
 | [], [] => rfl
 | [], _ :: _ => rfl
 | _ :: _, [] => rfl
 | x :: xs, y :: ys => by
  simp only [cmpI]
  have := cmpI_anti xs ys
  rcases Int.lt_trichotomy x y with h | h | h
  ·rw [if_neg (by omega), if_pos h, if_pos h]; omega
  ·subst h; simp [this]
  ·rw [if_pos h, if_neg (by omega), if_pos h]
theorem cmpI_zero : ∀ xs ys : List Int, cmpI xs ys = 0 → xs = ys
 | [], [], _ => rfl
 | [], _ :: _, h => by simp [cmpI] at h
 | _ :: _, [], h => by simp [cmpI] at h
 | x :: xs, y :: ys, h => by
  simp only [cmpI] at h
  split at h
  ·omega
  ·split at h
   ·omega
   ·rw [cmpI_zero xs ys h, show x = y from by omega]
theorem cmpI_self (xs : List Int) : cmpI xs xs = 0 := by have := cmpI_anti xs xs; omega
theorem ltI_iff : ∀ xs ys : List Int, ltI xs ys = true ↔ cmpI xs ys < 0
 | [], [] => by simp [ltI, cmpI]
 | [], _ :: _ => by simp [ltI, cmpI]
 | _ :: _, [] => by simp [ltI, cmpI]
 | x :: xs, y :: ys => by
  simp only [ltI, cmpI]
  have ih := ltI_iff xs ys
  split
  ·rename_i h
   rw [if_neg (by omega), if_neg (by omega)]; exact ih
  ·rename_i h
   simp only [decide_eq_true_eq]
   constructor
   ·intro h1; rw [if_pos h1]; omega
   ·intro h1
    split at h1
    ·assumption
    ·rw [if_pos (by omega)] at h1; omega
theorem ltI_cmp (xs ys : List Int) : ltI xs ys = decide (cmpI xs ys < 0) := by
 rw [Bool.eq_iff_iff, ltI_iff, decide_eq_true_eq]
theorem cmpI_tr : ∀ xs ys zs : List Int, cmpI xs ys < 0 → cmpI ys zs < 0 → cmpI xs zs < 0
 | _, ys, [], _, h2 => by cases ys <;> simp [cmpI] at h2
 | [], _, _ :: _, _, _ => by simp [cmpI]
 | x :: xs, [], z :: zs, h1, _ => by simp [cmpI] at h1
 | x :: xs, y :: ys, z :: zs, h1, h2 => by
  have ih := cmpI_tr xs ys zs
  simp only [cmpI] at h1 h2 ⊢
  split at h1 <;> split at h2 <;> (try split at h1) <;> (try split at h2) <;> (split <;> try split) <;> first | omega | exact ih h1 h2
theorem totI : Tot ltI where
 irr := fun a => by rw [ltI_cmp, cmpI_self]; rfl
 tr := fun a b c h1 h2 => by rw [ltI_cmp] at h1 h2 ⊢; exact decide_eq_true (cmpI_tr a b c (of_decide_eq_true h1) (of_decide_eq_true h2))
 tri := fun a b => by
  rw [ltI_cmp, ltI_cmp, cmpI_anti a b]
  by_cases h : cmpI a b = 0
  ·exact .inr (.inl (cmpI_zero a b h))
  ·by_cases h1 : cmpI a b < 0
   ·exact .inl (decide_eq_true h1)
   ·exact .inr (.inr (decide_eq_true (by omega)))
theorem totF : Tot ltF where
 irr := fun a => by unfold ltF; rw [if_pos rfl, totI.irr]
 tr := fun a b c h1 h2 => by
  unfold ltF at h1 h2 ⊢
  split at h1 <;> split at h2 <;> split <;> first
   | exact totI.tr _ _ _ h1 h2
   | (have h1 := of_decide_eq_true h1; have h2 := of_decide_eq_true h2; first | omega | exact decide_eq_true (by omega))
   | (have h1 := of_decide_eq_true h1; first | omega | exact decide_eq_true (by omega))
   | (have h2 := of_decide_eq_true h2; first | omega | exact decide_eq_true (by omega))
   | omega
 tri := fun a b => by
  unfold ltF
  rcases Int.lt_trichotomy a.1 b.1 with h | h | h
  ·rw [if_neg (by omega)]; exact .inl (decide_eq_true h)
  ·rw [if_pos h, if_pos h.symm]
   rcases totI.tri a.2 b.2 with h1 | h1 | h1
   ·exact .inl h1
   ·exact .inr (.inl (Prod.ext h h1))
   ·exact .inr (.inr h1)
  ·rw [if_neg (by omega), if_neg (by omega)]; exact .inr (.inr (decide_eq_true h))
theorem putGo_false (f : FactC) : ∀ (l : List FactC), Strict ltF l → Strict ltF (putGo f false l) ∧ ∀ a, a ∈ putGo f false l ↔ a = f ∨ a ∈ l
 | [], _ => ⟨by simp [putGo, Strict], fun a => by simp [putGo]⟩
 | x :: r, hs => by
  obtain ⟨hx, hr⟩ := List.pairwise_cons.1 hs
  obtain ⟨i1, i2⟩ := putGo_false f r hr
  simp only [putGo, Bool.not_false, Bool.true_and]
  cases hxf : ltF x f with
  | true =>
   simp only [Bool.not_true, Bool.false_eq_true, if_false]
   refine ⟨List.pairwise_cons.2 ⟨fun a ha => ?_, i1⟩, fun a => ?_⟩
   ·rcases (i2 a).1 ha with rfl | h1
    ·exact hxf
    ·exact hx a h1
   ·simp only [List.mem_cons, i2 a]
    constructor
    ·rintro (h1 | h1 | h1) <;> simp [h1]
    ·rintro (h1 | h1 | h1) <;> simp [h1]
  | false =>
   simp only [Bool.not_false, if_true, putGo_true]
   by_cases e : x = f
   ·subst e
    simp only [eqF, decide_true, if_true, List.nil_append]
    exact ⟨hs, fun a => by simp⟩
   ·simp only [eqF, e, decide_false, Bool.false_eq_true, if_false, List.singleton_append]
    have hfx : ltF f x = true := by
     rcases totF.tri f x with h1 | h1 | h1
     ·exact h1
     ·exact absurd h1.symm e
     ·rw [hxf] at h1; cases h1
    refine ⟨List.pairwise_cons.2 ⟨fun a ha => ?_, hs⟩, fun a => by simp⟩
    rcases List.mem_cons.1 ha with rfl | h1
    ·exact hfx
    ·exact totF.tr _ _ _ hfx (hx a h1)
theorem putAll : ∀ (fs db : List FactC), Strict ltF db → Strict ltF (fs.foldl putF db) ∧ ∀ a, a ∈ fs.foldl putF db ↔ a ∈ fs ∨ a ∈ db
 | [], db, hs => ⟨hs, fun a => by simp⟩
 | f :: fs, db, hs => by
  obtain ⟨h1, h2⟩ := putGo_false f db hs
  obtain ⟨i1, i2⟩ := putAll fs (putF db f) h1
  refine ⟨i1, fun a => ?_⟩
  rw [List.foldl_cons, i2 a]
  have := h2 a
  simp only [putF, List.mem_cons, this]
  constructor
  ·rintro (h | h | h) <;> simp [h]
  ·rintro ((h | h) | h) <;> simp [h]
end Go.Proofs.YtcjdfeafcmfgpaaGreatD
namespace Go.Proofs.YtcjdfeafcmfgpaaGreatD
open Go Go.Proofs
section
variable {α : Type} {lt : α → α → Bool}
variable [DecidableEq α]
end
end Go.Proofs.YtcjdfeafcmfgpaaGreatD
namespace Go.Proofs.YtcjdfeafcmfgpaaGreatD
open Go Go.Proofs Go.Shelf
end Go.Proofs.YtcjdfeafcmfgpaaGreatD
namespace Go.Proofs.YtcjdfeafcmfgpaaGreatD
open Go Go.Proofs Go.RowKit Go.Shelf Go.Sort Go.Lib
end Go.Proofs.YtcjdfeafcmfgpaaGreatD
namespace Go.Proofs.YtcjdfeafcmfgpaaGreatD
open Go Go.Proofs
abbrev Bnd := Nat → Option Int
def ba (b : Bnd) (k : Nat) : Int := (b k).getD 0
def bs (b : Bnd) (k : Nat) : Bool := (b k).isSome
def bset (b : Bnd) (k : Nat) (v : Int) : Bnd := fun i => if i = k then some v else b i
theorem take1 {cs : List V} {i : Nat} {v : V} (h : cs[i]? = some v) : takeN cs i 1 = some [v] := by
 have hl := (List.getElem?_eq_some_iff.1 h).1
 refine takeN_eq (by omega) ?_
 rw [List.drop_eq_getElem_cons hl]
 simp [(List.getElem?_eq_some_iff.1 h).2]
def valOf (b : Bnd) (t : Int) : Int := if isVar t then ba b t.toNat else constOf t
def tupOf (b : Bnd) (h : List Int) : List Int := h.map (valOf b)
def bindGo : List Int → List Int → Bnd → Bnd × Bool
 | t :: ts, v :: vs, b => if t < 0 then (if -1 - t = v then bindGo ts vs b else (b, false)) else match b t.toNat with
  | none => bindGo ts vs (bset b t.toNat v)
  | some u => if u = v then bindGo ts vs b else (b, false)
 | _, _, b => (b, true)
def mch (b : Bnd) (a f : FactC) : Bnd × Bool := if a.1 = f.1 ∧ a.2.length = f.2.length then bindGo a.2 f.2 b else (b, false)
def bNone : Bnd := fun _ => none
abbrev QueryE := List Int × List FactC
def tL (xs : List Int) : List V := [intsT xs]
theorem tL_len (xs : List Int) : (tL xs).length = 1 := rfl
theorem solid_tL (xs : List Int) : ∀ c ∈ tL xs, solid c = true := by
 intro c hc
 simp only [tL, List.mem_cons, List.not_mem_nil, or_false] at hc
 subst hc; rfl
theorem closed_intsT (xs : List Int) : closed (intsT xs) := closeds_rows (f := ciL) (fun x => ⟨trivial, trivial⟩) xs
def visitL (db : List FactC) : List FactC → Bnd → List Bnd
 | [], b => [b]
 | a :: r, b => db.flatMap fun f => if (mch b a f).2 then visitL db r (mch b a f).1 else []
theorem visitL_len (db : List FactC) : ∀ (body : List FactC) (b : Bnd), (visitL db body b).length ≤ db.length ^ body.length
 | [], b => by simp [visitL]
 | a :: r, b => by
  have ih := visitL_len db r
  simp only [visitL, List.length_cons, Nat.pow_succ]
  have : ∀ l : List FactC, (l.flatMap fun f => if (mch b a f).2 then visitL db r (mch b a f).1 else []).length ≤ db.length ^ r.length * l.length := by
   intro l
   induction l with
   | nil => simp
   | cons f l il =>
    rw [List.flatMap_cons, List.length_append, List.length_cons, Nat.mul_add, Nat.mul_one]
    have h1 : (if (mch b a f).2 then visitL db r (mch b a f).1 else []).length ≤ db.length ^ r.length := by
     split
     ·exact ih _
     ·exact Nat.zero_le _
    omega
  exact this db
end Go.Proofs.YtcjdfeafcmfgpaaGreatD
namespace Go.Proofs.YtcjdfeafcmfgpaaGreatD
open Go Go.Proofs Go.Shelf Go.Sort
theorem tL_ro (x : List Int) : roV (intsT x) = ints x := by
 show V.ro _ (roVs _) = _
 rw [roVs_ci]; rfl
end Go.Proofs.YtcjdfeafcmfgpaaGreatD
namespace Go.Proofs.YtcjdfeafcmfgpaaGreatD
open Go Go.Proofs
def wLists (xs : List (List Int)) : V := .tr 1 xs.length (rows tL xs)
end Go.Proofs.YtcjdfeafcmfgpaaGreatD
