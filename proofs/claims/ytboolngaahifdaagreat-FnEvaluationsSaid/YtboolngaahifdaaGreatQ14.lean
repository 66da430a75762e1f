/- Contracts and plain laws of this seat; no condition. -/
import Derived.Test.YtboolngaahifdaaGreatQ13
import Derived.Test.YtboolngaahifdaaGreatQ11
set_option linter.unusedVariables false
set_option linter.unusedSimpArgs false
set_option maxRecDepth 100000
namespace Go.Proofs.YtboolngaahifdaaGreatD
open Go Go.Proofs
def bvS (acc : List Int) (t : Int) : List Int := if decide (t ≥ 0) && !has acc t then acc ++ [t] else acc
def termsL (as' : List AtomT) : List Int := as'.flatMap (·.2)
def bodyVars (q : QueryT) : List Int := (termsL q.2).foldl bvS []
theorem has_append (xs ys : List Int) (v : Int) : has (xs ++ ys) v = (has xs v || has ys v) := List.any_append
theorem has_one (t x : Int) : has [t] x = (t == x) := by
 show ((t == x) || false) = _
 rw [Bool.or_false]
theorem has_bvS (acc : List Int) (t x : Int) : has (bvS acc t) x = (has acc x || (decide (x ≥ 0) && (t == x))) := by
 unfold bvS
 by_cases h : t = x
 ·subst h
  rw [beq_self_eq_true, Bool.and_true]
  cases h1 : decide (t ≥ 0) with
  | false => simp
  | true =>
   cases h2 : has acc t with
   | true => simp [h2]
   | false => simp [has_append, has_one, h2]
 ·have hb : (t == x) = false := by rw [beq_eq_false_iff_ne]; exact h
  rw [hb, Bool.and_false, Bool.or_false]
  split
  ·rw [has_append, has_one, hb, Bool.or_false]
  ·rfl
theorem has_fold (x : Int) : ∀ (ts acc : List Int), has (ts.foldl bvS acc) x = (has acc x || (decide (x ≥ 0) && has ts x))
 | [], acc => by
  show has acc x = (has acc x || (decide (x ≥ 0) && false))
  rw [Bool.and_false, Bool.or_false]
 | t :: ts, acc => by
  rw [List.foldl_cons, has_fold x ts, has_bvS]
  show _ = (has acc x || (decide (x ≥ 0) && ((t == x) || has ts x)))
  cases has acc x <;> cases decide (x ≥ 0) <;> rfl
theorem has_termsL (x : Int) : ∀ l : List AtomT, has (termsL l) x = l.any (hasA x)
 | [] => rfl
 | a :: l => by
  show has (a.2 ++ termsL l) x = _
  rw [has_append, has_termsL x l]
  rfl
theorem has_bodyVars (q : QueryT) (x : Int) (h : isVar x = true) : has (bodyVars q) x = occurs q x := by
 have hr : 0 ≤ x ∧ x ≤ 19 := by simpa [isVar, inR] using h
 rw [bodyVars, has_fold, has_termsL, decide_eq_true (by omega), Bool.true_and]
 rfl
theorem bodyVars_len (q : QueryT) : ∀ (ts acc : List Int), (ts.foldl bvS acc).length ≤ acc.length + ts.length
 | [], acc => Nat.le_refl _
 | t :: ts, acc => by
  have := bodyVars_len q ts (bvS acc t)
  have h2 : (bvS acc t).length ≤ acc.length + 1 := by unfold bvS; split <;> simp
  rw [List.foldl_cons, List.length_cons]
  omega
theorem termsL_len : ∀ l : List AtomT, (termsL l).length = sumB cAtom l
 | [] => rfl
 | a :: l => by
  show (a.2 ++ termsL l).length = _
  rw [List.length_append, termsL_len l]
  rfl
set_option maxHeartbeats 1000000 in
theorem bodyVars_spec (q : QueryT) (h : cQuery q ≤ 1048576) : Spec Tryz.prog 91 [vQuery q] (intsT (bodyVars q)) := by
 unfold cQuery cAtomS at h
 refine Spec_of mx Γ_ok Tryz.func91 rfl ?_
 conv => whnf
 refine ⟨[(1,0),(2,0),(3,0),(4,0)], fun m s => ∃ (k : Nat) (e : Int) (acc : List Int) (n : Nat) (r : List V), e = k ∧ m + k = q.2.length ∧ bodyVars q = (termsL (q.2.drop k)).foldl bvS acc ∧ acc.length + sumB cAtom (q.2.drop k) ≤ 1048576 ∧ n = acc.length ∧ r = rows ciL acc ∧
  s = ⟨48, [(1, .ptr 0 0), (2, cnil), (3, .own 1 1 0 n n none), (4, ci e)], [some ⟨true, rQuery q⟩, some ⟨false, r⟩]⟩, q.2.length, ⟨0, 0, [], 0, _, rfl, rfl, rfl, by simp; omega, rfl, rfl, rfl⟩, ?_⟩
 rintro m s ⟨k, _, acc, n, _, rfl, hm, hbv, hlen, hn, rfl, rfl⟩
 conv => whnf
 split <;> rename_i h1
 all_goals simp only [decide_eq_true_eq, decide_eq_false_iff_not] at h1
 ·conv => whnf
  have hk : k < q.2.length := by omega
  have hb := sumB_one (f := cAtom) hk
  have hcb : cAtom q.2[k] = q.2[k].2.length := rfl
  rw [List.drop_eq_getElem_cons hk] at hbv hlen
  refine ⟨[(1,0),(2,0),(3,0),(4,0),(5,0)], fun m s => ∃ (j : Nat) (e : Int) (acc : List Int) (n : Nat) (r : List V), e = j ∧ m + j = q.2[k].2.length ∧ bodyVars q = (termsL (q.2.drop (k + 1))).foldl bvS ((q.2[k].2.drop j).foldl bvS acc) ∧ acc.length + m + sumB cAtom (q.2.drop (k + 1)) ≤ 1048576 ∧ n = acc.length ∧ r = rows ciL acc ∧
   s = ⟨48, [(1, .ptr 0 0), (2, cnil), (3, .own 1 1 0 n n none), (4, ci k), (5, ci e)], [some ⟨true, rQuery q⟩, some ⟨false, r⟩]⟩, q.2[k].2.length, ⟨0, 0, acc, n, _, rfl, rfl, ?_, ?_, hn, rfl, rfl⟩, ?_⟩
  ·rw [hbv]
   show ((q.2[k].2 ++ termsL (q.2.drop (k + 1))).foldl bvS acc) = _
   rw [List.foldl_append]
   rfl
  ·have : cAtom q.2[k] = q.2[k].2.length := rfl
   simp only [sumB] at hlen
   omega
  clear hbv hlen hn
  rintro m' s ⟨j, _, acc, n, _, rfl, hm', hbv, hlen, hn, rfl, rfl⟩
  conv => whnf
  refine ⟨by omega, rows_len rAtom_len _, ?_⟩
  conv => whnf
  refine ⟨_, takeN_rp_field (k := k) (d := 1) (m := 1) (r := [ints q.2[k].2]) rAtom_len hk (by omega) rfl, ?_⟩
  conv => whnf
  split <;> rename_i h2
  all_goals simp only [decide_eq_true_eq, decide_eq_false_iff_not] at h2
  ·conv => whnf
   have hj : j < q.2[k].2.length := by omega
   rw [List.drop_eq_getElem_cons hj, List.foldl_cons] at hbv
   refine ⟨by omega, rows_len rAtom_len _, ?_⟩
   conv => whnf
   refine ⟨_, takeN_rp_field (k := k) (d := 1) (m := 1) (r := [ints q.2[k].2]) rAtom_len hk (by omega) rfl, ?_⟩
   conv => whnf
   refine ⟨by omega, rows_len ciL_len _, ?_⟩
   conv => whnf
   refine ⟨_, takeN_rp (k := j) ciL_len hj, ?_⟩
   conv => whnf
   rw [bvS] at hbv
   generalize hb1 : decide (q.2[k].2[j] ≥ 0) = b1
   rw [hb1] at hbv
   cases b1 with
   | false =>
    conv => whnf
    exact ⟨m' - 1, by omega, j + 1, _, acc, n, _, wrap_id (by omega) (by omega), by omega, hbv, by omega, hn, rfl, rfl⟩
   | true =>
   conv => whnf
   refine .inl ?_
   conv => whnf
   refine ⟨_, _, takeN_all (by rw [rows_len ciL_len, hn]), roVs_ci _, ?_⟩
   conv => whnf
   subst hn
   refine ⟨_, l2Has_spec acc q.2[k].2[j] (by omega), .inr trivial, .inl ?_⟩
   conv => whnf
   generalize has acc q.2[k].2[j] = b2 at hbv
   cases b2 with
   | true =>
    conv => whnf
    exact ⟨m' - 1, by omega, j + 1, _, acc, _, _, wrap_id (by omega) (by omega), by omega, hbv, by omega, rfl, rfl, rfl⟩
   | false =>
    conv => whnf
    refine ⟨_, rfl, .inl ⟨flat1 rfl, ?_⟩⟩
    conv => whnf
    refine ⟨by omega, rows_len ciL_len _, _, snoc_ci _ _, ?_⟩
    conv => whnf
    refine ⟨m' - 1, by omega, j + 1, _, acc ++ [q.2[k].2[j]], _, _, wrap_id (by omega) (by omega), by omega, hbv, ?_, ?_, rfl, rfl⟩
    ·rw [List.length_append, List.length_singleton]
     omega
    ·rw [List.length_append]
     rfl
  ·conv => whnf
   rw [drop_end (by omega), List.foldl_nil] at hbv
   exact ⟨m - 1, by omega, k + 1, _, acc, n, _, wrap_id (by omega) (by omega), by omega, hbv, by omega, hn, rfl, rfl⟩
 ·conv => whnf
  rw [drop_end (by omega)] at hbv
  subst hn
  refine ⟨by rw [rows_len ciL_len], ?_⟩
  rw [hbv]
  rfl
set_option maxHeartbeats 1000000 in
theorem l4Fine_spec (s : List Int) (q : QueryT) (n : Int) (hs : cSchema s ≤ 1048576) (h : cQuery q ≤ 1048576) : Spec Tryz.prog 92 [vSchema s, vQuery q, ci n] (cb (fineQ s q n)) := by
 unfold cSchema at hs
 have h' := h
 unfold cQuery cAtomS at h'
 refine Spec_of mx Γ_ok Tryz.func92 rfl ?_
 conv => whnf
 refine ⟨_, specIsSchema_spec s (by omega), .inl rfl, .inl ?_⟩
 conv => whnf
 unfold fineQ
 generalize isSchema s = b1
 cases b1 with
 | false =>
  conv => whnf
  rfl
 | true =>
 conv => whnf
 refine ⟨_, l3Terms_spec q.1 (by omega), .inl rfl, .inl ?_⟩
 conv => whnf
 generalize terms3 q.1 = b3
 cases b3 with
 | false =>
  conv => whnf
  rfl
 | true =>
 conv => whnf
 refine ⟨_, l1In_spec (q.2.length : Int) 1 n, .inl rfl, .inl ?_⟩
 conv => whnf
 generalize inR (q.2.length : Int) 1 n = b4
 cases b4 with
 | false =>
  conv => whnf
  rfl
 | true =>
 conv => whnf
 refine ⟨[(3,0),(4,0),(6,0),(7,0)], fun m st => ∃ (k : Nat) (e : Int), e = k ∧ m + k = q.2.length ∧ q.2.all (isAtom s) = (q.2.drop k).all (isAtom s) ∧
  st = ⟨65, [(3, .ptr 0 0), (4, .ptr 1 0), (6, cb false), (7, ci e)], [some ⟨true, [ints s]⟩, some ⟨true, rQuery q⟩]⟩, q.2.length, ⟨0, 0, rfl, rfl, rfl, rfl⟩, ?_⟩
 rintro m st ⟨k, _, rfl, hm, hj, rfl⟩
 conv => whnf
 split <;> rename_i h1
 all_goals simp only [decide_eq_true_eq, decide_eq_false_iff_not] at h1
 ·conv => whnf
  have hk : k < q.2.length := by omega
  have hb := sumB_one (f := cAtom) hk
  have hcb : cAtom q.2[k] = q.2[k].2.length := rfl
  rw [drop_all hk] at hj
  refine ⟨List.range 8, by kernel_rfl, ?_⟩
  conv => whnf
  refine ⟨by omega, rows_len rAtom_len _, ?_⟩
  conv => whnf
  refine ⟨_, takeN_rp (k := k) rAtom_len hk, ?_⟩
  conv => whnf
  refine ⟨_, specIsAtom_spec s q.2[k] (by omega) (by omega), .inl rfl, .inl ?_⟩
  conv => whnf
  generalize isAtom s q.2[k] = b5 at hj
  cases b5 with
  | false =>
   conv => whnf
   rw [hj]
   rfl
  | true =>
   conv => whnf
   rw [Bool.true_and] at hj
   exact ⟨m - 1, by omega, k + 1, _, wrap_id (by omega) (by omega), by omega, hj, rfl⟩
 ·conv => whnf
  rw [drop_end (by omega)] at hj
  rw [hj]
  clear hj
  refine ⟨[(4,0),(6,0),(8,0)], fun m st => ∃ (k : Nat) (e : Int), e = k ∧ m + k = q.1.length ∧ q.1.all (safeV q) = (q.1.drop k).all (safeV q) ∧
   st = ⟨65, [(4, .ptr 0 0), (6, cb false), (8, ci e)], [some ⟨true, rQuery q⟩]⟩, q.1.length, ⟨0, 0, rfl, rfl, rfl, rfl⟩, ?_⟩
  rintro m1 st ⟨j, _, rfl, hm1, hj, rfl⟩
  conv => whnf
  split <;> rename_i h2
  all_goals simp only [decide_eq_true_eq, decide_eq_false_iff_not] at h2
  ·conv => whnf
   have hjl : j < q.1.length := by omega
   rw [drop_all hjl, safeV] at hj
   have hbl : (bodyVars q).length ≤ 1048576 := by
    have h1 := bodyVars_len q (termsL q.2) []
    rw [termsL_len] at h1
    simp only [List.length_nil] at h1
    unfold bodyVars
    omega
   refine ⟨[0,1,2,3,4,5,6,7,9,10,11,12,13,8,14,15,16], by kernel_rfl, ?_⟩
   conv => whnf
   refine ⟨by omega, rows_len ciL_len _, ?_⟩
   conv => whnf
   refine ⟨_, takeN_rp (k := j) ciL_len hjl, ?_⟩
   conv => whnf
   refine ⟨_, specIsVar_spec q.1[j], .inl rfl, .inl ?_⟩
   conv => whnf
   generalize hb1 : isVar q.1[j] = b1
   rw [hb1] at hj
   cases b1 with
   | false =>
    conv => whnf
    exact ⟨m1 - 1, by omega, j + 1, _, wrap_id (by omega) (by omega), by omega, hj, rfl⟩
   | true =>
   conv => whnf
   refine ⟨by omega, rows_len ciL_len _, ?_⟩
   conv => whnf
   refine ⟨_, takeN_rp (k := j) ciL_len hjl, ?_⟩
   conv => whnf
   refine ⟨_, bodyVars_spec q h, .inl rfl, .inl ?_⟩
   rw [intsT_ro]
   conv => whnf
   refine ⟨_, l2Has_spec (bodyVars q) q.1[j] (by omega), .inl rfl, .inl ?_⟩
   conv => whnf
   rw [has_bodyVars q _ hb1]
   generalize occurs q q.1[j] = b2 at hj
   cases b2 with
   | false =>
    conv => whnf
    rw [hj]
    rfl
   | true =>
    conv => whnf
    exact ⟨m1 - 1, by omega, j + 1, _, wrap_id (by omega) (by omega), by omega, hj, rfl⟩
  ·conv => whnf
   rw [hj, drop_end (by omega)]
   rfl
theorem specIsQuery_spec (s : List Int) (q : QueryT) (hs : cSchema s ≤ 1048576) (h : cQuery q ≤ 1048576) : Spec Tryz.prog 25 [vSchema s, vQuery q] (cb (isQuery s q)) := by
 refine Spec_of mx Γ_ok Tryz.func25 rfl ?_
 conv => whnf
 refine ⟨_, l4Fine_spec s q 4 hs h, .inl rfl, .inl ?_⟩
 conv => whnf
 rfl
abbrev AtomD := Int × List Int
abbrev QueryW := List Int × List AtomD
def gC (c : Cur) : List (Option Obj) := [some ⟨false, curC c⟩]
theorem l2Term_g (c : Cur) (h : goodC c) : SpecG Tryz.prog 195 [.ptr 0 0] (gC c) fun r g2 => ∃ (t : Int) (c' : Cur), r = ci t ∧ goodC c' ∧ g2 = gC c' := by
 unfold gC
 refine SpecG_of mx Γ_ok 1 Tryz.func195 rfl rfl (by decide) ?_
 conv => whnf
 refine .inr (.inl ?_)
 conv => whnf
 refine ⟨curC_ne c, ?_⟩
 conv => whnf
 refine ⟨_, _, _, l1Once_spec c 4 h (by omega), ?_⟩
 conv => whnf
 refine .inl ?_
 conv => whnf
 have h1 := belowP_good h 4
 generalize (belowP c 4).2 = c1 at h1 ⊢
 generalize ((belowP c 4).1 == 0) = b
 cases b with
 | true =>
  conv => whnf
  refine .inr (.inl ?_)
  conv => whnf
  refine ⟨curC_ne c1, ?_⟩
  conv => whnf
  refine ⟨_, _, _, l1Below_spec c1 3 h1 (by omega), ?_⟩
  conv => whnf
  refine .inl ?_
  conv => whnf
  refine ⟨[], ?_⟩
  conv => whnf
  exact ⟨_, _, rfl, belowP_good h1 3, rfl⟩
 | false =>
  conv => whnf
  refine .inr (.inl ?_)
  conv => whnf
  refine ⟨curC_ne c1, ?_⟩
  conv => whnf
  refine ⟨_, _, _, l1Below_spec c1 4 h1 (by omega), ?_⟩
  conv => whnf
  refine .inl ?_
  conv => whnf
  refine ⟨[], ?_⟩
  conv => whnf
  exact ⟨_, _, rfl, belowP_good h1 4, rfl⟩
theorem l2Any_g (c : Cur) (h : goodC c) : SpecG Tryz.prog 141 [.ptr 0 0] (gC c) fun r g2 => ∃ (t : Int) (c' : Cur), r = ci t ∧ goodC c' ∧ g2 = gC c' := by
 unfold gC
 refine SpecG_of mx Γ_ok 1 Tryz.func141 rfl rfl (by decide) ?_
 conv => whnf
 refine .inr (.inl ?_)
 conv => whnf
 refine ⟨curC_ne c, ?_⟩
 conv => whnf
 refine ⟨_, _, _, l1Once_spec c 6 h (by omega), ?_⟩
 conv => whnf
 refine .inl ?_
 conv => whnf
 have h1 := belowP_good h 6
 generalize (belowP c 6).2 = c1 at h1 ⊢
 generalize ((belowP c 6).1 == 0) = b
 cases b with
 | true =>
  conv => whnf
  refine .inr (.inl ?_)
  conv => whnf
  refine ⟨curC_ne c1, ?_⟩
  conv => whnf
  refine ⟨rfl, ?_⟩
  conv => whnf
  refine ⟨_, _, _, l1PickInt_spec c1 [19, 20, -80, -81, -1, 99] h1 (by decide) (by decide), ?_⟩
  conv => whnf
  refine .inl ?_
  conv => whnf
  refine ⟨[], ?_⟩
  conv => whnf
  exact ⟨_, _, rfl, belowP_good h1 6, rfl⟩
 | false =>
  conv => whnf
  refine .inr (.inr ⟨[0], [], ?_⟩)
  conv => whnf
  refine ⟨_, l2Term_g c1 h1, fun r g2 hP => ?_⟩
  obtain ⟨t, c2, rfl, h2, rfl⟩ := hP
  refine .inl ?_
  conv => whnf
  refine ⟨[], ?_⟩
  conv => whnf
  exact ⟨_, _, rfl, h2, rfl⟩
set_option maxHeartbeats 2000000 in
theorem l3Atom_g (s : List Int) (c : Cur) (hs : sOk s) (h : goodC c) : SpecG Tryz.prog 192 [.ptr 0 0, vSchema s] (gC c) fun r g2 => ∃ (a : AtomD) (c' : Cur), r = wAtom a ∧ a.2.length ≤ 3 ∧ goodC c' ∧ g2 = gC c' := by
 unfold gC
 have hsl := hs.2.2
 refine SpecG_of mx Γ_ok 1 Tryz.func192 rfl rfl (by decide) ?_
 conv => whnf
 refine .inr (.inl ?_)
 conv => whnf
 refine ⟨curC_ne c, ?_⟩
 conv => whnf
 refine ⟨_, _, _, l1Below_spec c s.length h (by omega), ?_⟩
 conv => whnf
 refine .inl ?_
 conv => whnf
 obtain ⟨q, hq, hql⟩ := below_idx hs c
 have hat := sOk_at hs hql
 rw [hq]
 have hc := belowP_good h s.length
 generalize (belowP c s.length).2 = c0 at hc ⊢
 obtain ⟨N, hN⟩ : ∃ N : Nat, s[q] = N := ⟨s[q].toNat, by omega⟩
 have hN3 : N ≤ 3 := by omega
 refine ⟨[(0,0),(3,0),(4,0),(5,201),(6,0)], fun m st => ∃ (i : Nat) (e : Int) (a : List Int) (c1 : Cur) (k : Nat) (cc r : List V), e = i ∧ m + i = N ∧ goodC c1 ∧ k = a.length ∧ a.length = i ∧ cc = curC c1 ∧ r = rows ciL a ∧
  st = ⟨33, [(0, .ptr 0 0), (3, .ptr 1 0), (4, .ptr 2 0), (5, .ptr 3 0), (6, ci e)], [some ⟨false, cc⟩, some ⟨true, [ints s]⟩, some ⟨true, [ci 0, cnil]⟩, some ⟨true, [ci q, .own 4 1 0 k k none]⟩, some ⟨false, r⟩]⟩, N, ⟨0, 0, [], c0, 0, _, _, rfl, by omega, hc, rfl, rfl, rfl, rfl, by kernel_rfl⟩, ?_⟩
 rintro m st ⟨i, _, a, c1, k, _, _, rfl, hm, hc1, hk, hai, rfl, rfl, rfl⟩
 conv => whnf
 refine ⟨by omega, rows_len ciL_len _, ?_⟩
 conv => whnf
 refine ⟨_, takeN_rp (k := q) ciL_len hql, ?_⟩
 rw [hN]
 conv => whnf
 split <;> rename_i h1
 all_goals simp only [decide_eq_true_eq, decide_eq_false_iff_not] at h1
 ·conv => whnf
  refine .inr (.inr ⟨[0], [], ?_⟩)
  conv => whnf
  refine ⟨_, l2Term_g c1 hc1, fun r g2 hP => ?_⟩
  obtain ⟨t, c2, rfl, h2, rfl⟩ := hP
  refine .inl ?_
  conv => whnf
  refine ⟨_, rfl, .inl ⟨flat1 rfl, ?_⟩⟩
  conv => whnf
  refine ⟨by omega, by rw [rows_len ciL_len, hk], _, snoc_ci _ _, ?_⟩
  conv => whnf
  exact ⟨m - 1, by omega, i + 1, IntKind.i64.wrap ((i : Int) + 1), a ++ [t], c2, k + 1, curC c2, rows ciL (a ++ [t]), wrap_id (by omega) (by omega), by omega, h2, by simp [hk], by simp [hai], rfl, rfl, by kernel_rfl⟩
 ·conv => whnf
  refine ⟨[], ?_⟩
  conv => whnf
  subst hk
  refine ⟨by rw [rows_len ciL_len], ?_⟩
  exact ⟨((q : Int), a), c1, rfl, by show a.length ≤ 3; omega, hc1, rfl⟩
set_option maxHeartbeats 2000000 in
theorem l3Any_g (c : Cur) (h : goodC c) : SpecG Tryz.prog 143 [.ptr 0 0] (gC c) fun r g2 => ∃ (s : List Int) (c' : Cur), r = wSchema s ∧ s.length ≤ 8 ∧ goodC c' ∧ g2 = gC c' := by
 unfold gC
 refine SpecG_of mx Γ_ok 1 Tryz.func143 rfl rfl (by decide) ?_
 conv => whnf
 refine .inr (.inl ?_)
 conv => whnf
 refine ⟨curC_ne c, ?_⟩
 conv => whnf
 refine ⟨_, _, _, l3Schema_spec c h, ?_⟩
 conv => whnf
 refine .inr ?_
 conv => whnf
 obtain ⟨h1, s1, s2, s3⟩ := schP_ok h
 generalize (schP c).2 = c1 at h1 ⊢
 generalize (schP c).1 = s at s3 ⊢
 refine .inr (.inl ?_)
 conv => whnf
 refine ⟨curC_ne c1, ?_⟩
 conv => whnf
 refine ⟨_, _, _, l1Below_spec c1 10 h1 (by omega), ?_⟩
 conv => whnf
 refine .inl ?_
 conv => whnf
 have h2 := belowP_good h1 10
 generalize (belowP c1 10).2 = c2 at h2 ⊢
 generalize (belowP c1 10).1 = v
 generalize (v == 0) = b0
 cases b0 with
 | true =>
  conv => whnf
  refine ⟨[1001, 0, 1, 2, 3, 4, 5, 6, 7, 8, 1000, 1000], by kernel_rfl, ?_⟩
  conv => whnf
  refine .inr (.inl ?_)
  conv => whnf
  refine ⟨curC_ne c2, ?_⟩
  conv => whnf
  refine ⟨rfl, ?_⟩
  conv => whnf
  refine ⟨fun k => noSubT_lk (by kernel_rfl) k, rfl, _, _, _, l1PickInt_spec c2 [0, 3, 4] h2 (by decide) (by decide), ?_⟩
  conv => whnf
  refine .inl ?_
  conv => whnf
  refine ⟨_, rfl, .inl ⟨flat1 rfl, ?_⟩⟩
  conv => whnf
  refine ⟨by omega, by rw [rows_len ciL_len], _, snoc_ci _ _, ?_⟩
  conv => whnf
  refine ⟨[], ?_⟩
  conv => whnf
  refine ⟨by rw [rows_len ciL_len, List.length_append]; rfl, ?_⟩
  refine ⟨s ++ [([0, 3, 4] : List Int).getD (belowP c2 3).1.toNat 0], (belowP c2 3).2, ?_, by simp; omega, belowP_good h2 3, rfl⟩
  show _ = V.agg [.tr 1 (s ++ [([0, 3, 4] : List Int).getD (belowP c2 3).1.toNat 0]).length _]
  rw [List.length_append]
  rfl
 | false =>
  conv => whnf
  generalize (v == 1) = b1
  cases b1 with
  | true =>
   conv => whnf
   refine ⟨[], ?_⟩
   conv => whnf
   exact .inr ⟨1, [], c2, rfl, by simp, h2, rfl⟩
  | false =>
   conv => whnf
   generalize (v == 2) = b2
   cases b2 with
   | true =>
    conv => whnf
    refine ⟨[], ?_⟩
    conv => whnf
    exact ⟨rfl, [1, 2, 3, 1, 2], c2, rfl, by simp, h2, rfl⟩
   | false =>
    conv => whnf
    refine ⟨[], ?_⟩
    conv => whnf
    refine ⟨by rw [rows_len ciL_len], ?_⟩
    exact ⟨s, c2, rfl, by omega, h2, rfl⟩
def qSm (q : QueryW) : Prop := q.1.length ≤ 8 ∧ q.2.length ≤ 8 ∧ ∀ a ∈ q.2, a.2.length ≤ 8
theorem sm_sum : ∀ {l : List AtomD}, (∀ a ∈ l, a.2.length ≤ 8) → sumB cAtom l ≤ 8 * l.length
 | [], _ => by simp [sumB]
 | a :: l, h => by
  have h1 := sm_sum (l := l) fun x hx => h x (by simp [hx])
  have h2 : cAtom a = a.2.length := rfl
  have h3 := h a (by simp)
  simp only [sumB, List.length_cons]
  omega
theorem qSm_size {q : QueryW} (h : qSm q) : cQuery q ≤ 1048576 := by
 obtain ⟨h1, h2, h3⟩ := h
 have := sm_sum h3
 show q.1.length + (q.2.length + sumB cAtom q.2) ≤ _
 omega
theorem termsL_sum : ∀ l : List AtomD, (termsL l).length = sumB cAtom l
 | [] => rfl
 | a :: l => by
  have h := termsL_sum l
  have e : termsL (a :: l) = a.2 ++ termsL l := by simp [termsL]
  rw [e, List.length_append, h]
  rfl
theorem bodyVars_small {q : QueryW} (h : qSm q) : (bodyVars q).length ≤ 64 := by
 have h1 := bodyVars_len q (termsL q.2) []
 have h2 := sm_sum h.2.2
 have h3 := h.2.1
 rw [termsL_sum] at h1
 unfold bodyVars
 simp only [List.length_nil] at h1
 omega
theorem solid_tAtomD (a : AtomD) : ∀ c ∈ tAtom a, solid c = true := by
 intro c hc
 simp only [tAtom, List.mem_cons, List.not_mem_nil, or_false] at hc
 rcases hc with rfl | rfl <;> rfl
theorem snoc_rowsD {α : Type} (f : α → List V) (xs : List α) (x : α) : rows f xs ++ f x = rows f (xs ++ [x]) := by
 rw [rows_append]
 simp [rows]
set_option maxHeartbeats 4000000 in
theorem l4Query_g (s : List Int) (c : Cur) (hs : sOk s) (h : goodC c) : SpecG Tryz.prog 139 [.ptr 0 0, vSchema s] (gC c) fun r g2 => ∃ (q : QueryW) (c' : Cur), r = wQuery q ∧ q.1.length ≤ 3 ∧ q.2.length ≤ 3 ∧ 1 ≤ q.2.length ∧ (∀ a ∈ q.2, a.2.length ≤ 3) ∧ goodC c' ∧ g2 = gC c' := by
 unfold gC
 refine SpecG_of mx Γ_ok 1 Tryz.func139 rfl rfl (by decide) ?_
 conv => whnf
 refine .inr (.inl ?_)
 conv => whnf
 refine ⟨curC_ne c, ?_⟩
 conv => whnf
 refine ⟨_, _, _, l1Below_spec c 3 h (by omega), ?_⟩
 conv => whnf
 refine .inl ?_
 conv => whnf
 have hb := belowP_bd c (n := 3) (by omega) (by omega)
 have h0 := belowP_good h 3
 generalize (belowP c 3).2 = c0 at h0 ⊢
 obtain ⟨n0, hn0⟩ : ∃ n : Nat, (belowP c 3).1 = n := ⟨(belowP c 3).1.toNat, by omega⟩
 rw [hn0] at hb ⊢
 have hw : IntKind.i64.wrap (1 + (n0 : Int)) = ((n0 + 1 : Nat) : Int) := by rw [wrap_id (by omega) (by omega)]; omega
 rw [hw]
 refine ⟨[(0,0),(3,0),(4,0),(5,101),(5,202),(6,0)], fun m st => ∃ (n : Nat) (e : Int) (body : List AtomD) (c1 : Cur) (k : Nat) (cc r : List V), e = n ∧ m = n ∧ body.length + n = n0 + 1 ∧ goodC c1 ∧ k = body.length ∧ (∀ a ∈ body, a.2.length ≤ 3) ∧ cc = curC c1 ∧ r = rows tAtom body ∧
  st = ⟨61, [(0, .ptr 0 0), (3, .ptr 1 0), (4, .ptr 2 0), (5, .ptr 3 0), (5, .ptr 3 0), (6, ci e)], [some ⟨false, cc⟩, some ⟨true, [ints s]⟩, some ⟨true, [cnil, cnil]⟩, some ⟨true, [.own 4 1 0 0 0 none, .own 5 2 0 k k none]⟩, some ⟨false, []⟩, some ⟨false, r⟩]⟩, n0 + 1, ⟨n0 + 1, (n0 + 1 : Nat), [], c0, 0, _, _, rfl, rfl, by simp, h0, rfl, (fun a ha => by cases ha), rfl, rfl, by kernel_rfl⟩, ?_⟩
 rintro m st ⟨n, _, body, c1, k, _, _, rfl, hm, hbn, hc1, hk, hbd, rfl, rfl, rfl⟩
 conv => whnf
 split <;> rename_i h1
 all_goals simp only [decide_eq_true_eq, decide_eq_false_iff_not] at h1
 ·obtain ⟨n', rfl⟩ : ∃ n', n = n' + 1 := ⟨n - 1, by omega⟩
  conv => whnf
  refine .inr (.inr ⟨[0], [], ?_⟩)
  conv => whnf
  refine ⟨_, l3Atom_g s c1 hs hc1, fun r g2 hP => ?_⟩
  obtain ⟨a, c2, rfl, ha, h2, rfl⟩ := hP
  refine .inr ?_
  conv => whnf
  refine ⟨by rw [rows_len ciL_len], ?_⟩
  conv => whnf
  refine ⟨_, rfl, .inr ⟨solid_tAtomD a, ?_⟩⟩
  conv => whnf
  refine ⟨by omega, by rw [rows_len tAtom_len, hk], _, snoc_rowsD tAtom _ a, ?_⟩
  conv => whnf
  refine ⟨m - 1, by omega, n', _, body ++ [a], c2, k + 1, _, _, wrap_pred n', by omega, by simp; omega, h2, by simp [hk], fun x hx => ?_, rfl, rfl, by kernel_rfl⟩
  rcases List.mem_append.1 hx with hx | hx
  ·exact hbd x hx
  ·rw [List.mem_singleton.1 hx]; exact ha
 ·have hn : n = 0 := by omega
  subst hn
  subst hk
  have hq : qSm ([], body) := ⟨by simp, by show body.length ≤ 8; omega, fun a ha => by have := hbd a ha; omega⟩
  conv => whnf
  refine .inl ?_
  conv => whnf
  refine ⟨_, _, takeN_all rfl, rfl, ?_⟩
  conv => whnf
  refine ⟨_, _, takeN_all (by rw [rows_len tAtom_len]), roVs_rows tAtom_ro _, ?_⟩
  conv => whnf
  refine ⟨_, bodyVars_spec ([], body) (qSm_size hq), .inr (closeds_rows (f := ciL) (fun x => ⟨trivial, trivial⟩) _), .inl ?_⟩
  rw [intsT_ro]
  have hvl := bodyVars_small hq
  generalize bodyVars ([], body) = v at hvl ⊢
  conv => whnf
  refine .inr (.inl ?_)
  conv => whnf
  refine ⟨curC_ne c1, ?_⟩
  conv => whnf
  refine ⟨_, _, _, l1Below_spec c1 3 hc1 (by omega), ?_⟩
  conv => whnf
  refine .inl ?_
  conv => whnf
  have hb2 := belowP_bd c1 (n := 3) (by omega) (by omega)
  have h3 := belowP_good hc1 3
  generalize (belowP c1 3).2 = c2 at h3 ⊢
  obtain ⟨n2, hn2⟩ : ∃ n : Nat, (belowP c1 3).1 = n := ⟨(belowP c1 3).1.toNat, by omega⟩
  rw [hn2] at hb2 ⊢
  refine ⟨[(0,0),(4,0),(5,0),(8,0),(9,0)], fun m st => ∃ (n : Nat) (e : Int) (hd : List Int) (c1 : Cur) (k : Nat) (cc r : List V), e = n ∧ m = n ∧ hd.length + n = n2 ∧ goodC c1 ∧ k = hd.length ∧ cc = curC c1 ∧ r = rows ciL hd ∧
   st = ⟨61, [(0, .ptr 0 0), (4, .ptr 1 0), (5, .ptr 2 0), (8, ints v), (9, ci e)], [some ⟨false, cc⟩, some ⟨true, [cnil, cnil]⟩, some ⟨true, [.own 3 1 0 k k none, .own 4 2 0 body.length body.length none]⟩, some ⟨false, r⟩, some ⟨false, rows tAtom body⟩]⟩, n2, ⟨n2, n2, [], c2, 0, _, _, rfl, rfl, by simp, h3, rfl, rfl, rfl, by kernel_rfl⟩, ?_⟩
  rintro m2 st ⟨n, _, hd, c3, k, _, _, rfl, hm2, hhn, hc3, hk, rfl, rfl, rfl⟩
  conv => whnf
  split <;> rename_i h4
  all_goals simp only [decide_eq_true_eq, decide_eq_false_iff_not] at h4
  ·obtain ⟨n', rfl⟩ : ∃ n', n = n' + 1 := ⟨n - 1, by omega⟩
   conv => whnf
   refine .inr (.inl ?_)
   conv => whnf
   refine ⟨curC_ne c3, ?_⟩
   conv => whnf
   refine ⟨_, _, _, l1Below_spec c3 3 hc3 (by omega), ?_⟩
   conv => whnf
   refine .inl ?_
   have h5 := belowP_good hc3 3
   generalize (belowP c3 3).2 = c4 at h5 ⊢
   generalize (belowP c3 3).1 = t0
   generalize hvb : decide ((v.length : Int) > 0) = vb
   conv => whnf
   rw [hvb]
   cases vb with
   | false =>
    conv => whnf
    refine ⟨_, rfl, .inl ⟨flat1 rfl, ?_⟩⟩
    conv => whnf
    refine ⟨by omega, by rw [rows_len ciL_len, hk], _, snoc_ci _ _, ?_⟩
    conv => whnf
    exact ⟨m2 - 1, by omega, n', IntKind.i64.wrap (((n' + 1 : Nat) : Int) - 1), hd ++ [IntKind.i64.wrap (-1 - t0)], c4, k + 1, curC c4, rows ciL (hd ++ [IntKind.i64.wrap (-1 - t0)]), wrap_pred n', by omega, by simp; omega, h5, by simp [hk], rfl, rfl, by kernel_rfl⟩
   | true =>
    have hv0 : 0 < v.length := by have := of_decide_eq_true hvb; omega
    conv => whnf
    refine .inr (.inl ?_)
    conv => whnf
    refine ⟨curC_ne c4, ?_⟩
    conv => whnf
    refine ⟨_, _, _, l1Once_spec c4 8 h5 (by omega), ?_⟩
    conv => whnf
    refine .inl ?_
    conv => whnf
    have h6 := belowP_good h5 8
    generalize (belowP c4 8).2 = c5 at h6 ⊢
    generalize ((belowP c4 8).1 == 0) = b6
    cases b6 with
    | true =>
     conv => whnf
     refine ⟨_, rfl, .inl ⟨flat1 rfl, ?_⟩⟩
     conv => whnf
     refine ⟨by omega, by rw [rows_len ciL_len, hk], _, snoc_ci _ _, ?_⟩
     conv => whnf
     exact ⟨m2 - 1, by omega, n', IntKind.i64.wrap (((n' + 1 : Nat) : Int) - 1), hd ++ [IntKind.i64.wrap (-1 - t0)], c5, k + 1, curC c5, rows ciL (hd ++ [IntKind.i64.wrap (-1 - t0)]), wrap_pred n', by omega, by simp; omega, h6, by simp [hk], rfl, rfl, by kernel_rfl⟩
    | false =>
     conv => whnf
     refine .inr (.inl ?_)
     conv => whnf
     refine ⟨curC_ne c5, ?_⟩
     conv => whnf
     refine ⟨_, _, _, l1Below_spec c5 v.length h6 (by omega), ?_⟩
     conv => whnf
     refine .inl ?_
     conv => whnf
     have hb7 := belowP_bd c5 (n := v.length) (by omega) (by omega)
     have h7 := belowP_good h6 v.length
     generalize (belowP c5 v.length).2 = c6 at h7 ⊢
     obtain ⟨p, hp⟩ : ∃ p : Nat, (belowP c5 v.length).1 = p := ⟨(belowP c5 v.length).1.toNat, by omega⟩
     rw [hp] at hb7 ⊢
     have hpl : p < v.length := by omega
     refine ⟨by omega, rows_len ciL_len _, ?_⟩
     conv => whnf
     refine ⟨_, takeN_rp (k := p) ciL_len hpl, ?_⟩
     conv => whnf
     refine ⟨_, rfl, .inl ⟨flat1 rfl, ?_⟩⟩
     conv => whnf
     refine ⟨by omega, by rw [rows_len ciL_len, hk], _, snoc_ci _ _, ?_⟩
     conv => whnf
     exact ⟨m2 - 1, by omega, n', IntKind.i64.wrap (((n' + 1 : Nat) : Int) - 1), hd ++ [v[p]], c6, k + 1, curC c6, rows ciL (hd ++ [v[p]]), wrap_pred n', by omega, by simp; omega, h7, by simp [hk], rfl, rfl, by kernel_rfl⟩
  ·subst hk
   conv => whnf
   refine ⟨[], ?_⟩
   conv => whnf
   refine ⟨by rw [rows_len ciL_len], by rw [rows_len tAtom_len], ?_⟩
   exact ⟨(hd, body), c3, rfl, by show hd.length ≤ 3; omega, by show body.length ≤ 3; omega, by show 1 ≤ body.length; omega, hbd, hc3, rfl⟩
end Go.Proofs.YtboolngaahifdaaGreatD
