/- Contracts and plain laws of this seat; no condition. -/
import Derived.Test.YtboolngaahifdaaGreatQ11
import Derived.Test.YtboolngaahifdaaGreatQ17
set_option linter.unusedVariables false
set_option linter.unusedSimpArgs false
set_option maxRecDepth 100000
namespace Go.Proofs.YtboolngaahifdaaGreatD
open Go Go.Proofs
def idxI (v : Int) : List Int → Nat → Int
 | [], _ => -1
 | a :: l, k => if eqV v a then k else idxI v l (k + 1)
theorem idxI_ge (v : Int) : ∀ l k, decide (idxI v l k ≥ 0) = has l v
 | [], k => rfl
 | a :: l, k => by
  unfold idxI
  rw [has, List.any_cons]
  cases h : eqV v a with
  | true =>
   rw [if_pos rfl]
   exact decide_eq_true (by omega)
  | false =>
   rw [if_neg (by simp)]
   exact idxI_ge v l (k + 1)
theorem slicesIndex_spec (xs : List Int) (v : Int) (h : xs.length ≤ 1099511627776) : Spec Tryz.prog 214 [ints xs, ci v] (ci (idxI v xs 0)) := by
 refine Spec_of mx Γ_ok Tryz.func214 rfl ?_
 conv => whnf
 refine ⟨[(0,0),(1,0),(4,0),(7,0),(8,0)], fun m s => ∃ (k : Nat) (e : Int), e = k ∧ m + k = xs.length ∧ idxI v xs 0 = idxI v (xs.drop k) k ∧
  s = ⟨17 + 2, [(0, ints xs), (1, ci v), (4, ci 0), (7, ci xs.length), (8, ci e)], []⟩, xs.length, ⟨0, 0, rfl, rfl, rfl, rfl⟩, ?_⟩
 rintro m s ⟨k, _, rfl, hm, hj, rfl⟩
 conv => whnf
 split <;> rename_i h1
 all_goals simp only [decide_eq_true_eq, decide_eq_false_iff_not] at h1
 ·conv => whnf
  have hk : k < xs.length := by omega
  rw [List.drop_eq_getElem_cons hk, idxI] at hj
  refine ⟨by omega, rows_len ciL_len xs, ?_⟩
  conv => whnf
  refine ⟨_, takeN_rp (k := k) ciL_len hk, ?_⟩
  conv => whnf
  generalize hb1 : (v == xs[k]) = b1
  have hb2 : eqV v xs[k] = b1 := by rw [← hb1, eqV, Bool.beq_comm]
  rw [hb2] at hj
  cases b1 with
  | true =>
   conv => whnf
   rw [hj]
   rfl
  | false =>
   conv => whnf
   exact ⟨m - 1, by omega, k + 1, _, wrap_id (by omega) (by omega), by omega, hj, rfl⟩
 ·conv => whnf
  rw [hj, drop_end (by omega)]
  rfl
theorem slicesContains_spec (xs : List Int) (v : Int) (h : xs.length ≤ 1099511627776) : Spec Tryz.prog 175 [ints xs, ci v] (cb (has xs v)) := by
 refine Spec_of mx Γ_ok Tryz.func175 rfl ?_
 conv => whnf
 refine ⟨_, slicesIndex_spec xs v h, .inl rfl, .inl ?_⟩
 conv => whnf
 exact congrArg cb (idxI_ge v xs 0)
def hasA (x : Int) (a : AtomT) : Bool := has a.2 x
def occurs (q : QueryT) (x : Int) : Bool := q.2.any (hasA x)
theorem occurs_spec (q : QueryT) (x : Int) (h : cQuery q ≤ 1048576) : Spec Tryz.prog 162 [vQuery q, ci x] (cb (occurs q x)) := by
 unfold cQuery cAtomS at h
 refine Spec_of mx Γ_ok Tryz.func162 rfl ?_
 conv => whnf
 refine ⟨[(1,0),(4,0),(8,0),(9,0),(10,0)], fun m s => ∃ (k : Nat) (e : Int), e = k ∧ m + k = q.2.length ∧ occurs q x = (q.2.drop k).any (hasA x) ∧
  s = ⟨19, [(1, ci x), (4, cb false), (8, vAtomS q.2), (9, ci q.2.length), (10, ci e)], []⟩, q.2.length, ⟨0, 0, rfl, rfl, rfl, rfl⟩, ?_⟩
 rintro m s ⟨k, _, rfl, hm, hj, rfl⟩
 conv => whnf
 split <;> rename_i h1
 all_goals simp only [decide_eq_true_eq, decide_eq_false_iff_not] at h1
 ·conv => whnf
  have hk : k < q.2.length := by omega
  have hb := sumB_one (f := cAtom) hk
  have hcb : cAtom q.2[k] = q.2[k].2.length := rfl
  rw [drop_any hk] at hj
  refine ⟨by omega, rows_len rAtom_len _, ?_⟩
  conv => whnf
  refine ⟨_, takeN_rp (k := k) rAtom_len hk, ?_⟩
  conv => whnf
  refine ⟨_, slicesContains_spec q.2[k].2 x (by omega), .inl rfl, .inl ?_⟩
  conv => whnf
  generalize hb1 : has q.2[k].2 x = b1
  rw [show hasA x q.2[k] = b1 from hb1] at hj
  cases b1 with
  | true =>
   conv => whnf
   rw [hj]
   rfl
  | false =>
   conv => whnf
   rw [Bool.false_or] at hj
   exact ⟨m - 1, by omega, k + 1, _, wrap_id (by omega) (by omega), by omega, hj, rfl⟩
 ·conv => whnf
  rw [hj, drop_end (by omega)]
  rfl
def safeV (q : QueryT) (x : Int) : Bool := !(isVar x && !occurs q x)
theorem isSafe_spec (q : QueryT) (h : cQuery q ≤ 1048576) : Spec Tryz.prog 86 [vQuery q] (cb (q.1.all (safeV q))) := by
 have h' := h
 unfold cQuery at h'
 refine Spec_of mx Γ_ok Tryz.func86 rfl ?_
 conv => whnf
 refine ⟨[(1,0),(2,0),(6,0),(7,0),(8,0)], fun m s => ∃ (k : Nat) (e : Int), e = k ∧ m + k = q.1.length ∧ q.1.all (safeV q) = (q.1.drop k).all (safeV q) ∧
  s = ⟨21, [(1, .ptr 0 0), (2, cb false), (6, ints q.1), (7, ci q.1.length), (8, ci e)], [some ⟨true, rQuery q⟩]⟩, q.1.length, ⟨0, 0, rfl, rfl, rfl, rfl⟩, ?_⟩
 rintro m s ⟨k, _, rfl, hm, hj, rfl⟩
 conv => whnf
 split <;> rename_i h1
 all_goals simp only [decide_eq_true_eq, decide_eq_false_iff_not] at h1
 ·conv => whnf
  have hk : k < q.1.length := by omega
  rw [drop_all hk, safeV] at hj
  refine ⟨by omega, rows_len ciL_len _, ?_⟩
  conv => whnf
  refine ⟨_, takeN_rp (k := k) ciL_len hk, ?_⟩
  conv => whnf
  refine ⟨_, implIsVar_spec q.1[k], .inl rfl, .inl ?_⟩
  conv => whnf
  generalize isVar q.1[k] = b1 at hj
  cases b1 with
  | false =>
   conv => whnf
   exact ⟨m - 1, by omega, k + 1, _, wrap_id (by omega) (by omega), by omega, hj, rfl⟩
  | true =>
  conv => whnf
  refine ⟨_, occurs_spec q q.1[k] h, .inl rfl, .inl ?_⟩
  conv => whnf
  generalize occurs q q.1[k] = b2 at hj
  cases b2 with
  | false =>
   conv => whnf
   rw [hj]
   rfl
  | true =>
   conv => whnf
   exact ⟨m - 1, by omega, k + 1, _, wrap_id (by omega) (by omega), by omega, hj, rfl⟩
 ·conv => whnf
  rw [hj, drop_end (by omega)]
  rfl
def fineQ (s : List Int) (q : QueryT) (n : Int) : Bool := isSchema s && (terms3 q.1 && (inR q.2.length 1 n && (q.2.all (isAtom s) && q.1.all (safeV q))))
def isQuery (s : List Int) (q : QueryT) : Bool := fineQ s q 4
theorem implIsQuery_spec (s : List Int) (q : QueryT) (hs : cSchema s ≤ 1048576) (h : cQuery q ≤ 1048576) : Spec Tryz.prog 65 [vSchema s, vQuery q] (cb (isQuery s q)) := by
 unfold cSchema at hs
 have h' := h
 unfold cQuery cAtomS at h'
 refine Spec_of mx Γ_ok Tryz.func65 rfl ?_
 conv => whnf
 refine ⟨_, implIsSchema_spec s (by omega), .inl rfl, .inl ?_⟩
 conv => whnf
 unfold isQuery fineQ
 generalize isSchema s = b1
 cases b1 with
 | false =>
  conv => whnf
  rfl
 | true =>
 conv => whnf
 generalize hb2 : decide ((q.1.length : Int) > 3) = b2
 cases b2 with
 | true =>
  conv => whnf
  have := of_decide_eq_true hb2
  rw [terms3, decide_eq_false (p := q.1.length ≤ 3) (by omega), Bool.and_false]
  rfl
 | false =>
 conv => whnf
 have h3 := of_decide_eq_false hb2
 rw [terms3, decide_eq_true (p := q.1.length ≤ 3) (by omega), Bool.and_true]
 refine ⟨_, areTerms_spec q.1 (by omega), .inl rfl, .inl ?_⟩
 conv => whnf
 generalize q.1.all isTerm = b3
 cases b3 with
 | false =>
  conv => whnf
  rfl
 | true =>
 conv => whnf
 refine ⟨_, within_spec (q.2.length : Int) 1 4, .inl rfl, .inl ?_⟩
 conv => whnf
 generalize inR (q.2.length : Int) 1 4 = b4
 cases b4 with
 | false =>
  conv => whnf
  rfl
 | true =>
 conv => whnf
 refine ⟨[(2,0),(3,0),(4,0),(30,0),(31,0),(32,0)], fun m st => ∃ (k : Nat) (e : Int), e = k ∧ m + k = q.2.length ∧ q.2.all (isAtom s) = (q.2.drop k).all (isAtom s) ∧
  st = ⟨43, [(2, .ptr 0 0), (3, .ptr 1 0), (4, cb false), (30, vAtomS q.2), (31, ci q.2.length), (32, ci e)], [some ⟨true, [ints s]⟩, some ⟨true, rQuery q⟩]⟩, q.2.length, ⟨0, 0, rfl, rfl, rfl, rfl⟩, ?_⟩
 rintro m st ⟨k, _, rfl, hm, hj, rfl⟩
 conv => whnf
 split <;> rename_i h1
 all_goals simp only [decide_eq_true_eq, decide_eq_false_iff_not] at h1
 ·conv => whnf
  have hk : k < q.2.length := by omega
  have hb := sumB_one (f := cAtom) hk
  have hcb : cAtom q.2[k] = q.2[k].2.length := rfl
  rw [drop_all hk] at hj
  refine ⟨by omega, rows_len rAtom_len _, ?_⟩
  conv => whnf
  refine ⟨_, takeN_rp (k := k) rAtom_len hk, ?_⟩
  conv => whnf
  refine ⟨_, implIsAtom_spec s q.2[k] (by omega) (by omega), .inl rfl, .inl ?_⟩
  conv => whnf
  generalize isAtom s q.2[k] = b5 at hj
  cases b5 with
  | false =>
   conv => whnf
   rw [hj]
   rfl
  | true =>
   conv => whnf
   rw [Bool.true_and] at hj
   exact ⟨m - 1, by omega, k + 1, _, wrap_id (by omega) (by omega), by omega, hj, rfl⟩
 ·conv => whnf
  rw [drop_end (by omega)] at hj
  rw [hj]
  refine ⟨_, isSafe_spec q h, .inl rfl, .inl ?_⟩
  conv => whnf
  rfl
def bvS (acc : List Int) (t : Int) : List Int := if decide (t ≥ 0) && !has acc t then acc ++ [t] else acc
def termsL (as' : List AtomT) : List Int := as'.flatMap (·.2)
def bodyVars (q : QueryT) : List Int := (termsL q.2).foldl bvS []
theorem has_append (xs ys : List Int) (v : Int) : has (xs ++ ys) v = (has xs v || has ys v) := List.any_append
theorem has_one (t x : Int) : has [t] x = (t == x) := by
 show ((t == x) || false) = _
 rw [Bool.or_false]
theorem has_bvS (acc : List Int) (t x : Int) : has (bvS acc t) x = (has acc x || (decide (x ≥ 0) && (t == x))) := by
 unfold bvS
 by_cases h : t = x
 ·subst h
  rw [beq_self_eq_true, Bool.and_true]
  cases h1 : decide (t ≥ 0) with
  | false => simp
  | true =>
   cases h2 : has acc t with
   | true => simp [h2]
   | false => simp [has_append, has_one, h2]
 ·have hb : (t == x) = false := by rw [beq_eq_false_iff_ne]; exact h
  rw [hb, Bool.and_false, Bool.or_false]
  split
  ·rw [has_append, has_one, hb, Bool.or_false]
  ·rfl
theorem has_fold (x : Int) : ∀ (ts acc : List Int), has (ts.foldl bvS acc) x = (has acc x || (decide (x ≥ 0) && has ts x))
 | [], acc => by
  show has acc x = (has acc x || (decide (x ≥ 0) && false))
  rw [Bool.and_false, Bool.or_false]
 | t :: ts, acc => by
  rw [List.foldl_cons, has_fold x ts, has_bvS]
  show _ = (has acc x || (decide (x ≥ 0) && ((t == x) || has ts x)))
  cases has acc x <;> cases decide (x ≥ 0) <;> rfl
theorem has_termsL (x : Int) : ∀ l : List AtomT, has (termsL l) x = l.any (hasA x)
 | [] => rfl
 | a :: l => by
  show has (a.2 ++ termsL l) x = _
  rw [has_append, has_termsL x l]
  rfl
theorem has_bodyVars (q : QueryT) (x : Int) (h : isVar x = true) : has (bodyVars q) x = occurs q x := by
 have hr : 0 ≤ x ∧ x ≤ 19 := by simpa [isVar, inR] using h
 rw [bodyVars, has_fold, has_termsL, decide_eq_true (by omega), Bool.true_and]
 rfl
theorem bodyVars_len (q : QueryT) : ∀ (ts acc : List Int), (ts.foldl bvS acc).length ≤ acc.length + ts.length
 | [], acc => Nat.le_refl _
 | t :: ts, acc => by
  have := bodyVars_len q ts (bvS acc t)
  have h2 : (bvS acc t).length ≤ acc.length + 1 := by unfold bvS; split <;> simp
  rw [List.foldl_cons, List.length_cons]
  omega
theorem termsL_len : ∀ l : List AtomT, (termsL l).length = sumB cAtom l
 | [] => rfl
 | a :: l => by
  show (a.2 ++ termsL l).length = _
  rw [List.length_append, termsL_len l]
  rfl
set_option maxHeartbeats 1000000 in
theorem bodyVars_spec (q : QueryT) (h : cQuery q ≤ 1048576) : Spec Tryz.prog 91 [vQuery q] (intsT (bodyVars q)) := by
 unfold cQuery cAtomS at h
 refine Spec_of mx Γ_ok Tryz.func91 rfl ?_
 conv => whnf
 refine ⟨[(1,0),(2,0),(3,0),(4,0)], fun m s => ∃ (k : Nat) (e : Int) (acc : List Int) (n : Nat) (r : List V), e = k ∧ m + k = q.2.length ∧ bodyVars q = (termsL (q.2.drop k)).foldl bvS acc ∧ acc.length + sumB cAtom (q.2.drop k) ≤ 1048576 ∧ n = acc.length ∧ r = rows ciL acc ∧
  s = ⟨48, [(1, .ptr 0 0), (2, cnil), (3, .own 1 1 0 n n none), (4, ci e)], [some ⟨true, rQuery q⟩, some ⟨false, r⟩]⟩, q.2.length, ⟨0, 0, [], 0, _, rfl, rfl, rfl, by simp; omega, rfl, rfl, rfl⟩, ?_⟩
 rintro m s ⟨k, _, acc, n, _, rfl, hm, hbv, hlen, hn, rfl, rfl⟩
 conv => whnf
 split <;> rename_i h1
 all_goals simp only [decide_eq_true_eq, decide_eq_false_iff_not] at h1
 ·conv => whnf
  have hk : k < q.2.length := by omega
  have hb := sumB_one (f := cAtom) hk
  have hcb : cAtom q.2[k] = q.2[k].2.length := rfl
  rw [List.drop_eq_getElem_cons hk] at hbv hlen
  refine ⟨[(1,0),(2,0),(3,0),(4,0),(5,0)], fun m s => ∃ (j : Nat) (e : Int) (acc : List Int) (n : Nat) (r : List V), e = j ∧ m + j = q.2[k].2.length ∧ bodyVars q = (termsL (q.2.drop (k + 1))).foldl bvS ((q.2[k].2.drop j).foldl bvS acc) ∧ acc.length + m + sumB cAtom (q.2.drop (k + 1)) ≤ 1048576 ∧ n = acc.length ∧ r = rows ciL acc ∧
   s = ⟨48, [(1, .ptr 0 0), (2, cnil), (3, .own 1 1 0 n n none), (4, ci k), (5, ci e)], [some ⟨true, rQuery q⟩, some ⟨false, r⟩]⟩, q.2[k].2.length, ⟨0, 0, acc, n, _, rfl, rfl, ?_, ?_, hn, rfl, rfl⟩, ?_⟩
  ·rw [hbv]
   show ((q.2[k].2 ++ termsL (q.2.drop (k + 1))).foldl bvS acc) = _
   rw [List.foldl_append]
   rfl
  ·have : cAtom q.2[k] = q.2[k].2.length := rfl
   simp only [sumB] at hlen
   omega
  clear hbv hlen hn
  rintro m' s ⟨j, _, acc, n, _, rfl, hm', hbv, hlen, hn, rfl, rfl⟩
  conv => whnf
  refine ⟨by omega, rows_len rAtom_len _, ?_⟩
  conv => whnf
  refine ⟨_, takeN_rp_field (k := k) (d := 1) (m := 1) (r := [ints q.2[k].2]) rAtom_len hk (by omega) rfl, ?_⟩
  conv => whnf
  split <;> rename_i h2
  all_goals simp only [decide_eq_true_eq, decide_eq_false_iff_not] at h2
  ·conv => whnf
   have hj : j < q.2[k].2.length := by omega
   rw [List.drop_eq_getElem_cons hj, List.foldl_cons] at hbv
   refine ⟨by omega, rows_len rAtom_len _, ?_⟩
   conv => whnf
   refine ⟨_, takeN_rp_field (k := k) (d := 1) (m := 1) (r := [ints q.2[k].2]) rAtom_len hk (by omega) rfl, ?_⟩
   conv => whnf
   refine ⟨by omega, rows_len ciL_len _, ?_⟩
   conv => whnf
   refine ⟨_, takeN_rp (k := j) ciL_len hj, ?_⟩
   conv => whnf
   rw [bvS] at hbv
   generalize hb1 : decide (q.2[k].2[j] ≥ 0) = b1
   rw [hb1] at hbv
   cases b1 with
   | false =>
    conv => whnf
    exact ⟨m' - 1, by omega, j + 1, _, acc, n, _, wrap_id (by omega) (by omega), by omega, hbv, by omega, hn, rfl, rfl⟩
   | true =>
   conv => whnf
   refine .inl ?_
   conv => whnf
   refine ⟨_, _, takeN_all (by rw [rows_len ciL_len, hn]), roVs_ci _, ?_⟩
   conv => whnf
   subst hn
   refine ⟨_, l2Has_spec acc q.2[k].2[j] (by omega), .inr trivial, .inl ?_⟩
   conv => whnf
   generalize has acc q.2[k].2[j] = b2 at hbv
   cases b2 with
   | true =>
    conv => whnf
    exact ⟨m' - 1, by omega, j + 1, _, acc, _, _, wrap_id (by omega) (by omega), by omega, hbv, by omega, rfl, rfl, rfl⟩
   | false =>
    conv => whnf
    refine ⟨_, rfl, .inl ⟨flat1 rfl, ?_⟩⟩
    conv => whnf
    refine ⟨by omega, rows_len ciL_len _, _, snoc_ci _ _, ?_⟩
    conv => whnf
    refine ⟨m' - 1, by omega, j + 1, _, acc ++ [q.2[k].2[j]], _, _, wrap_id (by omega) (by omega), by omega, hbv, ?_, ?_, rfl, rfl⟩
    ·rw [List.length_append, List.length_singleton]
     omega
    ·rw [List.length_append]
     rfl
  ·conv => whnf
   rw [drop_end (by omega), List.foldl_nil] at hbv
   exact ⟨m - 1, by omega, k + 1, _, acc, n, _, wrap_id (by omega) (by omega), by omega, hbv, by omega, hn, rfl, rfl⟩
 ·conv => whnf
  rw [drop_end (by omega)] at hbv
  subst hn
  refine ⟨by rw [rows_len ciL_len], ?_⟩
  rw [hbv]
  rfl
set_option maxHeartbeats 1000000 in
theorem l4Fine_spec (s : List Int) (q : QueryT) (n : Int) (hs : cSchema s ≤ 1048576) (h : cQuery q ≤ 1048576) : Spec Tryz.prog 92 [vSchema s, vQuery q, ci n] (cb (fineQ s q n)) := by
 unfold cSchema at hs
 have h' := h
 unfold cQuery cAtomS at h'
 refine Spec_of mx Γ_ok Tryz.func92 rfl ?_
 conv => whnf
 refine ⟨_, specIsSchema_spec s (by omega), .inl rfl, .inl ?_⟩
 conv => whnf
 unfold fineQ
 generalize isSchema s = b1
 cases b1 with
 | false =>
  conv => whnf
  rfl
 | true =>
 conv => whnf
 refine ⟨_, l3Terms_spec q.1 (by omega), .inl rfl, .inl ?_⟩
 conv => whnf
 generalize terms3 q.1 = b3
 cases b3 with
 | false =>
  conv => whnf
  rfl
 | true =>
 conv => whnf
 refine ⟨_, l1In_spec (q.2.length : Int) 1 n, .inl rfl, .inl ?_⟩
 conv => whnf
 generalize inR (q.2.length : Int) 1 n = b4
 cases b4 with
 | false =>
  conv => whnf
  rfl
 | true =>
 conv => whnf
 refine ⟨[(3,0),(4,0),(6,0),(7,0)], fun m st => ∃ (k : Nat) (e : Int), e = k ∧ m + k = q.2.length ∧ q.2.all (isAtom s) = (q.2.drop k).all (isAtom s) ∧
  st = ⟨65, [(3, .ptr 0 0), (4, .ptr 1 0), (6, cb false), (7, ci e)], [some ⟨true, [ints s]⟩, some ⟨true, rQuery q⟩]⟩, q.2.length, ⟨0, 0, rfl, rfl, rfl, rfl⟩, ?_⟩
 rintro m st ⟨k, _, rfl, hm, hj, rfl⟩
 conv => whnf
 split <;> rename_i h1
 all_goals simp only [decide_eq_true_eq, decide_eq_false_iff_not] at h1
 ·conv => whnf
  have hk : k < q.2.length := by omega
  have hb := sumB_one (f := cAtom) hk
  have hcb : cAtom q.2[k] = q.2[k].2.length := rfl
  rw [drop_all hk] at hj
  refine ⟨List.range 8, by kernel_rfl, ?_⟩
  conv => whnf
  refine ⟨by omega, rows_len rAtom_len _, ?_⟩
  conv => whnf
  refine ⟨_, takeN_rp (k := k) rAtom_len hk, ?_⟩
  conv => whnf
  refine ⟨_, specIsAtom_spec s q.2[k] (by omega) (by omega), .inl rfl, .inl ?_⟩
  conv => whnf
  generalize isAtom s q.2[k] = b5 at hj
  cases b5 with
  | false =>
   conv => whnf
   rw [hj]
   rfl
  | true =>
   conv => whnf
   rw [Bool.true_and] at hj
   exact ⟨m - 1, by omega, k + 1, _, wrap_id (by omega) (by omega), by omega, hj, rfl⟩
 ·conv => whnf
  rw [drop_end (by omega)] at hj
  rw [hj]
  clear hj
  refine ⟨[(4,0),(6,0),(8,0)], fun m st => ∃ (k : Nat) (e : Int), e = k ∧ m + k = q.1.length ∧ q.1.all (safeV q) = (q.1.drop k).all (safeV q) ∧
   st = ⟨65, [(4, .ptr 0 0), (6, cb false), (8, ci e)], [some ⟨true, rQuery q⟩]⟩, q.1.length, ⟨0, 0, rfl, rfl, rfl, rfl⟩, ?_⟩
  rintro m1 st ⟨j, _, rfl, hm1, hj, rfl⟩
  conv => whnf
  split <;> rename_i h2
  all_goals simp only [decide_eq_true_eq, decide_eq_false_iff_not] at h2
  ·conv => whnf
   have hjl : j < q.1.length := by omega
   rw [drop_all hjl, safeV] at hj
   have hbl : (bodyVars q).length ≤ 1048576 := by
    have h1 := bodyVars_len q (termsL q.2) []
    rw [termsL_len] at h1
    simp only [List.length_nil] at h1
    unfold bodyVars
    omega
   refine ⟨[0,1,2,3,4,5,6,7,9,10,11,12,13,8,14,15,16], by kernel_rfl, ?_⟩
   conv => whnf
   refine ⟨by omega, rows_len ciL_len _, ?_⟩
   conv => whnf
   refine ⟨_, takeN_rp (k := j) ciL_len hjl, ?_⟩
   conv => whnf
   refine ⟨_, specIsVar_spec q.1[j], .inl rfl, .inl ?_⟩
   conv => whnf
   generalize hb1 : isVar q.1[j] = b1
   rw [hb1] at hj
   cases b1 with
   | false =>
    conv => whnf
    exact ⟨m1 - 1, by omega, j + 1, _, wrap_id (by omega) (by omega), by omega, hj, rfl⟩
   | true =>
   conv => whnf
   refine ⟨by omega, rows_len ciL_len _, ?_⟩
   conv => whnf
   refine ⟨_, takeN_rp (k := j) ciL_len hjl, ?_⟩
   conv => whnf
   refine ⟨_, bodyVars_spec q h, .inl rfl, .inl ?_⟩
   rw [intsT_ro]
   conv => whnf
   refine ⟨_, l2Has_spec (bodyVars q) q.1[j] (by omega), .inl rfl, .inl ?_⟩
   conv => whnf
   rw [has_bodyVars q _ hb1]
   generalize occurs q q.1[j] = b2 at hj
   cases b2 with
   | false =>
    conv => whnf
    rw [hj]
    rfl
   | true =>
    conv => whnf
    exact ⟨m1 - 1, by omega, j + 1, _, wrap_id (by omega) (by omega), by omega, hj, rfl⟩
  ·conv => whnf
   rw [hj, drop_end (by omega)]
   rfl
theorem specIsQuery_spec (s : List Int) (q : QueryT) (hs : cSchema s ≤ 1048576) (h : cQuery q ≤ 1048576) : Spec Tryz.prog 25 [vSchema s, vQuery q] (cb (isQuery s q)) := by
 refine Spec_of mx Γ_ok Tryz.func25 rfl ?_
 conv => whnf
 refine ⟨_, l4Fine_spec s q 4 hs h, .inl rfl, .inl ?_⟩
 conv => whnf
 rfl
theorem isQuery_terms {s : List Int} {q : QueryE} (h : isQuery s q = true) : q.1.all isTerm = true ∧ (∀ a ∈ q.2, a.2.all isTerm = true) ∧ q.2.length ≤ 8 := by
 have h0 := h
 simp only [isQuery, fineQ, terms3, Bool.and_eq_true, decide_eq_true_eq] at h
 refine ⟨?_, ?_, ?_⟩
 ·exact h.2.1.1
 ·intro a ha
  have := List.all_eq_true.1 h.2.2.2.1 a ha
  simp only [isAtom, Bool.and_eq_true] at this
  exact this.2
 ·have := h.2.2.1
  simp only [inR, Bool.and_eq_true, decide_eq_true_eq] at this
  omega
theorem mem_insL {once : Bool} {out : List (List Int)} {v x : List Int} (h : x ∈ insL once out v) : x = v ∨ x ∈ out := by
 unfold insL at h
 split at h
 ·exact .inr h
 ·rcases List.mem_append.1 h with h | h
  ·exact .inr (List.mem_of_mem_take h)
  ·rcases List.mem_cons.1 h with h | h
   ·exact .inl h
   ·exact .inr (List.mem_of_mem_drop h)
theorem insL_len (once : Bool) (out : List (List Int)) (v : List Int) : (insL once out v).length ≤ out.length + 1 := by
 unfold insL
 split
 ·omega
 ·rw [List.length_append, List.length_cons, List.length_take, List.length_drop]; omega
theorem foldL_ok (once : Bool) : ∀ (l out : List (List Int)), (∀ x ∈ l.foldl (insL once) out, x ∈ l ∨ x ∈ out) ∧ (l.foldl (insL once) out).length ≤ l.length + out.length
 | [], out => ⟨fun x h => .inr h, by simp⟩
 | v :: l, out => by
  obtain ⟨h1, h2⟩ := foldL_ok once l (insL once out v)
  have h3 := insL_len once out v
  refine ⟨fun x hx => ?_, ?_⟩
  ·rcases h1 x hx with h | h
   ·exact .inl (by simp [h])
   ·rcases mem_insL h with h | h
    ·exact .inl (by simp [h])
    ·exact .inr h
  ·rw [List.foldl_cons, List.length_cons]; omega
theorem mem_sortL {once : Bool} {l : List (List Int)} {x : List Int} (h : x ∈ sortL once l) : x ∈ l := by
 rcases (foldL_ok once l []).1 x h with h | h
 ·exact h
 ·cases h
theorem sortL_len (once : Bool) (l : List (List Int)) : (sortL once l).length ≤ l.length := (foldL_ok once l []).2
theorem rawP_ok (q : QueryE) (db : List FactC) : (∀ v ∈ rawP q db, ∃ b ∈ visitL db q.2 bNone, v = sV b) ∧ (rawP q db).length ≤ db.length ^ q.2.length := by
 refine ⟨fun v hv => ?_, ?_⟩
 ·obtain ⟨b, hb, rfl⟩ := List.mem_map.1 (mem_sortL hv)
  exact ⟨b, hb, rfl⟩
 ·have h1 := sortL_len true ((visitL db q.2 bNone).map sV)
  rw [List.length_map] at h1
  exact Nat.le_trans h1 (visitL_len db q.2 bNone)
theorem scanL_ok (v : List Int) (out : List (List Int)) : ∀ n, n ≤ out.length → scanL v out n ≤ n ∧ (∀ j, scanL v out n ≤ j → j < n → ∀ h : j < out.length, ltI v out[j] = true) ∧ (0 < scanL v out n → ltI v (out.getD (scanL v out n - 1) []) = false)
 | 0, _ => ⟨Nat.le_refl _, fun j _ h => absurd h (Nat.not_lt_zero _), fun h => absurd h (by simp [scanL])⟩
 | n + 1, hn => by
  obtain ⟨i1, i2, i3⟩ := scanL_ok v out n (by omega)
  have hg : out.getD n [] = out[n] := by rw [List.getD_eq_getElem?_getD, List.getElem?_eq_getElem (by omega)]; rfl
  simp only [scanL]
  split
  ·rename_i h
   refine ⟨by omega, fun j h1 h2 h3 => ?_, i3⟩
   by_cases e : j = n
   ·subst e; rw [← hg]; exact h
   ·exact i2 j h1 (by omega) h3
  ·rename_i h
   exact ⟨Nat.le_refl _, fun j h1 h2 => by omega, fun _ => by simpa using h⟩
theorem insL_ok {out : List (List Int)} (hs : Strict ltI out) (v : List Int) : Strict ltI (insL true out v) ∧ ∀ x, x ∈ insL true out v ↔ x = v ∨ x ∈ out := by
 obtain ⟨h1, h2, h3⟩ := scanL_ok v out out.length (Nat.le_refl _)
 unfold insL
 generalize scanL v out out.length = k at *
 have hpw := List.pairwise_iff_getElem.1 hs
 by_cases hc : (true && decide (0 < k) && decide (out.getD (k - 1) [] = v)) = true
 ·rw [if_pos hc]
  simp only [Bool.and_eq_true, decide_eq_true_eq, true_and] at hc
  have hk1 : k - 1 < out.length := by omega
  have hg : out.getD (k - 1) [] = out[k - 1] := by rw [List.getD_eq_getElem?_getD, List.getElem?_eq_getElem hk1]; rfl
  refine ⟨hs, fun x => ⟨.inr, ?_⟩⟩
  rintro (rfl | h)
  ·rw [← hc.2, hg]; exact List.getElem_mem hk1
  ·exact h
 ·rw [if_neg hc]
  have hlow : ∀ j (h : j < out.length), j < k → ltI out[j] v = true := by
   intro j h hj
   have hk0 : 0 < k := by omega
   have hk1 : k - 1 < out.length := by omega
   have hg : out.getD (k - 1) [] = out[k - 1] := by rw [List.getD_eq_getElem?_getD, List.getElem?_eq_getElem hk1]; rfl
   have h4 := h3 hk0
   rw [hg] at h4
   have h5 : ¬ out[k - 1] = v := fun e => hc (by rw [hg]; simp [hk0, e])
   have h6 : ltI out[k - 1] v = true := by
    rcases totI.tri out[k - 1] v with h | h | h
    ·exact h
    ·exact absurd h h5
    ·rw [h4] at h; cases h
   by_cases e : j = k - 1
   ·subst e; exact h6
   ·exact totI.tr _ _ _ (hpw j (k - 1) h hk1 (by omega)) h6
  refine ⟨?_, fun x => ?_⟩
  ·refine List.pairwise_append.2 ⟨hs.sublist (List.take_sublist _ _), List.pairwise_cons.2 ⟨fun x hx => ?_, hs.sublist (List.drop_sublist _ _)⟩, fun x hx y hy => ?_⟩
   ·obtain ⟨j, hj, rfl⟩ := List.getElem_of_mem hx
    rw [List.length_drop] at hj
    rw [List.getElem_drop]
    exact h2 (k + j) (by omega) (by omega) (by omega)
   ·obtain ⟨j, hj, rfl⟩ := List.getElem_of_mem hx
    rw [List.length_take] at hj
    rw [List.getElem_take]
    have h4 := hlow j (by omega) (by omega)
    rcases List.mem_cons.1 hy with rfl | hy
    ·exact h4
    ·obtain ⟨p, hp, rfl⟩ := List.getElem_of_mem hy
     rw [List.length_drop] at hp
     rw [List.getElem_drop]
     exact totI.tr _ _ _ h4 (h2 (k + p) (by omega) (by omega) (by omega))
  ·rw [List.mem_append, List.mem_cons]
   constructor
   ·rintro (h | h | h)
    ·exact .inr (List.mem_of_mem_take h)
    ·exact .inl h
    ·exact .inr (List.mem_of_mem_drop h)
   ·rintro (h | h)
    ·exact .inr (.inl h)
    ·rw [← List.take_append_drop k out] at h
     rcases List.mem_append.1 h with h | h
     ·exact .inl h
     ·exact .inr (.inr h)
theorem sortL_ok (l : List (List Int)) : Strict ltI (sortL true l) ∧ ∀ x, x ∈ sortL true l ↔ x ∈ l := by
 have : ∀ (l out : List (List Int)), Strict ltI out → Strict ltI (l.foldl (insL true) out) ∧ ∀ x, x ∈ l.foldl (insL true) out ↔ x ∈ l ∨ x ∈ out := by
  intro l
  induction l with
  | nil => intro out h; exact ⟨h, fun x => by simp⟩
  | cons v l ih =>
   intro out h
   obtain ⟨h1, h2⟩ := insL_ok h v
   obtain ⟨i1, i2⟩ := ih _ h1
   refine ⟨i1, fun x => ?_⟩
   rw [List.foldl_cons, i2 x, h2 x, List.mem_cons]
   constructor
   ·rintro (h | h | h) <;> simp [h]
   ·rintro ((h | h) | h) <;> simp [h]
 obtain ⟨h1, h2⟩ := this l [] List.Pairwise.nil
 exact ⟨h1, fun x => by rw [sortL, h2 x]; simp⟩
theorem safe_bound {s : List Int} {q : QueryE} {db : List FactC} (h : isQuery s q = true) {b : Bnd} (hb : b ∈ visitL db q.2 bNone) : q.1.map (tS (sV b)) = tupOf b q.1 := by
 obtain ⟨t1, t2, t3⟩ := isQuery_terms h
 refine List.map_congr_left fun t ht => tS_valOf b t (List.all_eq_true.1 t1 t ht) fun h0 => ?_
 simp only [isQuery, fineQ, Bool.and_eq_true] at h
 have hs := List.all_eq_true.1 h.2.2.2.2 t ht
 have hr : -80 ≤ t ∧ t ≤ 19 := by simpa [isTerm, inR] using List.all_eq_true.1 t1 t ht
 have hv : isVar t = true := by simp [isVar, inR]; omega
 have hoc : occurs q t = true := by simpa [safeV, hv] using hs
 obtain ⟨a, ha, hx⟩ := List.any_eq_true.1 hoc
 obtain ⟨u, hu, he⟩ := List.any_eq_true.1 hx
 have hut : u = t := by
  have := he
  simp [eqV] at this
  first | exact this.symm | exact this
 subst hut
 exact (visitL_ok db q.2 bNone b hb).2 a ha u hu h0
theorem answers_eq {s : List Int} {q : QueryE} {db : List FactC} (h : isQuery s q = true) {ys : List (List Int)} (hp : ys.Perm (headsP q db)) (hs : ys.Pairwise fun a b => ¬ cmpI b a < 0) : compL (fun a b => decide (a = b)) ys = sortL true ((rawP q db).map fun v => q.1.map (tS v)) := by
 have hs' : ys.Pairwise fun a b => ltI b a = false := hs.imp fun {a b} h => by rw [ltI_cmp]; exact decide_eq_false h
 obtain ⟨h1, h2⟩ := compL_ok totI ys hs'
 obtain ⟨i1, i2⟩ := sortL_ok ((rawP q db).map fun v => q.1.map (tS v))
 refine strict_unique totI h1 i1 fun a => ?_
 have ha := i2 a
 rw [ha]
 refine (h2 a).trans ?_
 rw [hp.mem_iff]
 unfold headsP
 simp only [List.mem_map]
 constructor
 ·rintro ⟨b, hb, rfl⟩
  exact ⟨sV b, (sortL_ok _).2 _ |>.2 (List.mem_map.2 ⟨b, hb, rfl⟩), safe_bound h hb⟩
 ·rintro ⟨v, hv, rfl⟩
  obtain ⟨b, hb, rfl⟩ := (rawP_ok q db).1 v hv
  exact ⟨b, hb, (safe_bound h hb).symm⟩
end Go.Proofs.YtboolngaahifdaaGreatD
