/- Contracts and plain laws of this seat; no condition. -/
import Derived.Test.YtboolngaahifdaaGreatQ23
import Derived.Test.YtboolngaahifdaaGreatQ22
import Derived.Test.YtboolngaahifdaaGreatQ20
set_option linter.unusedVariables false
set_option linter.unusedSimpArgs false
set_option maxRecDepth 100000
namespace Go.Proofs.YtboolngaahifdaaGreatD
open Go Go.Proofs
def bvS (acc : List Int) (t : Int) : List Int := if decide (t ≥ 0) && !has acc t then acc ++ [t] else acc
def termsL (as' : List AtomT) : List Int := as'.flatMap (·.2)
def bodyVars (q : QueryT) : List Int := (termsL q.2).foldl bvS []
theorem has_append (xs ys : List Int) (v : Int) : has (xs ++ ys) v = (has xs v || has ys v) := List.any_append
theorem has_one (t x : Int) : has [t] x = (t == x) := by
 show ((t == x) || false) = _
 rw [Bool.or_false]
theorem has_bvS (acc : List Int) (t x : Int) : has (bvS acc t) x = (has acc x || (decide (x ≥ 0) && (t == x))) := by
 unfold bvS
 by_cases h : t = x
 ·subst h
  rw [beq_self_eq_true, Bool.and_true]
  cases h1 : decide (t ≥ 0) with
  | false => simp
  | true =>
   cases h2 : has acc t with
   | true => simp [h2]
   | false => simp [has_append, has_one, h2]
 ·have hb : (t == x) = false := by rw [beq_eq_false_iff_ne]; exact h
  rw [hb, Bool.and_false, Bool.or_false]
  split
  ·rw [has_append, has_one, hb, Bool.or_false]
  ·rfl
theorem has_fold (x : Int) : ∀ (ts acc : List Int), has (ts.foldl bvS acc) x = (has acc x || (decide (x ≥ 0) && has ts x))
 | [], acc => by
  show has acc x = (has acc x || (decide (x ≥ 0) && false))
  rw [Bool.and_false, Bool.or_false]
 | t :: ts, acc => by
  rw [List.foldl_cons, has_fold x ts, has_bvS]
  show _ = (has acc x || (decide (x ≥ 0) && ((t == x) || has ts x)))
  cases has acc x <;> cases decide (x ≥ 0) <;> rfl
theorem has_termsL (x : Int) : ∀ l : List AtomT, has (termsL l) x = l.any (hasA x)
 | [] => rfl
 | a :: l => by
  show has (a.2 ++ termsL l) x = _
  rw [has_append, has_termsL x l]
  rfl
theorem has_bodyVars (q : QueryT) (x : Int) (h : isVar x = true) : has (bodyVars q) x = occurs q x := by
 have hr : 0 ≤ x ∧ x ≤ 19 := by simpa [isVar, inR] using h
 rw [bodyVars, has_fold, has_termsL, decide_eq_true (by omega), Bool.true_and]
 rfl
theorem bodyVars_len (q : QueryT) : ∀ (ts acc : List Int), (ts.foldl bvS acc).length ≤ acc.length + ts.length
 | [], acc => Nat.le_refl _
 | t :: ts, acc => by
  have := bodyVars_len q ts (bvS acc t)
  have h2 : (bvS acc t).length ≤ acc.length + 1 := by unfold bvS; split <;> simp
  rw [List.foldl_cons, List.length_cons]
  omega
theorem termsL_len : ∀ l : List AtomT, (termsL l).length = sumB cAtom l
 | [] => rfl
 | a :: l => by
  show (a.2 ++ termsL l).length = _
  rw [List.length_append, termsL_len l]
  rfl
set_option maxHeartbeats 1000000 in
theorem bodyVars_spec (q : QueryT) (h : cQuery q ≤ 1048576) : Spec Tryz.prog 91 [vQuery q] (intsT (bodyVars q)) := by
 unfold cQuery cAtomS at h
 refine Spec_of mx Γ_ok Tryz.func91 rfl ?_
 conv => whnf
 refine ⟨[(1,0),(2,0),(3,0),(4,0)], fun m s => ∃ (k : Nat) (e : Int) (acc : List Int) (n : Nat) (r : List V), e = k ∧ m + k = q.2.length ∧ bodyVars q = (termsL (q.2.drop k)).foldl bvS acc ∧ acc.length + sumB cAtom (q.2.drop k) ≤ 1048576 ∧ n = acc.length ∧ r = rows ciL acc ∧
  s = ⟨48, [(1, .ptr 0 0), (2, cnil), (3, .own 1 1 0 n n none), (4, ci e)], [some ⟨true, rQuery q⟩, some ⟨false, r⟩]⟩, q.2.length, ⟨0, 0, [], 0, _, rfl, rfl, rfl, by simp; omega, rfl, rfl, rfl⟩, ?_⟩
 rintro m s ⟨k, _, acc, n, _, rfl, hm, hbv, hlen, hn, rfl, rfl⟩
 conv => whnf
 split <;> rename_i h1
 all_goals simp only [decide_eq_true_eq, decide_eq_false_iff_not] at h1
 ·conv => whnf
  have hk : k < q.2.length := by omega
  have hb := sumB_one (f := cAtom) hk
  have hcb : cAtom q.2[k] = q.2[k].2.length := rfl
  rw [List.drop_eq_getElem_cons hk] at hbv hlen
  refine ⟨[(1,0),(2,0),(3,0),(4,0),(5,0)], fun m s => ∃ (j : Nat) (e : Int) (acc : List Int) (n : Nat) (r : List V), e = j ∧ m + j = q.2[k].2.length ∧ bodyVars q = (termsL (q.2.drop (k + 1))).foldl bvS ((q.2[k].2.drop j).foldl bvS acc) ∧ acc.length + m + sumB cAtom (q.2.drop (k + 1)) ≤ 1048576 ∧ n = acc.length ∧ r = rows ciL acc ∧
   s = ⟨48, [(1, .ptr 0 0), (2, cnil), (3, .own 1 1 0 n n none), (4, ci k), (5, ci e)], [some ⟨true, rQuery q⟩, some ⟨false, r⟩]⟩, q.2[k].2.length, ⟨0, 0, acc, n, _, rfl, rfl, ?_, ?_, hn, rfl, rfl⟩, ?_⟩
  ·rw [hbv]
   show ((q.2[k].2 ++ termsL (q.2.drop (k + 1))).foldl bvS acc) = _
   rw [List.foldl_append]
   rfl
  ·have : cAtom q.2[k] = q.2[k].2.length := rfl
   simp only [sumB] at hlen
   omega
  clear hbv hlen hn
  rintro m' s ⟨j, _, acc, n, _, rfl, hm', hbv, hlen, hn, rfl, rfl⟩
  conv => whnf
  refine ⟨by omega, rows_len rAtom_len _, ?_⟩
  conv => whnf
  refine ⟨_, takeN_rp_field (k := k) (d := 1) (m := 1) (r := [ints q.2[k].2]) rAtom_len hk (by omega) rfl, ?_⟩
  conv => whnf
  split <;> rename_i h2
  all_goals simp only [decide_eq_true_eq, decide_eq_false_iff_not] at h2
  ·conv => whnf
   have hj : j < q.2[k].2.length := by omega
   rw [List.drop_eq_getElem_cons hj, List.foldl_cons] at hbv
   refine ⟨by omega, rows_len rAtom_len _, ?_⟩
   conv => whnf
   refine ⟨_, takeN_rp_field (k := k) (d := 1) (m := 1) (r := [ints q.2[k].2]) rAtom_len hk (by omega) rfl, ?_⟩
   conv => whnf
   refine ⟨by omega, rows_len ciL_len _, ?_⟩
   conv => whnf
   refine ⟨_, takeN_rp (k := j) ciL_len hj, ?_⟩
   conv => whnf
   rw [bvS] at hbv
   generalize hb1 : decide (q.2[k].2[j] ≥ 0) = b1
   rw [hb1] at hbv
   cases b1 with
   | false =>
    conv => whnf
    exact ⟨m' - 1, by omega, j + 1, _, acc, n, _, wrap_id (by omega) (by omega), by omega, hbv, by omega, hn, rfl, rfl⟩
   | true =>
   conv => whnf
   refine .inl ?_
   conv => whnf
   refine ⟨_, _, takeN_all (by rw [rows_len ciL_len, hn]), roVs_ci _, ?_⟩
   conv => whnf
   subst hn
   refine ⟨_, l2Has_spec acc q.2[k].2[j] (by omega), .inr trivial, .inl ?_⟩
   conv => whnf
   generalize has acc q.2[k].2[j] = b2 at hbv
   cases b2 with
   | true =>
    conv => whnf
    exact ⟨m' - 1, by omega, j + 1, _, acc, _, _, wrap_id (by omega) (by omega), by omega, hbv, by omega, rfl, rfl, rfl⟩
   | false =>
    conv => whnf
    refine ⟨_, rfl, .inl ⟨flat1 rfl, ?_⟩⟩
    conv => whnf
    refine ⟨by omega, rows_len ciL_len _, _, snoc_ci _ _, ?_⟩
    conv => whnf
    refine ⟨m' - 1, by omega, j + 1, _, acc ++ [q.2[k].2[j]], _, _, wrap_id (by omega) (by omega), by omega, hbv, ?_, ?_, rfl, rfl⟩
    ·rw [List.length_append, List.length_singleton]
     omega
    ·rw [List.length_append]
     rfl
  ·conv => whnf
   rw [drop_end (by omega), List.foldl_nil] at hbv
   exact ⟨m - 1, by omega, k + 1, _, acc, n, _, wrap_id (by omega) (by omega), by omega, hbv, by omega, hn, rfl, rfl⟩
 ·conv => whnf
  rw [drop_end (by omega)] at hbv
  subst hn
  refine ⟨by rw [rows_len ciL_len], ?_⟩
  rw [hbv]
  rfl
set_option maxHeartbeats 1000000 in
theorem l4Fine_spec (s : List Int) (q : QueryT) (n : Int) (hs : cSchema s ≤ 1048576) (h : cQuery q ≤ 1048576) : Spec Tryz.prog 92 [vSchema s, vQuery q, ci n] (cb (fineQ s q n)) := by
 unfold cSchema at hs
 have h' := h
 unfold cQuery cAtomS at h'
 refine Spec_of mx Γ_ok Tryz.func92 rfl ?_
 conv => whnf
 refine ⟨_, specIsSchema_spec s (by omega), .inl rfl, .inl ?_⟩
 conv => whnf
 unfold fineQ
 generalize isSchema s = b1
 cases b1 with
 | false =>
  conv => whnf
  rfl
 | true =>
 conv => whnf
 refine ⟨_, l3Terms_spec q.1 (by omega), .inl rfl, .inl ?_⟩
 conv => whnf
 generalize terms3 q.1 = b3
 cases b3 with
 | false =>
  conv => whnf
  rfl
 | true =>
 conv => whnf
 refine ⟨_, l1In_spec (q.2.length : Int) 1 n, .inl rfl, .inl ?_⟩
 conv => whnf
 generalize inR (q.2.length : Int) 1 n = b4
 cases b4 with
 | false =>
  conv => whnf
  rfl
 | true =>
 conv => whnf
 refine ⟨[(3,0),(4,0),(6,0),(7,0)], fun m st => ∃ (k : Nat) (e : Int), e = k ∧ m + k = q.2.length ∧ q.2.all (isAtom s) = (q.2.drop k).all (isAtom s) ∧
  st = ⟨65, [(3, .ptr 0 0), (4, .ptr 1 0), (6, cb false), (7, ci e)], [some ⟨true, [ints s]⟩, some ⟨true, rQuery q⟩]⟩, q.2.length, ⟨0, 0, rfl, rfl, rfl, rfl⟩, ?_⟩
 rintro m st ⟨k, _, rfl, hm, hj, rfl⟩
 conv => whnf
 split <;> rename_i h1
 all_goals simp only [decide_eq_true_eq, decide_eq_false_iff_not] at h1
 ·conv => whnf
  have hk : k < q.2.length := by omega
  have hb := sumB_one (f := cAtom) hk
  have hcb : cAtom q.2[k] = q.2[k].2.length := rfl
  rw [drop_all hk] at hj
  refine ⟨List.range 8, by kernel_rfl, ?_⟩
  conv => whnf
  refine ⟨by omega, rows_len rAtom_len _, ?_⟩
  conv => whnf
  refine ⟨_, takeN_rp (k := k) rAtom_len hk, ?_⟩
  conv => whnf
  refine ⟨_, specIsAtom_spec s q.2[k] (by omega) (by omega), .inl rfl, .inl ?_⟩
  conv => whnf
  generalize isAtom s q.2[k] = b5 at hj
  cases b5 with
  | false =>
   conv => whnf
   rw [hj]
   rfl
  | true =>
   conv => whnf
   rw [Bool.true_and] at hj
   exact ⟨m - 1, by omega, k + 1, _, wrap_id (by omega) (by omega), by omega, hj, rfl⟩
 ·conv => whnf
  rw [drop_end (by omega)] at hj
  rw [hj]
  clear hj
  refine ⟨[(4,0),(6,0),(8,0)], fun m st => ∃ (k : Nat) (e : Int), e = k ∧ m + k = q.1.length ∧ q.1.all (safeV q) = (q.1.drop k).all (safeV q) ∧
   st = ⟨65, [(4, .ptr 0 0), (6, cb false), (8, ci e)], [some ⟨true, rQuery q⟩]⟩, q.1.length, ⟨0, 0, rfl, rfl, rfl, rfl⟩, ?_⟩
  rintro m1 st ⟨j, _, rfl, hm1, hj, rfl⟩
  conv => whnf
  split <;> rename_i h2
  all_goals simp only [decide_eq_true_eq, decide_eq_false_iff_not] at h2
  ·conv => whnf
   have hjl : j < q.1.length := by omega
   rw [drop_all hjl, safeV] at hj
   have hbl : (bodyVars q).length ≤ 1048576 := by
    have h1 := bodyVars_len q (termsL q.2) []
    rw [termsL_len] at h1
    simp only [List.length_nil] at h1
    unfold bodyVars
    omega
   refine ⟨[0,1,2,3,4,5,6,7,9,10,11,12,13,8,14,15,16], by kernel_rfl, ?_⟩
   conv => whnf
   refine ⟨by omega, rows_len ciL_len _, ?_⟩
   conv => whnf
   refine ⟨_, takeN_rp (k := j) ciL_len hjl, ?_⟩
   conv => whnf
   refine ⟨_, specIsVar_spec q.1[j], .inl rfl, .inl ?_⟩
   conv => whnf
   generalize hb1 : isVar q.1[j] = b1
   rw [hb1] at hj
   cases b1 with
   | false =>
    conv => whnf
    exact ⟨m1 - 1, by omega, j + 1, _, wrap_id (by omega) (by omega), by omega, hj, rfl⟩
   | true =>
   conv => whnf
   refine ⟨by omega, rows_len ciL_len _, ?_⟩
   conv => whnf
   refine ⟨_, takeN_rp (k := j) ciL_len hjl, ?_⟩
   conv => whnf
   refine ⟨_, bodyVars_spec q h, .inl rfl, .inl ?_⟩
   rw [intsT_ro]
   conv => whnf
   refine ⟨_, l2Has_spec (bodyVars q) q.1[j] (by omega), .inl rfl, .inl ?_⟩
   conv => whnf
   rw [has_bodyVars q _ hb1]
   generalize occurs q q.1[j] = b2 at hj
   cases b2 with
   | false =>
    conv => whnf
    rw [hj]
    rfl
   | true =>
    conv => whnf
    exact ⟨m1 - 1, by omega, j + 1, _, wrap_id (by omega) (by omega), by omega, hj, rfl⟩
  ·conv => whnf
   rw [hj, drop_end (by omega)]
   rfl
theorem specIsQuery_spec (s : List Int) (q : QueryT) (hs : cSchema s ≤ 1048576) (h : cQuery q ≤ 1048576) : Spec Tryz.prog 25 [vSchema s, vQuery q] (cb (isQuery s q)) := by
 refine Spec_of mx Γ_ok Tryz.func25 rfl ?_
 conv => whnf
 refine ⟨_, l4Fine_spec s q 4 hs h, .inl rfl, .inl ?_⟩
 conv => whnf
 rfl
theorem isQuery_terms {s : List Int} {q : QueryE} (h : isQuery s q = true) : q.1.all isTerm = true ∧ (∀ a ∈ q.2, a.2.all isTerm = true) ∧ q.2.length ≤ 8 := by
 have h0 := h
 simp only [isQuery, fineQ, terms3, Bool.and_eq_true, decide_eq_true_eq] at h
 refine ⟨?_, ?_, ?_⟩
 ·exact h.2.1.1
 ·intro a ha
  have := List.all_eq_true.1 h.2.2.2.1 a ha
  simp only [isAtom, Bool.and_eq_true] at this
  exact this.2
 ·have := h.2.2.1
  simp only [inR, Bool.and_eq_true, decide_eq_true_eq] at this
  omega
def bindingsS (s : List Int) (q : QueryE) (db : List FactC) : List (List Int) := if isQuery s q && isDb s db then rawP q db else []
theorem isDb_len {s : List Int} {db : List FactC} (h : isDb s db = true) : db.length ≤ 24 := by
 simp only [isDb, Bool.and_eq_true, decide_eq_true_eq] at h
 exact h.2.2
theorem pow_small {n m : Nat} (hn : n ≤ 24) (hm : m ≤ 8) : n ^ m ≤ 549755813888 := by
 have h1 : n ^ m ≤ 24 ^ m := Nat.pow_le_pow_left hn m
 have h2 : 24 ^ m ≤ 24 ^ 8 := Nat.pow_le_pow_right (by decide) hm
 have h3 : 24 ^ 8 ≤ 549755813888 := by decide
 omega
theorem specBindings_spec (s : List Int) (q : QueryE) (db : List FactC) (hs : cSchema s ≤ 1048576) (hq : cQuery q ≤ 1048576) (hd : cFactS db ≤ 1048576) : Spec Tryz.prog 10 [vSchema s, vQuery q, vFactS db] (wLists (bindingsS s q db)) := by
 have hs' : s.length ≤ 1099511627776 := by unfold cSchema at hs; omega
 refine Spec_of mx Γ_ok Tryz.func10 rfl ?_
 conv => whnf
 refine ⟨_, specIsQuery_spec s q hs hq, .inl rfl, .inl ?_⟩
 conv => whnf
 unfold bindingsS
 generalize hb1 : isQuery s q = b1
 cases b1 with
 | false =>
  conv => whnf
  exact ⟨rfl, rfl⟩
 | true =>
  conv => whnf
  refine ⟨_, specIsDatabase_spec s db hs' hd, .inl rfl, .inl ?_⟩
  conv => whnf
  generalize hb2 : isDb s db = b2
  cases b2 with
  | false =>
   conv => whnf
   exact ⟨rfl, rfl⟩
  | true =>
   conv => whnf
   obtain ⟨t1, t2, t3⟩ := isQuery_terms hb1
   refine ⟨_, l6Raw_spec q db hq hd t2 (pow_small (isDb_len hb2) t3), .inl rfl, .inr ?_⟩
   conv => whnf
   refine ⟨by rw [rows_len tL_len], rfl⟩
theorem mem_insL {once : Bool} {out : List (List Int)} {v x : List Int} (h : x ∈ insL once out v) : x = v ∨ x ∈ out := by
 unfold insL at h
 split at h
 ·exact .inr h
 ·rcases List.mem_append.1 h with h | h
  ·exact .inr (List.mem_of_mem_take h)
  ·rcases List.mem_cons.1 h with h | h
   ·exact .inl h
   ·exact .inr (List.mem_of_mem_drop h)
theorem insL_len (once : Bool) (out : List (List Int)) (v : List Int) : (insL once out v).length ≤ out.length + 1 := by
 unfold insL
 split
 ·omega
 ·rw [List.length_append, List.length_cons, List.length_take, List.length_drop]; omega
theorem foldL_ok (once : Bool) : ∀ (l out : List (List Int)), (∀ x ∈ l.foldl (insL once) out, x ∈ l ∨ x ∈ out) ∧ (l.foldl (insL once) out).length ≤ l.length + out.length
 | [], out => ⟨fun x h => .inr h, by simp⟩
 | v :: l, out => by
  obtain ⟨h1, h2⟩ := foldL_ok once l (insL once out v)
  have h3 := insL_len once out v
  refine ⟨fun x hx => ?_, ?_⟩
  ·rcases h1 x hx with h | h
   ·exact .inl (by simp [h])
   ·rcases mem_insL h with h | h
    ·exact .inl (by simp [h])
    ·exact .inr h
  ·rw [List.foldl_cons, List.length_cons]; omega
theorem mem_sortL {once : Bool} {l : List (List Int)} {x : List Int} (h : x ∈ sortL once l) : x ∈ l := by
 rcases (foldL_ok once l []).1 x h with h | h
 ·exact h
 ·cases h
theorem sortL_len (once : Bool) (l : List (List Int)) : (sortL once l).length ≤ l.length := (foldL_ok once l []).2
theorem rawP_ok (q : QueryE) (db : List FactC) : (∀ v ∈ rawP q db, ∃ b ∈ visitL db q.2 bNone, v = sV b) ∧ (rawP q db).length ≤ db.length ^ q.2.length := by
 refine ⟨fun v hv => ?_, ?_⟩
 ·obtain ⟨b, hb, rfl⟩ := List.mem_map.1 (mem_sortL hv)
  exact ⟨b, hb, rfl⟩
 ·have h1 := sortL_len true ((visitL db q.2 bNone).map sV)
  rw [List.length_map] at h1
  exact Nat.le_trans h1 (visitL_len db q.2 bNone)
theorem l6Heads_nil (q : QueryE) (hq : cQuery q ≤ 1048576) : Spec Tryz.prog 76 [vQuery q, vLists []] (wLists []) := by
 refine Spec_of mx Γ_ok Tryz.func76 rfl ?_
 conv => whnf
 refine ⟨[(1,0),(2,0),(4,0),(5,0),(6,0)], fun m s => s = ⟨25, [(1, vLists []), (2, .ptr 0 0), (4, cnil), (5, .own 1 1 0 0 0 none), (6, ci 0)], [some ⟨true, rQuery q⟩, some ⟨false, []⟩]⟩, 0, rfl, ?_⟩
 rintro m s rfl
 conv => whnf
 exact ⟨rfl, rfl⟩
theorem scanL_ok (v : List Int) (out : List (List Int)) : ∀ n, n ≤ out.length → scanL v out n ≤ n ∧ (∀ j, scanL v out n ≤ j → j < n → ∀ h : j < out.length, ltI v out[j] = true) ∧ (0 < scanL v out n → ltI v (out.getD (scanL v out n - 1) []) = false)
 | 0, _ => ⟨Nat.le_refl _, fun j _ h => absurd h (Nat.not_lt_zero _), fun h => absurd h (by simp [scanL])⟩
 | n + 1, hn => by
  obtain ⟨i1, i2, i3⟩ := scanL_ok v out n (by omega)
  have hg : out.getD n [] = out[n] := by rw [List.getD_eq_getElem?_getD, List.getElem?_eq_getElem (by omega)]; rfl
  simp only [scanL]
  split
  ·rename_i h
   refine ⟨by omega, fun j h1 h2 h3 => ?_, i3⟩
   by_cases e : j = n
   ·subst e; rw [← hg]; exact h
   ·exact i2 j h1 (by omega) h3
  ·rename_i h
   exact ⟨Nat.le_refl _, fun j h1 h2 => by omega, fun _ => by simpa using h⟩
theorem insL_ok {out : List (List Int)} (hs : Strict ltI out) (v : List Int) : Strict ltI (insL true out v) ∧ ∀ x, x ∈ insL true out v ↔ x = v ∨ x ∈ out := by
 obtain ⟨h1, h2, h3⟩ := scanL_ok v out out.length (Nat.le_refl _)
 unfold insL
 generalize scanL v out out.length = k at *
 have hpw := List.pairwise_iff_getElem.1 hs
 by_cases hc : (true && decide (0 < k) && decide (out.getD (k - 1) [] = v)) = true
 ·rw [if_pos hc]
  simp only [Bool.and_eq_true, decide_eq_true_eq, true_and] at hc
  have hk1 : k - 1 < out.length := by omega
  have hg : out.getD (k - 1) [] = out[k - 1] := by rw [List.getD_eq_getElem?_getD, List.getElem?_eq_getElem hk1]; rfl
  refine ⟨hs, fun x => ⟨.inr, ?_⟩⟩
  rintro (rfl | h)
  ·rw [← hc.2, hg]; exact List.getElem_mem hk1
  ·exact h
 ·rw [if_neg hc]
  have hlow : ∀ j (h : j < out.length), j < k → ltI out[j] v = true := by
   intro j h hj
   have hk0 : 0 < k := by omega
   have hk1 : k - 1 < out.length := by omega
   have hg : out.getD (k - 1) [] = out[k - 1] := by rw [List.getD_eq_getElem?_getD, List.getElem?_eq_getElem hk1]; rfl
   have h4 := h3 hk0
   rw [hg] at h4
   have h5 : ¬ out[k - 1] = v := fun e => hc (by rw [hg]; simp [hk0, e])
   have h6 : ltI out[k - 1] v = true := by
    rcases totI.tri out[k - 1] v with h | h | h
    ·exact h
    ·exact absurd h h5
    ·rw [h4] at h; cases h
   by_cases e : j = k - 1
   ·subst e; exact h6
   ·exact totI.tr _ _ _ (hpw j (k - 1) h hk1 (by omega)) h6
  refine ⟨?_, fun x => ?_⟩
  ·refine List.pairwise_append.2 ⟨hs.sublist (List.take_sublist _ _), List.pairwise_cons.2 ⟨fun x hx => ?_, hs.sublist (List.drop_sublist _ _)⟩, fun x hx y hy => ?_⟩
   ·obtain ⟨j, hj, rfl⟩ := List.getElem_of_mem hx
    rw [List.length_drop] at hj
    rw [List.getElem_drop]
    exact h2 (k + j) (by omega) (by omega) (by omega)
   ·obtain ⟨j, hj, rfl⟩ := List.getElem_of_mem hx
    rw [List.length_take] at hj
    rw [List.getElem_take]
    have h4 := hlow j (by omega) (by omega)
    rcases List.mem_cons.1 hy with rfl | hy
    ·exact h4
    ·obtain ⟨p, hp, rfl⟩ := List.getElem_of_mem hy
     rw [List.length_drop] at hp
     rw [List.getElem_drop]
     exact totI.tr _ _ _ h4 (h2 (k + p) (by omega) (by omega) (by omega))
  ·rw [List.mem_append, List.mem_cons]
   constructor
   ·rintro (h | h | h)
    ·exact .inr (List.mem_of_mem_take h)
    ·exact .inl h
    ·exact .inr (List.mem_of_mem_drop h)
   ·rintro (h | h)
    ·exact .inr (.inl h)
    ·rw [← List.take_append_drop k out] at h
     rcases List.mem_append.1 h with h | h
     ·exact .inl h
     ·exact .inr (.inr h)
theorem sortL_ok (l : List (List Int)) : Strict ltI (sortL true l) ∧ ∀ x, x ∈ sortL true l ↔ x ∈ l := by
 have : ∀ (l out : List (List Int)), Strict ltI out → Strict ltI (l.foldl (insL true) out) ∧ ∀ x, x ∈ l.foldl (insL true) out ↔ x ∈ l ∨ x ∈ out := by
  intro l
  induction l with
  | nil => intro out h; exact ⟨h, fun x => by simp⟩
  | cons v l ih =>
   intro out h
   obtain ⟨h1, h2⟩ := insL_ok h v
   obtain ⟨i1, i2⟩ := ih _ h1
   refine ⟨i1, fun x => ?_⟩
   rw [List.foldl_cons, i2 x, h2 x, List.mem_cons]
   constructor
   ·rintro (h | h | h) <;> simp [h]
   ·rintro ((h | h) | h) <;> simp [h]
 obtain ⟨h1, h2⟩ := this l [] List.Pairwise.nil
 exact ⟨h1, fun x => by rw [sortL, h2 x]; simp⟩
theorem safe_bound {s : List Int} {q : QueryE} {db : List FactC} (h : isQuery s q = true) {b : Bnd} (hb : b ∈ visitL db q.2 bNone) : q.1.map (tS (sV b)) = tupOf b q.1 := by
 obtain ⟨t1, t2, t3⟩ := isQuery_terms h
 refine List.map_congr_left fun t ht => tS_valOf b t (List.all_eq_true.1 t1 t ht) fun h0 => ?_
 simp only [isQuery, fineQ, Bool.and_eq_true] at h
 have hs := List.all_eq_true.1 h.2.2.2.2 t ht
 have hr : -80 ≤ t ∧ t ≤ 19 := by simpa [isTerm, inR] using List.all_eq_true.1 t1 t ht
 have hv : isVar t = true := by simp [isVar, inR]; omega
 have hoc : occurs q t = true := by simpa [safeV, hv] using hs
 obtain ⟨a, ha, hx⟩ := List.any_eq_true.1 hoc
 obtain ⟨u, hu, he⟩ := List.any_eq_true.1 hx
 have hut : u = t := by
  have := he
  simp [eqV] at this
  first | exact this.symm | exact this
 subst hut
 exact (visitL_ok db q.2 bNone b hb).2 a ha u hu h0
theorem step_val {b b1 : Bnd} {a f : FactC} {db r : List FactC} (ht : a.2.all isTerm = true) (htr : ∀ c ∈ r, c.2.all isTerm = true) (hm : (mch b a f).2 = true) (h : b1 ∈ visitL db r (mch b a f).1) : valA (fnOf b1) a = f ∧ ∀ t ∈ a.2, 0 ≤ t → (b1 t.toNat).isSome = true := by
 have i1 := (visitL_sound db r _ b1 htr h).1
 unfold mch at hm i1
 by_cases hc : a.1 = f.1 ∧ a.2.length = f.2.length
 ·rw [if_pos hc] at hm i1
  have hb : bindGo a.2 f.2 b = ((bindGo a.2 f.2 b).1, true) := Prod.ext rfl hm
  obtain ⟨s1, s2⟩ := bindGo_sound _ _ _ _ hc.2 ht hb
  refine ⟨Prod.ext hc.1 ?_, fun t ht h0 => ?_⟩
  ·show a.2.map (val (fnOf b1)) = f.2
   rw [← s1]
   exact List.map_congr_left fun t ht' => val_ext i1 (s2 t ht')
  ·obtain ⟨u, hu⟩ := Option.isSome_iff_exists.1 (s2 t ht h0)
   rw [i1 _ _ hu]
   rfl
 ·rw [if_neg hc] at hm
  cases hm
theorem val_sV {b1 b2 : Bnd} (h : sV b1 = sV b2) {t : Int} (ht : isTerm t = true) (h1 : 0 ≤ t → (b1 t.toNat).isSome = true) (h2 : 0 ≤ t → (b2 t.toNat).isSome = true) : val (fnOf b1) t = val (fnOf b2) t := by
 unfold val
 cases hv : isVar t with
 | false => rfl
 | true =>
  have h0 := (var_iff ht).1 hv
  have hr := term_rng ht
  obtain ⟨u, hu⟩ := Option.isSome_iff_exists.1 (h1 h0)
  obtain ⟨w, hw⟩ := Option.isSome_iff_exists.1 (h2 h0)
  have e : (sV b1).getD t.toNat 0 = (sV b2).getD t.toNat 0 := by rw [h]
  rw [sV_at b1 (by omega), sV_at b2 (by omega), hu, hw] at e
  simp only [if_true]
  unfold fnOf ba
  rw [hu, hw]
  exact e
theorem visitL_diff {db : List FactC} (hd : db.Pairwise fun a b => a ≠ b) : ∀ (body : List FactC) (b : Bnd), (∀ a ∈ body, a.2.all isTerm = true) → ((visitL db body b).map sV).Pairwise fun x y => x ≠ y
 | [], b, _ => by simp [visitL]
 | a :: r, b, ht => by
  have hta := ht a (by simp)
  have htr : ∀ c ∈ r, c.2.all isTerm = true := fun c hc => ht c (by simp [hc])
  rw [visitL, List.map_flatMap, List.pairwise_flatMap]
  refine ⟨fun f hf => ?_, hd.imp fun {f g} hfg => ?_⟩
  ·split
   ·exact visitL_diff hd r _ htr
   ·exact List.Pairwise.nil
  ·intro x hx y hy hxy
   split at hx
   ·rename_i hm1
    split at hy
    ·rename_i hm2
     obtain ⟨b1, hb1, rfl⟩ := List.mem_map.1 hx
     obtain ⟨b2, hb2, rfl⟩ := List.mem_map.1 hy
     obtain ⟨u1, u2⟩ := step_val hta htr hm1 hb1
     obtain ⟨w1, w2⟩ := step_val hta htr hm2 hb2
     apply hfg
     rw [← u1, ← w1]
     refine Prod.ext rfl ?_
     exact List.map_congr_left fun t ht => val_sV hxy (List.all_eq_true.1 hta t ht) (u2 t ht) (w2 t ht)
    ·cases hy
   ·cases hx
def Asc (l : List (List Int)) : Prop := l.Pairwise fun a b => ltI b a = false
theorem asc_eq {l m : List (List Int)} (hl : Asc l) (hm : Asc m) (hp : l.Perm m) : l = m := by
 refine List.Perm.eq_of_pairwise (le := fun a b => ltI b a = false) (fun a b _ _ h1 h2 => ?_) hl hm hp
 rcases totI.tri a b with h | h | h
 ·rw [h2] at h; cases h
 ·exact h
 ·rw [h1] at h; cases h
theorem lt_le {a b c : List Int} (h1 : ltI a b = true) (h2 : ltI c b = false) : ltI a c = true := by
 rcases totI.tri b c with h | h | h
 ·exact totI.tr _ _ _ h1 h
 ·rw [← h]; exact h1
 ·rw [h2] at h; cases h
theorem insF_perm (out : List (List Int)) (v : List Int) : (insL false out v).Perm (v :: out) := by
 unfold insL
 rw [if_neg (by simp)]
 refine List.perm_middle.trans ?_
 rw [List.take_append_drop]
theorem insF_asc {out : List (List Int)} (hs : Asc out) (v : List Int) : Asc (insL false out v) := by
 obtain ⟨h1, h2, h3⟩ := scanL_ok v out out.length (Nat.le_refl _)
 unfold insL
 rw [if_neg (by simp)]
 generalize scanL v out out.length = k at *
 have hpw := List.pairwise_iff_getElem.1 hs
 have hlow : ∀ j (h : j < out.length), j < k → ltI v out[j] = false := by
  intro j h hj
  have hk1 : k - 1 < out.length := by omega
  have hg : out.getD (k - 1) [] = out[k - 1] := by rw [List.getD_eq_getElem?_getD, List.getElem?_eq_getElem hk1]; rfl
  have h4 := h3 (by omega)
  rw [hg] at h4
  cases hv : ltI v out[j] with
  | false => rfl
  | true =>
   by_cases e : j = k - 1
   ·subst e; rw [h4] at hv; cases hv
   ·have := lt_le hv (hpw j (k - 1) h hk1 (by omega))
    rw [h4] at this; cases this
 refine List.pairwise_append.2 ⟨hs.sublist (List.take_sublist _ _), List.pairwise_cons.2 ⟨fun x hx => ?_, hs.sublist (List.drop_sublist _ _)⟩, fun x hx y hy => ?_⟩
 ·obtain ⟨j, hj, rfl⟩ := List.getElem_of_mem hx
  rw [List.length_drop] at hj
  rw [List.getElem_drop]
  exact totI.asym (h2 (k + j) (by omega) (by omega) (by omega))
 ·obtain ⟨j, hj, rfl⟩ := List.getElem_of_mem hx
  rw [List.length_take] at hj
  rw [List.getElem_take]
  rcases List.mem_cons.1 hy with rfl | hy
  ·exact hlow j (by omega) (by omega)
  ·obtain ⟨p, hp, rfl⟩ := List.getElem_of_mem hy
   rw [List.length_drop] at hp
   rw [List.getElem_drop]
   exact hpw j (k + p) (by omega) (by omega) (by omega)
theorem sortF_ok (l : List (List Int)) : Asc (sortL false l) ∧ (sortL false l).Perm l := by
 have : ∀ (l out : List (List Int)), Asc out → Asc (l.foldl (insL false) out) ∧ (l.foldl (insL false) out).Perm (l ++ out) := by
  intro l
  induction l with
  | nil => intro out h; exact ⟨h, List.Perm.refl _⟩
  | cons v l ih =>
   intro out h
   obtain ⟨i1, i2⟩ := ih _ (insF_asc h v)
   refine ⟨i1, i2.trans ?_⟩
   exact ((insF_perm out v).append_left l).trans List.perm_middle
 obtain ⟨h1, h2⟩ := this l [] List.Pairwise.nil
 rw [List.append_nil] at h2
 exact ⟨h1, h2⟩
theorem strict_nodup {α : Type} {lt : α → α → Bool} (h : Tot lt) {l : List α} (hs : Strict lt l) : l.Pairwise fun a b => a ≠ b := hs.imp fun {a b} h1 e => by
 subst e
 rw [h.irr] at h1
 cases h1
theorem sortT_perm {l : List (List Int)} (hl : l.Pairwise fun a b => a ≠ b) : (sortL true l).Perm l := by
 obtain ⟨h1, h2⟩ := sortL_ok l
 exact (List.perm_ext_iff_of_nodup (strict_nodup totI h1) hl).2 h2
theorem isDb_diff {s : List Int} {db : List FactC} (h : isDb s db = true) : db.Pairwise fun a b => a ≠ b := by
 have hg : ∀ (db : List FactC) (p : Option FactC), dbGo s p db = true → Strict ltF db ∧ ∀ y, p = some y → ∀ f ∈ db, ltF y f = true := by
  intro db
  induction db with
  | nil => intro p _; exact ⟨List.Pairwise.nil, fun y _ f hf => by cases hf⟩
  | cons x r ih =>
   intro p h
   simp only [dbGo, Bool.and_eq_true] at h
   obtain ⟨⟨_, h2⟩, h3⟩ := h
   obtain ⟨i1, i2⟩ := ih (some x) h3
   refine ⟨List.pairwise_cons.2 ⟨i2 x rfl, i1⟩, fun y hy f hf => ?_⟩
   subst hy
   have h2' : ltF y x = true := h2
   rcases List.mem_cons.1 hf with rfl | hf
   ·exact h2'
   ·exact totF.tr _ _ _ h2' (i2 x rfl f hf)
 simp only [isDb, Bool.and_eq_true] at h
 exact strict_nodup totF (hg db none h.1).1
theorem rawP_perm {s : List Int} {q : QueryE} {db : List FactC} (hq : isQuery s q = true) (hd : isDb s db = true) : (rawP q db).Perm ((visitL db q.2 bNone).map sV) := sortT_perm (visitL_diff (isDb_diff hd) q.2 bNone (isQuery_terms hq).2.1)
theorem heads_perm {s : List Int} {q : QueryE} {db : List FactC} (hq : isQuery s q = true) (hd : isDb s db = true) : ((rawP q db).map fun v => q.1.map (tS v)).Perm (headsP q db) := by
 refine ((rawP_perm hq hd).map _).trans ?_
 unfold headsP
 rw [List.map_map]
 exact List.Perm.of_eq (List.map_congr_left fun b hb => safe_bound hq hb)
abbrev CountC := List Int × Int
def cntPut (out : List CountC) (t : List Int) : List CountC :=
 match out.getLast? with
 | some p => if p.1 = t then out.dropLast ++ [(p.1, p.2 + 1)] else out ++ [(t, 1)]
 | none => [(t, 1)]
def cntL (l : List (List Int)) : List CountC := l.foldl cntPut []
theorem cntPut_snoc (out : List CountC) (p : CountC) (t : List Int) : cntPut (out ++ [p]) t = if p.1 = t then out ++ [(p.1, p.2 + 1)] else out ++ [p] ++ [(t, 1)] := by
 unfold cntPut
 rw [List.getLast?_concat]
 simp only [List.dropLast_concat]
def countsS (s : List Int) (q : QueryE) (db : List FactC) : List CountC := if isQuery s q && isDb s db then cntL (sortL false ((rawP q db).map fun v => q.1.map (tS v))) else []
end Go.Proofs.YtboolngaahifdaaGreatD
