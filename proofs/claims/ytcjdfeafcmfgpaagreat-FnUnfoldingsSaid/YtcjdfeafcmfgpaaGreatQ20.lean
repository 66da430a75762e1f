/- Contracts and plain laws of this seat; no condition. -/
import Derived.Test.YtcjdfeafcmfgpaaGreatQ19
import Derived.Test.YtcjdfeafcmfgpaaGreatQ11
set_option linter.unusedVariables false
set_option linter.unusedSimpArgs false
set_option maxRecDepth 100000
namespace Go.Proofs.YtcjdfeafcmfgpaaGreatD
open Go Go.Proofs
theorem repC_spec (x a b : Int) : Spec Tryz.prog 286 [ci x, .rp [ci a], .rp [ci b]] (ci (rep1 a b x)) := by
 refine Spec_of mx Γ_ok Tryz.func286 rfl ?_
 conv => whnf
 refine ⟨_, rfl, ?_⟩
 conv => whnf
 generalize hb1 : (x == a) = b1
 have hf : rep1 a b x = if b1 then b else x := by rw [rep1, hb1]
 rw [hf]
 cases b1 with
 | true =>
  conv => whnf
  refine ⟨_, rfl, ?_⟩
  conv => whnf
  rfl
 | false =>
  conv => whnf
  rfl
def fnR (a b : Int) : V := .fn 286 [.rp [ci a], .rp [ci b]]
def bodyR (a b : Int) (xs : List AtomC) (k : Nat) (x : AtomC) (j : Nat) : List AtomC := (chg (repA a b) xs k).set k (x.1, chg (rep1 a b) x.2 j)
theorem bodyR_len (a b : Int) (xs : List AtomC) (k : Nat) (x : AtomC) (j : Nat) : (bodyR a b xs k x j).length = xs.length := by rw [bodyR, List.length_set, chg_len]
theorem bodyR_zero (a b : Int) {xs : List AtomC} {k : Nat} (hk : k < xs.length) : bodyR a b xs k xs[k] 0 = chg (repA a b) xs k := by
 rw [bodyR, chg_zero]
 have hk' : k < (chg (repA a b) xs k).length := by rw [chg_len]; exact hk
 have := chg_at (repA a b) hk hk'
 rw [show (xs[k].1, xs[k].2) = xs[k] from rfl, ← this, List.set_getElem_self]
theorem bodyR_all (a b : Int) {xs : List AtomC} {k j : Nat} (hk : k < xs.length) (hj : xs[k].2.length ≤ j) : bodyR a b xs k xs[k] j = chg (repA a b) xs (k + 1) := by
 rw [bodyR, chg_all _ hj, ← chg_set _ hk]
 rfl
theorem bodyR_at (a b : Int) {xs : List AtomC} {k j : Nat} (x : AtomC) (hk : k < xs.length) (h : k < (bodyR a b xs k x j).length) : (bodyR a b xs k x j)[k] = (x.1, chg (rep1 a b) x.2 j) := by
 simp only [bodyR, List.getElem_set_self]
theorem bodyR_set (a b : Int) (xs : List AtomC) (k : Nat) (x : AtomC) (j i : Nat) : (bodyR a b xs k x j).set k (x.1, chg (rep1 a b) x.2 i) = bodyR a b xs k x i := by
 rw [bodyR, List.set_set]
 rfl
set_option maxHeartbeats 4000000 in
theorem changed_spec (x0 : QueryC) (a b : Int) (h0 : cQuery x0 ≤ 1048576) : Spec Tryz.prog 242 [vQuery x0, fnR a b] (wQuery (pReplaceTerm x0 a b)) := by
 have h0' := h0
 unfold cQuery cAtomS at h0'
 refine Spec_of mx Γ_ok Tryz.func242 rfl ?_
 conv => whnf
 refine ⟨_, copyQuery_spec x0 (by omega), .inl rfl, .inr ?_⟩
 conv => whnf
 refine ⟨[(1,0),(4,0),(5,0),(15,0),(16,0),(17,0)], fun m s => ∃ (k : Nat) (e : Int) (r : List V), e = k ∧ m + k = x0.1.length ∧ r = rows ciL (chg (rep1 a b) x0.1 k) ∧
  s = ⟨55, [(1, fnR a b), (4, .ptr 0 0), (5, .ptr 1 0), (15, .own 2 1 0 x0.1.length x0.1.length none), (16, ci x0.1.length), (17, ci e)], [some ⟨true, [cnil, cnil]⟩, some ⟨true, [.own 2 1 0 x0.1.length x0.1.length none, .own 3 2 0 x0.2.length x0.2.length none]⟩, some ⟨false, r⟩, some ⟨false, rows tAtom x0.2⟩]⟩, x0.1.length, ⟨0, 0, _, rfl, rfl, by rw [chg_zero], rfl⟩, ?_⟩
 rintro m s ⟨k, _, _, rfl, hm, rfl, rfl⟩
 conv => whnf
 split <;> rename_i h1
 all_goals simp only [decide_eq_true_eq, decide_eq_false_iff_not] at h1
 ·conv => whnf
  have hk : k < x0.1.length := by omega
  have hk' : k < (chg (rep1 a b) x0.1 k).length := by rw [chg_len]; exact hk
  refine ⟨by omega, ?_⟩
  conv => whnf
  refine ⟨_, takeN_own (k := k) (d := 0) (m := 1) (xs := chg (rep1 a b) x0.1 k) ciL_len (Nat.zero_add _) hk' (by omega) rfl, ?_⟩
  rw [chg_at _ hk hk']
  conv => whnf
  refine ⟨List.range 8, by kernel_rfl, ?_⟩
  conv => whnf
  refine ⟨_, repC_spec x0.1[k] a b, .inl rfl, .inl ?_⟩
  conv => whnf
  refine ⟨by omega, ?_⟩
  conv => whnf
  refine ⟨_, takeN_own (k := k) (d := 0) (m := 1) (xs := chg (rep1 a b) x0.1 k) ciL_len (Nat.zero_add _) hk' (by omega) rfl, _, (congrArg (fun o => setC (rows ciL (chg (rep1 a b) x0.1 k)) o (ciL (rep1 a b x0.1[k]))) (Nat.zero_add _)).trans (setC_rows ciL_len (by omega) hk' _), ?_⟩
  conv => whnf
  refine ⟨m - 1, by omega, k + 1, _, _, wrap_id (by omega) (by omega), by omega, ?_, rfl⟩
  rw [chg_set _ hk]
 ·conv => whnf
  rw [chg_all _ (by omega)]
  refine ⟨[(1,0),(4,0),(5,0),(31,0),(32,0),(33,0)], fun m s => ∃ (k : Nat) (e : Int) (r : List V), e = k ∧ m + k = x0.2.length ∧ r = rows tAtom (chg (repA a b) x0.2 k) ∧
   s = ⟨55, [(1, fnR a b), (4, .ptr 0 0), (5, .ptr 1 0), (31, .own 2 2 0 x0.2.length x0.2.length none), (32, ci x0.2.length), (33, ci e)], [some ⟨true, [cnil, cnil]⟩, some ⟨true, [.own 3 1 0 x0.1.length x0.1.length none, .own 2 2 0 x0.2.length x0.2.length none]⟩, some ⟨false, r⟩, some ⟨false, rows ciL (x0.1.map (rep1 a b))⟩]⟩, x0.2.length, ⟨0, 0, _, rfl, rfl, by rw [chg_zero], rfl⟩, ?_⟩
  rintro m1 s ⟨k, _, _, rfl, hm1, rfl, rfl⟩
  conv => whnf
  split <;> rename_i h2
  all_goals simp only [decide_eq_true_eq, decide_eq_false_iff_not] at h2
  ·conv => whnf
   have hk : k < x0.2.length := by omega
   have hk' : k < (chg (repA a b) x0.2 k).length := by rw [chg_len]; exact hk
   have hb := sumB_one (f := cAtom) hk
   have hcb : cAtom x0.2[k] = x0.2[k].2.length := rfl
   refine ⟨by omega, ?_⟩
   conv => whnf
   refine ⟨_, takeN_own (k := k) (d := 0) (m := 2) (xs := chg (repA a b) x0.2 k) tAtom_len (Nat.zero_add _) hk' (by omega) rfl, ?_⟩
   rw [chg_at _ hk hk']
   conv => whnf
   have hc0 : (rows tAtom (chg (repA a b) x0.2 k))[0 + k * 2 + 1]? = some (intsT x0.2[k].2) := rows_cell tAtom_len (k := k) (d := 1) (by omega) hk' (by rw [chg_at _ hk hk']; rfl)
   have hlen : ∀ (st : St) (v : V), st.ob 2 = some ⟨false, rows tAtom (chg (repA a b) x0.2 k)⟩ → v = .sub 2 (0 + k * 2 + 1) → lenV st v = some x0.2[k].2.length := by
    rintro st v h rfl
    simp only [lenV, h, hc0, intsT]
   rw [hlen]
   rotate_left
   ·rfl
   ·rfl
   conv => whnf
   refine ⟨[(1,0),(4,0),(5,0),(9,0),(31,0),(32,0),(33,0),(38,0),(39,0),(40,0)], fun m s => ∃ (j : Nat) (e : Int) (o : Nat) (r : List V), e = j ∧ m + j = x0.2[k].2.length ∧ o = k * 2 + 1 ∧ r = rows tAtom (bodyR a b x0.2 k x0.2[k] j) ∧
    s = ⟨55, [(1, fnR a b), (4, .ptr 0 0), (5, .ptr 1 0), (9, .ptr 2 0), (31, .own 3 2 0 x0.2.length x0.2.length none), (32, ci x0.2.length), (33, ci k), (38, .sub 3 o), (39, ci x0.2[k].2.length), (40, ci e)], [some ⟨true, [cnil, cnil]⟩, some ⟨true, [.own 4 1 0 x0.1.length x0.1.length none, .own 3 2 0 x0.2.length x0.2.length none]⟩, some ⟨true, [ci x0.2[k].1, .sub 3 o]⟩, some ⟨false, r⟩, some ⟨false, rows ciL (x0.1.map (rep1 a b))⟩]⟩, x0.2[k].2.length, ⟨0, 0, 0 + k * 2 + 1, _, rfl, rfl, by omega, by rw [bodyR_zero a b hk], rfl⟩, ?_⟩
   rintro m2 s ⟨j, _, o, _, rfl, hm2, ho, rfl, rfl⟩
   have hkb : k < (bodyR a b x0.2 k x0.2[k] j).length := by rw [bodyR_len]; exact hk
   have hcell : (rows tAtom (bodyR a b x0.2 k x0.2[k] j))[o]? = some (V.tr 1 (chg (rep1 a b) x0.2[k].2 j).length (rows ciL (chg (rep1 a b) x0.2[k].2 j))) := rows_cell tAtom_len (k := k) (d := 1) (by omega) hkb (by rw [bodyR_at a b _ hk hkb]; rfl)
   conv => whnf
   split <;> rename_i h3
   all_goals simp only [decide_eq_true_eq, decide_eq_false_iff_not] at h3
   ·conv => whnf
    have hj : j < x0.2[k].2.length := by omega
    have hj' : j < (chg (rep1 a b) x0.2[k].2 j).length := by rw [chg_len]; exact hj
    refine ⟨_, _, hcell, ⟨by omega, by omega⟩, ?_⟩
    conv => whnf
    refine ⟨_, _, _, _, hcell, takeN_own (k := j) (d := 0) (m := 1) (xs := chg (rep1 a b) x0.2[k].2 j) ciL_len rfl hj' (by omega) rfl, flat1 rfl, ?_⟩
    rw [chg_at _ hj hj']
    conv => whnf
    refine ⟨List.range 8, by kernel_rfl, ?_⟩
    conv => whnf
    refine ⟨_, repC_spec x0.2[k].2[j] a b, .inl rfl, .inl ?_⟩
    conv => whnf
    refine ⟨_, _, hcell, ⟨by omega, by omega⟩, ?_⟩
    conv => whnf
    have hset : (rows tAtom (bodyR a b x0.2 k x0.2[k] j)).set o (V.tr 1 (chg (rep1 a b) x0.2[k].2 j).length (setC (rows ciL (chg (rep1 a b) x0.2[k].2 j)) (j * 1) [ci (rep1 a b x0.2[k].2[j])])) = rows tAtom (bodyR a b x0.2 k x0.2[k] (j + 1)) := by
     have h5 : setC (rows ciL (chg (rep1 a b) x0.2[k].2 j)) (j * 1) [ci (rep1 a b x0.2[k].2[j])] = rows ciL (chg (rep1 a b) x0.2[k].2 (j + 1)) := by
      rw [← chg_set _ hj]
      exact setC_rows ciL_len (by omega) hj' _
     rw [h5, rows_setCell (y := (x0.2[k].1, chg (rep1 a b) x0.2[k].2 (j + 1))) tAtom_len (k := k) (d := 1) (by omega) hkb ?_ (by omega), bodyR_set]
     rw [bodyR_at a b _ hk hkb]
     simp only [tAtom, intsT, chg_len]
     rfl
    refine ⟨_, _, _, _, hcell, takeN_own (k := j) (d := 0) (m := 1) (xs := chg (rep1 a b) x0.2[k].2 j) ciL_len rfl hj' (by omega) rfl, _, hset, ?_⟩
    conv => whnf
    exact ⟨m2 - 1, by omega, j + 1, _, o, _, wrap_id (by omega) (by omega), by omega, ho, rfl, rfl⟩
   ·conv => whnf
    refine ⟨m1 - 1, by omega, k + 1, _, _, wrap_id (by omega) (by omega), by omega, ?_, rfl⟩
    rw [bodyR_all a b hk (by omega)]
  ·conv => whnf
   rw [chg_all _ (by omega)]
   refine ⟨by rw [rows_len ciL_len, List.length_map], by rw [rows_len tAtom_len, List.length_map], ?_⟩
   have e : wQuery (pReplaceTerm x0 a b) = .agg [.tr 1 x0.1.length (rows ciL (x0.1.map (rep1 a b))), .tr 2 x0.2.length (rows tAtom (x0.2.map (repA a b)))] := by
    simp only [wQuery, tQuery, pReplaceTerm, wAtomS, intsT, List.length_map]
   rw [e]
   rfl
theorem implReplaceTerm_spec (x0 : QueryC) (x1 x2 : Int) (h0 : cQuery x0 ≤ 1048576) : Spec Tryz.prog 245 [vQuery x0, ci x1, ci x2] (wQuery (pReplaceTerm x0 x1 x2)) := by
 refine Spec_of mx Γ_ok Tryz.func245 rfl ?_
 conv => whnf
 refine .inl ?_
 conv => whnf
 refine ⟨_, rfl, ?_⟩
 conv => whnf
 refine ⟨_, rfl, ?_⟩
 conv => whnf
 refine ⟨_, changed_spec x0 x1 x2 h0, .inr (closed_wQuery _), .inr ?_⟩
 conv => whnf
 refine ⟨by rw [rows_len ciL_len], by rw [rows_len tAtom_len], rfl⟩
def eqP (q : QueryT) (t u : Int) : Option QueryT :=
 if t == u then some q else if !isVar t && !isVar u then none
 else if !isVar t || (isVar u && decide (t < u)) then some (pReplaceTerm q u t) else some (pReplaceTerm q t u)
def wEq : Option QueryT → V
 | none => .tup [wQuery ([], []), cb false]
 | some y => .tup [wQuery y, cb true]
def wEqS (q : QueryT) : Option QueryT → V
 | none => .tup [vQuery q, cb false]
 | some y => .tup [wQuery y, cb true]
theorem equate_same (q : QueryT) (t : Int) : Spec Tryz.prog 146 [vQuery q, ci t, ci t] (.tup [vQuery q, cb true]) := by
 refine Spec_of mx Γ_ok Tryz.func146 rfl ?_
 conv => whnf
 rw [beq_self_eq_true]
 conv => whnf
 rfl
set_option maxHeartbeats 2000000 in
theorem equate_spec (q : QueryT) (t u : Int) (hq : cQuery q ≤ 1048576) (hne : t ≠ u) : Spec Tryz.prog 146 [vQuery q, ci t, ci u] (wEq (eqP q t u)) := by
 have h0 : (t == u) = false := by simpa using hne
 refine Spec_of mx Γ_ok Tryz.func146 rfl ?_
 conv => whnf
 rw [h0]
 conv => whnf
 refine ⟨_, implIsVar_spec t, .inl rfl, .inl ?_⟩
 conv => whnf
 unfold eqP
 rw [h0, if_neg (by simp)]
 generalize hb1 : isVar t = b1
 cases b1 with
 | false =>
  conv => whnf
  refine ⟨_, implIsVar_spec u, .inl rfl, .inl ?_⟩
  conv => whnf
  generalize hb2 : isVar u = b2
  cases b2 with
  | false =>
   conv => whnf
   exact .inr ⟨1, .inr ⟨2, rfl⟩⟩
  | true =>
   conv => whnf
   refine ⟨_, implIsVar_spec t, .inl rfl, .inl ?_⟩
   rw [hb1]
   conv => whnf
   refine ⟨_, implReplaceTerm_spec q u t hq, .inl rfl, .inr ?_⟩
   conv => whnf
   exact ⟨by rw [rows_len ciL_len], by rw [rows_len tAtom_len], rfl⟩
 | true =>
  conv => whnf
  refine ⟨_, implIsVar_spec t, .inl rfl, .inl ?_⟩
  rw [hb1]
  conv => whnf
  refine ⟨_, implIsVar_spec u, .inl rfl, .inl ?_⟩
  conv => whnf
  generalize hb2 : isVar u = b2
  cases b2 with
  | false =>
   conv => whnf
   refine ⟨_, implReplaceTerm_spec q t u hq, .inl rfl, .inr ?_⟩
   conv => whnf
   exact ⟨by rw [rows_len ciL_len], by rw [rows_len tAtom_len], rfl⟩
  | true =>
   conv => whnf
   generalize hb3 : decide (t < u) = b3
   cases b3 with
   | false =>
    conv => whnf
    refine ⟨_, implReplaceTerm_spec q t u hq, .inl rfl, .inr ?_⟩
    conv => whnf
    exact ⟨by rw [rows_len ciL_len], by rw [rows_len tAtom_len], rfl⟩
   | true =>
    conv => whnf
    refine ⟨_, implReplaceTerm_spec q u t hq, .inl rfl, .inr ?_⟩
    conv => whnf
    exact ⟨by rw [rows_len ciL_len], by rw [rows_len tAtom_len], rfl⟩
theorem isVar_iff {t : Int} (h : t < 20) : isVar t = decide (0 ≤ t) := by
 simp only [isVar, inR]
 by_cases h0 : 0 ≤ t
 ·rw [decide_eq_true h0, decide_eq_true (by omega)]
  rfl
 ·rw [decide_eq_false h0]
  rfl
theorem l13Equate_same (q : QueryT) (t : Int) : Spec Tryz.prog 232 [vQuery q, ci t, ci t] (.tup [vQuery q, cb true]) := by
 refine Spec_of mx Γ_ok Tryz.func232 rfl ?_
 conv => whnf
 rw [beq_self_eq_true]
 conv => whnf
 rfl
set_option maxHeartbeats 2000000 in
theorem l13Equate_spec (q : QueryT) (t u : Int) (hq : cQuery q ≤ 1048576) (hne : t ≠ u) (ht : t < 20) (hu : u < 20) : Spec Tryz.prog 232 [vQuery q, ci t, ci u] (wEqS q (eqP q t u)) := by
 have h0 : (t == u) = false := by simpa using hne
 refine Spec_of mx Γ_ok Tryz.func232 rfl ?_
 conv => whnf
 rw [h0]
 conv => whnf
 unfold eqP
 rw [h0, if_neg (by simp), isVar_iff ht, isVar_iff hu]
 by_cases h1 : t < 0
 ·rw [decide_eq_true h1, decide_eq_false (show ¬ 0 ≤ t from by omega)]
  conv => whnf
  by_cases h2 : u < 0
  ·rw [decide_eq_true h2, decide_eq_false (show ¬ 0 ≤ u from by omega)]
   conv => whnf
   rfl
  ·rw [decide_eq_false h2, decide_eq_true (show 0 ≤ u from by omega)]
   conv => whnf
   rw [decide_eq_true h1]
   conv => whnf
   refine ⟨_, specReplaceTerm_spec q u t hq, .inl rfl, .inr ?_⟩
   conv => whnf
   exact ⟨by rw [rows_len ciL_len], by rw [rows_len tAtom_len], rfl⟩
 ·rw [decide_eq_false h1, decide_eq_true (show 0 ≤ t from by omega)]
  conv => whnf
  rw [decide_eq_false h1]
  conv => whnf
  by_cases h2 : u < 0
  ·rw [decide_eq_true h2, decide_eq_false (show ¬ 0 ≤ u from by omega)]
   conv => whnf
   refine ⟨_, specReplaceTerm_spec q t u hq, .inl rfl, .inr ?_⟩
   conv => whnf
   exact ⟨by rw [rows_len ciL_len], by rw [rows_len tAtom_len], rfl⟩
  ·rw [decide_eq_false h2, decide_eq_true (show 0 ≤ u from by omega)]
   conv => whnf
   by_cases h3 : t < u
   ·rw [if_pos (show u > t from h3), if_neg (show ¬ u < t from by omega), decide_eq_true h3]
    refine ⟨_, specReplaceTerm_spec q u t hq, .inl rfl, .inr ?_⟩
    conv => whnf
    exact ⟨by rw [rows_len ciL_len], by rw [rows_len tAtom_len], rfl⟩
   ·rw [if_neg (show ¬ u > t from h3), if_pos (show u < t from by omega), decide_eq_false h3]
    refine ⟨_, specReplaceTerm_spec q t u hq, .inl rfl, .inr ?_⟩
    conv => whnf
    exact ⟨by rw [rows_len ciL_len], by rw [rows_len tAtom_len], rfl⟩
theorem occurs_mem {q : QueryT} {v : Int} : occurs q v = true ↔ ∃ a ∈ q.2, v ∈ a.2 := by
 simp only [occurs, List.any_eq_true, hasA, has]
 constructor
 ·rintro ⟨a, ha, w, hw, he⟩
  have : w = v := by simpa [eqV] using he
  exact ⟨a, ha, this ▸ hw⟩
 ·rintro ⟨a, ha, hv⟩
  exact ⟨a, ha, v, hv, by simp [eqV]⟩
abbrev QueryD := List Int × List AtomC
def eqA (a b : AtomC) : Bool := decide (a.1 = b.1) && decide (a.2 = b.2)
theorem eqA_comm (a b : AtomC) : eqA a b = eqA b a := by
 unfold eqA
 rw [show decide (a.1 = b.1) = decide (b.1 = a.1) from decide_eq_decide.2 eq_comm, show decide (a.2 = b.2) = decide (b.2 = a.2) from decide_eq_decide.2 eq_comm]
theorem specEqualAtoms_spec (a b : AtomC) (ha : a.2.length ≤ 1099511627776) (hb : b.2.length ≤ 1099511627776) : Spec Tryz.prog 130 [vAtom a, vAtom b] (cb (eqA a b)) := by
 refine Spec_of mx Γ_ok Tryz.func130 rfl ?_
 conv => whnf
 generalize hb1 : (a.1 == b.1) = b1
 cases b1 with
 | false =>
  conv => whnf
  rw [eqA, decide_eq_false (p := a.1 = b.1) (by simpa using hb1)]
  rfl
 | true =>
  conv => whnf
  refine ⟨_, l2Ints_spec a.2 b.2 ha hb, .inl rfl, .inl ?_⟩
  conv => whnf
  rw [eqA, decide_eq_true (p := a.1 = b.1) (by simpa using hb1)]
  rfl
theorem implEqualAtoms_spec (a b : AtomC) (ha : a.2.length ≤ 1099511627776) (hb : b.2.length ≤ 1099511627776) : Spec Tryz.prog 89 [vAtom a, vAtom b] (cb (eqA a b)) := by
 refine Spec_of mx Γ_ok Tryz.func89 rfl ?_
 conv => whnf
 generalize hb1 : (a.1 == b.1) = b1
 cases b1 with
 | false =>
  conv => whnf
  rw [eqA, decide_eq_false (p := a.1 = b.1) (by simpa using hb1)]
  rfl
 | true =>
  conv => whnf
  refine ⟨_, slicesEq_spec a.2 b.2 ha hb, .inl rfl, .inl ?_⟩
  conv => whnf
  rw [eqA, decide_eq_true (p := a.1 = b.1) (by simpa using hb1)]
  rfl
def dedS (acc : List AtomC) (a : AtomC) : List AtomC := if acc.any (eqA a) then acc else acc ++ [a]
def dedup (xs : List AtomC) : List AtomC := xs.foldl dedS []
def pDedupeAtoms (q : QueryD) : QueryD := (q.1, dedup q.2)
theorem dedup_at {xs : List AtomC} {k : Nat} (hk : k < xs.length) : dedup (xs.take (k + 1)) = dedS (dedup (xs.take k)) xs[k] := by
 unfold dedup
 rw [List.take_succ_eq_append_getElem hk, List.foldl_append]
 rfl
theorem dedS_bound (acc : List AtomC) (a : AtomC) (c : AtomC → Nat) : (dedS acc a).length ≤ acc.length + 1 ∧ sumB c (dedS acc a) ≤ sumB c acc + c a := by
 unfold dedS
 split
 ·exact ⟨by omega, by omega⟩
 ·refine ⟨by simp, ?_⟩
  have : ∀ l : List AtomC, sumB c (l ++ [a]) = sumB c l + c a := by
   intro l
   induction l with
   | nil => simp [sumB]
   | cons x l ih => simp only [List.cons_append, sumB, ih]; omega
  rw [this]
  exact Nat.le_refl _
theorem foldl_bound (c : AtomC → Nat) : ∀ (xs acc : List AtomC), (xs.foldl dedS acc).length ≤ acc.length + xs.length ∧ sumB c (xs.foldl dedS acc) ≤ sumB c acc + sumB c xs
 | [], acc => ⟨Nat.le_refl _, by simp [sumB]⟩
 | x :: xs, acc => by
  have h1 := dedS_bound acc x c
  have h2 := foldl_bound c xs (dedS acc x)
  simp only [List.foldl_cons, List.length_cons, sumB]
  omega
theorem dedup_bound (c : AtomC → Nat) (xs : List AtomC) : (dedup xs).length ≤ xs.length ∧ sumB c (dedup xs) ≤ sumB c xs := by
 have := foldl_bound c xs []
 simpa [dedup, sumB] using this
theorem dedup_take (c : AtomC → Nat) (xs : List AtomC) (k : Nat) : (dedup (xs.take k)).length ≤ xs.length ∧ sumB c (dedup (xs.take k)) ≤ sumB c xs := by
 have h1 := dedup_bound c (xs.take k)
 have h2 := sumB_take (f := c) xs k
 rw [List.length_take] at h1
 omega
set_option maxHeartbeats 4000000 in
theorem specDedupeAtoms_spec (x0 : QueryD) (h0 : cQuery x0 ≤ 1048576) : Spec Tryz.prog 202 [vQuery x0] (wQuery (pDedupeAtoms x0)) := by
 unfold cQuery cAtomS at h0
 refine Spec_of mx Γ_ok Tryz.func202 rfl ?_
 conv => whnf
 refine ⟨rows_len ciL_len _, solid_ci _, ?_⟩
 conv => whnf
 refine ⟨by omega, rfl, _, app_ci [] x0.1, ?_⟩
 conv => whnf
 refine ⟨[(1,0),(2,0),(3,202),(4,0)], fun m s => ∃ (k : Nat) (e : Int) (n1 n : Nat) (r1 r : List V), e = k ∧ m + k = x0.2.length ∧ n1 = x0.1.length ∧ n = (dedup (x0.2.take k)).length ∧ r1 = rows ciL x0.1 ∧ r = rows tAtom (dedup (x0.2.take k)) ∧
  s = ⟨63, [(1, .ptr 0 0), (2, .ptr 1 0), (3, .ptr 2 0), (4, ci e)], [some ⟨true, rQuery x0⟩, some ⟨true, [cnil, cnil]⟩, some ⟨true, [.own 3 1 0 n1 n1 none, .own 4 2 0 n n none]⟩, some ⟨false, r1⟩, some ⟨false, r⟩]⟩, x0.2.length, ⟨0, 0, 0 + x0.1.length, 0, _, _, rfl, rfl, Nat.zero_add _, rfl, by rw [List.nil_append], rfl, rfl⟩, ?_⟩
 rintro m s ⟨k, _, n1, n, _, _, rfl, hm, hn1, hn, rfl, rfl, rfl⟩
 conv => whnf
 split <;> rename_i h1
 all_goals simp only [decide_eq_true_eq, decide_eq_false_iff_not] at h1
 ·conv => whnf
  have hk : k < x0.2.length := by omega
  have hb := sumB_one (f := cAtom) hk
  have hcb : cAtom x0.2[k] = x0.2[k].2.length := rfl
  have hdt := dedup_take cAtom x0.2 k
  generalize hL : dedup (x0.2.take k) = L at hn hdt
  refine ⟨[(1,0),(2,0),(3,202),(4,0),(5,0),(6,0)], fun m s => ∃ (j : Nat) (e : Int) (fl : Bool), e = j ∧ m + j = L.length ∧ L.any (eqA x0.2[k]) = (fl || (L.drop j).any (eqA x0.2[k])) ∧
   s = ⟨63, [(1, .ptr 0 0), (2, .ptr 1 0), (3, .ptr 2 0), (4, ci k), (5, cb fl), (6, ci e)], [some ⟨true, rQuery x0⟩, some ⟨true, [cnil, cnil]⟩, some ⟨true, [.own 3 1 0 n1 n1 none, .own 4 2 0 n n none]⟩, some ⟨false, rows ciL x0.1⟩, some ⟨false, rows tAtom L⟩]⟩, L.length, ⟨0, 0, false, rfl, rfl, rfl, rfl⟩, ?_⟩
  rintro m' s ⟨j, _, fl, rfl, hm', hany, rfl⟩
  conv => whnf
  split <;> rename_i h2
  all_goals simp only [decide_eq_true_eq, decide_eq_false_iff_not] at h2
  ·conv => whnf
   have hj : j < L.length := by omega
   have hbj := sumB_one (f := cAtom) hj
   have hcj : cAtom L[j] = L[j].2.length := rfl
   rw [drop_any hj] at hany
   refine ⟨List.range 15, by kernel_rfl, ?_⟩
   conv => whnf
   cases fl with
   | true =>
    conv => whnf
    exact ⟨m' - 1, by omega, j + 1, _, true, wrap_id (by omega) (by omega), by omega, by rw [hany, Bool.true_or, Bool.true_or], rfl⟩
   | false =>
   conv => whnf
   rw [Bool.false_or] at hany
   refine ⟨by omega, ?_⟩
   conv => whnf
   refine ⟨_, takeN_own (k := j) (d := 0) (m := 2) (xs := L) tAtom_len (Nat.zero_add _) hj (by omega) rfl, ?_⟩
   conv => whnf
   refine ⟨by omega, rows_len rAtom_len _, ?_⟩
   conv => whnf
   refine ⟨_, takeN_rp (k := k) rAtom_len hk, ?_⟩
   conv => whnf
   refine ⟨_, _, _, _, rows_cell (v := intsT L[j].2) tAtom_len (k := j) (d := 1) (by show 0 + j * 2 + 1 = _; omega) hj rfl, roVs_ci _, ?_⟩
   conv => whnf
   refine ⟨_, specEqualAtoms_spec L[j] x0.2[k] (by omega) (by omega), .inr trivial, .inl ?_⟩
   conv => whnf
   refine ⟨m' - 1, by omega, j + 1, _, eqA L[j] x0.2[k], wrap_id (by omega) (by omega), by omega, ?_, rfl⟩
   rw [hany, eqA_comm]
  ·conv => whnf
   rw [drop_end (by omega), List.any_nil, Bool.or_false] at hany
   cases fl with
   | true =>
    conv => whnf
    refine ⟨m - 1, by omega, k + 1, _, n1, n, _, _, wrap_id (by omega) (by omega), by omega, hn1, ?_, rfl, ?_, rfl⟩
    ·rw [dedup_at hk, hL, dedS, hany, if_pos rfl, hn]
    ·rw [dedup_at hk, hL, dedS, hany, if_pos rfl]
   | false =>
   conv => whnf
   have hstep : dedup (x0.2.take (k + 1)) = L ++ [x0.2[k]] := by rw [dedup_at hk, hL, dedS, hany, if_neg (by simp)]
   refine ⟨[0, 1, 2, 3, 4, 5, 6, 7, 9, 10, 11, 12, 13, 14, 8, 15, 16, 17, 18, 19, 20], by kernel_rfl, ?_⟩
   conv => whnf
   refine ⟨by omega, rows_len rAtom_len _, ?_⟩
   conv => whnf
   refine ⟨_, takeN_rp_field (k := k) (d := 0) (m := 1) (r := [ci x0.2[k].1]) rAtom_len hk (by omega) rfl, ?_⟩
   conv => whnf
   refine ⟨by omega, rows_len rAtom_len _, ?_⟩
   conv => whnf
   refine ⟨_, takeN_rp_field (k := k) (d := 1) (m := 1) (r := [ints x0.2[k].2]) rAtom_len hk (by omega) rfl, ?_⟩
   conv => whnf
   refine ⟨rows_len ciL_len _, solid_ci _, ?_⟩
   conv => whnf
   refine ⟨by omega, rfl, _, app_ci [] _, ?_⟩
   conv => whnf
   refine ⟨by rw [rows_len ciL_len, List.nil_append, Nat.zero_add]; rfl, ?_⟩
   conv => whnf
   refine ⟨_, rfl, .inr ⟨fun c hc => ?_, ?_⟩⟩
   ·have hc : c ∈ [ci x0.2[k].1, V.tr 1 (0 + x0.2[k].2.length) (rows ciL ([] ++ x0.2[k].2))] := hc
    simp only [List.mem_cons, List.not_mem_nil, or_false] at hc
    rcases hc with rfl | rfl <;> rfl
   conv => whnf
   refine ⟨by omega, by rw [rows_len tAtom_len, hn], rows tAtom (L ++ [x0.2[k]]), ?_, ?_⟩
   ·rw [List.nil_append, Nat.zero_add]
    exact snoc_rows tAtom _ _
   conv => whnf
   refine ⟨m - 1, by omega, k + 1, _, n1, _, _, _, wrap_id (by omega) (by omega), by omega, hn1, ?_, rfl, ?_, rfl⟩
   ·rw [hstep, List.length_append, hn]
    rfl
   ·rw [hstep]
 ·conv => whnf
  have hkk : k = x0.2.length := by omega
  rw [hkk, List.take_length] at hn ⊢
  subst hn1
  subst hn
  refine ⟨by rw [rows_len ciL_len], by rw [rows_len tAtom_len], rfl⟩
def okT (q : QueryT) : Prop := q.1.all isTerm = true ∧ ∀ a ∈ q.2, a.2.all isTerm = true
structure IsImg (h : Int → Int) (q y : QueryT) : Prop where
 hom : IsHom h q y
 onto : ∀ a ∈ y.2, ∃ c ∈ q.2, appA h c = a
 trm : ∀ t, isTerm t = true → isTerm (app h t) = true
theorem app_rep {a b : Int} (ha : isVar a = true) (t : Int) : app (fun x => if x = a then b else x) t = rep1 a b t := by
 unfold app rep1
 by_cases h : t = a
 ·subst h
  rw [if_pos ha]
  simp
 ·cases hv : isVar t <;> simp [h]
theorem dedS_mem (acc : List AtomC) (x y : AtomC) : y ∈ dedS acc x ↔ y = x ∨ y ∈ acc := by
 unfold dedS
 split
 ·rename_i h
  obtain ⟨z, hz, he⟩ := List.any_eq_true.1 h
  have hxz : x = z := by
   simp only [eqA, Bool.and_eq_true, decide_eq_true_eq] at he
   exact Prod.ext he.1 he.2
  subst hxz
  exact ⟨.inr, fun h => h.elim (fun e => e ▸ hz) id⟩
 ·simp only [List.mem_append, List.mem_singleton]
  exact or_comm
theorem dedF_mem (y : AtomC) : ∀ (xs acc : List AtomC), y ∈ xs.foldl dedS acc ↔ y ∈ xs ∨ y ∈ acc
 | [], acc => by simp
 | x :: xs, acc => by
  rw [List.foldl_cons, dedF_mem y xs, dedS_mem, List.mem_cons]
  constructor
  ·rintro (h | h | h) <;> simp [h]
  ·rintro ((h | h) | h) <;> simp [h]
theorem mem_dedup (y : AtomC) (xs : List AtomC) : y ∈ dedup xs ↔ y ∈ xs := by
 unfold dedup
 rw [dedF_mem]
 simp
theorem dedup_pos {xs : List AtomC} (h : 1 ≤ xs.length) : 1 ≤ (dedup xs).length := by
 cases xs with
 | nil => simp at h
 | cons x xs =>
  have := (mem_dedup x (x :: xs)).2 (by simp)
  exact List.length_pos_of_mem this
theorem nonvar_neg {t : Int} (ht : isTerm t = true) (h : isVar t = false) : t < 0 := by
 have := var_iff ht
 rw [h] at this
 by_cases h0 : 0 ≤ t
 ·exact absurd (this.2 h0) (by simp)
 ·omega
theorem val_rep {v : Int → Int} {a b : Int} (h : val v a = val v b) (x : Int) : val v (rep1 a b x) = val v x := by
 unfold rep1
 split
 ·rename_i he
  have : x = a := by simpa using he
  rw [this, h]
 ·rfl
theorem sat_dedup {v : Int → Int} {q : QueryT} {db : List FactC} : Sat v db (pDedupeAtoms q).2 ↔ Sat v db q.2 :=
 ⟨fun h a ha => h a ((mem_dedup a q.2).2 ha), fun h a ha => h a ((mem_dedup a q.2).1 ha)⟩
theorem isQuery_iff (s : List Int) (q : QueryT) : isQuery s q = true ↔ isSchema s = true ∧ (q.1.all isTerm = true ∧ q.1.length ≤ 3) ∧ (1 ≤ q.2.length ∧ q.2.length ≤ 4) ∧ (∀ a ∈ q.2, takesS s a.1 a.2.length = true ∧ a.2.all isTerm = true) ∧ ∀ t ∈ q.1, isVar t = true → occurs q t = true := by
 simp only [isQuery, fineQ, terms3, Bool.and_eq_true, decide_eq_true_eq, List.all_eq_true, isAtom, safeV]
 constructor
 ·rintro ⟨h1, ⟨h2, h3⟩, h4, h5, h6⟩
  have h7 : (1 : Int) ≤ q.2.length ∧ (q.2.length : Int) ≤ 4 := by simpa [inR] using h4
  refine ⟨h1, ⟨h2, h3⟩, ⟨by omega, by omega⟩, h5, fun t ht hv => ?_⟩
  have := h6 t ht
  simpa [hv] using this
 ·rintro ⟨h1, ⟨h2, h3⟩, h4, h5, h6⟩
  refine ⟨h1, ⟨h2, h3⟩, by simp [inR]; omega, h5, fun t ht => ?_⟩
  cases hv : isVar t with
  | false => simp [hv]
  | true => simp [hv, h6 t ht hv]
theorem app_neg {h : Int → Int} {t : Int} (ht : isVar t = false) : app h t = t := by unfold app; rw [ht]; simp
theorem isQuery_okT {s : List Int} {q : QueryT} (h : isQuery s q = true) : okT q := by
 obtain ⟨_, ⟨q2, _⟩, _, q5, _⟩ := (isQuery_iff s q).1 h
 exact ⟨q2, fun a ha => (q5 a ha).2⟩
end Go.Proofs.YtcjdfeafcmfgpaaGreatD
