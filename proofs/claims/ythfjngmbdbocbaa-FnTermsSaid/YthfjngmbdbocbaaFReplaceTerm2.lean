/- ReplaceTerm: the second program. -/
import Derived.Test.YthfjngmbdbocbaaFReplaceTerm
import Derived.Test.YthfjngmbdbocbaaFCopyQ
set_option linter.unusedVariables false
set_option linter.unusedSimpArgs false
set_option maxRecDepth 100000
namespace Go.Proofs.YthfjngmbdbocbaaD
open Go Go.Proofs

theorem repC_spec (x a b : Int) : Spec Try.prog 95 [ci x, .rp [ci a], .rp [ci b]] (ci (rep1 a b x)) := by
  refine Spec_of mx Γ_ok Try.func95 rfl ?_
  conv => whnf
  refine ⟨_, rfl, ?_⟩
  conv => whnf
  generalize hb1 : (x == a) = b1
  have hf : rep1 a b x = if b1 then b else x := by rw [rep1, hb1]
  rw [hf]
  cases b1 with
  | true =>
    conv => whnf
    refine ⟨_, rfl, ?_⟩
    conv => whnf
    rfl
  | false =>
    conv => whnf
    rfl
def fnR (a b : Int) : V := .fn 95 [.rp [ci a], .rp [ci b]]
def bodyR (a b : Int) (xs : List AtomC) (k : Nat) (x : AtomC) (j : Nat) : List AtomC := (chg (repA a b) xs k).set k (x.1, chg (rep1 a b) x.2 j)
theorem bodyR_len (a b : Int) (xs : List AtomC) (k : Nat) (x : AtomC) (j : Nat) : (bodyR a b xs k x j).length = xs.length := by rw [bodyR, List.length_set, chg_len]
theorem bodyR_zero (a b : Int) {xs : List AtomC} {k : Nat} (hk : k < xs.length) : bodyR a b xs k xs[k] 0 = chg (repA a b) xs k := by
  rw [bodyR, chg_zero]
  have hk' : k < (chg (repA a b) xs k).length := by rw [chg_len]; exact hk
  have := chg_at (repA a b) hk hk'
  rw [show (xs[k].1, xs[k].2) = xs[k] from rfl, ← this, List.set_getElem_self]
theorem bodyR_all (a b : Int) {xs : List AtomC} {k j : Nat} (hk : k < xs.length) (hj : xs[k].2.length ≤ j) : bodyR a b xs k xs[k] j = chg (repA a b) xs (k + 1) := by
  rw [bodyR, chg_all _ hj, ← chg_set _ hk]
  rfl
theorem bodyR_at (a b : Int) {xs : List AtomC} {k j : Nat} (x : AtomC) (hk : k < xs.length) (h : k < (bodyR a b xs k x j).length) : (bodyR a b xs k x j)[k] = (x.1, chg (rep1 a b) x.2 j) := by
  simp only [bodyR, List.getElem_set_self]
theorem bodyR_set (a b : Int) (xs : List AtomC) (k : Nat) (x : AtomC) (j i : Nat) : (bodyR a b xs k x j).set k (x.1, chg (rep1 a b) x.2 i) = bodyR a b xs k x i := by
  rw [bodyR, List.set_set]
  rfl
set_option maxHeartbeats 4000000 in
theorem changed_spec (x0 : QueryC) (a b : Int) (h0 : cQuery x0 ≤ 1048576) : Spec Try.prog 94 [vQuery x0, fnR a b] (wQuery (pReplaceTerm x0 a b)) := by
  have h0' := h0
  unfold cQuery cAtomS at h0'
  refine Spec_of mx Γ_ok Try.func94 rfl ?_
  conv => whnf
  refine ⟨_, copyQuery_spec x0 (by omega), .inl rfl, .inr ?_⟩
  conv => whnf
  refine ⟨[(1,0),(4,0),(5,0),(15,0),(16,0),(17,0)], fun m s => ∃ (k : Nat) (e : Int) (r : List V), e = k ∧ m + k = x0.1.length ∧ r = rows ciL (chg (rep1 a b) x0.1 k) ∧
    s = ⟨55, [(1, fnR a b), (4, .ptr 0 0), (5, .ptr 1 0), (15, .own 2 1 0 x0.1.length x0.1.length none), (16, ci x0.1.length), (17, ci e)], [some ⟨true, [cnil, cnil]⟩, some ⟨true, [.own 2 1 0 x0.1.length x0.1.length none, .own 3 2 0 x0.2.length x0.2.length none]⟩, some ⟨false, r⟩, some ⟨false, rows tAtom x0.2⟩]⟩, x0.1.length, ⟨0, 0, _, rfl, rfl, by rw [chg_zero], rfl⟩, ?_⟩
  rintro m s ⟨k, _, _, rfl, hm, rfl, rfl⟩
  conv => whnf
  split <;> rename_i h1
  all_goals simp only [decide_eq_true_eq, decide_eq_false_iff_not] at h1
  · conv => whnf
    have hk : k < x0.1.length := by omega
    have hk' : k < (chg (rep1 a b) x0.1 k).length := by rw [chg_len]; exact hk
    refine ⟨by omega, ?_⟩
    conv => whnf
    refine ⟨_, takeN_own (k := k) (d := 0) (m := 1) (xs := chg (rep1 a b) x0.1 k) ciL_len (Nat.zero_add _) hk' (by omega) rfl, ?_⟩
    rw [chg_at _ hk hk']
    conv => whnf
    refine ⟨List.range 8, by kernel_rfl, ?_⟩
    conv => whnf
    refine ⟨_, repC_spec x0.1[k] a b, .inl rfl, .inl ?_⟩
    conv => whnf
    refine ⟨by omega, ?_⟩
    conv => whnf
    refine ⟨_, takeN_own (k := k) (d := 0) (m := 1) (xs := chg (rep1 a b) x0.1 k) ciL_len (Nat.zero_add _) hk' (by omega) rfl, _, (congrArg (fun o => setC (rows ciL (chg (rep1 a b) x0.1 k)) o (ciL (rep1 a b x0.1[k]))) (Nat.zero_add _)).trans (setC_rows ciL_len (by omega) hk' _), ?_⟩
    conv => whnf
    refine ⟨m - 1, by omega, k + 1, _, _, wrap_id (by omega) (by omega), by omega, ?_, rfl⟩
    rw [chg_set _ hk]
  · conv => whnf
    rw [chg_all _ (by omega)]
    refine ⟨[(1,0),(4,0),(5,0),(31,0),(32,0),(33,0)], fun m s => ∃ (k : Nat) (e : Int) (r : List V), e = k ∧ m + k = x0.2.length ∧ r = rows tAtom (chg (repA a b) x0.2 k) ∧
      s = ⟨55, [(1, fnR a b), (4, .ptr 0 0), (5, .ptr 1 0), (31, .own 2 2 0 x0.2.length x0.2.length none), (32, ci x0.2.length), (33, ci e)], [some ⟨true, [cnil, cnil]⟩, some ⟨true, [.own 3 1 0 x0.1.length x0.1.length none, .own 2 2 0 x0.2.length x0.2.length none]⟩, some ⟨false, r⟩, some ⟨false, rows ciL (x0.1.map (rep1 a b))⟩]⟩, x0.2.length, ⟨0, 0, _, rfl, rfl, by rw [chg_zero], rfl⟩, ?_⟩
    rintro m1 s ⟨k, _, _, rfl, hm1, rfl, rfl⟩
    conv => whnf
    split <;> rename_i h2
    all_goals simp only [decide_eq_true_eq, decide_eq_false_iff_not] at h2
    · conv => whnf
      have hk : k < x0.2.length := by omega
      have hk' : k < (chg (repA a b) x0.2 k).length := by rw [chg_len]; exact hk
      have hb := sumB_one (f := cAtom) hk
      have hcb : cAtom x0.2[k] = x0.2[k].2.length := rfl
      refine ⟨by omega, ?_⟩
      conv => whnf
      refine ⟨_, takeN_own (k := k) (d := 0) (m := 2) (xs := chg (repA a b) x0.2 k) tAtom_len (Nat.zero_add _) hk' (by omega) rfl, ?_⟩
      rw [chg_at _ hk hk']
      conv => whnf
      have hc0 : (rows tAtom (chg (repA a b) x0.2 k))[0 + k * 2 + 1]? = some (intsT x0.2[k].2) := rows_cell tAtom_len (k := k) (d := 1) (by omega) hk' (by rw [chg_at _ hk hk']; rfl)
      have hlen : ∀ (st : St) (v : V), st.ob 2 = some ⟨false, rows tAtom (chg (repA a b) x0.2 k)⟩ → v = .sub 2 (0 + k * 2 + 1) → lenV st v = some x0.2[k].2.length := by
        rintro st v h rfl
        simp only [lenV, h, hc0, intsT]
      rw [hlen]
      rotate_left
      · rfl
      · rfl
      conv => whnf
      refine ⟨[(1,0),(4,0),(5,0),(9,0),(31,0),(32,0),(33,0),(38,0),(39,0),(40,0)], fun m s => ∃ (j : Nat) (e : Int) (o : Nat) (r : List V), e = j ∧ m + j = x0.2[k].2.length ∧ o = k * 2 + 1 ∧ r = rows tAtom (bodyR a b x0.2 k x0.2[k] j) ∧
        s = ⟨55, [(1, fnR a b), (4, .ptr 0 0), (5, .ptr 1 0), (9, .ptr 2 0), (31, .own 3 2 0 x0.2.length x0.2.length none), (32, ci x0.2.length), (33, ci k), (38, .sub 3 o), (39, ci x0.2[k].2.length), (40, ci e)], [some ⟨true, [cnil, cnil]⟩, some ⟨true, [.own 4 1 0 x0.1.length x0.1.length none, .own 3 2 0 x0.2.length x0.2.length none]⟩, some ⟨true, [ci x0.2[k].1, .sub 3 o]⟩, some ⟨false, r⟩, some ⟨false, rows ciL (x0.1.map (rep1 a b))⟩]⟩, x0.2[k].2.length, ⟨0, 0, 0 + k * 2 + 1, _, rfl, rfl, by omega, by rw [bodyR_zero a b hk], rfl⟩, ?_⟩
      rintro m2 s ⟨j, _, o, _, rfl, hm2, ho, rfl, rfl⟩
      have hkb : k < (bodyR a b x0.2 k x0.2[k] j).length := by rw [bodyR_len]; exact hk
      have hcell : (rows tAtom (bodyR a b x0.2 k x0.2[k] j))[o]? = some (V.tr 1 (chg (rep1 a b) x0.2[k].2 j).length (rows ciL (chg (rep1 a b) x0.2[k].2 j))) := rows_cell tAtom_len (k := k) (d := 1) (by omega) hkb (by rw [bodyR_at a b _ hk hkb]; rfl)
      conv => whnf
      split <;> rename_i h3
      all_goals simp only [decide_eq_true_eq, decide_eq_false_iff_not] at h3
      · conv => whnf
        have hj : j < x0.2[k].2.length := by omega
        have hj' : j < (chg (rep1 a b) x0.2[k].2 j).length := by rw [chg_len]; exact hj
        refine ⟨_, _, hcell, ⟨by omega, by omega⟩, ?_⟩
        conv => whnf
        refine ⟨_, _, _, _, hcell, takeN_own (k := j) (d := 0) (m := 1) (xs := chg (rep1 a b) x0.2[k].2 j) ciL_len rfl hj' (by omega) rfl, flat1 rfl, ?_⟩
        rw [chg_at _ hj hj']
        conv => whnf
        refine ⟨List.range 8, by kernel_rfl, ?_⟩
        conv => whnf
        refine ⟨_, repC_spec x0.2[k].2[j] a b, .inl rfl, .inl ?_⟩
        conv => whnf
        refine ⟨_, _, hcell, ⟨by omega, by omega⟩, ?_⟩
        conv => whnf
        have hset : (rows tAtom (bodyR a b x0.2 k x0.2[k] j)).set o (V.tr 1 (chg (rep1 a b) x0.2[k].2 j).length (setC (rows ciL (chg (rep1 a b) x0.2[k].2 j)) (j * 1) [ci (rep1 a b x0.2[k].2[j])])) = rows tAtom (bodyR a b x0.2 k x0.2[k] (j + 1)) := by
          have h5 : setC (rows ciL (chg (rep1 a b) x0.2[k].2 j)) (j * 1) [ci (rep1 a b x0.2[k].2[j])] = rows ciL (chg (rep1 a b) x0.2[k].2 (j + 1)) := by
            rw [← chg_set _ hj]
            exact setC_rows ciL_len (by omega) hj' _
          rw [h5, rows_setCell (y := (x0.2[k].1, chg (rep1 a b) x0.2[k].2 (j + 1))) tAtom_len (k := k) (d := 1) (by omega) hkb ?_ (by omega), bodyR_set]
          rw [bodyR_at a b _ hk hkb]
          simp only [tAtom, intsT, chg_len]
          rfl
        refine ⟨_, _, _, _, hcell, takeN_own (k := j) (d := 0) (m := 1) (xs := chg (rep1 a b) x0.2[k].2 j) ciL_len rfl hj' (by omega) rfl, _, hset, ?_⟩
        conv => whnf
        exact ⟨m2 - 1, by omega, j + 1, _, o, _, wrap_id (by omega) (by omega), by omega, ho, rfl, rfl⟩
      · conv => whnf
        refine ⟨m1 - 1, by omega, k + 1, _, _, wrap_id (by omega) (by omega), by omega, ?_, rfl⟩
        rw [bodyR_all a b hk (by omega)]
    · conv => whnf
      rw [chg_all _ (by omega)]
      refine ⟨by rw [rows_len ciL_len, List.length_map], by rw [rows_len tAtom_len, List.length_map], ?_⟩
      have e : wQuery (pReplaceTerm x0 a b) = .agg [.tr 1 x0.1.length (rows ciL (x0.1.map (rep1 a b))), .tr 2 x0.2.length (rows tAtom (x0.2.map (repA a b)))] := by
        simp only [wQuery, tQuery, pReplaceTerm, wAtomS, intsT, List.length_map]
      rw [e]
      rfl
end Go.Proofs.YthfjngmbdbocbaaD
