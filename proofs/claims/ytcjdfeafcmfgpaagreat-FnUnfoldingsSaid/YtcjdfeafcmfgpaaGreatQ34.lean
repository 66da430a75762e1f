/- Contracts and plain laws of this seat; no condition. -/
import Derived.Test.YtcjdfeafcmfgpaaGreatQ21
set_option linter.unusedVariables false
set_option linter.unusedSimpArgs false
set_option maxRecDepth 100000
namespace Go.Proofs.YtcjdfeafcmfgpaaGreatD
open Go Go.Proofs
theorem renC_spec (x : Int) (to : List Int) (h : to.length ≤ 1099511627776) : Spec Tryz.prog 243 [ci x, .rp [ints to]] (ci (ren1 to x)) := by
 have hw : IntKind.i64.wrap ((to.length : Int) - 1) = to.length - 1 := wrap_id (by omega) (by omega)
 refine Spec_of mx Γ_ok Tryz.func243 rfl ?_
 conv => whnf
 refine ⟨_, rfl, ?_⟩
 conv => whnf
 refine ⟨_, within_spec _ _ _, .inl rfl, .inl ?_⟩
 rw [hw]
 conv => whnf
 unfold ren1
 generalize hb1 : inR x 0 (to.length - 1) = b1
 cases b1 with
 | false =>
  conv => whnf
  rfl
 | true =>
  conv => whnf
  have hr : 0 ≤ x ∧ x ≤ (to.length : Int) - 1 := by simpa [inR] using hb1
  obtain ⟨q, rfl⟩ : ∃ q : Nat, x = q := ⟨x.toNat, by omega⟩
  have hq : q < to.length := by omega
  refine ⟨_, rfl, ?_⟩
  conv => whnf
  refine ⟨by omega, rows_len ciL_len to, ?_⟩
  conv => whnf
  refine ⟨_, takeN_rp (k := q) ciL_len hq, ?_⟩
  conv => whnf
  rw [if_pos rfl, Int.toNat_natCast, getD_at hq]
  rfl
def fnN (to : List Int) : V := .fn 243 [.rp [ints to]]
def bodyN (to : List Int) (xs : List AtomC) (k : Nat) (x : AtomC) (j : Nat) : List AtomC := (chg (renA to) xs k).set k (x.1, chg (ren1 to) x.2 j)
theorem bodyN_len (to : List Int) (xs : List AtomC) (k : Nat) (x : AtomC) (j : Nat) : (bodyN to xs k x j).length = xs.length := by rw [bodyN, List.length_set, chg_len]
theorem bodyN_zero (to : List Int) {xs : List AtomC} {k : Nat} (hk : k < xs.length) : bodyN to xs k xs[k] 0 = chg (renA to) xs k := by
 rw [bodyN, chg_zero]
 have hk' : k < (chg (renA to) xs k).length := by rw [chg_len]; exact hk
 have := chg_at (renA to) hk hk'
 rw [show (xs[k].1, xs[k].2) = xs[k] from rfl, ← this, List.set_getElem_self]
theorem bodyN_all (to : List Int) {xs : List AtomC} {k j : Nat} (hk : k < xs.length) (hj : xs[k].2.length ≤ j) : bodyN to xs k xs[k] j = chg (renA to) xs (k + 1) := by
 rw [bodyN, chg_all _ hj, ← chg_set _ hk]
 rfl
theorem bodyN_at (to : List Int) {xs : List AtomC} {k j : Nat} (x : AtomC) (hk : k < xs.length) (h : k < (bodyN to xs k x j).length) : (bodyN to xs k x j)[k] = (x.1, chg (ren1 to) x.2 j) := by
 simp only [bodyN, List.getElem_set_self]
theorem bodyN_set (to : List Int) (xs : List AtomC) (k : Nat) (x : AtomC) (j i : Nat) : (bodyN to xs k x j).set k (x.1, chg (ren1 to) x.2 i) = bodyN to xs k x i := by
 rw [bodyN, List.set_set]
 rfl
set_option maxHeartbeats 4000000 in
theorem changedN_spec (x0 : QueryC) (to : List Int) (h0 : cQuery x0 ≤ 1048576) (ht : to.length ≤ 1099511627776) : Spec Tryz.prog 242 [vQuery x0, fnN to] (wQuery (renQ to x0)) := by
 have h0' := h0
 unfold cQuery cAtomS at h0'
 refine Spec_of mx Γ_ok Tryz.func242 rfl ?_
 conv => whnf
 refine ⟨_, copyQuery_spec x0 (by omega), .inl rfl, .inr ?_⟩
 conv => whnf
 refine ⟨[(1,0),(4,0),(5,0),(15,0),(16,0),(17,0)], fun m s => ∃ (k : Nat) (e : Int) (r : List V), e = k ∧ m + k = x0.1.length ∧ r = rows ciL (chg (ren1 to) x0.1 k) ∧
  s = ⟨55, [(1, fnN to), (4, .ptr 0 0), (5, .ptr 1 0), (15, .own 2 1 0 x0.1.length x0.1.length none), (16, ci x0.1.length), (17, ci e)], [some ⟨true, [cnil, cnil]⟩, some ⟨true, [.own 2 1 0 x0.1.length x0.1.length none, .own 3 2 0 x0.2.length x0.2.length none]⟩, some ⟨false, r⟩, some ⟨false, rows tAtom x0.2⟩]⟩, x0.1.length, ⟨0, 0, _, rfl, rfl, by rw [chg_zero], rfl⟩, ?_⟩
 rintro m s ⟨k, _, _, rfl, hm, rfl, rfl⟩
 conv => whnf
 split <;> rename_i h1
 all_goals simp only [decide_eq_true_eq, decide_eq_false_iff_not] at h1
 ·conv => whnf
  have hk : k < x0.1.length := by omega
  have hk' : k < (chg (ren1 to) x0.1 k).length := by rw [chg_len]; exact hk
  refine ⟨by omega, ?_⟩
  conv => whnf
  refine ⟨_, takeN_own (k := k) (d := 0) (m := 1) (xs := chg (ren1 to) x0.1 k) ciL_len (Nat.zero_add _) hk' (by omega) rfl, ?_⟩
  rw [chg_at _ hk hk']
  conv => whnf
  refine ⟨List.range 8, by kernel_rfl, ?_⟩
  conv => whnf
  refine ⟨_, renC_spec x0.1[k] to ht, .inl rfl, .inl ?_⟩
  conv => whnf
  refine ⟨by omega, ?_⟩
  conv => whnf
  refine ⟨_, takeN_own (k := k) (d := 0) (m := 1) (xs := chg (ren1 to) x0.1 k) ciL_len (Nat.zero_add _) hk' (by omega) rfl, _, (congrArg (fun o => setC (rows ciL (chg (ren1 to) x0.1 k)) o (ciL (ren1 to x0.1[k]))) (Nat.zero_add _)).trans (setC_rows ciL_len (by omega) hk' _), ?_⟩
  conv => whnf
  refine ⟨m - 1, by omega, k + 1, _, _, wrap_id (by omega) (by omega), by omega, ?_, rfl⟩
  rw [chg_set _ hk]
 ·conv => whnf
  rw [chg_all _ (by omega)]
  refine ⟨[(1,0),(4,0),(5,0),(31,0),(32,0),(33,0)], fun m s => ∃ (k : Nat) (e : Int) (r : List V), e = k ∧ m + k = x0.2.length ∧ r = rows tAtom (chg (renA to) x0.2 k) ∧
   s = ⟨55, [(1, fnN to), (4, .ptr 0 0), (5, .ptr 1 0), (31, .own 2 2 0 x0.2.length x0.2.length none), (32, ci x0.2.length), (33, ci e)], [some ⟨true, [cnil, cnil]⟩, some ⟨true, [.own 3 1 0 x0.1.length x0.1.length none, .own 2 2 0 x0.2.length x0.2.length none]⟩, some ⟨false, r⟩, some ⟨false, rows ciL (x0.1.map (ren1 to))⟩]⟩, x0.2.length, ⟨0, 0, _, rfl, rfl, by rw [chg_zero], rfl⟩, ?_⟩
  rintro m1 s ⟨k, _, _, rfl, hm1, rfl, rfl⟩
  conv => whnf
  split <;> rename_i h2
  all_goals simp only [decide_eq_true_eq, decide_eq_false_iff_not] at h2
  ·conv => whnf
   have hk : k < x0.2.length := by omega
   have hk' : k < (chg (renA to) x0.2 k).length := by rw [chg_len]; exact hk
   have hb := sumB_one (f := cAtom) hk
   have hcb : cAtom x0.2[k] = x0.2[k].2.length := rfl
   refine ⟨by omega, ?_⟩
   conv => whnf
   refine ⟨_, takeN_own (k := k) (d := 0) (m := 2) (xs := chg (renA to) x0.2 k) tAtom_len (Nat.zero_add _) hk' (by omega) rfl, ?_⟩
   rw [chg_at _ hk hk']
   conv => whnf
   have hc0 : (rows tAtom (chg (renA to) x0.2 k))[0 + k * 2 + 1]? = some (intsT x0.2[k].2) := rows_cell tAtom_len (k := k) (d := 1) (by omega) hk' (by rw [chg_at _ hk hk']; rfl)
   have hlen : ∀ (st : St) (v : V), st.ob 2 = some ⟨false, rows tAtom (chg (renA to) x0.2 k)⟩ → v = .sub 2 (0 + k * 2 + 1) → lenV st v = some x0.2[k].2.length := by
    rintro st v h rfl
    simp only [lenV, h, hc0, intsT]
   rw [hlen]
   rotate_left
   ·rfl
   ·rfl
   conv => whnf
   refine ⟨[(1,0),(4,0),(5,0),(9,0),(31,0),(32,0),(33,0),(38,0),(39,0),(40,0)], fun m s => ∃ (j : Nat) (e : Int) (o : Nat) (r : List V), e = j ∧ m + j = x0.2[k].2.length ∧ o = k * 2 + 1 ∧ r = rows tAtom (bodyN to x0.2 k x0.2[k] j) ∧
    s = ⟨55, [(1, fnN to), (4, .ptr 0 0), (5, .ptr 1 0), (9, .ptr 2 0), (31, .own 3 2 0 x0.2.length x0.2.length none), (32, ci x0.2.length), (33, ci k), (38, .sub 3 o), (39, ci x0.2[k].2.length), (40, ci e)], [some ⟨true, [cnil, cnil]⟩, some ⟨true, [.own 4 1 0 x0.1.length x0.1.length none, .own 3 2 0 x0.2.length x0.2.length none]⟩, some ⟨true, [ci x0.2[k].1, .sub 3 o]⟩, some ⟨false, r⟩, some ⟨false, rows ciL (x0.1.map (ren1 to))⟩]⟩, x0.2[k].2.length, ⟨0, 0, 0 + k * 2 + 1, _, rfl, rfl, by omega, by rw [bodyN_zero to hk], rfl⟩, ?_⟩
   rintro m2 s ⟨j, _, o, _, rfl, hm2, ho, rfl, rfl⟩
   have hkb : k < (bodyN to x0.2 k x0.2[k] j).length := by rw [bodyN_len]; exact hk
   have hcell : (rows tAtom (bodyN to x0.2 k x0.2[k] j))[o]? = some (V.tr 1 (chg (ren1 to) x0.2[k].2 j).length (rows ciL (chg (ren1 to) x0.2[k].2 j))) := rows_cell tAtom_len (k := k) (d := 1) (by omega) hkb (by rw [bodyN_at to _ hk hkb]; rfl)
   conv => whnf
   split <;> rename_i h3
   all_goals simp only [decide_eq_true_eq, decide_eq_false_iff_not] at h3
   ·conv => whnf
    have hj : j < x0.2[k].2.length := by omega
    have hj' : j < (chg (ren1 to) x0.2[k].2 j).length := by rw [chg_len]; exact hj
    refine ⟨_, _, hcell, ⟨by omega, by omega⟩, ?_⟩
    conv => whnf
    refine ⟨_, _, _, _, hcell, takeN_own (k := j) (d := 0) (m := 1) (xs := chg (ren1 to) x0.2[k].2 j) ciL_len rfl hj' (by omega) rfl, flat1 rfl, ?_⟩
    rw [chg_at _ hj hj']
    conv => whnf
    refine ⟨List.range 8, by kernel_rfl, ?_⟩
    conv => whnf
    refine ⟨_, renC_spec x0.2[k].2[j] to ht, .inl rfl, .inl ?_⟩
    conv => whnf
    refine ⟨_, _, hcell, ⟨by omega, by omega⟩, ?_⟩
    conv => whnf
    have hset : (rows tAtom (bodyN to x0.2 k x0.2[k] j)).set o (V.tr 1 (chg (ren1 to) x0.2[k].2 j).length (setC (rows ciL (chg (ren1 to) x0.2[k].2 j)) (j * 1) [ci (ren1 to x0.2[k].2[j])])) = rows tAtom (bodyN to x0.2 k x0.2[k] (j + 1)) := by
     have h5 : setC (rows ciL (chg (ren1 to) x0.2[k].2 j)) (j * 1) [ci (ren1 to x0.2[k].2[j])] = rows ciL (chg (ren1 to) x0.2[k].2 (j + 1)) := by
      rw [← chg_set _ hj]
      exact setC_rows ciL_len (by omega) hj' _
     rw [h5, rows_setCell (y := (x0.2[k].1, chg (ren1 to) x0.2[k].2 (j + 1))) tAtom_len (k := k) (d := 1) (by omega) hkb ?_ (by omega), bodyN_set]
     rw [bodyN_at to _ hk hkb]
     simp only [tAtom, intsT, chg_len]
     rfl
    refine ⟨_, _, _, _, hcell, takeN_own (k := j) (d := 0) (m := 1) (xs := chg (ren1 to) x0.2[k].2 j) ciL_len rfl hj' (by omega) rfl, _, hset, ?_⟩
    conv => whnf
    exact ⟨m2 - 1, by omega, j + 1, _, o, _, wrap_id (by omega) (by omega), by omega, ho, rfl, rfl⟩
   ·conv => whnf
    refine ⟨m1 - 1, by omega, k + 1, _, _, wrap_id (by omega) (by omega), by omega, ?_, rfl⟩
    rw [bodyN_all to hk (by omega)]
  ·conv => whnf
   rw [chg_all _ (by omega)]
   refine ⟨by rw [rows_len ciL_len, List.length_map], by rw [rows_len tAtom_len, List.length_map], ?_⟩
   have e : wQuery (renQ to x0) = .agg [.tr 1 x0.1.length (rows ciL (x0.1.map (ren1 to))), .tr 2 x0.2.length (rows tAtom (x0.2.map (renA to)))] := by
    simp only [wQuery, tQuery, renQ, wAtomS, intsT, List.length_map]
   rw [e]
   rfl
theorem implRenameQuery_spec (x0 : QueryC) (to : List Int) (h0 : cQuery x0 ≤ 1048576) (ht : to.length ≤ 1099511627776) : Spec Tryz.prog 145 [vQuery x0, ints to] (wQuery (renQ to x0)) := by
 refine Spec_of mx Γ_ok Tryz.func145 rfl ?_
 conv => whnf
 refine .inl ?_
 conv => whnf
 refine ⟨_, rfl, ?_⟩
 conv => whnf
 refine ⟨_, changedN_spec x0 to h0 ht, .inr (closed_wQuery _), .inr ?_⟩
 conv => whnf
 refine ⟨by rw [rows_len ciL_len], by rw [rows_len tAtom_len], rfl⟩
end Go.Proofs.YtcjdfeafcmfgpaaGreatD
