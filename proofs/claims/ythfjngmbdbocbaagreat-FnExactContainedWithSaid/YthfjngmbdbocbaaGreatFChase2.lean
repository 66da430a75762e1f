/- A chase by keys: the second program. -/
import Derived.Test.YthfjngmbdbocbaaGreatFChase1
import Derived.Test.YthfjngmbdbocbaaGreatFDedupeAtoms2
set_option linter.unusedVariables false
set_option linter.unusedSimpArgs false
set_option maxRecDepth 100000
namespace Go.Proofs.YthfjngmbdbocbaaGreatD
open Go Go.Proofs

theorem snoc_rAtom (xs : List AtomC) (x : AtomC) : rows rAtom xs ++ rAtom x = rows rAtom (xs ++ [x]) := by
  rw [rows_append, rows_one]
theorem asFacts_spec (q : QueryT) (hq : cQuery q ≤ 1048576) : Spec Tryz.prog 46 [vQuery q] (.tr 2 q.2.length (rows rAtom q.2)) := by
  have hq' := hq
  unfold cQuery cAtomS at hq'
  refine Spec_of mx Γ_ok Tryz.func46 rfl ?_
  conv => whnf
  refine ⟨[(1,0),(2,0),(3,0),(8,0),(9,0),(10,0)], fun m s => ∃ (k n : Nat) (e : Int) (r : List V), e = k ∧ m + k = q.2.length ∧ n = k ∧ r = rows rAtom (q.2.take k) ∧
    s = ⟨24, [(1, .ptr 0 0), (2, cnil), (3, .own 1 2 0 n n none), (8, vAtomS q.2), (9, ci q.2.length), (10, ci e)], [some ⟨true, rQuery q⟩, some ⟨false, r⟩]⟩, q.2.length, ⟨0, 0, 0, _, rfl, rfl, rfl, rfl, rfl⟩, ?_⟩
  rintro m s ⟨k, n, _, _, rfl, hm, rfl, rfl, rfl⟩
  conv => whnf
  split <;> rename_i h3
  all_goals simp only [decide_eq_true_eq, decide_eq_false_iff_not] at h3
  · conv => whnf
    have hk : n < q.2.length := by omega
    refine ⟨by omega, rows_len rAtom_len _, ?_⟩
    conv => whnf
    refine ⟨_, takeN_rp (k := n) rAtom_len hk, ?_⟩
    conv => whnf
    refine ⟨_, rfl, .inl ⟨fun c hc => ?_, ?_⟩⟩
    · have hc : c ∈ rAtom q.2[n] := hc
      simp only [rAtom, List.mem_cons, List.not_mem_nil, or_false] at hc
      rcases hc with rfl | rfl <;> rfl
    conv => whnf
    refine ⟨by omega, by rw [rows_len rAtom_len, List.length_take]; congr 1; omega, _, snoc_rAtom _ q.2[n], ?_⟩
    conv => whnf
    refine ⟨m - 1, by omega, n + 1, _, _, _, wrap_id (by omega) (by omega), by omega, rfl, ?_, rfl⟩
    rw [List.take_succ_eq_append_getElem hk]
  · conv => whnf
    have hkk : n = q.2.length := by omega
    subst hkk
    rw [List.take_length]
    exact ⟨by rw [rows_len rAtom_len], rfl⟩
theorem getF_eq {q : QueryT} {i : Nat} (hi : i < q.2.length) : getF q.2 i = q.2[i] := getF_at hi
set_option maxHeartbeats 8000000 in
theorem chase_spec (q : QueryT) (ks : List FactK) (hq : cQuery q ≤ 1048576) (hk : cKeyS ks ≤ 1048576) (hok : okA q.2) : Spec Tryz.prog 44 [vQuery q, vKeyS ks] (wCh (chZ ks q)) := by
  refine Spec_of mx Γ_ok Tryz.func44 rfl ?_
  conv => whnf
  refine ⟨_, copyQuery_spec q (by omega), .inl rfl, .inl ?_⟩
  rw [wQuery_ro]
  conv => whnf
  refine ⟨[(1,0),(2,0),(4,0),(5,0)], fun m s => ∃ (x : QueryT), m = mu x ∧ okA x.2 ∧ cQuery x ≤ 1048576 ∧ chZ ks x = chZ ks q ∧
    s = ⟨68, [(1, vKeyS ks), (2, .ptr 0 0), (4, .ptr 1 0), (5, cb false)], [some ⟨true, rQuery x⟩, some ⟨true, [cnil, cnil]⟩]⟩, mu q, ⟨q, rfl, hok, hq, rfl, rfl⟩, ?_⟩
  rintro m s ⟨x, rfl, hokx, hx, hc, rfl⟩
  have hx' := hx
  unfold cQuery cAtomS at hx'
  conv => whnf
  refine ⟨_, asFacts_spec x hx, .inl rfl, .inl ?_⟩
  rw [show roV (.tr 2 x.2.length (rows rAtom x.2)) = vAtomS x.2 from congrArg (V.ro x.2.length) (roVs_rows rAtom_ro x.2)]
  conv => whnf
  have hf := implFirstViolation_gen x.2 ks (by unfold cFactS; show x.2.length + sumB cAtom x.2 ≤ _; omega) (by omega)
  refine ⟨_, hf, .inl rfl, .inl ?_⟩
  rw [show pFirstViolation x.2 ks = out3 (viol x ks) from rfl]
  generalize hv : viol x ks = o
  cases o with
  | none =>
    conv => whnf
    refine ⟨_, implDedupeAtoms_spec x hx, .inl rfl, .inr ?_⟩
    conv => whnf
    rw [← hc, chZ_end hv]
    exact ⟨by rw [rows_len ciL_len], by rw [rows_len tAtom_len], rfl⟩
  | some r =>
    obtain ⟨k, i, j⟩ := r
    obtain ⟨_, hij, hj, _, _⟩ := viol_some hv
    obtain ⟨g1, g2, g3, g4, g5, g6, g7⟩ := viol_terms hokx hv
    have hi : i < x.2.length := by omega
    have hbi := sumB_one (f := cAtom) hi
    have hci : cAtom x.2[i] = x.2[i].2.length := rfl
    have hne := (viol_some hv).2.2.2.2
    have hfd := fdiff_ok g1 hne
    have hta : tA x i j = (getF x.2 i).2.getD (fdiff (getF x.2 i).2 (getF x.2 j).2) 0 := rfl
    have htb : tB x i j = (getF x.2 j).2.getD (fdiff (getF x.2 i).2 (getF x.2 j).2) 0 := rfl
    rw [getF_eq hi, getF_eq hj] at g1 g2 hfd hta htb
    generalize fdiff x.2[i].2 x.2[j].2 = p at g2 hfd hta htb
    rw [getD_int g2] at hta
    rw [getD_int (by omega)] at htb
    rw [show out3 (some (k, i, j)) = ((k : Int), (i : Int), (j : Int)) from rfl, v3_mk]
    conv => whnf
    rw [decide_eq_false (show ¬ ((k : Int) < 0) from by omega)]
    conv => whnf
    refine ⟨List.range 14, by kernel_rfl, ?_⟩
    conv => whnf
    refine ⟨by omega, rows_len rAtom_len _, ?_⟩
    conv => whnf
    refine ⟨_, takeN_rp_field (k := i) (d := 1) (m := 1) (r := [ints x.2[i].2]) rAtom_len hi (by omega) rfl, ?_⟩
    conv => whnf
    refine ⟨by omega, rows_len rAtom_len _, ?_⟩
    conv => whnf
    refine ⟨_, takeN_rp_field (k := j) (d := 1) (m := 1) (r := [ints x.2[j].2]) rAtom_len hj (by omega) rfl, ?_⟩
    conv => whnf
    refine ⟨[(1,0),(2,0),(4,0),(5,0),(9,0),(10,0),(11,0)], fun m s => ∃ (r : Nat) (e : Int), e = r ∧ m + r = p ∧
      s = ⟨68, [(1, vKeyS ks), (2, .ptr 0 0), (4, .ptr 1 0), (5, cb false), (9, ints x.2[i].2), (10, ints x.2[j].2), (11, ci e)], [some ⟨true, rQuery x⟩, some ⟨true, [cnil, cnil]⟩]⟩, p, ⟨0, 0, rfl, rfl, rfl⟩, ?_⟩
    rintro m s ⟨r, _, rfl, hm, rfl⟩
    conv => whnf
    refine ⟨List.range 9, by kernel_rfl, ?_⟩
    conv => whnf
    refine ⟨by omega, rows_len ciL_len _, ?_⟩
    conv => whnf
    refine ⟨_, takeN_rp (k := r) ciL_len (by omega), ?_⟩
    conv => whnf
    refine ⟨by omega, rows_len ciL_len _, ?_⟩
    conv => whnf
    refine ⟨_, takeN_rp (k := r) ciL_len (by omega), ?_⟩
    conv => whnf
    rcases Nat.lt_or_ge r p with hr | hr
    · have := hfd.2.2 r hr
      rw [getD_int (by omega), getD_int (by omega)] at this
      rw [this, beq_self_eq_true]
      conv => whnf
      exact ⟨m - 1, by omega, r + 1, _, wrap_id (by omega) (by omega), by omega, rfl⟩
    · obtain rfl : r = p := by omega
      rw [show (x.2[i].2[r] == x.2[j].2[r]) = false from by rw [← hta, ← htb]; simpa using g3]
      conv => whnf
      refine ⟨[0,1,2,3,4,5,6,7,8,9,10,11,12,1000,13,1000,14,15], by kernel_rfl, ?_⟩
      conv => whnf
      refine ⟨by omega, rows_len ciL_len _, ?_⟩
      conv => whnf
      refine ⟨_, takeN_rp (k := r) ciL_len (by omega), ?_⟩
      conv => whnf
      refine ⟨by omega, rows_len ciL_len _, ?_⟩
      conv => whnf
      refine ⟨_, takeN_rp (k := r) ciL_len (by omega), ?_⟩
      conv => whnf
      rw [← hta, ← htb]
      refine ⟨_, equate_spec x (tA x i j) (tB x i j) hx g3, .inl rfl, .inl ?_⟩
      generalize he : eqP x (tA x i j) (tB x i j) = o
      cases o with
      | none =>
        simp only [wEq, roV, roVs, wQuery_ro, ci_ro]
        conv => whnf
        rw [← hc, chZ_fail hv he]
        exact .inr ⟨1, .inr ⟨2, rfl⟩⟩
      | some y =>
        simp only [wEq, roV, roVs, wQuery_ro, ci_ro]
        conv => whnf
        obtain ⟨m1, m2⟩ := mu_eqP g3 g4 g5 he
        exact ⟨mu y, m1, y, rfl, okA_eqP hokx g6 g7 he, by omega, by rw [← chZ_step hokx hv he, hc], rfl⟩
end Go.Proofs.YthfjngmbdbocbaaGreatD
