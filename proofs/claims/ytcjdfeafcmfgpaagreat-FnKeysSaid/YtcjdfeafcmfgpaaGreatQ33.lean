/- Contracts of functions and plain laws that a proof of this seat rests on; no condition. -/
import Derived.Test.YtcjdfeafcmfgpaaGreatQ31
import Derived.Test.YtcjdfeafcmfgpaaGreatQ32
import Derived.Test.YtcjdfeafcmfgpaaGreatQ20
set_option linter.unusedVariables false
set_option linter.unusedSimpArgs false
set_option maxRecDepth 100000
namespace Go.Proofs.YtcjdfeafcmfgpaaGreatD
open Go Go.Proofs
theorem snoc_rAtom (xs : List AtomC) (x : AtomC) : rows rAtom xs ++ rAtom x = rows rAtom (xs ++ [x]) := by
  rw [rows_append, rows_one]
theorem asFacts_spec (q : QueryT) (hq : cQuery q ≤ 1048576) : Spec Tryz.prog 123 [vQuery q] (.tr 2 q.2.length (rows rAtom q.2)) := by
  have hq' := hq
  unfold cQuery cAtomS at hq'
  refine Spec_of mx Γ_ok Tryz.func123 rfl ?_
  conv => whnf
  refine ⟨[(1,0),(2,0),(3,0),(8,0),(9,0),(10,0)], fun m s => ∃ (k n : Nat) (e : Int) (r : List V), e = k ∧ m + k = q.2.length ∧ n = k ∧ r = rows rAtom (q.2.take k) ∧
    s = ⟨24, [(1, .ptr 0 0), (2, cnil), (3, .own 1 2 0 n n none), (8, vAtomS q.2), (9, ci q.2.length), (10, ci e)], [some ⟨true, rQuery q⟩, some ⟨false, r⟩]⟩, q.2.length, ⟨0, 0, 0, _, rfl, rfl, rfl, rfl, rfl⟩, ?_⟩
  rintro m s ⟨k, n, _, _, rfl, hm, rfl, rfl, rfl⟩
  conv => whnf
  split <;> rename_i h3
  all_goals simp only [decide_eq_true_eq, decide_eq_false_iff_not] at h3
  · conv => whnf
    have hk : n < q.2.length := by omega
    refine ⟨by omega, rows_len rAtom_len _, ?_⟩
    conv => whnf
    refine ⟨_, takeN_rp (k := n) rAtom_len hk, ?_⟩
    conv => whnf
    refine ⟨_, rfl, .inl ⟨fun c hc => ?_, ?_⟩⟩
    · have hc : c ∈ rAtom q.2[n] := hc
      simp only [rAtom, List.mem_cons, List.not_mem_nil, or_false] at hc
      rcases hc with rfl | rfl <;> rfl
    conv => whnf
    refine ⟨by omega, by rw [rows_len rAtom_len, List.length_take]; congr 1; omega, _, snoc_rAtom _ q.2[n], ?_⟩
    conv => whnf
    refine ⟨m - 1, by omega, n + 1, _, _, _, wrap_id (by omega) (by omega), by omega, rfl, ?_, rfl⟩
    rw [List.take_succ_eq_append_getElem hk]
  · conv => whnf
    have hkk : n = q.2.length := by omega
    subst hkk
    rw [List.take_length]
    exact ⟨by rw [rows_len rAtom_len], rfl⟩
theorem getF_eq {q : QueryT} {i : Nat} (hi : i < q.2.length) : getF q.2 i = q.2[i] := getF_at hi
set_option maxHeartbeats 8000000 in
theorem chase_spec (q : QueryT) (ks : List FactK) (hq : cQuery q ≤ 1048576) (hk : cKeyS ks ≤ 1048576) (hok : okA q.2) : Spec Tryz.prog 121 [vQuery q, vKeyS ks] (wCh (chZ ks q)) := by
  refine Spec_of mx Γ_ok Tryz.func121 rfl ?_
  conv => whnf
  refine ⟨_, copyQuery_spec q (by omega), .inl rfl, .inl ?_⟩
  rw [wQuery_ro]
  conv => whnf
  refine ⟨[(1,0),(2,0),(4,0),(5,0)], fun m s => ∃ (x : QueryT), m = mu x ∧ okA x.2 ∧ cQuery x ≤ 1048576 ∧ chZ ks x = chZ ks q ∧
    s = ⟨68, [(1, vKeyS ks), (2, .ptr 0 0), (4, .ptr 1 0), (5, cb false)], [some ⟨true, rQuery x⟩, some ⟨true, [cnil, cnil]⟩]⟩, mu q, ⟨q, rfl, hok, hq, rfl, rfl⟩, ?_⟩
  rintro m s ⟨x, rfl, hokx, hx, hc, rfl⟩
  have hx' := hx
  unfold cQuery cAtomS at hx'
  conv => whnf
  refine ⟨_, asFacts_spec x hx, .inl rfl, .inl ?_⟩
  rw [show roV (.tr 2 x.2.length (rows rAtom x.2)) = vAtomS x.2 from congrArg (V.ro x.2.length) (roVs_rows rAtom_ro x.2)]
  conv => whnf
  have hf := implFirstViolation_gen x.2 ks (by unfold cFactS; show x.2.length + sumB cAtom x.2 ≤ _; omega) (by omega)
  refine ⟨_, hf, .inl rfl, .inl ?_⟩
  rw [show pFirstViolation x.2 ks = out3 (viol x ks) from rfl]
  generalize hv : viol x ks = o
  cases o with
  | none =>
    conv => whnf
    refine ⟨_, implDedupeAtoms_spec x hx, .inl rfl, .inr ?_⟩
    conv => whnf
    rw [← hc, chZ_end hv]
    exact ⟨by rw [rows_len ciL_len], by rw [rows_len tAtom_len], rfl⟩
  | some r =>
    obtain ⟨k, i, j⟩ := r
    obtain ⟨_, hij, hj, _, _⟩ := viol_some hv
    obtain ⟨g1, g2, g3, g4, g5, g6, g7⟩ := viol_terms hokx hv
    have hi : i < x.2.length := by omega
    have hbi := sumB_one (f := cAtom) hi
    have hci : cAtom x.2[i] = x.2[i].2.length := rfl
    have hne := (viol_some hv).2.2.2.2
    have hfd := fdiff_ok g1 hne
    have hta : tA x i j = (getF x.2 i).2.getD (fdiff (getF x.2 i).2 (getF x.2 j).2) 0 := rfl
    have htb : tB x i j = (getF x.2 j).2.getD (fdiff (getF x.2 i).2 (getF x.2 j).2) 0 := rfl
    rw [getF_eq hi, getF_eq hj] at g1 g2 hfd hta htb
    generalize fdiff x.2[i].2 x.2[j].2 = p at g2 hfd hta htb
    rw [getD_int g2] at hta
    rw [getD_int (by omega)] at htb
    rw [show out3 (some (k, i, j)) = ((k : Int), (i : Int), (j : Int)) from rfl, v3_mk]
    conv => whnf
    rw [decide_eq_false (show ¬ ((k : Int) < 0) from by omega)]
    conv => whnf
    refine ⟨List.range 14, by kernel_rfl, ?_⟩
    conv => whnf
    refine ⟨by omega, rows_len rAtom_len _, ?_⟩
    conv => whnf
    refine ⟨_, takeN_rp_field (k := i) (d := 1) (m := 1) (r := [ints x.2[i].2]) rAtom_len hi (by omega) rfl, ?_⟩
    conv => whnf
    refine ⟨by omega, rows_len rAtom_len _, ?_⟩
    conv => whnf
    refine ⟨_, takeN_rp_field (k := j) (d := 1) (m := 1) (r := [ints x.2[j].2]) rAtom_len hj (by omega) rfl, ?_⟩
    conv => whnf
    refine ⟨[(1,0),(2,0),(4,0),(5,0),(9,0),(10,0),(11,0)], fun m s => ∃ (r : Nat) (e : Int), e = r ∧ m + r = p ∧
      s = ⟨68, [(1, vKeyS ks), (2, .ptr 0 0), (4, .ptr 1 0), (5, cb false), (9, ints x.2[i].2), (10, ints x.2[j].2), (11, ci e)], [some ⟨true, rQuery x⟩, some ⟨true, [cnil, cnil]⟩]⟩, p, ⟨0, 0, rfl, rfl, rfl⟩, ?_⟩
    rintro m s ⟨r, _, rfl, hm, rfl⟩
    conv => whnf
    refine ⟨List.range 9, by kernel_rfl, ?_⟩
    conv => whnf
    refine ⟨by omega, rows_len ciL_len _, ?_⟩
    conv => whnf
    refine ⟨_, takeN_rp (k := r) ciL_len (by omega), ?_⟩
    conv => whnf
    refine ⟨by omega, rows_len ciL_len _, ?_⟩
    conv => whnf
    refine ⟨_, takeN_rp (k := r) ciL_len (by omega), ?_⟩
    conv => whnf
    rcases Nat.lt_or_ge r p with hr | hr
    · have := hfd.2.2 r hr
      rw [getD_int (by omega), getD_int (by omega)] at this
      rw [this, beq_self_eq_true]
      conv => whnf
      exact ⟨m - 1, by omega, r + 1, _, wrap_id (by omega) (by omega), by omega, rfl⟩
    · obtain rfl : r = p := by omega
      rw [show (x.2[i].2[r] == x.2[j].2[r]) = false from by rw [← hta, ← htb]; simpa using g3]
      conv => whnf
      refine ⟨[0,1,2,3,4,5,6,7,8,9,10,11,12,1000,13,1000,14,15], by kernel_rfl, ?_⟩
      conv => whnf
      refine ⟨by omega, rows_len ciL_len _, ?_⟩
      conv => whnf
      refine ⟨_, takeN_rp (k := r) ciL_len (by omega), ?_⟩
      conv => whnf
      refine ⟨by omega, rows_len ciL_len _, ?_⟩
      conv => whnf
      refine ⟨_, takeN_rp (k := r) ciL_len (by omega), ?_⟩
      conv => whnf
      rw [← hta, ← htb]
      refine ⟨_, equate_spec x (tA x i j) (tB x i j) hx g3, .inl rfl, .inl ?_⟩
      generalize he : eqP x (tA x i j) (tB x i j) = o
      cases o with
      | none =>
        simp only [wEq, roV, roVs, wQuery_ro, ci_ro]
        conv => whnf
        rw [← hc, chZ_fail hv he]
        exact .inr ⟨1, .inr ⟨2, rfl⟩⟩
      | some y =>
        simp only [wEq, roV, roVs, wQuery_ro, ci_ro]
        conv => whnf
        obtain ⟨m1, m2⟩ := mu_eqP g3 g4 g5 he
        exact ⟨mu y, m1, y, rfl, okA_eqP hokx g6 g7 he, by omega, by rw [← chZ_step hokx hv he, hc], rfl⟩
end Go.Proofs.YtcjdfeafcmfgpaaGreatD
set_option linter.unusedVariables false
set_option linter.unusedSimpArgs false
set_option maxRecDepth 100000
namespace Go.Proofs.YtcjdfeafcmfgpaaGreatD
open Go Go.Proofs
def pairO (q : QueryT) : Option (Nat × Nat × Nat) → Int × Int × Int
  | none => (-1, -1, -1)
  | some (_, i, j) => (i, j, fdiff (getF q.2 i).2 (getF q.2 j).2)
set_option maxHeartbeats 8000000 in
theorem l13Pair_spec (q : QueryT) (x1 : List FactK) (hq : cQuery q ≤ 1048576) (h1 : cKeyS x1 ≤ 1048576) (hok : okA q.2) : Spec Tryz.prog 231 [vQuery q, vKeyS x1] (v3 (pairO q (viol q x1))) := by
  have hq' := hq
  unfold cQuery cAtomS at hq'
  unfold cKeyS at h1
  generalize hT : pairO q (viol q x1) = T
  refine Spec_of mx Γ_ok Tryz.func231 rfl ?_
  conv => whnf
  refine ⟨[(1,0),(2,0),(4,0),(5,0),(6,0),(7,0)], fun m s => ∃ (k : Nat) (e : Int), e = k ∧ m + k = x1.length ∧ T = pairO q (tripK q.2 x1 (ran k x1.length)) ∧
    s = ⟨106, [(1, vKeyS x1), (2, .ptr 0 0), (4, ci 0), (5, ci 0), (6, ci 0), (7, ci e)], [some ⟨true, rQuery q⟩]⟩, x1.length, ⟨0, 0, rfl, rfl, hT.symm, rfl⟩, ?_⟩
  rintro m s ⟨k, _, rfl, hm, hall, rfl⟩
  conv => whnf
  split <;> rename_i h3
  all_goals simp only [decide_eq_true_eq, decide_eq_false_iff_not] at h3
  · conv => whnf
    have hk : k < x1.length := by omega
    have hb := sumB_one (f := cKey) hk
    have hck : cKey x1[k] = x1[k].2.length := rfl
    rw [ran_at hk, tripK] at hall
    refine ⟨[(1,0),(2,0),(4,0),(5,0),(6,0),(7,0),(8,0)], fun m s => ∃ (i : Nat) (e : Int), e = i ∧ m + i = q.2.length ∧ T = pairO q ((tripI q.2 x1 k (ran i q.2.length)).or (tripK q.2 x1 (ran (k + 1) x1.length))) ∧
      s = ⟨106, [(1, vKeyS x1), (2, .ptr 0 0), (4, ci 0), (5, ci 0), (6, ci 0), (7, ci k), (8, ci e)], [some ⟨true, rQuery q⟩]⟩, q.2.length, ⟨0, 0, rfl, rfl, hall, rfl⟩, ?_⟩
    clear hall
    rintro m1 s ⟨i, _, rfl, hm1, hall, rfl⟩
    conv => whnf
    split <;> rename_i h4
    all_goals simp only [decide_eq_true_eq, decide_eq_false_iff_not] at h4
    · conv => whnf
      have hi : i < q.2.length := by omega
      have hbi := sumB_one (f := cAtom) hi
      have hci : cAtom q.2[i] = q.2[i].2.length := rfl
      rw [ran_at hi, tripI] at hall
      refine ⟨[(1,0),(2,0),(4,0),(5,0),(6,0),(7,0),(8,0),(9,0)], fun m s => ∃ (j : Nat) (e : Int), e = j ∧ i + 1 ≤ j ∧ m + j = q.2.length ∧ T = pairO q (((tripJ q.2 x1 k i (ran j q.2.length)).or (tripI q.2 x1 k (ran (i + 1) q.2.length))).or (tripK q.2 x1 (ran (k + 1) x1.length))) ∧
        s = ⟨106, [(1, vKeyS x1), (2, .ptr 0 0), (4, ci 0), (5, ci 0), (6, ci 0), (7, ci k), (8, ci i), (9, ci e)], [some ⟨true, rQuery q⟩]⟩, q.2.length - (i + 1), ⟨i + 1, _, wrap_id (by omega) (by omega), by omega, by omega, hall, rfl⟩, ?_⟩
      clear hall
      rintro m2 s ⟨j, _, rfl, hji, hm2, hall, rfl⟩
      conv => whnf
      split <;> rename_i h5
      all_goals simp only [decide_eq_true_eq, decide_eq_false_iff_not] at h5
      · conv => whnf
        have hj : j < q.2.length := by omega
        have hbj := sumB_one (f := cAtom) hj
        have hcj : cAtom q.2[j] = q.2[j].2.length := rfl
        rw [ran_at hj, tripJ, getF_at hj, getF_at hi, getF_at hk] at hall
        have hnext : violP x1[k] q.2[i] q.2[j] = false → ∃ m', m' < m2 ∧ ∃ (j' : Nat) (e : Int), e = j' ∧ i + 1 ≤ j' ∧ m' + j' = q.2.length ∧ T = pairO q (((tripJ q.2 x1 k i (ran j' q.2.length)).or (tripI q.2 x1 k (ran (i + 1) q.2.length))).or (tripK q.2 x1 (ran (k + 1) x1.length))) ∧
            (⟨106, [(1, vKeyS x1), (2, .ptr 0 0), (4, ci 0), (5, ci 0), (6, ci 0), (7, ci k), (8, ci i), (9, ci (IntKind.i64.wrap ((j : Int) + 1)))], [some ⟨true, rQuery q⟩]⟩ : St) = ⟨106, [(1, vKeyS x1), (2, .ptr 0 0), (4, ci 0), (5, ci 0), (6, ci 0), (7, ci k), (8, ci i), (9, ci e)], [some ⟨true, rQuery q⟩]⟩ := fun h => by
          refine ⟨m2 - 1, by omega, j + 1, _, wrap_id (by omega) (by omega), by omega, by omega, ?_, rfl⟩
          rw [hall, h]
          rfl
        refine ⟨by omega, rows_len rAtom_len _, ?_⟩
        conv => whnf
        refine ⟨_, takeN_rp (k := i) rAtom_len hi, ?_⟩
        conv => whnf
        refine ⟨by omega, rows_len rAtom_len _, ?_⟩
        conv => whnf
        refine ⟨_, takeN_rp (k := j) rAtom_len hj, ?_⟩
        conv => whnf
        refine ⟨List.range 40, by kernel_rfl, ?_⟩
        conv => whnf
        refine ⟨by omega, rows_len rKey_len _, ?_⟩
        conv => whnf
        refine ⟨_, takeN_rp_field (k := k) (d := 0) (m := 1) (r := [ci x1[k].1]) rKey_len hk (by omega) rfl, ?_⟩
        conv => whnf
        generalize hb1 : (q.2[i].1 != x1[k].1) = b1
        cases b1 with
        | true =>
          conv => whnf
          refine hnext ?_
          rw [violP, decide_eq_false (p := q.2[i].1 = x1[k].1) (by simpa using hb1), Bool.false_and]
        | false =>
        conv => whnf
        refine ⟨by omega, rows_len rKey_len _, ?_⟩
        conv => whnf
        refine ⟨_, takeN_rp_field (k := k) (d := 0) (m := 1) (r := [ci x1[k].1]) rKey_len hk (by omega) rfl, ?_⟩
        conv => whnf
        generalize hb2 : (q.2[j].1 != x1[k].1) = b2
        cases b2 with
        | true =>
          conv => whnf
          refine hnext ?_
          rw [violP, decide_eq_false (p := q.2[j].1 = x1[k].1) (by simpa using hb2), Bool.false_and, Bool.and_false]
        | false =>
        have hr1 : q.2[i].1 = x1[k].1 := by simpa using hb1
        have hr2 : q.2[j].1 = x1[k].1 := by simpa using hb2
        have hlen : q.2[i].2.length = q.2[j].2.length := hok.1 _ (List.getElem_mem hi) _ (List.getElem_mem hj) (hr1.trans hr2.symm)
        conv => whnf
        rw [show ((q.2[i].2.length : Int) != (q.2[j].2.length : Int)) = false from by rw [hlen]; simp]
        conv => whnf
        refine ⟨by omega, rows_len rKey_len _, ?_⟩
        conv => whnf
        refine ⟨_, takeN_rp_field (k := k) (d := 1) (m := 1) (r := [ints x1[k].2]) rKey_len hk (by omega) rfl, ?_⟩
        conv => whnf
        refine ⟨_, l12Agree_spec q.2[i].2 q.2[j].2 x1[k].2 (by omega) (by omega) (by omega), .inl rfl, .inl ?_⟩
        conv => whnf
        generalize hb3 : agreeI q.2[i].2 x1[k].2 q.2[j].2 x1[k].2 = b3
        cases b3 with
        | false =>
          conv => whnf
          refine hnext ?_
          rw [violP, hb3, Bool.false_and, Bool.and_false, Bool.and_false]
        | true =>
        have hvv : violP x1[k] q.2[i] q.2[j] = !decide (q.2[i].2 = q.2[j].2) := by
          rw [violP, hb3, decide_eq_true hr1, decide_eq_true hr2]
          rfl
        conv => whnf
        refine ⟨[(1,0),(2,0),(4,0),(5,0),(6,0),(7,0),(8,0),(9,0),(10,0),(11,0),(12,0)], fun m s => ∃ (r : Nat) (e : Int), e = r ∧ m + r = q.2[i].2.length ∧ (∀ t, t < r → q.2[i].2.getD t 0 = q.2[j].2.getD t 0) ∧
          s = ⟨106, [(1, vKeyS x1), (2, .ptr 0 0), (4, ci 0), (5, ci 0), (6, ci 0), (7, ci k), (8, ci i), (9, ci j), (10, .ptr 1 0), (11, .ptr 2 0), (12, ci e)], [some ⟨true, rQuery q⟩, some ⟨true, rAtom q.2[i]⟩, some ⟨true, rAtom q.2[j]⟩]⟩, q.2[i].2.length, ⟨0, 0, rfl, rfl, fun t ht => absurd ht (Nat.not_lt_zero _), rfl⟩, ?_⟩
        rintro m3 s ⟨r, _, rfl, hm3, heq, rfl⟩
        conv => whnf
        split <;> rename_i h6
        all_goals simp only [decide_eq_true_eq, decide_eq_false_iff_not] at h6
        · conv => whnf
          have hr : r < q.2[i].2.length := by omega
          refine ⟨List.range 11, by kernel_rfl, ?_⟩
          conv => whnf
          refine ⟨by omega, rows_len ciL_len _, ?_⟩
          conv => whnf
          refine ⟨_, takeN_rp (k := r) ciL_len hr, ?_⟩
          conv => whnf
          refine ⟨by omega, rows_len ciL_len _, ?_⟩
          conv => whnf
          refine ⟨_, takeN_rp (k := r) ciL_len (by omega), ?_⟩
          conv => whnf
          generalize hb4 : (q.2[i].2[r] != q.2[j].2[r]) = b4
          cases b4 with
          | true =>
            conv => whnf
            have hd : q.2[i].2[r] ≠ q.2[j].2[r] := by simpa using hb4
            have hne : q.2[i].2 ≠ q.2[j].2 := fun h => hd (List.getElem_of_eq h hr)
            obtain ⟨f1, f2, f3⟩ := fdiff_ok hlen hne
            have hp : fdiff q.2[i].2 q.2[j].2 = r := by
              rcases Nat.lt_trichotomy (fdiff q.2[i].2 q.2[j].2) r with h | h | h
              · exact absurd (heq _ h) f2
              · exact h
              · have := f3 r h
                rw [getD_int hr, getD_int (by omega)] at this
                exact absurd this hd
            rw [hall, hvv, decide_eq_false hne]
            show _ = v3 (pairO q (some (k, i, j)))
            rw [pairO, getF_at hi, getF_at hj, hp]
            rfl
          | false =>
            conv => whnf
            refine ⟨m3 - 1, by omega, r + 1, _, wrap_id (by omega) (by omega), by omega, fun t ht => ?_, rfl⟩
            rcases Nat.lt_or_ge t r with h | h
            · exact heq t h
            · obtain rfl : t = r := by omega
              rw [getD_int hr, getD_int (by omega)]
              simpa using hb4
        · conv => whnf
          refine hnext ?_
          rw [hvv, decide_eq_true]
          · rfl
          · apply List.ext_getElem hlen
            intro t h7 h8
            have := heq t (by omega)
            rwa [getD_int h7, getD_int h8] at this
      · conv => whnf
        rw [ran_end (k := j) (by omega), tripJ, Option.none_or] at hall
        exact ⟨m1 - 1, by omega, i + 1, _, wrap_id (by omega) (by omega), by omega, hall, rfl⟩
    · conv => whnf
      rw [ran_end (k := i) (by omega), tripI, Option.none_or] at hall
      exact ⟨m - 1, by omega, k + 1, _, wrap_id (by omega) (by omega), by omega, hall, rfl⟩
  · conv => whnf
    rw [hall, ran_end (by omega)]
    rfl
set_option maxHeartbeats 8000000 in
theorem l13Chase_spec (q : QueryT) (ks : List FactK) (hq : cQuery q ≤ 1048576) (hk : cKeyS ks ≤ 1048576) (hok : okA q.2) : Spec Tryz.prog 126 [vQuery q, vKeyS ks] (wCh (chZ ks q)) := by
  refine Spec_of mx Γ_ok Tryz.func126 rfl ?_
  conv => whnf
  refine ⟨_, l4Copy_spec q hq, .inl rfl, .inl ?_⟩
  rw [wQuery_ro]
  conv => whnf
  refine ⟨[(1,0),(4,0),(5,0),(6,0)], fun m s => ∃ (x : QueryT), m = mu x ∧ okA x.2 ∧ cQuery x ≤ 1048576 ∧ chZ ks x = chZ ks q ∧
    s = ⟨52, [(1, vKeyS ks), (4, .ptr 0 0), (5, cb false), (6, .ptr 1 0)], [some ⟨true, [cnil, cnil]⟩, some ⟨true, rQuery x⟩]⟩, mu q, ⟨q, rfl, hok, hq, rfl, rfl⟩, ?_⟩
  rintro m s ⟨x, rfl, hokx, hx, hc, rfl⟩
  have hx' := hx
  unfold cQuery cAtomS at hx'
  conv => whnf
  refine ⟨_, l13Pair_spec x ks hx hk hokx, .inl rfl, .inl ?_⟩
  generalize hv : viol x ks = o
  cases o with
  | none =>
    conv => whnf
    refine ⟨_, specDedupeAtoms_spec x hx, .inl rfl, .inr ?_⟩
    conv => whnf
    rw [← hc, chZ_end hv]
    exact ⟨by rw [rows_len ciL_len], by rw [rows_len tAtom_len], rfl⟩
  | some r =>
    obtain ⟨k, i, j⟩ := r
    obtain ⟨_, hij, hj, _, _⟩ := viol_some hv
    obtain ⟨g1, g2, g3, g4, g5, g6, g7⟩ := viol_terms hokx hv
    have hi : i < x.2.length := by omega
    have hbi := sumB_one (f := cAtom) hi
    have hci : cAtom x.2[i] = x.2[i].2.length := rfl
    have hta : tA x i j = (getF x.2 i).2.getD (fdiff (getF x.2 i).2 (getF x.2 j).2) 0 := rfl
    have htb : tB x i j = (getF x.2 j).2.getD (fdiff (getF x.2 i).2 (getF x.2 j).2) 0 := rfl
    rw [pairO]
    rw [getF_at hi, getF_at hj] at g1 g2 hta htb ⊢
    generalize fdiff x.2[i].2 x.2[j].2 = p at g2 hta htb
    rw [getD_int g2] at hta
    rw [getD_int (by omega)] at htb
    rw [v3_mk]
    conv => whnf
    rw [decide_eq_false (show ¬ ((i : Int) < 0) from by omega)]
    conv => whnf
    refine ⟨List.range 23 ++ [1000, 23, 1000, 24, 25], by kernel_rfl, ?_⟩
    conv => whnf
    refine ⟨by omega, rows_len rAtom_len _, ?_⟩
    conv => whnf
    refine ⟨_, takeN_rp_field (k := i) (d := 1) (m := 1) (r := [ints x.2[i].2]) rAtom_len hi (by omega) rfl, ?_⟩
    conv => whnf
    refine ⟨by omega, rows_len ciL_len _, ?_⟩
    conv => whnf
    refine ⟨_, takeN_rp (k := p) ciL_len (by omega), ?_⟩
    conv => whnf
    refine ⟨by omega, rows_len rAtom_len _, ?_⟩
    conv => whnf
    refine ⟨_, takeN_rp_field (k := j) (d := 1) (m := 1) (r := [ints x.2[j].2]) rAtom_len hj (by omega) rfl, ?_⟩
    conv => whnf
    refine ⟨by omega, rows_len ciL_len _, ?_⟩
    conv => whnf
    refine ⟨_, takeN_rp (k := p) ciL_len (by omega), ?_⟩
    conv => whnf
    rw [← hta, ← htb]
    refine ⟨_, l13Equate_spec x (tA x i j) (tB x i j) hx g3 g6 g7, .inl rfl, .inl ?_⟩
    generalize he : eqP x (tA x i j) (tB x i j) = o
    cases o with
    | none =>
      simp only [wEqS, roV, roVs, vQuery_ro', wQuery_ro, ci_ro]
      conv => whnf
      rw [← hc, chZ_fail hv he]
      exact .inr ⟨1, .inr ⟨2, rfl⟩⟩
    | some y =>
      simp only [wEqS, roV, roVs, wQuery_ro, ci_ro]
      conv => whnf
      obtain ⟨m1, m2⟩ := mu_eqP g3 g4 g5 he
      exact ⟨mu y, m1, y, rfl, okA_eqP hokx g6 g7 he, by omega, by rw [← chZ_step hokx hv he, hc], rfl⟩
end Go.Proofs.YtcjdfeafcmfgpaaGreatD
set_option linter.unusedVariables false
set_option linter.unusedSimpArgs false
set_option maxRecDepth 100000
namespace Go.Proofs.YtcjdfeafcmfgpaaGreatD
open Go Go.Proofs
def chO : Option QueryT → QueryT × Bool
  | none => (([], []), false)
  | some y => (y, true)
theorem wCh_eq (o : Option QueryT) : wCh o = .tup [wQuery (chO o).1, cb (chO o).2] := by cases o <;> rfl
def pChaseKeys (s : List Int) (q : QueryT) (ks : List FactK) : QueryT × Bool := if isQuery s q && pAreKeys s ks then chO (chZ ks q) else (([], []), false)
theorem pChaseKeys_bound (x0 : List Int) (x1 : QueryT) (x2 : List FactK) (h1 : cQuery x1 ≤ 1048576) : cQuery (pChaseKeys x0 x1 x2).1 ≤ 1048576 := by
  unfold pChaseKeys
  split
  · rename_i h
    simp only [Bool.and_eq_true] at h
    cases hc : chZ x2 x1 with
    | none => exact Nat.zero_le _
    | some y => exact (chZ_bound (isQuery_ok h.1) h1 hc).1
  · exact Nat.zero_le _
theorem specChaseKeys_gen (x0 : List Int) (x1 : QueryT) (x2 : List FactK) (h0 : cSchema x0 ≤ 1048576) (h1 : cQuery x1 ≤ 1048576) (h2 : cKeyS x2 ≤ 1048576) : Spec Tryz.prog 60 [vSchema x0, vQuery x1, vKeyS x2] (.tup [wQuery (pChaseKeys x0 x1 x2).1, cb (pChaseKeys x0 x1 x2).2]) := by
  refine Spec_of mx Γ_ok Tryz.func60 rfl ?_
  conv => whnf
  refine ⟨_, specIsQuery_spec x0 x1 h0 h1, .inl rfl, .inl ?_⟩
  conv => whnf
  unfold pChaseKeys
  generalize hb1 : isQuery x0 x1 = b1
  cases b1 with
  | false =>
    conv => whnf
    exact .inr ⟨1, .inr ⟨2, rfl⟩⟩
  | true =>
  conv => whnf
  refine ⟨_, specAreKeys_gen x0 x2 h0 h2, .inl rfl, .inl ?_⟩
  conv => whnf
  generalize hb2 : pAreKeys x0 x2 = b2
  cases b2 with
  | false =>
    conv => whnf
    exact .inr ⟨1, .inr ⟨2, rfl⟩⟩
  | true =>
  conv => whnf
  have hs := l13Chase_spec x1 x2 h1 h2 (isQuery_ok hb1)
  rw [wCh_eq] at hs
  refine ⟨_, hs, .inl rfl, .inr ?_⟩
  rw [Bool.true_and, if_pos rfl]
  generalize chO (chZ x2 x1) = r
  obtain ⟨y, ok⟩ := r
  conv => whnf
  exact ⟨by rw [rows_len ciL_len], by rw [rows_len tAtom_len], rfl⟩
theorem implChaseKeys_gen (x0 : List Int) (x1 : QueryT) (x2 : List FactK) (h0 : cSchema x0 ≤ 1048576) (h1 : cQuery x1 ≤ 1048576) (h2 : cKeyS x2 ≤ 1048576) : Spec Tryz.prog 59 [vSchema x0, vQuery x1, vKeyS x2] (.tup [wQuery (pChaseKeys x0 x1 x2).1, cb (pChaseKeys x0 x1 x2).2]) := by
  refine Spec_of mx Γ_ok Tryz.func59 rfl ?_
  conv => whnf
  refine ⟨_, implIsQuery_spec x0 x1 h0 h1, .inl rfl, .inl ?_⟩
  conv => whnf
  unfold pChaseKeys
  generalize hb1 : isQuery x0 x1 = b1
  cases b1 with
  | false =>
    conv => whnf
    exact .inr ⟨1, .inr ⟨2, rfl⟩⟩
  | true =>
  conv => whnf
  refine ⟨_, implAreKeys_gen x0 x2 h0 h2, .inl rfl, .inl ?_⟩
  conv => whnf
  generalize hb2 : pAreKeys x0 x2 = b2
  cases b2 with
  | false =>
    conv => whnf
    exact .inr ⟨1, .inr ⟨2, rfl⟩⟩
  | true =>
  conv => whnf
  have hs := chase_spec x1 x2 h1 h2 (isQuery_ok hb1)
  rw [wCh_eq] at hs
  refine ⟨_, hs, .inl rfl, .inr ?_⟩
  rw [Bool.true_and, if_pos rfl]
  generalize chO (chZ x2 x1) = r
  obtain ⟨y, ok⟩ := r
  conv => whnf
  exact ⟨by rw [rows_len ciL_len], by rw [rows_len tAtom_len], rfl⟩
def underP (a b : QueryT) (ks : List FactK) : Bool := match chZ ks a with
  | none => true
  | some x => (mapP b x).isSome
def pContainedUnder (s : List Int) (a b : QueryT) (ks : List FactK) : Bool := isQuery s a && (isQuery s b && (pAreKeys s ks && (!((a.1.length : Int) != b.1.length) && underP a b ks)))
set_option maxHeartbeats 2000000 in
theorem specContainedUnder_gen (x0 : List Int) (x1 x2 : QueryT) (x3 : List FactK) (h0 : cSchema x0 ≤ 1048576) (h1 : cQuery x1 ≤ 1048576) (h2 : cQuery x2 ≤ 1048576) (h3 : cKeyS x3 ≤ 1048576) : Spec Tryz.prog 57 [vSchema x0, vQuery x1, vQuery x2, vKeyS x3] (cb (pContainedUnder x0 x1 x2 x3)) := by
  refine Spec_of mx Γ_ok Tryz.func57 rfl ?_
  conv => whnf
  refine ⟨_, specIsQuery_spec x0 x1 h0 h1, .inl rfl, .inl ?_⟩
  conv => whnf
  unfold pContainedUnder
  generalize hb1 : isQuery x0 x1 = b1
  cases b1 with
  | false =>
    conv => whnf
    rfl
  | true =>
  conv => whnf
  refine ⟨_, specIsQuery_spec x0 x2 h0 h2, .inl rfl, .inl ?_⟩
  conv => whnf
  generalize hb2 : isQuery x0 x2 = b2
  cases b2 with
  | false =>
    conv => whnf
    rfl
  | true =>
  conv => whnf
  refine ⟨_, specAreKeys_gen x0 x3 h0 h3, .inl rfl, .inl ?_⟩
  conv => whnf
  generalize hb3 : pAreKeys x0 x3 = b3
  cases b3 with
  | false =>
    conv => whnf
    rfl
  | true =>
  conv => whnf
  generalize hb4 : ((x1.1.length : Int) != x2.1.length) = b4
  cases b4 with
  | true =>
    conv => whnf
    rfl
  | false =>
  conv => whnf
  refine ⟨_, l13Chase_spec x1 x3 h1 h3 (isQuery_ok hb1), .inl rfl, .inl ?_⟩
  obtain ⟨f1, f2⟩ := isQuery_fine hb2
  unfold underP
  generalize hc : chZ x3 x1 = o
  cases o with
  | none =>
    simp only [wCh, roV, roVs, wQuery_ro, ci_ro]
    conv => whnf
    rfl
  | some y =>
    simp only [wCh, roV, roVs, wQuery_ro, ci_ro]
    conv => whnf
    have hy := (chZ_bound (isQuery_ok hb1) h1 hc).1
    refine ⟨_, l7Find_spec x2 y h2 hy f1 f2, .inl rfl, .inl ?_⟩
    generalize mapP x2 y = r
    cases r <;> rfl
set_option maxHeartbeats 2000000 in
theorem implContainedUnder_gen (x0 : List Int) (x1 x2 : QueryT) (x3 : List FactK) (h0 : cSchema x0 ≤ 1048576) (h1 : cQuery x1 ≤ 1048576) (h2 : cQuery x2 ≤ 1048576) (h3 : cKeyS x3 ≤ 1048576) : Spec Tryz.prog 56 [vSchema x0, vQuery x1, vQuery x2, vKeyS x3] (cb (pContainedUnder x0 x1 x2 x3)) := by
  refine Spec_of mx Γ_ok Tryz.func56 rfl ?_
  conv => whnf
  refine ⟨_, implIsQuery_spec x0 x1 h0 h1, .inl rfl, .inl ?_⟩
  conv => whnf
  unfold pContainedUnder
  generalize hb1 : isQuery x0 x1 = b1
  cases b1 with
  | false =>
    conv => whnf
    rfl
  | true =>
  conv => whnf
  refine ⟨_, implIsQuery_spec x0 x2 h0 h2, .inl rfl, .inl ?_⟩
  conv => whnf
  generalize hb2 : isQuery x0 x2 = b2
  cases b2 with
  | false =>
    conv => whnf
    rfl
  | true =>
  conv => whnf
  refine ⟨_, implAreKeys_gen x0 x3 h0 h3, .inl rfl, .inl ?_⟩
  conv => whnf
  generalize hb3 : pAreKeys x0 x3 = b3
  cases b3 with
  | false =>
    conv => whnf
    rfl
  | true =>
  conv => whnf
  generalize hb4 : ((x1.1.length : Int) != x2.1.length) = b4
  cases b4 with
  | true =>
    conv => whnf
    rfl
  | false =>
  conv => whnf
  refine ⟨_, chase_spec x1 x3 h1 h3 (isQuery_ok hb1), .inl rfl, .inl ?_⟩
  obtain ⟨f1, f2⟩ := isQuery_fine hb2
  unfold underP
  generalize hc : chZ x3 x1 = o
  cases o with
  | none =>
    simp only [wCh, roV, roVs, wQuery_ro, ci_ro]
    conv => whnf
    rfl
  | some y =>
    simp only [wCh, roV, roVs, wQuery_ro, ci_ro]
    conv => whnf
    have hy := (chZ_bound (isQuery_ok hb1) h1 hc).1
    refine ⟨_, mapping_spec x2 y h2 hy f1 f2, .inl rfl, .inl ?_⟩
    generalize mapP x2 y = r
    cases r <;> rfl
def pEquivalentUnder (s : List Int) (a b : QueryT) (ks : List FactK) : Bool := pContainedUnder s a b ks && pContainedUnder s b a ks
theorem implEquivalentUnder_gen (x0 : List Int) (x1 x2 : QueryT) (x3 : List FactK) (h0 : cSchema x0 ≤ 1048576) (h1 : cQuery x1 ≤ 1048576) (h2 : cQuery x2 ≤ 1048576) (h3 : cKeyS x3 ≤ 1048576) : Spec Tryz.prog 58 [vSchema x0, vQuery x1, vQuery x2, vKeyS x3] (cb (pEquivalentUnder x0 x1 x2 x3)) := by
  refine Spec_of mx Γ_ok Tryz.func58 rfl ?_
  conv => whnf
  refine ⟨_, implContainedUnder_gen x0 x1 x2 x3 h0 h1 h2 h3, .inl rfl, .inl ?_⟩
  conv => whnf
  unfold pEquivalentUnder
  generalize pContainedUnder x0 x1 x2 x3 = b1
  cases b1 with
  | false =>
    conv => whnf
    rfl
  | true =>
    conv => whnf
    refine ⟨_, implContainedUnder_gen x0 x2 x1 x3 h0 h2 h1 h3, .inl rfl, .inl ?_⟩
    conv => whnf
    rfl
end Go.Proofs.YtcjdfeafcmfgpaaGreatD
set_option linter.unusedVariables false
set_option linter.unusedSimpArgs false
set_option maxRecDepth 100000
namespace Go.Proofs.YtcjdfeafcmfgpaaGreatD
open Go Go.Proofs
end Go.Proofs.YtcjdfeafcmfgpaaGreatD
