/- A chase by keys: the first program. -/
import Derived.Test.YthfjngmbdbocbaaGreatFChase1
import Derived.Test.YthfjngmbdbocbaaGreatFRename
set_option linter.unusedVariables false
set_option linter.unusedSimpArgs false
set_option maxRecDepth 100000
namespace Go.Proofs.YthfjngmbdbocbaaGreatD
open Go Go.Proofs

def pairO (q : QueryT) : Option (Nat × Nat × Nat) → Int × Int × Int
  | none => (-1, -1, -1)
  | some (_, i, j) => (i, j, fdiff (getF q.2 i).2 (getF q.2 j).2)
theorem fdiff_same : ∀ {xs : List Int} {r : Nat}, r ≤ xs.length → True := fun _ => trivial
set_option maxHeartbeats 8000000 in
theorem l13Pair_spec (q : QueryT) (x1 : List FactK) (hq : cQuery q ≤ 1048576) (h1 : cKeyS x1 ≤ 1048576) (hok : okA q.2) : Spec Tryz.prog 64 [vQuery q, vKeyS x1] (v3 (pairO q (viol q x1))) := by
  have hq' := hq
  unfold cQuery cAtomS at hq'
  unfold cKeyS at h1
  generalize hT : pairO q (viol q x1) = T
  refine Spec_of mx Γ_ok Tryz.func64 rfl ?_
  conv => whnf
  refine ⟨[(1,0),(2,0),(4,0),(5,0),(6,0),(7,0)], fun m s => ∃ (k : Nat) (e : Int), e = k ∧ m + k = x1.length ∧ T = pairO q (tripK q.2 x1 (ran k x1.length)) ∧
    s = ⟨106, [(1, vKeyS x1), (2, .ptr 0 0), (4, ci 0), (5, ci 0), (6, ci 0), (7, ci e)], [some ⟨true, rQuery q⟩]⟩, x1.length, ⟨0, 0, rfl, rfl, hT.symm, rfl⟩, ?_⟩
  rintro m s ⟨k, _, rfl, hm, hall, rfl⟩
  conv => whnf
  split <;> rename_i h3
  all_goals simp only [decide_eq_true_eq, decide_eq_false_iff_not] at h3
  · conv => whnf
    have hk : k < x1.length := by omega
    have hb := sumB_one (f := cKey) hk
    have hck : cKey x1[k] = x1[k].2.length := rfl
    rw [ran_at hk, tripK] at hall
    refine ⟨[(1,0),(2,0),(4,0),(5,0),(6,0),(7,0),(8,0)], fun m s => ∃ (i : Nat) (e : Int), e = i ∧ m + i = q.2.length ∧ T = pairO q ((tripI q.2 x1 k (ran i q.2.length)).or (tripK q.2 x1 (ran (k + 1) x1.length))) ∧
      s = ⟨106, [(1, vKeyS x1), (2, .ptr 0 0), (4, ci 0), (5, ci 0), (6, ci 0), (7, ci k), (8, ci e)], [some ⟨true, rQuery q⟩]⟩, q.2.length, ⟨0, 0, rfl, rfl, hall, rfl⟩, ?_⟩
    clear hall
    rintro m1 s ⟨i, _, rfl, hm1, hall, rfl⟩
    conv => whnf
    split <;> rename_i h4
    all_goals simp only [decide_eq_true_eq, decide_eq_false_iff_not] at h4
    · conv => whnf
      have hi : i < q.2.length := by omega
      have hbi := sumB_one (f := cAtom) hi
      have hci : cAtom q.2[i] = q.2[i].2.length := rfl
      rw [ran_at hi, tripI] at hall
      refine ⟨[(1,0),(2,0),(4,0),(5,0),(6,0),(7,0),(8,0),(9,0)], fun m s => ∃ (j : Nat) (e : Int), e = j ∧ i + 1 ≤ j ∧ m + j = q.2.length ∧ T = pairO q (((tripJ q.2 x1 k i (ran j q.2.length)).or (tripI q.2 x1 k (ran (i + 1) q.2.length))).or (tripK q.2 x1 (ran (k + 1) x1.length))) ∧
        s = ⟨106, [(1, vKeyS x1), (2, .ptr 0 0), (4, ci 0), (5, ci 0), (6, ci 0), (7, ci k), (8, ci i), (9, ci e)], [some ⟨true, rQuery q⟩]⟩, q.2.length - (i + 1), ⟨i + 1, _, wrap_id (by omega) (by omega), by omega, by omega, hall, rfl⟩, ?_⟩
      clear hall
      rintro m2 s ⟨j, _, rfl, hji, hm2, hall, rfl⟩
      conv => whnf
      split <;> rename_i h5
      all_goals simp only [decide_eq_true_eq, decide_eq_false_iff_not] at h5
      · conv => whnf
        have hj : j < q.2.length := by omega
        have hbj := sumB_one (f := cAtom) hj
        have hcj : cAtom q.2[j] = q.2[j].2.length := rfl
        rw [ran_at hj, tripJ, getF_at hj, getF_at hi, getF_at hk] at hall
        have hnext : violP x1[k] q.2[i] q.2[j] = false → ∃ m', m' < m2 ∧ ∃ (j' : Nat) (e : Int), e = j' ∧ i + 1 ≤ j' ∧ m' + j' = q.2.length ∧ T = pairO q (((tripJ q.2 x1 k i (ran j' q.2.length)).or (tripI q.2 x1 k (ran (i + 1) q.2.length))).or (tripK q.2 x1 (ran (k + 1) x1.length))) ∧
            (⟨106, [(1, vKeyS x1), (2, .ptr 0 0), (4, ci 0), (5, ci 0), (6, ci 0), (7, ci k), (8, ci i), (9, ci (IntKind.i64.wrap ((j : Int) + 1)))], [some ⟨true, rQuery q⟩]⟩ : St) = ⟨106, [(1, vKeyS x1), (2, .ptr 0 0), (4, ci 0), (5, ci 0), (6, ci 0), (7, ci k), (8, ci i), (9, ci e)], [some ⟨true, rQuery q⟩]⟩ := fun h => by
          refine ⟨m2 - 1, by omega, j + 1, _, wrap_id (by omega) (by omega), by omega, by omega, ?_, rfl⟩
          rw [hall, h]
          rfl
        refine ⟨by omega, rows_len rAtom_len _, ?_⟩
        conv => whnf
        refine ⟨_, takeN_rp (k := i) rAtom_len hi, ?_⟩
        conv => whnf
        refine ⟨by omega, rows_len rAtom_len _, ?_⟩
        conv => whnf
        refine ⟨_, takeN_rp (k := j) rAtom_len hj, ?_⟩
        conv => whnf
        refine ⟨List.range 40, by kernel_rfl, ?_⟩
        conv => whnf
        refine ⟨by omega, rows_len rKey_len _, ?_⟩
        conv => whnf
        refine ⟨_, takeN_rp_field (k := k) (d := 0) (m := 1) (r := [ci x1[k].1]) rKey_len hk (by omega) rfl, ?_⟩
        conv => whnf
        generalize hb1 : (q.2[i].1 != x1[k].1) = b1
        cases b1 with
        | true =>
          conv => whnf
          refine hnext ?_
          rw [violP, decide_eq_false (p := q.2[i].1 = x1[k].1) (by simpa using hb1), Bool.false_and]
        | false =>
        conv => whnf
        refine ⟨by omega, rows_len rKey_len _, ?_⟩
        conv => whnf
        refine ⟨_, takeN_rp_field (k := k) (d := 0) (m := 1) (r := [ci x1[k].1]) rKey_len hk (by omega) rfl, ?_⟩
        conv => whnf
        generalize hb2 : (q.2[j].1 != x1[k].1) = b2
        cases b2 with
        | true =>
          conv => whnf
          refine hnext ?_
          rw [violP, decide_eq_false (p := q.2[j].1 = x1[k].1) (by simpa using hb2), Bool.false_and, Bool.and_false]
        | false =>
        have hr1 : q.2[i].1 = x1[k].1 := by simpa using hb1
        have hr2 : q.2[j].1 = x1[k].1 := by simpa using hb2
        have hlen : q.2[i].2.length = q.2[j].2.length := hok.1 _ (List.getElem_mem hi) _ (List.getElem_mem hj) (hr1.trans hr2.symm)
        conv => whnf
        rw [show ((q.2[i].2.length : Int) != (q.2[j].2.length : Int)) = false from by rw [hlen]; simp]
        conv => whnf
        refine ⟨by omega, rows_len rKey_len _, ?_⟩
        conv => whnf
        refine ⟨_, takeN_rp_field (k := k) (d := 1) (m := 1) (r := [ints x1[k].2]) rKey_len hk (by omega) rfl, ?_⟩
        conv => whnf
        refine ⟨_, l12Agree_spec q.2[i].2 q.2[j].2 x1[k].2 (by omega) (by omega) (by omega), .inl rfl, .inl ?_⟩
        conv => whnf
        generalize hb3 : agreeI q.2[i].2 x1[k].2 q.2[j].2 x1[k].2 = b3
        cases b3 with
        | false =>
          conv => whnf
          refine hnext ?_
          rw [violP, hb3, Bool.false_and, Bool.and_false, Bool.and_false]
        | true =>
        have hvv : violP x1[k] q.2[i] q.2[j] = !decide (q.2[i].2 = q.2[j].2) := by
          rw [violP, hb3, decide_eq_true hr1, decide_eq_true hr2]
          rfl
        conv => whnf
        refine ⟨[(1,0),(2,0),(4,0),(5,0),(6,0),(7,0),(8,0),(9,0),(10,0),(11,0),(12,0)], fun m s => ∃ (r : Nat) (e : Int), e = r ∧ m + r = q.2[i].2.length ∧ (∀ t, t < r → q.2[i].2.getD t 0 = q.2[j].2.getD t 0) ∧
          s = ⟨106, [(1, vKeyS x1), (2, .ptr 0 0), (4, ci 0), (5, ci 0), (6, ci 0), (7, ci k), (8, ci i), (9, ci j), (10, .ptr 1 0), (11, .ptr 2 0), (12, ci e)], [some ⟨true, rQuery q⟩, some ⟨true, rAtom q.2[i]⟩, some ⟨true, rAtom q.2[j]⟩]⟩, q.2[i].2.length, ⟨0, 0, rfl, rfl, fun t ht => absurd ht (Nat.not_lt_zero _), rfl⟩, ?_⟩
        rintro m3 s ⟨r, _, rfl, hm3, heq, rfl⟩
        conv => whnf
        split <;> rename_i h6
        all_goals simp only [decide_eq_true_eq, decide_eq_false_iff_not] at h6
        · conv => whnf
          have hr : r < q.2[i].2.length := by omega
          refine ⟨List.range 11, by kernel_rfl, ?_⟩
          conv => whnf
          refine ⟨by omega, rows_len ciL_len _, ?_⟩
          conv => whnf
          refine ⟨_, takeN_rp (k := r) ciL_len hr, ?_⟩
          conv => whnf
          refine ⟨by omega, rows_len ciL_len _, ?_⟩
          conv => whnf
          refine ⟨_, takeN_rp (k := r) ciL_len (by omega), ?_⟩
          conv => whnf
          generalize hb4 : (q.2[i].2[r] != q.2[j].2[r]) = b4
          cases b4 with
          | true =>
            conv => whnf
            have hd : q.2[i].2[r] ≠ q.2[j].2[r] := by simpa using hb4
            have hne : q.2[i].2 ≠ q.2[j].2 := fun h => hd (List.getElem_of_eq h hr)
            obtain ⟨f1, f2, f3⟩ := fdiff_ok hlen hne
            have hp : fdiff q.2[i].2 q.2[j].2 = r := by
              rcases Nat.lt_trichotomy (fdiff q.2[i].2 q.2[j].2) r with h | h | h
              · exact absurd (heq _ h) f2
              · exact h
              · have := f3 r h
                rw [getD_int hr, getD_int (by omega)] at this
                exact absurd this hd
            rw [hall, hvv, decide_eq_false hne]
            show _ = v3 (pairO q (some (k, i, j)))
            rw [pairO, getF_at hi, getF_at hj, hp]
            rfl
          | false =>
            conv => whnf
            refine ⟨m3 - 1, by omega, r + 1, _, wrap_id (by omega) (by omega), by omega, fun t ht => ?_, rfl⟩
            rcases Nat.lt_or_ge t r with h | h
            · exact heq t h
            · obtain rfl : t = r := by omega
              rw [getD_int hr, getD_int (by omega)]
              simpa using hb4
        · conv => whnf
          refine hnext ?_
          rw [hvv, decide_eq_true]
          · rfl
          · apply List.ext_getElem hlen
            intro t h7 h8
            have := heq t (by omega)
            rwa [getD_int h7, getD_int h8] at this
      · conv => whnf
        rw [ran_end (k := j) (by omega), tripJ, Option.none_or] at hall
        exact ⟨m1 - 1, by omega, i + 1, _, wrap_id (by omega) (by omega), by omega, hall, rfl⟩
    · conv => whnf
      rw [ran_end (k := i) (by omega), tripI, Option.none_or] at hall
      exact ⟨m - 1, by omega, k + 1, _, wrap_id (by omega) (by omega), by omega, hall, rfl⟩
  · conv => whnf
    rw [hall, ran_end (by omega)]
    rfl
set_option maxHeartbeats 8000000 in
theorem l13Chase_spec (q : QueryT) (ks : List FactK) (hq : cQuery q ≤ 1048576) (hk : cKeyS ks ≤ 1048576) (hok : okA q.2) : Spec Tryz.prog 34 [vQuery q, vKeyS ks] (wCh (chZ ks q)) := by
  refine Spec_of mx Γ_ok Tryz.func34 rfl ?_
  conv => whnf
  refine ⟨_, l4Copy_spec q hq, .inl rfl, .inl ?_⟩
  rw [wQuery_ro]
  conv => whnf
  refine ⟨[(1,0),(4,0),(5,0),(6,0)], fun m s => ∃ (x : QueryT), m = mu x ∧ okA x.2 ∧ cQuery x ≤ 1048576 ∧ chZ ks x = chZ ks q ∧
    s = ⟨52, [(1, vKeyS ks), (4, .ptr 0 0), (5, cb false), (6, .ptr 1 0)], [some ⟨true, [cnil, cnil]⟩, some ⟨true, rQuery x⟩]⟩, mu q, ⟨q, rfl, hok, hq, rfl, rfl⟩, ?_⟩
  rintro m s ⟨x, rfl, hokx, hx, hc, rfl⟩
  have hx' := hx
  unfold cQuery cAtomS at hx'
  conv => whnf
  refine ⟨_, l13Pair_spec x ks hx hk hokx, .inl rfl, .inl ?_⟩
  generalize hv : viol x ks = o
  cases o with
  | none =>
    conv => whnf
    refine ⟨_, specDedupeAtoms_spec x hx, .inl rfl, .inr ?_⟩
    conv => whnf
    rw [← hc, chZ_end hv]
    exact ⟨by rw [rows_len ciL_len], by rw [rows_len tAtom_len], rfl⟩
  | some r =>
    obtain ⟨k, i, j⟩ := r
    obtain ⟨_, hij, hj, _, _⟩ := viol_some hv
    obtain ⟨g1, g2, g3, g4, g5, g6, g7⟩ := viol_terms hokx hv
    have hi : i < x.2.length := by omega
    have hbi := sumB_one (f := cAtom) hi
    have hci : cAtom x.2[i] = x.2[i].2.length := rfl
    have hta : tA x i j = (getF x.2 i).2.getD (fdiff (getF x.2 i).2 (getF x.2 j).2) 0 := rfl
    have htb : tB x i j = (getF x.2 j).2.getD (fdiff (getF x.2 i).2 (getF x.2 j).2) 0 := rfl
    rw [pairO]
    rw [getF_at hi, getF_at hj] at g1 g2 hta htb ⊢
    generalize fdiff x.2[i].2 x.2[j].2 = p at g2 hta htb
    rw [getD_int g2] at hta
    rw [getD_int (by omega)] at htb
    rw [v3_mk]
    conv => whnf
    rw [decide_eq_false (show ¬ ((i : Int) < 0) from by omega)]
    conv => whnf
    refine ⟨List.range 23 ++ [1000, 23, 1000, 24, 25], by kernel_rfl, ?_⟩
    conv => whnf
    refine ⟨by omega, rows_len rAtom_len _, ?_⟩
    conv => whnf
    refine ⟨_, takeN_rp_field (k := i) (d := 1) (m := 1) (r := [ints x.2[i].2]) rAtom_len hi (by omega) rfl, ?_⟩
    conv => whnf
    refine ⟨by omega, rows_len ciL_len _, ?_⟩
    conv => whnf
    refine ⟨_, takeN_rp (k := p) ciL_len (by omega), ?_⟩
    conv => whnf
    refine ⟨by omega, rows_len rAtom_len _, ?_⟩
    conv => whnf
    refine ⟨_, takeN_rp_field (k := j) (d := 1) (m := 1) (r := [ints x.2[j].2]) rAtom_len hj (by omega) rfl, ?_⟩
    conv => whnf
    refine ⟨by omega, rows_len ciL_len _, ?_⟩
    conv => whnf
    refine ⟨_, takeN_rp (k := p) ciL_len (by omega), ?_⟩
    conv => whnf
    rw [← hta, ← htb]
    refine ⟨_, l13Equate_spec x (tA x i j) (tB x i j) hx g3 g6 g7, .inl rfl, .inl ?_⟩
    generalize he : eqP x (tA x i j) (tB x i j) = o
    cases o with
    | none =>
      simp only [wEqS, roV, roVs, vQuery_ro', wQuery_ro, ci_ro]
      conv => whnf
      rw [← hc, chZ_fail hv he]
      exact .inr ⟨1, .inr ⟨2, rfl⟩⟩
    | some y =>
      simp only [wEqS, roV, roVs, wQuery_ro, ci_ro]
      conv => whnf
      obtain ⟨m1, m2⟩ := mu_eqP g3 g4 g5 he
      exact ⟨mu y, m1, y, rfl, okA_eqP hokx g6 g7 he, by omega, by rw [← chZ_step hokx hv he, hc], rfl⟩
end Go.Proofs.YthfjngmbdbocbaaGreatD
