/- Contracts and plain laws of this seat; no condition. -/
import Derived.Test.YtcjdfeafcmfgpaaGreatQ31
import Derived.Test.YtcjdfeafcmfgpaaGreatQ32
import Derived.Test.YtcjdfeafcmfgpaaGreatQ19
import Derived.Test.YtcjdfeafcmfgpaaGreatQ30
import Derived.Test.YtcjdfeafcmfgpaaGreatQ29
set_option linter.unusedVariables false
set_option linter.unusedSimpArgs false
set_option maxRecDepth 100000
namespace Go.Proofs.YtcjdfeafcmfgpaaGreatD
open Go Go.Proofs
theorem snoc_rAtom (xs : List AtomC) (x : AtomC) : rows rAtom xs ++ rAtom x = rows rAtom (xs ++ [x]) := by
 rw [rows_append, rows_one]
theorem asFacts_spec (q : QueryT) (hq : cQuery q ≤ 1048576) : Spec Tryz.prog 123 [vQuery q] (.tr 2 q.2.length (rows rAtom q.2)) := by
 have hq' := hq
 unfold cQuery cAtomS at hq'
 refine Spec_of mx Γ_ok Tryz.func123 rfl ?_
 conv => whnf
 refine ⟨[(1,0),(2,0),(3,0),(8,0),(9,0),(10,0)], fun m s => ∃ (k n : Nat) (e : Int) (r : List V), e = k ∧ m + k = q.2.length ∧ n = k ∧ r = rows rAtom (q.2.take k) ∧
  s = ⟨24, [(1, .ptr 0 0), (2, cnil), (3, .own 1 2 0 n n none), (8, vAtomS q.2), (9, ci q.2.length), (10, ci e)], [some ⟨true, rQuery q⟩, some ⟨false, r⟩]⟩, q.2.length, ⟨0, 0, 0, _, rfl, rfl, rfl, rfl, rfl⟩, ?_⟩
 rintro m s ⟨k, n, _, _, rfl, hm, rfl, rfl, rfl⟩
 conv => whnf
 split <;> rename_i h3
 all_goals simp only [decide_eq_true_eq, decide_eq_false_iff_not] at h3
 ·conv => whnf
  have hk : n < q.2.length := by omega
  refine ⟨by omega, rows_len rAtom_len _, ?_⟩
  conv => whnf
  refine ⟨_, takeN_rp (k := n) rAtom_len hk, ?_⟩
  conv => whnf
  refine ⟨_, rfl, .inl ⟨fun c hc => ?_, ?_⟩⟩
  ·have hc : c ∈ rAtom q.2[n] := hc
   simp only [rAtom, List.mem_cons, List.not_mem_nil, or_false] at hc
   rcases hc with rfl | rfl <;> rfl
  conv => whnf
  refine ⟨by omega, by rw [rows_len rAtom_len, List.length_take]; congr 1; omega, _, snoc_rAtom _ q.2[n], ?_⟩
  conv => whnf
  refine ⟨m - 1, by omega, n + 1, _, _, _, wrap_id (by omega) (by omega), by omega, rfl, ?_, rfl⟩
  rw [List.take_succ_eq_append_getElem hk]
 ·conv => whnf
  have hkk : n = q.2.length := by omega
  subst hkk
  rw [List.take_length]
  exact ⟨by rw [rows_len rAtom_len], rfl⟩
theorem getF_eq {q : QueryT} {i : Nat} (hi : i < q.2.length) : getF q.2 i = q.2[i] := getF_at hi
set_option maxHeartbeats 8000000 in
theorem chase_spec (q : QueryT) (ks : List FactK) (hq : cQuery q ≤ 1048576) (hk : cKeyS ks ≤ 1048576) (hok : okA q.2) : Spec Tryz.prog 121 [vQuery q, vKeyS ks] (wCh (chZ ks q)) := by
 refine Spec_of mx Γ_ok Tryz.func121 rfl ?_
 conv => whnf
 refine ⟨_, copyQuery_spec q (by omega), .inl rfl, .inl ?_⟩
 rw [wQuery_ro]
 conv => whnf
 refine ⟨[(1,0),(2,0),(4,0),(5,0)], fun m s => ∃ (x : QueryT), m = mu x ∧ okA x.2 ∧ cQuery x ≤ 1048576 ∧ chZ ks x = chZ ks q ∧
  s = ⟨68, [(1, vKeyS ks), (2, .ptr 0 0), (4, .ptr 1 0), (5, cb false)], [some ⟨true, rQuery x⟩, some ⟨true, [cnil, cnil]⟩]⟩, mu q, ⟨q, rfl, hok, hq, rfl, rfl⟩, ?_⟩
 rintro m s ⟨x, rfl, hokx, hx, hc, rfl⟩
 have hx' := hx
 unfold cQuery cAtomS at hx'
 conv => whnf
 refine ⟨_, asFacts_spec x hx, .inl rfl, .inl ?_⟩
 rw [show roV (.tr 2 x.2.length (rows rAtom x.2)) = vAtomS x.2 from congrArg (V.ro x.2.length) (roVs_rows rAtom_ro x.2)]
 conv => whnf
 have hf := implFirstViolation_gen x.2 ks (by unfold cFactS; show x.2.length + sumB cAtom x.2 ≤ _; omega) (by omega)
 refine ⟨_, hf, .inl rfl, .inl ?_⟩
 rw [show pFirstViolation x.2 ks = out3 (viol x ks) from rfl]
 generalize hv : viol x ks = o
 cases o with
 | none =>
  conv => whnf
  refine ⟨_, implDedupeAtoms_spec x hx, .inl rfl, .inr ?_⟩
  conv => whnf
  rw [← hc, chZ_end hv]
  exact ⟨by rw [rows_len ciL_len], by rw [rows_len tAtom_len], rfl⟩
 | some r =>
  obtain ⟨k, i, j⟩ := r
  obtain ⟨_, hij, hj, _, _⟩ := viol_some hv
  obtain ⟨g1, g2, g3, g4, g5, g6, g7⟩ := viol_terms hokx hv
  have hi : i < x.2.length := by omega
  have hbi := sumB_one (f := cAtom) hi
  have hci : cAtom x.2[i] = x.2[i].2.length := rfl
  have hne := (viol_some hv).2.2.2.2
  have hfd := fdiff_ok g1 hne
  have hta : tA x i j = (getF x.2 i).2.getD (fdiff (getF x.2 i).2 (getF x.2 j).2) 0 := rfl
  have htb : tB x i j = (getF x.2 j).2.getD (fdiff (getF x.2 i).2 (getF x.2 j).2) 0 := rfl
  rw [getF_eq hi, getF_eq hj] at g1 g2 hfd hta htb
  generalize fdiff x.2[i].2 x.2[j].2 = p at g2 hfd hta htb
  rw [getD_int g2] at hta
  rw [getD_int (by omega)] at htb
  rw [show out3 (some (k, i, j)) = ((k : Int), (i : Int), (j : Int)) from rfl, v3_mk]
  conv => whnf
  rw [decide_eq_false (show ¬ ((k : Int) < 0) from by omega)]
  conv => whnf
  refine ⟨List.range 14, by kernel_rfl, ?_⟩
  conv => whnf
  refine ⟨by omega, rows_len rAtom_len _, ?_⟩
  conv => whnf
  refine ⟨_, takeN_rp_field (k := i) (d := 1) (m := 1) (r := [ints x.2[i].2]) rAtom_len hi (by omega) rfl, ?_⟩
  conv => whnf
  refine ⟨by omega, rows_len rAtom_len _, ?_⟩
  conv => whnf
  refine ⟨_, takeN_rp_field (k := j) (d := 1) (m := 1) (r := [ints x.2[j].2]) rAtom_len hj (by omega) rfl, ?_⟩
  conv => whnf
  refine ⟨[(1,0),(2,0),(4,0),(5,0),(9,0),(10,0),(11,0)], fun m s => ∃ (r : Nat) (e : Int), e = r ∧ m + r = p ∧
   s = ⟨68, [(1, vKeyS ks), (2, .ptr 0 0), (4, .ptr 1 0), (5, cb false), (9, ints x.2[i].2), (10, ints x.2[j].2), (11, ci e)], [some ⟨true, rQuery x⟩, some ⟨true, [cnil, cnil]⟩]⟩, p, ⟨0, 0, rfl, rfl, rfl⟩, ?_⟩
  rintro m s ⟨r, _, rfl, hm, rfl⟩
  conv => whnf
  refine ⟨List.range 9, by kernel_rfl, ?_⟩
  conv => whnf
  refine ⟨by omega, rows_len ciL_len _, ?_⟩
  conv => whnf
  refine ⟨_, takeN_rp (k := r) ciL_len (by omega), ?_⟩
  conv => whnf
  refine ⟨by omega, rows_len ciL_len _, ?_⟩
  conv => whnf
  refine ⟨_, takeN_rp (k := r) ciL_len (by omega), ?_⟩
  conv => whnf
  rcases Nat.lt_or_ge r p with hr | hr
  ·have := hfd.2.2 r hr
   rw [getD_int (by omega), getD_int (by omega)] at this
   rw [this, beq_self_eq_true]
   conv => whnf
   exact ⟨m - 1, by omega, r + 1, _, wrap_id (by omega) (by omega), by omega, rfl⟩
  ·obtain rfl : r = p := by omega
   rw [show (x.2[i].2[r] == x.2[j].2[r]) = false from by rw [← hta, ← htb]; simpa using g3]
   conv => whnf
   refine ⟨[0,1,2,3,4,5,6,7,8,9,10,11,12,1000,13,1000,14,15], by kernel_rfl, ?_⟩
   conv => whnf
   refine ⟨by omega, rows_len ciL_len _, ?_⟩
   conv => whnf
   refine ⟨_, takeN_rp (k := r) ciL_len (by omega), ?_⟩
   conv => whnf
   refine ⟨by omega, rows_len ciL_len _, ?_⟩
   conv => whnf
   refine ⟨_, takeN_rp (k := r) ciL_len (by omega), ?_⟩
   conv => whnf
   rw [← hta, ← htb]
   refine ⟨_, equate_spec x (tA x i j) (tB x i j) hx g3, .inl rfl, .inl ?_⟩
   generalize he : eqP x (tA x i j) (tB x i j) = o
   cases o with
   | none =>
    simp only [wEq, roV, roVs, wQuery_ro, ci_ro]
    conv => whnf
    rw [← hc, chZ_fail hv he]
    exact .inr ⟨1, .inr ⟨2, rfl⟩⟩
   | some y =>
    simp only [wEq, roV, roVs, wQuery_ro, ci_ro]
    conv => whnf
    obtain ⟨m1, m2⟩ := mu_eqP g3 g4 g5 he
    exact ⟨mu y, m1, y, rfl, okA_eqP hokx g6 g7 he, by omega, by rw [← chZ_step hokx hv he, hc], rfl⟩
def pairO (q : QueryT) : Option (Nat × Nat × Nat) → Int × Int × Int
 | none => (-1, -1, -1)
 | some (_, i, j) => (i, j, fdiff (getF q.2 i).2 (getF q.2 j).2)
set_option maxHeartbeats 8000000 in
theorem l13Pair_spec (q : QueryT) (x1 : List FactK) (hq : cQuery q ≤ 1048576) (h1 : cKeyS x1 ≤ 1048576) (hok : okA q.2) : Spec Tryz.prog 231 [vQuery q, vKeyS x1] (v3 (pairO q (viol q x1))) := by
 have hq' := hq
 unfold cQuery cAtomS at hq'
 unfold cKeyS at h1
 generalize hT : pairO q (viol q x1) = T
 refine Spec_of mx Γ_ok Tryz.func231 rfl ?_
 conv => whnf
 refine ⟨[(1,0),(2,0),(4,0),(5,0),(6,0),(7,0)], fun m s => ∃ (k : Nat) (e : Int), e = k ∧ m + k = x1.length ∧ T = pairO q (tripK q.2 x1 (ran k x1.length)) ∧
  s = ⟨106, [(1, vKeyS x1), (2, .ptr 0 0), (4, ci 0), (5, ci 0), (6, ci 0), (7, ci e)], [some ⟨true, rQuery q⟩]⟩, x1.length, ⟨0, 0, rfl, rfl, hT.symm, rfl⟩, ?_⟩
 rintro m s ⟨k, _, rfl, hm, hall, rfl⟩
 conv => whnf
 split <;> rename_i h3
 all_goals simp only [decide_eq_true_eq, decide_eq_false_iff_not] at h3
 ·conv => whnf
  have hk : k < x1.length := by omega
  have hb := sumB_one (f := cKey) hk
  have hck : cKey x1[k] = x1[k].2.length := rfl
  rw [ran_at hk, tripK] at hall
  refine ⟨[(1,0),(2,0),(4,0),(5,0),(6,0),(7,0),(8,0)], fun m s => ∃ (i : Nat) (e : Int), e = i ∧ m + i = q.2.length ∧ T = pairO q ((tripI q.2 x1 k (ran i q.2.length)).or (tripK q.2 x1 (ran (k + 1) x1.length))) ∧
   s = ⟨106, [(1, vKeyS x1), (2, .ptr 0 0), (4, ci 0), (5, ci 0), (6, ci 0), (7, ci k), (8, ci e)], [some ⟨true, rQuery q⟩]⟩, q.2.length, ⟨0, 0, rfl, rfl, hall, rfl⟩, ?_⟩
  clear hall
  rintro m1 s ⟨i, _, rfl, hm1, hall, rfl⟩
  conv => whnf
  split <;> rename_i h4
  all_goals simp only [decide_eq_true_eq, decide_eq_false_iff_not] at h4
  ·conv => whnf
   have hi : i < q.2.length := by omega
   have hbi := sumB_one (f := cAtom) hi
   have hci : cAtom q.2[i] = q.2[i].2.length := rfl
   rw [ran_at hi, tripI] at hall
   refine ⟨[(1,0),(2,0),(4,0),(5,0),(6,0),(7,0),(8,0),(9,0)], fun m s => ∃ (j : Nat) (e : Int), e = j ∧ i + 1 ≤ j ∧ m + j = q.2.length ∧ T = pairO q (((tripJ q.2 x1 k i (ran j q.2.length)).or (tripI q.2 x1 k (ran (i + 1) q.2.length))).or (tripK q.2 x1 (ran (k + 1) x1.length))) ∧
    s = ⟨106, [(1, vKeyS x1), (2, .ptr 0 0), (4, ci 0), (5, ci 0), (6, ci 0), (7, ci k), (8, ci i), (9, ci e)], [some ⟨true, rQuery q⟩]⟩, q.2.length - (i + 1), ⟨i + 1, _, wrap_id (by omega) (by omega), by omega, by omega, hall, rfl⟩, ?_⟩
   clear hall
   rintro m2 s ⟨j, _, rfl, hji, hm2, hall, rfl⟩
   conv => whnf
   split <;> rename_i h5
   all_goals simp only [decide_eq_true_eq, decide_eq_false_iff_not] at h5
   ·conv => whnf
    have hj : j < q.2.length := by omega
    have hbj := sumB_one (f := cAtom) hj
    have hcj : cAtom q.2[j] = q.2[j].2.length := rfl
    rw [ran_at hj, tripJ, getF_at hj, getF_at hi, getF_at hk] at hall
    have hnext : violP x1[k] q.2[i] q.2[j] = false → ∃ m', m' < m2 ∧ ∃ (j' : Nat) (e : Int), e = j' ∧ i + 1 ≤ j' ∧ m' + j' = q.2.length ∧ T = pairO q (((tripJ q.2 x1 k i (ran j' q.2.length)).or (tripI q.2 x1 k (ran (i + 1) q.2.length))).or (tripK q.2 x1 (ran (k + 1) x1.length))) ∧
      (⟨106, [(1, vKeyS x1), (2, .ptr 0 0), (4, ci 0), (5, ci 0), (6, ci 0), (7, ci k), (8, ci i), (9, ci (IntKind.i64.wrap ((j : Int) + 1)))], [some ⟨true, rQuery q⟩]⟩ : St) = ⟨106, [(1, vKeyS x1), (2, .ptr 0 0), (4, ci 0), (5, ci 0), (6, ci 0), (7, ci k), (8, ci i), (9, ci e)], [some ⟨true, rQuery q⟩]⟩ := fun h => by
     refine ⟨m2 - 1, by omega, j + 1, _, wrap_id (by omega) (by omega), by omega, by omega, ?_, rfl⟩
     rw [hall, h]
     rfl
    refine ⟨by omega, rows_len rAtom_len _, ?_⟩
    conv => whnf
    refine ⟨_, takeN_rp (k := i) rAtom_len hi, ?_⟩
    conv => whnf
    refine ⟨by omega, rows_len rAtom_len _, ?_⟩
    conv => whnf
    refine ⟨_, takeN_rp (k := j) rAtom_len hj, ?_⟩
    conv => whnf
    refine ⟨List.range 40, by kernel_rfl, ?_⟩
    conv => whnf
    refine ⟨by omega, rows_len rKey_len _, ?_⟩
    conv => whnf
    refine ⟨_, takeN_rp_field (k := k) (d := 0) (m := 1) (r := [ci x1[k].1]) rKey_len hk (by omega) rfl, ?_⟩
    conv => whnf
    generalize hb1 : (q.2[i].1 != x1[k].1) = b1
    cases b1 with
    | true =>
     conv => whnf
     refine hnext ?_
     rw [violP, decide_eq_false (p := q.2[i].1 = x1[k].1) (by simpa using hb1), Bool.false_and]
    | false =>
    conv => whnf
    refine ⟨by omega, rows_len rKey_len _, ?_⟩
    conv => whnf
    refine ⟨_, takeN_rp_field (k := k) (d := 0) (m := 1) (r := [ci x1[k].1]) rKey_len hk (by omega) rfl, ?_⟩
    conv => whnf
    generalize hb2 : (q.2[j].1 != x1[k].1) = b2
    cases b2 with
    | true =>
     conv => whnf
     refine hnext ?_
     rw [violP, decide_eq_false (p := q.2[j].1 = x1[k].1) (by simpa using hb2), Bool.false_and, Bool.and_false]
    | false =>
    have hr1 : q.2[i].1 = x1[k].1 := by simpa using hb1
    have hr2 : q.2[j].1 = x1[k].1 := by simpa using hb2
    have hlen : q.2[i].2.length = q.2[j].2.length := hok.1 _ (List.getElem_mem hi) _ (List.getElem_mem hj) (hr1.trans hr2.symm)
    conv => whnf
    rw [show ((q.2[i].2.length : Int) != (q.2[j].2.length : Int)) = false from by rw [hlen]; simp]
    conv => whnf
    refine ⟨by omega, rows_len rKey_len _, ?_⟩
    conv => whnf
    refine ⟨_, takeN_rp_field (k := k) (d := 1) (m := 1) (r := [ints x1[k].2]) rKey_len hk (by omega) rfl, ?_⟩
    conv => whnf
    refine ⟨_, l12Agree_spec q.2[i].2 q.2[j].2 x1[k].2 (by omega) (by omega) (by omega), .inl rfl, .inl ?_⟩
    conv => whnf
    generalize hb3 : agreeI q.2[i].2 x1[k].2 q.2[j].2 x1[k].2 = b3
    cases b3 with
    | false =>
     conv => whnf
     refine hnext ?_
     rw [violP, hb3, Bool.false_and, Bool.and_false, Bool.and_false]
    | true =>
    have hvv : violP x1[k] q.2[i] q.2[j] = !decide (q.2[i].2 = q.2[j].2) := by
     rw [violP, hb3, decide_eq_true hr1, decide_eq_true hr2]
     rfl
    conv => whnf
    refine ⟨[(1,0),(2,0),(4,0),(5,0),(6,0),(7,0),(8,0),(9,0),(10,0),(11,0),(12,0)], fun m s => ∃ (r : Nat) (e : Int), e = r ∧ m + r = q.2[i].2.length ∧ (∀ t, t < r → q.2[i].2.getD t 0 = q.2[j].2.getD t 0) ∧
     s = ⟨106, [(1, vKeyS x1), (2, .ptr 0 0), (4, ci 0), (5, ci 0), (6, ci 0), (7, ci k), (8, ci i), (9, ci j), (10, .ptr 1 0), (11, .ptr 2 0), (12, ci e)], [some ⟨true, rQuery q⟩, some ⟨true, rAtom q.2[i]⟩, some ⟨true, rAtom q.2[j]⟩]⟩, q.2[i].2.length, ⟨0, 0, rfl, rfl, fun t ht => absurd ht (Nat.not_lt_zero _), rfl⟩, ?_⟩
    rintro m3 s ⟨r, _, rfl, hm3, heq, rfl⟩
    conv => whnf
    split <;> rename_i h6
    all_goals simp only [decide_eq_true_eq, decide_eq_false_iff_not] at h6
    ·conv => whnf
     have hr : r < q.2[i].2.length := by omega
     refine ⟨List.range 11, by kernel_rfl, ?_⟩
     conv => whnf
     refine ⟨by omega, rows_len ciL_len _, ?_⟩
     conv => whnf
     refine ⟨_, takeN_rp (k := r) ciL_len hr, ?_⟩
     conv => whnf
     refine ⟨by omega, rows_len ciL_len _, ?_⟩
     conv => whnf
     refine ⟨_, takeN_rp (k := r) ciL_len (by omega), ?_⟩
     conv => whnf
     generalize hb4 : (q.2[i].2[r] != q.2[j].2[r]) = b4
     cases b4 with
     | true =>
      conv => whnf
      have hd : q.2[i].2[r] ≠ q.2[j].2[r] := by simpa using hb4
      have hne : q.2[i].2 ≠ q.2[j].2 := fun h => hd (List.getElem_of_eq h hr)
      obtain ⟨f1, f2, f3⟩ := fdiff_ok hlen hne
      have hp : fdiff q.2[i].2 q.2[j].2 = r := by
       rcases Nat.lt_trichotomy (fdiff q.2[i].2 q.2[j].2) r with h | h | h
       ·exact absurd (heq _ h) f2
       ·exact h
       ·have := f3 r h
        rw [getD_int hr, getD_int (by omega)] at this
        exact absurd this hd
      rw [hall, hvv, decide_eq_false hne]
      show _ = v3 (pairO q (some (k, i, j)))
      rw [pairO, getF_at hi, getF_at hj, hp]
      rfl
     | false =>
      conv => whnf
      refine ⟨m3 - 1, by omega, r + 1, _, wrap_id (by omega) (by omega), by omega, fun t ht => ?_, rfl⟩
      rcases Nat.lt_or_ge t r with h | h
      ·exact heq t h
      ·obtain rfl : t = r := by omega
       rw [getD_int hr, getD_int (by omega)]
       simpa using hb4
    ·conv => whnf
     refine hnext ?_
     rw [hvv, decide_eq_true]
     ·rfl
     ·apply List.ext_getElem hlen
      intro t h7 h8
      have := heq t (by omega)
      rwa [getD_int h7, getD_int h8] at this
   ·conv => whnf
    rw [ran_end (k := j) (by omega), tripJ, Option.none_or] at hall
    exact ⟨m1 - 1, by omega, i + 1, _, wrap_id (by omega) (by omega), by omega, hall, rfl⟩
  ·conv => whnf
   rw [ran_end (k := i) (by omega), tripI, Option.none_or] at hall
   exact ⟨m - 1, by omega, k + 1, _, wrap_id (by omega) (by omega), by omega, hall, rfl⟩
 ·conv => whnf
  rw [hall, ran_end (by omega)]
  rfl
set_option maxHeartbeats 8000000 in
theorem l13Chase_spec (q : QueryT) (ks : List FactK) (hq : cQuery q ≤ 1048576) (hk : cKeyS ks ≤ 1048576) (hok : okA q.2) : Spec Tryz.prog 126 [vQuery q, vKeyS ks] (wCh (chZ ks q)) := by
 refine Spec_of mx Γ_ok Tryz.func126 rfl ?_
 conv => whnf
 refine ⟨_, l4Copy_spec q hq, .inl rfl, .inl ?_⟩
 rw [wQuery_ro]
 conv => whnf
 refine ⟨[(1,0),(4,0),(5,0),(6,0)], fun m s => ∃ (x : QueryT), m = mu x ∧ okA x.2 ∧ cQuery x ≤ 1048576 ∧ chZ ks x = chZ ks q ∧
  s = ⟨52, [(1, vKeyS ks), (4, .ptr 0 0), (5, cb false), (6, .ptr 1 0)], [some ⟨true, [cnil, cnil]⟩, some ⟨true, rQuery x⟩]⟩, mu q, ⟨q, rfl, hok, hq, rfl, rfl⟩, ?_⟩
 rintro m s ⟨x, rfl, hokx, hx, hc, rfl⟩
 have hx' := hx
 unfold cQuery cAtomS at hx'
 conv => whnf
 refine ⟨_, l13Pair_spec x ks hx hk hokx, .inl rfl, .inl ?_⟩
 generalize hv : viol x ks = o
 cases o with
 | none =>
  conv => whnf
  refine ⟨_, specDedupeAtoms_spec x hx, .inl rfl, .inr ?_⟩
  conv => whnf
  rw [← hc, chZ_end hv]
  exact ⟨by rw [rows_len ciL_len], by rw [rows_len tAtom_len], rfl⟩
 | some r =>
  obtain ⟨k, i, j⟩ := r
  obtain ⟨_, hij, hj, _, _⟩ := viol_some hv
  obtain ⟨g1, g2, g3, g4, g5, g6, g7⟩ := viol_terms hokx hv
  have hi : i < x.2.length := by omega
  have hbi := sumB_one (f := cAtom) hi
  have hci : cAtom x.2[i] = x.2[i].2.length := rfl
  have hta : tA x i j = (getF x.2 i).2.getD (fdiff (getF x.2 i).2 (getF x.2 j).2) 0 := rfl
  have htb : tB x i j = (getF x.2 j).2.getD (fdiff (getF x.2 i).2 (getF x.2 j).2) 0 := rfl
  rw [pairO]
  rw [getF_at hi, getF_at hj] at g1 g2 hta htb ⊢
  generalize fdiff x.2[i].2 x.2[j].2 = p at g2 hta htb
  rw [getD_int g2] at hta
  rw [getD_int (by omega)] at htb
  rw [v3_mk]
  conv => whnf
  rw [decide_eq_false (show ¬ ((i : Int) < 0) from by omega)]
  conv => whnf
  refine ⟨List.range 23 ++ [1000, 23, 1000, 24, 25], by kernel_rfl, ?_⟩
  conv => whnf
  refine ⟨by omega, rows_len rAtom_len _, ?_⟩
  conv => whnf
  refine ⟨_, takeN_rp_field (k := i) (d := 1) (m := 1) (r := [ints x.2[i].2]) rAtom_len hi (by omega) rfl, ?_⟩
  conv => whnf
  refine ⟨by omega, rows_len ciL_len _, ?_⟩
  conv => whnf
  refine ⟨_, takeN_rp (k := p) ciL_len (by omega), ?_⟩
  conv => whnf
  refine ⟨by omega, rows_len rAtom_len _, ?_⟩
  conv => whnf
  refine ⟨_, takeN_rp_field (k := j) (d := 1) (m := 1) (r := [ints x.2[j].2]) rAtom_len hj (by omega) rfl, ?_⟩
  conv => whnf
  refine ⟨by omega, rows_len ciL_len _, ?_⟩
  conv => whnf
  refine ⟨_, takeN_rp (k := p) ciL_len (by omega), ?_⟩
  conv => whnf
  rw [← hta, ← htb]
  refine ⟨_, l13Equate_spec x (tA x i j) (tB x i j) hx g3 g6 g7, .inl rfl, .inl ?_⟩
  generalize he : eqP x (tA x i j) (tB x i j) = o
  cases o with
  | none =>
   simp only [wEqS, roV, roVs, vQuery_ro', wQuery_ro, ci_ro]
   conv => whnf
   rw [← hc, chZ_fail hv he]
   exact .inr ⟨1, .inr ⟨2, rfl⟩⟩
  | some y =>
   simp only [wEqS, roV, roVs, wQuery_ro, ci_ro]
   conv => whnf
   obtain ⟨m1, m2⟩ := mu_eqP g3 g4 g5 he
   exact ⟨mu y, m1, y, rfl, okA_eqP hokx g6 g7 he, by omega, by rw [← chZ_step hokx hv he, hc], rfl⟩
theorem tripJ_none {x0 x1 : List FactK} {k i : Nat} : ∀ {js : List Nat}, tripJ x0 x1 k i js = none ↔ ∀ j ∈ js, violP (getF x1 k) (getF x0 i) (getF x0 j) = false
 | [] => by simp [tripJ]
 | j :: js => by
  unfold tripJ
  cases h : violP (getF x1 k) (getF x0 i) (getF x0 j) with
  | true => simp [h]
  | false => simp [h, tripJ_none (js := js)]
theorem tripI_none {x0 x1 : List FactK} {k : Nat} : ∀ {is : List Nat}, tripI x0 x1 k is = none ↔ ∀ i ∈ is, ∀ j ∈ ran (i + 1) x0.length, violP (getF x1 k) (getF x0 i) (getF x0 j) = false
 | [] => by simp [tripI]
 | i :: is => by
  unfold tripI
  rw [Option.or_eq_none_iff, tripJ_none, tripI_none (is := is)]
  simp
theorem tripK_none {x0 x1 : List FactK} : ∀ {ks : List Nat}, tripK x0 x1 ks = none ↔ ∀ k ∈ ks, tripI x0 x1 k (ran 0 x0.length) = none
 | [] => by simp [tripK]
 | k :: ks => by
  unfold tripK
  rw [Option.or_eq_none_iff, tripK_none (ks := ks)]
  simp
theorem ran_mem' {k n i : Nat} : i ∈ ran k n ↔ k ≤ i ∧ i < n := by
 unfold ran
 simp only [List.mem_range']
 constructor
 ·rintro ⟨j, h1, h2⟩; omega
 ·rintro ⟨h1, h2⟩; exact ⟨i - k, by omega, by omega⟩
theorem tripJ_is {x0 x1 : List FactK} {k i : Nat} : ∀ {js : List Nat} {r : Nat × Nat × Nat}, tripJ x0 x1 k i js = some r → r.1 = k ∧ r.2.1 = i ∧ r.2.2 ∈ js ∧ violP (getF x1 k) (getF x0 i) (getF x0 r.2.2) = true
 | [], r, h => by cases h
 | j :: js, r, h => by
  unfold tripJ at h
  split at h
  ·rename_i hv
   cases h
   exact ⟨rfl, rfl, by simp, hv⟩
  ·obtain ⟨h1, h2, h3, h4⟩ := tripJ_is h
   exact ⟨h1, h2, by simp [h3], h4⟩
theorem tripI_is {x0 x1 : List FactK} {k : Nat} : ∀ {is : List Nat} {r : Nat × Nat × Nat}, tripI x0 x1 k is = some r → r.1 = k ∧ r.2.1 ∈ is ∧ r.2.2 ∈ ran (r.2.1 + 1) x0.length ∧ violP (getF x1 k) (getF x0 r.2.1) (getF x0 r.2.2) = true
 | [], r, h => by cases h
 | i :: is, r, h => by
  unfold tripI at h
  cases hj : tripJ x0 x1 k i (ran (i + 1) x0.length) with
  | some q =>
   rw [hj] at h
   cases h
   obtain ⟨h1, h2, h3, h4⟩ := tripJ_is hj
   rw [h2]
   exact ⟨h1, by simp, h3, h4⟩
  | none =>
   rw [hj] at h
   obtain ⟨h1, h2, h3, h4⟩ := tripI_is (r := r) (by simpa using h)
   exact ⟨h1, by simp [h2], h3, h4⟩
theorem tripK_is {x0 x1 : List FactK} : ∀ {ks : List Nat} {r : Nat × Nat × Nat}, tripK x0 x1 ks = some r → r.1 ∈ ks ∧ r.2.1 ∈ ran 0 x0.length ∧ r.2.2 ∈ ran (r.2.1 + 1) x0.length ∧ violP (getF x1 r.1) (getF x0 r.2.1) (getF x0 r.2.2) = true
 | [], r, h => by cases h
 | k :: ks, r, h => by
  unfold tripK at h
  cases hi : tripI x0 x1 k (ran 0 x0.length) with
  | some q =>
   rw [hi] at h
   cases h
   obtain ⟨h1, h2, h3, h4⟩ := tripI_is hi
   rw [h1]
   exact ⟨by simp, h2, h3, h4⟩
  | none =>
   rw [hi] at h
   obtain ⟨h1, h2, h3, h4⟩ := tripK_is (r := r) (by simpa using h)
   exact ⟨by simp [h1], h2, h3, h4⟩
def Holds (db : List FactK) (ks : List FactK) : Prop := tripK db ks (ran 0 ks.length) = none
theorem agree_map {f g p : List Int} (k : Int → Int) (h : agreeI f p g p = true) : agreeI (f.map k) p (g.map k) p = true := by
 simp only [agreeI, Bool.and_eq_true, decide_eq_true_eq, List.all_eq_true] at h ⊢
 refine ⟨trivial, fun i hi => ?_⟩
 have h1 := h.2 i hi
 simp only [agreeA, agree1, Bool.and_eq_true, decide_eq_true_eq, inR, List.length_map] at h1 ⊢
 obtain ⟨⟨a1, a2⟩, ⟨b1, b2⟩, c⟩ := h1
 refine ⟨⟨a1, a2⟩, ⟨b1, b2⟩, ?_⟩
 generalize p.getD i 0 = x at *
 obtain ⟨n, rfl⟩ : ∃ n : Nat, x = n := ⟨x.toNat, by omega⟩
 rw [getI_at (show n < f.length by omega), getI_at (show n < g.length by omega)] at c
 rw [getI_at (show n < (f.map k).length by rw [List.length_map]; omega), getI_at (show n < (g.map k).length by rw [List.length_map]; omega)]
 simp [c]
theorem agree_symm {f g p : List Int} (h : agreeI f p g p = true) : agreeI g p f p = true := by
 simp only [agreeI, Bool.and_eq_true, decide_eq_true_eq, List.all_eq_true, agreeA, agree1, inR] at h ⊢
 refine ⟨trivial, fun i hi => ?_⟩
 obtain ⟨a, b, c⟩ := h.2 i hi
 exact ⟨b, a, c.symm⟩
theorem holds_eq {db ks : List FactK} (hk : Holds db ks) {n : Nat} (hn : n < ks.length) {f g : FactK} (hf : f ∈ db) (hg : g ∈ db) (h1 : f.1 = (getF ks n).1) (h2 : g.1 = (getF ks n).1) (h3 : agreeI f.2 (getF ks n).2 g.2 (getF ks n).2 = true) : f.2 = g.2 := by
 have hno := tripI_none.1 (tripK_none.1 hk n (ran_mem'.2 ⟨Nat.zero_le _, hn⟩))
 obtain ⟨i, hi, rfl⟩ := List.getElem_of_mem hf
 obtain ⟨j, hj, rfl⟩ := List.getElem_of_mem hg
 by_cases he : db[i].2 = db[j].2
 ·exact he
 ·exfalso
  rcases Nat.lt_trichotomy i j with h | h | h
  ·have := hno i (ran_mem'.2 ⟨Nat.zero_le _, hi⟩) j (ran_mem'.2 ⟨by omega, hj⟩)
   rw [getF_at hi, getF_at hj] at this
   simp [violP, h1, h2, h3, he] at this
  ·subst h; exact he rfl
  ·have := hno j (ran_mem'.2 ⟨Nat.zero_le _, hj⟩) i (ran_mem'.2 ⟨by omega, hi⟩)
   rw [getF_at hi, getF_at hj] at this
   have he' : ¬ db[j].2 = db[i].2 := fun e => he e.symm
   simp [violP, h1, h2, agree_symm h3, he'] at this
theorem viol_is {q : QueryT} {ks : List FactK} {k i j : Nat} (h : viol q ks = some (k, i, j)) : k < ks.length ∧ (getF q.2 i).1 = (getF ks k).1 ∧ (getF q.2 j).1 = (getF ks k).1 ∧ agreeI (getF q.2 i).2 (getF ks k).2 (getF q.2 j).2 (getF ks k).2 = true := by
 obtain ⟨h1, _, _, h4⟩ := tripK_some h
 simp only at h1 h4
 rw [ran_mem] at h1
 simp only [violP, Bool.and_eq_true, decide_eq_true_eq] at h4
 exact ⟨h1.2, h4.1, h4.2.1, h4.2.2.1⟩
theorem viol_dedup {q : QueryT} {ks : List FactK} (h : viol q ks = none) : viol (pDedupeAtoms q) ks = none := by
 refine tripK_none.2 fun k hk => tripI_none.2 fun i hi j hj => ?_
 have hk' := (ran_mem'.1 hk).2
 have hi' := (ran_mem'.1 hi).2
 have hj' := (ran_mem'.1 hj).2
 rw [getF_at hi', getF_at hj']
 have hc := (mem_dedup _ q.2).1 (List.getElem_mem hi')
 have hd := (mem_dedup _ q.2).1 (List.getElem_mem hj')
 generalize (pDedupeAtoms q).2[i] = c at hc ⊢
 generalize (pDedupeAtoms q).2[j] = d at hd ⊢
 cases hvp : violP (getF ks k) c d with
 | false => rfl
 | true =>
  exfalso
  simp only [violP, Bool.and_eq_true, decide_eq_true_eq, Bool.not_eq_true', decide_eq_false_iff_not] at hvp
  obtain ⟨v1, v2, v3, v4⟩ := hvp
  exact v4 (holds_eq (db := q.2) h hk' hc hd v1 v2 v3)
theorem okT_at {q : QueryT} (h : okT q) {v : Int} (ho : occurs q v = true) : isTerm v = true := by
 obtain ⟨a, ha, hv⟩ := occurs_mem.1 ho
 exact List.all_eq_true.1 (h.2 a ha) v hv
theorem chz_img {ks : List FactK} : ∀ (n : Nat) {q y : QueryT}, okT q → okA q.2 → 1 ≤ q.2.length → chz ks n q = some y → ∃ h, IsImg h q y ∧ 1 ≤ y.2.length ∧ y.2.length ≤ q.2.length
 | 0, q, y, _, _, _, h => by cases h
 | n + 1, q, y, ht, hok, hl, h => by
  simp only [chz] at h
  cases hv : viol q ks with
  | none =>
   rw [hv] at h
   cases h
   exact ⟨id, img_dedup q, dedup_pos hl, (dedup_bound cAtom q.2).1⟩
  | some r =>
   obtain ⟨k, i, j⟩ := r
   obtain ⟨_, _, g3, g4, g5, g6, g7⟩ := viol_terms hok hv
   rw [hv] at h
   simp only at h
   cases he : eqP q (tA q i j) (tB q i j) with
   | none => rw [he] at h; cases h
   | some z =>
    rw [he] at h
    obtain ⟨f, hf, hfl⟩ := eqP_img (okT_at ht g4) (okT_at ht g5) he
    obtain ⟨g, hg, hg1, hg2⟩ := chz_img n (img_okT hf ht) (okA_eqP hok g6 g7 he) (by omega) h
    exact ⟨_, img_comp hf hg, hg1, by omega⟩
theorem chz_sat {ks : List FactK} {db : List FactC} {v : Int → Int} (hk : Holds db ks) : ∀ (n : Nat) {q : QueryT}, okT q → okA q.2 → mu q < n → Sat v db q.2 → ∃ y, chz ks n q = some y ∧ Sat v db y.2 ∧ y.1.map (val v) = q.1.map (val v)
 | 0, q, _, _, hm, _ => absurd hm (Nat.not_lt_zero _)
 | n + 1, q, ht, hok, hm, hs => by
  simp only [chz]
  cases hv : viol q ks with
  | none => exact ⟨_, rfl, sat_dedup.2 hs, rfl⟩
  | some r =>
   obtain ⟨k, i, j⟩ := r
   obtain ⟨g1, g2, g3, g4, g5, g6, g7⟩ := viol_terms hok hv
   obtain ⟨_, hij, hj, _, _⟩ := viol_some hv
   obtain ⟨v1, v2, v3, v4⟩ := viol_is hv
   have mi := getF_mem (q := q) (i := i) (by omega)
   have mj := getF_mem (q := q) (i := j) hj
   have hfg : (getF q.2 i).2.map (val v) = (getF q.2 j).2.map (val v) := holds_eq hk v1 (hs _ mi) (hs _ mj) v2 v3 (agree_map (val v) v4)
   have hval : val v (tA q i j) = val v (tB q i j) := by
    unfold tA tB
    generalize fdiff (getF q.2 i).2 (getF q.2 j).2 = d at g2 ⊢
    have h1 : ((getF q.2 i).2.map (val v))[d]? = ((getF q.2 j).2.map (val v))[d]? := by rw [hfg]
    have hd2 : d < (getF q.2 j).2.length := by omega
    rw [List.getElem?_map, List.getElem?_map, List.getElem?_eq_getElem g2, List.getElem?_eq_getElem hd2] at h1
    rw [getD_at' g2, getD_at' hd2]
    simpa using h1
   obtain ⟨z, hz, hzs, hzh⟩ := eqP_sat (okT_at ht g4) (okT_at ht g5) hval hs
   simp only
   rw [hz]
   simp only
   obtain ⟨f, hf, _⟩ := eqP_img (okT_at ht g4) (okT_at ht g5) hz
   have hmu := (mu_eqP g3 g4 g5 hz).1
   obtain ⟨y, y1, y2, y3⟩ := chz_sat hk n (img_okT hf ht) (okA_eqP hok g6 g7 hz) (by omega) hzs
   exact ⟨y, y1, y2, y3.trans hzh⟩
end Go.Proofs.YtcjdfeafcmfgpaaGreatD
