/- FirstViolation and HoldsKey, twice. -/
import Derived.Test.YthfjngmbdbocbaaGreatFAgree2
set_option linter.unusedVariables false
set_option linter.unusedSimpArgs false
set_option maxRecDepth 100000
namespace Go.Proofs.YthfjngmbdbocbaaGreatD
open Go Go.Proofs

abbrev FactK := Int × List Int
def violP (key f g : FactK) : Bool := decide (f.1 = key.1) && (decide (g.1 = key.1) && (agreeI f.2 key.2 g.2 key.2 && !decide (f.2 = g.2)))
def getF (x0 : List FactK) (k : Nat) : FactK := x0.getD k (0, [])
def tripJ (x0 x1 : List FactK) (k i : Nat) : List Nat → Option (Nat × Nat × Nat)
  | [] => none
  | j :: js => if violP (getF x1 k) (getF x0 i) (getF x0 j) then some (k, i, j) else tripJ x0 x1 k i js
def tripI (x0 x1 : List FactK) (k : Nat) : List Nat → Option (Nat × Nat × Nat)
  | [] => none
  | i :: is => (tripJ x0 x1 k i (ran (i + 1) x0.length)).or (tripI x0 x1 k is)
def tripK (x0 x1 : List FactK) : List Nat → Option (Nat × Nat × Nat)
  | [] => none
  | k :: ks => (tripI x0 x1 k (ran 0 x0.length)).or (tripK x0 x1 ks)
def out3 : Option (Nat × Nat × Nat) → Int × Int × Int
  | none => (-1, -1, -1)
  | some (k, i, j) => (k, i, j)
def pFirstViolation (x0 x1 : List FactK) : Int × Int × Int := out3 (tripK x0 x1 (ran 0 x1.length))
def v3 (x : Int × Int × Int) : V := .tup [ci x.1, ci x.2.1, ci x.2.2]
theorem getF_at {x0 : List FactK} {k : Nat} (hk : k < x0.length) : getF x0 k = x0[k] := by simp [getF, List.getD_eq_getElem?_getD, hk]

end Go.Proofs.YthfjngmbdbocbaaGreatD

/- FirstViolation and HoldsKey: the second program. -/
set_option linter.unusedVariables false
set_option linter.unusedSimpArgs false
set_option maxRecDepth 100000
namespace Go.Proofs.YthfjngmbdbocbaaGreatD
open Go Go.Proofs

theorem equalFactK_spec (f g : FactK) (hf : f.2.length ≤ 1099511627776) (hg : g.2.length ≤ 1099511627776) : Spec Tryz.prog 108 [vFact f, vFact g] (cb (decide (f.1 = g.1) && decide (f.2 = g.2))) := by
  refine Spec_of mx Γ_ok Tryz.func108 rfl ?_
  conv => whnf
  generalize hb1 : (f.1 == g.1) = b1
  cases b1 with
  | false =>
    conv => whnf
    rw [decide_eq_false (p := f.1 = g.1) (by simpa using hb1)]
    rfl
  | true =>
    conv => whnf
    refine ⟨_, slicesEq_spec f.2 g.2 hf hg, .inl rfl, .inl ?_⟩
    conv => whnf
    rw [decide_eq_true (p := f.1 = g.1) (by simpa using hb1)]
    rfl
set_option maxHeartbeats 4000000 in
theorem implFirstViolation_gen (x0 x1 : List FactK) (h0 : cFactS x0 ≤ 1048576) (h1 : cKeyS x1 ≤ 1048577) : Spec Tryz.prog 79 [vFactS x0, vKeyS x1] (v3 (pFirstViolation x0 x1)) := by
  unfold cFactS at h0
  unfold cKeyS at h1
  refine Spec_of mx Γ_ok Tryz.func79 rfl ?_
  conv => whnf
  refine ⟨[(0,0),(4,0),(5,0),(6,0),(13,0),(14,0),(15,0)], fun m s => ∃ (k : Nat) (e : Int), e = k ∧ m + k = x1.length ∧ pFirstViolation x0 x1 = out3 (tripK x0 x1 (ran k x1.length)) ∧
    s = ⟨73, [(0, vFactS x0), (4, ci 0), (5, ci 0), (6, ci 0), (13, vKeyS x1), (14, ci x1.length), (15, ci e)], []⟩, x1.length, ⟨0, 0, rfl, rfl, rfl, rfl⟩, ?_⟩
  rintro m s ⟨k, _, rfl, hm, hall, rfl⟩
  conv => whnf
  split <;> rename_i h3
  all_goals simp only [decide_eq_true_eq, decide_eq_false_iff_not] at h3
  · conv => whnf
    have hk : k < x1.length := by omega
    have hb := sumB_one (f := cKey) hk
    have hck : cKey x1[k] = x1[k].2.length := rfl
    rw [ran_at hk, tripK] at hall
    refine ⟨by omega, rows_len rKey_len _, ?_⟩
    conv => whnf
    refine ⟨_, takeN_rp (k := k) rKey_len hk, ?_⟩
    conv => whnf
    refine ⟨[(0,0),(4,0),(5,0),(6,0),(7,0),(8,0),(13,0),(14,0),(15,0),(20,0),(21,0),(22,0)], fun m s => ∃ (i : Nat) (e : Int), e = i ∧ m + i = x0.length ∧ pFirstViolation x0 x1 = out3 ((tripI x0 x1 k (ran i x0.length)).or (tripK x0 x1 (ran (k + 1) x1.length))) ∧
      s = ⟨73, [(0, vFactS x0), (4, ci 0), (5, ci 0), (6, ci 0), (7, ci k), (8, .ptr 0 0), (13, vKeyS x1), (14, ci x1.length), (15, ci k), (20, vFactS x0), (21, ci x0.length), (22, ci e)], [some ⟨true, rKey x1[k]⟩]⟩, x0.length, ⟨0, 0, rfl, rfl, hall, rfl⟩, ?_⟩
    clear hall
    rintro m1 s ⟨i, _, rfl, hm1, hall, rfl⟩
    conv => whnf
    split <;> rename_i h4
    all_goals simp only [decide_eq_true_eq, decide_eq_false_iff_not] at h4
    · conv => whnf
      have hi : i < x0.length := by omega
      have hbi := sumB_one (f := cFact) hi
      have hci : cFact x0[i] = x0[i].2.length := rfl
      rw [ran_at hi, tripI] at hall
      refine ⟨by omega, rows_len rFact_len _, ?_⟩
      conv => whnf
      refine ⟨_, takeN_rp (k := i) rFact_len hi, ?_⟩
      conv => whnf
      refine ⟨[(0,0),(4,0),(5,0),(6,0),(7,0),(8,0),(9,0),(10,0),(11,0),(13,0),(14,0),(15,0),(20,0),(21,0),(22,0)], fun m s => ∃ (j : Nat) (e : Int), e = j ∧ i + 1 ≤ j ∧ m + j = x0.length ∧ pFirstViolation x0 x1 = out3 (((tripJ x0 x1 k i (ran j x0.length)).or (tripI x0 x1 k (ran (i + 1) x0.length))).or (tripK x0 x1 (ran (k + 1) x1.length))) ∧
        s = ⟨73, [(0, vFactS x0), (4, ci 0), (5, ci 0), (6, ci 0), (7, ci k), (8, .ptr 0 0), (9, ci i), (10, .ptr 1 0), (11, ci e), (13, vKeyS x1), (14, ci x1.length), (15, ci k), (20, vFactS x0), (21, ci x0.length), (22, ci i)], [some ⟨true, rKey x1[k]⟩, some ⟨true, rFact x0[i]⟩]⟩, x0.length - (i + 1), ⟨i + 1, _, wrap_id (by omega) (by omega), by omega, by omega, hall, rfl⟩, ?_⟩
      clear hall
      rintro m2 s ⟨j, _, rfl, hji, hm2, hall, rfl⟩
      conv => whnf
      split <;> rename_i h5
      all_goals simp only [decide_eq_true_eq, decide_eq_false_iff_not] at h5
      · conv => whnf
        have hj : j < x0.length := by omega
        have hbj := sumB_one (f := cFact) hj
        have hcj : cFact x0[j] = x0[j].2.length := rfl
        rw [ran_at hj, tripJ, getF_at hj, getF_at hi, getF_at hk] at hall
        have hno : violP x1[k] x0[i] x0[j] = false → pFirstViolation x0 x1 = out3 (((tripJ x0 x1 k i (ran (j + 1) x0.length)).or (tripI x0 x1 k (ran (i + 1) x0.length))).or (tripK x0 x1 (ran (k + 1) x1.length))) := fun h => by
          rw [hall, h]
          rfl
        refine ⟨by omega, rows_len rFact_len _, ?_⟩
        conv => whnf
        refine ⟨_, takeN_rp (k := j) rFact_len hj, ?_⟩
        conv => whnf
        generalize hb1 : (x0[i].1 == x1[k].1) = b1
        cases b1 with
        | false =>
          conv => whnf
          refine ⟨m2 - 1, by omega, j + 1, _, wrap_id (by omega) (by omega), by omega, by omega, hno ?_, rfl⟩
          rw [violP, decide_eq_false (p := x0[i].1 = x1[k].1) (by simpa using hb1), Bool.false_and]
        | true =>
        conv => whnf
        generalize hb2 : (x0[j].1 == x1[k].1) = b2
        cases b2 with
        | false =>
          conv => whnf
          refine ⟨m2 - 1, by omega, j + 1, _, wrap_id (by omega) (by omega), by omega, by omega, hno ?_, rfl⟩
          rw [violP, decide_eq_false (p := x0[j].1 = x1[k].1) (by simpa using hb2), Bool.false_and, Bool.and_false]
        | true =>
        conv => whnf
        refine ⟨_, agree_spec x0[i].2 x1[k].2 x0[j].2 x1[k].2 (by omega) (by omega) (by omega) (by omega), .inl rfl, .inl ?_⟩
        conv => whnf
        generalize hb3 : agreeI x0[i].2 x1[k].2 x0[j].2 x1[k].2 = b3
        cases b3 with
        | false =>
          conv => whnf
          refine ⟨m2 - 1, by omega, j + 1, _, wrap_id (by omega) (by omega), by omega, by omega, hno ?_, rfl⟩
          rw [violP, hb3, Bool.false_and, Bool.and_false, Bool.and_false]
        | true =>
        conv => whnf
        refine ⟨_, equalFactK_spec x0[i] x0[j] (by omega) (by omega), .inl rfl, .inl ?_⟩
        conv => whnf
        have e1 : x0[i].1 = x1[k].1 := by simpa using hb1
        have e2 : x0[j].1 = x1[k].1 := by simpa using hb2
        have hv : violP x1[k] x0[i] x0[j] = !(decide (x0[i].1 = x0[j].1) && decide (x0[i].2 = x0[j].2)) := by
          rw [violP, hb3, decide_eq_true e1, decide_eq_true e2, decide_eq_true (e1.trans e2.symm)]
          rfl
        generalize hb4 : (!(decide (x0[i].1 = x0[j].1) && decide (x0[i].2 = x0[j].2))) = b4
        rw [hb4] at hv
        cases b4 with
        | false =>
          conv => whnf
          exact ⟨m2 - 1, by omega, j + 1, _, wrap_id (by omega) (by omega), by omega, by omega, hno hv, rfl⟩
        | true =>
          conv => whnf
          rw [hall, hv]
          rfl
      · conv => whnf
        rw [ran_end (k := j) (by omega), tripJ, Option.none_or] at hall
        exact ⟨m1 - 1, by omega, i + 1, _, wrap_id (by omega) (by omega), by omega, hall, rfl⟩
    · conv => whnf
      rw [ran_end (k := i) (by omega), tripI, Option.none_or] at hall
      exact ⟨m - 1, by omega, k + 1, _, wrap_id (by omega) (by omega), by omega, hall, rfl⟩
  · conv => whnf
    rw [hall, ran_end (by omega)]
    rfl
theorem implFirstViolation_spec (x0 x1 : List FactK) (h0 : cFactS x0 ≤ 1048576) (h1 : cKeyS x1 ≤ 1048576) (q0 : qFactS x0) (q1 : qKeyS x1) : Spec Tryz.prog 79 [vFactS x0, vKeyS x1] (v3 (pFirstViolation x0 x1)) := implFirstViolation_gen x0 x1 h0 (by omega)
end Go.Proofs.YthfjngmbdbocbaaGreatD
