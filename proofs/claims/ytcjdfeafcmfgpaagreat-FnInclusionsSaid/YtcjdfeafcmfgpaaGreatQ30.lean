/- Contracts and plain laws of this seat; no condition. -/
import Derived.Test.YtcjdfeafcmfgpaaGreatQ11
import Derived.Test.YtcjdfeafcmfgpaaGreatQ10
set_option linter.unusedVariables false
set_option linter.unusedSimpArgs false
set_option maxRecDepth 100000
namespace Go.Proofs.YtcjdfeafcmfgpaaGreatD
open Go Go.Proofs
def ran (k n : Nat) : List Nat := List.range' k (n - k)
theorem ran_at {k n : Nat} (h : k < n) : ran k n = k :: ran (k + 1) n := by
 unfold ran
 rw [show n - k = (n - (k + 1)) + 1 from by omega, List.range'_succ]
theorem ran_end {k n : Nat} (h : n ≤ k) : ran k n = [] := by
 unfold ran
 rw [show n - k = 0 from by omega]
 rfl
def getI (a : List Int) (x : Int) : Int := a.getD x.toNat 0
def agree1 (a b : List Int) (x y : Int) : Bool := inR x 0 (a.length - 1) && (inR y 0 (b.length - 1) && decide (getI a x = getI b y))
def agreeA (a p b q : List Int) (k : Nat) : Bool := agree1 a b (p.getD k 0) (q.getD k 0)
def agreeI (a p b q : List Int) : Bool := decide (p.length = q.length) && (ran 0 p.length).all (agreeA a p b q)
theorem getD_at' {ps : List Int} {k : Nat} (hk : k < ps.length) : ps.getD k 0 = ps[k] := by simp [List.getD_eq_getElem?_getD, hk]
theorem getI_at {a : List Int} {q : Nat} (hq : q < a.length) : getI a (q : Int) = a[q] := by
 unfold getI
 rw [Int.toNat_natCast]
 exact getD_at' hq
theorem l12Agree_spec (a b p : List Int) (ha : a.length ≤ 1099511627776) (hb : b.length ≤ 1099511627776) (hp : p.length ≤ 1099511627776) : Spec Tryz.prog 235 [ints a, ints b, ints p] (cb (agreeI a p b p)) := by
 refine Spec_of mx Γ_ok Tryz.func235 rfl ?_
 conv => whnf
 refine ⟨[(0,0),(1,0),(2,0),(6,0),(7,0)], fun m s => ∃ (k : Nat) (e : Int), e = k ∧ m + k = p.length ∧ agreeI a p b p = (ran k p.length).all (agreeA a p b p) ∧
  s = ⟨49, [(0, ints a), (1, ints b), (2, ints p), (6, cb false), (7, ci e)], []⟩, p.length, ⟨0, 0, rfl, rfl, by unfold agreeI; rw [decide_eq_true rfl, Bool.true_and], rfl⟩, ?_⟩
 rintro m s ⟨k, _, rfl, hm, hall, rfl⟩
 conv => whnf
 split <;> rename_i h1
 all_goals simp only [decide_eq_true_eq, decide_eq_false_iff_not] at h1
 ·conv => whnf
  have hk : k < p.length := by omega
  rw [ran_at hk, List.all_cons] at hall
  have hA : agreeA a p b p k = agree1 a b p[k] p[k] := by unfold agreeA; rw [getD_at' hk]
  refine ⟨List.range 35, by kernel_rfl, ?_⟩
  conv => whnf
  refine ⟨by omega, rows_len ciL_len p, ?_⟩
  conv => whnf
  refine ⟨_, takeN_rp (k := k) ciL_len hk, ?_⟩
  conv => whnf
  have hw : IntKind.i64.wrap ((a.length : Int) - 1) = a.length - 1 := wrap_id (by omega) (by omega)
  refine ⟨_, l1In_spec _ _ _, .inl rfl, .inl ?_⟩
  rw [hw]
  conv => whnf
  generalize hb4 : (!inR p[k] 0 (a.length - 1)) = b4
  cases b4 with
  | true =>
   conv => whnf
   show cb false = _
   simp only [Bool.not_eq_true'] at hb4
   rw [hall, hA, agree1, hb4, Bool.false_and, Bool.false_and]
  | false =>
  conv => whnf
  simp only [Bool.not_eq_false'] at hb4
  have hr : 0 ≤ p[k] ∧ p[k] ≤ (a.length : Int) - 1 := by simpa [inR] using hb4
  refine ⟨by omega, rows_len ciL_len p, ?_⟩
  conv => whnf
  refine ⟨_, takeN_rp (k := k) ciL_len hk, ?_⟩
  conv => whnf
  generalize hb5 : decide (p[k] ≥ (b.length : Int)) = b5
  cases b5 with
  | true =>
   conv => whnf
   show cb false = _
   have h5 := of_decide_eq_true hb5
   have : inR p[k] 0 (b.length - 1) = false := by unfold inR; rw [Bool.and_eq_false_iff]; right; exact decide_eq_false (by omega)
   rw [hall, hA, agree1, this, Bool.false_and, Bool.and_false, Bool.false_and]
  | false =>
  conv => whnf
  have h5 := of_decide_eq_false hb5
  have hin : inR p[k] 0 (b.length - 1) = true := by unfold inR; rw [Bool.and_eq_true]; exact ⟨decide_eq_true hr.1, decide_eq_true (by omega)⟩
  obtain ⟨q, hq⟩ : ∃ q : Nat, p[k] = q := ⟨p[k].toNat, by omega⟩
  rw [hq] at hr h5
  have hqa : q < a.length := by omega
  have hqb : q < b.length := by omega
  refine ⟨by omega, rows_len ciL_len p, ?_⟩
  conv => whnf
  refine ⟨_, takeN_rp (k := k) ciL_len hk, ?_⟩
  rw [hq]
  conv => whnf
  refine ⟨by omega, rows_len ciL_len a, ?_⟩
  conv => whnf
  refine ⟨_, takeN_rp (k := q) ciL_len hqa, ?_⟩
  conv => whnf
  refine ⟨by omega, rows_len ciL_len p, ?_⟩
  conv => whnf
  refine ⟨_, takeN_rp (k := k) ciL_len hk, ?_⟩
  rw [hq]
  conv => whnf
  refine ⟨by omega, rows_len ciL_len b, ?_⟩
  conv => whnf
  refine ⟨_, takeN_rp (k := q) ciL_len hqb, ?_⟩
  conv => whnf
  have hA2 : agreeA a p b p k = decide (a[q] = b[q]) := by
   rw [hA, agree1, hb4, hin, Bool.true_and, Bool.true_and, hq, getI_at hqa, getI_at hqb]
  split <;> rename_i h2
  ·conv => whnf
   show cb false = _
   rw [hall, hA2, decide_eq_false (by simpa using h2), Bool.false_and]
  ·conv => whnf
   rw [hA2, decide_eq_true (p := a[q] = b[q]) (by simpa using h2), Bool.true_and] at hall
   exact ⟨m - 1, by omega, k + 1, _, wrap_id (by omega) (by omega), by omega, hall, rfl⟩
 ·conv => whnf
  rw [hall, ran_end (by omega)]
  rfl
theorem agree_spec (a p b q : List Int) (ha : a.length ≤ 1099511627776) (hb : b.length ≤ 1099511627776) (hp : p.length ≤ 1099511627776) (hqq : q.length ≤ 1099511627776) : Spec Tryz.prog 140 [ints a, ints p, ints b, ints q] (cb (agreeI a p b q)) := by
 refine Spec_of mx Γ_ok Tryz.func140 rfl ?_
 conv => whnf
 split <;> rename_i h0
 ·conv => whnf
  simp only [bne_iff_ne, ne_eq] at h0
  show cb false = _
  unfold agreeI
  rw [decide_eq_false (by omega), Bool.false_and]
 conv => whnf
 have h0' : p.length = q.length := by
  have h3 : (p.length : Int) = q.length := by simpa using h0
  omega
 refine ⟨[(0,0),(1,0),(2,0),(3,0),(8,0),(16,0),(17,0)], fun m s => ∃ (k : Nat) (e : Int), e = k ∧ m + k = p.length ∧ agreeI a p b q = (ran k p.length).all (agreeA a p b q) ∧
  s = ⟨58, [(0, ints a), (1, ints p), (2, ints b), (3, ints q), (8, cb false), (16, ci p.length), (17, ci e)], []⟩, p.length, ⟨0, 0, rfl, rfl, by unfold agreeI; rw [decide_eq_true h0', Bool.true_and], rfl⟩, ?_⟩
 rintro m s ⟨k, _, rfl, hm, hall, rfl⟩
 conv => whnf
 split <;> rename_i h1
 all_goals simp only [decide_eq_true_eq, decide_eq_false_iff_not] at h1
 ·conv => whnf
  have hk : k < p.length := by omega
  have hkq : k < q.length := by omega
  rw [ran_at hk, List.all_cons] at hall
  have hA : agreeA a p b q k = agree1 a b p[k] q[k] := by unfold agreeA; rw [getD_at' hk, getD_at' hkq]
  have hw : IntKind.i64.wrap ((a.length : Int) - 1) = a.length - 1 := wrap_id (by omega) (by omega)
  have hwb : IntKind.i64.wrap ((b.length : Int) - 1) = b.length - 1 := wrap_id (by omega) (by omega)
  refine ⟨List.range 37, by kernel_rfl, ?_⟩
  conv => whnf
  refine ⟨by omega, rows_len ciL_len p, ?_⟩
  conv => whnf
  refine ⟨_, takeN_rp (k := k) ciL_len hk, ?_⟩
  conv => whnf
  refine ⟨_, within_spec _ _ _, .inl rfl, .inl ?_⟩
  rw [hw]
  conv => whnf
  generalize hb4 : (!inR p[k] 0 (a.length - 1)) = b4
  cases b4 with
  | true =>
   conv => whnf
   show cb false = _
   simp only [Bool.not_eq_true'] at hb4
   rw [hall, hA, agree1, hb4, Bool.false_and, Bool.false_and]
  | false =>
  conv => whnf
  simp only [Bool.not_eq_false'] at hb4
  have hr : 0 ≤ p[k] ∧ p[k] ≤ (a.length : Int) - 1 := by simpa [inR] using hb4
  refine ⟨by omega, rows_len ciL_len q, ?_⟩
  conv => whnf
  refine ⟨_, takeN_rp (k := k) ciL_len hkq, ?_⟩
  conv => whnf
  refine ⟨_, within_spec _ _ _, .inl rfl, .inl ?_⟩
  rw [hwb]
  conv => whnf
  generalize hb5 : (!inR q[k] 0 (b.length - 1)) = b5
  cases b5 with
  | true =>
   conv => whnf
   show cb false = _
   simp only [Bool.not_eq_true'] at hb5
   rw [hall, hA, agree1, hb5, Bool.false_and, Bool.and_false, Bool.false_and]
  | false =>
  conv => whnf
  simp only [Bool.not_eq_false'] at hb5
  have hs : 0 ≤ q[k] ∧ q[k] ≤ (b.length : Int) - 1 := by simpa [inR] using hb5
  obtain ⟨u, hu⟩ : ∃ u : Nat, p[k] = u := ⟨p[k].toNat, by omega⟩
  obtain ⟨w, hw2⟩ : ∃ w : Nat, q[k] = w := ⟨q[k].toNat, by omega⟩
  rw [hu] at hr
  rw [hw2] at hs
  have hua : u < a.length := by omega
  have hwq : w < b.length := by omega
  refine ⟨by omega, rows_len ciL_len p, ?_⟩
  conv => whnf
  refine ⟨_, takeN_rp (k := k) ciL_len hk, ?_⟩
  rw [hu]
  conv => whnf
  refine ⟨by omega, rows_len ciL_len a, ?_⟩
  conv => whnf
  refine ⟨_, takeN_rp (k := u) ciL_len hua, ?_⟩
  conv => whnf
  refine ⟨by omega, rows_len ciL_len q, ?_⟩
  conv => whnf
  refine ⟨_, takeN_rp (k := k) ciL_len hkq, ?_⟩
  rw [hw2]
  conv => whnf
  refine ⟨by omega, rows_len ciL_len b, ?_⟩
  conv => whnf
  refine ⟨_, takeN_rp (k := w) ciL_len hwq, ?_⟩
  conv => whnf
  have hA2 : agreeA a p b q k = decide (a[u] = b[w]) := by
   rw [hA, agree1, hb4, hb5, Bool.true_and, Bool.true_and, hu, hw2, getI_at hua, getI_at hwq]
  split <;> rename_i h2
  ·conv => whnf
   show cb false = _
   rw [hall, hA2, decide_eq_false (by simpa using h2), Bool.false_and]
  ·conv => whnf
   rw [hA2, decide_eq_true (p := a[u] = b[w]) (by simpa using h2), Bool.true_and] at hall
   exact ⟨m - 1, by omega, k + 1, _, wrap_id (by omega) (by omega), by omega, hall, rfl⟩
 ·conv => whnf
  rw [hall, ran_end (by omega)]
  rfl
abbrev FactK := Int × List Int
def violP (key f g : FactK) : Bool := decide (f.1 = key.1) && (decide (g.1 = key.1) && (agreeI f.2 key.2 g.2 key.2 && !decide (f.2 = g.2)))
def getF (x0 : List FactK) (k : Nat) : FactK := x0.getD k (0, [])
def tripJ (x0 x1 : List FactK) (k i : Nat) : List Nat → Option (Nat × Nat × Nat)
 | [] => none
 | j :: js => if violP (getF x1 k) (getF x0 i) (getF x0 j) then some (k, i, j) else tripJ x0 x1 k i js
def tripI (x0 x1 : List FactK) (k : Nat) : List Nat → Option (Nat × Nat × Nat)
 | [] => none
 | i :: is => (tripJ x0 x1 k i (ran (i + 1) x0.length)).or (tripI x0 x1 k is)
def tripK (x0 x1 : List FactK) : List Nat → Option (Nat × Nat × Nat)
 | [] => none
 | k :: ks => (tripI x0 x1 k (ran 0 x0.length)).or (tripK x0 x1 ks)
def out3 : Option (Nat × Nat × Nat) → Int × Int × Int
 | none => (-1, -1, -1)
 | some (k, i, j) => (k, i, j)
def pFirstViolation (x0 x1 : List FactK) : Int × Int × Int := out3 (tripK x0 x1 (ran 0 x1.length))
def v3 (x : Int × Int × Int) : V := .tup [ci x.1, ci x.2.1, ci x.2.2]
theorem getF_at {x0 : List FactK} {k : Nat} (hk : k < x0.length) : getF x0 k = x0[k] := by simp [getF, List.getD_eq_getElem?_getD, hk]
set_option maxHeartbeats 4000000 in
theorem specFirstViolation_gen (x0 x1 : List FactK) (h0 : cFactS x0 ≤ 1048576) (h1 : cKeyS x1 ≤ 1048577) : Spec Tryz.prog 135 [vFactS x0, vKeyS x1] (v3 (pFirstViolation x0 x1)) := by
 unfold cFactS at h0
 unfold cKeyS at h1
 refine Spec_of mx Γ_ok Tryz.func135 rfl ?_
 conv => whnf
 refine ⟨[(0,0),(1,0),(4,0),(5,0),(6,0),(7,0)], fun m s => ∃ (k : Nat) (e : Int), e = k ∧ m + k = x1.length ∧ pFirstViolation x0 x1 = out3 (tripK x0 x1 (ran k x1.length)) ∧
  s = ⟨89, [(0, vFactS x0), (1, vKeyS x1), (4, ci 0), (5, ci 0), (6, ci 0), (7, ci e)], []⟩, x1.length, ⟨0, 0, rfl, rfl, rfl, rfl⟩, ?_⟩
 rintro m s ⟨k, _, rfl, hm, hall, rfl⟩
 conv => whnf
 split <;> rename_i h3
 all_goals simp only [decide_eq_true_eq, decide_eq_false_iff_not] at h3
 ·conv => whnf
  have hk : k < x1.length := by omega
  have hb := sumB_one (f := cKey) hk
  have hck : cKey x1[k] = x1[k].2.length := rfl
  rw [ran_at hk, tripK] at hall
  refine ⟨[(0,0),(1,0),(4,0),(5,0),(6,0),(7,0),(8,0)], fun m s => ∃ (i : Nat) (e : Int), e = i ∧ m + i = x0.length ∧ pFirstViolation x0 x1 = out3 ((tripI x0 x1 k (ran i x0.length)).or (tripK x0 x1 (ran (k + 1) x1.length))) ∧
   s = ⟨89, [(0, vFactS x0), (1, vKeyS x1), (4, ci 0), (5, ci 0), (6, ci 0), (7, ci k), (8, ci e)], []⟩, x0.length, ⟨0, 0, rfl, rfl, hall, rfl⟩, ?_⟩
  clear hall
  rintro m1 s ⟨i, _, rfl, hm1, hall, rfl⟩
  conv => whnf
  split <;> rename_i h4
  all_goals simp only [decide_eq_true_eq, decide_eq_false_iff_not] at h4
  ·conv => whnf
   have hi : i < x0.length := by omega
   have hbi := sumB_one (f := cFact) hi
   have hci : cFact x0[i] = x0[i].2.length := rfl
   rw [ran_at hi, tripI] at hall
   refine ⟨[(0,0),(1,0),(4,0),(5,0),(6,0),(7,0),(8,0),(9,0)], fun m s => ∃ (j : Nat) (e : Int), e = j ∧ i + 1 ≤ j ∧ m + j = x0.length ∧ pFirstViolation x0 x1 = out3 (((tripJ x0 x1 k i (ran j x0.length)).or (tripI x0 x1 k (ran (i + 1) x0.length))).or (tripK x0 x1 (ran (k + 1) x1.length))) ∧
    s = ⟨89, [(0, vFactS x0), (1, vKeyS x1), (4, ci 0), (5, ci 0), (6, ci 0), (7, ci k), (8, ci i), (9, ci e)], []⟩, x0.length - (i + 1), ⟨i + 1, _, wrap_id (by omega) (by omega), by omega, by omega, hall, rfl⟩, ?_⟩
   clear hall
   rintro m2 s ⟨j, _, rfl, hji, hm2, hall, rfl⟩
   conv => whnf
   split <;> rename_i h5
   all_goals simp only [decide_eq_true_eq, decide_eq_false_iff_not] at h5
   ·conv => whnf
    have hj : j < x0.length := by omega
    have hbj := sumB_one (f := cFact) hj
    have hcj : cFact x0[j] = x0[j].2.length := rfl
    rw [ran_at hj, tripJ, getF_at hj, getF_at hi, getF_at hk] at hall
    have hno : violP x1[k] x0[i] x0[j] = false → pFirstViolation x0 x1 = out3 (((tripJ x0 x1 k i (ran (j + 1) x0.length)).or (tripI x0 x1 k (ran (i + 1) x0.length))).or (tripK x0 x1 (ran (k + 1) x1.length))) := fun h => by
     rw [hall, h]
     rfl
    refine ⟨List.range 56, by kernel_rfl, ?_⟩
    conv => whnf
    refine ⟨by omega, rows_len rFact_len _, ?_⟩
    conv => whnf
    refine ⟨_, takeN_rp_field (k := i) (d := 0) (m := 1) (r := [ci x0[i].1]) rFact_len hi (by omega) rfl, ?_⟩
    conv => whnf
    refine ⟨by omega, rows_len rKey_len _, ?_⟩
    conv => whnf
    refine ⟨_, takeN_rp_field (k := k) (d := 0) (m := 1) (r := [ci x1[k].1]) rKey_len hk (by omega) rfl, ?_⟩
    conv => whnf
    generalize hb1 : (x0[i].1 == x1[k].1) = b1
    cases b1 with
    | false =>
     conv => whnf
     refine ⟨m2 - 1, by omega, j + 1, _, wrap_id (by omega) (by omega), by omega, by omega, hno ?_, rfl⟩
     rw [violP, decide_eq_false (p := x0[i].1 = x1[k].1) (by simpa using hb1), Bool.false_and]
    | true =>
    conv => whnf
    refine ⟨by omega, rows_len rFact_len _, ?_⟩
    conv => whnf
    refine ⟨_, takeN_rp_field (k := j) (d := 0) (m := 1) (r := [ci x0[j].1]) rFact_len hj (by omega) rfl, ?_⟩
    conv => whnf
    refine ⟨by omega, rows_len rKey_len _, ?_⟩
    conv => whnf
    refine ⟨_, takeN_rp_field (k := k) (d := 0) (m := 1) (r := [ci x1[k].1]) rKey_len hk (by omega) rfl, ?_⟩
    conv => whnf
    generalize hb2 : (x0[j].1 == x1[k].1) = b2
    cases b2 with
    | false =>
     conv => whnf
     refine ⟨m2 - 1, by omega, j + 1, _, wrap_id (by omega) (by omega), by omega, by omega, hno ?_, rfl⟩
     rw [violP, decide_eq_false (p := x0[j].1 = x1[k].1) (by simpa using hb2), Bool.false_and, Bool.and_false]
    | true =>
    conv => whnf
    refine ⟨by omega, rows_len rFact_len _, ?_⟩
    conv => whnf
    refine ⟨_, takeN_rp_field (k := i) (d := 1) (m := 1) (r := [ints x0[i].2]) rFact_len hi (by omega) rfl, ?_⟩
    conv => whnf
    refine ⟨by omega, rows_len rFact_len _, ?_⟩
    conv => whnf
    refine ⟨_, takeN_rp_field (k := j) (d := 1) (m := 1) (r := [ints x0[j].2]) rFact_len hj (by omega) rfl, ?_⟩
    conv => whnf
    refine ⟨by omega, rows_len rKey_len _, ?_⟩
    conv => whnf
    refine ⟨_, takeN_rp_field (k := k) (d := 1) (m := 1) (r := [ints x1[k].2]) rKey_len hk (by omega) rfl, ?_⟩
    conv => whnf
    refine ⟨_, l12Agree_spec x0[i].2 x0[j].2 x1[k].2 (by omega) (by omega) (by omega), .inl rfl, .inl ?_⟩
    conv => whnf
    generalize hb3 : agreeI x0[i].2 x1[k].2 x0[j].2 x1[k].2 = b3
    cases b3 with
    | false =>
     conv => whnf
     refine ⟨m2 - 1, by omega, j + 1, _, wrap_id (by omega) (by omega), by omega, by omega, hno ?_, rfl⟩
     rw [violP, hb3, Bool.false_and, Bool.and_false, Bool.and_false]
    | true =>
    conv => whnf
    refine ⟨by omega, rows_len rFact_len _, ?_⟩
    conv => whnf
    refine ⟨_, takeN_rp_field (k := i) (d := 1) (m := 1) (r := [ints x0[i].2]) rFact_len hi (by omega) rfl, ?_⟩
    conv => whnf
    refine ⟨by omega, rows_len rFact_len _, ?_⟩
    conv => whnf
    refine ⟨_, takeN_rp_field (k := j) (d := 1) (m := 1) (r := [ints x0[j].2]) rFact_len hj (by omega) rfl, ?_⟩
    conv => whnf
    refine ⟨_, l2Ints_spec x0[i].2 x0[j].2 (by omega) (by omega), .inl rfl, .inl ?_⟩
    conv => whnf
    generalize hb4 : (!decide (x0[i].2 = x0[j].2)) = b4
    have hv : violP x1[k] x0[i] x0[j] = b4 := by
     rw [violP, hb3, hb4, decide_eq_true (p := x0[i].1 = x1[k].1) (by simpa using hb1), decide_eq_true (p := x0[j].1 = x1[k].1) (by simpa using hb2)]
     rfl
    cases b4 with
    | false =>
     conv => whnf
     exact ⟨m2 - 1, by omega, j + 1, _, wrap_id (by omega) (by omega), by omega, by omega, hno hv, rfl⟩
    | true =>
     conv => whnf
     rw [hall, hv]
     rfl
   ·conv => whnf
    rw [ran_end (k := j) (by omega), tripJ, Option.none_or] at hall
    exact ⟨m1 - 1, by omega, i + 1, _, wrap_id (by omega) (by omega), by omega, hall, rfl⟩
  ·conv => whnf
   rw [ran_end (k := i) (by omega), tripI, Option.none_or] at hall
   exact ⟨m - 1, by omega, k + 1, _, wrap_id (by omega) (by omega), by omega, hall, rfl⟩
 ·conv => whnf
  rw [hall, ran_end (by omega)]
  rfl
theorem equalFactK_spec (f g : FactK) (hf : f.2.length ≤ 1099511627776) (hg : g.2.length ≤ 1099511627776) : Spec Tryz.prog 141 [vFact f, vFact g] (cb (decide (f.1 = g.1) && decide (f.2 = g.2))) := by
 refine Spec_of mx Γ_ok Tryz.func141 rfl ?_
 conv => whnf
 generalize hb1 : (f.1 == g.1) = b1
 cases b1 with
 | false =>
  conv => whnf
  rw [decide_eq_false (p := f.1 = g.1) (by simpa using hb1)]
  rfl
 | true =>
  conv => whnf
  refine ⟨_, slicesEq_spec f.2 g.2 hf hg, .inl rfl, .inl ?_⟩
  conv => whnf
  rw [decide_eq_true (p := f.1 = g.1) (by simpa using hb1)]
  rfl
set_option maxHeartbeats 4000000 in
theorem implFirstViolation_gen (x0 x1 : List FactK) (h0 : cFactS x0 ≤ 1048576) (h1 : cKeyS x1 ≤ 1048577) : Spec Tryz.prog 35 [vFactS x0, vKeyS x1] (v3 (pFirstViolation x0 x1)) := by
 unfold cFactS at h0
 unfold cKeyS at h1
 refine Spec_of mx Γ_ok Tryz.func35 rfl ?_
 conv => whnf
 refine ⟨[(0,0),(4,0),(5,0),(6,0),(13,0),(14,0),(15,0)], fun m s => ∃ (k : Nat) (e : Int), e = k ∧ m + k = x1.length ∧ pFirstViolation x0 x1 = out3 (tripK x0 x1 (ran k x1.length)) ∧
  s = ⟨73, [(0, vFactS x0), (4, ci 0), (5, ci 0), (6, ci 0), (13, vKeyS x1), (14, ci x1.length), (15, ci e)], []⟩, x1.length, ⟨0, 0, rfl, rfl, rfl, rfl⟩, ?_⟩
 rintro m s ⟨k, _, rfl, hm, hall, rfl⟩
 conv => whnf
 split <;> rename_i h3
 all_goals simp only [decide_eq_true_eq, decide_eq_false_iff_not] at h3
 ·conv => whnf
  have hk : k < x1.length := by omega
  have hb := sumB_one (f := cKey) hk
  have hck : cKey x1[k] = x1[k].2.length := rfl
  rw [ran_at hk, tripK] at hall
  refine ⟨by omega, rows_len rKey_len _, ?_⟩
  conv => whnf
  refine ⟨_, takeN_rp (k := k) rKey_len hk, ?_⟩
  conv => whnf
  refine ⟨[(0,0),(4,0),(5,0),(6,0),(7,0),(8,0),(13,0),(14,0),(15,0),(20,0),(21,0),(22,0)], fun m s => ∃ (i : Nat) (e : Int), e = i ∧ m + i = x0.length ∧ pFirstViolation x0 x1 = out3 ((tripI x0 x1 k (ran i x0.length)).or (tripK x0 x1 (ran (k + 1) x1.length))) ∧
   s = ⟨73, [(0, vFactS x0), (4, ci 0), (5, ci 0), (6, ci 0), (7, ci k), (8, .ptr 0 0), (13, vKeyS x1), (14, ci x1.length), (15, ci k), (20, vFactS x0), (21, ci x0.length), (22, ci e)], [some ⟨true, rKey x1[k]⟩]⟩, x0.length, ⟨0, 0, rfl, rfl, hall, rfl⟩, ?_⟩
  clear hall
  rintro m1 s ⟨i, _, rfl, hm1, hall, rfl⟩
  conv => whnf
  split <;> rename_i h4
  all_goals simp only [decide_eq_true_eq, decide_eq_false_iff_not] at h4
  ·conv => whnf
   have hi : i < x0.length := by omega
   have hbi := sumB_one (f := cFact) hi
   have hci : cFact x0[i] = x0[i].2.length := rfl
   rw [ran_at hi, tripI] at hall
   refine ⟨by omega, rows_len rFact_len _, ?_⟩
   conv => whnf
   refine ⟨_, takeN_rp (k := i) rFact_len hi, ?_⟩
   conv => whnf
   refine ⟨[(0,0),(4,0),(5,0),(6,0),(7,0),(8,0),(9,0),(10,0),(11,0),(13,0),(14,0),(15,0),(20,0),(21,0),(22,0)], fun m s => ∃ (j : Nat) (e : Int), e = j ∧ i + 1 ≤ j ∧ m + j = x0.length ∧ pFirstViolation x0 x1 = out3 (((tripJ x0 x1 k i (ran j x0.length)).or (tripI x0 x1 k (ran (i + 1) x0.length))).or (tripK x0 x1 (ran (k + 1) x1.length))) ∧
    s = ⟨73, [(0, vFactS x0), (4, ci 0), (5, ci 0), (6, ci 0), (7, ci k), (8, .ptr 0 0), (9, ci i), (10, .ptr 1 0), (11, ci e), (13, vKeyS x1), (14, ci x1.length), (15, ci k), (20, vFactS x0), (21, ci x0.length), (22, ci i)], [some ⟨true, rKey x1[k]⟩, some ⟨true, rFact x0[i]⟩]⟩, x0.length - (i + 1), ⟨i + 1, _, wrap_id (by omega) (by omega), by omega, by omega, hall, rfl⟩, ?_⟩
   clear hall
   rintro m2 s ⟨j, _, rfl, hji, hm2, hall, rfl⟩
   conv => whnf
   split <;> rename_i h5
   all_goals simp only [decide_eq_true_eq, decide_eq_false_iff_not] at h5
   ·conv => whnf
    have hj : j < x0.length := by omega
    have hbj := sumB_one (f := cFact) hj
    have hcj : cFact x0[j] = x0[j].2.length := rfl
    rw [ran_at hj, tripJ, getF_at hj, getF_at hi, getF_at hk] at hall
    have hno : violP x1[k] x0[i] x0[j] = false → pFirstViolation x0 x1 = out3 (((tripJ x0 x1 k i (ran (j + 1) x0.length)).or (tripI x0 x1 k (ran (i + 1) x0.length))).or (tripK x0 x1 (ran (k + 1) x1.length))) := fun h => by
     rw [hall, h]
     rfl
    refine ⟨by omega, rows_len rFact_len _, ?_⟩
    conv => whnf
    refine ⟨_, takeN_rp (k := j) rFact_len hj, ?_⟩
    conv => whnf
    generalize hb1 : (x0[i].1 == x1[k].1) = b1
    cases b1 with
    | false =>
     conv => whnf
     refine ⟨m2 - 1, by omega, j + 1, _, wrap_id (by omega) (by omega), by omega, by omega, hno ?_, rfl⟩
     rw [violP, decide_eq_false (p := x0[i].1 = x1[k].1) (by simpa using hb1), Bool.false_and]
    | true =>
    conv => whnf
    generalize hb2 : (x0[j].1 == x1[k].1) = b2
    cases b2 with
    | false =>
     conv => whnf
     refine ⟨m2 - 1, by omega, j + 1, _, wrap_id (by omega) (by omega), by omega, by omega, hno ?_, rfl⟩
     rw [violP, decide_eq_false (p := x0[j].1 = x1[k].1) (by simpa using hb2), Bool.false_and, Bool.and_false]
    | true =>
    conv => whnf
    refine ⟨_, agree_spec x0[i].2 x1[k].2 x0[j].2 x1[k].2 (by omega) (by omega) (by omega) (by omega), .inl rfl, .inl ?_⟩
    conv => whnf
    generalize hb3 : agreeI x0[i].2 x1[k].2 x0[j].2 x1[k].2 = b3
    cases b3 with
    | false =>
     conv => whnf
     refine ⟨m2 - 1, by omega, j + 1, _, wrap_id (by omega) (by omega), by omega, by omega, hno ?_, rfl⟩
     rw [violP, hb3, Bool.false_and, Bool.and_false, Bool.and_false]
    | true =>
    conv => whnf
    refine ⟨_, equalFactK_spec x0[i] x0[j] (by omega) (by omega), .inl rfl, .inl ?_⟩
    conv => whnf
    have e1 : x0[i].1 = x1[k].1 := by simpa using hb1
    have e2 : x0[j].1 = x1[k].1 := by simpa using hb2
    have hv : violP x1[k] x0[i] x0[j] = !(decide (x0[i].1 = x0[j].1) && decide (x0[i].2 = x0[j].2)) := by
     rw [violP, hb3, decide_eq_true e1, decide_eq_true e2, decide_eq_true (e1.trans e2.symm)]
     rfl
    generalize hb4 : (!(decide (x0[i].1 = x0[j].1) && decide (x0[i].2 = x0[j].2))) = b4
    rw [hb4] at hv
    cases b4 with
    | false =>
     conv => whnf
     exact ⟨m2 - 1, by omega, j + 1, _, wrap_id (by omega) (by omega), by omega, by omega, hno hv, rfl⟩
    | true =>
     conv => whnf
     rw [hall, hv]
     rfl
   ·conv => whnf
    rw [ran_end (k := j) (by omega), tripJ, Option.none_or] at hall
    exact ⟨m1 - 1, by omega, i + 1, _, wrap_id (by omega) (by omega), by omega, hall, rfl⟩
  ·conv => whnf
   rw [ran_end (k := i) (by omega), tripI, Option.none_or] at hall
   exact ⟨m - 1, by omega, k + 1, _, wrap_id (by omega) (by omega), by omega, hall, rfl⟩
 ·conv => whnf
  rw [hall, ran_end (by omega)]
  rfl
end Go.Proofs.YtcjdfeafcmfgpaaGreatD
