/- HoldsInclusion, twice. -/
import Derived.Test.YthfjngmbdbocbaaGreatFFits
import Derived.Test.YthfjngmbdbocbaaGreatFAgree2
set_option linter.unusedVariables false
set_option linter.unusedSimpArgs false
set_option maxRecDepth 100000
namespace Go.Proofs.YthfjngmbdbocbaaGreatD
open Go Go.Proofs

abbrev FactL := Int × List Int
abbrev InclL := Int × List Int × Int × List Int
def lackP (x1 : InclL) (f g : FactL) : Bool := decide (g.1 = x1.2.2.1) && agreeI f.2 x1.2.1 g.2 x1.2.2.2
def okF (x0 : List FactL) (x1 : InclL) (f : FactL) : Bool := !decide (f.1 = x1.1) || x0.any (lackP x1 f)
def okK (x0 : List FactL) (x1 : InclL) (k : Nat) : Bool := okF x0 x1 (x0.getD k (0, []))
def pHoldsInclusion (x0 : List FactL) (x1 : InclL) : Bool := (ran 0 x0.length).all (okK x0 x1)
def firstI (p : Nat → Bool) : List Nat → Int
  | [] => -1
  | k :: ks => if p k then k else firstI p ks
theorem firstI_neg (p : Nat → Bool) : ∀ ks, decide (firstI p ks < 0) = ks.all (fun k => !p k)
  | [] => rfl
  | k :: ks => by
    unfold firstI
    rw [List.all_cons]
    cases h : p k with
    | true =>
      rw [if_pos rfl]
      exact decide_eq_false (by omega)
    | false =>
      rw [if_neg (by simp)]
      exact firstI_neg p ks
theorem getD_fact {x0 : List FactL} {k : Nat} (hk : k < x0.length) : x0.getD k (0, []) = x0[k] := by simp [List.getD_eq_getElem?_getD, hk]

def lackI (x0 : List FactL) (x1 : InclL) : Int := firstI (fun k => !okK x0 x1 k) (ran 0 x0.length)
set_option maxHeartbeats 2000000 in
theorem lacking_spec (x0 : List FactL) (x1 : InclL) (h0 : cFactS x0 ≤ 1048576) (h1 : cInclusion x1 ≤ 1048576) : Spec Tryz.prog 45 [vFactS x0, vInclusion x1] (ci (lackI x0 x1)) := by
  unfold cFactS at h0
  unfold cInclusion at h1
  refine Spec_of mx Γ_ok Tryz.func45 rfl ?_
  conv => whnf
  refine ⟨[(0,0),(3,0),(4,0),(10,0),(11,0),(12,0)], fun m s => ∃ (k : Nat) (e : Int), e = k ∧ m + k = x0.length ∧ lackI x0 x1 = firstI (fun k => !okK x0 x1 k) (ran k x0.length) ∧
    s = ⟨52, [(0, vFactS x0), (3, .ptr 0 0), (4, ci 0), (10, vFactS x0), (11, ci x0.length), (12, ci e)], [some ⟨true, rInclusion x1⟩]⟩, x0.length, ⟨0, 0, rfl, rfl, rfl, rfl⟩, ?_⟩
  rintro m s ⟨k, _, rfl, hm, hall, rfl⟩
  conv => whnf
  split <;> rename_i h3
  all_goals simp only [decide_eq_true_eq, decide_eq_false_iff_not] at h3
  · conv => whnf
    have hk : k < x0.length := by omega
    have hb := sumB_one (f := cFact) hk
    have hck : cFact x0[k] = x0[k].2.length := rfl
    rw [ran_at hk, firstI] at hall
    refine ⟨by omega, rows_len rFact_len _, ?_⟩
    conv => whnf
    refine ⟨_, takeN_rp (k := k) rFact_len hk, ?_⟩
    conv => whnf
    refine ⟨[(0,0),(3,0),(4,0),(5,0),(6,0),(7,0),(10,0),(11,0),(12,0),(22,0),(23,0),(24,0)], fun m s => ∃ (j : Nat) (e : Int) (fl : Bool), e = j ∧ m + j = x0.length ∧ okK x0 x1 k = (fl || (x0.drop j).any (lackP x1 x0[k])) ∧
      s = ⟨52, [(0, vFactS x0), (3, .ptr 0 0), (4, ci 0), (5, ci k), (6, .ptr 1 0), (7, cb fl), (10, vFactS x0), (11, ci x0.length), (12, ci k), (22, vFactS x0), (23, ci x0.length), (24, ci e)], [some ⟨true, rInclusion x1⟩, some ⟨true, rFact x0[k]⟩]⟩, x0.length, ⟨0, 0, _, rfl, rfl, ?_, rfl⟩, ?_⟩
    · rw [okK, getD_fact hk, okF, List.drop_zero]
      congr 1
    rintro m' s ⟨j, _, fl, rfl, hm', hany, rfl⟩
    conv => whnf
    split <;> rename_i h4
    all_goals simp only [decide_eq_true_eq, decide_eq_false_iff_not] at h4
    · conv => whnf
      have hj : j < x0.length := by omega
      have hbj := sumB_one (f := cFact) hj
      have hcj : cFact x0[j] = x0[j].2.length := rfl
      rw [drop_any hj] at hany
      refine ⟨by omega, rows_len rFact_len _, ?_⟩
      conv => whnf
      refine ⟨_, takeN_rp (k := j) rFact_len hj, ?_⟩
      conv => whnf
      cases fl with
      | true =>
        conv => whnf
        exact ⟨m' - 1, by omega, j + 1, _, true, wrap_id (by omega) (by omega), by omega, by rw [hany, Bool.true_or, Bool.true_or], rfl⟩
      | false =>
      conv => whnf
      rw [Bool.false_or] at hany
      generalize hb5 : (x0[j].1 == x1.2.2.1) = b5
      cases b5 with
      | false =>
        conv => whnf
        refine ⟨m' - 1, by omega, j + 1, _, false, wrap_id (by omega) (by omega), by omega, ?_, rfl⟩
        rw [hany, lackP, decide_eq_false (by simpa using hb5), Bool.false_and, Bool.false_or]
      | true =>
      conv => whnf
      refine ⟨_, agree_spec x0[k].2 x1.2.1 x0[j].2 x1.2.2.2 (by omega) (by omega) (by omega) (by omega), .inl rfl, .inl ?_⟩
      conv => whnf
      refine ⟨m' - 1, by omega, j + 1, _, agreeI x0[k].2 x1.2.1 x0[j].2 x1.2.2.2, wrap_id (by omega) (by omega), by omega, ?_, rfl⟩
      rw [hany, lackP, decide_eq_true (p := x0[j].1 = x1.2.2.1) (by simpa using hb5), Bool.true_and]
    · conv => whnf
      rw [drop_end (by omega), List.any_nil, Bool.or_false] at hany
      rw [hany] at hall
      cases fl with
      | false =>
        conv => whnf
        rw [hall]
        rfl
      | true =>
        conv => whnf
        exact ⟨m - 1, by omega, k + 1, _, wrap_id (by omega) (by omega), by omega, hall, rfl⟩
  · conv => whnf
    rw [hall, ran_end (by omega)]
    rfl
end Go.Proofs.YthfjngmbdbocbaaGreatD
