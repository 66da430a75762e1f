/- A fact put in its place; the frozen query: the first program. -/
import Derived.Test.YtphphphnnnaagaaFFz1
set_option linter.unusedVariables false
set_option linter.unusedSimpArgs false
set_option maxRecDepth 100000
namespace Go.Proofs.YtphphphnnnaagaaD
open Go Go.Proofs

def putGo (f : FactC) : Bool → List FactC → List FactC
  | p, [] => if p then [] else [f]
  | p, x :: r => if !p && !ltF x f then (if eqF x f then [] else [f]) ++ x :: putGo f true r else x :: putGo f p r
def putF (db : List FactC) (f : FactC) : List FactC := putGo f false db
theorem l5Copy_spec (f : FactC) (h : f.2.length ≤ 1099511627776) : Spec Try.prog 169 [vFact f] (wFact f) := by
  refine Spec_of mx Γ_ok Try.func169 rfl ?_
  conv => whnf
  refine ⟨[0, 1, 3, 4, 2, 5, 6, 7], by kernel_rfl, ?_⟩
  conv => whnf
  refine ⟨rows_len ciL_len _, solid_ci _, ?_⟩
  conv => whnf
  refine ⟨by omega, rfl, _, app_ci [] f.2, ?_⟩
  conv => whnf
  refine ⟨by rw [rows_len ciL_len, List.nil_append, Nat.zero_add]; rfl, ?_⟩
  rw [List.nil_append, Nat.zero_add]
  rfl
theorem solid_tFact (a : FactC) : ∀ c ∈ tFact a, solid c = true := by
  intro c hc
  simp only [tFact, List.mem_cons, List.not_mem_nil, or_false] at hc
  rcases hc with rfl | rfl <;> rfl
theorem putGo_true (f : FactC) (l : List FactC) : putGo f true l = l := by
  induction l with
  | nil => rfl
  | cons x r ih => simp [putGo, ih]
theorem putGo_length (f : FactC) : ∀ (l : List FactC) (p : Bool), (putGo f p l).length ≤ l.length + 1
  | [], p => by cases p <;> simp [putGo]
  | x :: r, p => by
    have := putGo_length f r p
    simp only [putGo]
    split
    · rw [putGo_true]; split <;> simp
    · simp only [List.length_cons]; omega
set_option maxHeartbeats 4000000 in
theorem l5Put_spec (db : List FactC) (f : FactC) (h : cFactS db ≤ 1048576) (hf : f.2.length ≤ 1048576) : Spec Try.prog 142 [vFactS db, vFact f] (wFactS (putF db f)) := by
  unfold cFactS at h
  refine Spec_of mx Γ_ok Try.func142 rfl ?_
  conv => whnf
  refine ⟨[(0,0),(3,0),(4,0),(5,0),(6,0),(7,0)], fun m s => ∃ (k : Nat) (e : Int) (p : Bool) (o : List FactC) (n : Nat) (r : List V), e = k ∧ m + k = db.length ∧ putF db f = o ++ putGo f p (db.drop k) ∧ n = o.length ∧ n ≤ k + p.toNat ∧ r = rows tFact o ∧
    s = ⟨54, [(0, vFactS db), (3, .ptr 0 0), (4, cnil), (5, .own 1 2 0 n n none), (6, cb p), (7, ci e)], [some ⟨true, rFact f⟩, some ⟨false, r⟩]⟩, db.length, ⟨0, 0, false, [], 0, _, rfl, rfl, rfl, rfl, Nat.zero_le _, rfl, rfl⟩, ?_⟩
  rintro m s ⟨k, _, p, o, n, _, rfl, hm, hj, hn, hnk, rfl, rfl⟩
  conv => whnf
  split <;> rename_i h1
  all_goals simp only [decide_eq_true_eq, decide_eq_false_iff_not] at h1
  · conv => whnf
    have hk : k < db.length := by omega
    have hb := sumB_one (f := cFact) hk
    have hcb : cFact db[k] = db[k].2.length := rfl
    rw [List.drop_eq_getElem_cons hk, putGo] at hj
    cases p with
    | true =>
      conv => whnf
      simp only [Bool.toNat_true] at hnk
      refine ⟨List.range 11, by kernel_rfl, ?_⟩
      conv => whnf
      simp only [Bool.not_true, Bool.false_and, Bool.false_eq_true, if_false] at hj
      refine ⟨by omega, rows_len rFact_len db, ?_⟩
      conv => whnf
      refine ⟨_, takeN_rp (k := k) rFact_len hk, ?_⟩
      conv => whnf
      refine ⟨_, l5Copy_spec db[k] (by omega), .inl rfl, .inr ?_⟩
      conv => whnf
      refine ⟨by rw [rows_len ciL_len], ?_⟩
      conv => whnf
      refine ⟨_, rfl, .inr ⟨solid_tFact db[k], ?_⟩⟩
      conv => whnf
      refine ⟨by omega, by rw [rows_len tFact_len]; rw [hn], _, snoc_rows tFact _ db[k], ?_⟩
      conv => whnf
      refine ⟨m - 1, by omega, k + 1, _, true, _, _, _, wrap_id (by omega) (by omega), by omega, ?_, ?_, ?_, rfl, rfl⟩
      · rw [hj]; simp
      · simp [hn]
      · simp only [Bool.toNat_true]; omega
    | false =>
      conv => whnf
      simp only [Bool.toNat_false] at hnk
      refine ⟨List.range 11, by kernel_rfl, ?_⟩
      conv => whnf
      refine ⟨by omega, rows_len rFact_len db, ?_⟩
      conv => whnf
      refine ⟨_, takeN_rp (k := k) rFact_len hk, ?_⟩
      conv => whnf
      refine ⟨_, l5Less_spec db[k] f (by omega) (by omega), .inl rfl, .inl ?_⟩
      conv => whnf
      simp only [Bool.not_false, Bool.true_and] at hj
      generalize ltF db[k] f = b1 at hj
      cases b1 with
      | true =>
        conv => whnf
        simp only [Bool.not_true, Bool.false_eq_true, if_false] at hj
        refine ⟨by omega, rows_len rFact_len db, ?_⟩
        conv => whnf
        refine ⟨_, takeN_rp (k := k) rFact_len hk, ?_⟩
        conv => whnf
        refine ⟨_, l5Copy_spec db[k] (by omega), .inl rfl, .inr ?_⟩
        conv => whnf
        refine ⟨by rw [rows_len ciL_len], ?_⟩
        conv => whnf
        refine ⟨_, rfl, .inr ⟨solid_tFact db[k], ?_⟩⟩
        conv => whnf
        refine ⟨by omega, by rw [rows_len tFact_len]; rw [hn], _, snoc_rows tFact _ db[k], ?_⟩
        conv => whnf
        refine ⟨m - 1, by omega, k + 1, _, false, _, _, _, wrap_id (by omega) (by omega), by omega, ?_, ?_, ?_, rfl, rfl⟩
        · rw [hj]; simp
        · simp [hn]
        · simp only [Bool.toNat_false]; omega
      | false =>
        conv => whnf
        simp only [Bool.not_false, if_true] at hj
        refine ⟨List.range 7, by kernel_rfl, ?_⟩
        conv => whnf
        refine ⟨by omega, rows_len rFact_len db, ?_⟩
        conv => whnf
        refine ⟨_, takeN_rp (k := k) rFact_len hk, ?_⟩
        conv => whnf
        refine ⟨_, l5Same_spec db[k] f (by omega) (by omega), .inl rfl, .inl ?_⟩
        conv => whnf
        generalize eqF db[k] f = b2 at hj
        cases b2 with
        | true =>
          conv => whnf
          simp only [if_true, List.nil_append] at hj
          refine ⟨by omega, rows_len rFact_len db, ?_⟩
          conv => whnf
          refine ⟨_, takeN_rp (k := k) rFact_len hk, ?_⟩
          conv => whnf
          refine ⟨_, l5Copy_spec db[k] (by omega), .inl rfl, .inr ?_⟩
          conv => whnf
          refine ⟨by rw [rows_len ciL_len], ?_⟩
          conv => whnf
          refine ⟨_, rfl, .inr ⟨solid_tFact db[k], ?_⟩⟩
          conv => whnf
          refine ⟨by omega, by rw [rows_len tFact_len]; rw [hn], _, snoc_rows tFact _ db[k], ?_⟩
          conv => whnf
          refine ⟨m - 1, by omega, k + 1, _, true, _, _, _, wrap_id (by omega) (by omega), by omega, ?_, ?_, ?_, rfl, rfl⟩
          · rw [hj]; simp
          · simp [hn]
          · simp only [Bool.toNat_true]; omega
        | false =>
          conv => whnf
          simp only [Bool.false_eq_true, if_false, List.singleton_append] at hj
          refine ⟨_, l5Copy_spec f (by omega), .inl rfl, .inr ?_⟩
          conv => whnf
          refine ⟨by rw [rows_len ciL_len], ?_⟩
          conv => whnf
          refine ⟨_, rfl, .inr ⟨solid_tFact f, ?_⟩⟩
          conv => whnf
          refine ⟨by omega, by rw [rows_len tFact_len]; rw [hn], _, snoc_rows tFact _ f, ?_⟩
          conv => whnf
          refine ⟨by omega, rows_len rFact_len db, ?_⟩
          conv => whnf
          refine ⟨_, takeN_rp (k := k) rFact_len hk, ?_⟩
          conv => whnf
          refine ⟨_, l5Copy_spec db[k] (by omega), .inl rfl, .inr ?_⟩
          conv => whnf
          refine ⟨by rw [rows_len ciL_len], ?_⟩
          conv => whnf
          refine ⟨_, rfl, .inr ⟨solid_tFact db[k], ?_⟩⟩
          conv => whnf
          refine ⟨by omega, by rw [rows_len tFact_len, List.length_append]; rw [hn]; rfl, _, snoc_rows tFact _ db[k], ?_⟩
          conv => whnf
          refine ⟨m - 1, by omega, k + 1, _, true, _, _, _, wrap_id (by omega) (by omega), by omega, ?_, ?_, ?_, rfl, rfl⟩
          · rw [hj]; simp
          · simp [hn]
          · simp only [Bool.toNat_true]; omega
  · conv => whnf
    rw [drop_end (by omega)] at hj
    cases p with
    | true =>
      conv => whnf
      simp only [putGo, if_true, List.append_nil] at hj
      rw [hj]
      refine ⟨by rw [rows_len tFact_len, hn], ?_⟩
      subst hn
      rfl
    | false =>
      conv => whnf
      simp only [putGo, Bool.false_eq_true, if_false] at hj
      simp only [Bool.toNat_false] at hnk
      refine ⟨_, l5Copy_spec f (by omega), .inl rfl, .inr ?_⟩
      conv => whnf
      refine ⟨by rw [rows_len ciL_len], ?_⟩
      conv => whnf
      refine ⟨_, rfl, .inr ⟨solid_tFact f, ?_⟩⟩
      conv => whnf
      refine ⟨by omega, by rw [rows_len tFact_len]; rw [hn], _, snoc_rows tFact _ f, ?_⟩
      conv => whnf
      rw [hj]
      subst hn
      refine ⟨by rw [rows_len tFact_len, List.length_append]; rfl, ?_⟩
      show V.tr 2 (o.length + 1) _ = wFactS _
      rw [wFactS, List.length_append]
      rfl
end Go.Proofs.YtphphphnnnaagaaD
