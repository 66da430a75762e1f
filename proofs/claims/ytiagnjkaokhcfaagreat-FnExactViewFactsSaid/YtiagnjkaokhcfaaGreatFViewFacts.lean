/- What views hold. -/
import Derived.Test.YtiagnjkaokhcfaaGreatFEv12
import Derived.Test.YtiagnjkaokhcfaaGreatFAreViews
set_option linter.unusedVariables false
set_option linter.unusedSimpArgs false
set_option maxRecDepth 100000
namespace Go.Proofs.YtiagnjkaokhcfaaGreatD
open Go Go.Proofs

def vfGo (s : List Int) (db : List FactC) : Nat → List QueryE → List FactC
  | _, [] => []
  | i, v :: r => (answersS s v db).map (fun t => ((i : Int), t)) ++ vfGo s db (i + 1) r
def pViewFacts (s : List Int) (vs : List QueryE) (db : List FactC) : List FactC := if pAreViews s vs && isDb s db then vfGo s db 0 vs else []
theorem isQuery_len4 {s : List Int} {q : QueryE} (h : isQuery s q = true) : q.2.length ≤ 4 := by
  simp only [isQuery, fineQ, Bool.and_eq_true] at h
  have := h.2.2.1
  simp only [inR, Bool.and_eq_true, decide_eq_true_eq] at this
  omega
theorem answersS_len (s : List Int) (q : QueryE) (db : List FactC) : (answersS s q db).length ≤ 331776 := by
  unfold answersS
  split
  · rename_i h
    simp only [Bool.and_eq_true] at h
    have t3 := isQuery_len4 h.1
    have h1 := sortL_len true ((rawP q db).map fun v => q.1.map (tS v))
    rw [List.length_map] at h1
    have h2 := (rawP_ok q db).2
    have h3 : db.length ^ q.2.length ≤ 331776 := by
      have e1 : db.length ^ q.2.length ≤ 24 ^ q.2.length := Nat.pow_le_pow_left (isDb_len h.2) _
      have e2 : 24 ^ q.2.length ≤ 24 ^ 4 := Nat.pow_le_pow_right (by decide) t3
      have e3 : 24 ^ 4 ≤ 331776 := by decide
      omega
    omega
  · simp
theorem pAreViews_len {s : List Int} {vs : List QueryE} (h : pAreViews s vs = true) : vs.length ≤ 4 := by
  simp only [pAreViews, inR, Bool.and_eq_true, decide_eq_true_eq] at h
  omega
set_option maxHeartbeats 8000000 in
theorem specViewFacts_spec (s : List Int) (vs : List QueryE) (db : List FactC) (hs : cSchema s ≤ 1048576) (hv : cQueryS vs ≤ 1048576) (hd : cFactS db ≤ 1048576) (q0 : qSchema s) (q1 : qQueryS vs) : Spec Tryz.prog 33 [vSchema s, vQueryS vs, vFactS db] (wFactS (pViewFacts s vs db)) := by
  have hs' : s.length ≤ 1099511627776 := by unfold cSchema at hs; omega
  refine Spec_of mx Γ_ok Tryz.func33 rfl ?_
  conv => whnf
  refine ⟨_, specAreViews_spec s vs hs hv q0 q1, .inl rfl, .inl ?_⟩
  conv => whnf
  unfold pViewFacts
  generalize hb1 : pAreViews s vs = b1
  cases b1 with
  | false =>
    conv => whnf
    exact ⟨rfl, rfl⟩
  | true =>
    conv => whnf
    refine ⟨_, specIsDatabase_spec s db hs' hd, .inl rfl, .inl ?_⟩
    conv => whnf
    generalize hb2 : isDb s db = b2
    cases b2 with
    | false =>
      conv => whnf
      exact ⟨rfl, rfl⟩
    | true =>
      conv => whnf
      have hv4 := pAreViews_len hb1
      refine ⟨[(1,0),(2,0),(3,0),(6,0),(7,0),(8,0)], fun m st => ∃ (i : Nat) (e : Int) (out : List FactC), e = i ∧ m + i = vs.length ∧ vfGo s db 0 vs = out ++ vfGo s db i (vs.drop i) ∧ out.length ≤ i * 331776 ∧
        st = ⟨52, [(1, vQueryS vs), (2, vFactS db), (3, .ptr 0 0), (6, cnil), (7, .own 1 2 0 out.length out.length none), (8, ci e)], [some ⟨true, [ints s]⟩, some ⟨false, rows tFact out⟩]⟩, vs.length, ⟨0, 0, [], rfl, rfl, rfl, by simp, by kernel_rfl⟩, ?_⟩
      rintro m st ⟨i, _, out, rfl, hm, hj, hol, rfl⟩
      conv => whnf
      split <;> rename_i h1
      all_goals simp only [decide_eq_true_eq, decide_eq_false_iff_not] at h1
      · conv => whnf
        have hi : i < vs.length := by omega
        have hqi : cQuery vs[i] ≤ 1048576 := by
          have h3 := sumB_one (f := cQuery) hi
          unfold cQueryS at hv
          omega
        rw [List.drop_eq_getElem_cons hi, vfGo, ← List.append_assoc] at hj
        refine ⟨List.range 8, by kernel_rfl, ?_⟩
        conv => whnf
        refine ⟨by omega, rows_len rQuery_len _, ?_⟩
        conv => whnf
        refine ⟨_, takeN_rp (k := i) rQuery_len hi, ?_⟩
        conv => whnf
        refine ⟨_, specAnswers_spec s vs[i] db hs hqi hd, .inl rfl, .inr ?_⟩
        conv => whnf
        have hal := answersS_len s vs[i] db
        generalize answersS s vs[i] db = A at hj hal
        refine ⟨[(1,0),(2,0),(3,0),(6,0),(7,0),(8,0),(9,0),(10,0)], fun m st => ∃ (k : Nat) (e : Int) (cs : List V) (n : Nat) (r : List V), e = k ∧ m + k = A.length ∧ cs.length = A.length ∧ (∀ p, k ≤ p → ∀ h : p < A.length, cs[p]? = some (intsT A[p])) ∧ n = out.length + k ∧ r = rows tFact (out ++ (A.take k).map fun t => ((i : Int), t)) ∧
          st = ⟨52, [(1, vQueryS vs), (2, vFactS db), (3, .ptr 0 0), (6, cnil), (7, .own 1 2 0 n n none), (8, ci i), (9, .own 2 1 0 A.length A.length none), (10, ci e)], [some ⟨true, [ints s]⟩, some ⟨false, r⟩, some ⟨false, cs⟩]⟩, A.length, ⟨0, _, rows tL A, out.length, rows tFact out, rfl, rfl, by rw [rows_len tL_len, Nat.mul_one], ?_, rfl, by rw [List.take_zero, List.map_nil, List.append_nil], by kernel_rfl⟩, ?_⟩
        · intro p _ h
          exact rows_cell (v := intsT A[p]) (f := tL) tL_len (k := p) (d := 0) (by omega) h rfl
        rintro m2 st ⟨k, _, cs, n, _, rfl, hm2, hcl, hcs, hn, rfl, rfl⟩
        conv => whnf
        split <;> rename_i h2
        all_goals simp only [decide_eq_true_eq, decide_eq_false_iff_not] at h2
        · conv => whnf
          have hk : k < A.length := by omega
          have hcell : cs[0 + (k : Int).toNat * 1]? = some (intsT A[k]) := by
            have := hcs k (Nat.le_refl _) hk
            simpa using this
          refine ⟨by omega, ?_⟩
          conv => whnf
          refine ⟨_, take1 hcell, ?_⟩
          conv => whnf
          refine ⟨_, _, _, hcell, ?_⟩
          conv => whnf
          refine ⟨_, rfl, .inr ⟨solid_tFact ((i : Int), A[k]), ?_⟩⟩
          conv => whnf
          refine ⟨by omega, by rw [rows_len tFact_len, List.length_append, List.length_map, List.length_take, Nat.min_eq_left (by omega)]; omega, _, snoc_rows tFact _ ((i : Int), A[k]), ?_⟩
          conv => whnf
          refine ⟨m2 - 1, by omega, k + 1, _, cs.set (0 + (k : Int).toNat * 1) .any, n + 1, rows tFact ((out ++ (A.take k).map fun t => ((i : Int), t)) ++ [((i : Int), A[k])]), wrap_id (by omega) (by omega), by omega, by rw [List.length_set, hcl], ?_, by omega, ?_, by kernel_rfl⟩
          · intro p hp h
            rw [List.getElem?_set_ne (by simp; omega)]
            exact hcs p (by omega) h
          · rw [List.take_succ_eq_append_getElem hk, List.map_append, ← List.append_assoc]; rfl
        · conv => whnf
          have hke : k = A.length := by omega
          subst hke
          rw [List.take_length]
          have hlen : (out ++ A.map fun t => ((i : Int), t)).length = n := by rw [List.length_append, List.length_map]; omega
          exact ⟨m - 1, by omega, i + 1, _, out ++ A.map fun t => ((i : Int), t), wrap_id (by omega) (by omega), by omega, hj, by rw [hlen]; omega, by rw [hlen]; kernel_rfl⟩
      · conv => whnf
        rw [drop_end (by omega)] at hj
        simp only [vfGo, List.append_nil] at hj
        refine ⟨by rw [rows_len tFact_len], ?_⟩
        simp only [Bool.and_self, if_true]
        rw [hj]
        rfl
set_option maxHeartbeats 8000000 in
theorem implViewFacts_spec (s : List Int) (vs : List QueryE) (db : List FactC) (hs : cSchema s ≤ 1048576) (hv : cQueryS vs ≤ 1048576) (hd : cFactS db ≤ 1048576) (q0 : qSchema s) (q1 : qQueryS vs) : Spec Tryz.prog 31 [vSchema s, vQueryS vs, vFactS db] (wFactS (pViewFacts s vs db)) := by
  have hs' : s.length ≤ 1099511627776 := by unfold cSchema at hs; omega
  refine Spec_of mx Γ_ok Tryz.func31 rfl ?_
  conv => whnf
  refine ⟨_, implAreViews_spec s vs hs hv q0 q1, .inl rfl, .inl ?_⟩
  conv => whnf
  unfold pViewFacts
  generalize hb1 : pAreViews s vs = b1
  cases b1 with
  | false =>
    conv => whnf
    exact ⟨rfl, rfl⟩
  | true =>
    conv => whnf
    refine ⟨_, implIsDatabase_spec s db hs' hd, .inl rfl, .inl ?_⟩
    conv => whnf
    generalize hb2 : isDb s db = b2
    cases b2 with
    | false =>
      conv => whnf
      exact ⟨rfl, rfl⟩
    | true =>
      conv => whnf
      have hv4 := pAreViews_len hb1
      refine ⟨[(2,0),(3,0),(6,0),(7,0),(24,0),(25,0),(26,0)], fun m st => ∃ (i : Nat) (e : Int) (out : List FactC), e = i ∧ m + i = vs.length ∧ vfGo s db 0 vs = out ++ vfGo s db i (vs.drop i) ∧ out.length ≤ i * 331776 ∧
        st = ⟨49, [(2, vFactS db), (3, .ptr 0 0), (6, cnil), (7, .own 1 2 0 out.length out.length none), (24, vQueryS vs), (25, ci vs.length), (26, ci e)], [some ⟨true, [ints s]⟩, some ⟨false, rows tFact out⟩]⟩, vs.length, ⟨0, 0, [], rfl, rfl, rfl, by simp, by kernel_rfl⟩, ?_⟩
      rintro m st ⟨i, _, out, rfl, hm, hj, hol, rfl⟩
      conv => whnf
      split <;> rename_i h1
      all_goals simp only [decide_eq_true_eq, decide_eq_false_iff_not] at h1
      · conv => whnf
        have hi : i < vs.length := by omega
        have hqi : cQuery vs[i] ≤ 1048576 := by
          have h3 := sumB_one (f := cQuery) hi
          unfold cQueryS at hv
          omega
        rw [List.drop_eq_getElem_cons hi, vfGo, ← List.append_assoc] at hj
        refine ⟨by omega, rows_len rQuery_len _, ?_⟩
        conv => whnf
        refine ⟨_, takeN_rp (k := i) rQuery_len hi, ?_⟩
        conv => whnf
        refine ⟨_, implAnswers_spec s vs[i] db hs hqi hd, .inl rfl, .inr ?_⟩
        conv => whnf
        have hal := answersS_len s vs[i] db
        generalize answersS s vs[i] db = A at hj hal
        refine ⟨[(2,0),(3,0),(6,0),(7,0),(8,0),(24,0),(25,0),(26,0),(34,0),(35,0),(36,0)], fun m st => ∃ (k : Nat) (e : Int) (cs : List V) (n : Nat) (r : List V), e = k ∧ m + k = A.length ∧ cs.length = A.length ∧ (∀ p, k ≤ p → ∀ h : p < A.length, cs[p]? = some (intsT A[p])) ∧ n = out.length + k ∧ r = rows tFact (out ++ (A.take k).map fun t => ((i : Int), t)) ∧
          st = ⟨49, [(2, vFactS db), (3, .ptr 0 0), (6, cnil), (7, .own 1 2 0 n n none), (8, ci i), (24, vQueryS vs), (25, ci vs.length), (26, ci i), (34, .own 2 1 0 A.length A.length none), (35, ci A.length), (36, ci e)], [some ⟨true, [ints s]⟩, some ⟨false, r⟩, some ⟨false, cs⟩]⟩, A.length, ⟨0, _, rows tL A, out.length, rows tFact out, rfl, rfl, by rw [rows_len tL_len, Nat.mul_one], ?_, rfl, by rw [List.take_zero, List.map_nil, List.append_nil], by kernel_rfl⟩, ?_⟩
        · intro p _ h
          exact rows_cell (v := intsT A[p]) (f := tL) tL_len (k := p) (d := 0) (by omega) h rfl
        rintro m2 st ⟨k, _, cs, n, _, rfl, hm2, hcl, hcs, hn, rfl, rfl⟩
        conv => whnf
        split <;> rename_i h2
        all_goals simp only [decide_eq_true_eq, decide_eq_false_iff_not] at h2
        · conv => whnf
          have hk : k < A.length := by omega
          have hcell : cs[0 + (k : Int).toNat * 1]? = some (intsT A[k]) := by
            have := hcs k (Nat.le_refl _) hk
            simpa using this
          refine ⟨by omega, ?_⟩
          conv => whnf
          refine ⟨_, take1 hcell, ?_⟩
          conv => whnf
          refine ⟨_, _, _, hcell, ?_⟩
          conv => whnf
          refine ⟨_, rfl, .inr ⟨solid_tFact ((i : Int), A[k]), ?_⟩⟩
          conv => whnf
          refine ⟨by omega, by rw [rows_len tFact_len, List.length_append, List.length_map, List.length_take, Nat.min_eq_left (by omega)]; omega, _, snoc_rows tFact _ ((i : Int), A[k]), ?_⟩
          conv => whnf
          refine ⟨m2 - 1, by omega, k + 1, _, cs.set (0 + (k : Int).toNat * 1) .any, n + 1, rows tFact ((out ++ (A.take k).map fun t => ((i : Int), t)) ++ [((i : Int), A[k])]), wrap_id (by omega) (by omega), by omega, by rw [List.length_set, hcl], ?_, by omega, ?_, by kernel_rfl⟩
          · intro p hp h
            rw [List.getElem?_set_ne (by simp; omega)]
            exact hcs p (by omega) h
          · rw [List.take_succ_eq_append_getElem hk, List.map_append, ← List.append_assoc]; rfl
        · conv => whnf
          have hke : k = A.length := by omega
          subst hke
          rw [List.take_length]
          have hlen : (out ++ A.map fun t => ((i : Int), t)).length = n := by rw [List.length_append, List.length_map]; omega
          exact ⟨m - 1, by omega, i + 1, _, out ++ A.map fun t => ((i : Int), t), wrap_id (by omega) (by omega), by omega, hj, by rw [hlen]; omega, by rw [hlen]; kernel_rfl⟩
      · conv => whnf
        rw [drop_end (by omega)] at hj
        simp only [vfGo, List.append_nil] at hj
        refine ⟨by rw [rows_len tFact_len], ?_⟩
        simp only [Bool.and_self, if_true]
        rw [hj]
        rfl
theorem answersS_short (s : List Int) (q : QueryE) (db : List FactC) : ∀ x ∈ answersS s q db, x.length ≤ 3 := by
  intro x hx
  unfold answersS at hx
  split at hx
  · rename_i h
    simp only [Bool.and_eq_true] at h
    obtain ⟨v, _, rfl⟩ := List.mem_map.1 (mem_sortL hx)
    have h1 := h.1
    simp only [isQuery, fineQ, terms3, Bool.and_eq_true, decide_eq_true_eq] at h1
    rw [List.length_map]
    exact h1.2.1.2
  · cases hx
theorem vfGo_ok (s : List Int) (db : List FactC) : ∀ (vs : List QueryE) (i : Nat), (vfGo s db i vs).length ≤ vs.length * 331776 ∧ ∀ x ∈ vfGo s db i vs, x.2.length ≤ 3
  | [], i => ⟨by simp [vfGo], fun x hx => by cases hx⟩
  | v :: vs, i => by
    obtain ⟨h1, h2⟩ := vfGo_ok s db vs (i + 1)
    have h3 := answersS_len s v db
    refine ⟨by simp only [vfGo, List.length_append, List.length_map, List.length_cons]; omega, fun x hx => ?_⟩
    rcases List.mem_append.1 hx with hx | hx
    · obtain ⟨t, ht, rfl⟩ := List.mem_map.1 hx
      exact answersS_short s v db t ht
    · exact h2 x hx
theorem sumB_cap3 {α : Type} (f : α → Nat) (n : Nat) : ∀ (xs : List α), (∀ x ∈ xs, f x ≤ n) → sumB f xs ≤ n * xs.length
  | [], _ => by simp [sumB]
  | x :: xs, h => by
    have h1 := sumB_cap3 f n xs fun y hy => h y (by simp [hy])
    have h2 := h x (by simp)
    simp only [sumB, List.length_cons, Nat.mul_add, Nat.mul_one]
    omega
theorem small_ViewFacts (x0 : List Int) (x1 : List QueryE) (x2 : List FactC) (h0 : cSchema x0 ≤ 1048576) (h1 : cQueryS x1 ≤ 1048576) (h2 : cFactS x2 ≤ 1048576) : cFactS (pViewFacts x0 x1 x2) ≤ 2147483648 := by
  unfold pViewFacts
  split
  · rename_i h
    simp only [Bool.and_eq_true] at h
    have h4 := pAreViews_len h.1
    obtain ⟨h5, h6⟩ := vfGo_ok x0 x2 x1 0
    have h7 := sumB_cap3 cFact 3 _ h6
    show (vfGo x0 x2 0 x1).length + sumB cFact (vfGo x0 x2 0 x1) ≤ _
    omega
  · show (0 : Nat) + 0 ≤ _
    omega
theorem specViewFacts_law (x0 : List Int) (x1 : List QueryE) (x2 : List FactC) (h0 : cSchema x0 ≤ 1048576) (h1 : cQueryS x1 ≤ 1048576) (h2 : cFactS x2 ≤ 1048576) (q0 : qSchema x0) (q1 : qQueryS x1) (q2 : qFactS x2) : Spec Tryz.prog 33 [vSchema x0, vQueryS x1, vFactS x2] (wFactS (pViewFacts x0 x1 x2)) := specViewFacts_spec x0 x1 x2 h0 h1 h2 q0 q1
theorem implViewFacts_law (x0 : List Int) (x1 : List QueryE) (x2 : List FactC) (h0 : cSchema x0 ≤ 1048576) (h1 : cQueryS x1 ≤ 1048576) (h2 : cFactS x2 ≤ 1048576) (q0 : qSchema x0) (q1 : qQueryS x1) (q2 : qFactS x2) : Spec Tryz.prog 31 [vSchema x0, vQueryS x1, vFactS x2] (wFactS (pViewFacts x0 x1 x2)) := implViewFacts_spec x0 x1 x2 h0 h1 h2 q0 q1
end Go.Proofs.YtiagnjkaokhcfaaGreatD
