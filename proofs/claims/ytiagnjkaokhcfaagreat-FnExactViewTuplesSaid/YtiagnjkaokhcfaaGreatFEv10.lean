/- Answers, both programs. -/
import Derived.Test.YtiagnjkaokhcfaaGreatFEv9
import Derived.Test.YtiagnjkaokhcfaaGreatFDb
import Derived.Test.YtiagnjkaokhcfaaGreatFQueryOk2
set_option linter.unusedVariables false
set_option linter.unusedSimpArgs false
set_option maxRecDepth 100000
namespace Go.Proofs.YtiagnjkaokhcfaaGreatD
open Go Go.Proofs

theorem isQuery_terms {s : List Int} {q : QueryE} (h : isQuery s q = true) : q.1.all isTerm = true ∧ (∀ a ∈ q.2, a.2.all isTerm = true) ∧ q.2.length ≤ 8 := by
  have h0 := h
  simp only [isQuery, fineQ, terms3, Bool.and_eq_true, decide_eq_true_eq] at h
  refine ⟨?_, ?_, ?_⟩
  · exact h.2.1.1
  · intro a ha
    have := List.all_eq_true.1 h.2.2.2.1 a ha
    simp only [isAtom, Bool.and_eq_true] at this
    exact this.2
  · have := h.2.2.1
    simp only [inR, Bool.and_eq_true, decide_eq_true_eq] at this
    omega
def answersS (s : List Int) (q : QueryE) (db : List FactC) : List (List Int) := if isQuery s q && isDb s db then sortL true ((rawP q db).map fun v => q.1.map (tS v)) else []
def bindingsS (s : List Int) (q : QueryE) (db : List FactC) : List (List Int) := if isQuery s q && isDb s db then rawP q db else []
theorem isDb_len {s : List Int} {db : List FactC} (h : isDb s db = true) : db.length ≤ 24 := by
  simp only [isDb, Bool.and_eq_true, decide_eq_true_eq] at h
  exact h.2.2
theorem pow_small {n m : Nat} (hn : n ≤ 24) (hm : m ≤ 8) : n ^ m ≤ 549755813888 := by
  have h1 : n ^ m ≤ 24 ^ m := Nat.pow_le_pow_left hn m
  have h2 : 24 ^ m ≤ 24 ^ 8 := Nat.pow_le_pow_right (by decide) hm
  have h3 : 24 ^ 8 ≤ 549755813888 := by decide
  omega
theorem specBindings_spec (s : List Int) (q : QueryE) (db : List FactC) (hs : cSchema s ≤ 1048576) (hq : cQuery q ≤ 1048576) (hd : cFactS db ≤ 1048576) : Spec Tryz.prog 77 [vSchema s, vQuery q, vFactS db] (wLists (bindingsS s q db)) := by
  have hs' : s.length ≤ 1099511627776 := by unfold cSchema at hs; omega
  refine Spec_of mx Γ_ok Tryz.func77 rfl ?_
  conv => whnf
  refine ⟨_, specIsQuery_spec s q hs hq, .inl rfl, .inl ?_⟩
  conv => whnf
  unfold bindingsS
  generalize hb1 : isQuery s q = b1
  cases b1 with
  | false =>
    conv => whnf
    exact ⟨rfl, rfl⟩
  | true =>
    conv => whnf
    refine ⟨_, specIsDatabase_spec s db hs' hd, .inl rfl, .inl ?_⟩
    conv => whnf
    generalize hb2 : isDb s db = b2
    cases b2 with
    | false =>
      conv => whnf
      exact ⟨rfl, rfl⟩
    | true =>
      conv => whnf
      obtain ⟨t1, t2, t3⟩ := isQuery_terms hb1
      refine ⟨_, l6Raw_spec q db hq hd t2 (pow_small (isDb_len hb2) t3), .inl rfl, .inr ?_⟩
      conv => whnf
      refine ⟨by rw [rows_len tL_len], rfl⟩
theorem mem_insL {once : Bool} {out : List (List Int)} {v x : List Int} (h : x ∈ insL once out v) : x = v ∨ x ∈ out := by
  unfold insL at h
  split at h
  · exact .inr h
  · rcases List.mem_append.1 h with h | h
    · exact .inr (List.mem_of_mem_take h)
    · rcases List.mem_cons.1 h with h | h
      · exact .inl h
      · exact .inr (List.mem_of_mem_drop h)
theorem insL_len (once : Bool) (out : List (List Int)) (v : List Int) : (insL once out v).length ≤ out.length + 1 := by
  unfold insL
  split
  · omega
  · rw [List.length_append, List.length_cons, List.length_take, List.length_drop]; omega
theorem foldL_ok (once : Bool) : ∀ (l out : List (List Int)), (∀ x ∈ l.foldl (insL once) out, x ∈ l ∨ x ∈ out) ∧ (l.foldl (insL once) out).length ≤ l.length + out.length
  | [], out => ⟨fun x h => .inr h, by simp⟩
  | v :: l, out => by
    obtain ⟨h1, h2⟩ := foldL_ok once l (insL once out v)
    have h3 := insL_len once out v
    refine ⟨fun x hx => ?_, ?_⟩
    · rcases h1 x hx with h | h
      · exact .inl (by simp [h])
      · rcases mem_insL h with h | h
        · exact .inl (by simp [h])
        · exact .inr h
    · rw [List.foldl_cons, List.length_cons]; omega
theorem mem_sortL {once : Bool} {l : List (List Int)} {x : List Int} (h : x ∈ sortL once l) : x ∈ l := by
  rcases (foldL_ok once l []).1 x h with h | h
  · exact h
  · cases h
theorem sortL_len (once : Bool) (l : List (List Int)) : (sortL once l).length ≤ l.length := (foldL_ok once l []).2
theorem rawP_ok (q : QueryE) (db : List FactC) : (∀ v ∈ rawP q db, ∃ b ∈ visitL db q.2 bNone, v = sV b) ∧ (rawP q db).length ≤ db.length ^ q.2.length := by
  refine ⟨fun v hv => ?_, ?_⟩
  · obtain ⟨b, hb, rfl⟩ := List.mem_map.1 (mem_sortL hv)
    exact ⟨b, hb, rfl⟩
  · have h1 := sortL_len true ((visitL db q.2 bNone).map sV)
    rw [List.length_map] at h1
    exact Nat.le_trans h1 (visitL_len db q.2 bNone)
theorem l6Heads_nil (q : QueryE) (hq : cQuery q ≤ 1048576) : Spec Tryz.prog 104 [vQuery q, vLists []] (wLists []) := by
  refine Spec_of mx Γ_ok Tryz.func104 rfl ?_
  conv => whnf
  refine ⟨[(1,0),(2,0),(4,0),(5,0),(6,0)], fun m s => s = ⟨25, [(1, vLists []), (2, .ptr 0 0), (4, cnil), (5, .own 1 1 0 0 0 none), (6, ci 0)], [some ⟨true, rQuery q⟩, some ⟨false, []⟩]⟩, 0, rfl, ?_⟩
  rintro m s rfl
  conv => whnf
  exact ⟨rfl, rfl⟩
set_option maxHeartbeats 4000000 in
theorem specAnswers_spec (s : List Int) (q : QueryE) (db : List FactC) (hs : cSchema s ≤ 1048576) (hq : cQuery q ≤ 1048576) (hd : cFactS db ≤ 1048576) : Spec Tryz.prog 19 [vSchema s, vQuery q, vFactS db] (wLists (answersS s q db)) := by
  refine Spec_of mx Γ_ok Tryz.func19 rfl ?_
  conv => whnf
  refine ⟨List.range 8, by kernel_rfl, ?_⟩
  conv => whnf
  refine ⟨_, specBindings_spec s q db hs hq hd, .inl rfl, .inl ?_⟩
  rw [wLists_ro]
  conv => whnf
  have hq' := hq
  unfold cQuery at hq'
  unfold bindingsS answersS
  generalize hb1 : (isQuery s q && isDb s db) = b1
  cases b1 with
  | false =>
    refine ⟨_, l6Heads_nil q hq, .inl rfl, .inl ?_⟩
    rw [wLists_ro]
    conv => whnf
    refine ⟨_, l6Sort_spec [] true (by simp) (by simp), .inl rfl, .inr ?_⟩
    conv => whnf
    exact ⟨rfl, rfl⟩
  | true =>
    simp only [Bool.and_eq_true] at hb1
    obtain ⟨t1, t2, t3⟩ := isQuery_terms hb1.1
    obtain ⟨r1, r2⟩ := rawP_ok q db
    have hp := pow_small (isDb_len hb1.2) t3
    refine ⟨_, l6Heads_spec q (rawP q db) hq (by omega) (fun v hv => by obtain ⟨b, _, rfl⟩ := r1 v hv; rfl) t1, .inl rfl, .inl ?_⟩
    rw [wLists_ro]
    conv => whnf
    refine ⟨_, l6Sort_spec ((rawP q db).map fun v => q.1.map (tS v)) true (by rw [List.length_map]; omega) (fun v hv => by obtain ⟨x, _, rfl⟩ := List.mem_map.1 hv; rw [List.length_map]; omega), .inl rfl, .inr ?_⟩
    conv => whnf
    exact ⟨by rw [rows_len tL_len], rfl⟩
end Go.Proofs.YtiagnjkaokhcfaaGreatD
