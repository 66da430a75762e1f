/- Answers: the first program, and that both are the same. -/
import Derived.Test.YtiagnjkaokhcfaaGreatFEv11
set_option linter.unusedVariables false
set_option linter.unusedSimpArgs false
set_option maxRecDepth 100000
namespace Go.Proofs.YtiagnjkaokhcfaaGreatD
open Go Go.Proofs

theorem safe_bound {s : List Int} {q : QueryE} {db : List FactC} (h : isQuery s q = true) {b : Bnd} (hb : b ∈ visitL db q.2 bNone) : q.1.map (tS (sV b)) = tupOf b q.1 := by
  obtain ⟨t1, t2, t3⟩ := isQuery_terms h
  refine List.map_congr_left fun t ht => tS_valOf b t (List.all_eq_true.1 t1 t ht) fun h0 => ?_
  simp only [isQuery, fineQ, Bool.and_eq_true] at h
  have hs := List.all_eq_true.1 h.2.2.2.2 t ht
  have hr : -80 ≤ t ∧ t ≤ 19 := by simpa [isTerm, inR] using List.all_eq_true.1 t1 t ht
  have hv : isVar t = true := by simp [isVar, inR]; omega
  have hoc : occurs q t = true := by simpa [safeV, hv] using hs
  obtain ⟨a, ha, hx⟩ := List.any_eq_true.1 hoc
  obtain ⟨u, hu, he⟩ := List.any_eq_true.1 hx
  have hut : u = t := by
    have := he
    simp [eqV] at this
    first | exact this.symm | exact this
  subst hut
  exact (visitL_ok db q.2 bNone b hb).2 a ha u hu h0
theorem answers_eq {s : List Int} {q : QueryE} {db : List FactC} (h : isQuery s q = true) {ys : List (List Int)} (hp : ys.Perm (headsP q db)) (hs : ys.Pairwise fun a b => ¬ cmpI b a < 0) : compL (fun a b => decide (a = b)) ys = sortL true ((rawP q db).map fun v => q.1.map (tS v)) := by
  have hs' : ys.Pairwise fun a b => ltI b a = false := hs.imp fun {a b} h => by rw [ltI_cmp]; exact decide_eq_false h
  obtain ⟨h1, h2⟩ := compL_ok totI ys hs'
  obtain ⟨i1, i2⟩ := sortL_ok ((rawP q db).map fun v => q.1.map (tS v))
  refine strict_unique totI h1 i1 fun a => ?_
  have ha := i2 a
  rw [ha]
  refine (h2 a).trans ?_
  rw [hp.mem_iff]
  unfold headsP
  simp only [List.mem_map]
  constructor
  · rintro ⟨b, hb, rfl⟩
    exact ⟨sV b, (sortL_ok _).2 _ |>.2 (List.mem_map.2 ⟨b, hb, rfl⟩), safe_bound h hb⟩
  · rintro ⟨v, hv, rfl⟩
    obtain ⟨b, hb, rfl⟩ := (rawP_ok q db).1 v hv
    exact ⟨b, hb, (safe_bound h hb).symm⟩
set_option maxHeartbeats 4000000 in
theorem implAnswers_spec (s : List Int) (q : QueryE) (db : List FactC) (hs : cSchema s ≤ 1048576) (hq : cQuery q ≤ 1048576) (hd : cFactS db ≤ 1048576) : Spec Tryz.prog 78 [vSchema s, vQuery q, vFactS db] (wLists (answersS s q db)) := by
  have hs' : s.length ≤ 1099511627776 := by unfold cSchema at hs; omega
  refine Spec_of mx Γ_ok Tryz.func78 rfl ?_
  conv => whnf
  refine ⟨_, implIsQuery_spec s q hs hq, .inl rfl, .inl ?_⟩
  conv => whnf
  unfold answersS
  generalize hb1 : isQuery s q = b1
  cases b1 with
  | false =>
    conv => whnf
    exact ⟨rfl, rfl⟩
  | true =>
    conv => whnf
    refine ⟨_, implIsDatabase_spec s db hs' hd, .inl rfl, .inl ?_⟩
    conv => whnf
    generalize hb2 : isDb s db = b2
    cases b2 with
    | false =>
      conv => whnf
      exact ⟨rfl, rfl⟩
    | true =>
      conv => whnf
      obtain ⟨t1, t2, t3⟩ := isQuery_terms hb1
      have hp := pow_small (isDb_len hb2) t3
      have hl := visitL_len db q.2 bNone
      refine ⟨_, heads_spec q db hq hd t2 (by omega), .inl rfl, .inr ?_⟩
      conv => whnf
      refine .inr (.inr ⟨[2], [], ?_⟩)
      conv => whnf
      have hq' := hq
      unfold cQuery at hq'
      refine ⟨_, different_spec (headsP q db) (fun x hx => by
        obtain ⟨b, _, rfl⟩ := List.mem_map.1 hx
        rw [tupOf, List.length_map]; omega) (by rw [headsP, List.length_map]; omega), fun r g2 hP => ?_⟩
      obtain ⟨rfl, ys, h1, h2, rfl⟩ := hP
      rw [answers_eq hb1 h1 h2]
      refine .inr ?_
      conv => whnf
      exact ⟨by rw [rows_len tL_len], rfl⟩
end Go.Proofs.YtiagnjkaokhcfaaGreatD
