/- Contracts of functions and plain laws that a proof of this seat rests on; no condition. -/
import Derived.Test.YtcjdfeafcmfgpaaGreatQ20
import Derived.Test.YtcjdfeafcmfgpaaGreatQ22
import Derived.Test.YtcjdfeafcmfgpaaGreatQ26
import Derived.Test.YtcjdfeafcmfgpaaGreatQ28
import Derived.Test.YtcjdfeafcmfgpaaGreatQ30
set_option linter.unusedVariables false
set_option linter.unusedSimpArgs false
set_option maxRecDepth 100000
namespace Go.Proofs.YtcjdfeafcmfgpaaGreatD
open Go Go.Proofs
def exCon : Exs := { ex := fun f => Nat.beq f 13 || Nat.beq f 17, hid := fun _ => false }
theorem cexV_ro (x : List FactC × List Int × Bool) : roV (.tup [wFactS x.1, intsT x.2.1, cb x.2.2]) = .tup [vFactS x.1, ints x.2.1, cb x.2.2] := by
  show V.tup [roV (wFactS _), roV (intsT _), _] = _
  rw [wFactS_ro, intsT_ro]
  rfl
theorem sdb_ro (s : List Int) (q : QueryW) (db : List FactC) : roV (.tup [vSchema s, wQuery q, wFactS db]) = .tup [vSchema s, vQuery q, vFactS db] := by
  show V.tup [roV _, roV _, roV _] = _
  rw [wQuery_ro, ints_roV, wFactS_ro]
theorem cont_len {s : List Int} {a b : QueryT} (h : contP s a b = true) : isQuery s a = true ∧ isQuery s b = true ∧ a.1.length = b.1.length := by
  obtain ⟨h1, h2, f, hf⟩ := (contP_iff s a b).1 h
  exact ⟨h1, h2, by rw [← hf.1, List.length_map]⟩
set_option maxHeartbeats 16000000 in
theorem law_FnContainment (x0 : List Int) (q0 : x0.length ≤ maxLen ∧ ∀ x ∈ x0, (Lit.int .u8 x).wf = true) : Spec Tryz.prog 3 [.ro x0.length (rows (fun x => [.sc (.int .u8 x)]) x0)] (cb true) := by
  show Spec Tryz.prog 3 [.ro x0.length (rows cu8 x0)] (cb true)
  refine Spec_ofE (ex := exCon) mx Γ_ok Tryz.func3 rfl ?_
  conv => whnf
  refine ⟨_, big_spec x0, .inl rfl, .inl ?_⟩
  conv => whnf
  generalize hb : decide ((x0.length : Int) > 1048576) = b
  cases b with
  | true =>
    conv => whnf
    rfl
  | false =>
  have hl : x0.length ≤ 1099511627776 := by have := of_decide_eq_false hb; omega
  conv => whnf
  refine .inr (.inr ⟨[], [], ?_⟩)
  conv => whnf
  refine ⟨_, drawIsContained_g x0 hl, fun r g2 hP => ?_⟩
  obtain ⟨s, a, b, hr, hs, ha, hb, rfl⟩ := hP
  have hss : cSchema s ≤ 1048576 := by show s.length ≤ _; omega
  have hal : a.1.length ≤ 1048576 := by unfold cQuery at ha; omega
  have hbl : b.1.length ≤ 1048576 := by unfold cQuery at hb; omega
  refine .inl ?_
  rw [hr]
  conv => whnf
  refine ⟨_, implIsContained_spec s a b hss ha hb, .inl rfl, .inl ?_⟩
  generalize his : contP s a b = is
  conv => whnf
  refine ⟨_, specIsContained_spec s a b hss ha hb, .inl rfl, .inl ?_⟩
  rw [his]
  conv => whnf
  rw [bne_self_eq_false]
  conv => whnf
  refine ⟨_, implIsEquivalent_spec s a b hss ha hb, .inl rfl, .inl ?_⟩
  rw [his]
  cases is with
  | true =>
    obtain ⟨qa, qb, hlen⟩ := cont_len his
    conv => whnf
    refine ⟨_, implIsContained_spec s b a hss hb ha, .inl rfl, .inl ?_⟩
    rw [Bool.true_and]
    conv => whnf
    rw [bne_self_eq_false]
    conv => whnf
    refine .inr (.inr ⟨[], [], ?_⟩)
    conv => whnf
    refine ⟨_, drawAnswers_g x0 hl, fun r g2 hP => ?_⟩
    obtain ⟨s', q', db, rfl, _, _, _, hdb, rfl⟩ := hP
    have hds := smDb_size hdb (by omega) (by omega)
    refine .inl ?_
    rw [sdb_ro]
    conv => whnf
    refine ⟨[0, 1, 2, 3, 4, 6, 7, 8, 5, 9, 10, 11, 12], by kernel_rfl, ?_⟩
    conv => whnf
    refine ⟨_, specAnswers_spec s a db hss ha hds, .inl rfl, .inl ?_⟩
    rw [wLists_ro]
    conv => whnf
    refine ⟨_, specAnswers_spec s b db hss hb hds, .inl rfl, .inl ?_⟩
    rw [wLists_ro]
    conv => whnf
    obtain ⟨a1, a2⟩ := answersS_size s a db
    obtain ⟨b1, b2⟩ := answersS_size s b db
    refine ⟨_, lawWithin_spec (answersS s a db) (answersS s b db) (by omega) (fun y hy => by rw [a2 y hy]; omega) (by omega) (fun y hy => by rw [b2 y hy]; omega), .inl rfl, .inl ?_⟩
    rw [(withinL_iff _ _).2 fun x hx => cont_sound his db hx]
    conv => whnf
    have hcex : pCounterExample s a b = ([], [], false) := by simp [pCounterExample, cexOk, his]
    refine ⟨_, implCounterExample_spec s a b hss ha hb, .inl rfl, .inl ?_⟩
    rw [cexV_ro, hcex]
    conv => whnf
    refine ⟨_, specIsQuery_spec s a hss ha, .inl rfl, .inl ?_⟩
    rw [qa]
    conv => whnf
    refine ⟨_, specIsQuery_spec s b hss hb, .inl rfl, .inl ?_⟩
    rw [qb]
    conv => whnf
    rw [show ((a.1.length : Int) == (b.1.length : Int)) = true from by rw [hlen]; exact beq_self_eq_true _]
    conv => whnf
    rfl
  | false =>
    conv => whnf
    refine .inr (.inr ⟨[], [], ?_⟩)
    conv => whnf
    refine ⟨_, drawAnswers_g x0 hl, fun r g2 hP => ?_⟩
    obtain ⟨s', q', db, rfl, _, _, _, hdb, rfl⟩ := hP
    refine .inl ?_
    rw [sdb_ro]
    conv => whnf
    refine ⟨[0, 1, 2, 3, 4, 6, 7, 8, 5, 9, 10, 11, 12], by kernel_rfl, ?_⟩
    conv => whnf
    refine ⟨_, implCounterExample_spec s a b hss ha hb, .inl rfl, .inl ?_⟩
    rw [cexV_ro]
    generalize hc : cexOk s a b = c
    cases c with
    | false =>
      have hcex : pCounterExample s a b = ([], [], false) := by simp [pCounterExample, hc]
      rw [hcex]
      conv => whnf
      refine ⟨_, specIsQuery_spec s a hss ha, .inl rfl, .inl ?_⟩
      generalize hqa : isQuery s a = qa
      cases qa with
      | false =>
        conv => whnf
        rfl
      | true =>
        conv => whnf
        refine ⟨_, specIsQuery_spec s b hss hb, .inl rfl, .inl ?_⟩
        generalize hqb : isQuery s b = qb
        cases qb with
        | false =>
          conv => whnf
          rfl
        | true =>
          conv => whnf
          have hlen : ((a.1.length : Int) == (b.1.length : Int)) = false := by
            simp only [cexOk, hqa, hqb, his, Bool.true_and, Bool.not_false, Bool.and_true, decide_eq_false_iff_not] at hc
            simp only [beq_eq_false_iff_ne, ne_eq]
            omega
          rw [hlen]
          conv => whnf
          rfl
    | true =>
      have hcex : pCounterExample s a b = ((pFreeze a).1, (pFreeze a).2, true) := by simp [pCounterExample, hc]
      simp only [cexOk, Bool.and_eq_true, decide_eq_true_eq] at hc
      obtain ⟨⟨⟨qa, qb⟩, hlen⟩, _⟩ := hc
      obtain ⟨f1, f2⟩ := small_Freeze a ha
      rw [hcex]
      conv => whnf
      refine ⟨_, specIsQuery_spec s a hss ha, .inl rfl, .inl ?_⟩
      rw [qa]
      conv => whnf
      refine ⟨_, specIsQuery_spec s b hss hb, .inl rfl, .inl ?_⟩
      rw [qb]
      conv => whnf
      rw [show ((a.1.length : Int) == (b.1.length : Int)) = true from by rw [hlen]; exact beq_self_eq_true _]
      conv => whnf
      refine ⟨_, specIsAnswer_spec s a (pFreeze a).1 (pFreeze a).2 hss ha f1 (by omega), .inl rfl, .inl ?_⟩
      rw [(hasL_iff _ _).2 (frz_ans qa)]
      conv => whnf
      refine ⟨_, specIsAnswer_spec s b (pFreeze a).1 (pFreeze a).2 hss hb f1 (by omega), .inl rfl, .inl ?_⟩
      have hno : hasL (answersS s b (pFreeze a).1) (pFreeze a).2 = false := by
        cases h : hasL (answersS s b (pFreeze a).1) (pFreeze a).2 with
        | false => rfl
        | true =>
          have := frz_cex qa qb ((hasL_iff _ _).1 h)
          rw [his] at this
          cases this
      rw [hno]
      conv => whnf
      refine ⟨_, implIsAnswer_spec s a (pFreeze a).1 (pFreeze a).2 hss ha f1 (by omega), .inl rfl, .inl ?_⟩
      rw [(hasL_iff _ _).2 (frz_ans qa)]
      conv => whnf
      rfl
end Go.Proofs.YtcjdfeafcmfgpaaGreatD
