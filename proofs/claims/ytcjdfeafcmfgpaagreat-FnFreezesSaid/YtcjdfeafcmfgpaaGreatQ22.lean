/- Part 22 of the proof of the statement FnFreezes: contracts of functions and plain laws; no condition. -/
import Derived.Test.YtcjdfeafcmfgpaaGreatQ13
import Derived.Test.YtcjdfeafcmfgpaaGreatQ15
import Derived.Test.YtcjdfeafcmfgpaaGreatQ16
import Derived.Test.YtcjdfeafcmfgpaaGreatQ19
import Derived.Test.YtcjdfeafcmfgpaaGreatQ21
set_option linter.unusedVariables false
set_option linter.unusedSimpArgs false
set_option maxRecDepth 100000
namespace Go.Proofs.YtcjdfeafcmfgpaaGreatD
open Go Go.Proofs
theorem freezeV_ro (q : QueryF) : roV (pFreezeV q) = .tup [vFactS (pFreeze q).1, ints (pFreeze q).2] := by
  show V.tup [roV (wFactS _), roV (intsT _)] = _
  rw [wFactS_ro, intsT_ro]
theorem unfz_fz {t : Int} (h : isTerm t = true) : unfz (fz t) = t := by
  have hr := term_rng h
  unfold unfz fz
  by_cases h1 : t < 0
  · rw [if_pos h1, if_neg (by omega), wrap_id (by omega) (by omega)]
    omega
  · rw [if_neg h1, if_pos (by omega), wrap_id (x := 80 + t - 79) (by omega) (by omega), wrap_id (by omega) (by omega)]
    omega
theorem unfz_list {xs : List Int} (h : xs.all isTerm = true) : (xs.map fz).map unfz = xs := by
  rw [List.map_map]
  refine (List.map_congr_left fun t ht => ?_).trans (List.map_id xs)
  exact unfz_fz (List.all_eq_true.1 h t ht)
def exFrz : Exs := { ex := fun f => Nat.beq f 48 || Nat.beq f 51 || Nat.beq f 52, hid := fun _ => false }
set_option maxHeartbeats 16000000 in
theorem law_FnFreezes (x0 : List Int) (q0 : x0.length ≤ maxLen ∧ ∀ x ∈ x0, (Lit.int .u8 x).wf = true) : Spec Tryz.prog 6 [.ro x0.length (rows (fun x => [.sc (.int .u8 x)]) x0)] (cb true) := by
  show Spec Tryz.prog 6 [.ro x0.length (rows cu8 x0)] (cb true)
  refine Spec_ofE (ex := exFrz) mx Γ_ok Tryz.func6 rfl ?_
  conv => whnf
  refine ⟨_, big_spec x0, .inl rfl, .inl ?_⟩
  conv => whnf
  generalize hb : decide ((x0.length : Int) > 1048576) = b
  cases b with
  | true =>
    conv => whnf
    rfl
  | false =>
  have hl : x0.length ≤ 1099511627776 := by have := of_decide_eq_false hb; omega
  conv => whnf
  refine .inr (.inr ⟨[], [], ?_⟩)
  conv => whnf
  refine ⟨_, drawFreeze_g x0 hl, fun r g2 hP => ?_⟩
  obtain ⟨q, rfl, hq, rfl⟩ := hP
  have hqs := qSm_size hq
  refine .inl ?_
  rw [wQuery_ro]
  conv => whnf
  obtain ⟨f1, f2⟩ := small_Freeze q hqs
  refine ⟨_, implFreeze_spec q hqs, .inl rfl, .inl ?_⟩
  rw [freezeV_ro]
  conv => whnf
  refine ⟨_, specFreeze_spec q hqs, .inl rfl, .inl ?_⟩
  rw [freezeV_ro]
  conv => whnf
  refine ⟨_, specEqualFacts_spec (pFreeze q).1 (pFreeze q).1 f1 f1, .inl rfl, .inl ?_⟩
  rw [decide_eq_true rfl]
  conv => whnf
  refine ⟨_, sameInts_spec (pFreeze q).2 (pFreeze q).2 (by omega) (by omega), .inl rfl, .inl ?_⟩
  rw [decide_eq_true rfl]
  conv => whnf
  refine .inr (.inr ⟨[], [], ?_⟩)
  conv => whnf
  refine ⟨_, drawIsQuery_g x0 hl, fun r g2 hP => ?_⟩
  obtain ⟨s, p, rfl, hs, hp, rfl⟩ := hP
  have hps := qSm_size hp
  have hss : cSchema s ≤ 1048576 := by show s.length ≤ _; omega
  refine .inl ?_
  rw [show roV (.tup [vSchema s, wQuery p]) = .tup [vSchema s, vQuery p] from by show V.tup [roV _, roV _] = _; rw [wQuery_ro, ints_roV]]
  conv => whnf
  obtain ⟨e1, e2⟩ := small_Freeze p hps
  refine ⟨_, implFreeze_spec p hps, .inl rfl, .inl ?_⟩
  rw [freezeV_ro]
  conv => whnf
  refine .inr (.inr ⟨[], [], ?_⟩)
  conv => whnf
  refine ⟨_, drawUnfreeze_g x0 hl, fun r g2 hP => ?_⟩
  obtain ⟨l, rfl, hll, rfl⟩ := hP
  refine .inl ?_
  rw [intsT_ro]
  conv => whnf
  refine ⟨_, implUnfreeze_spec l (by omega), .inl rfl, .inl ?_⟩
  rw [intsT_ro]
  conv => whnf
  refine ⟨_, specUnfreeze_spec l (by omega), .inl rfl, .inl ?_⟩
  rw [intsT_ro]
  conv => whnf
  refine ⟨_, sameInts_spec (l.map unfz) (l.map unfz) (by rw [List.length_map]; omega) (by rw [List.length_map]; omega), .inl rfl, .inl ?_⟩
  rw [decide_eq_true rfl]
  conv => whnf
  refine ⟨[0, 1, 2, 3, 4, 5, 6, 7, 8, 9, 10, 11, 12, 13, 14, 15, 16, 18, 19, 17, 20, 21, 22, 23], by kernel_rfl, ?_⟩
  conv => whnf
  refine ⟨_, specIsQuery_spec s p hss hps, .inl rfl, .inl ?_⟩
  generalize hb : isQuery s p = b
  cases b with
  | false =>
    conv => whnf
    rfl
  | true =>
    have hdb := frz_db hb
    have hpt := (isQ_facts hb).2.1
    have hhd : (pFreeze p).2 = p.1.map fz := by
      unfold pFreeze
      rw [if_pos (frz_ok hb)]
    conv => whnf
    refine ⟨_, specIsDatabase_spec s (pFreeze p).1 (by omega) e1, .inl rfl, .inl ?_⟩
    rw [hdb]
    conv => whnf
    refine ⟨_, implIsAnswer_spec s p (pFreeze p).1 (pFreeze p).2 hss hps e1 (by omega), .inl rfl, .inl ?_⟩
    rw [(hasL_iff _ _).2 (frz_ans hb)]
    conv => whnf
    refine ⟨_, implUnfreeze_spec (pFreeze p).2 (by omega), .inl rfl, .inl ?_⟩
    rw [intsT_ro, hhd, unfz_list hpt]
    conv => whnf
    refine ⟨_, sameInts_spec p.1 p.1 (by have := hp.1; omega) (by have := hp.1; omega), .inl rfl, .inl ?_⟩
    rw [decide_eq_true rfl]
    conv => whnf
    rfl
end Go.Proofs.YtcjdfeafcmfgpaaGreatD
