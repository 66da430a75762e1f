/- The law FnViolations: true for every input. -/
import Derived.Test.YtphphphnnnaagaaFDraw3
import Derived.Test.YtphphphnnnaagaaFViol0
set_option linter.unusedVariables false
set_option linter.unusedSimpArgs false
set_option maxRecDepth 100000
namespace Go.Proofs.YtphphphnnnaagaaD
open Go Go.Proofs

theorem big_spec (xs : List Int) : Spec Try.prog 19 [bytesR xs] (cb (decide ((xs.length : Int) > 1048576))) := by
  unfold bytesR
  refine Spec_of mx Γ_ok Try.func19 rfl ?_
  conv => whnf
  rfl
theorem sOk_P {c : Cur} (hc : goodC c) : sOk (schP c).1 := by
  obtain ⟨_, h1, h2, h3⟩ := schP_ok hc
  exact ⟨h1, h2, by omega⟩
def dfvP (xs : List Int) : List FactC × List FactC :=
  let s := schP (newCur xs)
  let d := dbP s.1 s.2
  (d.1, (keysP s.1 d.2).1)
def dhkP (xs : List Int) : List FactC × FactC :=
  let s := schP (newCur xs)
  let d := dbP s.1 s.2
  (d.1, (anyP s.1 d.2).1)
set_option maxHeartbeats 2000000 in
theorem drawFV_spec (xs : List Int) (h : xs.length ≤ 1099511627776) : Spec Try.prog 20 [bytesR xs] (.tup [wFactS (dfvP xs).1, wKeyS (dfvP xs).2]) := by
  have g0 := good_new h
  have g1 := (schP_ok g0).1
  have hs := sOk_P g0
  unfold dfvP
  simp only
  refine Spec_of mx Γ_ok Try.func20 rfl ?_
  conv => whnf
  refine ⟨_, l1New_spec xs h, .inl rfl, .inr ?_⟩
  conv => whnf
  generalize newCur xs = c0 at g0 g1 hs ⊢
  refine .inr (.inl ?_)
  conv => whnf
  refine ⟨curC_ne c0, ?_⟩
  conv => whnf
  refine ⟨_, _, _, l3Schema_spec c0 g0, ?_⟩
  conv => whnf
  refine .inl ?_
  rw [wSchema_ro]
  conv => whnf
  generalize (schP c0).2 = c1 at g1 ⊢
  generalize (schP c0).1 = s at hs ⊢
  obtain ⟨g2, d1, d2⟩ := dbP_ok hs g1
  refine .inr (.inl ?_)
  conv => whnf
  refine ⟨curC_ne c1, ?_⟩
  conv => whnf
  refine ⟨_, _, _, l5Db_spec s c1 hs g1, ?_⟩
  conv => whnf
  refine .inr ?_
  conv => whnf
  generalize (dbP s c1).2 = c2 at g2 ⊢
  generalize (dbP s c1).1 = db at d1 d2 ⊢
  refine .inr (.inl ?_)
  conv => whnf
  refine ⟨curC_ne c2, ?_⟩
  conv => whnf
  refine ⟨_, _, _, l12Keys_spec s c2 hs g2, ?_⟩
  conv => whnf
  refine .inr ?_
  conv => whnf
  exact ⟨by rw [rows_len tFact_len], by rw [rows_len tKey_len], rfl⟩
set_option maxHeartbeats 2000000 in
theorem drawHK_spec (xs : List Int) (h : xs.length ≤ 1099511627776) : Spec Try.prog 22 [bytesR xs] (.tup [wFactS (dhkP xs).1, wKey (dhkP xs).2]) := by
  have g0 := good_new h
  have g1 := (schP_ok g0).1
  have hs := sOk_P g0
  unfold dhkP
  simp only
  refine Spec_of mx Γ_ok Try.func22 rfl ?_
  conv => whnf
  refine ⟨_, l1New_spec xs h, .inl rfl, .inr ?_⟩
  conv => whnf
  generalize newCur xs = c0 at g0 g1 hs ⊢
  refine .inr (.inl ?_)
  conv => whnf
  refine ⟨curC_ne c0, ?_⟩
  conv => whnf
  refine ⟨_, _, _, l3Schema_spec c0 g0, ?_⟩
  conv => whnf
  refine .inl ?_
  rw [wSchema_ro]
  conv => whnf
  generalize (schP c0).2 = c1 at g1 ⊢
  generalize (schP c0).1 = s at hs ⊢
  obtain ⟨g2, d1, d2⟩ := dbP_ok hs g1
  refine .inr (.inl ?_)
  conv => whnf
  refine ⟨curC_ne c1, ?_⟩
  conv => whnf
  refine ⟨_, _, _, l5Db_spec s c1 hs g1, ?_⟩
  conv => whnf
  refine .inr ?_
  conv => whnf
  generalize (dbP s c1).2 = c2 at g2 ⊢
  generalize (dbP s c1).1 = db at d1 d2 ⊢
  refine .inr (.inl ?_)
  conv => whnf
  refine ⟨curC_ne c2, ?_⟩
  conv => whnf
  refine ⟨_, _, _, l12Any_spec s c2 hs g2, ?_⟩
  conv => whnf
  refine .inr ?_
  conv => whnf
  exact ⟨by rw [rows_len tFact_len], by rw [rows_len ciL_len], rfl⟩
theorem dfv_ok {xs : List Int} (h : xs.length ≤ 1099511627776) : cFactS (dfvP xs).1 ≤ 1048576 ∧ cKeyS (dfvP xs).2 ≤ 1048576 := by
  have g0 := good_new h
  have g1 := (schP_ok g0).1
  have hs := sOk_P g0
  obtain ⟨g2, d1, d2⟩ := dbP_ok hs g1
  exact ⟨short3_size d1 (by show (dbP (schP (newCur xs)).1 (schP (newCur xs)).2).1.length ≤ 100; omega), (keysP_ok hs g2).2⟩
theorem dhk_ok {xs : List Int} (h : xs.length ≤ 1099511627776) : cFactS (dhkP xs).1 ≤ 1048576 ∧ cKey (dhkP xs).2 ≤ 1048576 := by
  have g0 := good_new h
  have g1 := (schP_ok g0).1
  have hs := sOk_P g0
  obtain ⟨g2, d1, d2⟩ := dbP_ok hs g1
  refine ⟨short3_size d1 (by show (dbP (schP (newCur xs)).1 (schP (newCur xs)).2).1.length ≤ 100; omega), ?_⟩
  have := anyP_ok hs g2
  show (anyP _ _).1.2.length ≤ _
  omega
set_option maxHeartbeats 8000000 in
theorem law_FnViolations (x0 : List Int) (q0 : x0.length ≤ maxLen ∧ ∀ x ∈ x0, (Lit.int .u8 x).wf = true) : Spec Try.prog 4 [.ro x0.length (rows (fun x => [.sc (.int .u8 x)]) x0)] (cb true) := by
  show Spec Try.prog 4 [.ro x0.length (rows cu8 x0)] (cb true)
  refine Spec_of mx Γ_ok Try.func4 rfl ?_
  conv => whnf
  refine ⟨_, big_spec x0, .inl rfl, .inl ?_⟩
  conv => whnf
  generalize hb : decide ((x0.length : Int) > 1048576) = b
  cases b with
  | true =>
    conv => whnf
    rfl
  | false =>
  have hl : x0.length ≤ 1099511627776 := by have := of_decide_eq_false hb; omega
  obtain ⟨e1, e2⟩ := dfv_ok hl
  obtain ⟨e3, e4⟩ := dhk_ok hl
  conv => whnf
  refine ⟨_, drawFV_spec x0 hl, .inl rfl, .inl ?_⟩
  rw [show roV (.tup [wFactS (dfvP x0).1, wKeyS (dfvP x0).2]) = .tup [vFactS (dfvP x0).1, vKeyS (dfvP x0).2] from by show V.tup [roV _, roV _] = _; rw [wFactS_ro, wKeyS_ro]]
  generalize (dfvP x0).1 = db at e1 ⊢
  generalize (dfvP x0).2 = ks at e2 ⊢
  conv => whnf
  have hk1 : cKeyS ks ≤ 1048577 := by omega
  refine ⟨_, implFirstViolation_gen db ks e1 hk1, .inl rfl, .inl ?_⟩
  conv => whnf
  refine ⟨_, specFirstViolation_gen db ks e1 hk1, .inl rfl, .inl ?_⟩
  conv => whnf
  have hne : ∀ x : Int, (x != x) = false := fun x => by simp
  rw [hne]
  conv => whnf
  rw [hne]
  conv => whnf
  rw [hne]
  conv => whnf
  unfold pFirstViolation
  cases ht : tripK db ks (ran 0 ks.length) with
  | none =>
    conv => whnf
    refine ⟨[(2,0),(3,0),(4,0),(11,0)], fun m st => ∃ (k : Nat) (e : Int), e = k ∧ m + k = ks.length ∧
      st = ⟨115, [(2, cb false), (3, vFactS db), (4, vKeyS ks), (11, ci e)], []⟩, ks.length, ⟨0, 0, rfl, rfl, by kernel_rfl⟩, ?_⟩
    rintro m st ⟨k, _, rfl, hm, rfl⟩
    conv => whnf
    split <;> rename_i h1
    all_goals simp only [decide_eq_true_eq, decide_eq_false_iff_not] at h1
    · have hk : k < ks.length := by omega
      have hc := sumB_one (f := cKey) hk
      unfold cKeyS at e2
      conv => whnf
      refine ⟨by omega, rows_len rKey_len _, ?_⟩
      conv => whnf
      refine ⟨_, takeN_rp (k := k) rKey_len hk, ?_⟩
      conv => whnf
      refine ⟨_, implHoldsKey_gen db ks[k] e1 (by omega), .inl rfl, .inl ?_⟩
      rw [none_holds ht hk]
      conv => whnf
      exact ⟨m - 1, by omega, k + 1, _, wrap_id (by omega) (by omega), by omega, by kernel_rfl⟩
    · conv => whnf
      rfl
  | some r =>
    obtain ⟨n, i, k⟩ := r
    obtain ⟨hn, hi, hk, hik, v1, v2, v3⟩ := some_violates ht
    have hc := sumB_one (f := cKey) hn
    unfold cKeyS at e2
    simp only [out3]
    conv => whnf
    refine ⟨_, drawHK_spec x0 hl, .inl rfl, .inl ?_⟩
    rw [show roV (.tup [wFactS (dhkP x0).1, wKey (dhkP x0).2]) = .tup [vFactS (dhkP x0).1, vKey (dhkP x0).2] from by show V.tup [roV _, roV _] = _; rw [wFactS_ro, wKey_ro]]
    generalize (dhkP x0).1 = db2 at e3 ⊢
    generalize (dhkP x0).2 = k2 at e4 ⊢
    conv => whnf
    refine ⟨List.range 41 ++ [42, 43, 41, 44, 45, 46, 47], by kernel_rfl, ?_⟩
    conv => whnf
    refine ⟨by omega, rows_len rKey_len _, ?_⟩
    conv => whnf
    refine ⟨_, takeN_rp (k := n) rKey_len hn, ?_⟩
    conv => whnf
    refine ⟨_, implHoldsKey_gen db ks[n] e1 (by omega), .inl rfl, .inl ?_⟩
    rw [v3]
    conv => whnf
    have d2 : decide ((i : Int) < (k : Int)) = true := decide_eq_true (by omega)
    rw [d2]
    conv => whnf
    have hbe : ∀ x : Int, (x == x) = true := fun x => by simp
    refine ⟨by omega, rows_len rFact_len _, ?_⟩
    conv => whnf
    refine ⟨_, takeN_rp_field (k := i) (d := 0) (m := 1) (r := [ci db[i].1]) rFact_len hi (by omega) rfl, ?_⟩
    conv => whnf
    refine ⟨by omega, rows_len rKey_len _, ?_⟩
    conv => whnf
    refine ⟨_, takeN_rp_field (k := n) (d := 0) (m := 1) (r := [ci ks[n].1]) rKey_len hn (by omega) rfl, ?_⟩
    conv => whnf
    rw [v1, hbe]
    conv => whnf
    refine ⟨by omega, rows_len rFact_len _, ?_⟩
    conv => whnf
    refine ⟨_, takeN_rp_field (k := k) (d := 0) (m := 1) (r := [ci db[k].1]) rFact_len hk (by omega) rfl, ?_⟩
    conv => whnf
    refine ⟨by omega, rows_len rKey_len _, ?_⟩
    conv => whnf
    refine ⟨_, takeN_rp_field (k := n) (d := 0) (m := 1) (r := [ci ks[n].1]) rKey_len hn (by omega) rfl, ?_⟩
    conv => whnf
    rw [v2, hbe]
    conv => whnf
    refine ⟨_, implHoldsKey_gen db2 k2 e3 e4, .inl rfl, .inl ?_⟩
    conv => whnf
    refine ⟨_, specHoldsKey_gen db2 k2 e3 e4, .inl rfl, .inl ?_⟩
    generalize pHoldsKey db2 k2 = b
    cases b with
    | false =>
      conv => whnf
      rfl
    | true =>
      conv => whnf
      rfl
end Go.Proofs.YtphphphnnnaagaaD
