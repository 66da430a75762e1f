/- The search of the second program. -/
import Derived.Test.YtiagnjkaokhcfaaGreatFEv5
set_option linter.unusedVariables false
set_option linter.unusedSimpArgs false
set_option maxRecDepth 100000
namespace Go.Proofs.YtiagnjkaokhcfaaGreatD
open Go Go.Proofs

/-- The values of a binding. -/
def sV (b : Bnd) : List Int := (sB b).take 20
def SeaOut (outs new : List (List Int)) (g2 : List (Option Obj)) : Prop :=
  (new = [] ∧ g2 = [some ⟨true, [.own 1 1 0 outs.length outs.length none]⟩, some ⟨false, rows tL outs⟩]) ∨
  (g2 = [some ⟨true, [.own 2 1 0 (outs ++ new).length (outs ++ new).length none]⟩, none, some ⟨false, rows tL (outs ++ new)⟩])
set_option maxHeartbeats 8000000 in
theorem l6Search_spec (q : QueryE) (db : List FactC) (hq : cQuery q ≤ 1048576) (hd : cFactS db ≤ 1048576) (ht : ∀ a ∈ q.2, a.2.all isTerm = true) : ∀ (n i : Nat), i + n = q.2.length → ∀ (b : Bnd) (outs : List (List Int)), outs.length + db.length ^ n ≤ 1099511627776 →
    SpecG Tryz.prog 210 [vQuery q, vFactS db, ci i, ints (sB b), .ptr 0 0] [some ⟨true, [.own 1 1 0 outs.length outs.length none]⟩, some ⟨false, rows tL outs⟩] fun r g2 =>
      r = .tup [] ∧ SeaOut outs ((visitL db (q.2.drop i) b).map sV) g2 := by
  unfold cQuery cAtomS at hq
  unfold cFactS at hd
  intro n
  induction n with
  | zero =>
    intro i hin b outs ho
    refine SpecG_of mx Γ_ok 2 Tryz.func210 rfl rfl (by decide) ?_
    conv => whnf
    generalize hc : ((i : Int) == (q.2.length : Int)) = c
    have hct : c = true := by rw [← hc]; simp; omega
    subst hct
    conv => whnf
    refine ⟨[0, 1, 2, 3, 5, 6, 4, 7, 8, 9, 10, 11], by kernel_rfl, ?_⟩
    conv => whnf
    have hl40 : ((sB b).length : Int) = 40 := by rw [sB_len]; rfl
    refine ⟨by omega, rows_len ciL_len _, rows ciL (sV b), by kernel_rfl, ?_⟩
    conv => whnf
    refine ⟨rfl, solid_ci _, ?_⟩
    conv => whnf
    refine ⟨by omega, rfl, _, app_ci [] (sV b), ?_⟩
    conv => whnf
    refine ⟨rfl, ?_⟩
    conv => whnf
    refine ⟨_, rfl, .inr ⟨solid_tL (sV b), ?_⟩⟩
    conv => whnf
    refine ⟨by simp at ho; omega, by rw [rows_len tL_len], _, snoc_rows tL _ (sV b), ?_⟩
    conv => whnf
    refine ⟨[], ?_⟩
    conv => whnf
    refine ⟨rfl, .inr ?_⟩
    rw [List.drop_eq_nil_of_le (by omega)]
    simp only [visitL, List.map_cons, List.map_nil, List.length_append, List.length_singleton]
  | succ n ih =>
    intro i hin b outs ho
    refine SpecG_of mx Γ_ok 2 Tryz.func210 rfl rfl (by decide) ?_
    conv => whnf
    generalize hc : ((i : Int) == (q.2.length : Int)) = c
    have hct : c = false := by rw [← hc]; simp; omega
    subst hct
    conv => whnf
    have hil : i < q.2.length := by omega
    refine ⟨[(1,0),(2,0),(3,0),(4,0),(5,0),(10,0)], fun m s => ∃ (k : Nat) (e : Int) (new : List (List Int)), e = k ∧ m + k = db.length ∧ new.length ≤ k * db.length ^ n ∧
      ((visitL db (q.2.drop i) b).map sV) = new ++ (((db.drop k).flatMap fun f => if (mch b q.2[i] f).2 then visitL db (q.2.drop (i + 1)) (mch b q.2[i] f).1 else []).map sV) ∧
      ((new = [] ∧ s = ⟨87, [(1, vFactS db), (2, ci i), (3, ints (sB b)), (4, .ptr 0 0), (5, .ptr 2 0), (10, ci e)], [some ⟨true, [.own 1 1 0 outs.length outs.length none]⟩, some ⟨false, rows tL outs⟩, some ⟨true, rQuery q⟩]⟩) ∨
       (s = ⟨87, [(1, vFactS db), (2, ci i), (3, ints (sB b)), (4, .ptr 0 0), (5, .ptr 2 0), (10, ci e)], [some ⟨true, [.own 3 1 0 (outs ++ new).length (outs ++ new).length none]⟩, none, some ⟨true, rQuery q⟩, some ⟨false, rows tL (outs ++ new)⟩]⟩)), db.length, ⟨0, 0, [], rfl, rfl, by simp, ?_, .inl ⟨rfl, by kernel_rfl⟩⟩, ?_⟩
    · rw [List.drop_eq_getElem_cons hil, visitL]
      rfl
    rintro m s ⟨k, _, new, rfl, hm, hnl, hj, hs⟩
    rcases hs with ⟨rfl, rfl⟩ | rfl
    · conv => whnf
      split <;> rename_i h1
      all_goals simp only [decide_eq_true_eq, decide_eq_false_iff_not] at h1
      · conv => whnf
        have hk : k < db.length := by omega
        have hb1 := sumB_one (f := cAtom) hil
        have hcb1 : cAtom q.2[i] = q.2[i].2.length := rfl
        have hb2 := sumB_one (f := cFact) hk
        have hcb2 : cFact db[k] = db[k].2.length := rfl
        have hta := ht _ (List.getElem_mem hil)
        have hwi : IntKind.i64.wrap ((i : Int) + 1) = ((i + 1 : Nat) : Int) := by rw [wrap_id (by omega) (by omega)]; omega
        have hpw : db.length ^ (n + 1) = db.length ^ n * db.length := Nat.pow_succ ..
        have hkm : db.length ^ n * (k + 1) ≤ db.length ^ n * db.length := Nat.mul_le_mul_left _ hk
        have hk1 : db.length ^ n * (k + 1) = k * db.length ^ n + db.length ^ n := by rw [Nat.mul_add, Nat.mul_one, Nat.mul_comm]
        have hk2 : (k + 1) * db.length ^ n = k * db.length ^ n + db.length ^ n := by rw [Nat.add_mul, Nat.one_mul]
        rw [List.drop_eq_getElem_cons hk, List.flatMap_cons, List.map_append, ← List.append_assoc] at hj
        refine ⟨List.range 28, by kernel_rfl, ?_⟩
        conv => whnf
        refine ⟨by omega, rows_len rFact_len _, ?_⟩
        conv => whnf
        refine ⟨_, takeN_rp_field (k := k) (d := 0) (m := 1) (r := [ci db[k].1]) rFact_len hk (by omega) rfl, ?_⟩
        conv => whnf
        refine ⟨by omega, rows_len rAtom_len _, ?_⟩
        conv => whnf
        refine ⟨_, takeN_rp_field (k := i) (d := 0) (m := 1) (r := [ci q.2[i].1]) rAtom_len hil (by omega) rfl, ?_⟩
        conv => whnf
        generalize hc1 : (db[k].1 != q.2[i].1) = c1
        cases c1 with
        | true =>
          have h2 : ¬ q.2[i].1 = db[k].1 := fun h => by rw [h] at hc1; simp at hc1
          have hno : mch b q.2[i] db[k] = (b, false) := by rw [mch, if_neg (fun h => h2 h.1)]
          rw [hno] at hj
          simp only [Bool.false_eq_true, if_false, List.map_nil, List.append_nil] at hj
          conv => whnf
          exact ⟨m - 1, by omega, k + 1, _, [], wrap_id (by omega) (by omega), by omega, by simp, hj, .inl ⟨rfl, by kernel_rfl⟩⟩
        | false =>
        have h2 : q.2[i].1 = db[k].1 := by have : db[k].1 = q.2[i].1 := by simpa using hc1
                                           exact this.symm
        conv => whnf
        refine ⟨by omega, rows_len rFact_len _, ?_⟩
        conv => whnf
        refine ⟨_, takeN_rp_field (k := k) (d := 1) (m := 1) (r := [ints db[k].2]) rFact_len hk (by omega) rfl, ?_⟩
        conv => whnf
        refine ⟨by omega, rows_len rAtom_len _, ?_⟩
        conv => whnf
        refine ⟨_, takeN_rp_field (k := i) (d := 1) (m := 1) (r := [ints q.2[i].2]) rAtom_len hil (by omega) rfl, ?_⟩
        conv => whnf
        generalize hc2 : ((db[k].2.length : Int) != (q.2[i].2.length : Int)) = c2
        cases c2 with
        | true =>
          have h3 : ¬ q.2[i].2.length = db[k].2.length := fun h => by rw [h] at hc2; simp at hc2
          have hno : mch b q.2[i] db[k] = (b, false) := by rw [mch, if_neg (fun h => h3 h.2)]
          rw [hno] at hj
          simp only [Bool.false_eq_true, if_false, List.map_nil, List.append_nil] at hj
          conv => whnf
          exact ⟨m - 1, by omega, k + 1, _, [], wrap_id (by omega) (by omega), by omega, by simp, hj, .inl ⟨rfl, by kernel_rfl⟩⟩
        | false =>
        have h3 : q.2[i].2.length = db[k].2.length := by
          have : (db[k].2.length : Int) = q.2[i].2.length := by simpa using hc2
          omega
        have hyes : mch b q.2[i] db[k] = bindGo q.2[i].2 db[k].2 b := by rw [mch, if_pos ⟨h2, h3⟩]
        rw [hyes] at hj
        conv => whnf
        refine ⟨List.range 18, by kernel_rfl, ?_⟩
        conv => whnf
        refine ⟨by omega, rows_len rAtom_len _, ?_⟩
        conv => whnf
        refine ⟨_, takeN_rp_field (k := i) (d := 1) (m := 1) (r := [ints q.2[i].2]) rAtom_len hil (by omega) rfl, ?_⟩
        conv => whnf
        refine ⟨by omega, rows_len rFact_len _, ?_⟩
        conv => whnf
        refine ⟨_, takeN_rp_field (k := k) (d := 1) (m := 1) (r := [ints db[k].2]) rFact_len hk (by omega) rfl, ?_⟩
        conv => whnf
        refine ⟨_, l6Bind_spec q.2[i].2 db[k].2 b (by omega) h3 hta, .inl rfl, .inl ?_⟩
        conv => whnf
        rw [roVs_ci]
        generalize hmc : bindGo q.2[i].2 db[k].2 b = mb at hj
        obtain ⟨b2, ok⟩ := mb
        cases ok with
        | false =>
          conv => whnf
          simp only [Bool.false_eq_true, if_false, List.map_nil, List.append_nil] at hj
          exact ⟨m - 1, by omega, k + 1, _, [], wrap_id (by omega) (by omega), by omega, by simp, hj, .inl ⟨rfl, by kernel_rfl⟩⟩
        | true =>
          conv => whnf
          simp only [if_true] at hj
          rw [hwi]
          refine .inr (.inr ⟨[0, 1], [], ?_⟩)
          conv => whnf
          refine ⟨_, ih (i + 1) (by omega) b2 outs (by omega), fun r g2 hP => ?_⟩
          obtain ⟨rfl, hv⟩ := hP
          have hvl := visitL_len db (q.2.drop (i + 1)) b2
          rw [List.length_drop, show q.2.length - (i + 1) = n from by omega] at hvl
          rcases hv with ⟨hn0, rfl⟩ | rfl
          · refine .inl ?_
            conv => whnf
            rw [hn0, List.append_nil] at hj
            exact ⟨m - 1, by omega, k + 1, _, [], wrap_id (by omega) (by omega), by omega, by simp, hj, .inl ⟨rfl, by kernel_rfl⟩⟩
          · refine .inl ?_
            conv => whnf
            refine ⟨m - 1, by omega, k + 1, _, [] ++ (visitL db (q.2.drop (i + 1)) b2).map sV, wrap_id (by omega) (by omega), by omega, ?_, hj, .inr ?_⟩
            · simp only [List.length_append, List.length_map, List.length_nil] at hnl ⊢
              omega
            · kernel_rfl
      · conv => whnf
        rw [drop_end (xs := db) (by omega)] at hj
        simp only [List.flatMap_nil, List.map_nil, List.append_nil] at hj
        refine ⟨[], ?_⟩
        conv => whnf
        exact ⟨rfl, .inl ⟨hj, rfl⟩⟩
    · conv => whnf
      split <;> rename_i h1
      all_goals simp only [decide_eq_true_eq, decide_eq_false_iff_not] at h1
      · conv => whnf
        have hk : k < db.length := by omega
        have hb1 := sumB_one (f := cAtom) hil
        have hcb1 : cAtom q.2[i] = q.2[i].2.length := rfl
        have hb2 := sumB_one (f := cFact) hk
        have hcb2 : cFact db[k] = db[k].2.length := rfl
        have hta := ht _ (List.getElem_mem hil)
        have hwi : IntKind.i64.wrap ((i : Int) + 1) = ((i + 1 : Nat) : Int) := by rw [wrap_id (by omega) (by omega)]; omega
        have hpw : db.length ^ (n + 1) = db.length ^ n * db.length := Nat.pow_succ ..
        have hkm : db.length ^ n * (k + 1) ≤ db.length ^ n * db.length := Nat.mul_le_mul_left _ hk
        have hk1 : db.length ^ n * (k + 1) = k * db.length ^ n + db.length ^ n := by rw [Nat.mul_add, Nat.mul_one, Nat.mul_comm]
        have hk2 : (k + 1) * db.length ^ n = k * db.length ^ n + db.length ^ n := by rw [Nat.add_mul, Nat.one_mul]
        rw [List.drop_eq_getElem_cons hk, List.flatMap_cons, List.map_append, ← List.append_assoc] at hj
        refine ⟨List.range 28, by kernel_rfl, ?_⟩
        conv => whnf
        refine ⟨by omega, rows_len rFact_len _, ?_⟩
        conv => whnf
        refine ⟨_, takeN_rp_field (k := k) (d := 0) (m := 1) (r := [ci db[k].1]) rFact_len hk (by omega) rfl, ?_⟩
        conv => whnf
        refine ⟨by omega, rows_len rAtom_len _, ?_⟩
        conv => whnf
        refine ⟨_, takeN_rp_field (k := i) (d := 0) (m := 1) (r := [ci q.2[i].1]) rAtom_len hil (by omega) rfl, ?_⟩
        conv => whnf
        generalize hc1 : (db[k].1 != q.2[i].1) = c1
        cases c1 with
        | true =>
          have h2 : ¬ q.2[i].1 = db[k].1 := fun h => by rw [h] at hc1; simp at hc1
          have hno : mch b q.2[i] db[k] = (b, false) := by rw [mch, if_neg (fun h => h2 h.1)]
          rw [hno] at hj
          simp only [Bool.false_eq_true, if_false, List.map_nil, List.append_nil] at hj
          conv => whnf
          exact ⟨m - 1, by omega, k + 1, _, new, wrap_id (by omega) (by omega), by omega, by omega, hj, .inr (by kernel_rfl)⟩
        | false =>
        have h2 : q.2[i].1 = db[k].1 := by have : db[k].1 = q.2[i].1 := by simpa using hc1
                                           exact this.symm
        conv => whnf
        refine ⟨by omega, rows_len rFact_len _, ?_⟩
        conv => whnf
        refine ⟨_, takeN_rp_field (k := k) (d := 1) (m := 1) (r := [ints db[k].2]) rFact_len hk (by omega) rfl, ?_⟩
        conv => whnf
        refine ⟨by omega, rows_len rAtom_len _, ?_⟩
        conv => whnf
        refine ⟨_, takeN_rp_field (k := i) (d := 1) (m := 1) (r := [ints q.2[i].2]) rAtom_len hil (by omega) rfl, ?_⟩
        conv => whnf
        generalize hc2 : ((db[k].2.length : Int) != (q.2[i].2.length : Int)) = c2
        cases c2 with
        | true =>
          have h3 : ¬ q.2[i].2.length = db[k].2.length := fun h => by rw [h] at hc2; simp at hc2
          have hno : mch b q.2[i] db[k] = (b, false) := by rw [mch, if_neg (fun h => h3 h.2)]
          rw [hno] at hj
          simp only [Bool.false_eq_true, if_false, List.map_nil, List.append_nil] at hj
          conv => whnf
          exact ⟨m - 1, by omega, k + 1, _, new, wrap_id (by omega) (by omega), by omega, by omega, hj, .inr (by kernel_rfl)⟩
        | false =>
        have h3 : q.2[i].2.length = db[k].2.length := by
          have : (db[k].2.length : Int) = q.2[i].2.length := by simpa using hc2
          omega
        have hyes : mch b q.2[i] db[k] = bindGo q.2[i].2 db[k].2 b := by rw [mch, if_pos ⟨h2, h3⟩]
        rw [hyes] at hj
        conv => whnf
        refine ⟨List.range 18, by kernel_rfl, ?_⟩
        conv => whnf
        refine ⟨by omega, rows_len rAtom_len _, ?_⟩
        conv => whnf
        refine ⟨_, takeN_rp_field (k := i) (d := 1) (m := 1) (r := [ints q.2[i].2]) rAtom_len hil (by omega) rfl, ?_⟩
        conv => whnf
        refine ⟨by omega, rows_len rFact_len _, ?_⟩
        conv => whnf
        refine ⟨_, takeN_rp_field (k := k) (d := 1) (m := 1) (r := [ints db[k].2]) rFact_len hk (by omega) rfl, ?_⟩
        conv => whnf
        refine ⟨_, l6Bind_spec q.2[i].2 db[k].2 b (by omega) h3 hta, .inl rfl, .inl ?_⟩
        conv => whnf
        rw [roVs_ci]
        generalize hmc : bindGo q.2[i].2 db[k].2 b = mb at hj
        obtain ⟨b2, ok⟩ := mb
        cases ok with
        | false =>
          conv => whnf
          simp only [Bool.false_eq_true, if_false, List.map_nil, List.append_nil] at hj
          exact ⟨m - 1, by omega, k + 1, _, new, wrap_id (by omega) (by omega), by omega, by omega, hj, .inr (by kernel_rfl)⟩
        | true =>
          conv => whnf
          simp only [if_true] at hj
          rw [hwi]
          refine .inr (.inr ⟨[0, 3], [], ?_⟩)
          conv => whnf
          refine ⟨_, ih (i + 1) (by omega) b2 (outs ++ new) (by rw [List.length_append]; omega), fun r g2 hP => ?_⟩
          obtain ⟨rfl, hv⟩ := hP
          have hvl := visitL_len db (q.2.drop (i + 1)) b2
          rw [List.length_drop, show q.2.length - (i + 1) = n from by omega] at hvl
          rcases hv with ⟨hn0, rfl⟩ | rfl
          · refine .inl ?_
            conv => whnf
            rw [hn0, List.append_nil] at hj
            exact ⟨m - 1, by omega, k + 1, _, new, wrap_id (by omega) (by omega), by omega, by omega, hj, .inr (by kernel_rfl)⟩
          · refine .inl ?_
            conv => whnf
            refine ⟨m - 1, by omega, k + 1, _, new ++ (visitL db (q.2.drop (i + 1)) b2).map sV, wrap_id (by omega) (by omega), by omega, ?_, hj, .inr ?_⟩
            · simp only [List.length_append, List.length_map, List.length_nil] at hnl ⊢
              omega
            · rw [← List.append_assoc]; kernel_rfl
      · conv => whnf
        rw [drop_end (xs := db) (by omega)] at hj
        simp only [List.flatMap_nil, List.map_nil, List.append_nil] at hj
        refine ⟨[], ?_⟩
        conv => whnf
        rw [hj]
        exact ⟨rfl, .inr rfl⟩
end Go.Proofs.YtiagnjkaokhcfaaGreatD
