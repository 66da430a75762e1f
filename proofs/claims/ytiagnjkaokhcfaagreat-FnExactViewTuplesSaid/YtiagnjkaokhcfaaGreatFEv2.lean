/- All bindings by which a body becomes facts: the first program's walk. -/
import Derived.Test.YtiagnjkaokhcfaaGreatFEv1
set_option linter.unusedVariables false
set_option linter.unusedSimpArgs false
set_option maxRecDepth 100000
namespace Go.Proofs.YtiagnjkaokhcfaaGreatD
open Go Go.Proofs

abbrev QueryE := List Int × List FactC
/-- A list among lists. -/
def tL (xs : List Int) : List V := [intsT xs]
theorem tL_len (xs : List Int) : (tL xs).length = 1 := rfl
theorem solid_tL (xs : List Int) : ∀ c ∈ tL xs, solid c = true := by
  intro c hc
  simp only [tL, List.mem_cons, List.not_mem_nil, or_false] at hc
  subst hc; rfl
theorem closed_intsT (xs : List Int) : closed (intsT xs) := closeds_rows (f := ciL) (fun x => ⟨trivial, trivial⟩) xs
theorem headsC_spec (b : Bnd) (q : QueryE) (outs : List (List Int)) (hq : cQuery q ≤ 1099511627776) (ho : outs.length < 1099511627776) :
    SpecG Tryz.prog 239 [.agg (bC b), .ptr 0 0, .ptr 2 0] [some ⟨true, [.own 1 1 0 outs.length outs.length none]⟩, some ⟨false, rows tL outs⟩, some ⟨true, rQuery q⟩] fun r g2 =>
      r = .tup [] ∧ g2 = [some ⟨true, [.own 3 1 0 (outs.length + 1) (outs.length + 1) none]⟩, none, some ⟨true, rQuery q⟩, some ⟨false, rows tL (outs ++ [tupOf b q.1])⟩] := by
  unfold cQuery at hq
  refine SpecG_of mx Γ_ok 3 Tryz.func239 rfl rfl (by decide) ?_
  conv => whnf
  refine ⟨[0, 1, 2, 3, 4, 5, 6], by kernel_rfl, ?_⟩
  conv => whnf
  refine ⟨_, rfl, ?_⟩
  conv => whnf
  refine ⟨_, tuple_spec b q.1 (by omega), .inr (closed_intsT _), .inr ?_⟩
  conv => whnf
  refine ⟨by rw [rows_len ciL_len, Nat.mul_one], ?_⟩
  conv => whnf
  refine ⟨_, rfl, .inr ⟨solid_tL (tupOf b q.1), ?_⟩⟩
  conv => whnf
  refine ⟨by omega, by rw [rows_len tL_len], _, snoc_rows tL _ (tupOf b q.1), ?_⟩
  conv => whnf
  refine ⟨[], ?_⟩
  conv => whnf
  exact ⟨rfl, rfl⟩
/-- All extensions of a binding by which atoms become facts. -/
def visitL (db : List FactC) : List FactC → Bnd → List Bnd
  | [], b => [b]
  | a :: r, b => db.flatMap fun f => if (mch b a f).2 then visitL db r (mch b a f).1 else []
theorem visitL_len (db : List FactC) : ∀ (body : List FactC) (b : Bnd), (visitL db body b).length ≤ db.length ^ body.length
  | [], b => by simp [visitL]
  | a :: r, b => by
    have ih := visitL_len db r
    simp only [visitL, List.length_cons, Nat.pow_succ]
    have : ∀ l : List FactC, (l.flatMap fun f => if (mch b a f).2 then visitL db r (mch b a f).1 else []).length ≤ db.length ^ r.length * l.length := by
      intro l
      induction l with
      | nil => simp
      | cons f l il =>
        rw [List.flatMap_cons, List.length_append, List.length_cons, Nat.mul_add, Nat.mul_one]
        have h1 : (if (mch b a f).2 then visitL db r (mch b a f).1 else []).length ≤ db.length ^ r.length := by
          split
          · exact ih _
          · exact Nat.zero_le _
        omega
    exact this db
/-- What the objects are behind a visit: the row of what was there, and what has come. -/
def VisOut (q : QueryE) (outs new : List (List Int)) (g2 : List (Option Obj)) : Prop :=
  (new = [] ∧ g2 = [some ⟨true, [.own 1 1 0 outs.length outs.length none]⟩, some ⟨false, rows tL outs⟩, some ⟨true, rQuery q⟩]) ∨
  (g2 = [some ⟨true, [.own 3 1 0 (outs ++ new).length (outs ++ new).length none]⟩, none, some ⟨true, rQuery q⟩, some ⟨false, rows tL (outs ++ new)⟩])
set_option maxHeartbeats 4000000 in
theorem visit_spec (q : QueryE) (body db : List FactC) (hq : cQuery q ≤ 1048576) (hb : cAtomS body ≤ 1048576) (hd : cFactS db ≤ 1048576) (ht : ∀ a ∈ body, a.2.all isTerm = true) : ∀ (n i : Nat), i + n = body.length → ∀ (b : Bnd) (outs : List (List Int)), outs.length + db.length ^ n ≤ 1099511627776 →
    SpecG Tryz.prog 163 [vAtomS body, vFactS db, .agg (bC b), ci i, .fn 239 [.ptr 0 0, .ptr 2 0]] [some ⟨true, [.own 1 1 0 outs.length outs.length none]⟩, some ⟨false, rows tL outs⟩, some ⟨true, rQuery q⟩] fun r g2 =>
      r = .tup [] ∧ VisOut q outs ((visitL db (body.drop i) b).map fun b => tupOf b q.1) g2 := by
  unfold cAtomS at hb
  unfold cFactS at hd
  intro n
  induction n with
  | zero =>
    intro i hin b outs ho
    refine SpecG_of mx Γ_ok 3 Tryz.func163 rfl rfl (by decide) ?_
    conv => whnf
    generalize hc : ((i : Int) == (body.length : Int)) = c
    have hct : c = true := by rw [← hc]; simp; omega
    subst hct
    conv => whnf
    refine .inr (.inr (.inr ⟨[0, 1, 2], [], ?_⟩))
    conv => whnf
    refine ⟨_, headsC_spec b q outs (by omega) (by simp at ho; omega), fun r g2 hP => ?_⟩
    obtain ⟨rfl, rfl⟩ := hP
    refine .inl ?_
    conv => whnf
    refine ⟨[], ?_⟩
    conv => whnf
    refine ⟨rfl, .inr ?_⟩
    rw [List.drop_eq_nil_of_le (by omega)]
    simp only [visitL, List.map_cons, List.map_nil, List.length_append, List.length_singleton]
    rfl
  | succ n ih =>
    intro i hin b outs ho
    refine SpecG_of mx Γ_ok 3 Tryz.func163 rfl rfl (by decide) ?_
    conv => whnf
    generalize hc : ((i : Int) == (body.length : Int)) = c
    have hct : c = false := by rw [← hc]; simp; omega
    subst hct
    conv => whnf
    have hil : i < body.length := by omega
    refine ⟨[(0,0),(1,0),(3,0),(4,0),(7,0),(21,0),(22,0),(23,0)], fun m s => ∃ (k : Nat) (e : Int) (new : List (List Int)), e = k ∧ m + k = db.length ∧ new.length ≤ k * db.length ^ n ∧
      ((visitL db (body.drop i) b).map fun b => tupOf b q.1) = new ++ (((db.drop k).flatMap fun f => if (mch b body[i] f).2 then visitL db (body.drop (i + 1)) (mch b body[i] f).1 else []).map fun b => tupOf b q.1) ∧
      ((new = [] ∧ s = ⟨46, [(0, vAtomS body), (1, vFactS db), (3, ci i), (4, .fn 239 [.ptr 0 0, .ptr 2 0]), (7, .ptr 3 0), (21, vFactS db), (22, ci db.length), (23, ci e)], [some ⟨true, [.own 1 1 0 outs.length outs.length none]⟩, some ⟨false, rows tL outs⟩, some ⟨true, rQuery q⟩, some ⟨true, bC b⟩]⟩) ∨
       (s = ⟨46, [(0, vAtomS body), (1, vFactS db), (3, ci i), (4, .fn 239 [.ptr 0 0, .ptr 2 0]), (7, .ptr 3 0), (21, vFactS db), (22, ci db.length), (23, ci e)], [some ⟨true, [.own 4 1 0 (outs ++ new).length (outs ++ new).length none]⟩, none, some ⟨true, rQuery q⟩, some ⟨true, bC b⟩, some ⟨false, rows tL (outs ++ new)⟩]⟩)), db.length, ⟨0, 0, [], rfl, rfl, by simp, ?_, .inl ⟨rfl, rfl⟩⟩, ?_⟩
    · rw [List.drop_eq_getElem_cons hil, visitL]
      rfl
    rintro m s ⟨k, _, new, rfl, hm, hnl, hj, hs⟩
    rcases hs with ⟨rfl, rfl⟩ | rfl
    · conv => whnf
      split <;> rename_i h1
      all_goals simp only [decide_eq_true_eq, decide_eq_false_iff_not] at h1
      · conv => whnf
        have hk : k < db.length := by omega
        have hb1 := sumB_one (f := cAtom) hil
        have hcb1 : cAtom body[i] = body[i].2.length := rfl
        have hb2 := sumB_one (f := cFact) hk
        have hcb2 : cFact db[k] = db[k].2.length := rfl
        have hta := ht _ (List.getElem_mem hil)
        have hwi : IntKind.i64.wrap ((i : Int) + 1) = ((i + 1 : Nat) : Int) := by rw [wrap_id (by omega) (by omega)]; omega
        have hpw : db.length ^ (n + 1) = db.length ^ n * db.length := Nat.pow_succ ..
        have hkm : db.length ^ n * (k + 1) ≤ db.length ^ n * db.length := Nat.mul_le_mul_left _ hk
        have hk1 : db.length ^ n * (k + 1) = k * db.length ^ n + db.length ^ n := by rw [Nat.mul_add, Nat.mul_one, Nat.mul_comm]
        have hk2 : (k + 1) * db.length ^ n = k * db.length ^ n + db.length ^ n := by rw [Nat.add_mul, Nat.one_mul]
        rw [List.drop_eq_getElem_cons hk, List.flatMap_cons, List.map_append, ← List.append_assoc] at hj
        refine ⟨by omega, rows_len rFact_len _, ?_⟩
        conv => whnf
        refine ⟨_, takeN_rp (k := k) rFact_len hk, ?_⟩
        conv => whnf
        refine ⟨[0, 1, 2, 3, 4, 5, 6, 7, 8, 9, 12, 1000, 10, 1000, 11], by kernel_rfl, ?_⟩
        conv => whnf
        refine ⟨by omega, rows_len rAtom_len _, ?_⟩
        conv => whnf
        refine ⟨_, takeN_rp (k := i) rAtom_len hil, ?_⟩
        conv => whnf
        refine ⟨_, match_spec b body[i] db[k] (by omega) (by omega) hta, .inl rfl, .inl ?_⟩
        conv => whnf
        generalize hmc : mch b body[i] db[k] = mb at hj
        obtain ⟨b2, ok⟩ := mb
        cases ok with
        | false =>
          conv => whnf
          simp only [Bool.false_eq_true, if_false, List.map_nil, List.append_nil] at hj
          exact ⟨m - 1, by omega, k + 1, _, [], wrap_id (by omega) (by omega), by omega, by simp, hj, .inl ⟨rfl, by kernel_rfl⟩⟩
        | true =>
          conv => whnf
          simp only [if_true] at hj
          rw [hwi]
          refine .inr (.inr ⟨[0, 1, 2], [], ?_⟩)
          conv => whnf
          refine ⟨_, ih (i + 1) (by omega) b2 outs (by omega), fun r g2 hP => ?_⟩
          obtain ⟨rfl, hv⟩ := hP
          have hvl := visitL_len db (body.drop (i + 1)) b2
          rw [List.length_drop, show body.length - (i + 1) = n from by omega] at hvl
          rcases hv with ⟨hn0, rfl⟩ | rfl
          · refine .inl ?_
            conv => whnf
            rw [hn0, List.append_nil] at hj
            exact ⟨m - 1, by omega, k + 1, _, [], wrap_id (by omega) (by omega), by omega, by simp, hj, .inl ⟨rfl, by kernel_rfl⟩⟩
          · refine .inl ?_
            conv => whnf
            refine ⟨m - 1, by omega, k + 1, _, [] ++ (visitL db (body.drop (i + 1)) b2).map fun b => tupOf b q.1, wrap_id (by omega) (by omega), by omega, ?_, hj, .inr ?_⟩
            · simp only [List.length_append, List.length_map, List.length_nil] at hnl ⊢
              omega
            · kernel_rfl
      · conv => whnf
        rw [drop_end (xs := db) (by omega)] at hj
        simp only [List.flatMap_nil, List.map_nil, List.append_nil] at hj
        refine ⟨[], ?_⟩
        conv => whnf
        exact ⟨rfl, .inl ⟨hj, rfl⟩⟩
    · conv => whnf
      split <;> rename_i h1
      all_goals simp only [decide_eq_true_eq, decide_eq_false_iff_not] at h1
      · conv => whnf
        have hk : k < db.length := by omega
        have hb1 := sumB_one (f := cAtom) hil
        have hcb1 : cAtom body[i] = body[i].2.length := rfl
        have hb2 := sumB_one (f := cFact) hk
        have hcb2 : cFact db[k] = db[k].2.length := rfl
        have hta := ht _ (List.getElem_mem hil)
        have hwi : IntKind.i64.wrap ((i : Int) + 1) = ((i + 1 : Nat) : Int) := by rw [wrap_id (by omega) (by omega)]; omega
        have hpw : db.length ^ (n + 1) = db.length ^ n * db.length := Nat.pow_succ ..
        have hkm : db.length ^ n * (k + 1) ≤ db.length ^ n * db.length := Nat.mul_le_mul_left _ hk
        have hk1 : db.length ^ n * (k + 1) = k * db.length ^ n + db.length ^ n := by rw [Nat.mul_add, Nat.mul_one, Nat.mul_comm]
        have hk2 : (k + 1) * db.length ^ n = k * db.length ^ n + db.length ^ n := by rw [Nat.add_mul, Nat.one_mul]
        rw [List.drop_eq_getElem_cons hk, List.flatMap_cons, List.map_append, ← List.append_assoc] at hj
        refine ⟨by omega, rows_len rFact_len _, ?_⟩
        conv => whnf
        refine ⟨_, takeN_rp (k := k) rFact_len hk, ?_⟩
        conv => whnf
        refine ⟨[0, 1, 2, 3, 4, 5, 6, 7, 8, 9, 12, 1000, 10, 1000, 11], by kernel_rfl, ?_⟩
        conv => whnf
        refine ⟨by omega, rows_len rAtom_len _, ?_⟩
        conv => whnf
        refine ⟨_, takeN_rp (k := i) rAtom_len hil, ?_⟩
        conv => whnf
        refine ⟨_, match_spec b body[i] db[k] (by omega) (by omega) hta, .inl rfl, .inl ?_⟩
        conv => whnf
        generalize hmc : mch b body[i] db[k] = mb at hj
        obtain ⟨b2, ok⟩ := mb
        cases ok with
        | false =>
          conv => whnf
          simp only [Bool.false_eq_true, if_false, List.map_nil, List.append_nil] at hj
          exact ⟨m - 1, by omega, k + 1, _, new, wrap_id (by omega) (by omega), by omega, by omega, hj, .inr (by kernel_rfl)⟩
        | true =>
          conv => whnf
          simp only [if_true] at hj
          rw [hwi]
          refine .inr (.inr ⟨[0, 4, 2], [], ?_⟩)
          conv => whnf
          refine ⟨_, ih (i + 1) (by omega) b2 (outs ++ new) (by rw [List.length_append]; omega), fun r g2 hP => ?_⟩
          obtain ⟨rfl, hv⟩ := hP
          have hvl := visitL_len db (body.drop (i + 1)) b2
          rw [List.length_drop, show body.length - (i + 1) = n from by omega] at hvl
          rcases hv with ⟨hn0, rfl⟩ | rfl
          · refine .inl ?_
            conv => whnf
            rw [hn0, List.append_nil] at hj
            exact ⟨m - 1, by omega, k + 1, _, new, wrap_id (by omega) (by omega), by omega, by omega, hj, .inr (by kernel_rfl)⟩
          · refine .inl ?_
            conv => whnf
            refine ⟨m - 1, by omega, k + 1, _, new ++ (visitL db (body.drop (i + 1)) b2).map fun b => tupOf b q.1, wrap_id (by omega) (by omega), by omega, ?_, hj, .inr ?_⟩
            · simp only [List.length_append, List.length_map, List.length_nil] at hnl ⊢
              omega
            · rw [← List.append_assoc]; kernel_rfl
      · conv => whnf
        rw [drop_end (xs := db) (by omega)] at hj
        simp only [List.flatMap_nil, List.map_nil, List.append_nil] at hj
        refine ⟨[], ?_⟩
        conv => whnf
        rw [hj]
        exact ⟨rfl, .inr rfl⟩
end Go.Proofs.YtiagnjkaokhcfaaGreatD
