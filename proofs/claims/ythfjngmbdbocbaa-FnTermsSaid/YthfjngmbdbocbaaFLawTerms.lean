/- The law FnTerms: true for every input. -/
import Derived.Test.YthfjngmbdbocbaaFLawSmall
import Derived.Test.YthfjngmbdbocbaaFDraw8
import Derived.Test.YthfjngmbdbocbaaFEqQ
import Derived.Test.YthfjngmbdbocbaaFUnfold1
import Derived.Test.YthfjngmbdbocbaaFUnfold2
set_option linter.unusedVariables false
set_option linter.unusedSimpArgs false
set_option maxRecDepth 100000
namespace Go.Proofs.YthfjngmbdbocbaaD
open Go Go.Proofs

theorem rep1_ne {a b : Int} (h : a ≠ b) (x : Int) : rep1 a b x ≠ a := by
  unfold rep1
  by_cases hx : x = a
  · rw [hx]; simp; exact fun e => h e.symm
  · rw [if_neg (by simpa using hx)]; exact hx
theorem has_rep {a b : Int} (h : a ≠ b) (xs : List Int) : has (xs.map (rep1 a b)) a = false := by
  rw [Bool.eq_false_iff]
  intro hc
  simp only [has, List.any_eq_true, List.mem_map, eqV, beq_iff_eq] at hc
  obtain ⟨_, ⟨x, _, rfl⟩, hx⟩ := hc
  exact rep1_ne h x hx
theorem has_varsOf_rep (q : QueryT) {a b : Int} (h : a ≠ b) : has (varsOf (pReplaceTerm q a b)) a = false := by
  rw [Bool.eq_false_iff]
  intro hc
  simp only [has, List.any_eq_true, varsOf, varsTo, List.mem_map, List.mem_filter, List.mem_range, eqV, beq_iff_eq] at hc
  obtain ⟨_, ⟨v, ⟨_, hv⟩, rfl⟩, hx⟩ := hc
  have hx' : (v : Int) = a := hx
  unfold pvar at hv
  rw [hx'] at hv
  have h1 : occurs (pReplaceTerm q a b) a = false := by
    rw [Bool.eq_false_iff]
    intro ho
    simp only [occurs, List.any_eq_true] at ho
    obtain ⟨x, hm, hh⟩ := ho
    obtain ⟨y, _, rfl⟩ := List.mem_map.1 hm
    have : hasA a (repA a b y) = false := has_rep h y.2
    rw [this] at hh
    cases hh
  have h2 : has (pReplaceTerm q a b).1 a = false := has_rep h q.1
  rw [h1, h2] at hv
  cases hv
theorem lenA_sum {f : List Int → List Int} (hf : ∀ l, (f l).length = l.length) : ∀ l : List AtomC, sumB cAtom (l.map fun a => (a.1, f a.2)) = sumB cAtom l
  | [] => rfl
  | a :: l => by
    simp only [List.map_cons, sumB, lenA_sum hf l]
    show (f a.2).length + _ = a.2.length + _
    rw [hf]
theorem ren_size (q : QueryR) (to : List Int) : cQuery (renQ to q) = cQuery q := by
  show (q.1.map _).length + ((q.2.map _).length + sumB cAtom (q.2.map fun a => (a.1, a.2.map (ren1 to)))) = q.1.length + (q.2.length + sumB cAtom q.2)
  rw [List.length_map, List.length_map, lenA_sum (f := fun l => l.map (ren1 to)) (fun l => by simp)]
def exTerms : Exs := { ex := fun f => Nat.beq f 17 || Nat.beq f 18 || Nat.beq f 26 || Nat.beq f 28 || Nat.beq f 29 || Nat.beq f 30, hid := fun _ => false, cut := fun k => Nat.beq k 8 || Nat.beq k 13 }
noncomputable def rg8 : Array Oper := regOps Try.f4 8
noncomputable def rg13 : Array Oper := regOps Try.f4 13
theorem bne_selfB (b : Bool) : (b != b) = false := by cases b <;> rfl
theorem bne_selfI (x : Int) : (x != x) = false := by simp
theorem share {X G : Prop} (hx : X) (h : X → G) : G := h hx
set_option maxHeartbeats 4000000 in
theorem law_FnTerms (x0 : List Int) (q0 : x0.length ≤ maxLen ∧ ∀ x ∈ x0, (Lit.int .u8 x).wf = true) : Spec Try.prog 4 [.ro x0.length (rows (fun x => [.sc (.int .u8 x)]) x0)] (cb true) := by
  show Spec Try.prog 4 [.ro x0.length (rows cu8 x0)] (cb true)
  refine Spec_ofE (ex := exTerms) mx Γ_ok Try.func4 rfl ?_
  conv => whnf
  refine ⟨_, big_spec x0, .inl rfl, .inl ?_⟩
  conv => whnf
  generalize hb : decide ((x0.length : Int) > 1048576) = b
  cases b with
  | true =>
    conv => whnf
    rfl
  | false =>
  have hl : x0.length ≤ 1099511627776 := by have := of_decide_eq_false hb; omega
  conv => whnf
  apply share
  case h =>
    intro hrest
    refine .inr (.inr ⟨[], [], ?_⟩)
    conv => whnf
    refine ⟨_, drawIsTerm_g x0 hl, fun r g2 hP => ?_⟩
    obtain ⟨t, rfl, rfl⟩ := hP
    refine .inl ?_
    conv => whnf
    refine .inr (.inr ⟨[], [], ?_⟩)
    conv => whnf
    refine ⟨_, drawMakeConst_g x0 hl, fun r g2 hP => ?_⟩
    obtain ⟨n, rfl, rfl⟩ := hP
    refine .inl ?_
    conv => whnf
    refine ⟨_, implMakeConst_spec n, .inl rfl, .inl ?_⟩
    conv => whnf
    refine ⟨_, implIsVar_spec t, .inl rfl, .inl ?_⟩
    conv => whnf
    refine ⟨_, specIsVar_spec t, .inl rfl, .inl ?_⟩
    conv => whnf
    rw [bne_selfB]
    conv => whnf
    refine ⟨_, implConstOf_spec t, .inl rfl, .inl ?_⟩
    conv => whnf
    refine ⟨_, specConstOf_spec t, .inl rfl, .inl ?_⟩
    conv => whnf
    rw [bne_selfI]
    conv => whnf
    refine ⟨_, implIsTerm_spec t, .inl rfl, .inl ?_⟩
    rw [isTerm_eq]
    conv => whnf
    refine ⟨_, implIsVar_spec t, .inl rfl, .inl ?_⟩
    generalize isVar t = v
    cases v
    focus
      conv => whnf
      refine ⟨_, implConstOf_spec t, .inl rfl, .inl ?_⟩
      conv => whnf
      generalize decide (constOf t ≥ 0) = d
      cases d
      all_goals conv => whnf
    rotate_left 2
    conv => whnf
    all_goals
      refine ⟨_, specMakeConst_spec n, .inl rfl, .inl ?_⟩
      conv => whnf
      rw [bne_selfI]
      conv => whnf
      generalize hm : (mkConst n != 0) = m
      cases m
      focus
        conv => whnf
      rotate_left 1
      conv => whnf
      focus
        refine ⟨_, implConstOf_spec (mkConst n), .inl rfl, .inl ?_⟩
        rw [constOf_mk (by simpa using hm)]
        conv => whnf
        rw [bne_selfI]
        conv => whnf
    all_goals
      refine ⟨[(0,0),(2,0)], ⟨159, [(0, .ro x0.length (rows cu8 x0)), (2, cb false)], []⟩, rg8, by kernel_rfl, by kernel_rfl, ?_⟩
      exact hrest
  case hx =>
    conv => whnf
    refine .inr (.inr ⟨[], [], ?_⟩)
    conv => whnf
    refine ⟨_, drawReplaceTerm_g x0 hl, fun r g2 hP => ?_⟩
    obtain ⟨q, a, b, rfl, hq, rfl⟩ := hP
    have hqs := qSm_size hq
    refine .inl ?_
    rw [show roV (.tup [wQuery q, ci a, ci b]) = .tup [vQuery q, ci a, ci b] from by show V.tup [roV _, _, _] = _; rw [wQuery_ro]; rfl]
    conv => whnf
    refine ⟨_, implReplaceTerm_spec q a b hqs, .inl rfl, .inl ?_⟩
    rw [wQuery_ro]
    conv => whnf
    refine .inr (.inr ⟨[], [], ?_⟩)
    conv => whnf
    refine ⟨_, drawRenameQuery_g x0 hl, fun r g2 hP => ?_⟩
    obtain ⟨p, to, rfl, hp, hto, rfl⟩ := hP
    have hps := qSm_size hp
    refine .inl ?_
    rw [show roV (.tup [wQuery p, intsT to]) = .tup [vQuery p, ints to] from by show V.tup [roV _, roV _] = _; rw [wQuery_ro, intsT_ro]]
    conv => whnf
    refine .inr (.inr ⟨[], [], ?_⟩)
    conv => whnf
    refine ⟨_, drawLessAtom_g x0 hl, fun r g2 hP => ?_⟩
    obtain ⟨u, w, rfl, hu, hw, rfl⟩ := hP
    refine .inl ?_
    rw [show roV (.tup [wAtom u, wAtom w]) = .tup [vAtom u, vAtom w] from by show V.tup [roV _, roV _] = _; rw [wAtom_ro, wAtom_ro]]
    conv => whnf
    refine .inr (.inr ⟨[], [], ?_⟩)
    conv => whnf
    refine ⟨_, drawIsAtom_g x0 hl, fun r g2 hP => ?_⟩
    obtain ⟨s, y, rfl, hs, hy, rfl⟩ := hP
    refine .inl ?_
    rw [show roV (.tup [vSchema s, wAtom y]) = .tup [vSchema s, vAtom y] from by show V.tup [roV _, roV _] = _; rw [wAtom_ro, ints_roV]]
    conv => whnf
    refine ⟨[(2,0),(6,0),(7,0),(8,0),(9,0),(10,0),(11,0),(12,0),(13,0),(14,0),(15,0)], ⟨159, [(2, cb false), (6, .ptr 0 0), (7, ci a), (8, ci b), (9, .ptr 1 0), (10, .ptr 2 0), (11, ints to), (12, .ptr 3 0), (13, .ptr 4 0), (14, .ptr 5 0), (15, .ptr 6 0)], [some ⟨true, rQuery q⟩, some ⟨true, rQuery (pReplaceTerm q a b)⟩, some ⟨true, rQuery p⟩, some ⟨true, rAtom u⟩, some ⟨true, rAtom w⟩, some ⟨true, [ints s]⟩, some ⟨true, rAtom y⟩]⟩, rg13, by kernel_rfl, by kernel_rfl, ?_⟩
    conv => whnf
    refine ⟨[0, 1, 2, 3, 4, 5, 6, 7, 8, 9, 10, 11, 13, 12, 14, 15, 16, 17, 18, 19, 20, 22, 23, 21, 24, 25, 26, 27, 28, 30, 29, 31, 32, 33, 34, 35, 36, 38, 39, 37, 40, 41, 42, 43, 44, 45, 46, 47, 48, 49, 50, 51, 52, 53, 54, 55, 56, 58, 59, 57, 60, 61, 62, 63, 64, 66, 65, 67, 68, 69, 70, 3999], by kernel_rfl, ?_⟩
    conv => whnf
    refine ⟨_, specReplaceTerm_spec q a b hqs, .inl rfl, .inl ?_⟩
    rw [wQuery_ro]
    conv => whnf
    have hrs : cQuery (pReplaceTerm q a b) ≤ 1048576 := by rw [rep_size]; exact hqs
    refine ⟨_, specEqualQueries_spec (pReplaceTerm q a b) (pReplaceTerm q a b) hrs hrs, .inl rfl, .inl ?_⟩
    rw [decide_eq_true rfl]
    conv => whnf
    generalize hab : (a == b) = ab
    cases ab
    focus
      conv => whnf
      refine ⟨_, implVarsOf_spec (pReplaceTerm q a b) hrs, .inl rfl, .inl ?_⟩
      rw [intsT_ro]
      conv => whnf
      refine ⟨_, lawHas_spec (varsOf (pReplaceTerm q a b)) a (Nat.le_trans (varsTo_len _ _) (by omega)), .inl rfl, .inl ?_⟩
      rw [has_varsOf_rep q (by simpa using hab)]
      conv => whnf
    rotate_left 1
    conv => whnf
    all_goals
      refine ⟨_, implRenameQuery_spec p to hps (by omega), .inl rfl, .inl ?_⟩
      rw [wQuery_ro]
      conv => whnf
      refine ⟨_, renameQuery_spec p to hps (by omega), .inl rfl, .inl ?_⟩
      rw [wQuery_ro]
      conv => whnf
      have hns : cQuery (renQ to p) ≤ 1048576 := by rw [ren_size]; exact hps
      refine ⟨_, specEqualQueries_spec (renQ to p) (renQ to p) hns hns, .inl rfl, .inl ?_⟩
      rw [decide_eq_true rfl]
      conv => whnf
      refine ⟨_, implVarsOf_spec p hps, .inl rfl, .inl ?_⟩
      rw [intsT_ro]
      conv => whnf
      refine ⟨_, specVarsOf_spec p hps, .inl rfl, .inl ?_⟩
      rw [intsT_ro]
      conv => whnf
      have hvl : (varsOf p).length ≤ 20 := varsTo_len _ _
      refine ⟨_, sameInts_spec (varsOf p) (varsOf p) (by omega) (by omega), .inl rfl, .inl ?_⟩
      rw [decide_eq_true rfl]
      conv => whnf
      refine ⟨_, implLessAtom_spec u w (by omega) (by omega), .inl rfl, .inl ?_⟩
      conv => whnf
      refine ⟨_, specLessAtom_spec u w (by omega) (by omega), .inl rfl, .inl ?_⟩
      conv => whnf
      rw [beq_self_eq_true]
      conv => whnf
      refine ⟨_, implLessAtom_spec u w (by omega) (by omega), .inl rfl, .inl ?_⟩
      generalize hlu : ltF u w = lu
      cases lu
      focus
        conv => whnf
      rotate_left 1
      focus
        conv => whnf
        refine ⟨_, implLessAtom_spec w u (by omega) (by omega), .inl rfl, .inl ?_⟩
        rw [totF.asym hlu]
        conv => whnf
      all_goals
        refine ⟨_, implIsAtom_spec s y (by omega) (by omega), .inl rfl, .inl ?_⟩
        conv => whnf
        refine ⟨_, specIsAtom_spec s y (by omega) (by omega), .inl rfl, .inl ?_⟩
        conv => whnf
        rw [beq_self_eq_true]
        conv => whnf
        refine ⟨_, implIsSchema_spec s (by omega), .inl rfl, .inl ?_⟩
        conv => whnf
        refine ⟨_, specIsSchema_spec s (by omega), .inl rfl, .inl ?_⟩
        conv => whnf
        rw [beq_self_eq_true]
        conv => whnf
        rfl
end Go.Proofs.YthfjngmbdbocbaaD
