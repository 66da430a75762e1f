/- The law FnNormal: true for every input. -/
import Derived.Test.YthfjngmbdbocbaaFLawSmall
import Derived.Test.YthfjngmbdbocbaaFDraw11
import Derived.Test.YthfjngmbdbocbaaFNormM
set_option linter.unusedVariables false
set_option linter.unusedSimpArgs false
set_option maxRecDepth 100000
namespace Go.Proofs.YthfjngmbdbocbaaD
open Go Go.Proofs

def exNormal : Exs := { ex := fun f => Nat.beq f 45 || Nat.beq f 50 || Nat.beq f 51 || Nat.beq f 52, hid := fun _ => false, cut := fun k => Nat.beq k 12 || Nat.beq k 15 }
noncomputable def rgM12 : Array Oper := regOps Try.f5 12
noncomputable def rgM15 : Array Oper := regOps Try.f5 15
theorem bne_selfB (b : Bool) : (b != b) = false := by cases b <;> rfl
theorem bne_selfI (x : Int) : (x != x) = false := by simp
theorem share {X G : Prop} (hx : X) (h : X → G) : G := h hx
theorem nfT_ro (X : QueryW) (b : Bool) : roV (.tup [wQuery X, cb b]) = .tup [vQuery X, cb b] := by
  show V.tup [roV _, roV _] = _
  rw [wQuery_ro]
  rfl
set_option maxHeartbeats 8000000 in
theorem law_FnNormal (x0 : List Int) (q0 : x0.length ≤ maxLen ∧ ∀ x ∈ x0, (Lit.int .u8 x).wf = true) : Spec Try.prog 5 [.ro x0.length (rows (fun x => [.sc (.int .u8 x)]) x0)] (cb true) := by
  show Spec Try.prog 5 [.ro x0.length (rows cu8 x0)] (cb true)
  refine Spec_ofE (ex := exNormal) mx Γ_ok Try.func5 rfl ?_
  conv => whnf
  refine ⟨_, big_spec x0, .inl rfl, .inl ?_⟩
  conv => whnf
  generalize hb : decide ((x0.length : Int) > 1048576) = b
  cases b with
  | true =>
    conv => whnf
    rfl
  | false =>
  have hl : x0.length ≤ 1099511627776 := by have := of_decide_eq_false hb; omega
  conv => whnf
  apply share
  case h =>
    intro hrest
    refine .inr (.inr ⟨[], [], ?_⟩)
    conv => whnf
    refine ⟨_, drawNormalForm_g x0 hl, fun r g2 hP => ?_⟩
    obtain ⟨s, q, rfl, hs, hq, rfl⟩ := hP
    have hqs := qSm_size hq
    have hss : cSchema s ≤ 1048576 := by show s.length ≤ _; omega
    refine .inl ?_
    rw [show roV (.tup [vSchema s, wQuery q]) = .tup [vSchema s, vQuery q] from by show V.tup [roV _, roV _] = _; rw [wQuery_ro, ints_roV]]
    conv => whnf
    obtain ⟨X, hX⟩ : ∃ X, X = (if isQuery s q then normQ q else ([], [])) := ⟨_, rfl⟩
    have hN : Spec Try.prog 46 [vSchema s, vQuery q] (.tup [wQuery X, cb (isQuery s q)]) := by rw [hX]; exact implNormalForm_spec s q hss hqs
    have hN2 : Spec Try.prog 47 [vSchema s, vQuery q] (.tup [wQuery X, cb (isQuery s q)]) := by rw [hX]; exact specNormalForm_spec s q hss hqs
    have hXs : cQuery X ≤ 1048576 := by rw [hX]; exact nf_size s q hqs
    refine ⟨_, hN, .inl rfl, .inl ?_⟩
    rw [nfT_ro]
    conv => whnf
    refine ⟨_, hN2, .inl rfl, .inl ?_⟩
    rw [nfT_ro]
    conv => whnf
    rw [bne_selfB]
    conv => whnf
    refine ⟨_, specEqualQueries_spec X X hXs hXs, .inl rfl, .inl ?_⟩
    rw [decide_eq_true rfl]
    generalize hb : isQuery s q = b at hX
    cases b with
    | false =>
      conv => whnf
      refine ⟨[(0,0),(2,0)], ⟨124, [(0, .ro x0.length (rows cu8 x0)), (2, cb false)], []⟩, rgM12, by kernel_rfl, by kernel_rfl, ?_⟩
      exact hrest
    | true =>
      rw [if_pos rfl] at hX
      subst hX
      obtain ⟨n1, n2, n3, n4, n5⟩ := nf_facts hb
      have hN3 : Spec Try.prog 46 [vSchema s, vQuery (normQ q)] (.tup [wQuery (normQ q), cb true]) := by
        have := implNormalForm_spec s (normQ q) hss hXs
        rw [n1, if_pos rfl, n2] at this
        exact this
      have hI : pIsIsomorphic s (normQ q) q = true := by
        unfold pIsIsomorphic pNormalForm
        simp only [n1, hb, if_true, n2, decide_true, Bool.and_self]
      conv => whnf
      refine ⟨_, hN3, .inl rfl, .inl ?_⟩
      rw [nfT_ro]
      conv => whnf
      refine ⟨_, specEqualQueries_spec (normQ q) (normQ q) hXs hXs, .inl rfl, .inl ?_⟩
      rw [decide_eq_true rfl]
      conv => whnf
      refine ⟨_, implIsIsomorphic_gen s (normQ q) q hss hXs hqs, .inl rfl, .inl ?_⟩
      rw [hI]
      conv => whnf
      refine ⟨_, implIsEquivalent_spec s (normQ q) q hss hXs hqs, .inl rfl, .inl ?_⟩
      rw [n3, n4]
      conv => whnf
      rw [n5, bne_selfI]
      conv => whnf
      refine ⟨[(0,0),(2,0)], ⟨124, [(0, .ro x0.length (rows cu8 x0)), (2, cb false)], []⟩, rgM12, by kernel_rfl, by kernel_rfl, ?_⟩
      exact hrest
  case hx =>
    conv => whnf
    refine .inr (.inr ⟨[], [], ?_⟩)
    conv => whnf
    refine ⟨_, drawIsIsomorphic_g x0 hl, fun r g2 hP => ?_⟩
    obtain ⟨t, a, b, hr, ht, ha, hb, rfl⟩ := hP
    have hts : cSchema t ≤ 1048576 := by show t.length ≤ _; omega
    refine .inl ?_
    rw [hr]
    conv => whnf
    refine .inr (.inr ⟨[], [], ?_⟩)
    conv => whnf
    refine ⟨_, drawFirstNames_g x0 hl, fun r g2 hP => ?_⟩
    obtain ⟨f, rfl, hf, rfl⟩ := hP
    have hfs := qSm_size hf
    refine .inl ?_
    rw [wQuery_ro]
    conv => whnf
    refine .inr (.inr ⟨[], [], ?_⟩)
    conv => whnf
    refine ⟨_, drawQueryCode_g x0 hl, fun r g2 hP => ?_⟩
    obtain ⟨g, rfl, hg, rfl⟩ := hP
    have hgs := qSm_size hg
    refine .inl ?_
    rw [wQuery_ro]
    conv => whnf
    refine ⟨[(2,0),(11,0),(12,0),(13,0),(14,0),(15,0)], ⟨124, [(2, cb false), (11, .ptr 0 0), (12, .ptr 1 0), (13, .ptr 2 0), (14, .ptr 3 0), (15, .ptr 4 0)], [some ⟨true, [ints t]⟩, some ⟨true, rQuery a⟩, some ⟨true, rQuery b⟩, some ⟨true, rQuery f⟩, some ⟨true, rQuery g⟩]⟩, rgM15, by kernel_rfl, by kernel_rfl, ?_⟩
    conv => whnf
    refine ⟨[0, 1, 2, 4, 5, 6, 3, 7, 8, 9, 10, 11, 12, 13, 14, 15, 16, 17, 18, 19, 20, 21, 22, 23, 25, 24, 26, 27, 28, 29, 30, 32, 31, 33, 34, 35, 36, 3999], by kernel_rfl, ?_⟩
    conv => whnf
    refine ⟨_, implIsIsomorphic_gen t a b hts ha hb, .inl rfl, .inl ?_⟩
    conv => whnf
    refine ⟨_, specIsIsomorphic_gen t a b hts ha hb, .inl rfl, .inl ?_⟩
    conv => whnf
    rw [beq_self_eq_true]
    conv => whnf
    refine ⟨_, implIsIsomorphic_gen t a b hts ha hb, .inl rfl, .inl ?_⟩
    generalize hi : pIsIsomorphic t a b = i
    cases i
    focus
      conv => whnf
    rotate_left 1
    focus
      conv => whnf
      refine ⟨_, implIsEquivalent_spec t a b hts ha hb, .inl rfl, .inl ?_⟩
      rw [iso_equiv hi]
      conv => whnf
    all_goals
      refine ⟨_, implFirstNames_spec f hfs, .inl rfl, .inl ?_⟩
      rw [wQuery_ro]
      conv => whnf
      refine ⟨_, specFirstNames_spec f hfs, .inl rfl, .inl ?_⟩
      rw [wQuery_ro]
      conv => whnf
      have hns : cQuery (nmQ f) ≤ 1048576 := by rw [nmQ_size]; exact hfs
      refine ⟨_, specEqualQueries_spec (nmQ f) (nmQ f) hns hns, .inl rfl, .inl ?_⟩
      rw [decide_eq_true rfl]
      conv => whnf
      refine ⟨_, implQueryCode_gen g hgs, .inl rfl, .inl ?_⟩
      rw [intsT_ro]
      conv => whnf
      refine ⟨_, specQueryCode_gen g hgs, .inl rfl, .inl ?_⟩
      rw [intsT_ro]
      conv => whnf
      have hcl := small_QueryCode g hgs
      refine ⟨_, sameInts_spec (pQueryCode g) (pQueryCode g) (by omega) (by omega), .inl rfl, .inl ?_⟩
      rw [decide_eq_true rfl]
      conv => whnf
      rfl
end Go.Proofs.YthfjngmbdbocbaaD
