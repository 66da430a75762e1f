/- The law FnMinimal: true for every input. -/
import Derived.Test.YthfjngmbdbocbaaFLawSmall
import Derived.Test.YthfjngmbdbocbaaFDraw12
import Derived.Test.YthfjngmbdbocbaaFMinM
import Derived.Test.YthfjngmbdbocbaaFDedupeAtoms2
set_option linter.unusedVariables false
set_option linter.unusedSimpArgs false
set_option maxRecDepth 100000
namespace Go.Proofs.YthfjngmbdbocbaaD
open Go Go.Proofs

def exMin : Exs := { ex := fun f => Nat.beq f 58 || Nat.beq f 63 || Nat.beq f 65 || Nat.beq f 68, hid := fun _ => false, cut := fun k => Nat.beq k 7 || Nat.beq k 9 || Nat.beq k 12 || Nat.beq k 16 }
noncomputable def rgI7 : Array Oper := regOps Try.f6 7
noncomputable def rgI9 : Array Oper := regOps Try.f6 9
noncomputable def rgI12 : Array Oper := regOps Try.f6 12
noncomputable def rgI16 : Array Oper := regOps Try.f6 16
theorem share {X G : Prop} (hx : X) (h : X → G) : G := h hx
theorem wt_ro (p : QueryR × Bool) : roV (wt p) = .tup [vQuery p.1, cb p.2] := by
  show V.tup [roV _, roV _] = _
  rw [wQuery_ro]
  rfl
theorem dd_size2 {q : QueryC} (h : cQuery q ≤ 1048576) : cQuery (pDedupeAtoms q) ≤ 1048576 := by
  obtain ⟨h1, h2⟩ := dedup_bound cAtom q.2
  unfold cQuery cAtomS at h
  show q.1.length + ((dedup q.2).length + sumB cAtom (dedup q.2)) ≤ _
  omega
def sCut (x0 : List Int) (s : List Int) (q : QueryW) : St := ⟨144, [(0, .ro x0.length (rows cu8 x0)), (2, cb false), (3, .ptr 0 0), (4, .ptr 1 0)], [some ⟨true, [ints s]⟩, some ⟨true, rQuery q⟩]⟩
set_option maxHeartbeats 16000000 in
theorem law_FnMinimal (x0 : List Int) (q0 : x0.length ≤ maxLen ∧ ∀ x ∈ x0, (Lit.int .u8 x).wf = true) : Spec Try.prog 6 [.ro x0.length (rows (fun x => [.sc (.int .u8 x)]) x0)] (cb true) := by
  show Spec Try.prog 6 [.ro x0.length (rows cu8 x0)] (cb true)
  refine Spec_ofE (ex := exMin) mx Γ_ok Try.func6 rfl ?_
  conv => whnf
  refine ⟨_, big_spec x0, .inl rfl, .inl ?_⟩
  conv => whnf
  generalize hb : decide ((x0.length : Int) > 1048576) = b
  cases b with
  | true =>
    conv => whnf
    rfl
  | false =>
  have hl : x0.length ≤ 1099511627776 := by have := of_decide_eq_false hb; omega
  conv => whnf
  refine .inr (.inr ⟨[], [], ?_⟩)
  conv => whnf
  refine ⟨_, drawMinimizeQuery_g x0 hl, fun r g2 hP => ?_⟩
  obtain ⟨s, q, rfl, hs, hq, rfl⟩ := hP
  have hqs := qSm_size hq
  have hss : cSchema s ≤ 1048576 := by show s.length ≤ _; omega
  refine .inl ?_
  rw [show roV (.tup [vSchema s, wQuery q]) = .tup [vSchema s, vQuery q] from by show V.tup [roV _, roV _] = _; rw [wQuery_ro, ints_roV]]
  conv => whnf
  apply share
  case h =>
    intro hrest
    have hXs : cQuery (pMinimizeQuery s q) ≤ 1048576 := minz_bound _ q 0 hqs
    refine ⟨_, implMinimizeQuery_gen s q hss hqs, .inl rfl, .inl ?_⟩
    rw [wQuery_ro]
    conv => whnf
    refine ⟨[0, 1, 2, 3, 4, 5], by kernel_rfl, ?_⟩
    conv => whnf
    refine ⟨_, specMinimizeQuery_gen s q hss hqs, .inl rfl, .inl ?_⟩
    rw [wQuery_ro]
    conv => whnf
    refine ⟨_, specEqualQueries_spec (pMinimizeQuery s q) (pMinimizeQuery s q) hXs hXs, .inl rfl, .inl ?_⟩
    rw [decide_eq_true rfl]
    conv => whnf
    refine ⟨[(0,0),(2,0),(3,0),(4,0),(5,0)], [], ⟨144, [(0, .ro x0.length (rows cu8 x0)), (2, cb false), (3, .ptr 0 0), (4, .ptr 1 0), (5, .ptr 2 0)], [some ⟨true, [ints s]⟩, some ⟨true, rQuery q⟩, some ⟨true, rQuery (pMinimizeQuery s q)⟩]⟩, rgI7, by kernel_rfl, by kernel_rfl, ?_⟩
    conv => whnf
    refine ⟨[0, 1, 2, 3, 4, 5, 6, 7, 8, 9, 10, 11, 12, 13, 14, 15, 16, 17, 18, 19, 20, 21, 22, 23, 24, 25, 26, 28, 27, 29, 30, 31, 32, 3999], by kernel_rfl, ?_⟩
    conv => whnf
    refine ⟨_, specIsQuery_spec s q hss hqs, .inl rfl, .inl ?_⟩
    generalize hb : isQuery s q = b
    cases b with
    | false =>
      conv => whnf
      refine ⟨[(0,0),(2,0),(3,0),(4,0)], [], sCut x0 s q, rgI9, by kernel_rfl, by kernel_rfl, ?_⟩
      exact hrest
    | true =>
      obtain ⟨m1, m2, m3, m4, m5, m6, _⟩ := min_facts hb
      conv => whnf
      refine ⟨_, implIsEquivalent_spec s (pMinimizeQuery s q) q hss hXs hqs, .inl rfl, .inl ?_⟩
      rw [m2, m3]
      conv => whnf
      refine ⟨_, implIsMinimal_gen s (pMinimizeQuery s q) hss hXs, .inl rfl, .inl ?_⟩
      rw [m6]
      conv => whnf
      rw [decide_eq_false (p := ((pMinimizeQuery s q).2.length : Int) > (q.2.length : Int)) (by omega)]
      conv => whnf
      refine ⟨_, implMinimizeQuery_gen s (pMinimizeQuery s q) hss hXs, .inl rfl, .inl ?_⟩
      rw [m5, wQuery_ro]
      conv => whnf
      refine ⟨_, specEqualQueries_spec (pMinimizeQuery s q) (pMinimizeQuery s q) hXs hXs, .inl rfl, .inl ?_⟩
      rw [decide_eq_true rfl]
      conv => whnf
      refine ⟨[(0,0),(2,0),(3,0),(4,0)], [], sCut x0 s q, rgI9, by kernel_rfl, by kernel_rfl, ?_⟩
      exact hrest
  case hx =>
  conv => whnf
  apply share
  case h =>
    intro hrest
    refine .inr (.inr ⟨[], [], ?_⟩)
    conv => whnf
    refine ⟨_, drawIsEquivalent_g x0 hl, fun r g2 hP => ?_⟩
    obtain ⟨t, a, b, hr, ht, ha, hb, rfl⟩ := hP
    have hts : cSchema t ≤ 1048576 := by show t.length ≤ _; omega
    refine .inl ?_
    rw [hr]
    conv => whnf
    refine ⟨[0, 1, 2, 3, 4, 5, 6, 7, 9, 10, 8, 11, 12, 13, 14], by kernel_rfl, ?_⟩
    conv => whnf
    refine ⟨_, specIsEquivalent_spec t a b hts ha hb, .inl rfl, .inl ?_⟩
    generalize he : (contP t a b && contP t b a) = e
    cases e with
    | false =>
      conv => whnf
      refine ⟨[(0,0),(2,0),(3,0),(4,0)], [], sCut x0 s q, rgI12, by kernel_rfl, by kernel_rfl, ?_⟩
      exact hrest
    | true =>
      conv => whnf
      have ha2 : cQuery (pMinimizeQuery t a) ≤ 1048576 := minz_bound _ a 0 ha
      have hb2 : cQuery (pMinimizeQuery t b) ≤ 1048576 := minz_bound _ b 0 hb
      refine ⟨_, implMinimizeQuery_gen t a hts ha, .inl rfl, .inl ?_⟩
      rw [wQuery_ro]
      conv => whnf
      refine ⟨_, implMinimizeQuery_gen t b hts hb, .inl rfl, .inl ?_⟩
      rw [wQuery_ro]
      conv => whnf
      refine ⟨_, implIsIsomorphic_gen t (pMinimizeQuery t a) (pMinimizeQuery t b) hts ha2 hb2, .inl rfl, .inl ?_⟩
      rw [min_iso he]
      conv => whnf
      refine ⟨[(0,0),(2,0),(3,0),(4,0)], [], sCut x0 s q, rgI12, by kernel_rfl, by kernel_rfl, ?_⟩
      exact hrest
  case hx =>
    conv => whnf
    refine .inr (.inr ⟨[], [], ?_⟩)
    conv => whnf
    refine ⟨_, drawIsRedundant_g x0 hl, fun r g2 hP => ?_⟩
    obtain ⟨u, r, i, rfl, hu, hr, rfl⟩ := hP
    have hrs := qSm_size hr
    have hus : cSchema u ≤ 1048576 := by show u.length ≤ _; omega
    refine .inl ?_
    rw [show roV (.tup [vSchema u, wQuery r, ci i]) = .tup [vSchema u, vQuery r, ci i] from by show V.tup [roV _, roV _, _] = _; rw [wQuery_ro, ints_roV]; rfl]
    conv => whnf
    refine ⟨_, implWithoutAtom_spec u r i hus hrs, .inl rfl, .inl ?_⟩
    rw [wt_ro]
    conv => whnf
    refine ⟨_, specWithoutAtom_spec u r i hus hrs, .inl rfl, .inl ?_⟩
    rw [wt_ro]
    conv => whnf
    refine .inr (.inr ⟨[], [], ?_⟩)
    conv => whnf
    refine ⟨_, drawDedupeAtoms_g x0 hl, fun rr g2 hP => ?_⟩
    obtain ⟨d, hd, hds, rfl⟩ := hP
    refine .inl ?_
    rw [hd]
    conv => whnf
    refine ⟨[(2,0),(3,0),(4,0),(9,0),(10,0),(11,0),(12,0),(13,0),(14,0),(15,0),(16,0)], [], ⟨144, [(2, cb false), (3, .ptr 0 0), (4, .ptr 1 0), (9, .ptr 2 0), (10, .ptr 3 0), (11, ci i), (12, .ptr 4 0), (13, cb (pWithoutAtom u r i).2), (14, .ptr 5 0), (15, cb (pWithoutAtom u r i).2), (16, .ptr 6 0)], [some ⟨true, [ints s]⟩, some ⟨true, rQuery q⟩, some ⟨true, [ints u]⟩, some ⟨true, rQuery r⟩, some ⟨true, rQuery (pWithoutAtom u r i).1⟩, some ⟨true, rQuery (pWithoutAtom u r i).1⟩, some ⟨true, rQuery d⟩]⟩, rgI16, by kernel_rfl, by kernel_rfl, ?_⟩
    conv => whnf
    refine ⟨[0, 1, 2, 3, 4, 5, 6, 7, 8, 9, 10, 11, 13, 14, 15, 12, 16, 17, 18, 19, 20, 22, 21, 23, 24, 25, 26, 27, 28, 30, 31, 29, 32, 33, 34, 35, 3999], by kernel_rfl, ?_⟩
    conv => whnf
    rw [beq_self_eq_true]
    conv => whnf
    have hps : cQuery (pWithoutAtom u r i).1 ≤ 1048576 := pWithoutAtom_bound u r i hrs
    refine ⟨_, specEqualQueries_spec (pWithoutAtom u r i).1 (pWithoutAtom u r i).1 hps hps, .inl rfl, .inl ?_⟩
    rw [decide_eq_true rfl]
    conv => whnf
    refine ⟨_, implIsRedundant_spec u r i hus hrs, .inl rfl, .inl ?_⟩
    conv => whnf
    refine ⟨_, specIsRedundant_spec u r i hus hrs, .inl rfl, .inl ?_⟩
    conv => whnf
    rw [beq_self_eq_true]
    conv => whnf
    refine ⟨_, implDedupeAtoms_spec d hds, .inl rfl, .inl ?_⟩
    rw [wQuery_ro]
    conv => whnf
    refine ⟨_, specDedupeAtoms_spec d hds, .inl rfl, .inl ?_⟩
    rw [wQuery_ro]
    conv => whnf
    have hdd := dd_size2 hds
    refine ⟨_, specEqualQueries_spec (pDedupeAtoms d) (pDedupeAtoms d) hdd hdd, .inl rfl, .inl ?_⟩
    rw [decide_eq_true rfl]
    conv => whnf
    refine ⟨_, implIsMinimal_gen s q hss hqs, .inl rfl, .inl ?_⟩
    conv => whnf
    refine ⟨_, specIsMinimal_gen s q hss hqs, .inl rfl, .inl ?_⟩
    conv => whnf
    rw [beq_self_eq_true]
    conv => whnf
    rfl
end Go.Proofs.YthfjngmbdbocbaaD
