/- Contracts of functions and plain laws that a proof of this seat rests on; no condition. -/
import Derived.Test.YtcjdfeafcmfgpaaGreatQ18
import Derived.Test.YtcjdfeafcmfgpaaGreatQ19
import Derived.Test.YtcjdfeafcmfgpaaGreatQ21
import Derived.Test.YtcjdfeafcmfgpaaGreatQ25
import Derived.Test.YtcjdfeafcmfgpaaGreatQ34
set_option linter.unusedVariables false
set_option linter.unusedSimpArgs false
set_option maxRecDepth 100000
namespace Go.Proofs.YtcjdfeafcmfgpaaGreatD
open Go Go.Proofs
def exKey : Exs := { ex := fun f => Nat.beq f 55 || Nat.beq f 17, hid := fun _ => false, cut := fun k => Nat.beq k 7 }
noncomputable def rgK7 : Array Oper := regOps Tryz.f7 7
theorem share {X G : Prop} (hx : X) (h : X → G) : G := h hx
theorem sdb_ro (s : List Int) (q : QueryW) (db : List FactC) : roV (.tup [vSchema s, wQuery q, wFactS db]) = .tup [vSchema s, vQuery q, vFactS db] := by
  show V.tup [roV _, roV _, roV _] = _
  rw [wQuery_ro, ints_roV, wFactS_ro]
theorem chV_ro (p : QueryT × Bool) : roV (.tup [wQuery p.1, cb p.2]) = .tup [vQuery p.1, cb p.2] := by
  show V.tup [roV _, roV _] = _
  rw [wQuery_ro]
  rfl
theorem lonely_nil (x : List FactC) : Spec Tryz.prog 136 [vFactS x, vInclusionS []] (ci (-1)) := by
  refine Spec_of mx Γ_ok Tryz.func136 rfl ?_
  conv => whnf
  refine ⟨[(0,0),(1,0),(4,0),(5,0)], fun m st => st = ⟨70, [(0, vFactS x), (1, vInclusionS []), (4, ci 0), (5, ci 0)], []⟩, 0, rfl, ?_⟩
  rintro m st rfl
  conv => whnf
  rfl
set_option maxHeartbeats 16000000 in
theorem law_FnKeys (x0 : List Int) (q0 : x0.length ≤ maxLen ∧ ∀ x ∈ x0, (Lit.int .u8 x).wf = true) : Spec Tryz.prog 7 [.ro x0.length (rows (fun x => [.sc (.int .u8 x)]) x0)] (cb true) := by
  show Spec Tryz.prog 7 [.ro x0.length (rows cu8 x0)] (cb true)
  refine Spec_ofE (ex := exKey) mx Γ_ok Tryz.func7 rfl ?_
  conv => whnf
  refine ⟨_, big_spec x0, .inl rfl, .inl ?_⟩
  conv => whnf
  generalize hb : decide ((x0.length : Int) > 1048576) = b
  cases b with
  | true =>
    conv => whnf
    rfl
  | false =>
  have hl : x0.length ≤ 1099511627776 := by have := of_decide_eq_false hb; omega
  conv => whnf
  refine .inr (.inr ⟨[], [], ?_⟩)
  conv => whnf
  refine ⟨_, drawContainedUnder_g x0 hl, fun r g2 hP => ?_⟩
  obtain ⟨s, a, b, ks, hr, hs, ha, hb, hk, rfl⟩ := hP
  have hss : cSchema s ≤ 1048576 := by show s.length ≤ _; omega
  have hal : a.1.length ≤ 1048576 := by unfold cQuery at ha; omega
  have hbl : b.1.length ≤ 1048576 := by unfold cQuery at hb; omega
  refine .inl ?_
  rw [hr]
  conv => whnf
  refine ⟨_, implContainedUnder_gen s a b ks hss ha hb hk, .inl rfl, .inl ?_⟩
  generalize hu : pContainedUnder s a b ks = u
  conv => whnf
  refine ⟨_, specContainedUnder_gen s a b ks hss ha hb hk, .inl rfl, .inl ?_⟩
  rw [hu]
  conv => whnf
  rw [bne_self_eq_false]
  conv => whnf
  refine ⟨_, implEquivalentUnder_gen s a b ks hss ha hb hk, .inl rfl, .inl ?_⟩
  rw [show pEquivalentUnder s a b ks = (u && pContainedUnder s b a ks) from by unfold pEquivalentUnder; rw [hu]]
  cases u with
  | false =>
    conv => whnf
    refine ⟨_, implIsContained_spec s a b hss ha hb, .inl rfl, .inl ?_⟩
    generalize hc : contP s a b = c
    cases c with
    | true =>
      conv => whnf
      refine ⟨_, specAreKeys_gen s ks hss hk, .inl rfl, .inl ?_⟩
      generalize hky : pAreKeys s ks = ky
      cases ky with
      | true =>
        rw [cont_under hc hky] at hu
        cases hu
      | false =>
        conv => whnf
        refine ⟨[(0,0),(2,0),(3,0),(4,0),(5,0),(6,0),(7,0)], [], ⟨146, [(0, .ro x0.length (rows cu8 x0)), (2, cb false), (3, .ptr 0 0), (4, .ptr 1 0), (5, .ptr 2 0), (6, vKeyS ks), (7, cb false)], [some ⟨true, [ints s]⟩, some ⟨true, rQuery a⟩, some ⟨true, rQuery b⟩]⟩, rgK7, by kernel_rfl, by kernel_rfl, ?_⟩
        conv => whnf
        refine .inr (.inr ⟨[], [], ?_⟩)
        conv => whnf
        refine ⟨_, drawAnswers_g x0 hl, fun r g2 hP => ?_⟩
        obtain ⟨s', q', raw, rfl, _, _, _, hdb, rfl⟩ := hP
        refine .inl ?_
        rw [sdb_ro]
        conv => whnf
        refine .inr (.inr ⟨[], [5], ?_⟩)
        conv => whnf
        refine ⟨_, _, takeN_all rfl, rfl, ?_⟩
        conv => whnf
        refine ⟨_, tame_g raw ks [] (fun _ => -1) hdb hk (fun x hx => ⟨lonely_nil x, by show (-1 : Int) < _; omega⟩), fun r g2 hP => ?_⟩
        obtain ⟨rfl, rfl⟩ := hP
        refine .inl ?_
        rw [wFactR_ro]
        conv => whnf
        refine ⟨_, specAreKeys_gen s ks hss hk, .inl rfl, .inl ?_⟩
        rw [hky]
        conv => whnf
        rfl
    | false =>
      conv => whnf
      refine ⟨[(0,0),(2,0),(3,0),(4,0),(5,0),(6,0),(7,0)], [], ⟨146, [(0, .ro x0.length (rows cu8 x0)), (2, cb false), (3, .ptr 0 0), (4, .ptr 1 0), (5, .ptr 2 0), (6, vKeyS ks), (7, cb false)], [some ⟨true, [ints s]⟩, some ⟨true, rQuery a⟩, some ⟨true, rQuery b⟩]⟩, rgK7, by kernel_rfl, by kernel_rfl, ?_⟩
      conv => whnf
      refine .inr (.inr ⟨[], [], ?_⟩)
      conv => whnf
      refine ⟨_, drawAnswers_g x0 hl, fun r g2 hP => ?_⟩
      obtain ⟨s', q', raw, rfl, _, _, _, hdb, rfl⟩ := hP
      refine .inl ?_
      rw [sdb_ro]
      conv => whnf
      refine .inr (.inr ⟨[], [5], ?_⟩)
      conv => whnf
      refine ⟨_, _, takeN_all rfl, rfl, ?_⟩
      conv => whnf
      refine ⟨_, tame_g raw ks [] (fun _ => -1) hdb hk (fun x hx => ⟨lonely_nil x, by show (-1 : Int) < _; omega⟩), fun r g2 hP => ?_⟩
      obtain ⟨rfl, rfl⟩ := hP
      refine .inl ?_
      rw [wFactR_ro]
      obtain ⟨t1, t2⟩ := tame_mem (ks := ks) (P := fun _ => -1) 200 raw
      have hdb' := smDb_sub hdb t1 t2
      have hkh := (tame_ok (ks := ks) (P := fun _ => -1) 200 raw).1
      generalize tameGo ks (fun _ => -1) 200 raw = db at hdb' hkh
      have hds := smDb_size hdb' (by omega) (by omega)
      obtain ⟨a1, a2⟩ := answersS_size s a db
      obtain ⟨b1, b2⟩ := answersS_size s b db
      conv => whnf
      refine ⟨_, specAreKeys_gen s ks hss hk, .inl rfl, .inl ?_⟩
      generalize hky : pAreKeys s ks = ky
      cases ky with
      | false =>
        conv => whnf
        rfl
      | true =>
        conv => whnf
        have hyb := pChaseKeys_bound s a ks ha
        refine ⟨_, implChaseKeys_gen s a ks hss ha hk, .inl rfl, .inl ?_⟩
        rw [chV_ro]
        conv => whnf
        refine ⟨_, specChaseKeys_gen s a ks hss ha hk, .inl rfl, .inl ?_⟩
        rw [chV_ro]
        conv => whnf
        rw [bne_self_eq_false]
        conv => whnf
        refine ⟨_, specEqualQueries_spec (pChaseKeys s a ks).1 (pChaseKeys s a ks).1 hyb hyb, .inl rfl, .inl ?_⟩
        rw [decide_eq_true rfl]
        conv => whnf
        refine ⟨_, specAnswers_spec s a db hss ha hds, .inl rfl, .inl ?_⟩
        rw [wLists_ro]
        conv => whnf
        refine ⟨_, specIsQuery_spec s a hss ha, .inl rfl, .inl ?_⟩
        generalize hqa : isQuery s a = qa
        cases qa with
        | false =>
          conv => whnf
          rfl
        | true =>
          have hck : pChaseKeys s a ks = chO (chZ ks a) := by simp [pChaseKeys, hqa, hky]
          cases hz : chZ ks a with
          | none =>
            rw [show pChaseKeys s a ks = (([], []), false) from by rw [hck, hz]; rfl]
            conv => whnf
            rw [chZ_empty hqa hkh hz]
            conv => whnf
            rfl
          | some y =>
            have hyb' : cQuery y ≤ 1048576 := by
              have := hyb
              rw [hck, hz] at this
              exact this
            rw [show pChaseKeys s a ks = (y, true) from by rw [hck, hz]; rfl]
            conv => whnf
            refine ⟨_, specAnswers_spec s y db hss hyb' hds, .inl rfl, .inl ?_⟩
            rw [wLists_ro, chZ_ans hqa hkh hz]
            conv => whnf
            refine ⟨_, implSameTuples_spec (answersS s a db) (answersS s a db) (by omega) (fun y hy => by rw [a2 y hy]; omega) (by omega) (fun y hy => by rw [a2 y hy]; omega), .inl rfl, .inl ?_⟩
            rw [sameT_self]
            conv => whnf
            rfl
  | true =>
    conv => whnf
    refine ⟨_, implContainedUnder_gen s b a ks hss hb ha hk, .inl rfl, .inl ?_⟩
    rw [Bool.true_and]
    conv => whnf
    rw [bne_self_eq_false]
    conv => whnf
    apply share
    case h =>
      intro hrest
      refine ⟨_, implIsContained_spec s a b hss ha hb, .inl rfl, .inl ?_⟩
      generalize hc : contP s a b = c
      cases c with
      | true =>
        conv => whnf
        refine ⟨_, specAreKeys_gen s ks hss hk, .inl rfl, .inl ?_⟩
        have hky : pAreKeys s ks = true := by
          simp only [pContainedUnder, Bool.and_eq_true] at hu
          exact hu.2.2.1
        rw [hky]
        conv => whnf
        refine ⟨[(0,0),(2,0),(3,0),(4,0),(5,0),(6,0),(7,0)], [], ⟨146, [(0, .ro x0.length (rows cu8 x0)), (2, cb false), (3, .ptr 0 0), (4, .ptr 1 0), (5, .ptr 2 0), (6, vKeyS ks), (7, cb true)], [some ⟨true, [ints s]⟩, some ⟨true, rQuery a⟩, some ⟨true, rQuery b⟩]⟩, rgK7, by kernel_rfl, by kernel_rfl, ?_⟩
        exact hrest
      | false =>
        conv => whnf
        refine ⟨[(0,0),(2,0),(3,0),(4,0),(5,0),(6,0),(7,0)], [], ⟨146, [(0, .ro x0.length (rows cu8 x0)), (2, cb false), (3, .ptr 0 0), (4, .ptr 1 0), (5, .ptr 2 0), (6, vKeyS ks), (7, cb true)], [some ⟨true, [ints s]⟩, some ⟨true, rQuery a⟩, some ⟨true, rQuery b⟩]⟩, rgK7, by kernel_rfl, by kernel_rfl, ?_⟩
        exact hrest
    case hx =>
      conv => whnf
      refine .inr (.inr ⟨[], [], ?_⟩)
      conv => whnf
      refine ⟨_, drawAnswers_g x0 hl, fun r g2 hP => ?_⟩
      obtain ⟨s', q', raw, rfl, _, _, _, hdb, rfl⟩ := hP
      refine .inl ?_
      rw [sdb_ro]
      conv => whnf
      refine .inr (.inr ⟨[], [5], ?_⟩)
      conv => whnf
      refine ⟨_, _, takeN_all rfl, rfl, ?_⟩
      conv => whnf
      refine ⟨_, tame_g raw ks [] (fun _ => -1) hdb hk (fun x hx => ⟨lonely_nil x, by show (-1 : Int) < _; omega⟩), fun r g2 hP => ?_⟩
      obtain ⟨rfl, rfl⟩ := hP
      refine .inl ?_
      rw [wFactR_ro]
      obtain ⟨t1, t2⟩ := tame_mem (ks := ks) (P := fun _ => -1) 200 raw
      have hdb' := smDb_sub hdb t1 t2
      have hkh := (tame_ok (ks := ks) (P := fun _ => -1) 200 raw).1
      generalize tameGo ks (fun _ => -1) 200 raw = db at hdb' hkh
      have hds := smDb_size hdb' (by omega) (by omega)
      obtain ⟨a1, a2⟩ := answersS_size s a db
      obtain ⟨b1, b2⟩ := answersS_size s b db
      conv => whnf
      refine ⟨_, specAreKeys_gen s ks hss hk, .inl rfl, .inl ?_⟩
      generalize hky : pAreKeys s ks = ky
      cases ky with
      | false =>
        conv => whnf
        exact absurd hu (by simp [pContainedUnder, hky])
      | true =>
        conv => whnf
        have hyb := pChaseKeys_bound s a ks ha
        refine ⟨_, implChaseKeys_gen s a ks hss ha hk, .inl rfl, .inl ?_⟩
        rw [chV_ro]
        conv => whnf
        refine ⟨_, specChaseKeys_gen s a ks hss ha hk, .inl rfl, .inl ?_⟩
        rw [chV_ro]
        conv => whnf
        rw [bne_self_eq_false]
        conv => whnf
        refine ⟨_, specEqualQueries_spec (pChaseKeys s a ks).1 (pChaseKeys s a ks).1 hyb hyb, .inl rfl, .inl ?_⟩
        rw [decide_eq_true rfl]
        conv => whnf
        refine ⟨_, specAnswers_spec s a db hss ha hds, .inl rfl, .inl ?_⟩
        rw [wLists_ro]
        conv => whnf
        refine ⟨_, specIsQuery_spec s a hss ha, .inl rfl, .inl ?_⟩
        generalize hqa : isQuery s a = qa
        cases qa with
        | false =>
          exact absurd hu (by simp [pContainedUnder, hqa])
        | true =>
          have hck : pChaseKeys s a ks = chO (chZ ks a) := by simp [pChaseKeys, hqa, hky]
          cases hz : chZ ks a with
          | none =>
            rw [show pChaseKeys s a ks = (([], []), false) from by rw [hck, hz]; rfl]
            conv => whnf
            rw [chZ_empty hqa hkh hz]
            conv => whnf
            refine ⟨_, specAnswers_spec s b db hss hb hds, .inl rfl, .inl ?_⟩
            rw [wLists_ro]
            conv => whnf
            refine ⟨_, lawWithin_spec (([] : List (List Int))) (answersS s b db) (by simp) (fun y hy => by cases hy) (by omega) (fun y hy => by rw [b2 y hy]; omega), .inl rfl, .inl ?_⟩
            rw [(withinL_iff _ _).2 fun x hx => by cases hx]
            conv => whnf
            rfl
          | some y =>
            have hyb' : cQuery y ≤ 1048576 := by
              have := hyb
              rw [hck, hz] at this
              exact this
            rw [show pChaseKeys s a ks = (y, true) from by rw [hck, hz]; rfl]
            conv => whnf
            refine ⟨_, specAnswers_spec s y db hss hyb' hds, .inl rfl, .inl ?_⟩
            rw [wLists_ro, chZ_ans hqa hkh hz]
            conv => whnf
            refine ⟨_, implSameTuples_spec (answersS s a db) (answersS s a db) (by omega) (fun y hy => by rw [a2 y hy]; omega) (by omega) (fun y hy => by rw [a2 y hy]; omega), .inl rfl, .inl ?_⟩
            rw [sameT_self]
            conv => whnf
            refine ⟨_, specAnswers_spec s b db hss hb hds, .inl rfl, .inl ?_⟩
            rw [wLists_ro]
            conv => whnf
            refine ⟨_, lawWithin_spec (answersS s a db) (answersS s b db) (by omega) (fun y hy => by rw [a2 y hy]; omega) (by omega) (fun y hy => by rw [b2 y hy]; omega), .inl rfl, .inl ?_⟩
            rw [(withinL_iff _ _).2 fun x hx => under_sound hu hkh hx]
            conv => whnf
            rfl
end Go.Proofs.YtcjdfeafcmfgpaaGreatD
