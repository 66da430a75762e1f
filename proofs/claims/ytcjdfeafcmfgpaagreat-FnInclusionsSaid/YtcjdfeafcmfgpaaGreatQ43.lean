/- Contracts and plain laws of this seat; no condition. -/
import Derived.Test.YtcjdfeafcmfgpaaGreatQ17
import Derived.Test.YtcjdfeafcmfgpaaGreatQ20
import Derived.Test.YtcjdfeafcmfgpaaGreatQ25
import Derived.Test.YtcjdfeafcmfgpaaGreatQ35
import Derived.Test.YtcjdfeafcmfgpaaGreatQ41
import Derived.Test.YtcjdfeafcmfgpaaGreatQ42
set_option linter.unusedVariables false
set_option linter.unusedSimpArgs false
set_option maxRecDepth 100000
namespace Go.Proofs.YtcjdfeafcmfgpaaGreatD
open Go Go.Proofs
theorem share {X G : Prop} (hx : X) (h : X → G) : G := h hx
theorem sdb_ro (s : List Int) (q : QueryW) (db : List FactC) : roV (.tup [vSchema s, wQuery q, wFactS db]) = .tup [vSchema s, vQuery q, vFactS db] := by
 show V.tup [roV _, roV _, roV _] = _
 rw [wQuery_ro, ints_roV, wFactS_ro]
theorem freezeV_ro (q : QueryF) : roV (pFreezeV q) = .tup [vFactS (pFreeze q).1, ints (pFreeze q).2] := by
 show V.tup [roV (wFactS _), roV (intsT _)] = _
 rw [wFactS_ro, intsT_ro]
def inclOk (s : List Int) (a b : QueryT) (ks : List FactK) (l : List InclL) : Bool := isQuery s a && (isQuery s b && (pAreKeys s ks && (areIncls s l && !((a.1.length : Int) != b.1.length))))
theorem incl_no {s : List Int} {a b : QueryT} {ks : List FactK} {l : List InclL} (h : inclOk s a b ks l = false) : pContainedWith s a b ks l = 2 := by
 unfold pContainedWith
 rw [if_neg]
 intro h1
 have : inclOk s a b ks l = true := h1
 rw [h] at this
 cases this
theorem query_okC {s : List Int} {q : QueryT} (h : isQuery s q = true) : okC s q := ⟨isQuery_allA h, isQuery_okT h, ((isQuery_iff s q).1 h).2.2.1.1⟩
structure InclFacts (s : List Int) (a b : QueryT) (ks : List FactK) (l : List InclL) : Prop where
 eq : pContainedWith s a b ks l = conW (pChaseBoth s a ks l) b
 st : (pChaseBoth s a ks l).2 = 0 ∨ (pChaseBoth s a ks l).2 = 1 ∨ (pChaseBoth s a ks l).2 = 2
 form : (pChaseBoth s a ks l).2 ≠ 1 → okC s (pChaseBoth s a ks l).1 ∧ (∃ h, IsHom h a (pChaseBoth s a ks l).1) ∧ ((pChaseBoth s a ks l).2 = 0 → missGo (pChaseBoth s a ks l).1.2 0 l = none ∧ viol (pChaseBoth s a ks l).1 ks = none)
 sat : ∀ (db : List FactC), Holds db ks → HoldsI db l → isDb s db = true → ∀ v : Int → Int, Sat v db a.2 → (pChaseBoth s a ks l).2 ≠ 1 ∧ ∃ w : Int → Int, Sat w db (pChaseBoth s a ks l).1.2 ∧ (pChaseBoth s a ks l).1.1.map (val w) = a.1.map (val v)
theorem incl_facts {s : List Int} {a b : QueryT} {ks : List FactK} {l : List InclL} (h : inclOk s a b ks l = true) : InclFacts s a b ks l := by
 have h0 := h
 unfold inclOk at h
 simp only [Bool.and_eq_true] at h
 obtain ⟨qa, qb, hk, hl, _⟩ := h
 have e : pChaseBoth s a ks l = bothGo s ks l 40 a := pBoth_ok (by simp [qa, hk, hl])
 have hc := query_okC qa
 refine ⟨?_, ?_, ?_, ?_⟩
 ·unfold pContainedWith
  exact if_pos h0
 ·rw [e]
  exact both_steps (s := s) (ks := ks) (l := l) (fun x r => r.2 = 0 ∨ r.2 = 1 ∨ r.2 = 2) (fun _ _ _ => .inr (.inl rfl)) (fun _ _ _ _ _ _ => .inl rfl) (fun _ _ _ _ _ => .inr (.inr rfl)) (fun x y k i b r _ _ _ _ _ _ _ _ _ _ h => h) hl 40 hc
 ·rw [e]
  exact both_form hl 40 hc
 ·rw [e]
  exact fun db h1 h2 h3 v hv => both_sat h1 h2 h3 hl 40 hc hv
theorem conW_ne {r : QueryT × Int} {b : QueryT} (h : r.2 = 0 ∨ r.2 = 1 ∨ r.2 = 2) (h0 : r.2 ≠ 0) : conW r b ≠ 2 := by
 unfold conW
 rcases h with h | h | h
 ·exact absurd h h0
 ·rw [h]; simp
 ·rw [h]
  simp only [show ((2 : Int) == 1) = false from rfl, Bool.false_eq_true, if_false]
  split <;> simp
theorem incl_sound {s : List Int} {a b : QueryT} {ks : List FactK} {l : List InclL} {db : List FactC} (h : inclOk s a b ks l = true) (h1 : pContainedWith s a b ks l = 1) (hk : Holds db ks) (hI : HoldsI db l) : ∀ x ∈ answersS s a db, x ∈ answersS s b db := by
 intro x hx
 have F := incl_facts h
 unfold inclOk at h
 simp only [Bool.and_eq_true] at h
 obtain ⟨qa, qb, _⟩ := h
 obtain ⟨_, hd⟩ := ans_empty hx
 obtain ⟨v, hv, rfl⟩ := (ans_iff qa hd x).1 hx
 obtain ⟨s1, w, w1, w2⟩ := F.sat db hk hI hd v hv
 obtain ⟨c1, _, _⟩ := F.form s1
 rw [F.eq] at h1
 unfold conW at h1
 rw [if_neg (by simpa using s1)] at h1
 split at h1
 ·rename_i hm
  obtain ⟨f, hf⟩ := (mapP_iff (fineQT_of c1.2.1)).1 hm
  obtain ⟨k1, k2⟩ := sat_hom hf w1
  exact (ans_iff qb hd _).2 ⟨_, k1, (k2.trans w2).symm⟩
 ·split at h1 <;> cases h1
theorem incl_frz {s : List Int} {a b : QueryT} {ks : List FactK} {l : List InclL} (h : inclOk s a b ks l = true) (h0 : (pChaseBoth s a ks l).2 = 0) :
  (∀ x ∈ l, pHoldsInclusion (pFreeze (pChaseBoth s a ks l).1).1 x = true) ∧ Holds (pFreeze (pChaseBoth s a ks l).1).1 ks ∧ hasL (answersS s a (pFreeze (pChaseBoth s a ks l).1).1) (pFreeze (pChaseBoth s a ks l).1).2 = true ∧
  hasL (answersS s b (pFreeze (pChaseBoth s a ks l).1).1) (pFreeze (pChaseBoth s a ks l).1).2 = (pContainedWith s a b ks l == 1) := by
 have F := incl_facts h
 unfold inclOk at h
 simp only [Bool.and_eq_true] at h
 obtain ⟨qa, qb, _⟩ := h
 obtain ⟨c1, hm, c3⟩ := F.form (by rw [h0]; decide)
 obtain ⟨m1, m2⟩ := c3 h0
 refine ⟨frzC_incl c1 m1, frzC_keys c1 m2, (hasL_iff _ _).2 ((frzC_ans qa c1).2 hm), ?_⟩
 rw [F.eq]
 unfold conW
 rw [h0, if_neg (by simp)]
 have hi := mapP_iff (f := b) (fineQT_of c1.2.1)
 rw [Bool.eq_iff_iff, hasL_iff, frzC_ans qb c1, ← hi]
 split
 ·rename_i hs
  simp [hs]
 ·rename_i hs
  simp [hs]
theorem hold_none {x : List FactC} {ks : List FactK} (h : Holds x ks) : pFirstViolation x ks = (-1, -1, -1) := by
 unfold pFirstViolation
 rw [show tripK x ks (ran 0 ks.length) = none from h]
 rfl
def exInc : Exs := { ex := fun f => Nat.beq f 24 || Nat.beq f 17 || Nat.beq f 32, hid := fun _ => false, cut := fun k => Nat.beq k 22 }
noncomputable def rgI22 : Array Oper := regOps Tryz.f4 22
set_option maxHeartbeats 16000000 in
theorem law_FnInclusions (x0 : List Int) (q0 : x0.length ≤ maxLen ∧ ∀ x ∈ x0, (Lit.int .u8 x).wf = true) : Spec Tryz.prog 4 [.ro x0.length (rows (fun x => [.sc (.int .u8 x)]) x0)] (cb true) := by
 show Spec Tryz.prog 4 [.ro x0.length (rows cu8 x0)] (cb true)
 refine Spec_ofE (ex := exInc) mx Γ_ok Tryz.func4 rfl ?_
 conv => whnf
 refine ⟨_, big_spec x0, .inl rfl, .inl ?_⟩
 conv => whnf
 generalize hb : decide ((x0.length : Int) > 1048576) = b
 cases b with
 | true =>
  conv => whnf
  rfl
 | false =>
 have hl0 : x0.length ≤ 1099511627776 := by have := of_decide_eq_false hb; omega
 conv => whnf
 refine .inr (.inr ⟨[], [], ?_⟩)
 conv => whnf
 refine ⟨_, drawContainedWith_g x0 hl0, fun r g2 hP => ?_⟩
 obtain ⟨s, a, b, ks, l, hr, hs, ha, hb, hk, hl, rfl⟩ := hP
 have hss : cSchema s ≤ 1048576 := by show s.length ≤ _; omega
 have hal : a.1.length ≤ 1048576 := by unfold cQuery at ha; omega
 have hbl : b.1.length ≤ 1048576 := by unfold cQuery at hb; omega
 refine .inl ?_
 rw [hr]
 conv => whnf
 refine ⟨_, implContainedWith_gen s a b ks l hss ha hb hk hl, .inl rfl, .inl ?_⟩
 generalize hn : pContainedWith s a b ks l = n
 conv => whnf
 refine ⟨_, specContainedWith_gen s a b ks l hss ha hb hk hl, .inl rfl, .inl ?_⟩
 rw [hn]
 conv => whnf
 rw [bne_self_eq_false]
 conv => whnf
 have hYs := pBoth_size s a ks l
 refine ⟨_, implChaseBoth_gen s a ks l hss ha hk hl, .inl rfl, .inl ?_⟩
 rw [wBoth_ro]
 generalize hY : pChaseBoth s a ks l = Y at hYs
 obtain ⟨y, st⟩ := Y
 simp only at hYs
 conv => whnf
 refine ⟨_, specChaseBoth_gen s a ks l hss ha hk hl, .inl rfl, .inl ?_⟩
 rw [wBoth_ro, hY]
 conv => whnf
 rw [show ((y, st).2 != (y, st).2) = false from bne_self_eq_false _]
 conv => whnf
 refine ⟨_, specEqualQueries_spec y y hYs hYs, .inl rfl, .inl ?_⟩
 rw [decide_eq_true rfl]
 conv => whnf
 refine ⟨_, specIsQuery_spec s a hss ha, .inl rfl, .inl ?_⟩
 generalize hqa : isQuery s a = qa
 cases qa with
 | false =>
  obtain rfl : n = 2 := hn.symm.trans (incl_no (by simp [inclOk, hqa]))
  conv => whnf
  rfl
 | true =>
 conv => whnf
 refine ⟨_, specIsQuery_spec s b hss hb, .inl rfl, .inl ?_⟩
 generalize hqb : isQuery s b = qb
 cases qb with
 | false =>
  obtain rfl : n = 2 := hn.symm.trans (incl_no (by simp [inclOk, hqb]))
  conv => whnf
  rfl
 | true =>
 conv => whnf
 refine ⟨_, specAreKeys_gen s ks hss hk, .inl rfl, .inl ?_⟩
 generalize hky : pAreKeys s ks = ky
 cases ky with
 | false =>
  obtain rfl : n = 2 := hn.symm.trans (incl_no (by simp [inclOk, hky]))
  conv => whnf
  rfl
 | true =>
 conv => whnf
 generalize hle : ((a.1.length : Int) != (b.1.length : Int)) = le
 cases le with
 | true =>
  obtain rfl : n = 2 := hn.symm.trans (incl_no (by simp only [inclOk, hle, Bool.not_true, Bool.and_false]))
  conv => whnf
  rfl
 | false =>
 conv => whnf
 generalize hl3 : decide ((l.length : Int) > 3) = dl
 cases dl with
 | true =>
  have hl3' := of_decide_eq_true hl3
  obtain rfl : n = 2 := hn.symm.trans (incl_no (by
   have : areIncls s l = false := by
    unfold areIncls
    rw [decide_eq_false (by omega), Bool.and_false]
   simp [inclOk, this]))
  conv => whnf
  rfl
 | false =>
 have hl3' := of_decide_eq_false hl3
 conv => whnf
 refine ⟨[(0,0),(2,0),(3,0),(4,0),(5,0),(6,0),(7,0),(8,0),(10,0),(11,0),(13,0)], fun m z => ∃ (k : Nat) (e : Int), e = k ∧ m + k = l.length ∧ l.all (pIsInclusion s) = (l.drop k).all (pIsInclusion s) ∧
  z = ⟨192, [(0, .ro x0.length (rows cu8 x0)), (2, cb false), (3, .ptr 0 0), (4, .ptr 1 0), (5, .ptr 2 0), (6, vKeyS ks), (7, vInclusionS l), (8, ci n), (10, ci st), (11, .ptr 3 0), (13, ci e)], [some ⟨true, [ints s]⟩, some ⟨true, rQuery a⟩, some ⟨true, rQuery b⟩, some ⟨true, rQuery y⟩]⟩, l.length, ⟨0, 0, rfl, rfl, rfl, by kernel_rfl⟩, ?_⟩
 rintro m z ⟨k, _, rfl, hm, hall, rfl⟩
 conv => whnf
 split <;> rename_i h1
 all_goals simp only [decide_eq_true_eq, decide_eq_false_iff_not] at h1
 ·have hkl : k < l.length := by omega
  have hbk := sumB_one (f := cInclusion) hkl
  have hck : cInclusion l[k] = l[k].2.1.length + l[k].2.2.2.length := rfl
  unfold cInclusionS at hl
  rw [List.drop_eq_getElem_cons hkl, List.all_cons] at hall
  conv => whnf
  refine ⟨[0, 1, 2, 3, 4, 5, 6], by kernel_rfl, ?_⟩
  conv => whnf
  refine ⟨by omega, rows_len rInclusion_len _, ?_⟩
  conv => whnf
  refine ⟨_, takeN_rp (k := k) rInclusion_len hkl, ?_⟩
  conv => whnf
  refine ⟨_, specIsInclusion_gen s l[k].1 l[k].2.1 l[k].2.2.1 l[k].2.2.2 (by omega) (by omega) (by omega), .inl rfl, .inl ?_⟩
  have hpi : pIsInclusion s l[k] = isIncl s l[k].1 l[k].2.1 l[k].2.2.1 l[k].2.2.2 := rfl
  generalize isIncl s l[k].1 l[k].2.1 l[k].2.2.1 l[k].2.2.2 = ii at hpi
  cases ii with
  | false =>
   obtain rfl : n = 2 := hn.symm.trans (incl_no (by
    have : areIncls s l = false := by
     unfold areIncls
     rw [hall, hpi]
     rfl
    simp [inclOk, this]))
   conv => whnf
   rfl
  | true =>
   conv => whnf
   exact ⟨m - 1, by omega, k + 1, IntKind.i64.wrap ((k : Int) + 1), wrap_id (by omega) (by omega), by omega, by rw [hall, hpi, Bool.true_and], by kernel_rfl⟩
 ·have hin : areIncls s l = true := by
   unfold areIncls
   rw [hall, List.drop_eq_nil_of_le (by omega), decide_eq_true (by omega)]
   rfl
  have hok : inclOk s a b ks l = true := by simp only [inclOk, hqa, hqb, hky, hin, hle, Bool.not_false, Bool.and_true]
  have F := incl_facts hok
  have hlen : ∀ x ∈ l, x.2.1.length = x.2.2.2.length := fun x hx => by
   simp only [areIncls, Bool.and_eq_true] at hin
   exact (incl_ok (List.all_eq_true.1 hin.1 x hx)).2.2.2.2.1
  conv => whnf
  refine .inr (.inr ⟨[], [], ?_⟩)
  conv => whnf
  refine ⟨_, drawAnswers_g x0 hl0, fun r g2 hP => ?_⟩
  obtain ⟨s', q', raw, rfl, _, _, _, hdb, rfl⟩ := hP
  refine .inl ?_
  rw [sdb_ro]
  conv => whnf
  refine .inr (.inr ⟨[], [], ?_⟩)
  conv => whnf
  refine ⟨_, tame_g raw ks l (fun x => pLonely x l) hdb hk (fun x hx => ⟨lonely_spec x l (smDb_size hx (by omega) (by omega)) hl, pLonely_lt x l⟩), fun r g2 hP => ?_⟩
  obtain ⟨rfl, rfl⟩ := hP
  refine .inl ?_
  rw [wFactR_ro]
  obtain ⟨t1, t2⟩ := tame_mem (ks := ks) (P := fun x => pLonely x l) 200 raw
  have hdb' := smDb_sub hdb t1 t2
  obtain ⟨hkh, hkl⟩ := tame_ok (ks := ks) (P := fun x => pLonely x l) 200 raw
  have hI : HoldsI (tameGo ks (fun x => pLonely x l) 200 raw) l := by
   rcases hkl with h | h
   ·rw [h]
    exact fun x hx f hf => by cases hf
   ·exact lonely_holds hlen h
  generalize tameGo ks (fun x => pLonely x l) 200 raw = db at hdb' hkh hI
  have hds := smDb_size hdb' (by omega) (by omega)
  conv => whnf
  apply share
  case h =>
   intro hrest
   refine ⟨[0, 1, 2, 3, 4, 5, 7, 8, 9, 6, 10, 11, 12, 13], by kernel_rfl, ?_⟩
   conv => whnf
   generalize hn1 : (n == 1) = b1
   cases b1 with
   | false =>
    conv => whnf
    refine ⟨[(2,0),(3,0),(4,0),(5,0),(6,0),(7,0),(8,0),(10,0),(11,0)], [], ⟨192, [(2, cb false), (3, .ptr 0 0), (4, .ptr 1 0), (5, .ptr 2 0), (6, vKeyS ks), (7, vInclusionS l), (8, ci n), (10, ci st), (11, .ptr 3 0)], [some ⟨true, [ints s]⟩, some ⟨true, rQuery a⟩, some ⟨true, rQuery b⟩, some ⟨true, rQuery y⟩]⟩, rgI22, by kernel_rfl, by kernel_rfl, ?_⟩
    exact hrest
   | true =>
    conv => whnf
    refine ⟨_, specAnswers_spec s a db hss ha hds, .inl rfl, .inl ?_⟩
    rw [wLists_ro]
    conv => whnf
    refine ⟨_, specAnswers_spec s b db hss hb hds, .inl rfl, .inl ?_⟩
    rw [wLists_ro]
    conv => whnf
    obtain ⟨a1, a2⟩ := answersS_size s a db
    obtain ⟨b1, b2⟩ := answersS_size s b db
    refine ⟨_, lawWithin_spec (answersS s a db) (answersS s b db) (by omega) (fun y hy => by rw [a2 y hy]; omega) (by omega) (fun y hy => by rw [b2 y hy]; omega), .inl rfl, .inl ?_⟩
    rw [(withinL_iff _ _).2 (incl_sound hok (hn.trans (by simpa using hn1)) hkh hI)]
    conv => whnf
    refine ⟨[(2,0),(3,0),(4,0),(5,0),(6,0),(7,0),(8,0),(10,0),(11,0)], [], ⟨192, [(2, cb false), (3, .ptr 0 0), (4, .ptr 1 0), (5, .ptr 2 0), (6, vKeyS ks), (7, vInclusionS l), (8, ci n), (10, ci st), (11, .ptr 3 0)], [some ⟨true, [ints s]⟩, some ⟨true, rQuery a⟩, some ⟨true, rQuery b⟩, some ⟨true, rQuery y⟩]⟩, rgI22, by kernel_rfl, by kernel_rfl, ?_⟩
    exact hrest
  case hx =>
  clear hall hm h1
  conv => whnf
  generalize hst : (st != 0) = bs
  cases bs with
  | true =>
   have hst' : st ≠ 0 := by simpa using hst
   have hne : n ≠ 2 := by
    have := conW_ne (b := b) F.st (by rw [hY]; exact hst')
    rw [← F.eq, hn] at this
    exact this
   conv => whnf
   show cb (n != 2) = _
   rw [show (n != 2) = true from by simpa using hne]
  | false =>
   have hst' : st = 0 := by simpa using hst
   obtain ⟨f1, f2, f3, f4⟩ := incl_frz hok (by rw [hY]; exact hst')
   rw [hY] at f1 f2 f3 f4
   rw [hn] at f4
   simp only at f1 f2 f3 f4
   obtain ⟨w1, w2⟩ := small_Freeze y hYs
   conv => whnf
   refine ⟨_, specFreeze_spec y hYs, .inl rfl, .inl ?_⟩
   rw [freezeV_ro]
   conv => whnf
   refine ⟨[(3,0),(4,0),(5,0),(6,0),(7,0),(8,0),(18,0),(19,0),(20,0)], fun m z => ∃ (k : Nat) (e : Int), e = k ∧ m + k = l.length ∧
    z = ⟨192, [(3, .ptr 0 0), (4, .ptr 1 0), (5, .ptr 2 0), (6, vKeyS ks), (7, vInclusionS l), (8, ci n), (18, vFactS (pFreeze y).1), (19, ints (pFreeze y).2), (20, ci e)], [some ⟨true, [ints s]⟩, some ⟨true, rQuery a⟩, some ⟨true, rQuery b⟩]⟩, l.length, ⟨0, 0, rfl, rfl, by kernel_rfl⟩, ?_⟩
   rintro m z ⟨k, _, rfl, hm, rfl⟩
   conv => whnf
   split <;> rename_i h1
   all_goals simp only [decide_eq_true_eq, decide_eq_false_iff_not] at h1
   ·have hkl : k < l.length := by omega
    have hbk := sumB_one (f := cInclusion) hkl
    unfold cInclusionS at hl
    conv => whnf
    refine ⟨by omega, rows_len rInclusion_len _, ?_⟩
    conv => whnf
    refine ⟨_, takeN_rp (k := k) rInclusion_len hkl, ?_⟩
    conv => whnf
    refine ⟨_, implHoldsInclusion_any (pFreeze y).1 l[k] w1 (by omega), .inl rfl, .inl ?_⟩
    rw [f1 _ (List.getElem_mem hkl)]
    conv => whnf
    exact ⟨m - 1, by omega, k + 1, IntKind.i64.wrap ((k : Int) + 1), wrap_id (by omega) (by omega), by omega, by kernel_rfl⟩
   ·conv => whnf
    refine ⟨_, implFirstViolation_gen (pFreeze y).1 ks w1 (by omega), .inl rfl, .inl ?_⟩
    rw [hold_none f2]
    conv => whnf
    refine ⟨_, specIsAnswer_spec s a (pFreeze y).1 (pFreeze y).2 hss ha w1 (by omega), .inl rfl, .inl ?_⟩
    rw [f3]
    conv => whnf
    refine ⟨_, specIsAnswer_spec s b (pFreeze y).1 (pFreeze y).2 hss hb w1 (by omega), .inl rfl, .inl ?_⟩
    rw [f4]
    conv => whnf
    show cb ((n == 1) == (n == 1)) = _
    rw [beq_self_eq_true]
end Go.Proofs.YtcjdfeafcmfgpaaGreatD
