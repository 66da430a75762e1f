/- Contracts and plain laws of this seat; no condition. -/
import Derived.Test.YtboolngaahifdaaGreatQ21
import Derived.Test.YtboolngaahifdaaGreatQ24
import Derived.Test.YtboolngaahifdaaGreatQ30
set_option linter.unusedVariables false
set_option linter.unusedSimpArgs false
set_option maxRecDepth 100000
namespace Go.Proofs.YtboolngaahifdaaGreatD
open Go Go.Proofs
theorem sqd_ro (s : List Int) (q : QueryW) (db : List FactC) : roV (.tup [vSchema s, wQuery q, wFactS db]) = .tup [vSchema s, vQuery q, vFactS db] := by
 show V.tup [roV _, roV _, roV _] = _
 rw [wQuery_ro, ints_roV, wFactS_ro]
theorem uCounts_ro (l : List CountC) : roV (uCounts l) = vCountedS l := wCountedS_ro l
theorem sumC_cons (p : CountC) (l : List CountC) : sumC (p :: l) = p.2 + sumC l := by simp [sumC]
theorem tot_sum : ∀ (l : List CountC) (a : Int), (∀ p ∈ l, 0 ≤ p.2) → 0 ≤ a → a + sumC l ≤ 4611686018427387904 → l.foldl totStep a = a + sumC l
 | [], a, _, _, _ => by simp [sumC]
 | p :: l, a, h, ha, hs => by
  have h0 := h p (by simp)
  have h1 : 0 ≤ sumC l := by
   have : ∀ l : List CountC, (∀ p ∈ l, 0 ≤ p.2) → 0 ≤ sumC l := by
    intro l
    induction l with
    | nil => intro _; simp [sumC]
    | cons q l ih =>
     intro h
     have h1 := ih fun x hx => h x (by simp [hx])
     have h2 := h q (by simp)
     rw [sumC_cons]; omega
   exact this l fun x hx => h x (by simp [hx])
  rw [sumC_cons] at hs ⊢
  rw [List.foldl_cons, show totStep a p = a + p.2 from wrap_id (by omega) (by omega), tot_sum l (a + p.2) (fun x hx => h x (by simp [hx])) (by omega) (by omega)]
  omega
structure EvAll (s : List Int) (q : QueryW) (db : List FactC) : Prop where
 few : (bindingsS s q db).length ≤ 729
 fewA : (answersS s q db).length ≤ 729
 len : (countsS s q db).length = (answersS s q db).length
 sz : cCountedS (countsS s q db) ≤ 1048576
 tot : pTotalCount (countsS s q db) = ((bindingsS s q db).length : Int)
 bl : ∀ x ∈ bindingsS s q db, x.length ≤ 1048576
 al : ∀ x ∈ answersS s q db, x.length ≤ 8
 fst_ : ∀ (k : Nat) (h : k < (countsS s q db).length) (h2 : k < (answersS s q db).length), (countsS s q db)[k].1 = (answersS s q db)[k]
theorem ev_all {s : List Int} {q : QueryW} {db : List FactC} (hq : qSm q) (hq2 : q.2.length ≤ 3) (hd : smDb 9 4 db) : EvAll s q db := by
 have hpw : db.length ^ q.2.length ≤ 729 := Nat.le_trans (Nat.le_trans (Nat.pow_le_pow_left hd.1 _) (Nat.pow_le_pow_right (by decide) hq2)) (by decide)
 have hraw := (rawP_ok q db)
 have hB : (bindingsS s q db).length ≤ 729 := by
  unfold bindingsS
  split
  ·omega
  ·simp
 have hA : (answersS s q db).length ≤ 729 := by
  unfold answersS
  split
  ·have := sortL_len true ((rawP q db).map fun v => q.1.map (tS v))
   rw [List.length_map] at this
   omega
  ·simp
 have hf := counts_fst s q db
 have hlen : (countsS s q db).length = (answersS s q db).length := by rw [← hf, List.length_map]
 have hal : ∀ x ∈ answersS s q db, x.length ≤ 8 := fun x hx => by rw [(answersS_size s q db).2 x hx]; exact hq.1
 have hpos : ∀ p ∈ countsS s q db, 0 ≤ p.2 := by
  unfold countsS
  split
  ·exact fun p hp => ((cntL_bd _).2 p hp).1
  ·intro p hp; cases hp
 refine ⟨hB, hA, hlen, ?_, ?_, ?_, hal, ?_⟩
 ·have h1 := sumB_cap cCounted 8 (countsS s q db) fun p hp => hal p.1 (by rw [← hf]; exact List.mem_map.2 ⟨p, hp, rfl⟩)
  show (countsS s q db).length + sumB cCounted (countsS s q db) ≤ _
  omega
 ·have h1 := counts_sum s q db
  unfold pTotalCount
  rw [tot_sum _ 0 hpos (by omega) (by omega), h1]
  omega
 ·intro x hx
  unfold bindingsS at hx
  split at hx
  ·obtain ⟨b, _, rfl⟩ := hraw.1 x hx
   show ((sB b).take 20).length ≤ _
   rw [List.length_take]; omega
  ·cases hx
 ·intro k h h2
  have : ((countsS s q db).map Prod.fst)[k]'(by rw [List.length_map]; exact h) = (answersS s q db)[k] := by simp only [hf]
  rw [← this, List.getElem_map]
theorem isA_ro {s : List Int} {q : QueryW} {db : List FactC} {t : List Int} {rt : V} (h : roV rt = ints t) : roV (.tup [vSchema s, wQuery q, wFactS db, rt]) = .tup [vSchema s, vQuery q, vFactS db, ints t] := by
 show V.tup [roV _, roV _, roV _, roV _] = _
 rw [wQuery_ro, ints_roV, wFactS_ro, h]
theorem samT_ro {a b : List (List Int)} {rt : V} (h : roV rt = vLists b) : roV (.tup [wLists a, rt]) = .tup [vLists a, vLists b] := by
 show V.tup [roV _, roV _] = _
 rw [wLists_ro, h]
theorem ansO_ro (q : QueryW) (db : List FactC) : roV (.tup [wQuery q, wFactS db]) = .tup [vQuery q, vFactS db] := by
 show V.tup [roV _, roV _] = _
 rw [wQuery_ro, wFactS_ro]
theorem same_eq (a b : List (List Int)) : sameT a b = decide (sortL true a = sortL true b) := by
 rw [Bool.eq_iff_iff, sameT_iff, decide_eq_true_eq, sortT_iff]
theorem over_ans {s : List Int} {q : QueryW} {db : List FactC} (hq : isQuery s q = true) (hd : isDb s db = true) (hl : db.length ≤ 400) (x : List Int) : x ∈ overI q db ↔ x ∈ answersS s q db := by
 obtain ⟨h1, h2, h3, h4, _⟩ := isQuery_atoms hq
 have hs := isQuery_safeQ hq
 have hK := overK_of hs (terms3_len h1) h3 (by omega) (fun a ha => terms3_len (h4 a ha)) hl
 rw [overI_iff, over_iff hs hK, ans_iff hq hd]
def exEval : Exs := { ex := fun f => Nat.beq f 8 || Nat.beq f 17 || Nat.beq f 18 || Nat.beq f 19, hid := fun _ => false }
set_option maxHeartbeats 16000000 in
theorem law_FnEvaluations (x0 : List Int) (q0 : x0.length ≤ maxLen ∧ ∀ x ∈ x0, (Lit.int .u8 x).wf = true) : Spec Tryz.prog 3 [.ro x0.length (rows (fun x => [.sc (.int .u8 x)]) x0)] (cb true) := by
 show Spec Tryz.prog 3 [.ro x0.length (rows cu8 x0)] (cb true)
 refine Spec_ofE (ex := exEval) mx Γ_ok Tryz.func3 rfl ?_
 conv => whnf
 refine ⟨_, big_spec x0, .inl rfl, .inl ?_⟩
 conv => whnf
 generalize hb : decide ((x0.length : Int) > 1048576) = b
 cases b with
 | true =>
  conv => whnf
  rfl
 | false =>
 have hl0 : x0.length ≤ 1099511627776 := by have := of_decide_eq_false hb; omega
 conv => whnf
 refine .inr (.inr ⟨[], [], ?_⟩)
 conv => whnf
 refine ⟨_, drawBindings_g x0 hl0, fun r g2 hP => ?_⟩
 obtain ⟨s, q, db, rfl, hs, hq, hq2, hd, rfl⟩ := hP
 have hss : cSchema s ≤ 1048576 := by show s.length ≤ _; omega
 have hqs := qSm_size hq
 have hds := smDb_size hd (by omega) (by omega)
 refine .inl ?_
 rw [sqd_ro]
 conv => whnf
 refine ⟨_, implBindings_spec s q db hss hqs hds, .inl rfl, .inl ?_⟩
 rw [wLists_ro]
 conv => whnf
 refine ⟨_, specBindings_spec s q db hss hqs hds, .inl rfl, .inl ?_⟩
 rw [wLists_ro]
 conv => whnf
 refine ⟨_, implAnswers_spec s q db hss hqs hds, .inl rfl, .inl ?_⟩
 rw [wLists_ro]
 conv => whnf
 refine ⟨_, implCountAnswers_spec s q db hss hqs hds, .inl rfl, .inl ?_⟩
 rw [uCounts_ro]
 conv => whnf
 refine ⟨_, specCountAnswers_spec s q db hss hqs hds, .inl rfl, .inl ?_⟩
 rw [uCounts_ro]
 obtain ⟨e1, e2, e3, e4, e5, e6, e7, e8⟩ := ev_all (s := s) hq hq2 hd
 have hfew : db.length ^ q.2.length ≤ 549755813888 := by
  have hpw : db.length ^ q.2.length ≤ 729 := Nat.le_trans (Nat.le_trans (Nat.pow_le_pow_left hd.1 _) (Nat.pow_le_pow_right (by decide) hq2)) (by decide)
  omega
 generalize bindingsS s q db = B at e1 e5 e6
 generalize hA : answersS s q db = A at e2 e3 e7 e8
 generalize countsS s q db = C at e3 e4 e5 e8
 conv => whnf
 rw [bne_self_eq_false]
 conv => whnf
 refine ⟨_, implTotalCount_spec C e4, .inl rfl, .inl ?_⟩
 rw [e5]
 conv => whnf
 rw [bne_self_eq_false]
 conv => whnf
 rw [show ((C.length : Int) != (A.length : Int)) = false from by rw [e3]; exact bne_self_eq_false _]
 conv => whnf
 rw [bne_self_eq_false]
 conv => whnf
 refine ⟨[(0,0),(2,0),(3,0),(4,0),(5,0),(6,0),(7,0),(8,0),(9,0),(10,0),(11,0)], fun m st => ∃ (k : Nat) (e : Int), e = k ∧ m + k = B.length ∧
  st = ⟨210, [(0, .ro x0.length (rows cu8 x0)), (2, cb false), (3, .ptr 0 0), (4, .ptr 1 0), (5, vFactS db), (6, vLists B), (7, vLists B), (8, vLists A), (9, vCountedS C), (10, vCountedS C), (11, ci e)], [some ⟨true, [ints s]⟩, some ⟨true, rQuery q⟩]⟩, B.length, ⟨0, 0, rfl, rfl, rfl⟩, ?_⟩
 rintro m st ⟨k, _, rfl, hm, rfl⟩
 conv => whnf
 split <;> rename_i h1
 all_goals simp only [decide_eq_true_eq, decide_eq_false_iff_not] at h1
 ·conv => whnf
  have hk : k < B.length := by omega
  have hBk := e6 _ (List.getElem_mem hk)
  refine ⟨[0, 1, 2, 3, 4, 5, 6, 7, 8, 9], by kernel_rfl, ?_⟩
  conv => whnf
  refine ⟨by omega, rows_len rL_len _, ?_⟩
  conv => whnf
  refine ⟨_, takeN_rp (k := k) rL_len hk, ?_⟩
  conv => whnf
  refine ⟨by omega, rows_len rL_len _, ?_⟩
  conv => whnf
  refine ⟨_, takeN_rp (k := k) rL_len hk, ?_⟩
  conv => whnf
  refine ⟨_, sameInts_spec B[k] B[k] (by omega) (by omega), .inl rfl, .inl ?_⟩
  rw [decide_eq_true rfl]
  conv => whnf
  exact ⟨m - 1, by omega, k + 1, _, wrap_id (by omega) (by omega), by omega, rfl⟩
 ·conv => whnf
  refine ⟨[(0,0),(2,0),(3,0),(4,0),(5,0),(8,0),(9,0),(10,0),(12,0)], fun m st => ∃ (k : Nat) (e : Int), e = k ∧ m + k = A.length ∧
   st = ⟨210, [(0, .ro x0.length (rows cu8 x0)), (2, cb false), (3, .ptr 0 0), (4, .ptr 1 0), (5, vFactS db), (8, vLists A), (9, vCountedS C), (10, vCountedS C), (12, ci e)], [some ⟨true, [ints s]⟩, some ⟨true, rQuery q⟩]⟩, A.length, ⟨0, 0, rfl, rfl, rfl⟩, ?_⟩
  rintro m st ⟨k, _, rfl, hm, rfl⟩
  conv => whnf
  split <;> rename_i h2
  all_goals simp only [decide_eq_true_eq, decide_eq_false_iff_not] at h2
  ·conv => whnf
   have hk : k < A.length := by omega
   have hkc : k < C.length := by omega
   have hAk := e7 _ (List.getElem_mem hk)
   have hck : C[k].1 = A[k] := e8 k hkc hk
   refine ⟨List.range 48 ++ [3999], by kernel_rfl, ?_⟩
   conv => whnf
   refine ⟨by omega, rows_len rL_len _, ?_⟩
   conv => whnf
   refine ⟨_, takeN_rp (k := k) rL_len hk, ?_⟩
   conv => whnf
   refine ⟨by omega, rows_len rCounted_len _, ?_⟩
   conv => whnf
   refine ⟨_, takeN_rp_field (k := k) (d := 0) (m := 1) (r := [ints C[k].1]) rCounted_len hkc (by omega) rfl, ?_⟩
   rw [hck]
   conv => whnf
   refine ⟨_, sameInts_spec A[k] A[k] (by omega) (by omega), .inl rfl, .inl ?_⟩
   rw [decide_eq_true rfl]
   conv => whnf
   refine ⟨by omega, rows_len rL_len _, ?_⟩
   conv => whnf
   refine ⟨_, takeN_rp (k := k) rL_len hk, ?_⟩
   conv => whnf
   refine ⟨by omega, rows_len rCounted_len _, ?_⟩
   conv => whnf
   refine ⟨_, takeN_rp_field (k := k) (d := 0) (m := 1) (r := [ints C[k].1]) rCounted_len hkc (by omega) rfl, ?_⟩
   rw [hck]
   conv => whnf
   refine ⟨_, sameInts_spec A[k] A[k] (by omega) (by omega), .inl rfl, .inl ?_⟩
   rw [decide_eq_true rfl]
   conv => whnf
   refine ⟨by omega, rows_len rCounted_len _, ?_⟩
   conv => whnf
   refine ⟨_, takeN_rp_field (k := k) (d := 1) (m := 1) (r := [ci C[k].2]) rCounted_len hkc (by omega) rfl, ?_⟩
   conv => whnf
   refine ⟨by omega, rows_len rCounted_len _, ?_⟩
   conv => whnf
   refine ⟨_, takeN_rp_field (k := k) (d := 1) (m := 1) (r := [ci C[k].2]) rCounted_len hkc (by omega) rfl, ?_⟩
   conv => whnf
   rw [bne_self_eq_false]
   conv => whnf
   refine ⟨by omega, rows_len rL_len _, ?_⟩
   conv => whnf
   refine ⟨_, takeN_rp (k := k) rL_len hk, ?_⟩
   conv => whnf
   refine ⟨_, implIsAnswer_spec s q db A[k] hss hqs hds (by omega), .inl rfl, .inl ?_⟩
   rw [hA, (hasL_iff A A[k]).2 (List.getElem_mem hk)]
   conv => whnf
   exact ⟨m - 1, by omega, k + 1, _, wrap_id (by omega) (by omega), by omega, rfl⟩
  ·conv => whnf
   refine .inr (.inr ⟨[], [], ?_⟩)
   conv => whnf
   refine ⟨_, drawIsAnswer_g x0 hl0, fun r g2 hP => ?_⟩
   obtain ⟨u, p, d, t, rt, rfl, hrt, hu, hp, hp2, hdd, ht, rfl⟩ := hP
   have huu : cSchema u ≤ 1048576 := by show u.length ≤ _; omega
   have hpz := qSm_size hp
   have hdz := smDb_size hdd (by omega) (by omega)
   refine .inl ?_
   rw [isA_ro hrt]
   conv => whnf
   refine .inr (.inr ⟨[], [], ?_⟩)
   conv => whnf
   refine ⟨_, drawSameTuples_g x0 hl0, fun r g2 hP => ?_⟩
   obtain ⟨a, b, rt2, rfl, hrt2, ha, hb', ha2, hb2, rfl⟩ := hP
   refine .inl ?_
   rw [samT_ro hrt2]
   conv => whnf
   refine .inr (.inr ⟨[], [], ?_⟩)
   conv => whnf
   refine ⟨_, drawAnswerOver_g x0 hl0, fun r g2 hP => ?_⟩
   obtain ⟨v, f, rfl, hv, hv2, hf, rfl⟩ := hP
   have hvz := qSm_size hv
   have hfz := smDb_size hf (by omega) (by omega)
   refine .inl ?_
   rw [ansO_ro]
   conv => whnf
   refine ⟨[0,1,2,3,5,6,7,8,4,9,10,11,12,13,15,16,14,17,18,19,20,21,22,24,25,23,26,27,28,29,30,31,32,33,34,35,36,37,38,39,40,41,42,44,43,45,46,47,48,3999], by kernel_rfl, ?_⟩
   conv => whnf
   refine ⟨_, implIsAnswer_spec u p d t huu hpz hdz (by omega), .inl rfl, .inl ?_⟩
   conv => whnf
   refine ⟨_, specIsAnswer_spec u p d t huu hpz hdz (by omega), .inl rfl, .inl ?_⟩
   conv => whnf
   rw [beq_self_eq_true]
   conv => whnf
   refine ⟨_, implSameTuples_spec a b (by omega) (fun y hy => by rw [ha2 y hy]; omega) (by omega) (fun y hy => by rw [hb2 y hy]; omega), .inl rfl, .inl ?_⟩
   conv => whnf
   refine ⟨_, specSameTuples_spec a b (by omega) (fun y hy => by rw [ha2 y hy]; omega) (by omega) (fun y hy => by rw [hb2 y hy]; omega), .inl rfl, .inl ?_⟩
   rw [← same_eq a b]
   conv => whnf
   rw [beq_self_eq_true]
   conv => whnf
   have hfl := hf.1
   have hvf : f.length ^ v.2.length ≤ 549755813888 := by
    have hpw : f.length ^ v.2.length ≤ 729 := Nat.le_trans (Nat.le_trans (Nat.pow_le_pow_left hf.1 _) (Nat.pow_le_pow_right (by decide) hv2)) (by decide)
    omega
   obtain ⟨i1, i2⟩ := overI_size v f fun _ => hvf
   obtain ⟨o1, o2⟩ := over_size v f fun _ => hvf
   have hv1 := hv.1
   refine ⟨_, implOver_spec v f hvz (by omega) (fun x hx => by have := (hf.2 x hx).1; omega) (fun _ => hvf), .inl rfl, .inl ?_⟩
   rw [wLists_ro]
   conv => whnf
   refine ⟨_, specAnswerOver_spec v f hvz hfz (fun _ => hvf), .inl rfl, .inl ?_⟩
   rw [wLists_ro]
   conv => whnf
   refine ⟨_, implSameTuples_spec (overI v f) (overS v f) (by omega) (fun y hy => by have := i2 y hy; omega) (by omega) (fun y hy => by rw [o2 y hy]; omega), .inl rfl, .inl ?_⟩
   rw [(sameT_iff _ _).2 fun x => overI_iff x]
   conv => whnf
   refine ⟨_, specIsQuery_spec s q hss hqs, .inl rfl, .inl ?_⟩
   generalize hqq : isQuery s q = qq
   cases qq with
   | false =>
    conv => whnf
    rfl
   | true =>
   conv => whnf
   refine ⟨_, specIsDatabase_spec s db (by omega) hds, .inl rfl, .inl ?_⟩
   generalize hdd2 : isDb s db = dd
   cases dd with
   | false =>
    conv => whnf
    rfl
   | true =>
   conv => whnf
   obtain ⟨j1, j2⟩ := overI_size q db fun _ => hfew
   have hq1 := hq.1
   have hdl := hd.1
   refine ⟨_, implOver_spec q db hqs (by omega) (fun x hx => by have := (hd.2 x hx).1; omega) (fun _ => hfew), .inl rfl, .inl ?_⟩
   rw [wLists_ro]
   conv => whnf
   refine ⟨_, implSameTuples_spec (overI q db) A (by omega) (fun y hy => by have := j2 y hy; omega) (by omega) (fun y hy => by have := e7 y hy; omega), .inl rfl, .inl ?_⟩
   rw [(sameT_iff _ _).2 fun x => by rw [← hA]; exact over_ans hqq hdd2 (by omega) x]
   conv => whnf
   rfl
end Go.Proofs.YtboolngaahifdaaGreatD
