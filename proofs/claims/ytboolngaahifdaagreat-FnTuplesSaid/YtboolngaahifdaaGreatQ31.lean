/- Contracts and plain laws of this seat; no condition. -/
import Derived.Test.YtboolngaahifdaaGreatQ30
import Derived.Test.YtboolngaahifdaaGreatQ18
import Derived.Test.YtboolngaahifdaaGreatQ21
set_option linter.unusedVariables false
set_option linter.unusedSimpArgs false
set_option maxRecDepth 100000
namespace Go.Proofs.YtboolngaahifdaaGreatD
open Go Go.Proofs
def unfA (i : Nat) (t : List Int) : FactC := ((i : Int), t.map unfz)
theorem isQuery_atoms {s : List Int} {q : QueryE} (h : isQuery s q = true) : terms3 q.1 = true ∧ q.2.length ≤ 4 ∧ 1 ≤ q.2.length ∧ (∀ a ∈ q.2, terms3 a.2 = true) ∧ q.1.all (safeV q) = true := by
 simp only [isQuery, fineQ, Bool.and_eq_true] at h
 obtain ⟨h0, h1, h2, h3, h4⟩ := h
 have hb : (1 : Int) ≤ q.2.length ∧ (q.2.length : Int) ≤ 4 := by simpa [inR] using h2
 refine ⟨h1, by omega, by omega, fun a ha => ?_, h4⟩
 have h5 := List.all_eq_true.1 h3 a ha
 simp only [isAtom, takesS, Bool.and_eq_true, decide_eq_true_eq] at h5
 obtain ⟨⟨h6, h7, h8⟩, h9⟩ := h5
 have hr : 0 ≤ a.1 ∧ a.1 ≤ (s.length : Int) - 1 := by simpa [inR] using h7
 obtain ⟨r, hr'⟩ : ∃ r : Nat, a.1 = r := ⟨a.1.toNat, by omega⟩
 rw [hr'] at h8 hr
 have hlt : r < s.length := by omega
 rw [Int.toNat_natCast, getD_at hlt] at h8
 simp only [isSchema, Bool.and_eq_true] at h6
 have h10 := List.all_eq_true.1 h6.1 _ (List.getElem_mem hlt)
 have h11 : (1 : Int) ≤ s[r] ∧ s[r] ≤ 3 := by simpa [inR] using h10
 simp only [terms3, Bool.and_eq_true, decide_eq_true_eq]
 exact ⟨h9, by omega⟩
theorem frz_of {s : List Int} {q : QueryE} (h : isQuery s q = true) : frzOk q = true := by
 obtain ⟨h1, h2, _, h3, _⟩ := isQuery_atoms h
 simp only [frzOk, Bool.and_eq_true, decide_eq_true_eq]
 exact ⟨⟨h1, by omega⟩, List.all_eq_true.2 h3⟩
theorem frz_short {s : List Int} {q : QueryE} (h : isQuery s q = true) : Strict ltF (pFreeze q).1 ∧ (pFreeze q).1.length ≤ 8 ∧ cFactS (pFreeze q).1 ≤ 1048576 := by
 obtain ⟨h1, h2, _, h3, _⟩ := isQuery_atoms h
 unfold pFreeze
 rw [if_pos (frz_of h)]
 obtain ⟨s1, s2⟩ := short_fold (q.2.map fzF) [] (fun x hx => by
  obtain ⟨y, hy, rfl⟩ := List.mem_map.1 hx
  have := terms3_len (h3 y hy)
  simpa [fzF] using this) (by simp)
 have h4 := sumB_cap cFact 3 _ s1
 rw [List.length_map, List.length_nil] at s2
 refine ⟨(putAll _ [] List.Pairwise.nil).1, by show ((q.2.map fzF).foldl putF []).length ≤ 8; omega, ?_⟩
 show ((q.2.map fzF).foldl putF []).length + sumB cFact ((q.2.map fzF).foldl putF []) ≤ _
 omega
theorem freeze_ro (q : QueryF) : roV (pFreezeV q) = .tup [vFactS (pFreeze q).1, ints (pFreeze q).2] := by
 show V.tup [roV (wFactS _), roV (intsT _)] = _
 rw [wFactS_ro]
 show V.tup [_, .ro _ (roVs _)] = _
 rw [roVs_ci]; rfl
theorem hasFact_spec (db : List FactC) (f : FactC) (hd : cFactS db ≤ 1048576) (hf : f.2.length ≤ 1099511627776) : Spec Tryz.prog 163 [vFactS db, vFact f] (cb (db.any fun x => eqF x f)) := by
 refine Spec_of mx Γ_ok Tryz.func163 rfl ?_
 conv => whnf
 refine ⟨[(3,0),(4,0),(7,0),(8,0),(9,0)], fun m st => ∃ (k : Nat) (e : Int), e = k ∧ m + k = db.length ∧ (db.any fun x => eqF x f) = ((db.drop k).any fun x => eqF x f) ∧
  st = ⟨17, [(3, .ptr 0 0), (4, cb false), (7, vFactS db), (8, ci db.length), (9, ci e)], [some ⟨true, rFact f⟩]⟩, db.length, ⟨0, 0, rfl, rfl, rfl, rfl⟩, ?_⟩
 rintro m st ⟨k, _, rfl, hm, hany, rfl⟩
 conv => whnf
 split <;> rename_i h1
 all_goals simp only [decide_eq_true_eq, decide_eq_false_iff_not] at h1
 ·conv => whnf
  have hk : k < db.length := by omega
  have hb := sumB_one (f := cFact) hk
  have hcf : cFact db[k] = db[k].2.length := rfl
  unfold cFactS at hd
  rw [List.drop_eq_getElem_cons hk, List.any_cons] at hany
  refine ⟨by omega, rows_len rFact_len _, ?_⟩
  conv => whnf
  refine ⟨_, takeN_rp (k := k) rFact_len hk, ?_⟩
  conv => whnf
  refine ⟨_, equalFact_spec db[k] f (by omega) hf, .inl rfl, .inl ?_⟩
  conv => whnf
  generalize hb1 : eqF db[k] f = b1 at hany
  cases b1 with
  | true =>
   conv => whnf
   rw [hany]
   rfl
  | false =>
   conv => whnf
   rw [Bool.false_or] at hany
   exact ⟨m - 1, by omega, k + 1, _, wrap_id (by omega) (by omega), by omega, hany, rfl⟩
 ·conv => whnf
  rw [hany, drop_end (by omega)]
  rfl
theorem any_strict {db : List FactC} (h : Strict ltF db) {k : Nat} (hk : k < db.length) : ((db.take k).any fun x => eqF x db[k]) = false := by
 rw [Bool.eq_false_iff]
 intro hc
 obtain ⟨x, hx, he⟩ := List.any_eq_true.1 hc
 obtain ⟨j, hj, rfl⟩ := List.getElem_of_mem hx
 rw [List.length_take] at hj
 rw [List.getElem_take] at he
 have h1 := (List.pairwise_iff_getElem.1 h) j k (by omega) hk (by omega)
 have h2 : db[j] = db[k] := of_decide_eq_true he
 rw [h2, totF.irr] at h1
 cases h1
theorem roVs_rFact (xs : List FactC) : roVs (rows rFact xs) = rows rFact xs := by
 induction xs with
 | nil => rfl
 | cons x xs ih =>
  show roVs (rFact x ++ rows rFact xs) = _
  simp only [rFact, List.cons_append, List.nil_append, roVs, ih]
  show V.sc _ :: roV (.ro _ _) :: _ = _
  simp only [roV, roVs_ci]
  rfl
theorem flat_rFactS (a : FactC) : ∀ c ∈ rFact a, flat c = true := by
 intro c hc
 simp only [rFact, List.mem_cons, List.not_mem_nil, or_false] at hc
 rcases hc with rfl | rfl <;> rfl
set_option maxHeartbeats 1000000 in
theorem distinctFacts_spec (db : List FactC) (hd : cFactS db ≤ 1048576) (hs : Strict ltF db) : Spec Tryz.prog 87 [vFactS db] (.tr 2 db.length (rows rFact db)) := by
 have hd' := hd
 unfold cFactS at hd'
 refine Spec_of mx Γ_ok Tryz.func87 rfl ?_
 conv => whnf
 refine ⟨[(2,0),(3,0),(7,0),(8,0),(9,0)], fun m st => ∃ (k : Nat) (e : Int) (n : Nat) (r : List V), e = k ∧ m + k = db.length ∧ n = k ∧ r = rows rFact (db.take k) ∧
  st = ⟨23, [(2, cnil), (3, .own 0 2 0 n n none), (7, vFactS db), (8, ci db.length), (9, ci e)], [some ⟨false, r⟩]⟩, db.length, ⟨0, 0, 0, _, rfl, rfl, rfl, rfl, rfl⟩, ?_⟩
 rintro m st ⟨k, _, n, _, rfl, hm, rfl, rfl, rfl⟩
 conv => whnf
 split <;> rename_i h1
 all_goals simp only [decide_eq_true_eq, decide_eq_false_iff_not] at h1
 ·conv => whnf
  have hk : n < db.length := by omega
  have hb := sumB_one (f := cFact) hk
  have hcf : cFact db[n] = db[n].2.length := rfl
  have htl : (db.take n).length = n := by rw [List.length_take]; omega
  have htk : cFactS (db.take n) ≤ 1048576 := by
   have h3 : sumB cFact (db.take n) + sumB cFact (db.drop n) = sumB cFact db := by
    have key : ∀ (xs ys : List FactC), sumB cFact (xs ++ ys) = sumB cFact xs + sumB cFact ys := by
     intro xs ys
     induction xs with
     | nil => simp [sumB]
     | cons x xs ih => simp only [List.cons_append, sumB, ih]; omega
    rw [← key, List.take_append_drop]
   show (db.take n).length + sumB cFact (db.take n) ≤ _
   omega
  refine ⟨by omega, rows_len rFact_len _, ?_⟩
  conv => whnf
  refine ⟨_, takeN_rp (k := n) rFact_len hk, ?_⟩
  conv => whnf
  refine .inl ?_
  conv => whnf
  refine ⟨_, _, takeN_all (by rw [rows_len rFact_len, htl]), roVs_rFact _, ?_⟩
  conv => whnf
  have hsp := hasFact_spec (db.take n) db[n] htk (by omega)
  rw [any_strict hs hk] at hsp
  unfold vFactS at hsp
  rw [htl] at hsp
  refine ⟨_, hsp, .inr trivial, .inl ?_⟩
  conv => whnf
  refine ⟨rFact db[n], rfl, .inl ⟨flat_rFactS _, ?_⟩⟩
  conv => whnf
  refine ⟨by omega, by rw [rows_len rFact_len, htl], _, snoc_rows rFact _ db[n], ?_⟩
  conv => whnf
  refine ⟨m - 1, by omega, n + 1, _, _, _, wrap_id (by omega) (by omega), by omega, rfl, ?_, rfl⟩
  rw [List.take_succ_eq_append_getElem hk]
 ·conv => whnf
  have hkk : n = db.length := by omega
  rw [hkk, List.take_length]
  exact ⟨by rw [rows_len rFact_len], rfl⟩
def overP (q : QueryE) (db : List FactC) : List (List Int) := sortL true ((rawP q db).map fun v => q.1.map (tS v))
theorem overP_ok {s : List Int} {q : QueryE} {db : List FactC} (h : isQuery s q = true) (hd : db.length ≤ 8) : (overP q db).length ≤ 4096 ∧ ∀ x ∈ overP q db, x.length ≤ 3 := by
 obtain ⟨h1, h2, _, _, _⟩ := isQuery_atoms h
 have h3 := sortL_len true ((rawP q db).map fun v => q.1.map (tS v))
 rw [List.length_map] at h3
 have h4 := (rawP_ok q db).2
 have h5 : db.length ^ q.2.length ≤ 4096 := by
  have e1 : db.length ^ q.2.length ≤ 8 ^ q.2.length := Nat.pow_le_pow_left hd _
  have e2 : 8 ^ q.2.length ≤ 8 ^ 4 := Nat.pow_le_pow_right (by decide) h2
  have e3 : 8 ^ 4 ≤ 4096 := by decide
  omega
 refine ⟨by unfold overP; omega, fun x hx => ?_⟩
 obtain ⟨v, _, rfl⟩ := List.mem_map.1 (mem_sortL hx)
 rw [List.length_map]
 exact terms3_len h1
set_option maxHeartbeats 4000000 in
theorem implAnswerOver_spec (s : List Int) (q : QueryE) (db : List FactC) (hq : cQuery q ≤ 1048576) (hd : cFactS db ≤ 1048576) (h : isQuery s q = true) (hl : db.length ≤ 8) (hst : Strict ltF db) : Spec Tryz.prog 23 [vQuery q, vFactS db] (wLists (overP q db)) := by
 obtain ⟨a1, a2, a3, a4, a5⟩ := isQuery_atoms h
 have hq' := hq
 unfold cQuery cAtomS at hq'
 have b1 := terms3_len a1
 have b2 := terms3_all a1
 refine Spec_of mx Γ_ok Tryz.func23 rfl ?_
 conv => whnf
 have e1 : decide ((q.1.length : Int) ≤ 3) = true := by rw [decide_eq_true_eq]; omega
 rw [e1]
 conv => whnf
 refine ⟨_, areTerms_spec q.1 (by omega), .inl rfl, .inl ?_⟩
 rw [b2]
 conv => whnf
 refine ⟨_, within_spec _ _ _, .inl rfl, .inl ?_⟩
 have e2 : inR (q.2.length : Int) 1 16 = true := by simp only [inR, Bool.and_eq_true, decide_eq_true_eq]; omega
 rw [e2]
 conv => whnf
 have e3 : decide ((db.length : Int) ≤ 400) = true := by rw [decide_eq_true_eq]; omega
 rw [e3]
 conv => whnf
 refine ⟨_, isSafe_spec q hq, .inl rfl, .inl ?_⟩
 rw [a5]
 conv => whnf
 refine ⟨[(1,0),(2,0),(4,0),(5,0),(33,0),(34,0),(35,0)], fun m st => ∃ (k : Nat) (e : Int), e = k ∧ m + k = q.2.length ∧
  st = ⟨60, [(1, vFactS db), (2, .ptr 0 0), (4, cnil), (5, cb true), (33, vAtomS q.2), (34, ci q.2.length), (35, ci e)], [some ⟨true, rQuery q⟩]⟩, q.2.length, ⟨0, 0, rfl, rfl, by kernel_rfl⟩, ?_⟩
 rintro m st ⟨k, _, rfl, hm, rfl⟩
 conv => whnf
 split <;> rename_i h1
 all_goals simp only [decide_eq_true_eq, decide_eq_false_iff_not] at h1
 ·conv => whnf
  have hk : k < q.2.length := by omega
  have hat := a4 _ (List.getElem_mem hk)
  have c1 := terms3_len hat
  have c2 := terms3_all hat
  refine ⟨by omega, rows_len rAtom_len _, ?_⟩
  conv => whnf
  refine ⟨_, takeN_rp (k := k) rAtom_len hk, ?_⟩
  conv => whnf
  have e4 : decide ((q.2[k].2.length : Int) ≤ 3) = true := by rw [decide_eq_true_eq]; omega
  rw [e4]
  conv => whnf
  refine ⟨_, areTerms_spec q.2[k].2 (by omega), .inl rfl, .inl ?_⟩
  rw [c2]
  conv => whnf
  exact ⟨m - 1, by omega, k + 1, _, wrap_id (by omega) (by omega), by omega, by kernel_rfl⟩
 ·conv => whnf
  have hpw : db.length ^ q.2.length ≤ 4096 := by
   have e1 : db.length ^ q.2.length ≤ 8 ^ q.2.length := Nat.pow_le_pow_left hl _
   have e2 : 8 ^ q.2.length ≤ 8 ^ 4 := Nat.pow_le_pow_right (by decide) a2
   have e3 : 8 ^ 4 ≤ 4096 := by decide
   omega
  have hvl := visitL_len db q.2 bNone
  refine ⟨[1001, 0, 1, 2, 3, 4, 5, 1000, 1000], by kernel_rfl, ?_⟩
  conv => whnf
  refine .inl ?_
  conv => whnf
  refine ⟨_, distinctFacts_spec db hd hst, .inl rfl, .inl ?_⟩
  rw [show roV (.tr 2 db.length (rows rFact db)) = vFactS db from by show V.ro _ (roVs _) = _; rw [roVs_rFact]; rfl]
  conv => whnf
  refine .inl ?_
  conv => whnf
  refine ⟨_, heads_spec q db hq hd (fun a ha => terms3_all (a4 a ha)) (by omega), .inl rfl, .inr ?_⟩
  conv => whnf
  refine .inr (.inr ⟨[1], noSubT_lk (by kernel_rfl), rfl, ?_⟩)
  conv => whnf
  refine ⟨_, different_spec (headsP q db) (fun x hx => by
   obtain ⟨b, _, rfl⟩ := List.mem_map.1 hx
   rw [tupOf, List.length_map]; omega) (by rw [headsP, List.length_map]; omega), fun r g2 hP => ?_⟩
  obtain ⟨rfl, ys, h3, h4, rfl⟩ := hP
  rw [answers_eq h h3 h4]
  refine .inr ?_
  conv => whnf
  exact ⟨by rw [rows_len tL_len], rfl⟩
def vtGo (db : List FactC) : Nat → List QueryE → List FactC
 | _, [] => []
 | i, v :: r => (overP v db).map (unfA i) ++ vtGo db (i + 1) r
def pViewTuples (s : List Int) (vs : List QueryE) (q : QueryE) : List FactC := if pAreViews s vs && isQuery s q then (vtGo (pFreeze q).1 0 vs).take 10 else []
theorem take_snoc10 {α : Type} (L : List α) (xs : List α) {k : Nat} (hk : k < xs.length) (h : (L ++ xs.take k).length < 10) : (L ++ xs.take (k + 1)).take 10 = (L ++ xs.take k).take 10 ++ [xs[k]] := by
 rw [List.take_succ_eq_append_getElem hk, ← List.append_assoc, List.take_of_length_le (l := L ++ xs.take k) (by omega), List.take_of_length_le]
 rw [List.length_append]; simp only [List.length_cons, List.length_nil]; omega
theorem take_more10 {α : Type} (L xs : List α) (k : Nat) (h : 10 ≤ (L ++ xs.take k).length) (j : Nat) (hj : k ≤ j) : (L ++ xs.take j).take 10 = (L ++ xs.take k).take 10 := by
 have e : L ++ xs.take j = (L ++ xs.take k) ++ (xs.take j).drop k := by
  rw [List.append_assoc]
  congr 1
  have h2 : xs.take k = (xs.take j).take k := by rw [List.take_take, Nat.min_eq_left hj]
  rw [h2, List.take_append_drop]
 rw [e, List.take_append_of_le_length h]
theorem viewOk_at {s : List Int} {vs : List QueryE} (h : pAreViews s vs = true) {i : Nat} (hi : i < vs.length) : isQuery s vs[i] = true := by
 simp only [pAreViews, Bool.and_eq_true] at h
 have := List.all_eq_true.1 h.1 _ (List.getElem_mem hi)
 simp only [viewOk, Bool.and_eq_true] at this
 exact this.1
theorem pAreViews_len4 {s : List Int} {vs : List QueryE} (h : pAreViews s vs = true) : vs.length ≤ 4 := by
 simp only [pAreViews, inR, Bool.and_eq_true, decide_eq_true_eq] at h
 omega
set_option maxHeartbeats 8000000 in
theorem specViewTuples_spec (s : List Int) (vs : List QueryE) (q : QueryE) (hs : cSchema s ≤ 1048576) (hv : cQueryS vs ≤ 1048576) (hq : cQuery q ≤ 1048576) : Spec Tryz.prog 42 [vSchema s, vQueryS vs, vQuery q] (wAtomS (pViewTuples s vs q)) := by
 refine Spec_of mx Γ_ok Tryz.func42 rfl ?_
 conv => whnf
 refine ⟨_, specAreViews_spec s vs hs hv, .inl rfl, .inl ?_⟩
 conv => whnf
 unfold pViewTuples
 generalize hb1 : pAreViews s vs = b1
 cases b1 with
 | false =>
  conv => whnf
  exact ⟨rfl, rfl⟩
 | true =>
  conv => whnf
  refine ⟨_, specIsQuery_spec s q hs hq, .inl rfl, .inl ?_⟩
  conv => whnf
  generalize hb2 : isQuery s q = b2
  cases b2 with
  | false =>
   conv => whnf
   exact ⟨rfl, rfl⟩
  | true =>
   conv => whnf
   have hv4 := pAreViews_len4 hb1
   obtain ⟨f1, f2, f3⟩ := frz_short hb2
   refine ⟨_, specFreeze_spec q hq, .inl rfl, .inl ?_⟩
   rw [freeze_ro]
   generalize (pFreeze q).1 = db at f1 f2 f3 ⊢
   conv => whnf
   refine ⟨[(1,0),(6,0),(7,0),(8,0),(10,0)], fun m st => ∃ (i : Nat) (e : Int) (L : List FactC) (n : Nat) (r : List V), e = i ∧ m + i = vs.length ∧ vtGo db 0 vs = L ++ vtGo db i (vs.drop i) ∧ n = (L.take 10).length ∧ r = rows tAtom (L.take 10) ∧
    st = ⟨70, [(1, vQueryS vs), (6, cnil), (7, .own 0 2 0 n n none), (8, vFactS db), (10, ci e)], [some ⟨false, r⟩]⟩, vs.length, ⟨0, 0, [], 0, _, rfl, rfl, rfl, rfl, rfl, by kernel_rfl⟩, ?_⟩
   rintro m st ⟨i, _, L, n, _, rfl, hm, hj, hn, rfl, rfl⟩
   conv => whnf
   split <;> rename_i h1
   all_goals simp only [decide_eq_true_eq, decide_eq_false_iff_not] at h1
   ·conv => whnf
    have hi : i < vs.length := by omega
    have hqi : cQuery vs[i] ≤ 1048576 := by
     have h3 := sumB_one (f := cQuery) hi
     unfold cQueryS at hv
     omega
    have hvi := viewOk_at hb1 hi
    obtain ⟨a1, a2, a3, a4, a5⟩ := isQuery_atoms hvi
    have hqi' := hqi
    unfold cQuery cAtomS at hqi'
    obtain ⟨o1, o2⟩ := overP_ok hvi f2
    rw [List.drop_eq_getElem_cons hi, vtGo, ← List.append_assoc] at hj
    refine ⟨List.range 13, by kernel_rfl, ?_⟩
    conv => whnf
    refine ⟨by omega, rows_len rQuery_len _, ?_⟩
    conv => whnf
    refine ⟨_, takeN_rp (k := i) rQuery_len hi, ?_⟩
    conv => whnf
    refine ⟨by omega, rows_len rQuery_len _, ?_⟩
    conv => whnf
    refine ⟨_, takeN_rp (k := i) rQuery_len hi, ?_⟩
    conv => whnf
    have hpw : db.length ^ vs[i].2.length ≤ 4096 := by
     have e1 : db.length ^ vs[i].2.length ≤ 8 ^ vs[i].2.length := Nat.pow_le_pow_left f2 _
     have e2 : 8 ^ vs[i].2.length ≤ 8 ^ 4 := Nat.pow_le_pow_right (by decide) a2
     have e3 : 8 ^ 4 ≤ 4096 := by decide
     omega
    refine ⟨_, l6Raw_spec vs[i] db hqi f3 (fun a ha => terms3_all (a4 a ha)) (by omega), .inl rfl, .inl ?_⟩
    rw [wLists_ro]
    conv => whnf
    have hrl := (rawP_ok vs[i] db).2
    refine ⟨_, l6Heads_spec vs[i] (rawP vs[i] db) hqi (by omega) (fun v hv => by
     obtain ⟨b, _, rfl⟩ := (rawP_ok vs[i] db).1 v hv
     exact sV_len b) (terms3_all a1), .inl rfl, .inl ?_⟩
    rw [wLists_ro]
    conv => whnf
    refine ⟨_, l6Sort_spec _ true (by rw [List.length_map]; omega) (fun v hv => by
     obtain ⟨b, _, rfl⟩ := List.mem_map.1 hv
     rw [List.length_map]; omega), .inl rfl, .inl ?_⟩
    rw [wLists_ro]
    have hA : sortL true ((rawP vs[i] db).map fun v => vs[i].1.map (tS v)) = overP vs[i] db := rfl
    rw [hA]
    generalize overP vs[i] db = A at hj o1 o2 ⊢
    generalize hB : A.map (unfA i) = B at hj
    have hBl : B.length = A.length := by rw [← hB, List.length_map]
    conv => whnf
    refine ⟨[(1,0),(6,0),(7,0),(8,0),(10,0),(11,0),(12,0)], fun m st => ∃ (k : Nat) (e : Int) (n : Nat) (r : List V), e = k ∧ m + k = A.length ∧ n = ((L ++ B.take k).take 10).length ∧ r = rows tAtom ((L ++ B.take k).take 10) ∧
     st = ⟨70, [(1, vQueryS vs), (6, cnil), (7, .own 0 2 0 n n none), (8, vFactS db), (10, ci i), (11, vLists A), (12, ci e)], [some ⟨false, r⟩]⟩, A.length, ⟨0, 0, n, _, rfl, rfl, by rw [List.take_zero, List.append_nil]; exact hn, by rw [List.take_zero, List.append_nil], by kernel_rfl⟩, ?_⟩
    rintro m2 st ⟨k, _, n, _, rfl, hm2, hn, rfl, rfl⟩
    conv => whnf
    generalize hc1 : decide ((k : Int) < (A.length : Int)) = c1
    cases c1 with
    | true =>
     have h2 : k < A.length := by have := of_decide_eq_true hc1; omega
     have hkB : k < B.length := by omega
     have hBk : B[k] = unfA i A[k] := by subst hB; rw [List.getElem_map]
     conv => whnf
     generalize hc2 : decide ((n : Int) < 10) = c2
     cases c2 with
     | true =>
      have h3 : n < 10 := by have := of_decide_eq_true hc2; omega
      have hln : (L ++ B.take k).length < 10 := by rw [List.length_take] at hn; omega
      conv => whnf
      refine ⟨by omega, rows_len rL_len _, ?_⟩
      conv => whnf
      refine ⟨_, takeN_rp (k := k) rL_len h2, ?_⟩
      conv => whnf
      refine ⟨_, specUnfreeze_spec A[k] (by have := o2 _ (List.getElem_mem h2); omega), .inl rfl, .inr ?_⟩
      conv => whnf
      refine ⟨by rw [rows_len ciL_len], ?_⟩
      conv => whnf
      refine ⟨_, rfl, .inr ⟨solid_tAtom (unfA i A[k]), ?_⟩⟩
      conv => whnf
      refine ⟨by omega, by rw [rows_len tAtom_len, ← hn], _, snoc_rows tAtom _ (unfA i A[k]), ?_⟩
      conv => whnf
      refine ⟨m2 - 1, by omega, k + 1, _, n + 1, rows tAtom ((L ++ B.take k).take 10 ++ [unfA i A[k]]), wrap_id (by omega) (by omega), by omega, ?_, ?_, by kernel_rfl⟩
      ·rw [take_snoc10 L B hkB hln, List.length_append, ← hn]; rfl
      ·rw [take_snoc10 L B hkB hln, hBk]
     | false =>
      have h3 : ¬ n < 10 := by have := of_decide_eq_false hc2; omega
      have hln : 10 ≤ (L ++ B.take k).length := by rw [List.length_take] at hn; omega
      have hmore := take_more10 L B k hln B.length (by omega)
      rw [List.take_length] at hmore
      conv => whnf
      refine ⟨m - 1, by omega, i + 1, _, L ++ B, n, _, wrap_id (by omega) (by omega), by omega, hj, by rw [hmore]; exact hn, by rw [hmore], by kernel_rfl⟩
    | false =>
     have h2 : ¬ k < A.length := by have := of_decide_eq_false hc1; omega
     have hBt : B.take k = B := List.take_of_length_le (by omega)
     rw [hBt] at hn ⊢
     conv => whnf
     refine ⟨m - 1, by omega, i + 1, _, L ++ B, n, _, wrap_id (by omega) (by omega), by omega, hj, hn, rfl, by kernel_rfl⟩
   ·conv => whnf
    rw [drop_end (by omega)] at hj
    simp only [vtGo, List.append_nil] at hj
    refine ⟨by rw [rows_len tAtom_len, hn], ?_⟩
    simp only [Bool.and_self, if_true]
    rw [hj, hn]
    rfl
set_option maxHeartbeats 8000000 in
theorem implViewTuples_spec (s : List Int) (vs : List QueryE) (q : QueryE) (hs : cSchema s ≤ 1048576) (hv : cQueryS vs ≤ 1048576) (hq : cQuery q ≤ 1048576) : Spec Tryz.prog 41 [vSchema s, vQueryS vs, vQuery q] (wAtomS (pViewTuples s vs q)) := by
 refine Spec_of mx Γ_ok Tryz.func41 rfl ?_
 conv => whnf
 refine ⟨_, implAreViews_spec s vs hs hv, .inl rfl, .inl ?_⟩
 conv => whnf
 unfold pViewTuples
 generalize hb1 : pAreViews s vs = b1
 cases b1 with
 | false =>
  conv => whnf
  exact ⟨rfl, rfl⟩
 | true =>
  conv => whnf
  refine ⟨_, implIsQuery_spec s q hs hq, .inl rfl, .inl ?_⟩
  conv => whnf
  generalize hb2 : isQuery s q = b2
  cases b2 with
  | false =>
   conv => whnf
   exact ⟨rfl, rfl⟩
  | true =>
   conv => whnf
   have hv4 := pAreViews_len4 hb1
   obtain ⟨f1, f2, f3⟩ := frz_short hb2
   refine ⟨_, implFreeze_spec q hq, .inl rfl, .inl ?_⟩
   rw [freeze_ro]
   generalize (pFreeze q).1 = db at f1 f2 f3 ⊢
   conv => whnf
   refine ⟨[(6,0),(7,0),(8,0),(31,0),(32,0),(33,0)], fun m st => ∃ (i : Nat) (e : Int) (L : List FactC) (n : Nat) (r : List V), e = i ∧ m + i = vs.length ∧ vtGo db 0 vs = L ++ vtGo db i (vs.drop i) ∧ n = (L.take 10).length ∧ r = rows tAtom (L.take 10) ∧
    st = ⟨59, [(6, cnil), (7, .own 0 2 0 n n none), (8, vFactS db), (31, vQueryS vs), (32, ci vs.length), (33, ci e)], [some ⟨false, r⟩]⟩, vs.length, ⟨0, 0, [], 0, _, rfl, rfl, rfl, rfl, rfl, by kernel_rfl⟩, ?_⟩
   rintro m st ⟨i, _, L, n, _, rfl, hm, hj, hn, rfl, rfl⟩
   conv => whnf
   split <;> rename_i h1
   all_goals simp only [decide_eq_true_eq, decide_eq_false_iff_not] at h1
   ·conv => whnf
    have hi : i < vs.length := by omega
    have hqi : cQuery vs[i] ≤ 1048576 := by
     have h3 := sumB_one (f := cQuery) hi
     unfold cQueryS at hv
     omega
    have hvi := viewOk_at hb1 hi
    obtain ⟨o1, o2⟩ := overP_ok hvi f2
    rw [List.drop_eq_getElem_cons hi, vtGo, ← List.append_assoc] at hj
    refine ⟨by omega, rows_len rQuery_len _, ?_⟩
    conv => whnf
    refine ⟨_, takeN_rp (k := i) rQuery_len hi, ?_⟩
    conv => whnf
    refine ⟨_, implAnswerOver_spec s vs[i] db hqi f3 hvi f2 f1, .inl rfl, .inl ?_⟩
    rw [wLists_ro]
    generalize overP vs[i] db = A at hj o1 o2 ⊢
    generalize hB : A.map (unfA i) = B at hj
    have hBl : B.length = A.length := by rw [← hB, List.length_map]
    conv => whnf
    refine ⟨[(6,0),(7,0),(8,0),(10,0),(31,0),(32,0),(33,0),(40,0),(41,0),(42,0)], fun m st => ∃ (k : Nat) (e : Int) (n : Nat) (r : List V), e = k ∧ m + k = A.length ∧ n = ((L ++ B.take k).take 10).length ∧ r = rows tAtom ((L ++ B.take k).take 10) ∧
     st = ⟨59, [(6, cnil), (7, .own 0 2 0 n n none), (8, vFactS db), (10, ci i), (31, vQueryS vs), (32, ci vs.length), (33, ci i), (40, vLists A), (41, ci A.length), (42, ci e)], [some ⟨false, r⟩]⟩, A.length, ⟨0, 0, n, _, rfl, rfl, by rw [List.take_zero, List.append_nil]; exact hn, by rw [List.take_zero, List.append_nil], by kernel_rfl⟩, ?_⟩
    rintro m2 st ⟨k, _, n, _, rfl, hm2, hn, rfl, rfl⟩
    conv => whnf
    split <;> rename_i h2
    all_goals simp only [decide_eq_true_eq, decide_eq_false_iff_not] at h2
    ·have h2 : k < A.length := by omega
     have hkB : k < B.length := by omega
     have hBk : B[k] = unfA i A[k] := by subst hB; rw [List.getElem_map]
     conv => whnf
     refine ⟨by omega, rows_len rL_len _, ?_⟩
     conv => whnf
     refine ⟨_, takeN_rp (k := k) rL_len h2, ?_⟩
     conv => whnf
     generalize hc2 : decide ((n : Int) < 10) = c2
     cases c2 with
     | true =>
      have h3 : n < 10 := by have := of_decide_eq_true hc2; omega
      have hln : (L ++ B.take k).length < 10 := by rw [List.length_take] at hn; omega
      conv => whnf
      refine ⟨_, implUnfreeze_spec A[k] (by have := o2 _ (List.getElem_mem h2); omega), .inl rfl, .inr ?_⟩
      conv => whnf
      refine ⟨by rw [rows_len ciL_len], ?_⟩
      conv => whnf
      refine ⟨_, rfl, .inr ⟨solid_tAtom (unfA i A[k]), ?_⟩⟩
      conv => whnf
      refine ⟨by omega, by rw [rows_len tAtom_len, ← hn], _, snoc_rows tAtom _ (unfA i A[k]), ?_⟩
      conv => whnf
      refine ⟨m2 - 1, by omega, k + 1, _, n + 1, rows tAtom ((L ++ B.take k).take 10 ++ [unfA i A[k]]), wrap_id (by omega) (by omega), by omega, ?_, ?_, by kernel_rfl⟩
      ·rw [take_snoc10 L B hkB hln, List.length_append, ← hn]; rfl
      ·rw [take_snoc10 L B hkB hln, hBk]
     | false =>
      have h3 : ¬ n < 10 := by have := of_decide_eq_false hc2; omega
      have hln : 10 ≤ (L ++ B.take k).length := by rw [List.length_take] at hn; omega
      have hmore := take_more10 L B k hln (k + 1) (by omega)
      conv => whnf
      refine ⟨m2 - 1, by omega, k + 1, _, n, _, wrap_id (by omega) (by omega), by omega, by rw [hmore]; exact hn, by rw [hmore], by kernel_rfl⟩
    ·have hBt : B.take k = B := List.take_of_length_le (by omega)
     rw [hBt] at hn ⊢
     conv => whnf
     refine ⟨m - 1, by omega, i + 1, _, L ++ B, n, _, wrap_id (by omega) (by omega), by omega, hj, hn, rfl, by kernel_rfl⟩
   ·conv => whnf
    rw [drop_end (by omega)] at hj
    simp only [vtGo, List.append_nil] at hj
    refine ⟨by rw [rows_len tAtom_len, hn], ?_⟩
    simp only [Bool.and_self, if_true]
    rw [hj, hn]
    rfl
theorem vtGo_short {s : List Int} (db : List FactC) (hd : db.length ≤ 8) : ∀ (vs : List QueryE) (i : Nat), (∀ v ∈ vs, isQuery s v = true) → ∀ x ∈ vtGo db i vs, x.2.length ≤ 3
 | [], i, _, x, hx => by cases hx
 | v :: vs, i, h, x, hx => by
  rcases List.mem_append.1 hx with hx | hx
  ·obtain ⟨t, ht, rfl⟩ := List.mem_map.1 hx
   have := (overP_ok (h v (by simp)) hd).2 t ht
   show (t.map unfz).length ≤ 3
   rw [List.length_map]; exact this
  ·exact vtGo_short db hd vs (i + 1) (fun w hw => h w (by simp [hw])) x hx
theorem small_ViewTuples (x0 : List Int) (x1 : List QueryE) (x2 : QueryE) (h0 : cSchema x0 ≤ 1048576) (h1 : cQueryS x1 ≤ 1048576) (h2 : cQuery x2 ≤ 1048576) : cAtomS (pViewTuples x0 x1 x2) ≤ 1048576 := by
 unfold pViewTuples
 split
 ·rename_i h
  simp only [Bool.and_eq_true] at h
  have h4 := vtGo_short (s := x0) (pFreeze x2).1 (frz_short h.2).2.1 x1 0 (fun v hv => by
   obtain ⟨i, hi, rfl⟩ := List.getElem_of_mem hv
   exact viewOk_at h.1 hi)
  have h5 := sumB_cap cAtom 3 ((vtGo (pFreeze x2).1 0 x1).take 10) (fun x hx => h4 x (List.mem_of_mem_take hx))
  have h6 : ((vtGo (pFreeze x2).1 0 x1).take 10).length ≤ 10 := by rw [List.length_take]; omega
  show ((vtGo (pFreeze x2).1 0 x1).take 10).length + sumB cAtom ((vtGo (pFreeze x2).1 0 x1).take 10) ≤ _
  omega
 ·show (0 : Nat) + 0 ≤ _
  omega
end Go.Proofs.YtboolngaahifdaaGreatD
