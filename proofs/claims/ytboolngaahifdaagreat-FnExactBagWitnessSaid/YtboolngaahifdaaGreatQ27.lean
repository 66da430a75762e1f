/- Contracts and plain laws of this seat; no condition. -/
import Derived.Test.YtboolngaahifdaaGreatQ18
import Derived.Test.YtboolngaahifdaaGreatQ25
import Derived.Test.YtboolngaahifdaaGreatQ26
set_option linter.unusedVariables false
set_option linter.unusedSimpArgs false
set_option maxRecDepth 100000
namespace Go.Proofs.YtboolngaahifdaaGreatD
open Go Go.Proofs
def differS (s : List Int) (a b : QueryE) (db : List FactC) : Bool := isDb s db && !decide (countsS s a db = countsS s b db)
def twTry (s : List Int) (a b : QueryE) (D : List FactC) (v : Nat) : Option (List FactC) := if differS s a b (twS D (fz (v : Nat))) then some (twS D (fz (v : Nat))) else none
def bwTry (s : List Int) (a b q : QueryE) : Option (List FactC) := if differS s a b (pFreeze q).1 then some (pFreeze q).1 else (List.range 20).findSome? (twTry s a b (pFreeze q).1)
def bwRes : Option (List FactC) → List FactC × Bool
 | some d => (d, true)
 | none => ([], false)
def pBagWitness (s : List Int) (a b : QueryE) : List FactC × Bool := if isQuery s a && isQuery s b then bwRes ((bwTry s a b a).or (bwTry s a b b)) else ([], false)
def vBW (s : List Int) (a b : QueryE) : V := .tup [wFactS (pBagWitness s a b).1, cb (pBagWitness s a b).2]
theorem cnt_size (s : List Int) (q : QueryE) (db : List FactC) : cCountedS (countsS s q db) ≤ 1099511627776 := by
 unfold countsS
 split
 ·rename_i h
  simp only [Bool.and_eq_true] at h
  obtain ⟨t1, t2, t3⟩ := isQuery_terms h.1
  have hr := (rawP_ok q db).2
  have hd := isDb_len h.2
  have hq3 := (isQ_facts h.1).2.2.1
  have hp : db.length ^ q.2.length ≤ 24 ^ 4 := Nat.le_trans (Nat.pow_le_pow_left hd _) (Nat.pow_le_pow_right (by decide) (isQ_facts h.1).2.2.2.1)
  have hb := cntL_bd (sortL false ((rawP q db).map fun v => q.1.map (tS v)))
  have hs := sortL_len false ((rawP q db).map fun v => q.1.map (tS v))
  rw [List.length_map] at hs
  have h4 := sumB_cap cCounted 3 (cntL (sortL false ((rawP q db).map fun v => q.1.map (tS v)))) fun p hp => by
   have := (hb.2 p hp).2.2
   obtain ⟨v, _, e⟩ := List.mem_map.1 (mem_sortL this)
   show p.1.length ≤ 3
   rw [← e, List.length_map]; exact hq3
  have h24 : (24 : Nat) ^ 4 = 331776 := by decide
  show (cntL _).length + sumB cCounted _ ≤ _
  omega
 ·show (0 : Nat) + 0 ≤ _; omega
theorem uCounts_roB (l : List CountC) : roV (uCounts l) = vCountedS l := wCountedS_ro l
theorem l11Differ_spec (s : List Int) (a b : QueryE) (db : List FactC) (hs : cSchema s ≤ 1048576) (ha : cQuery a ≤ 1048576) (hb : cQuery b ≤ 1048576) (hd : cFactS db ≤ 1048576) : Spec Tryz.prog 98 [vSchema s, vQuery a, vQuery b, vFactS db] (cb (differS s a b db)) := by
 have hs' : s.length ≤ 1099511627776 := by unfold cSchema at hs; omega
 refine Spec_of mx Γ_ok Tryz.func98 rfl ?_
 unfold differS
 conv => whnf
 refine ⟨[0, 1, 2, 3, 4, 5, 6, 8, 9, 10, 7, 11, 12, 13, 14, 15], by kernel_rfl, ?_⟩
 conv => whnf
 refine ⟨_, specIsDatabase_spec s db hs' hd, .inl rfl, .inl ?_⟩
 conv => whnf
 generalize isDb s db = c
 cases c with
 | false =>
  conv => whnf
  rfl
 | true =>
 conv => whnf
 refine ⟨_, specCountAnswers_spec s a db hs ha hd, .inl rfl, .inl ?_⟩
 rw [uCounts_roB]
 conv => whnf
 refine ⟨_, specCountAnswers_spec s b db hs hb hd, .inl rfl, .inl ?_⟩
 rw [uCounts_roB]
 conv => whnf
 refine ⟨_, specSameCounts_spec (countsS s a db) (countsS s b db) (cnt_size s a db) (cnt_size s b db), .inl rfl, .inl ?_⟩
 conv => whnf
 rfl
theorem differ_spec (s : List Int) (a b : QueryE) (db : List FactC) (hs : cSchema s ≤ 1048576) (ha : cQuery a ≤ 1048576) (hb : cQuery b ≤ 1048576) (hd : cFactS db ≤ 1048576) : Spec Tryz.prog 103 [vFactS db, .rp [ints s], .rp (rQuery a), .rp (rQuery b)] (cb (differS s a b db)) := by
 have hs' : s.length ≤ 1099511627776 := by unfold cSchema at hs; omega
 refine Spec_of mx Γ_ok Tryz.func103 rfl ?_
 unfold differS
 conv => whnf
 refine ⟨[0, 1, 2, 3, 4, 5, 6, 8, 9, 10, 7, 11, 12, 13, 14, 15], by kernel_rfl, ?_⟩
 conv => whnf
 refine ⟨_, rfl, ?_⟩
 conv => whnf
 refine ⟨_, implIsDatabase_spec s db hs' hd, .inl rfl, .inl ?_⟩
 conv => whnf
 generalize isDb s db = c
 cases c with
 | false =>
  conv => whnf
  rfl
 | true =>
 conv => whnf
 refine ⟨_, rfl, ?_⟩
 conv => whnf
 refine ⟨_, rfl, ?_⟩
 conv => whnf
 refine ⟨_, rfl, ?_⟩
 conv => whnf
 refine ⟨_, rfl, ?_⟩
 conv => whnf
 refine ⟨_, implCountAnswers_spec s a db hs ha hd, .inl rfl, .inl ?_⟩
 rw [uCounts_roB]
 conv => whnf
 refine ⟨_, implCountAnswers_spec s b db hs hb hd, .inl rfl, .inl ?_⟩
 rw [uCounts_roB]
 conv => whnf
 refine ⟨_, implSameCounts_spec (countsS s a db) (countsS s b db) (cnt_size s a db) (cnt_size s b db), .inl rfl, .inl ?_⟩
 conv => whnf
 rfl
theorem frz_facts {s : List Int} {q : QueryE} (h : isQuery s q = true) : Strict ltF (pFreeze q).1 ∧ (pFreeze q).1.length ≤ 8 ∧ ∀ f ∈ (pFreeze q).1, f.2.length ≤ 3 := by
 have hk := frz_ok h
 have e : (pFreeze q).1 = (q.2.map fzF).foldl putF [] := by unfold pFreeze; rw [if_pos hk]
 rw [e]
 obtain ⟨h1, h2, h3, h4, h5⟩ := isQ_facts h
 obtain ⟨s1, s2⟩ := short_fold (q.2.map fzF) [] (fun x hx => by
  obtain ⟨y, hy, rfl⟩ := List.mem_map.1 hx
  have := takes_len (h5 y hy).1
  simp only [fzF, List.length_map]; omega) (fun x hx => by cases hx)
 rw [List.length_map] at s2
 simp only [List.length_nil] at s2
 exact ⟨(putAll _ [] List.Pairwise.nil).1, by omega, s1⟩
theorem fz_nat (v : Nat) : fz ((v : Nat) : Int) = 80 + (v : Nat) := by
 unfold fz
 rw [if_neg (by omega)]
theorem tw_skip {s : List Int} {a b q : QueryE} (h : isQuery s q = true) (hd : differS s a b (pFreeze q).1 = false) {v : Nat} (hv : v < 20) (hn : pvar q v = false) : twTry s a b (pFreeze q).1 v = none := by
 obtain ⟨h1, _, _⟩ := frz_facts h
 have e : twS (pFreeze q).1 (fz (v : Nat)) = (pFreeze q).1 := tw_none h1 fun f hf x hx he => by
  have hk := frz_ok h
  have e : (pFreeze q).1 = (q.2.map fzF).foldl putF [] := by unfold pFreeze; rw [if_pos hk]
  rw [e] at hf
  obtain ⟨c, hc, rfl⟩ := (frz_mem q f).1 hf
  obtain ⟨t, ht, rfl⟩ := List.mem_map.1 hx
  have htm := List.all_eq_true.1 ((isQ_facts h).2.2.2.2 c hc).2 t ht
  have hr := term_rng htm
  have htv : t = (v : Int) := by
   rw [fz_val htm, fz_nat] at he
   unfold val fzv at he
   split at he
   ·omega
   ·rename_i hvr
    have h0 : ¬ 0 ≤ t := fun h0 => hvr ((var_iff htm).2 h0)
    omega
  have ho : occurs q (v : Int) = true := by
   simp only [occurs, hasA, List.any_eq_true, has, eqV, beq_iff_eq]
   exact ⟨c, hc, t, ht, by simp [htv]⟩
  unfold pvar at hn
  rw [ho, Bool.true_or] at hn
  cases hn
 unfold twTry
 rw [e, hd]
 rfl
theorem find_filter {α β : Type} (f : α → Option β) (p : α → Bool) : ∀ (l : List α), (∀ x ∈ l, p x = false → f x = none) → (l.filter p).findSome? f = l.findSome? f
 | [], _ => rfl
 | x :: l, h => by
  have ih := find_filter f p l fun y hy => h y (by simp [hy])
  cases hp : p x with
  | true => rw [List.filter_cons_of_pos hp, List.findSome?_cons, List.findSome?_cons, ih]
  | false => rw [List.filter_cons_of_neg (by simp [hp]), List.findSome?_cons, h x (by simp) hp, ih]
theorem varsOf_len (q : QueryE) : (varsOf q).length ≤ 20 := varsTo_len q 20
theorem varsOf_nat (q : QueryE) : ∀ x ∈ varsOf q, 0 ≤ x ∧ x < 20 := fun x hx => by
 obtain ⟨k, hk, rfl⟩ := List.mem_map.1 hx
 have := List.mem_range.1 (List.mem_filter.1 hk).1
 exact ⟨Int.natCast_nonneg k, by show (k : Int) < 20; omega⟩
def twTryI (s : List Int) (a b : QueryE) (D : List FactC) (x : Int) : Option (List FactC) := if differS s a b (twS D (fz x)) then some (twS D (fz x)) else none
theorem bw_vars {s : List Int} {a b q : QueryE} (h : isQuery s q = true) (hd : differS s a b (pFreeze q).1 = false) : (varsOf q).findSome? (twTryI s a b (pFreeze q).1) = (List.range 20).findSome? (twTry s a b (pFreeze q).1) := by
 rw [← find_filter (twTry s a b (pFreeze q).1) (pvar q) (List.range 20) fun v hv hp => tw_skip h hd (List.mem_range.1 hv) hp]
 unfold varsOf varsTo
 rw [List.findSome?_map]
 rfl
theorem find_drop {α β : Type} (f : α → Option β) {l : List α} {k : Nat} (hk : k < l.length) : (l.drop k).findSome? f = (f l[k]).or ((l.drop (k + 1)).findSome? f) := by
 rw [List.drop_eq_getElem_cons hk, List.findSome?_cons]
 cases f l[k] <;> rfl
theorem twS_facts {s : List Int} {q : QueryE} (h : isQuery s q = true) (v : Int) : cFactS (twS (pFreeze q).1 v) ≤ 1048576 := by
 obtain ⟨h1, h2, h3⟩ := frz_facts h
 exact (tw_size h2 h3 (by rw [twA_len]; omega) (twA_short h3 v)).2.2
theorem bw_true {s : List Int} {a b : QueryE} (ha : isQuery s a = true) (hb : isQuery s b = true) {o : Option (List FactC)} (h : (bwTry s a b a).or (bwTry s a b b) = o) : vBW s a b = .tup [wFactS (bwRes o).1, cb (bwRes o).2] := by
 unfold vBW pBagWitness
 rw [ha, hb, Bool.and_self, if_pos rfl, h]
set_option maxHeartbeats 4000000 in
theorem specBagWitness_gen (s : List Int) (a b : QueryE) (hs : cSchema s ≤ 1048576) (ha : cQuery a ≤ 1048576) (hb : cQuery b ≤ 1048576) : Spec Tryz.prog 29 [vSchema s, vQuery a, vQuery b] (vBW s a b) := by
 refine Spec_of mx Γ_ok Tryz.func29 rfl ?_
 conv => whnf
 refine ⟨_, specIsQuery_spec s a hs ha, .inl rfl, .inl ?_⟩
 conv => whnf
 generalize hqa : isQuery s a = b1
 cases b1 with
 | false =>
  conv => whnf
  unfold vBW pBagWitness
  rw [hqa]
  exact ⟨rfl, rfl⟩
 | true =>
 conv => whnf
 refine ⟨_, specIsQuery_spec s b hs hb, .inl rfl, .inl ?_⟩
 conv => whnf
 generalize hqb : isQuery s b = b2
 cases b2 with
 | false =>
  conv => whnf
  unfold vBW pBagWitness
  rw [hqa, hqb]
  exact ⟨rfl, rfl⟩
 | true =>
 conv => whnf
 refine ⟨[(3,0),(4,0),(5,0),(6,0),(7,0),(8,0)], fun m st => ∃ (k : Nat) (e : Int), e = k ∧ m + k = 2 ∧ (0 < k → bwTry s a b a = none) ∧ (1 < k → bwTry s a b b = none) ∧
  st = ⟨59, [(3, .ptr 0 0), (4, .ptr 1 0), (5, .ptr 2 0), (6, cnil), (7, cb false), (8, ci e)], [some ⟨true, [ints s]⟩, some ⟨true, rQuery a⟩, some ⟨true, rQuery b⟩]⟩, 2, ⟨0, 0, rfl, rfl, by omega, by omega, rfl⟩, ?_⟩
 rintro m st ⟨k, _, rfl, hm, hi0, hi1, rfl⟩
 conv => whnf
 split <;> rename_i h1
 all_goals simp only [decide_eq_true_eq, decide_eq_false_iff_not] at h1
 ·conv => whnf
  obtain rfl | rfl : k = 0 ∨ k = 1 := by omega
  ·have hfz := (small_Freeze a ha).1
   obtain ⟨f1, f2, f3⟩ := frz_facts hqa
   have hdef : bwTry s a b a = if differS s a b (pFreeze a).1 then some (pFreeze a).1 else (List.range 20).findSome? (twTry s a b (pFreeze a).1) := rfl
   have htw := fun v => twS_facts (s := s) hqa v
   have hF := specFreeze_spec a ha
   unfold pFreezeV at hF
   generalize (pFreeze a).1 = D at hfz f1 f2 f3 hdef htw hF
   generalize (pFreeze a).2 = hd0 at hF
   rw [show (((0 : Nat) : Int) == 1) = false from by decide]
   conv => whnf
   refine ⟨_, hF, .inl rfl, .inr ?_⟩
   conv => whnf
   refine .inl ?_
   conv => whnf
   refine ⟨_, _, takeN_all (by rw [rows_len tFact_len]), roVs_rows tFact_ro _, ?_⟩
   conv => whnf
   refine ⟨_, l11Differ_spec s a b D hs ha hb hfz, .inr trivial, .inl ?_⟩
   generalize hdf : differS s a b D = df at hdef
   cases df with
   | true =>
    conv => whnf
    rw [if_pos rfl] at hdef
    refine ⟨by rw [rows_len tFact_len], ?_⟩
    rw [bw_true hqa hqb (o := some D) (by rw [hdef]; rfl)]
    rfl
   | false =>
    rw [if_neg (by simp)] at hdef
    conv => whnf
    refine ⟨[(3,0),(4,0),(5,0),(6,0),(7,0),(8,0),(10,0),(12,0)], fun m st => ∃ (v : Nat) (e : Int), e = v ∧ m + v = 20 ∧ bwTry s a b a = ((List.range 20).drop v).findSome? (twTry s a b D) ∧
     st = ⟨59, [(3, .ptr 0 0), (4, .ptr 1 0), (5, .ptr 2 0), (6, cnil), (7, cb false), (8, ci (0 : Nat)), (10, .own 3 2 0 D.length D.length none), (12, ci e)], [some ⟨true, [ints s]⟩, some ⟨true, rQuery a⟩, some ⟨true, rQuery b⟩, some ⟨false, rows tFact D⟩]⟩, 20, ⟨0, 0, rfl, rfl, hdef, by kernel_rfl⟩, ?_⟩
    rintro m2 st ⟨v, _, rfl, hm2, hfs, rfl⟩
    conv => whnf
    split <;> rename_i h2
    all_goals simp only [decide_eq_true_eq, decide_eq_false_iff_not] at h2
    ·conv => whnf
     have hv : v < (List.range 20).length := by rw [List.length_range]; omega
     rw [find_drop _ hv, List.getElem_range] at hfs
     refine ⟨_, l8Value_spec (v : Nat) (by simp [isTerm, inR]; omega), .inl rfl, .inl ?_⟩
     conv => whnf
     refine .inl ?_
     conv => whnf
     refine ⟨_, _, takeN_all (by rw [rows_len tFact_len]), roVs_rows tFact_ro _, ?_⟩
     conv => whnf
     refine ⟨_, l11Twins_spec D (fz (v : Nat)) f2 f3, .inr (closed_wFactS _), .inr ?_⟩
     have htwv := htw (fz (v : Nat))
     unfold twTry at hfs
     generalize twS D (fz (v : Nat)) = X at hfs htwv
     conv => whnf
     refine .inl ?_
     conv => whnf
     refine ⟨_, _, takeN_all (by rw [rows_len tFact_len]), roVs_rows tFact_ro _, ?_⟩
     conv => whnf
     refine ⟨_, l11Differ_spec s a b X hs ha hb htwv, .inr trivial, .inl ?_⟩
     generalize hdf2 : differS s a b X = df2 at hfs
     cases df2 with
     | true =>
      conv => whnf
      rw [if_pos rfl, Option.some_or] at hfs
      refine ⟨by rw [rows_len tFact_len], ?_⟩
      rw [bw_true hqa hqb (o := some X) (by rw [hfs]; rfl)]
      rfl
     | false =>
      rw [if_neg (by simp), Option.none_or] at hfs
      conv => whnf
      exact ⟨m2 - 1, by omega, v + 1, _, wrap_id (by omega) (by omega), by omega, hfs, by kernel_rfl⟩
    ·conv => whnf
     have hvv : v = 20 := by omega
     subst hvv
     rw [List.drop_eq_nil_of_le (by rw [List.length_range]; omega), List.findSome?_nil] at hfs
     refine ⟨m - 1, by omega, 0 + 1, _, rfl, by omega, ?_, ?_, by kernel_rfl⟩
     ·exact fun _ => hfs
     ·exact fun h => absurd h (by omega)
  ·have hfz := (small_Freeze b hb).1
   obtain ⟨f1, f2, f3⟩ := frz_facts hqb
   have hdef : bwTry s a b b = if differS s a b (pFreeze b).1 then some (pFreeze b).1 else (List.range 20).findSome? (twTry s a b (pFreeze b).1) := rfl
   have htw := fun v => twS_facts (s := s) hqb v
   have hF := specFreeze_spec b hb
   unfold pFreezeV at hF
   generalize (pFreeze b).1 = D at hfz f1 f2 f3 hdef htw hF
   generalize (pFreeze b).2 = hd0 at hF
   rw [show (((1 : Nat) : Int) == 1) = true from by decide]
   conv => whnf
   refine ⟨_, hF, .inl rfl, .inr ?_⟩
   conv => whnf
   refine .inl ?_
   conv => whnf
   refine ⟨_, _, takeN_all (by rw [rows_len tFact_len]), roVs_rows tFact_ro _, ?_⟩
   conv => whnf
   refine ⟨_, l11Differ_spec s a b D hs ha hb hfz, .inr trivial, .inl ?_⟩
   generalize hdf : differS s a b D = df at hdef
   cases df with
   | true =>
    conv => whnf
    rw [if_pos rfl] at hdef
    refine ⟨by rw [rows_len tFact_len], ?_⟩
    rw [bw_true hqa hqb (o := some D) (by rw [hi0 (by omega), hdef]; rfl)]
    rfl
   | false =>
    rw [if_neg (by simp)] at hdef
    conv => whnf
    refine ⟨[(3,0),(4,0),(5,0),(6,0),(7,0),(8,0),(10,0),(12,0)], fun m st => ∃ (v : Nat) (e : Int), e = v ∧ m + v = 20 ∧ bwTry s a b b = ((List.range 20).drop v).findSome? (twTry s a b D) ∧
     st = ⟨59, [(3, .ptr 0 0), (4, .ptr 1 0), (5, .ptr 2 0), (6, cnil), (7, cb false), (8, ci (1 : Nat)), (10, .own 3 2 0 D.length D.length none), (12, ci e)], [some ⟨true, [ints s]⟩, some ⟨true, rQuery a⟩, some ⟨true, rQuery b⟩, some ⟨false, rows tFact D⟩]⟩, 20, ⟨0, 0, rfl, rfl, hdef, by kernel_rfl⟩, ?_⟩
    rintro m2 st ⟨v, _, rfl, hm2, hfs, rfl⟩
    conv => whnf
    split <;> rename_i h2
    all_goals simp only [decide_eq_true_eq, decide_eq_false_iff_not] at h2
    ·conv => whnf
     have hv : v < (List.range 20).length := by rw [List.length_range]; omega
     rw [find_drop _ hv, List.getElem_range] at hfs
     refine ⟨_, l8Value_spec (v : Nat) (by simp [isTerm, inR]; omega), .inl rfl, .inl ?_⟩
     conv => whnf
     refine .inl ?_
     conv => whnf
     refine ⟨_, _, takeN_all (by rw [rows_len tFact_len]), roVs_rows tFact_ro _, ?_⟩
     conv => whnf
     refine ⟨_, l11Twins_spec D (fz (v : Nat)) f2 f3, .inr (closed_wFactS _), .inr ?_⟩
     have htwv := htw (fz (v : Nat))
     unfold twTry at hfs
     generalize twS D (fz (v : Nat)) = X at hfs htwv
     conv => whnf
     refine .inl ?_
     conv => whnf
     refine ⟨_, _, takeN_all (by rw [rows_len tFact_len]), roVs_rows tFact_ro _, ?_⟩
     conv => whnf
     refine ⟨_, l11Differ_spec s a b X hs ha hb htwv, .inr trivial, .inl ?_⟩
     generalize hdf2 : differS s a b X = df2 at hfs
     cases df2 with
     | true =>
      conv => whnf
      rw [if_pos rfl, Option.some_or] at hfs
      refine ⟨by rw [rows_len tFact_len], ?_⟩
      rw [bw_true hqa hqb (o := some X) (by rw [hi0 (by omega), hfs]; rfl)]
      rfl
     | false =>
      rw [if_neg (by simp), Option.none_or] at hfs
      conv => whnf
      exact ⟨m2 - 1, by omega, v + 1, _, wrap_id (by omega) (by omega), by omega, hfs, by kernel_rfl⟩
    ·conv => whnf
     have hvv : v = 20 := by omega
     subst hvv
     rw [List.drop_eq_nil_of_le (by rw [List.length_range]; omega), List.findSome?_nil] at hfs
     refine ⟨m - 1, by omega, 1 + 1, _, rfl, by omega, ?_, ?_, by kernel_rfl⟩
     ·exact fun _ => hi0 (by omega)
     ·exact fun _ => hfs
 ·conv => whnf
  have hkk : k = 2 := by omega
  subst hkk
  rw [bw_true hqa hqb (o := none) (by rw [hi0 (by omega), hi1 (by omega)]; rfl)]
  exact ⟨rfl, rfl⟩
set_option maxHeartbeats 4000000 in
theorem implBagWitness_gen (s : List Int) (a b : QueryE) (hs : cSchema s ≤ 1048576) (ha : cQuery a ≤ 1048576) (hb : cQuery b ≤ 1048576) : Spec Tryz.prog 32 [vSchema s, vQuery a, vQuery b] (vBW s a b) := by
 refine Spec_of mx Γ_ok Tryz.func32 rfl ?_
 conv => whnf
 refine ⟨_, implIsQuery_spec s a hs ha, .inl rfl, .inl ?_⟩
 conv => whnf
 generalize hqa : isQuery s a = b1
 cases b1 with
 | false =>
  conv => whnf
  unfold vBW pBagWitness
  rw [hqa]
  exact ⟨rfl, rfl⟩
 | true =>
 conv => whnf
 refine ⟨_, implIsQuery_spec s b hs hb, .inl rfl, .inl ?_⟩
 conv => whnf
 generalize hqb : isQuery s b = b2
 cases b2 with
 | false =>
  conv => whnf
  unfold vBW pBagWitness
  rw [hqa, hqb]
  exact ⟨rfl, rfl⟩
 | true =>
 conv => whnf
 refine ⟨[(3,0),(4,0),(5,0),(6,0),(7,0),(8,0),(30,0),(31,0),(32,0)], fun m st => ∃ (k : Nat) (e : Int), e = k ∧ m + k = 2 ∧ (0 < k → bwTry s a b a = none) ∧ (1 < k → bwTry s a b b = none) ∧
  st = ⟨63, [(3, .ptr 0 0), (4, .ptr 1 0), (5, .ptr 2 0), (6, cnil), (7, cb false), (8, .fn 103 [.ptr 0 0, .ptr 1 0, .ptr 2 0]), (30, .own 3 2 0 2 2 none), (31, ci 2), (32, ci e)], [some ⟨true, [ints s]⟩, some ⟨true, rQuery a⟩, some ⟨true, rQuery b⟩, some ⟨false, rQuery a ++ rQuery b⟩]⟩, 2, ⟨0, 0, rfl, rfl, by omega, by omega, rfl⟩, ?_⟩
 rintro m st ⟨k, _, rfl, hm, hi0, hi1, rfl⟩
 conv => whnf
 split <;> rename_i h1
 all_goals simp only [decide_eq_true_eq, decide_eq_false_iff_not] at h1
 ·conv => whnf
  obtain rfl | rfl : k = 0 ∨ k = 1 := by omega
  ·have hfz := (small_Freeze a ha).1
   obtain ⟨f1, f2, f3⟩ := frz_facts hqa
   have hdef : bwTry s a b a = if differS s a b (pFreeze a).1 then some (pFreeze a).1 else (List.range 20).findSome? (twTry s a b (pFreeze a).1) := rfl
   have hbv := bw_vars (a := a) (b := b) hqa
   have htw := fun v => twS_facts (s := s) hqa v
   have hF := implFreeze_spec a ha
   unfold pFreezeV at hF
   generalize (pFreeze a).1 = D at hfz f1 f2 f3 hdef htw hF hbv
   generalize (pFreeze a).2 = hd0 at hF
   refine ⟨by omega, ?_⟩
   conv => whnf
   refine ⟨_, rfl, ?_⟩
   conv => whnf
   refine ⟨_, hF, .inl rfl, .inr ?_⟩
   conv => whnf
   refine .inl ?_
   conv => whnf
   refine ⟨_, _, takeN_all (by rw [rows_len tFact_len]), roVs_rows tFact_ro _, ?_⟩
   conv => whnf
   refine ⟨_, rfl, ?_⟩
   conv => whnf
   refine ⟨_, rfl, ?_⟩
   conv => whnf
   refine ⟨_, rfl, ?_⟩
   conv => whnf
   refine ⟨_, differ_spec s a b D hs ha hb hfz, .inr trivial, .inl ?_⟩
   generalize hdf : differS s a b D = df at hdef hbv
   cases df with
   | true =>
    conv => whnf
    rw [if_pos rfl] at hdef
    refine ⟨by rw [rows_len tFact_len], ?_⟩
    rw [bw_true hqa hqb (o := some D) (by rw [hdef]; rfl)]
    rfl
   | false =>
    rw [if_neg (by simp), ← hbv rfl] at hdef
    conv => whnf
    have hvl := varsOf_len a
    have hvn := varsOf_nat a
    refine ⟨_, implVarsOf_spec a ha, .inl rfl, .inl ?_⟩
    rw [show roV (intsT (varsOf a)) = ints (varsOf a) from intsT_ro _]
    generalize varsOf a = VS at hdef hvl hvn
    conv => whnf
    refine ⟨[(3,0),(4,0),(5,0),(6,0),(7,0),(8,0),(11,0),(30,0),(31,0),(32,0),(46,0),(47,0),(48,0)], fun m st => ∃ (v : Nat) (e : Int), e = v ∧ m + v = VS.length ∧ bwTry s a b a = (VS.drop v).findSome? (twTryI s a b D) ∧
     st = ⟨63, [(3, .ptr 0 0), (4, .ptr 1 0), (5, .ptr 2 0), (6, cnil), (7, cb false), (8, .fn 103 [.ptr 0 0, .ptr 1 0, .ptr 2 0]), (11, .own 3 2 0 D.length D.length none), (30, .own 4 2 0 2 2 none), (31, ci 2), (32, ci (0 : Nat)), (46, ints VS), (47, ci VS.length), (48, ci e)], [some ⟨true, [ints s]⟩, some ⟨true, rQuery a⟩, some ⟨true, rQuery b⟩, some ⟨false, rows tFact D⟩, some ⟨false, rQuery a ++ rQuery b⟩]⟩, VS.length, ⟨0, 0, rfl, rfl, hdef, by kernel_rfl⟩, ?_⟩
    rintro m2 st ⟨v, _, rfl, hm2, hfs, rfl⟩
    conv => whnf
    split <;> rename_i h2
    all_goals simp only [decide_eq_true_eq, decide_eq_false_iff_not] at h2
    ·conv => whnf
     have hv : v < VS.length := by omega
     rw [find_drop _ hv] at hfs
     have hvr := hvn _ (List.getElem_mem hv)
     refine ⟨by omega, rows_len ciL_len _, ?_⟩
     conv => whnf
     refine ⟨_, takeN_rp (k := v) ciL_len hv, ?_⟩
     conv => whnf
     refine ⟨_, frozen_spec VS[v] (by simp [isTerm, inR]; omega), .inl rfl, .inl ?_⟩
     conv => whnf
     refine .inl ?_
     conv => whnf
     refine ⟨_, _, takeN_all (by rw [rows_len tFact_len]), roVs_rows tFact_ro _, ?_⟩
     conv => whnf
     refine ⟨_, doubled_spec D (fz VS[v]) f1 f2 f3, .inr (closed_wFactS _), .inr ?_⟩
     have htwv := htw (fz VS[v])
     unfold twTryI at hfs
     generalize twS D (fz VS[v]) = X at hfs htwv
     conv => whnf
     refine .inl ?_
     conv => whnf
     refine ⟨_, _, takeN_all (by rw [rows_len tFact_len]), roVs_rows tFact_ro _, ?_⟩
     conv => whnf
     refine ⟨_, rfl, ?_⟩
     conv => whnf
     refine ⟨_, rfl, ?_⟩
     conv => whnf
     refine ⟨_, rfl, ?_⟩
     conv => whnf
     refine ⟨_, differ_spec s a b X hs ha hb htwv, .inr trivial, .inl ?_⟩
     generalize hdf2 : differS s a b X = df2 at hfs
     cases df2 with
     | true =>
      conv => whnf
      rw [if_pos rfl, Option.some_or] at hfs
      refine ⟨by rw [rows_len tFact_len], ?_⟩
      rw [bw_true hqa hqb (o := some X) (by rw [hfs]; rfl)]
      rfl
     | false =>
      rw [if_neg (by simp), Option.none_or] at hfs
      conv => whnf
      exact ⟨m2 - 1, by omega, v + 1, _, wrap_id (by omega) (by omega), by omega, hfs, by kernel_rfl⟩
    ·conv => whnf
     have hvv : v = VS.length := by omega
     subst hvv
     rw [List.drop_eq_nil_of_le (by omega), List.findSome?_nil] at hfs
     refine ⟨m - 1, by omega, 0 + 1, _, rfl, by omega, ?_, ?_, by kernel_rfl⟩
     ·exact fun _ => hfs
     ·exact fun h => absurd h (by omega)
  ·have hfz := (small_Freeze b hb).1
   obtain ⟨f1, f2, f3⟩ := frz_facts hqb
   have hdef : bwTry s a b b = if differS s a b (pFreeze b).1 then some (pFreeze b).1 else (List.range 20).findSome? (twTry s a b (pFreeze b).1) := rfl
   have hbv := bw_vars (a := a) (b := b) hqb
   have htw := fun v => twS_facts (s := s) hqb v
   have hF := implFreeze_spec b hb
   unfold pFreezeV at hF
   generalize (pFreeze b).1 = D at hfz f1 f2 f3 hdef htw hF hbv
   generalize (pFreeze b).2 = hd0 at hF
   refine ⟨by omega, ?_⟩
   conv => whnf
   refine ⟨_, rfl, ?_⟩
   conv => whnf
   refine ⟨_, hF, .inl rfl, .inr ?_⟩
   conv => whnf
   refine .inl ?_
   conv => whnf
   refine ⟨_, _, takeN_all (by rw [rows_len tFact_len]), roVs_rows tFact_ro _, ?_⟩
   conv => whnf
   refine ⟨_, rfl, ?_⟩
   conv => whnf
   refine ⟨_, rfl, ?_⟩
   conv => whnf
   refine ⟨_, rfl, ?_⟩
   conv => whnf
   refine ⟨_, differ_spec s a b D hs ha hb hfz, .inr trivial, .inl ?_⟩
   generalize hdf : differS s a b D = df at hdef hbv
   cases df with
   | true =>
    conv => whnf
    rw [if_pos rfl] at hdef
    refine ⟨by rw [rows_len tFact_len], ?_⟩
    rw [bw_true hqa hqb (o := some D) (by rw [hi0 (by omega), hdef]; rfl)]
    rfl
   | false =>
    rw [if_neg (by simp), ← hbv rfl] at hdef
    conv => whnf
    have hvl := varsOf_len b
    have hvn := varsOf_nat b
    refine ⟨_, implVarsOf_spec b hb, .inl rfl, .inl ?_⟩
    rw [show roV (intsT (varsOf b)) = ints (varsOf b) from intsT_ro _]
    generalize varsOf b = VS at hdef hvl hvn
    conv => whnf
    refine ⟨[(3,0),(4,0),(5,0),(6,0),(7,0),(8,0),(11,0),(30,0),(31,0),(32,0),(46,0),(47,0),(48,0)], fun m st => ∃ (v : Nat) (e : Int), e = v ∧ m + v = VS.length ∧ bwTry s a b b = (VS.drop v).findSome? (twTryI s a b D) ∧
     st = ⟨63, [(3, .ptr 0 0), (4, .ptr 1 0), (5, .ptr 2 0), (6, cnil), (7, cb false), (8, .fn 103 [.ptr 0 0, .ptr 1 0, .ptr 2 0]), (11, .own 3 2 0 D.length D.length none), (30, .own 4 2 0 2 2 none), (31, ci 2), (32, ci (1 : Nat)), (46, ints VS), (47, ci VS.length), (48, ci e)], [some ⟨true, [ints s]⟩, some ⟨true, rQuery a⟩, some ⟨true, rQuery b⟩, some ⟨false, rows tFact D⟩, some ⟨false, rQuery a ++ rQuery b⟩]⟩, VS.length, ⟨0, 0, rfl, rfl, hdef, by kernel_rfl⟩, ?_⟩
    rintro m2 st ⟨v, _, rfl, hm2, hfs, rfl⟩
    conv => whnf
    split <;> rename_i h2
    all_goals simp only [decide_eq_true_eq, decide_eq_false_iff_not] at h2
    ·conv => whnf
     have hv : v < VS.length := by omega
     rw [find_drop _ hv] at hfs
     have hvr := hvn _ (List.getElem_mem hv)
     refine ⟨by omega, rows_len ciL_len _, ?_⟩
     conv => whnf
     refine ⟨_, takeN_rp (k := v) ciL_len hv, ?_⟩
     conv => whnf
     refine ⟨_, frozen_spec VS[v] (by simp [isTerm, inR]; omega), .inl rfl, .inl ?_⟩
     conv => whnf
     refine .inl ?_
     conv => whnf
     refine ⟨_, _, takeN_all (by rw [rows_len tFact_len]), roVs_rows tFact_ro _, ?_⟩
     conv => whnf
     refine ⟨_, doubled_spec D (fz VS[v]) f1 f2 f3, .inr (closed_wFactS _), .inr ?_⟩
     have htwv := htw (fz VS[v])
     unfold twTryI at hfs
     generalize twS D (fz VS[v]) = X at hfs htwv
     conv => whnf
     refine .inl ?_
     conv => whnf
     refine ⟨_, _, takeN_all (by rw [rows_len tFact_len]), roVs_rows tFact_ro _, ?_⟩
     conv => whnf
     refine ⟨_, rfl, ?_⟩
     conv => whnf
     refine ⟨_, rfl, ?_⟩
     conv => whnf
     refine ⟨_, rfl, ?_⟩
     conv => whnf
     refine ⟨_, differ_spec s a b X hs ha hb htwv, .inr trivial, .inl ?_⟩
     generalize hdf2 : differS s a b X = df2 at hfs
     cases df2 with
     | true =>
      conv => whnf
      rw [if_pos rfl, Option.some_or] at hfs
      refine ⟨by rw [rows_len tFact_len], ?_⟩
      rw [bw_true hqa hqb (o := some X) (by rw [hi0 (by omega), hfs]; rfl)]
      rfl
     | false =>
      rw [if_neg (by simp), Option.none_or] at hfs
      conv => whnf
      exact ⟨m2 - 1, by omega, v + 1, _, wrap_id (by omega) (by omega), by omega, hfs, by kernel_rfl⟩
    ·conv => whnf
     have hvv : v = VS.length := by omega
     subst hvv
     rw [List.drop_eq_nil_of_le (by omega), List.findSome?_nil] at hfs
     refine ⟨m - 1, by omega, 1 + 1, _, rfl, by omega, ?_, ?_, by kernel_rfl⟩
     ·exact fun _ => hi0 (by omega)
     ·exact fun _ => hfs
 ·conv => whnf
  have hkk : k = 2 := by omega
  subst hkk
  rw [bw_true hqa hqb (o := none) (by rw [hi0 (by omega), hi1 (by omega)]; rfl)]
  exact ⟨rfl, rfl⟩
theorem small_BagWitness (x0 : List Int) (x1 x2 : QueryE) (h0 : cSchema x0 ≤ 1048576) (h1 : cQuery x1 ≤ 1048576) (h2 : cQuery x2 ≤ 1048576) : cFactS (pBagWitness x0 x1 x2).1 ≤ 1048576 := by
 unfold pBagWitness
 split
 ·rename_i h
  simp only [Bool.and_eq_true] at h
  have key : ∀ q : QueryE, isQuery x0 q = true → cQuery q ≤ 1048576 → ∀ d, bwTry x0 x1 x2 q = some d → cFactS d ≤ 1048576 := fun q hq hc d hd => by
   unfold bwTry at hd
   split at hd
   ·cases hd; exact (small_Freeze q hc).1
   ·obtain ⟨v, _, hv⟩ := List.exists_of_findSome?_eq_some hd
    unfold twTry at hv
    split at hv
    ·cases hv; exact twS_facts hq _
    ·cases hv
  cases ho : (bwTry x0 x1 x2 x1).or (bwTry x0 x1 x2 x2) with
  | none => show (0 : Nat) + 0 ≤ _; omega
  | some d =>
   show cFactS d ≤ _
   rcases Option.or_eq_some_iff.1 ho with h3 | ⟨_, h3⟩
   ·exact key x1 h.1 h1 d h3
   ·exact key x2 h.2 h2 d h3
 ·show (0 : Nat) + 0 ≤ _; omega
theorem specBagWitness_law (x0 : List Int) (x1 x2 : QueryE) (h0 : cSchema x0 ≤ 1048576) (h1 : cQuery x1 ≤ 1048576) (h2 : cQuery x2 ≤ 1048576) (q0 : qSchema x0) (q1 : qQuery x1) (q2 : qQuery x2) : Spec Tryz.prog 29 [vSchema x0, vQuery x1, vQuery x2] (.tup [wFactS (pBagWitness x0 x1 x2).1, cb (pBagWitness x0 x1 x2).2]) := specBagWitness_gen x0 x1 x2 h0 h1 h2
theorem implBagWitness_law (x0 : List Int) (x1 x2 : QueryE) (h0 : cSchema x0 ≤ 1048576) (h1 : cQuery x1 ≤ 1048576) (h2 : cQuery x2 ≤ 1048576) (q0 : qSchema x0) (q1 : qQuery x1) (q2 : qQuery x2) : Spec Tryz.prog 32 [vSchema x0, vQuery x1, vQuery x2] (.tup [wFactS (pBagWitness x0 x1 x2).1, cb (pBagWitness x0 x1 x2).2]) := implBagWitness_gen x0 x1 x2 h0 h1 h2
end Go.Proofs.YtboolngaahifdaaGreatD
