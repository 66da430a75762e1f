/- Contracts and plain laws of this seat; no condition. -/
import Derived.Test.YtboolngaahifdaaGreatQ20
import Derived.Test.YtboolngaahifdaaGreatQ11
import Derived.Test.YtboolngaahifdaaGreatQ15
import Derived.Test.YtboolngaahifdaaGreatQ17
set_option linter.unusedVariables false
set_option linter.unusedSimpArgs false
set_option maxRecDepth 100000
namespace Go.Proofs.YtboolngaahifdaaGreatD
open Go Go.Proofs
def hasL (l : List (List Int)) (x : List Int) : Bool := l.any fun y => decide (y = x)
theorem hasL_iff (l : List (List Int)) (x : List Int) : hasL l x = true ↔ x ∈ l := by simp [hasL]
theorem drop_anyL {l : List (List Int)} {x : List Int} {k : Nat} (hk : k < l.length) : ((l.drop k).any fun y => decide (y = x)) = (decide (l[k] = x) || (l.drop (k + 1)).any fun y => decide (y = x)) := by
 rw [List.drop_eq_getElem_cons hk, List.any_cons]
theorem hasTuple_spec (l : List (List Int)) (x : List Int) (hl : l.length ≤ 1099511627776) (hb : ∀ y ∈ l, y.length ≤ 1099511627776) (hx : x.length ≤ 1099511627776) : Spec Tryz.prog 78 [vLists l, ints x] (cb (hasL l x)) := by
 refine Spec_of mx Γ_ok Tryz.func78 rfl ?_
 conv => whnf
 refine ⟨[(1,0),(4,0),(7,0),(8,0),(9,0)], fun m st => ∃ (k : Nat) (e : Int), e = k ∧ m + k = l.length ∧ hasL l x = ((l.drop k).any fun y => decide (y = x)) ∧
  st = ⟨17, [(1, ints x), (4, cb false), (7, vLists l), (8, ci l.length), (9, ci e)], []⟩, l.length, ⟨0, 0, rfl, rfl, rfl, rfl⟩, ?_⟩
 rintro m st ⟨k, _, rfl, hm, hany, rfl⟩
 conv => whnf
 split <;> rename_i h1
 all_goals simp only [decide_eq_true_eq, decide_eq_false_iff_not] at h1
 ·conv => whnf
  have hk : k < l.length := by omega
  rw [drop_anyL hk] at hany
  refine ⟨by omega, rows_len rL_len _, ?_⟩
  conv => whnf
  refine ⟨_, takeN_rp (k := k) rL_len hk, ?_⟩
  conv => whnf
  refine ⟨_, slicesEq_spec l[k] x (hb _ (List.getElem_mem hk)) hx, .inl rfl, .inl ?_⟩
  conv => whnf
  generalize decide (l[k] = x) = b at hany
  cases b with
  | true =>
   conv => whnf
   rw [hany]
   rfl
  | false =>
   conv => whnf
   rw [Bool.false_or] at hany
   exact ⟨m - 1, by omega, k + 1, _, wrap_id (by omega) (by omega), by omega, hany, rfl⟩
 ·conv => whnf
  rw [hany, List.drop_eq_nil_of_le (by omega)]
  rfl
theorem l6Has_spec (l : List (List Int)) (x : List Int) (hl : l.length ≤ 1099511627776) (hb : ∀ y ∈ l, y.length ≤ 1099511627776) (hx : x.length ≤ 1099511627776) : Spec Tryz.prog 83 [vLists l, ints x] (cb (hasL l x)) := by
 refine Spec_of mx Γ_ok Tryz.func83 rfl ?_
 conv => whnf
 refine ⟨[(0,0),(1,0),(4,0),(5,0)], fun m st => ∃ (k : Nat) (e : Int), e = k ∧ m + k = l.length ∧ hasL l x = ((l.drop k).any fun y => decide (y = x)) ∧
  st = ⟨18, [(0, vLists l), (1, ints x), (4, cb false), (5, ci e)], []⟩, l.length, ⟨0, 0, rfl, rfl, rfl, rfl⟩, ?_⟩
 rintro m st ⟨k, _, rfl, hm, hany, rfl⟩
 conv => whnf
 split <;> rename_i h1
 all_goals simp only [decide_eq_true_eq, decide_eq_false_iff_not] at h1
 ·conv => whnf
  have hk : k < l.length := by omega
  rw [drop_anyL hk] at hany
  refine ⟨by omega, rows_len rL_len _, ?_⟩
  conv => whnf
  refine ⟨_, takeN_rp (k := k) rL_len hk, ?_⟩
  conv => whnf
  refine ⟨_, l2Ints_spec l[k] x (hb _ (List.getElem_mem hk)) hx, .inl rfl, .inl ?_⟩
  conv => whnf
  generalize decide (l[k] = x) = b at hany
  cases b with
  | true =>
   conv => whnf
   rw [hany]
   rfl
  | false =>
   conv => whnf
   rw [Bool.false_or] at hany
   exact ⟨m - 1, by omega, k + 1, _, wrap_id (by omega) (by omega), by omega, hany, rfl⟩
 ·conv => whnf
  rw [hany, List.drop_eq_nil_of_le (by omega)]
  rfl
theorem answersS_size (s : List Int) (q : QueryE) (db : List FactC) : (answersS s q db).length ≤ 549755813888 ∧ ∀ x ∈ answersS s q db, x.length = q.1.length := by
 unfold answersS
 split
 ·rename_i h
  simp only [Bool.and_eq_true] at h
  obtain ⟨t1, t2, t3⟩ := isQuery_terms h.1
  have h1 := sortL_len true ((rawP q db).map fun v => q.1.map (tS v))
  rw [List.length_map] at h1
  have h2 := (rawP_ok q db).2
  have hp := pow_small (isDb_len h.2) t3
  refine ⟨by omega, fun x hx => ?_⟩
  obtain ⟨v, _, rfl⟩ := List.mem_map.1 (mem_sortL hx)
  rw [List.length_map]
 ·exact ⟨by simp, fun x hx => by cases hx⟩
theorem implIsAnswer_spec (s : List Int) (q : QueryE) (db : List FactC) (x : List Int) (hs : cSchema s ≤ 1048576) (hq : cQuery q ≤ 1048576) (hd : cFactS db ≤ 1048576) (hx : x.length ≤ 1099511627776) : Spec Tryz.prog 16 [vSchema s, vQuery q, vFactS db, ints x] (cb (hasL (answersS s q db) x)) := by
 obtain ⟨a1, a2⟩ := answersS_size s q db
 have hq' := hq
 unfold cQuery at hq'
 refine Spec_of mx Γ_ok Tryz.func16 rfl ?_
 conv => whnf
 refine ⟨_, implAnswers_spec s q db hs hq hd, .inl rfl, .inl ?_⟩
 rw [wLists_ro]
 conv => whnf
 refine ⟨_, hasTuple_spec (answersS s q db) x (by omega) (fun y hy => by rw [a2 y hy]; omega) hx, .inl rfl, .inl ?_⟩
 conv => whnf
 rfl
theorem specIsAnswer_spec (s : List Int) (q : QueryE) (db : List FactC) (x : List Int) (hs : cSchema s ≤ 1048576) (hq : cQuery q ≤ 1048576) (hd : cFactS db ≤ 1048576) (hx : x.length ≤ 1099511627776) : Spec Tryz.prog 20 [vSchema s, vQuery q, vFactS db, ints x] (cb (hasL (answersS s q db) x)) := by
 obtain ⟨a1, a2⟩ := answersS_size s q db
 have hq' := hq
 unfold cQuery at hq'
 refine Spec_of mx Γ_ok Tryz.func20 rfl ?_
 conv => whnf
 refine ⟨_, specAnswers_spec s q db hs hq hd, .inl rfl, .inl ?_⟩
 rw [wLists_ro]
 conv => whnf
 refine ⟨_, l6Has_spec (answersS s q db) x (by omega) (fun y hy => by rw [a2 y hy]; omega) hx, .inl rfl, .inl ?_⟩
 conv => whnf
 rfl
theorem belowL_bd (c : Cur) {n : Int} (h : 0 < n) : 0 ≤ (belowP c n).1 ∧ (belowP c n).1 < n := by
 by_cases h2 : n ≤ 256
 ·exact belowP_bd c h h2
 ·unfold belowP
  rw [if_neg (by omega), if_neg h2]
  have h1 := byteP_bd c
  have h3 := byteP_bd (byteP c).2
  have h4 := byteP_bd (byteP (byteP c).2).2
  have h5 := byteP_bd (byteP (byteP (byteP c).2).2).2
  simp only
  generalize (byteP c).1 = x1 at h1
  generalize (byteP (byteP c).2).1 = x2 at h3
  generalize (byteP (byteP (byteP c).2).2).1 = x3 at h4
  generalize (byteP (byteP (byteP (byteP c).2).2).2).1 = x4 at h5
  rw [wrap_id (x := x1 * 16777216) (by omega) (by omega), wrap_id (x := x2 * 65536) (by omega) (by omega), wrap_id (x := x3 * 256) (by omega) (by omega), wrap_id (x := x1 * 16777216 + x2 * 65536) (by omega) (by omega), wrap_id (x := x1 * 16777216 + x2 * 65536 + x3 * 256) (by omega) (by omega), wrap_id (by omega) (by omega)]
  rw [Int.tmod_eq_emod_of_nonneg (by omega)]
  exact ⟨Int.emod_nonneg _ (by omega), Int.emod_lt_of_pos _ h⟩
theorem belowP_big (c : Cur) {n : Int} (h0 : ¬ n ≤ 0) (hn : ¬ n ≤ 256) : belowP c n = ((IntKind.i64.wrap (IntKind.i64.wrap (IntKind.i64.wrap (IntKind.i64.wrap ((byteP c).1 * 16777216) + IntKind.i64.wrap ((byteP (byteP c).2).1 * 65536)) + IntKind.i64.wrap ((byteP (byteP (byteP c).2).2).1 * 256)) + (byteP (byteP (byteP (byteP c).2).2).2).1)).tmod n, (byteP (byteP (byteP (byteP c).2).2).2).2) := by
 unfold belowP
 rw [if_neg h0, if_neg hn]
theorem l1BelowL_spec (c : Cur) (n : Int) (h : goodC c) : SpecR Tryz.prog 81 [vCur c, ci n] (ci (belowP c n).1) [vCur (belowP c n).2, ci n] := by
 by_cases hn : n ≤ 256
 ·exact l1Below_spec c n h hn
 have h0 : ¬ n ≤ 0 := by omega
 rw [belowP_big c h0 hn, show vCur c = .bp (curC c) from rfl]
 unfold curC bytesR
 refine SpecL_of mx Γ_ok 2 Tryz.func81 rfl rfl (by omega) ?_
 conv => whnf
 rw [decide_eq_false h0]
 conv => whnf
 rw [decide_eq_false hn]
 conv => whnf
 refine .inr (.inl ?_)
 conv => whnf
 refine ⟨by simp, ?_⟩
 conv => whnf
 refine ⟨_, _, _, l1Byte_spec c h, ?_⟩
 conv => whnf
 refine .inl ?_
 conv => whnf
 have g1 := byteP_good h
 generalize byteP c = r1 at g1 ⊢
 refine .inr (.inl ?_)
 conv => whnf
 refine ⟨curC_ne _, ?_⟩
 conv => whnf
 refine ⟨_, _, _, l1Byte_spec r1.2 g1, ?_⟩
 conv => whnf
 refine .inl ?_
 conv => whnf
 have g2 := byteP_good g1
 generalize byteP r1.2 = r2 at g2 ⊢
 refine .inr (.inl ?_)
 conv => whnf
 refine ⟨curC_ne _, ?_⟩
 conv => whnf
 refine ⟨_, _, _, l1Byte_spec r2.2 g2, ?_⟩
 conv => whnf
 refine .inl ?_
 conv => whnf
 have g3 := byteP_good g2
 generalize byteP r2.2 = r3 at g3 ⊢
 refine .inr (.inl ?_)
 conv => whnf
 refine ⟨curC_ne _, ?_⟩
 conv => whnf
 refine ⟨_, _, _, l1Byte_spec r3.2 g3, ?_⟩
 conv => whnf
 refine .inl ?_
 conv => whnf
 generalize byteP r3.2 = r4
 refine ⟨by omega, ?_⟩
 conv => whnf
 exact ⟨rfl, curC_ne _, rfl⟩
set_option maxHeartbeats 1000000 in
theorem drawBindings_g (xs : List Int) (h : xs.length ≤ 1099511627776) : SpecG Tryz.prog 8 [bytesR xs] [] fun r g2 => ∃ (s : List Int) (q : QueryW) (db : List FactC), r = .tup [vSchema s, wQuery q, wFactS db] ∧ s.length ≤ 8 ∧ qSm q ∧ q.2.length ≤ 3 ∧ smDb 9 4 db ∧ g2 = [] := by
 refine SpecG_of mx Γ_ok 0 Tryz.func8 rfl rfl (by decide) ?_
 conv => whnf
 refine ⟨_, l1New_spec xs h, .inl rfl, .inr ?_⟩
 conv => whnf
 have g0 := good_new h
 generalize newCur xs = c0 at g0 ⊢
 refine .inr (.inr ⟨[2], [], ?_⟩)
 conv => whnf
 refine ⟨_, l6Draw_g c0 g0, fun r g2 hP => ?_⟩
 obtain ⟨s, q, db, c1, rfl, hs, hq, hq2, hd, g1, rfl⟩ := hP
 refine .inr ?_
 conv => whnf
 refine ⟨[2000, 0, 1, 2, 3, 4, 5], by kernel_rfl, ?_⟩
 conv => whnf
 refine ⟨rfl, ?_⟩
 conv => whnf
 refine ⟨[], ?_⟩
 conv => whnf
 refine ⟨by rw [rows_len ciL_len], by rw [rows_len tAtom_len], by rw [rows_len tFact_len], ?_⟩
 exact ⟨s, q, db, rfl, hs, hq, hq2, hd, rfl⟩
set_option maxHeartbeats 1000000 in
theorem drawAnswerOver_g (xs : List Int) (h : xs.length ≤ 1099511627776) : SpecG Tryz.prog 19 [bytesR xs] [] fun r g2 => ∃ (q : QueryW) (db : List FactC), r = .tup [wQuery q, wFactS db] ∧ qSm q ∧ q.2.length ≤ 3 ∧ smDb 9 4 db ∧ g2 = [] := by
 refine SpecG_of mx Γ_ok 0 Tryz.func19 rfl rfl (by decide) ?_
 conv => whnf
 refine ⟨_, l1New_spec xs h, .inl rfl, .inr ?_⟩
 conv => whnf
 have g0 := good_new h
 generalize newCur xs = c0 at g0 ⊢
 refine .inr (.inr ⟨[1], [], ?_⟩)
 conv => whnf
 refine ⟨_, l6Draw_g c0 g0, fun r g2 hP => ?_⟩
 obtain ⟨s, q, db, c1, rfl, hs, hq, hq2, hd, g1, rfl⟩ := hP
 refine .inr ?_
 conv => whnf
 refine ⟨[], ?_⟩
 conv => whnf
 refine ⟨by rw [rows_len ciL_len], by rw [rows_len tAtom_len], by rw [rows_len tFact_len], ?_⟩
 exact ⟨q, db, rfl, hq, hq2, hd, rfl⟩
set_option maxHeartbeats 4000000 in
theorem l6Tuples_g (c : Cur) (h : goodC c) : SpecG Tryz.prog 82 [.ptr 0 0] (gC c) fun r g2 => ∃ (l : List (List Int)) (c' : Cur), r = wLists l ∧ l.length ≤ 4 ∧ (∀ x ∈ l, x.length = 2) ∧ goodC c' ∧ g2 = gC c' := by
 unfold gC
 refine SpecG_of mx Γ_ok 1 Tryz.func82 rfl rfl (by decide) ?_
 conv => whnf
 refine .inr (.inl ?_)
 conv => whnf
 refine ⟨curC_ne c, ?_⟩
 conv => whnf
 refine ⟨_, _, _, l1Below_spec c 5 h (by omega), ?_⟩
 conv => whnf
 refine .inl ?_
 conv => whnf
 have hb := belowP_bd c (n := 5) (by omega) (by omega)
 have hc := belowP_good h 5
 generalize (belowP c 5).2 = c0 at hc ⊢
 obtain ⟨n0, hn0⟩ : ∃ n : Nat, (belowP c 5).1 = n := ⟨(belowP c 5).1.toNat, by omega⟩
 rw [hn0] at hb ⊢
 refine ⟨[(0,0),(2,0),(3,0),(4,0)], fun m st => ∃ (n : Nat) (e : Int) (l : List (List Int)) (c1 : Cur) (k : Nat) (cc r : List V), e = n ∧ m = n ∧ l.length + n = n0 ∧ goodC c1 ∧ (∀ x ∈ l, x.length = 2) ∧ k = l.length ∧ cc = curC c1 ∧ r = rows tL l ∧
  st = ⟨23, [(0, .ptr 0 0), (2, cnil), (3, .own 1 1 0 k k none), (4, ci e)], [some ⟨false, cc⟩, some ⟨false, r⟩]⟩, n0, ⟨n0, n0, [], c0, 0, _, _, rfl, rfl, by simp, hc, (fun x hx => by cases hx), rfl, rfl, rfl, by kernel_rfl⟩, ?_⟩
 rintro m st ⟨n, _, l, c1, k, _, _, rfl, hm, hln, hc1, hl, hk, rfl, rfl, rfl⟩
 conv => whnf
 split <;> rename_i h1
 all_goals simp only [decide_eq_true_eq, decide_eq_false_iff_not] at h1
 ·obtain ⟨n', rfl⟩ : ∃ n', n = n' + 1 := ⟨n - 1, by omega⟩
  conv => whnf
  refine .inr (.inl ?_)
  conv => whnf
  refine ⟨curC_ne c1, ?_⟩
  conv => whnf
  refine ⟨_, _, _, l1Below_spec c1 3 hc1 (by omega), ?_⟩
  conv => whnf
  refine .inl ?_
  have g2 := belowP_good hc1 3
  generalize (belowP c1 3).2 = c2 at g2 ⊢
  generalize (belowP c1 3).1 = x
  conv => whnf
  refine .inr (.inl ?_)
  conv => whnf
  refine ⟨curC_ne c2, ?_⟩
  conv => whnf
  refine ⟨_, _, _, l1Below_spec c2 3 g2 (by omega), ?_⟩
  conv => whnf
  refine .inl ?_
  have g3 := belowP_good g2 3
  generalize (belowP c2 3).2 = c3 at g3 ⊢
  generalize (belowP c2 3).1 = y
  conv => whnf
  refine ⟨rfl, ?_⟩
  conv => whnf
  refine ⟨_, rfl, .inr ⟨solid_tL [x, y], ?_⟩⟩
  conv => whnf
  refine ⟨by omega, by rw [rows_len tL_len, hk], _, snoc_rows tL _ [x, y], ?_⟩
  conv => whnf
  refine ⟨m - 1, by omega, n', IntKind.i64.wrap (((n' + 1 : Nat) : Int) - 1), l ++ [[x, y]], c3, k + 1, curC c3, rows tL (l ++ [[x, y]]), wrap_pred n', by omega, by simp; omega, g3, ?_, by simp [hk], rfl, rfl, by kernel_rfl⟩
  intro z hz
  rcases List.mem_append.1 hz with hz | hz
  ·exact hl z hz
  ·rw [List.mem_singleton.1 hz]; rfl
 ·have h0 : n = 0 := by omega
  subst h0
  conv => whnf
  refine ⟨[], ?_⟩
  conv => whnf
  refine ⟨by rw [rows_len tL_len, hk], ?_⟩
  exact ⟨l, c1, by rw [hk]; rfl, by omega, hl, hc1, rfl⟩
noncomputable def rgE6 : Array Oper := regOps Tryz.f18 6
def exE9 : Exs := { ex := fun _ => false, hid := fun _ => false, cut := fun k => Nat.beq k 6, gvr := fun k => Nat.beq k 9 }
theorem roVs_rL_snoc : ∀ (b : List (List Int)) (cs : List V), roVs (rows rL b ++ cs) = rows rL b ++ roVs cs
 | [], cs => rfl
 | x :: b, cs => by
  show roV (ints x) :: roVs (rows rL b ++ cs) = _
  rw [roVs_rL_snoc b cs, show roV (ints x) = ints x from by show V.ro _ (roVs (rows ciL x)) = _; rw [roVs_ci]; rfl]
  rfl
theorem flat_rowsE : ∀ (b : List (List Int)), ∀ c ∈ rows rL b, flat c = true
 | [], c, h => by cases h
 | x :: b, c, h => by
  rcases List.mem_cons.1 (show c ∈ ints x :: rows rL b from h) with rfl | h
  ·rfl
  ·exact flat_rowsE b c h
theorem tL_roVs (x : List Int) : roVs (tL x) = rL x := by
 show [roV (intsT x)] = [ints x]
 rw [tL_ro]
set_option maxHeartbeats 4000000 in
theorem drawSameTuples_g (xs : List Int) (h : xs.length ≤ 1099511627776) : SpecG Tryz.prog 18 [bytesR xs] [] fun r g2 => ∃ (a b : List (List Int)) (rt : V), r = .tup [wLists a, rt] ∧ roV rt = vLists b ∧ a.length ≤ 8 ∧ b.length ≤ 8 ∧ (∀ x ∈ a, x.length = 2) ∧ (∀ x ∈ b, x.length = 2) ∧ g2 = [] := by
 refine SpecG_ofE (ex := exE9) mx Γ_ok 0 Tryz.func18 rfl rfl (by decide) ?_
 conv => whnf
 refine ⟨_, l1New_spec xs h, .inl rfl, .inr ?_⟩
 conv => whnf
 have g0 := good_new h
 generalize newCur xs = c0 at g0 ⊢
 refine .inr (.inr ⟨[0], [], ?_⟩)
 conv => whnf
 refine ⟨_, l6Tuples_g c0 g0, fun r g2 hP => ?_⟩
 obtain ⟨a, c1, rfl, ha, ha2, g1, rfl⟩ := hP
 refine .inr ?_
 conv => whnf
 refine .inr (.inl ?_)
 conv => whnf
 refine ⟨curC_ne c1, ?_⟩
 conv => whnf
 refine ⟨_, _, _, l1Once_spec c1 2 g1 (by omega), ?_⟩
 conv => whnf
 refine .inl ?_
 have g2 := belowP_good g1 2
 generalize (belowP c1 2).2 = c2 at g2 ⊢
 generalize ((belowP c1 2).1 == 0) = o
 cases o with
 | true =>
  conv => whnf
  refine ⟨[(2,0),(3,0),(4,0),(5,0),(6,0),(7,0)], fun m st => ∃ (i : Nat) (e : Int) (b : List (List Int)) (k : Nat) (r : List V), e = (i : Int) - 1 ∧ m = i ∧ i + b.length = a.length ∧ (∀ x ∈ b, x.length = 2) ∧ k = b.length ∧ roVs r = rows rL b ∧
   st = ⟨38, [(2, cnil), (3, cnil), (4, .ptr 0 0), (5, .own 1 1 0 a.length a.length none), (6, .own 2 1 0 k k none), (7, ci e)], [some ⟨false, curC c2⟩, some ⟨false, rows tL a⟩, some ⟨false, r⟩]⟩, a.length, ⟨a.length, _, [], 0, [], wrap_id (by omega) (by omega), rfl, by simp, (fun x hx => by cases hx), rfl, rfl, by kernel_rfl⟩, ?_⟩
  rintro m st ⟨i, _, b, k, r, rfl, hm, hib, hb2, hk, hr, rfl⟩
  conv => whnf
  refine ⟨[(2,0),(3,0),(4,0),(5,0),(6,0),(7,0)], [2], ⟨38, [(2, cnil), (3, cnil), (4, .ptr 0 0), (5, .own 1 1 0 a.length a.length none), (6, .own 2 1 0 k k none), (7, ci ((i : Int) - 1))], [some ⟨false, curC c2⟩, some ⟨false, rows tL a⟩, some ⟨false, roVs r⟩]⟩, rgE6, by kernel_rfl, by kernel_rfl, ?_⟩
  rw [hr]
  conv => whnf
  split <;> rename_i h1
  all_goals simp only [decide_eq_true_eq, decide_eq_false_iff_not] at h1
  ·conv => whnf
   obtain ⟨i, rfl⟩ : ∃ j, i = j + 1 := ⟨i - 1, by omega⟩
   rw [show (((i + 1 : Nat) : Int) - 1) = (i : Int) from by omega]
   have hil : i < a.length := by omega
   refine ⟨by omega, ?_⟩
   conv => whnf
   refine ⟨_, takeN_own (f := tL) (k := i) (d := 0) (m := 1) (xs := a) tL_len (by show 0 + ((i : Nat) : Int).toNat * 1 = _; omega) hil (by omega) rfl, ?_⟩
   conv => whnf
   refine ⟨_, _, rows_cell (v := intsT a[i]) (f := tL) tL_len (k := i) (d := 0) (by show 0 + ((i : Nat) : Int).toNat * 1 = _; omega) hil rfl, flat_ci a[i], ?_⟩
   conv => whnf
   have hai := ha2 _ (List.getElem_mem hil)
   refine ⟨by omega, rfl, _, app_ci [] a[i], ?_⟩
   conv => whnf
   refine ⟨by rw [rows_len ciL_len, List.nil_append, Nat.zero_add]; rfl, ?_⟩
   rw [List.nil_append, Nat.zero_add]
   conv => whnf
   refine ⟨_, rfl, .inr ⟨solid_tL a[i], ?_⟩⟩
   conv => whnf
   refine ⟨by omega, by rw [rows_len rL_len, hk], _, rfl, ?_⟩
   conv => whnf
   refine ⟨m - 1, by omega, i, _, b ++ [a[i]], k + 1, rows rL b ++ tL a[i], wrap_id (by omega) (by omega), by omega, by simp; omega, ?_, by simp [hk], ?_, by kernel_rfl⟩
   ·intro x hx
    rcases List.mem_append.1 hx with hx | hx
    ·exact hb2 x hx
    ·rw [List.mem_singleton.1 hx]; exact hai
   ·rw [roVs_rL_snoc, tL_roVs]
    exact snoc_rows rL b a[i]
  ·conv => whnf
   refine ⟨_, takeN_all (by rw [rows_len rL_len, hk]; rfl), .inl ⟨flat_rowsE b, ?_⟩⟩
   conv => whnf
   refine ⟨by omega, by rw [rows_len rL_len, hk], _, rfl, ?_⟩
   conv => whnf
   refine ⟨[], ?_⟩
   conv => whnf
   refine ⟨by rw [rows_len tL_len], ?_⟩
   conv => whnf
   refine ⟨by rw [List.length_append, rows_len rL_len, hk]; omega, ?_⟩
   conv => whnf
   refine ⟨a, b ++ b, .tr 1 (k + k) (rows rL b ++ rows rL b), rfl, ?_, by omega, by rw [List.length_append]; omega, ha2, ?_, rfl⟩
   ·have e1 : roVs (rows rL b) = rows rL b := by
     have := roVs_rL_snoc b []
     rw [List.append_nil] at this
     rw [this]
     exact List.append_nil _
    show V.ro (k + k) (roVs (rows rL b ++ rows rL b)) = V.ro (b ++ b).length (rows rL (b ++ b))
    rw [roVs_rL_snoc, e1, ← rows_append, List.length_append, hk]
   ·intro x hx
    rcases List.mem_append.1 hx with hx | hx
    ·exact hb2 x hx
    ·exact hb2 x hx
 | false =>
  conv => whnf
  refine .inr (.inr ⟨[0], [], ?_⟩)
  conv => whnf
  refine ⟨_, l6Tuples_g c2 g2, fun r g2 hP => ?_⟩
  obtain ⟨b, c3, rfl, hb, hb2, g3, rfl⟩ := hP
  refine .inr ?_
  conv => whnf
  refine ⟨[], ?_⟩
  conv => whnf
  refine ⟨by rw [rows_len tL_len], by rw [rows_len tL_len], ?_⟩
  exact ⟨a, b, _, rfl, wLists_ro b, by omega, by omega, ha2, hb2, rfl⟩
set_option maxHeartbeats 4000000 in
theorem drawIsAnswer_g (xs : List Int) (h : xs.length ≤ 1099511627776) : SpecG Tryz.prog 17 [bytesR xs] [] fun r g2 => ∃ (s : List Int) (q : QueryW) (db : List FactC) (t : List Int) (rt : V), r = .tup [vSchema s, wQuery q, wFactS db, rt] ∧ roV rt = ints t ∧ s.length ≤ 8 ∧ qSm q ∧ q.2.length ≤ 3 ∧ smDb 9 4 db ∧ t.length ≤ 1048576 ∧ g2 = [] := by
 refine SpecG_of mx Γ_ok 0 Tryz.func17 rfl rfl (by decide) ?_
 conv => whnf
 refine ⟨_, l1New_spec xs h, .inl rfl, .inr ?_⟩
 conv => whnf
 have g0 := good_new h
 generalize newCur xs = c0 at g0 ⊢
 refine .inr (.inr ⟨[2], [], ?_⟩)
 conv => whnf
 refine ⟨_, l6Draw_g c0 g0, fun r g2 hP => ?_⟩
 obtain ⟨s, q, db, c1, rfl, hs, hq, hq2, hd, g1, rfl⟩ := hP
 refine .inr ?_
 conv => whnf
 refine .inl ?_
 conv => whnf
 refine ⟨_, _, takeN_all (by rw [rows_len ciL_len]), roVs_ci _, ?_⟩
 conv => whnf
 refine ⟨_, _, takeN_all (by rw [rows_len tAtom_len]), roVs_rows tAtom_ro _, ?_⟩
 conv => whnf
 refine ⟨_, _, takeN_all (by rw [rows_len tFact_len]), roVs_rows tFact_ro _, ?_⟩
 conv => whnf
 have hqs := qSm_size hq
 have hds := smDb_size hd (by omega) (by omega)
 refine ⟨_, specAnswers_spec s q db (by show s.length ≤ _; omega) hqs hds, .inr (closed_wLists _), .inl ?_⟩
 rw [wLists_ro]
 have hLs : ∀ x ∈ answersS s q db, x.length ≤ 1048576 := fun x hx => by rw [(answersS_size s q db).2 x hx]; have := hq.1; omega
 generalize answersS s q db = L at hLs
 conv => whnf
 generalize hb1 : decide ((L.length : Int) > 0) = b1
 cases b1 with
 | false =>
  conv => whnf
  refine ⟨[1001, 2000, 2001, 0, 1, 2, 3, 4, 5, 6, 7, 8, 9, 1000, 1000], by kernel_rfl, ?_⟩
  conv => whnf
  refine .inr (.inl ?_)
  conv => whnf
  refine ⟨curC_ne c1, ?_⟩
  conv => whnf
  refine ⟨fun k => noSubT_lk (by kernel_rfl) k, rfl, _, _, _, l1Below_spec c1 4 g1 (by omega), ?_⟩
  conv => whnf
  refine .inl ?_
  generalize (belowP c1 4).1 = v
  conv => whnf
  refine ⟨rfl, ?_⟩
  conv => whnf
  refine ⟨[], ?_⟩
  conv => whnf
  refine ⟨by rw [rows_len ciL_len], by rw [rows_len tAtom_len], by rw [rows_len tFact_len], ?_⟩
  exact ⟨s, q, db, [v], _, rfl, rfl, hs, hq, hq2, hd, by simp, rfl⟩
 | true =>
  have hL0 : 0 < (L.length : Int) := of_decide_eq_true hb1
  conv => whnf
  refine .inr (.inl ?_)
  conv => whnf
  refine ⟨curC_ne c1, ?_⟩
  conv => whnf
  refine ⟨_, _, _, l1Once_spec c1 2 g1 (by omega), ?_⟩
  conv => whnf
  refine .inl ?_
  have g2 := belowP_good g1 2
  generalize (belowP c1 2).2 = c2 at g2 ⊢
  generalize ((belowP c1 2).1 == 0) = o
  cases o with
  | false =>
   conv => whnf
   refine ⟨[1001, 2000, 2001, 0, 1, 2, 3, 4, 5, 6, 7, 8, 9, 1000, 1000], by kernel_rfl, ?_⟩
   conv => whnf
   refine .inr (.inl ?_)
   conv => whnf
   refine ⟨curC_ne c2, ?_⟩
   conv => whnf
   refine ⟨fun k => noSubT_lk (by kernel_rfl) k, rfl, _, _, _, l1Below_spec c2 4 g2 (by omega), ?_⟩
   conv => whnf
   refine .inl ?_
   generalize (belowP c2 4).1 = v
   conv => whnf
   refine ⟨rfl, ?_⟩
   conv => whnf
   refine ⟨[], ?_⟩
   conv => whnf
   refine ⟨by rw [rows_len ciL_len], by rw [rows_len tAtom_len], by rw [rows_len tFact_len], ?_⟩
   exact ⟨s, q, db, [v], _, rfl, rfl, hs, hq, hq2, hd, by simp, rfl⟩
  | true =>
   conv => whnf
   refine ⟨[1001, 2000, 2001, 0, 1, 2, 3, 4, 5, 6, 7, 8, 9, 10, 11, 12, 13, 1000, 1000], by kernel_rfl, ?_⟩
   conv => whnf
   refine .inr (.inl ?_)
   conv => whnf
   refine ⟨curC_ne c2, ?_⟩
   conv => whnf
   refine ⟨fun k => noSubT_lk (by kernel_rfl) k, rfl, _, _, _, l1BelowL_spec c2 L.length g2, ?_⟩
   conv => whnf
   refine .inl ?_
   have hbl := belowL_bd c2 hL0
   obtain ⟨v, hv⟩ : ∃ v : Nat, (belowP c2 L.length).1 = v := ⟨(belowP c2 L.length).1.toNat, by omega⟩
   rw [hv] at hbl ⊢
   conv => whnf
   have hvl : v < L.length := by omega
   refine ⟨by omega, rows_len rL_len _, ?_⟩
   conv => whnf
   refine ⟨_, takeN_rp (k := v) rL_len hvl, ?_⟩
   conv => whnf
   refine ⟨rfl, ?_⟩
   conv => whnf
   refine ⟨rfl, ?_⟩
   conv => whnf
   refine ⟨[], ?_⟩
   conv => whnf
   refine ⟨by rw [rows_len ciL_len], by rw [rows_len tAtom_len], by rw [rows_len tFact_len], ?_⟩
   exact ⟨s, q, db, L[v], _, rfl, (by show V.ro _ (roVs (rows ciL L[v])) = _; rw [roVs_ci]; rfl), hs, hq, hq2, hd, hLs _ (List.getElem_mem hvl), rfl⟩
def partB (b : Bnd) (k : Nat) : List Int := (List.range 20).map fun i => if i < k then (b i).getD (-1) else 0
theorem partB_len (b : Bnd) (k : Nat) : (partB b k).length = 20 := by simp [partB]
theorem partB_full (b : Bnd) : partB b 20 = sV b := by
 unfold partB sV sB
 rw [List.take_append_of_le_length (by simp), List.take_of_length_le (by simp)]
 exact List.map_congr_left fun i hi => if_pos (List.mem_range.1 hi)
theorem partB_set (b : Bnd) {k : Nat} (hk : k < 20) (v : Int) (hv : v = (b k).getD (-1)) : (partB b k).set k v = partB b (k + 1) := by
 apply List.ext_getElem
 ·simp [partB]
 ·intro p h1 h2
  rw [List.getElem_set]
  simp only [partB, List.getElem_map, List.getElem_range]
  split
  ·rename_i e; subst e; rw [if_pos (by omega), hv]
  ·by_cases h : p < k
   ·rw [if_pos h, if_pos (by omega)]
   ·rw [if_neg h, if_neg (by omega)]
theorem partB_two (b : Bnd) {k : Nat} (hk : k < 20) {u : Int} (hu : b k = some u) : rows ciL (((partB b k).set k (-1)).set k (ba b k)) = rows ciL (partB b (k + 1)) := by
 rw [List.set_set, partB_set b hk (ba b k) (by unfold ba; rw [hu]; rfl)]
theorem setB_ci {xs : List Int} {k : Nat} (hk : k < xs.length) (y : Int) : setC (rows ciL xs) (0 + k * 1) [ci y] = rows ciL (xs.set k y) := (congrArg (fun o => setC (rows ciL xs) o (ciL y)) (Nat.zero_add _)).trans (setC_rows ciL_len (by omega) hk _)
set_option maxHeartbeats 4000000 in
theorem bindC_spec (b : Bnd) (outs : List (List Int)) (ho : outs.length < 1099511627776) :
  SpecG Tryz.prog 68 [.agg (bC b), .ptr 0 0] [some ⟨true, [.own 1 1 0 outs.length outs.length none]⟩, some ⟨false, rows tL outs⟩] fun r g2 =>
   r = .tup [] ∧ g2 = [some ⟨true, [.own 2 1 0 (outs.length + 1) (outs.length + 1) none]⟩, none, some ⟨false, rows tL (outs ++ [sV b])⟩] := by
 refine SpecG_of mx Γ_ok 2 Tryz.func68 rfl rfl (by decide) ?_
 conv => whnf
 refine ⟨by omega, _, repl_rows (f := ciL) (d := 0) rfl _, ?_⟩
 conv => whnf
 refine ⟨[(1,0),(2,0),(3,0),(7,0),(8,0)], fun m s => ∃ (k : Nat) (e : Int) (r : List V), e = k ∧ m + k = 20 ∧ r = rows ciL (partB b k) ∧
  s = ⟨30, [(1, .ptr 0 0), (2, .ptr 2 0), (3, .own 3 1 0 20 20 none), (7, ci 20), (8, ci e)], [some ⟨true, [.own 1 1 0 outs.length outs.length none]⟩, some ⟨false, rows tL outs⟩, some ⟨true, bC b⟩, some ⟨false, r⟩]⟩, 20, ⟨0, 0, _, rfl, rfl, rfl, by kernel_rfl⟩, ?_⟩
 rintro m s ⟨k, _, _, rfl, hm, rfl, rfl⟩
 conv => whnf
 split <;> rename_i h1
 all_goals simp only [decide_eq_true_eq, decide_eq_false_iff_not] at h1
 ·conv => whnf
  have hk : k < 20 := by omega
  refine ⟨by omega, ?_⟩
  conv => whnf
  refine ⟨_, takeN_own (k := k) (d := 0) (m := 1) (xs := partB b k) ciL_len (Nat.zero_add _) (by rw [partB_len]; exact hk) (Nat.le_refl _) rfl, _, setB_ci (by rw [partB_len]; exact hk) _, ?_⟩
  conv => whnf
  refine ⟨by omega, ?_⟩
  conv => whnf
  have hgt := takeN_bB (b := b) (k := k) (off := 0 + 20 + (k : Int).toNat * 1) hk (by omega)
  split <;> rename_i hr0
  rotate_left
  ·cases hr0.symm.trans hgt
  cases hr0.symm.trans hgt
  conv => whnf
  generalize hs : bs b k = c4
  cases c4 with
  | false =>
   have hx : (-1 : Int) = (b k).getD (-1) := by
    have : (b k).isSome = false := hs
    cases h : b k with
    | none => rfl
    | some u => rw [h] at this; cases this
   conv => whnf
   exact ⟨m - 1, by omega, k + 1, _, _, wrap_id (by omega) (by omega), by omega, congrArg (rows ciL) (partB_set b hk (-1) hx), by kernel_rfl⟩
  | true =>
   obtain ⟨u, hu⟩ : ∃ u, b k = some u := by
    have : (b k).isSome = true := hs
    cases h : b k with
    | none => rw [h] at this; cases this
    | some u => exact ⟨u, rfl⟩
   conv => whnf
   refine ⟨by omega, ?_⟩
   conv => whnf
   have hga := takeN_bA (b := b) (k := k) (off := 0 + 0 + (k : Int).toNat * 1) hk (by omega)
   split <;> rename_i hr1
   rotate_left
   ·cases hr1.symm.trans hga
   cases hr1.symm.trans hga
   conv => whnf
   refine ⟨by omega, ?_⟩
   conv => whnf
   have hl2 : k < ((partB b k).set k (-1)).length := by rw [List.length_set, partB_len]; exact hk
   refine ⟨_, takeN_own (k := k) (d := 0) (m := 1) (xs := (partB b k).set k (-1)) ciL_len (Nat.zero_add _) hl2 (Nat.le_refl _) rfl, _, setB_ci hl2 _, ?_⟩
   conv => whnf
   exact ⟨m - 1, by omega, k + 1, _, _, wrap_id (by omega) (by omega), by omega, partB_two b hk hu, by kernel_rfl⟩
 ·conv => whnf
  have hkk : k = 20 := by omega
  subst hkk
  rw [partB_full]
  refine ⟨by rw [rows_len ciL_len]; rfl, ?_⟩
  conv => whnf
  refine ⟨_, rfl, .inr ⟨solid_tL (sV b), ?_⟩⟩
  conv => whnf
  refine ⟨by omega, by rw [rows_len tL_len], _, snoc_rows tL _ (sV b), ?_⟩
  conv => whnf
  refine ⟨[], ?_⟩
  conv => whnf
  exact ⟨rfl, rfl⟩
end Go.Proofs.YtboolngaahifdaaGreatD
