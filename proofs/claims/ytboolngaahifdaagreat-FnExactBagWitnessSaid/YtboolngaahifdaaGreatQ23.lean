/- Contracts and plain laws of this seat; no condition. -/
import Derived.Test.YtboolngaahifdaaGreatQ15
import Derived.Test.YtboolngaahifdaaGreatQ13
set_option linter.unusedVariables false
set_option linter.unusedSimpArgs false
set_option maxRecDepth 100000
namespace Go.Proofs.YtboolngaahifdaaGreatD
open Go Go.Proofs
def isVals (xs : List Int) : Bool := xs.all fun x => inR x 0 99
def isFact (s : List Int) (f : FactC) : Bool := takesS s f.1 f.2.length && isVals f.2
def ordOk : Option FactC → FactC → Bool
 | none, _ => true
 | some y, x => ltF y x
def dbGo (s : List Int) : Option FactC → List FactC → Bool
 | _, [] => true
 | p, x :: r => isFact s x && ordOk p x && dbGo s (some x) r
def isDb (s : List Int) (db : List FactC) : Bool := dbGo s none db && (isSchema s && decide (db.length ≤ 24))
theorem areValues_spec (xs : List Int) (h : xs.length ≤ 1099511627776) : Spec Tryz.prog 198 [ints xs] (cb (isVals xs)) := by
 refine Spec_of mx Γ_ok Tryz.func198 rfl ?_
 conv => whnf
 unfold isVals
 refine ⟨[(2,0),(5,0),(6,0),(7,0)], fun m s => ∃ (k : Nat) (e : Int), e = k ∧ m + k = xs.length ∧ xs.all (fun x => inR x 0 99) = (xs.drop k).all (fun x => inR x 0 99) ∧
  s = ⟨15, [(2, cb false), (5, ints xs), (6, ci xs.length), (7, ci e)], []⟩, xs.length, ⟨0, 0, rfl, rfl, rfl, rfl⟩, ?_⟩
 rintro m s ⟨k, _, rfl, hm, hall, rfl⟩
 conv => whnf
 split <;> rename_i h3
 all_goals simp only [decide_eq_true_eq, decide_eq_false_iff_not] at h3
 ·conv => whnf
  have hk : k < xs.length := by omega
  rw [drop_all hk] at hall
  refine ⟨by omega, rows_len ciL_len _, ?_⟩
  conv => whnf
  refine ⟨_, takeN_rp (k := k) ciL_len hk, ?_⟩
  conv => whnf
  refine ⟨_, within_spec xs[k] 0 99, .inl rfl, .inl ?_⟩
  conv => whnf
  generalize inR xs[k] 0 99 = b1 at hall
  cases b1 with
  | false =>
   conv => whnf
   rw [hall]
   rfl
  | true =>
   conv => whnf
   rw [Bool.true_and] at hall
   exact ⟨m - 1, by omega, k + 1, _, wrap_id (by omega) (by omega), by omega, hall, rfl⟩
 ·conv => whnf
  rw [drop_end (by omega)] at hall
  rw [hall]
  rfl
theorem implIsFact_spec (s : List Int) (f : FactC) (hs : s.length ≤ 1099511627776) (hf : f.2.length ≤ 1099511627776) : Spec Tryz.prog 146 [vSchema s, vFact f] (cb (isFact s f)) := by
 refine Spec_of mx Γ_ok Tryz.func146 rfl ?_
 conv => whnf
 refine ⟨_, takes_spec s f.1 f.2.length hs, .inl rfl, .inl ?_⟩
 conv => whnf
 unfold isFact
 generalize takesS s f.1 f.2.length = b1
 cases b1 with
 | false =>
  conv => whnf
  rfl
 | true =>
 conv => whnf
 refine ⟨_, areValues_spec f.2 hf, .inl rfl, .inl ?_⟩
 conv => whnf
 rfl
def prevAt (db : List FactC) (k : Nat) : Option FactC := if k = 0 then none else db[k - 1]?
set_option maxHeartbeats 4000000 in
theorem implIsDatabase_spec (s : List Int) (db : List FactC) (hs : s.length ≤ 1099511627776) (hd : cFactS db ≤ 1048576) : Spec Tryz.prog 66 [vSchema s, vFactS db] (cb (isDb s db)) := by
 unfold cFactS at hd
 refine Spec_of mx Γ_ok Tryz.func66 rfl ?_
 conv => whnf
 unfold isDb
 refine ⟨[(1,0),(2,0),(4,0),(7,0),(8,0),(9,0)], fun m st => ∃ (k : Nat) (e : Int), e = k ∧ m + k = db.length ∧ dbGo s none db = dbGo s (prevAt db k) (db.drop k) ∧
  st = ⟨40, [(1, vFactS db), (2, .ptr 0 0), (4, cb false), (7, vFactS db), (8, ci db.length), (9, ci e)], [some ⟨true, [ints s]⟩]⟩, db.length, ⟨0, 0, rfl, rfl, rfl, rfl⟩, ?_⟩
 rintro m st ⟨k, _, rfl, hm, hall, rfl⟩
 conv => whnf
 split <;> rename_i h3
 all_goals simp only [decide_eq_true_eq, decide_eq_false_iff_not] at h3
 ·conv => whnf
  have hk : k < db.length := by omega
  have hb := sumB_one (f := cFact) hk
  have hcb : cFact db[k] = db[k].2.length := rfl
  rw [List.drop_eq_getElem_cons hk, dbGo] at hall
  have hnext : prevAt db (k + 1) = some db[k] := by simp [prevAt, hk]
  refine ⟨by omega, rows_len rFact_len _, ?_⟩
  conv => whnf
  refine ⟨_, takeN_rp (k := k) rFact_len hk, ?_⟩
  conv => whnf
  refine ⟨List.range 18, by kernel_rfl, ?_⟩
  conv => whnf
  refine ⟨_, implIsFact_spec s db[k] hs (by omega), .inl rfl, .inl ?_⟩
  conv => whnf
  generalize isFact s db[k] = b1 at hall
  cases b1 with
  | false =>
   conv => whnf
   rw [hall]
   rfl
  | true =>
   conv => whnf
   generalize hc2 : decide ((k : Int) > 0) = c2
   cases c2 with
   | false =>
    have hk0 : k = 0 := by have := of_decide_eq_false hc2; omega
    subst hk0
    conv => whnf
    simp only [prevAt, if_true, ordOk, Bool.true_and] at hall
    exact ⟨m - 1, by omega, 0 + 1, _, wrap_id (by omega) (by omega), by omega, by rw [hnext]; exact hall, rfl⟩
   | true =>
    have hk0 : ¬ k = 0 := by have := of_decide_eq_true hc2; omega
    obtain ⟨j, rfl⟩ : ∃ j, k = j + 1 := ⟨k - 1, by omega⟩
    have hj : j < db.length := by omega
    have hb2 := sumB_one (f := cFact) hj
    have hcb2 : cFact db[j] = db[j].2.length := rfl
    have hp : prevAt db (j + 1) = some db[j] := by simp [prevAt, hj]
    have hw : IntKind.i64.wrap (((j + 1 : Nat) : Int) - 1) = (j : Int) := by rw [wrap_id (by omega) (by omega)]; omega
    rw [hp] at hall
    conv => whnf
    rw [hw]
    refine ⟨by omega, rows_len rFact_len _, ?_⟩
    conv => whnf
    refine ⟨_, takeN_rp (k := j) rFact_len hj, ?_⟩
    conv => whnf
    refine ⟨_, compareFacts_spec db[j] db[j + 1] (by omega) (by omega), .inl rfl, .inl ?_⟩
    conv => whnf
    have hge : decide (cmpF db[j] db[j + 1] ≥ 0) = !ltF db[j] db[j + 1] := by
     rw [ltF_cmp, Bool.eq_iff_iff]; simp
    rw [hge]
    simp only [ordOk, Bool.true_and] at hall
    generalize ltF db[j] db[j + 1] = b3 at hall
    cases b3 with
    | false =>
     conv => whnf
     rw [hall]
     rfl
    | true =>
     conv => whnf
     rw [Bool.true_and] at hall
     exact ⟨m - 1, by omega, j + 1 + 1, _, wrap_id (by omega) (by omega), by omega, by rw [hnext]; exact hall, rfl⟩
 ·conv => whnf
  rw [drop_end (by omega)] at hall
  rw [hall]
  refine ⟨_, implIsSchema_spec s hs, .inl rfl, .inl ?_⟩
  conv => whnf
  generalize isSchema s = b1
  cases b1 with
  | false =>
   conv => whnf
   rfl
  | true =>
   conv => whnf
   show cb _ = cb _
   congr 1
   simp only [dbGo, Bool.true_and, decide_eq_decide]
   omega
set_option maxHeartbeats 4000000 in
theorem specIsFact_spec (s : List Int) (f : FactC) (hs : s.length ≤ 1099511627776) (hf : f.2.length ≤ 1099511627776) : Spec Tryz.prog 93 [vSchema s, vFact f] (cb (isFact s f)) := by
 have hw : IntKind.i64.wrap ((s.length : Int) - 1) = s.length - 1 := wrap_id (by omega) (by omega)
 refine Spec_of mx Γ_ok Tryz.func93 rfl ?_
 conv => whnf
 refine ⟨List.range 25, by kernel_rfl, ?_⟩
 conv => whnf
 refine ⟨_, specIsSchema_spec s hs, .inl rfl, .inl ?_⟩
 conv => whnf
 unfold isFact takesS
 generalize hb1 : isSchema s = b1
 cases b1 with
 | false =>
  conv => whnf
  rfl
 | true =>
 conv => whnf
 refine ⟨_, l1In_spec _ _ _, .inl rfl, .inl ?_⟩
 rw [hw]
 conv => whnf
 generalize hb2 : inR f.1 0 (s.length - 1) = b2
 cases b2 with
 | false =>
  conv => whnf
  rfl
 | true =>
 conv => whnf
 have hr : 0 ≤ f.1 ∧ f.1 ≤ (s.length : Int) - 1 := by simpa [inR] using hb2
 obtain ⟨q, hqa⟩ : ∃ q : Nat, f.1 = q := ⟨f.1.toNat, by omega⟩
 have hq : q < s.length := by omega
 rw [hqa]
 refine ⟨by omega, rows_len ciL_len s, ?_⟩
 conv => whnf
 refine ⟨_, takeN_rp (k := q) ciL_len hq, ?_⟩
 conv => whnf
 rw [Int.toNat_natCast, getD_at hq]
 have he : ((f.2.length : Int) != s[q]) = !decide (s[q] = (f.2.length : Int)) := by
  rw [Bool.eq_iff_iff]; simp; exact ⟨fun h e => h e.symm, fun h e => h e.symm⟩
 rw [he]
 generalize decide (s[q] = (f.2.length : Int)) = b3
 cases b3 with
 | false =>
  conv => whnf
  rfl
 | true =>
 conv => whnf
 unfold isVals
 refine ⟨[(2,0),(3,0),(4,0),(5,0)], fun m st => ∃ (k : Nat) (e : Int), e = k ∧ m + k = f.2.length ∧ f.2.all (fun x => inR x 0 99) = (f.2.drop k).all (fun x => inR x 0 99) ∧
  st = ⟨45, [(2, .ptr 0 0), (3, .ptr 1 0), (4, cb false), (5, ci e)], [some ⟨true, [ints s]⟩, some ⟨true, [ci q, ints f.2]⟩]⟩, f.2.length, ⟨0, 0, rfl, rfl, rfl, rfl⟩, ?_⟩
 rintro m st ⟨k, _, rfl, hm, hall, rfl⟩
 conv => whnf
 split <;> rename_i h3
 all_goals simp only [decide_eq_true_eq, decide_eq_false_iff_not] at h3
 ·conv => whnf
  have hk : k < f.2.length := by omega
  rw [drop_all hk] at hall
  refine ⟨by omega, rows_len ciL_len _, ?_⟩
  conv => whnf
  refine ⟨_, takeN_rp (k := k) ciL_len hk, ?_⟩
  conv => whnf
  refine ⟨_, l1In_spec f.2[k] 0 99, .inl rfl, .inl ?_⟩
  conv => whnf
  generalize inR f.2[k] 0 99 = b1 at hall
  cases b1 with
  | false =>
   conv => whnf
   rw [hall]
   rfl
  | true =>
   conv => whnf
   rw [Bool.true_and] at hall
   exact ⟨m - 1, by omega, k + 1, _, wrap_id (by omega) (by omega), by omega, hall, rfl⟩
 ·conv => whnf
  rw [drop_end (by omega)] at hall
  rw [hall]
  rfl
set_option maxHeartbeats 4000000 in
theorem specIsDatabase_spec (s : List Int) (db : List FactC) (hs : s.length ≤ 1099511627776) (hd : cFactS db ≤ 1048576) : Spec Tryz.prog 26 [vSchema s, vFactS db] (cb (isDb s db)) := by
 unfold cFactS at hd
 refine Spec_of mx Γ_ok Tryz.func26 rfl ?_
 conv => whnf
 unfold isDb
 refine ⟨[(1,0),(2,0),(4,0),(5,0)], fun m st => ∃ (k : Nat) (e : Int), e = k ∧ m + k = db.length ∧ dbGo s none db = dbGo s (prevAt db k) (db.drop k) ∧
  st = ⟨43, [(1, vFactS db), (2, .ptr 0 0), (4, cb false), (5, ci e)], [some ⟨true, [ints s]⟩]⟩, db.length, ⟨0, 0, rfl, rfl, rfl, rfl⟩, ?_⟩
 rintro m st ⟨k, _, rfl, hm, hall, rfl⟩
 conv => whnf
 split <;> rename_i h3
 all_goals simp only [decide_eq_true_eq, decide_eq_false_iff_not] at h3
 ·conv => whnf
  have hk : k < db.length := by omega
  have hb := sumB_one (f := cFact) hk
  have hcb : cFact db[k] = db[k].2.length := rfl
  rw [List.drop_eq_getElem_cons hk, dbGo] at hall
  have hnext : prevAt db (k + 1) = some db[k] := by simp [prevAt, hk]
  refine ⟨List.range 24, by kernel_rfl, ?_⟩
  conv => whnf
  refine ⟨by omega, rows_len rFact_len _, ?_⟩
  conv => whnf
  refine ⟨_, takeN_rp (k := k) rFact_len hk, ?_⟩
  conv => whnf
  refine ⟨_, specIsFact_spec s db[k] hs (by omega), .inl rfl, .inl ?_⟩
  conv => whnf
  generalize isFact s db[k] = b1 at hall
  cases b1 with
  | false =>
   conv => whnf
   rw [hall]
   rfl
  | true =>
   conv => whnf
   generalize hc2 : decide ((k : Int) > 0) = c2
   cases c2 with
   | false =>
    have hk0 : k = 0 := by have := of_decide_eq_false hc2; omega
    subst hk0
    conv => whnf
    simp only [prevAt, if_true, ordOk, Bool.true_and] at hall
    exact ⟨m - 1, by omega, 0 + 1, _, wrap_id (by omega) (by omega), by omega, by rw [hnext]; exact hall, rfl⟩
   | true =>
    have hk0 : ¬ k = 0 := by have := of_decide_eq_true hc2; omega
    obtain ⟨j, rfl⟩ : ∃ j, k = j + 1 := ⟨k - 1, by omega⟩
    have hj : j < db.length := by omega
    have hb2 := sumB_one (f := cFact) hj
    have hcb2 : cFact db[j] = db[j].2.length := rfl
    have hp : prevAt db (j + 1) = some db[j] := by simp [prevAt, hj]
    have hw : IntKind.i64.wrap (((j + 1 : Nat) : Int) - 1) = (j : Int) := by rw [wrap_id (by omega) (by omega)]; omega
    rw [hp] at hall
    conv => whnf
    rw [hw]
    refine ⟨by omega, rows_len rFact_len _, ?_⟩
    conv => whnf
    refine ⟨_, takeN_rp (k := j) rFact_len hj, ?_⟩
    conv => whnf
    refine ⟨by omega, rows_len rFact_len _, ?_⟩
    conv => whnf
    refine ⟨_, takeN_rp (k := j + 1) rFact_len hk, ?_⟩
    conv => whnf
    refine ⟨_, l5Less_spec db[j] db[j + 1] (by omega) (by omega), .inl rfl, .inl ?_⟩
    conv => whnf
    simp only [ordOk, Bool.true_and] at hall
    generalize ltF db[j] db[j + 1] = b3 at hall
    cases b3 with
    | false =>
     conv => whnf
     rw [hall]
     rfl
    | true =>
     conv => whnf
     rw [Bool.true_and] at hall
     exact ⟨m - 1, by omega, j + 1 + 1, _, wrap_id (by omega) (by omega), by omega, by rw [hnext]; exact hall, rfl⟩
 ·conv => whnf
  rw [drop_end (by omega)] at hall
  rw [hall]
  refine ⟨_, specIsSchema_spec s hs, .inl rfl, .inl ?_⟩
  conv => whnf
  generalize isSchema s = b1
  cases b1 with
  | false =>
   conv => whnf
   rfl
  | true =>
   conv => whnf
   show cb _ = cb _
   congr 1
   simp only [dbGo, Bool.true_and, decide_eq_decide]
   omega
def idxI (v : Int) : List Int → Nat → Int
 | [], _ => -1
 | a :: l, k => if eqV v a then k else idxI v l (k + 1)
theorem idxI_ge (v : Int) : ∀ l k, decide (idxI v l k ≥ 0) = has l v
 | [], k => rfl
 | a :: l, k => by
  unfold idxI
  rw [has, List.any_cons]
  cases h : eqV v a with
  | true =>
   rw [if_pos rfl]
   exact decide_eq_true (by omega)
  | false =>
   rw [if_neg (by simp)]
   exact idxI_ge v l (k + 1)
theorem slicesIndex_spec (xs : List Int) (v : Int) (h : xs.length ≤ 1099511627776) : Spec Tryz.prog 214 [ints xs, ci v] (ci (idxI v xs 0)) := by
 refine Spec_of mx Γ_ok Tryz.func214 rfl ?_
 conv => whnf
 refine ⟨[(0,0),(1,0),(4,0),(7,0),(8,0)], fun m s => ∃ (k : Nat) (e : Int), e = k ∧ m + k = xs.length ∧ idxI v xs 0 = idxI v (xs.drop k) k ∧
  s = ⟨17 + 2, [(0, ints xs), (1, ci v), (4, ci 0), (7, ci xs.length), (8, ci e)], []⟩, xs.length, ⟨0, 0, rfl, rfl, rfl, rfl⟩, ?_⟩
 rintro m s ⟨k, _, rfl, hm, hj, rfl⟩
 conv => whnf
 split <;> rename_i h1
 all_goals simp only [decide_eq_true_eq, decide_eq_false_iff_not] at h1
 ·conv => whnf
  have hk : k < xs.length := by omega
  rw [List.drop_eq_getElem_cons hk, idxI] at hj
  refine ⟨by omega, rows_len ciL_len xs, ?_⟩
  conv => whnf
  refine ⟨_, takeN_rp (k := k) ciL_len hk, ?_⟩
  conv => whnf
  generalize hb1 : (v == xs[k]) = b1
  have hb2 : eqV v xs[k] = b1 := by rw [← hb1, eqV, Bool.beq_comm]
  rw [hb2] at hj
  cases b1 with
  | true =>
   conv => whnf
   rw [hj]
   rfl
  | false =>
   conv => whnf
   exact ⟨m - 1, by omega, k + 1, _, wrap_id (by omega) (by omega), by omega, hj, rfl⟩
 ·conv => whnf
  rw [hj, drop_end (by omega)]
  rfl
theorem slicesContains_spec (xs : List Int) (v : Int) (h : xs.length ≤ 1099511627776) : Spec Tryz.prog 175 [ints xs, ci v] (cb (has xs v)) := by
 refine Spec_of mx Γ_ok Tryz.func175 rfl ?_
 conv => whnf
 refine ⟨_, slicesIndex_spec xs v h, .inl rfl, .inl ?_⟩
 conv => whnf
 exact congrArg cb (idxI_ge v xs 0)
def hasA (x : Int) (a : AtomT) : Bool := has a.2 x
def occurs (q : QueryT) (x : Int) : Bool := q.2.any (hasA x)
theorem occurs_spec (q : QueryT) (x : Int) (h : cQuery q ≤ 1048576) : Spec Tryz.prog 162 [vQuery q, ci x] (cb (occurs q x)) := by
 unfold cQuery cAtomS at h
 refine Spec_of mx Γ_ok Tryz.func162 rfl ?_
 conv => whnf
 refine ⟨[(1,0),(4,0),(8,0),(9,0),(10,0)], fun m s => ∃ (k : Nat) (e : Int), e = k ∧ m + k = q.2.length ∧ occurs q x = (q.2.drop k).any (hasA x) ∧
  s = ⟨19, [(1, ci x), (4, cb false), (8, vAtomS q.2), (9, ci q.2.length), (10, ci e)], []⟩, q.2.length, ⟨0, 0, rfl, rfl, rfl, rfl⟩, ?_⟩
 rintro m s ⟨k, _, rfl, hm, hj, rfl⟩
 conv => whnf
 split <;> rename_i h1
 all_goals simp only [decide_eq_true_eq, decide_eq_false_iff_not] at h1
 ·conv => whnf
  have hk : k < q.2.length := by omega
  have hb := sumB_one (f := cAtom) hk
  have hcb : cAtom q.2[k] = q.2[k].2.length := rfl
  rw [drop_any hk] at hj
  refine ⟨by omega, rows_len rAtom_len _, ?_⟩
  conv => whnf
  refine ⟨_, takeN_rp (k := k) rAtom_len hk, ?_⟩
  conv => whnf
  refine ⟨_, slicesContains_spec q.2[k].2 x (by omega), .inl rfl, .inl ?_⟩
  conv => whnf
  generalize hb1 : has q.2[k].2 x = b1
  rw [show hasA x q.2[k] = b1 from hb1] at hj
  cases b1 with
  | true =>
   conv => whnf
   rw [hj]
   rfl
  | false =>
   conv => whnf
   rw [Bool.false_or] at hj
   exact ⟨m - 1, by omega, k + 1, _, wrap_id (by omega) (by omega), by omega, hj, rfl⟩
 ·conv => whnf
  rw [hj, drop_end (by omega)]
  rfl
def safeV (q : QueryT) (x : Int) : Bool := !(isVar x && !occurs q x)
theorem isSafe_spec (q : QueryT) (h : cQuery q ≤ 1048576) : Spec Tryz.prog 86 [vQuery q] (cb (q.1.all (safeV q))) := by
 have h' := h
 unfold cQuery at h'
 refine Spec_of mx Γ_ok Tryz.func86 rfl ?_
 conv => whnf
 refine ⟨[(1,0),(2,0),(6,0),(7,0),(8,0)], fun m s => ∃ (k : Nat) (e : Int), e = k ∧ m + k = q.1.length ∧ q.1.all (safeV q) = (q.1.drop k).all (safeV q) ∧
  s = ⟨21, [(1, .ptr 0 0), (2, cb false), (6, ints q.1), (7, ci q.1.length), (8, ci e)], [some ⟨true, rQuery q⟩]⟩, q.1.length, ⟨0, 0, rfl, rfl, rfl, rfl⟩, ?_⟩
 rintro m s ⟨k, _, rfl, hm, hj, rfl⟩
 conv => whnf
 split <;> rename_i h1
 all_goals simp only [decide_eq_true_eq, decide_eq_false_iff_not] at h1
 ·conv => whnf
  have hk : k < q.1.length := by omega
  rw [drop_all hk, safeV] at hj
  refine ⟨by omega, rows_len ciL_len _, ?_⟩
  conv => whnf
  refine ⟨_, takeN_rp (k := k) ciL_len hk, ?_⟩
  conv => whnf
  refine ⟨_, implIsVar_spec q.1[k], .inl rfl, .inl ?_⟩
  conv => whnf
  generalize isVar q.1[k] = b1 at hj
  cases b1 with
  | false =>
   conv => whnf
   exact ⟨m - 1, by omega, k + 1, _, wrap_id (by omega) (by omega), by omega, hj, rfl⟩
  | true =>
  conv => whnf
  refine ⟨_, occurs_spec q q.1[k] h, .inl rfl, .inl ?_⟩
  conv => whnf
  generalize occurs q q.1[k] = b2 at hj
  cases b2 with
  | false =>
   conv => whnf
   rw [hj]
   rfl
  | true =>
   conv => whnf
   exact ⟨m - 1, by omega, k + 1, _, wrap_id (by omega) (by omega), by omega, hj, rfl⟩
 ·conv => whnf
  rw [hj, drop_end (by omega)]
  rfl
def fineQ (s : List Int) (q : QueryT) (n : Int) : Bool := isSchema s && (terms3 q.1 && (inR q.2.length 1 n && (q.2.all (isAtom s) && q.1.all (safeV q))))
def isQuery (s : List Int) (q : QueryT) : Bool := fineQ s q 4
theorem implIsQuery_spec (s : List Int) (q : QueryT) (hs : cSchema s ≤ 1048576) (h : cQuery q ≤ 1048576) : Spec Tryz.prog 65 [vSchema s, vQuery q] (cb (isQuery s q)) := by
 unfold cSchema at hs
 have h' := h
 unfold cQuery cAtomS at h'
 refine Spec_of mx Γ_ok Tryz.func65 rfl ?_
 conv => whnf
 refine ⟨_, implIsSchema_spec s (by omega), .inl rfl, .inl ?_⟩
 conv => whnf
 unfold isQuery fineQ
 generalize isSchema s = b1
 cases b1 with
 | false =>
  conv => whnf
  rfl
 | true =>
 conv => whnf
 generalize hb2 : decide ((q.1.length : Int) > 3) = b2
 cases b2 with
 | true =>
  conv => whnf
  have := of_decide_eq_true hb2
  rw [terms3, decide_eq_false (p := q.1.length ≤ 3) (by omega), Bool.and_false]
  rfl
 | false =>
 conv => whnf
 have h3 := of_decide_eq_false hb2
 rw [terms3, decide_eq_true (p := q.1.length ≤ 3) (by omega), Bool.and_true]
 refine ⟨_, areTerms_spec q.1 (by omega), .inl rfl, .inl ?_⟩
 conv => whnf
 generalize q.1.all isTerm = b3
 cases b3 with
 | false =>
  conv => whnf
  rfl
 | true =>
 conv => whnf
 refine ⟨_, within_spec (q.2.length : Int) 1 4, .inl rfl, .inl ?_⟩
 conv => whnf
 generalize inR (q.2.length : Int) 1 4 = b4
 cases b4 with
 | false =>
  conv => whnf
  rfl
 | true =>
 conv => whnf
 refine ⟨[(2,0),(3,0),(4,0),(30,0),(31,0),(32,0)], fun m st => ∃ (k : Nat) (e : Int), e = k ∧ m + k = q.2.length ∧ q.2.all (isAtom s) = (q.2.drop k).all (isAtom s) ∧
  st = ⟨43, [(2, .ptr 0 0), (3, .ptr 1 0), (4, cb false), (30, vAtomS q.2), (31, ci q.2.length), (32, ci e)], [some ⟨true, [ints s]⟩, some ⟨true, rQuery q⟩]⟩, q.2.length, ⟨0, 0, rfl, rfl, rfl, rfl⟩, ?_⟩
 rintro m st ⟨k, _, rfl, hm, hj, rfl⟩
 conv => whnf
 split <;> rename_i h1
 all_goals simp only [decide_eq_true_eq, decide_eq_false_iff_not] at h1
 ·conv => whnf
  have hk : k < q.2.length := by omega
  have hb := sumB_one (f := cAtom) hk
  have hcb : cAtom q.2[k] = q.2[k].2.length := rfl
  rw [drop_all hk] at hj
  refine ⟨by omega, rows_len rAtom_len _, ?_⟩
  conv => whnf
  refine ⟨_, takeN_rp (k := k) rAtom_len hk, ?_⟩
  conv => whnf
  refine ⟨_, implIsAtom_spec s q.2[k] (by omega) (by omega), .inl rfl, .inl ?_⟩
  conv => whnf
  generalize isAtom s q.2[k] = b5 at hj
  cases b5 with
  | false =>
   conv => whnf
   rw [hj]
   rfl
  | true =>
   conv => whnf
   rw [Bool.true_and] at hj
   exact ⟨m - 1, by omega, k + 1, _, wrap_id (by omega) (by omega), by omega, hj, rfl⟩
 ·conv => whnf
  rw [drop_end (by omega)] at hj
  rw [hj]
  refine ⟨_, isSafe_spec q h, .inl rfl, .inl ?_⟩
  conv => whnf
  rfl
end Go.Proofs.YtboolngaahifdaaGreatD
