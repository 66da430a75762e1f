/- Contracts and plain laws of this seat; no condition. -/
import Derived.Test.YtboolngaahifdaaGreatQ15
import Derived.Test.YtboolngaahifdaaGreatQ19
import Derived.Test.YtboolngaahifdaaGreatQ14
set_option linter.unusedVariables false
set_option linter.unusedSimpArgs false
set_option maxRecDepth 100000
namespace Go.Proofs.YtboolngaahifdaaGreatD
open Go Go.Proofs
def isVals (xs : List Int) : Bool := xs.all fun x => inR x 0 99
def isFact (s : List Int) (f : FactC) : Bool := takesS s f.1 f.2.length && isVals f.2
def ordOk : Option FactC → FactC → Bool
 | none, _ => true
 | some y, x => ltF y x
def dbGo (s : List Int) : Option FactC → List FactC → Bool
 | _, [] => true
 | p, x :: r => isFact s x && ordOk p x && dbGo s (some x) r
def isDb (s : List Int) (db : List FactC) : Bool := dbGo s none db && (isSchema s && decide (db.length ≤ 24))
theorem areValues_spec (xs : List Int) (h : xs.length ≤ 1099511627776) : Spec Tryz.prog 198 [ints xs] (cb (isVals xs)) := by
 refine Spec_of mx Γ_ok Tryz.func198 rfl ?_
 conv => whnf
 unfold isVals
 refine ⟨[(2,0),(5,0),(6,0),(7,0)], fun m s => ∃ (k : Nat) (e : Int), e = k ∧ m + k = xs.length ∧ xs.all (fun x => inR x 0 99) = (xs.drop k).all (fun x => inR x 0 99) ∧
  s = ⟨15, [(2, cb false), (5, ints xs), (6, ci xs.length), (7, ci e)], []⟩, xs.length, ⟨0, 0, rfl, rfl, rfl, rfl⟩, ?_⟩
 rintro m s ⟨k, _, rfl, hm, hall, rfl⟩
 conv => whnf
 split <;> rename_i h3
 all_goals simp only [decide_eq_true_eq, decide_eq_false_iff_not] at h3
 ·conv => whnf
  have hk : k < xs.length := by omega
  rw [drop_all hk] at hall
  refine ⟨by omega, rows_len ciL_len _, ?_⟩
  conv => whnf
  refine ⟨_, takeN_rp (k := k) ciL_len hk, ?_⟩
  conv => whnf
  refine ⟨_, within_spec xs[k] 0 99, .inl rfl, .inl ?_⟩
  conv => whnf
  generalize inR xs[k] 0 99 = b1 at hall
  cases b1 with
  | false =>
   conv => whnf
   rw [hall]
   rfl
  | true =>
   conv => whnf
   rw [Bool.true_and] at hall
   exact ⟨m - 1, by omega, k + 1, _, wrap_id (by omega) (by omega), by omega, hall, rfl⟩
 ·conv => whnf
  rw [drop_end (by omega)] at hall
  rw [hall]
  rfl
theorem implIsFact_spec (s : List Int) (f : FactC) (hs : s.length ≤ 1099511627776) (hf : f.2.length ≤ 1099511627776) : Spec Tryz.prog 146 [vSchema s, vFact f] (cb (isFact s f)) := by
 refine Spec_of mx Γ_ok Tryz.func146 rfl ?_
 conv => whnf
 refine ⟨_, takes_spec s f.1 f.2.length hs, .inl rfl, .inl ?_⟩
 conv => whnf
 unfold isFact
 generalize takesS s f.1 f.2.length = b1
 cases b1 with
 | false =>
  conv => whnf
  rfl
 | true =>
 conv => whnf
 refine ⟨_, areValues_spec f.2 hf, .inl rfl, .inl ?_⟩
 conv => whnf
 rfl
def prevAt (db : List FactC) (k : Nat) : Option FactC := if k = 0 then none else db[k - 1]?
set_option maxHeartbeats 4000000 in
theorem implIsDatabase_spec (s : List Int) (db : List FactC) (hs : s.length ≤ 1099511627776) (hd : cFactS db ≤ 1048576) : Spec Tryz.prog 66 [vSchema s, vFactS db] (cb (isDb s db)) := by
 unfold cFactS at hd
 refine Spec_of mx Γ_ok Tryz.func66 rfl ?_
 conv => whnf
 unfold isDb
 refine ⟨[(1,0),(2,0),(4,0),(7,0),(8,0),(9,0)], fun m st => ∃ (k : Nat) (e : Int), e = k ∧ m + k = db.length ∧ dbGo s none db = dbGo s (prevAt db k) (db.drop k) ∧
  st = ⟨40, [(1, vFactS db), (2, .ptr 0 0), (4, cb false), (7, vFactS db), (8, ci db.length), (9, ci e)], [some ⟨true, [ints s]⟩]⟩, db.length, ⟨0, 0, rfl, rfl, rfl, rfl⟩, ?_⟩
 rintro m st ⟨k, _, rfl, hm, hall, rfl⟩
 conv => whnf
 split <;> rename_i h3
 all_goals simp only [decide_eq_true_eq, decide_eq_false_iff_not] at h3
 ·conv => whnf
  have hk : k < db.length := by omega
  have hb := sumB_one (f := cFact) hk
  have hcb : cFact db[k] = db[k].2.length := rfl
  rw [List.drop_eq_getElem_cons hk, dbGo] at hall
  have hnext : prevAt db (k + 1) = some db[k] := by simp [prevAt, hk]
  refine ⟨by omega, rows_len rFact_len _, ?_⟩
  conv => whnf
  refine ⟨_, takeN_rp (k := k) rFact_len hk, ?_⟩
  conv => whnf
  refine ⟨List.range 18, by kernel_rfl, ?_⟩
  conv => whnf
  refine ⟨_, implIsFact_spec s db[k] hs (by omega), .inl rfl, .inl ?_⟩
  conv => whnf
  generalize isFact s db[k] = b1 at hall
  cases b1 with
  | false =>
   conv => whnf
   rw [hall]
   rfl
  | true =>
   conv => whnf
   generalize hc2 : decide ((k : Int) > 0) = c2
   cases c2 with
   | false =>
    have hk0 : k = 0 := by have := of_decide_eq_false hc2; omega
    subst hk0
    conv => whnf
    simp only [prevAt, if_true, ordOk, Bool.true_and] at hall
    exact ⟨m - 1, by omega, 0 + 1, _, wrap_id (by omega) (by omega), by omega, by rw [hnext]; exact hall, rfl⟩
   | true =>
    have hk0 : ¬ k = 0 := by have := of_decide_eq_true hc2; omega
    obtain ⟨j, rfl⟩ : ∃ j, k = j + 1 := ⟨k - 1, by omega⟩
    have hj : j < db.length := by omega
    have hb2 := sumB_one (f := cFact) hj
    have hcb2 : cFact db[j] = db[j].2.length := rfl
    have hp : prevAt db (j + 1) = some db[j] := by simp [prevAt, hj]
    have hw : IntKind.i64.wrap (((j + 1 : Nat) : Int) - 1) = (j : Int) := by rw [wrap_id (by omega) (by omega)]; omega
    rw [hp] at hall
    conv => whnf
    rw [hw]
    refine ⟨by omega, rows_len rFact_len _, ?_⟩
    conv => whnf
    refine ⟨_, takeN_rp (k := j) rFact_len hj, ?_⟩
    conv => whnf
    refine ⟨_, compareFacts_spec db[j] db[j + 1] (by omega) (by omega), .inl rfl, .inl ?_⟩
    conv => whnf
    have hge : decide (cmpF db[j] db[j + 1] ≥ 0) = !ltF db[j] db[j + 1] := by
     rw [ltF_cmp, Bool.eq_iff_iff]; simp
    rw [hge]
    simp only [ordOk, Bool.true_and] at hall
    generalize ltF db[j] db[j + 1] = b3 at hall
    cases b3 with
    | false =>
     conv => whnf
     rw [hall]
     rfl
    | true =>
     conv => whnf
     rw [Bool.true_and] at hall
     exact ⟨m - 1, by omega, j + 1 + 1, _, wrap_id (by omega) (by omega), by omega, by rw [hnext]; exact hall, rfl⟩
 ·conv => whnf
  rw [drop_end (by omega)] at hall
  rw [hall]
  refine ⟨_, implIsSchema_spec s hs, .inl rfl, .inl ?_⟩
  conv => whnf
  generalize isSchema s = b1
  cases b1 with
  | false =>
   conv => whnf
   rfl
  | true =>
   conv => whnf
   show cb _ = cb _
   congr 1
   simp only [dbGo, Bool.true_and, decide_eq_decide]
   omega
set_option maxHeartbeats 4000000 in
theorem specIsFact_spec (s : List Int) (f : FactC) (hs : s.length ≤ 1099511627776) (hf : f.2.length ≤ 1099511627776) : Spec Tryz.prog 93 [vSchema s, vFact f] (cb (isFact s f)) := by
 have hw : IntKind.i64.wrap ((s.length : Int) - 1) = s.length - 1 := wrap_id (by omega) (by omega)
 refine Spec_of mx Γ_ok Tryz.func93 rfl ?_
 conv => whnf
 refine ⟨List.range 25, by kernel_rfl, ?_⟩
 conv => whnf
 refine ⟨_, specIsSchema_spec s hs, .inl rfl, .inl ?_⟩
 conv => whnf
 unfold isFact takesS
 generalize hb1 : isSchema s = b1
 cases b1 with
 | false =>
  conv => whnf
  rfl
 | true =>
 conv => whnf
 refine ⟨_, l1In_spec _ _ _, .inl rfl, .inl ?_⟩
 rw [hw]
 conv => whnf
 generalize hb2 : inR f.1 0 (s.length - 1) = b2
 cases b2 with
 | false =>
  conv => whnf
  rfl
 | true =>
 conv => whnf
 have hr : 0 ≤ f.1 ∧ f.1 ≤ (s.length : Int) - 1 := by simpa [inR] using hb2
 obtain ⟨q, hqa⟩ : ∃ q : Nat, f.1 = q := ⟨f.1.toNat, by omega⟩
 have hq : q < s.length := by omega
 rw [hqa]
 refine ⟨by omega, rows_len ciL_len s, ?_⟩
 conv => whnf
 refine ⟨_, takeN_rp (k := q) ciL_len hq, ?_⟩
 conv => whnf
 rw [Int.toNat_natCast, getD_at hq]
 have he : ((f.2.length : Int) != s[q]) = !decide (s[q] = (f.2.length : Int)) := by
  rw [Bool.eq_iff_iff]; simp; exact ⟨fun h e => h e.symm, fun h e => h e.symm⟩
 rw [he]
 generalize decide (s[q] = (f.2.length : Int)) = b3
 cases b3 with
 | false =>
  conv => whnf
  rfl
 | true =>
 conv => whnf
 unfold isVals
 refine ⟨[(2,0),(3,0),(4,0),(5,0)], fun m st => ∃ (k : Nat) (e : Int), e = k ∧ m + k = f.2.length ∧ f.2.all (fun x => inR x 0 99) = (f.2.drop k).all (fun x => inR x 0 99) ∧
  st = ⟨45, [(2, .ptr 0 0), (3, .ptr 1 0), (4, cb false), (5, ci e)], [some ⟨true, [ints s]⟩, some ⟨true, [ci q, ints f.2]⟩]⟩, f.2.length, ⟨0, 0, rfl, rfl, rfl, rfl⟩, ?_⟩
 rintro m st ⟨k, _, rfl, hm, hall, rfl⟩
 conv => whnf
 split <;> rename_i h3
 all_goals simp only [decide_eq_true_eq, decide_eq_false_iff_not] at h3
 ·conv => whnf
  have hk : k < f.2.length := by omega
  rw [drop_all hk] at hall
  refine ⟨by omega, rows_len ciL_len _, ?_⟩
  conv => whnf
  refine ⟨_, takeN_rp (k := k) ciL_len hk, ?_⟩
  conv => whnf
  refine ⟨_, l1In_spec f.2[k] 0 99, .inl rfl, .inl ?_⟩
  conv => whnf
  generalize inR f.2[k] 0 99 = b1 at hall
  cases b1 with
  | false =>
   conv => whnf
   rw [hall]
   rfl
  | true =>
   conv => whnf
   rw [Bool.true_and] at hall
   exact ⟨m - 1, by omega, k + 1, _, wrap_id (by omega) (by omega), by omega, hall, rfl⟩
 ·conv => whnf
  rw [drop_end (by omega)] at hall
  rw [hall]
  rfl
set_option maxHeartbeats 4000000 in
theorem specIsDatabase_spec (s : List Int) (db : List FactC) (hs : s.length ≤ 1099511627776) (hd : cFactS db ≤ 1048576) : Spec Tryz.prog 26 [vSchema s, vFactS db] (cb (isDb s db)) := by
 unfold cFactS at hd
 refine Spec_of mx Γ_ok Tryz.func26 rfl ?_
 conv => whnf
 unfold isDb
 refine ⟨[(1,0),(2,0),(4,0),(5,0)], fun m st => ∃ (k : Nat) (e : Int), e = k ∧ m + k = db.length ∧ dbGo s none db = dbGo s (prevAt db k) (db.drop k) ∧
  st = ⟨43, [(1, vFactS db), (2, .ptr 0 0), (4, cb false), (5, ci e)], [some ⟨true, [ints s]⟩]⟩, db.length, ⟨0, 0, rfl, rfl, rfl, rfl⟩, ?_⟩
 rintro m st ⟨k, _, rfl, hm, hall, rfl⟩
 conv => whnf
 split <;> rename_i h3
 all_goals simp only [decide_eq_true_eq, decide_eq_false_iff_not] at h3
 ·conv => whnf
  have hk : k < db.length := by omega
  have hb := sumB_one (f := cFact) hk
  have hcb : cFact db[k] = db[k].2.length := rfl
  rw [List.drop_eq_getElem_cons hk, dbGo] at hall
  have hnext : prevAt db (k + 1) = some db[k] := by simp [prevAt, hk]
  refine ⟨List.range 24, by kernel_rfl, ?_⟩
  conv => whnf
  refine ⟨by omega, rows_len rFact_len _, ?_⟩
  conv => whnf
  refine ⟨_, takeN_rp (k := k) rFact_len hk, ?_⟩
  conv => whnf
  refine ⟨_, specIsFact_spec s db[k] hs (by omega), .inl rfl, .inl ?_⟩
  conv => whnf
  generalize isFact s db[k] = b1 at hall
  cases b1 with
  | false =>
   conv => whnf
   rw [hall]
   rfl
  | true =>
   conv => whnf
   generalize hc2 : decide ((k : Int) > 0) = c2
   cases c2 with
   | false =>
    have hk0 : k = 0 := by have := of_decide_eq_false hc2; omega
    subst hk0
    conv => whnf
    simp only [prevAt, if_true, ordOk, Bool.true_and] at hall
    exact ⟨m - 1, by omega, 0 + 1, _, wrap_id (by omega) (by omega), by omega, by rw [hnext]; exact hall, rfl⟩
   | true =>
    have hk0 : ¬ k = 0 := by have := of_decide_eq_true hc2; omega
    obtain ⟨j, rfl⟩ : ∃ j, k = j + 1 := ⟨k - 1, by omega⟩
    have hj : j < db.length := by omega
    have hb2 := sumB_one (f := cFact) hj
    have hcb2 : cFact db[j] = db[j].2.length := rfl
    have hp : prevAt db (j + 1) = some db[j] := by simp [prevAt, hj]
    have hw : IntKind.i64.wrap (((j + 1 : Nat) : Int) - 1) = (j : Int) := by rw [wrap_id (by omega) (by omega)]; omega
    rw [hp] at hall
    conv => whnf
    rw [hw]
    refine ⟨by omega, rows_len rFact_len _, ?_⟩
    conv => whnf
    refine ⟨_, takeN_rp (k := j) rFact_len hj, ?_⟩
    conv => whnf
    refine ⟨by omega, rows_len rFact_len _, ?_⟩
    conv => whnf
    refine ⟨_, takeN_rp (k := j + 1) rFact_len hk, ?_⟩
    conv => whnf
    refine ⟨_, l5Less_spec db[j] db[j + 1] (by omega) (by omega), .inl rfl, .inl ?_⟩
    conv => whnf
    simp only [ordOk, Bool.true_and] at hall
    generalize ltF db[j] db[j + 1] = b3 at hall
    cases b3 with
    | false =>
     conv => whnf
     rw [hall]
     rfl
    | true =>
     conv => whnf
     rw [Bool.true_and] at hall
     exact ⟨m - 1, by omega, j + 1 + 1, _, wrap_id (by omega) (by omega), by omega, by rw [hnext]; exact hall, rfl⟩
 ·conv => whnf
  rw [drop_end (by omega)] at hall
  rw [hall]
  refine ⟨_, specIsSchema_spec s hs, .inl rfl, .inl ?_⟩
  conv => whnf
  generalize isSchema s = b1
  cases b1 with
  | false =>
   conv => whnf
   rfl
  | true =>
   conv => whnf
   show cb _ = cb _
   congr 1
   simp only [dbGo, Bool.true_and, decide_eq_decide]
   omega
theorem isQuery_terms {s : List Int} {q : QueryE} (h : isQuery s q = true) : q.1.all isTerm = true ∧ (∀ a ∈ q.2, a.2.all isTerm = true) ∧ q.2.length ≤ 8 := by
 have h0 := h
 simp only [isQuery, fineQ, terms3, Bool.and_eq_true, decide_eq_true_eq] at h
 refine ⟨?_, ?_, ?_⟩
 ·exact h.2.1.1
 ·intro a ha
  have := List.all_eq_true.1 h.2.2.2.1 a ha
  simp only [isAtom, Bool.and_eq_true] at this
  exact this.2
 ·have := h.2.2.1
  simp only [inR, Bool.and_eq_true, decide_eq_true_eq] at this
  omega
def answersS (s : List Int) (q : QueryE) (db : List FactC) : List (List Int) := if isQuery s q && isDb s db then sortL true ((rawP q db).map fun v => q.1.map (tS v)) else []
def bindingsS (s : List Int) (q : QueryE) (db : List FactC) : List (List Int) := if isQuery s q && isDb s db then rawP q db else []
theorem isDb_len {s : List Int} {db : List FactC} (h : isDb s db = true) : db.length ≤ 24 := by
 simp only [isDb, Bool.and_eq_true, decide_eq_true_eq] at h
 exact h.2.2
theorem pow_small {n m : Nat} (hn : n ≤ 24) (hm : m ≤ 8) : n ^ m ≤ 549755813888 := by
 have h1 : n ^ m ≤ 24 ^ m := Nat.pow_le_pow_left hn m
 have h2 : 24 ^ m ≤ 24 ^ 8 := Nat.pow_le_pow_right (by decide) hm
 have h3 : 24 ^ 8 ≤ 549755813888 := by decide
 omega
theorem specBindings_spec (s : List Int) (q : QueryE) (db : List FactC) (hs : cSchema s ≤ 1048576) (hq : cQuery q ≤ 1048576) (hd : cFactS db ≤ 1048576) : Spec Tryz.prog 10 [vSchema s, vQuery q, vFactS db] (wLists (bindingsS s q db)) := by
 have hs' : s.length ≤ 1099511627776 := by unfold cSchema at hs; omega
 refine Spec_of mx Γ_ok Tryz.func10 rfl ?_
 conv => whnf
 refine ⟨_, specIsQuery_spec s q hs hq, .inl rfl, .inl ?_⟩
 conv => whnf
 unfold bindingsS
 generalize hb1 : isQuery s q = b1
 cases b1 with
 | false =>
  conv => whnf
  exact ⟨rfl, rfl⟩
 | true =>
  conv => whnf
  refine ⟨_, specIsDatabase_spec s db hs' hd, .inl rfl, .inl ?_⟩
  conv => whnf
  generalize hb2 : isDb s db = b2
  cases b2 with
  | false =>
   conv => whnf
   exact ⟨rfl, rfl⟩
  | true =>
   conv => whnf
   obtain ⟨t1, t2, t3⟩ := isQuery_terms hb1
   refine ⟨_, l6Raw_spec q db hq hd t2 (pow_small (isDb_len hb2) t3), .inl rfl, .inr ?_⟩
   conv => whnf
   refine ⟨by rw [rows_len tL_len], rfl⟩
theorem mem_insL {once : Bool} {out : List (List Int)} {v x : List Int} (h : x ∈ insL once out v) : x = v ∨ x ∈ out := by
 unfold insL at h
 split at h
 ·exact .inr h
 ·rcases List.mem_append.1 h with h | h
  ·exact .inr (List.mem_of_mem_take h)
  ·rcases List.mem_cons.1 h with h | h
   ·exact .inl h
   ·exact .inr (List.mem_of_mem_drop h)
theorem insL_len (once : Bool) (out : List (List Int)) (v : List Int) : (insL once out v).length ≤ out.length + 1 := by
 unfold insL
 split
 ·omega
 ·rw [List.length_append, List.length_cons, List.length_take, List.length_drop]; omega
theorem foldL_ok (once : Bool) : ∀ (l out : List (List Int)), (∀ x ∈ l.foldl (insL once) out, x ∈ l ∨ x ∈ out) ∧ (l.foldl (insL once) out).length ≤ l.length + out.length
 | [], out => ⟨fun x h => .inr h, by simp⟩
 | v :: l, out => by
  obtain ⟨h1, h2⟩ := foldL_ok once l (insL once out v)
  have h3 := insL_len once out v
  refine ⟨fun x hx => ?_, ?_⟩
  ·rcases h1 x hx with h | h
   ·exact .inl (by simp [h])
   ·rcases mem_insL h with h | h
    ·exact .inl (by simp [h])
    ·exact .inr h
  ·rw [List.foldl_cons, List.length_cons]; omega
theorem mem_sortL {once : Bool} {l : List (List Int)} {x : List Int} (h : x ∈ sortL once l) : x ∈ l := by
 rcases (foldL_ok once l []).1 x h with h | h
 ·exact h
 ·cases h
theorem sortL_len (once : Bool) (l : List (List Int)) : (sortL once l).length ≤ l.length := (foldL_ok once l []).2
theorem rawP_ok (q : QueryE) (db : List FactC) : (∀ v ∈ rawP q db, ∃ b ∈ visitL db q.2 bNone, v = sV b) ∧ (rawP q db).length ≤ db.length ^ q.2.length := by
 refine ⟨fun v hv => ?_, ?_⟩
 ·obtain ⟨b, hb, rfl⟩ := List.mem_map.1 (mem_sortL hv)
  exact ⟨b, hb, rfl⟩
 ·have h1 := sortL_len true ((visitL db q.2 bNone).map sV)
  rw [List.length_map] at h1
  exact Nat.le_trans h1 (visitL_len db q.2 bNone)
theorem l6Heads_nil (q : QueryE) (hq : cQuery q ≤ 1048576) : Spec Tryz.prog 76 [vQuery q, vLists []] (wLists []) := by
 refine Spec_of mx Γ_ok Tryz.func76 rfl ?_
 conv => whnf
 refine ⟨[(1,0),(2,0),(4,0),(5,0),(6,0)], fun m s => s = ⟨25, [(1, vLists []), (2, .ptr 0 0), (4, cnil), (5, .own 1 1 0 0 0 none), (6, ci 0)], [some ⟨true, rQuery q⟩, some ⟨false, []⟩]⟩, 0, rfl, ?_⟩
 rintro m s rfl
 conv => whnf
 exact ⟨rfl, rfl⟩
set_option maxHeartbeats 4000000 in
theorem specAnswers_spec (s : List Int) (q : QueryE) (db : List FactC) (hs : cSchema s ≤ 1048576) (hq : cQuery q ≤ 1048576) (hd : cFactS db ≤ 1048576) : Spec Tryz.prog 79 [vSchema s, vQuery q, vFactS db] (wLists (answersS s q db)) := by
 refine Spec_of mx Γ_ok Tryz.func79 rfl ?_
 conv => whnf
 refine ⟨List.range 8, by kernel_rfl, ?_⟩
 conv => whnf
 refine ⟨_, specBindings_spec s q db hs hq hd, .inl rfl, .inl ?_⟩
 rw [wLists_ro]
 conv => whnf
 have hq' := hq
 unfold cQuery at hq'
 unfold bindingsS answersS
 generalize hb1 : (isQuery s q && isDb s db) = b1
 cases b1 with
 | false =>
  refine ⟨_, l6Heads_nil q hq, .inl rfl, .inl ?_⟩
  rw [wLists_ro]
  conv => whnf
  refine ⟨_, l6Sort_spec [] true (by simp) (by simp), .inl rfl, .inr ?_⟩
  conv => whnf
  exact ⟨rfl, rfl⟩
 | true =>
  simp only [Bool.and_eq_true] at hb1
  obtain ⟨t1, t2, t3⟩ := isQuery_terms hb1.1
  obtain ⟨r1, r2⟩ := rawP_ok q db
  have hp := pow_small (isDb_len hb1.2) t3
  refine ⟨_, l6Heads_spec q (rawP q db) hq (by omega) (fun v hv => by obtain ⟨b, _, rfl⟩ := r1 v hv; rfl) t1, .inl rfl, .inl ?_⟩
  rw [wLists_ro]
  conv => whnf
  refine ⟨_, l6Sort_spec ((rawP q db).map fun v => q.1.map (tS v)) true (by rw [List.length_map]; omega) (fun v hv => by obtain ⟨x, _, rfl⟩ := List.mem_map.1 hv; rw [List.length_map]; omega), .inl rfl, .inr ?_⟩
  conv => whnf
  exact ⟨by rw [rows_len tL_len], rfl⟩
theorem scanL_ok (v : List Int) (out : List (List Int)) : ∀ n, n ≤ out.length → scanL v out n ≤ n ∧ (∀ j, scanL v out n ≤ j → j < n → ∀ h : j < out.length, ltI v out[j] = true) ∧ (0 < scanL v out n → ltI v (out.getD (scanL v out n - 1) []) = false)
 | 0, _ => ⟨Nat.le_refl _, fun j _ h => absurd h (Nat.not_lt_zero _), fun h => absurd h (by simp [scanL])⟩
 | n + 1, hn => by
  obtain ⟨i1, i2, i3⟩ := scanL_ok v out n (by omega)
  have hg : out.getD n [] = out[n] := by rw [List.getD_eq_getElem?_getD, List.getElem?_eq_getElem (by omega)]; rfl
  simp only [scanL]
  split
  ·rename_i h
   refine ⟨by omega, fun j h1 h2 h3 => ?_, i3⟩
   by_cases e : j = n
   ·subst e; rw [← hg]; exact h
   ·exact i2 j h1 (by omega) h3
  ·rename_i h
   exact ⟨Nat.le_refl _, fun j h1 h2 => by omega, fun _ => by simpa using h⟩
theorem insL_ok {out : List (List Int)} (hs : Strict ltI out) (v : List Int) : Strict ltI (insL true out v) ∧ ∀ x, x ∈ insL true out v ↔ x = v ∨ x ∈ out := by
 obtain ⟨h1, h2, h3⟩ := scanL_ok v out out.length (Nat.le_refl _)
 unfold insL
 generalize scanL v out out.length = k at *
 have hpw := List.pairwise_iff_getElem.1 hs
 by_cases hc : (true && decide (0 < k) && decide (out.getD (k - 1) [] = v)) = true
 ·rw [if_pos hc]
  simp only [Bool.and_eq_true, decide_eq_true_eq, true_and] at hc
  have hk1 : k - 1 < out.length := by omega
  have hg : out.getD (k - 1) [] = out[k - 1] := by rw [List.getD_eq_getElem?_getD, List.getElem?_eq_getElem hk1]; rfl
  refine ⟨hs, fun x => ⟨.inr, ?_⟩⟩
  rintro (rfl | h)
  ·rw [← hc.2, hg]; exact List.getElem_mem hk1
  ·exact h
 ·rw [if_neg hc]
  have hlow : ∀ j (h : j < out.length), j < k → ltI out[j] v = true := by
   intro j h hj
   have hk0 : 0 < k := by omega
   have hk1 : k - 1 < out.length := by omega
   have hg : out.getD (k - 1) [] = out[k - 1] := by rw [List.getD_eq_getElem?_getD, List.getElem?_eq_getElem hk1]; rfl
   have h4 := h3 hk0
   rw [hg] at h4
   have h5 : ¬ out[k - 1] = v := fun e => hc (by rw [hg]; simp [hk0, e])
   have h6 : ltI out[k - 1] v = true := by
    rcases totI.tri out[k - 1] v with h | h | h
    ·exact h
    ·exact absurd h h5
    ·rw [h4] at h; cases h
   by_cases e : j = k - 1
   ·subst e; exact h6
   ·exact totI.tr _ _ _ (hpw j (k - 1) h hk1 (by omega)) h6
  refine ⟨?_, fun x => ?_⟩
  ·refine List.pairwise_append.2 ⟨hs.sublist (List.take_sublist _ _), List.pairwise_cons.2 ⟨fun x hx => ?_, hs.sublist (List.drop_sublist _ _)⟩, fun x hx y hy => ?_⟩
   ·obtain ⟨j, hj, rfl⟩ := List.getElem_of_mem hx
    rw [List.length_drop] at hj
    rw [List.getElem_drop]
    exact h2 (k + j) (by omega) (by omega) (by omega)
   ·obtain ⟨j, hj, rfl⟩ := List.getElem_of_mem hx
    rw [List.length_take] at hj
    rw [List.getElem_take]
    have h4 := hlow j (by omega) (by omega)
    rcases List.mem_cons.1 hy with rfl | hy
    ·exact h4
    ·obtain ⟨p, hp, rfl⟩ := List.getElem_of_mem hy
     rw [List.length_drop] at hp
     rw [List.getElem_drop]
     exact totI.tr _ _ _ h4 (h2 (k + p) (by omega) (by omega) (by omega))
  ·rw [List.mem_append, List.mem_cons]
   constructor
   ·rintro (h | h | h)
    ·exact .inr (List.mem_of_mem_take h)
    ·exact .inl h
    ·exact .inr (List.mem_of_mem_drop h)
   ·rintro (h | h)
    ·exact .inr (.inl h)
    ·rw [← List.take_append_drop k out] at h
     rcases List.mem_append.1 h with h | h
     ·exact .inl h
     ·exact .inr (.inr h)
theorem sortL_ok (l : List (List Int)) : Strict ltI (sortL true l) ∧ ∀ x, x ∈ sortL true l ↔ x ∈ l := by
 have : ∀ (l out : List (List Int)), Strict ltI out → Strict ltI (l.foldl (insL true) out) ∧ ∀ x, x ∈ l.foldl (insL true) out ↔ x ∈ l ∨ x ∈ out := by
  intro l
  induction l with
  | nil => intro out h; exact ⟨h, fun x => by simp⟩
  | cons v l ih =>
   intro out h
   obtain ⟨h1, h2⟩ := insL_ok h v
   obtain ⟨i1, i2⟩ := ih _ h1
   refine ⟨i1, fun x => ?_⟩
   rw [List.foldl_cons, i2 x, h2 x, List.mem_cons]
   constructor
   ·rintro (h | h | h) <;> simp [h]
   ·rintro ((h | h) | h) <;> simp [h]
 obtain ⟨h1, h2⟩ := this l [] List.Pairwise.nil
 exact ⟨h1, fun x => by rw [sortL, h2 x]; simp⟩
theorem safe_bound {s : List Int} {q : QueryE} {db : List FactC} (h : isQuery s q = true) {b : Bnd} (hb : b ∈ visitL db q.2 bNone) : q.1.map (tS (sV b)) = tupOf b q.1 := by
 obtain ⟨t1, t2, t3⟩ := isQuery_terms h
 refine List.map_congr_left fun t ht => tS_valOf b t (List.all_eq_true.1 t1 t ht) fun h0 => ?_
 simp only [isQuery, fineQ, Bool.and_eq_true] at h
 have hs := List.all_eq_true.1 h.2.2.2.2 t ht
 have hr : -80 ≤ t ∧ t ≤ 19 := by simpa [isTerm, inR] using List.all_eq_true.1 t1 t ht
 have hv : isVar t = true := by simp [isVar, inR]; omega
 have hoc : occurs q t = true := by simpa [safeV, hv] using hs
 obtain ⟨a, ha, hx⟩ := List.any_eq_true.1 hoc
 obtain ⟨u, hu, he⟩ := List.any_eq_true.1 hx
 have hut : u = t := by
  have := he
  simp [eqV] at this
  first | exact this.symm | exact this
 subst hut
 exact (visitL_ok db q.2 bNone b hb).2 a ha u hu h0
theorem answers_eq {s : List Int} {q : QueryE} {db : List FactC} (h : isQuery s q = true) {ys : List (List Int)} (hp : ys.Perm (headsP q db)) (hs : ys.Pairwise fun a b => ¬ cmpI b a < 0) : compL (fun a b => decide (a = b)) ys = sortL true ((rawP q db).map fun v => q.1.map (tS v)) := by
 have hs' : ys.Pairwise fun a b => ltI b a = false := hs.imp fun {a b} h => by rw [ltI_cmp]; exact decide_eq_false h
 obtain ⟨h1, h2⟩ := compL_ok totI ys hs'
 obtain ⟨i1, i2⟩ := sortL_ok ((rawP q db).map fun v => q.1.map (tS v))
 refine strict_unique totI h1 i1 fun a => ?_
 have ha := i2 a
 rw [ha]
 refine (h2 a).trans ?_
 rw [hp.mem_iff]
 unfold headsP
 simp only [List.mem_map]
 constructor
 ·rintro ⟨b, hb, rfl⟩
  exact ⟨sV b, (sortL_ok _).2 _ |>.2 (List.mem_map.2 ⟨b, hb, rfl⟩), safe_bound h hb⟩
 ·rintro ⟨v, hv, rfl⟩
  obtain ⟨b, hb, rfl⟩ := (rawP_ok q db).1 v hv
  exact ⟨b, hb, (safe_bound h hb).symm⟩
set_option maxHeartbeats 4000000 in
theorem implAnswers_spec (s : List Int) (q : QueryE) (db : List FactC) (hs : cSchema s ≤ 1048576) (hq : cQuery q ≤ 1048576) (hd : cFactS db ≤ 1048576) : Spec Tryz.prog 11 [vSchema s, vQuery q, vFactS db] (wLists (answersS s q db)) := by
 have hs' : s.length ≤ 1099511627776 := by unfold cSchema at hs; omega
 refine Spec_of mx Γ_ok Tryz.func11 rfl ?_
 conv => whnf
 refine ⟨_, implIsQuery_spec s q hs hq, .inl rfl, .inl ?_⟩
 conv => whnf
 unfold answersS
 generalize hb1 : isQuery s q = b1
 cases b1 with
 | false =>
  conv => whnf
  exact ⟨rfl, rfl⟩
 | true =>
  conv => whnf
  refine ⟨_, implIsDatabase_spec s db hs' hd, .inl rfl, .inl ?_⟩
  conv => whnf
  generalize hb2 : isDb s db = b2
  cases b2 with
  | false =>
   conv => whnf
   exact ⟨rfl, rfl⟩
  | true =>
   conv => whnf
   obtain ⟨t1, t2, t3⟩ := isQuery_terms hb1
   have hp := pow_small (isDb_len hb2) t3
   have hl := visitL_len db q.2 bNone
   refine ⟨_, heads_spec q db hq hd t2 (by omega), .inl rfl, .inr ?_⟩
   conv => whnf
   refine .inr (.inr ⟨[2], [], ?_⟩)
   conv => whnf
   have hq' := hq
   unfold cQuery at hq'
   refine ⟨_, different_spec (headsP q db) (fun x hx => by
    obtain ⟨b, _, rfl⟩ := List.mem_map.1 hx
    rw [tupOf, List.length_map]; omega) (by rw [headsP, List.length_map]; omega), fun r g2 hP => ?_⟩
   obtain ⟨rfl, ys, h1, h2, rfl⟩ := hP
   rw [answers_eq hb1 h1 h2]
   refine .inr ?_
   conv => whnf
   exact ⟨by rw [rows_len tL_len], rfl⟩
end Go.Proofs.YtboolngaahifdaaGreatD
