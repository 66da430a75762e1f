/- Normal forms: the first program. -/
import Derived.Test.YthfjngmbdbocbaaFNorm1
set_option linter.unusedVariables false
set_option linter.unusedSimpArgs false
set_option maxRecDepth 100000
namespace Go.Proofs.YthfjngmbdbocbaaD
open Go Go.Proofs

def bL (b : Bool) : List V := [cb b]
theorem bL_len (b : Bool) : (bL b).length = 1 := rfl
theorem roVs_bL (us : List Bool) : roVs (rows bL us) = rows bL us := roVs_rows (fun x => rfl) us
theorem solid_bL (us : List Bool) : ∀ c ∈ rows bL us, solid c = true := all_rows (fun x c hc => by simp only [bL, List.mem_singleton] at hc; rw [hc]; rfl) us
theorem app_bL (xs ys : List Bool) : rows bL xs ++ rows bL ys = rows bL (xs ++ ys) := (rows_append bL ys xs).symm
theorem set_bL {m : List Bool} {q : Nat} (hq : q < m.length) (u : Bool) : setC (rows bL m) (0 + q * 1) [cb u] = rows bL (m.set q u) :=
  (congrArg (fun o => setC (rows bL m) o (bL u)) (Nat.zero_add _)).trans (setC_rows bL_len (by omega) hq _)
def vBools (us : List Bool) : V := .ro us.length (rows bL us)
/-- Queries with at most four atoms. -/
def few (q : QueryC) : Prop := q.1.length ≤ 3 ∧ q.2.length ≤ 4 ∧ ∀ a ∈ q.2, a.2.length ≤ 3
theorem few_sum : ∀ {l : List AtomC}, (∀ a ∈ l, a.2.length ≤ 3) → sumB cAtom l ≤ 3 * l.length
  | [], _ => by simp [sumB]
  | a :: l, h => by
    have h1 := few_sum (l := l) fun x hx => h x (by simp [hx])
    have h2 : cAtom a = a.2.length := rfl
    have h3 := h a (by simp)
    simp only [sumB, List.length_cons]
    omega
theorem few_size {h : List Int} {l : List AtomC} (h1 : h.length ≤ 3) (h2 : l.length ≤ 4) (h3 : ∀ a ∈ l, a.2.length ≤ 3) : cQuery (h, l) ≤ 1048576 := by
  have := few_sum h3
  show h.length + (l.length + sumB cAtom l) ≤ _
  omega
theorem isQuery_few {s : List Int} {q : QueryC} (h : isQuery s q = true) : few q := by
  simp only [isQuery, fineQ, terms3, Bool.and_eq_true, decide_eq_true_eq] at h
  obtain ⟨h0, ⟨_, h1⟩, h2, h3, _⟩ := h
  have h2' : 1 ≤ (q.2.length : Int) ∧ (q.2.length : Int) ≤ 4 := by simpa [inR] using h2
  refine ⟨h1, by omega, fun a ha => ?_⟩
  have hb := List.all_eq_true.1 h3 a ha
  simp only [isAtom, takesS, Bool.and_eq_true, decide_eq_true_eq] at hb
  have h4 : s.getD a.1.toNat 0 ≤ 3 := by
    by_cases hi : a.1.toNat < s.length
    · rw [getD_at hi]
      exact (schema_at h0 hi).2
    · rw [List.getD_eq_getElem?_getD, List.getElem?_eq_none (by omega)]
      simp
  have h5 := hb.1.2.2
  omega
def gN : List (Option Obj) := [some ⟨true, [cnil, cnil]⟩, some ⟨true, [cb false]⟩]
def gS (y : QueryC) : List (Option Obj) := [some ⟨true, [.own 2 1 0 y.1.length y.1.length none, .own 3 2 0 y.2.length y.2.length none]⟩, some ⟨true, [cb true]⟩, some ⟨false, rows ciL y.1⟩, some ⟨false, rows tAtom y.2⟩]
def gT (y0 y : QueryC) : List (Option Obj) := [some ⟨true, [.own 4 1 0 y.1.length y.1.length none, .own 5 2 0 y.2.length y.2.length none]⟩, some ⟨true, [cb true]⟩, some ⟨false, rows ciL y0.1⟩, some ⟨false, rows tAtom y0.2⟩, some ⟨false, rows ciL y.1⟩, some ⟨false, rows tAtom y.2⟩]
def OutN (o : Option QueryC) (g2 : List (Option Obj)) : Prop := (o = none ∧ g2 = gN) ∨ ∃ y, o = some y ∧ cQuery y ≤ 1048576 ∧ g2 = gS y
def OutS (y0 : QueryC) (o : Option QueryC) (g2 : List (Option Obj)) : Prop := ∃ y, o = some y ∧ cQuery y ≤ 1048576 ∧ (y = y0 ∧ g2 = gS y0 ∨ g2 = gT y0 y)
def stepU (q : QueryC) (n : Nat) (used : List Bool) (body : List AtomC) (o : Option QueryC) (i : Nat) : Option QueryC := if used.getD i false then o else tryU q n (used.set i true) (body ++ [q.2.getD i (0, [])]) o
theorem tryU_succ (q : QueryC) (n : Nat) (used : List Bool) (body : List AtomC) (o : Option QueryC) : tryU q (n + 1) used body o = (List.range q.2.length).foldl (stepU q n used body) o := rfl
theorem fold_succ {f : Option QueryC → Nat → Option QueryC} {o0 o : Option QueryC} {k : Nat} (h : (List.range k).foldl f o0 = o) : (List.range (k + 1)).foldl f o0 = f o k := by
  rw [List.range_succ, List.foldl_append, h]; rfl
set_option maxHeartbeats 16000000 in
theorem ordN0 (q : QueryC) (hq : few q) (used : List Bool) (body : List AtomC) (hul : used.length = q.2.length) (hbl : body.length + 0 = q.2.length) (hbd : ∀ a ∈ body, a.2.length ≤ 3) :
    SpecG Try.prog 118 [vQuery q, vBools used, .agg [ints q.1, vAtomS body], .ptr 0 0, .ptr 1 0] gN fun r g2 => r = .tup [] ∧ OutN (tryU q 0 used body none) g2 := by
    unfold gN
    have ht : tryU q 0 used body none = some (nmQ (q.1, body)) := rfl
    rw [ht]

    have hfew : cQuery (q.1, body) ≤ 1048576 := few_size hq.1 (by have := hq.2.1; omega) hbd
    have heq : ((body.length : Int) == (q.2.length : Int)) = true := by rw [beq_iff_eq]; omega
    have hxs : cQuery (nmQ (q.1, body)) ≤ 1048576 := by rw [nmQ_size]; exact hfew
    refine SpecG_of mx Γ_ok 2 Try.func118 rfl rfl (by decide) ?_
    conv => whnf
    rw [heq]
    conv => whnf
    refine ⟨_, specFirstNames_spec (q.1, body) hfew, .inl rfl, .inr ?_⟩
    generalize nmQ (q.1, body) = x at hxs ⊢
    conv => whnf
    refine ⟨[0, 1, 2, 3, 4, 5, 7, 8, 9, 6, 10, 11, 12], by kernel_rfl, ?_⟩
    conv => whnf
    refine ⟨[], ?_⟩
    conv => whnf
    exact ⟨rfl, .inr ⟨x, rfl, hxs, rfl⟩⟩
set_option maxHeartbeats 16000000 in
theorem ordS0 (q : QueryC) (hq : few q) (y0 : QueryC) (hy0 : cQuery y0 ≤ 1048576) (used : List Bool) (body : List AtomC) (hul : used.length = q.2.length) (hbl : body.length + 0 = q.2.length) (hbd : ∀ a ∈ body, a.2.length ≤ 3) :
    SpecG Try.prog 118 [vQuery q, vBools used, .agg [ints q.1, vAtomS body], .ptr 0 0, .ptr 1 0] (gS y0) fun r g2 => r = .tup [] ∧ OutS y0 (tryU q 0 used body (some y0)) g2 := by
    unfold gS
    have ht : tryU q 0 used body (some y0) = betterQ (some y0) (nmQ (q.1, body)) := rfl
    rw [ht]

    have hfew : cQuery (q.1, body) ≤ 1048576 := few_size hq.1 (by have := hq.2.1; omega) hbd
    have heq : ((body.length : Int) == (q.2.length : Int)) = true := by rw [beq_iff_eq]; omega
    have hxs : cQuery (nmQ (q.1, body)) ≤ 1048576 := by rw [nmQ_size]; exact hfew
    refine SpecG_of mx Γ_ok 4 Try.func118 rfl rfl (by decide) ?_
    conv => whnf
    rw [heq]
    conv => whnf
    refine ⟨_, specFirstNames_spec (q.1, body) hfew, .inl rfl, .inr ?_⟩
    generalize nmQ (q.1, body) = x at hxs ⊢
    conv => whnf
    refine ⟨[0, 1, 2, 3, 4, 5, 7, 8, 9, 6, 10, 11, 12], by kernel_rfl, ?_⟩
    conv => whnf
    refine ⟨_, _, takeN_all (by rw [rows_len ciL_len]), roVs_ci _, ?_⟩
    conv => whnf
    refine ⟨_, _, takeN_all (by rw [rows_len tAtom_len]), roVs_rows tAtom_ro _, ?_⟩
    conv => whnf
    refine ⟨_, specQueryCode_gen x hxs, .inr (closeds_rows (f := ciL) (fun x => ⟨trivial, trivial⟩) _), .inl ?_⟩
    rw [intsT_ro]
    conv => whnf
    refine ⟨_, _, takeN_all (by rw [rows_len ciL_len]), roVs_ci _, ?_⟩
    conv => whnf
    refine ⟨_, _, takeN_all (by rw [rows_len tAtom_len]), roVs_rows tAtom_ro _, ?_⟩
    conv => whnf
    refine ⟨_, specQueryCode_gen y0 hy0, .inr (closeds_rows (f := ciL) (fun x => ⟨trivial, trivial⟩) _), .inl ?_⟩
    rw [intsT_ro]
    conv => whnf
    refine ⟨_, l2Less_spec (pQueryCode x) (pQueryCode y0) (code_size hxs) (code_size hy0), .inl rfl, .inl ?_⟩
    conv => whnf
    unfold betterQ
    simp only
    generalize ltI (pQueryCode x) (pQueryCode y0) = b
    cases b with
    | false =>
      conv => whnf
      refine ⟨[], ?_⟩
      conv => whnf
      exact ⟨rfl, y0, by simp, hy0, .inl ⟨rfl, rfl⟩⟩
    | true =>
      conv => whnf
      refine ⟨[], ?_⟩
      conv => whnf
      exact ⟨rfl, x, by simp, hxs, .inr rfl⟩
def OrdIH (q : QueryC) (n : Nat) : Prop :=
  (∀ (used : List Bool) (body : List AtomC), used.length = q.2.length → body.length + n = q.2.length → (∀ a ∈ body, a.2.length ≤ 3) →
    SpecG Try.prog 118 [vQuery q, vBools used, .agg [ints q.1, vAtomS body], .ptr 0 0, .ptr 1 0] gN fun r g2 => r = .tup [] ∧ OutN (tryU q n used body none) g2) ∧
  (∀ (y0 : QueryC), cQuery y0 ≤ 1048576 → ∀ (used : List Bool) (body : List AtomC), used.length = q.2.length → body.length + n = q.2.length → (∀ a ∈ body, a.2.length ≤ 3) →
    SpecG Try.prog 118 [vQuery q, vBools used, .agg [ints q.1, vAtomS body], .ptr 0 0, .ptr 1 0] (gS y0) fun r g2 => r = .tup [] ∧ OutS y0 (tryU q n used body (some y0)) g2)
set_option maxHeartbeats 16000000 in
theorem ordN1 (q : QueryC) (hq : few q) (n : Nat) (ih : OrdIH q n) (used : List Bool) (body : List AtomC) (hul : used.length = q.2.length) (hbl : body.length + (n + 1) = q.2.length) (hbd : ∀ a ∈ body, a.2.length ≤ 3) :
    SpecG Try.prog 118 [vQuery q, vBools used, .agg [ints q.1, vAtomS body], .ptr 0 0, .ptr 1 0] gN fun r g2 => r = .tup [] ∧ OutN (tryU q (n + 1) used body none) g2 := by
    unfold gN
    rw [tryU_succ]
    have hql := hq.2.1

    have hne : ((body.length : Int) == (q.2.length : Int)) = false := by rw [beq_eq_false_iff_ne]; omega
    refine SpecG_of mx Γ_ok 2 Try.func118 rfl rfl (by decide) ?_
    conv => whnf
    rw [hne]
    conv => whnf
    refine ⟨[(1,0),(3,0),(4,0),(5,0),(7,0),(11,0)], fun m s => ∃ (k : Nat) (e : Int) (o : Option QueryC), e = k ∧ m + k = q.2.length ∧ (List.range k).foldl (stepU q n used body) none = o ∧
      (o = none ∧ s = ⟨78, [(1, vBools used), (3, .ptr 0 0), (4, .ptr 1 0), (5, .ptr 2 0), (7, .ptr 3 0), (11, ci e)], [some ⟨true, [cnil, cnil]⟩, some ⟨true, [cb false]⟩, some ⟨true, rQuery q⟩, some ⟨true, [ints q.1, vAtomS body]⟩]⟩ ∨ ∃ y, o = some y ∧ cQuery y ≤ 1048576 ∧ s = ⟨78, [(1, vBools used), (3, .ptr 0 0), (4, .ptr 1 0), (5, .ptr 2 0), (7, .ptr 3 0), (11, ci e)], [some ⟨true, [.own 4 1 0 y.1.length y.1.length none, .own 5 2 0 y.2.length y.2.length none]⟩, some ⟨true, [cb true]⟩, some ⟨true, rQuery q⟩, some ⟨true, [ints q.1, vAtomS body]⟩, some ⟨false, rows ciL y.1⟩, some ⟨false, rows tAtom y.2⟩]⟩), q.2.length, ⟨0, 0, none, rfl, rfl, rfl, .inl ⟨rfl, by kernel_rfl⟩⟩, ?_⟩
    rintro m s ⟨k, _, o, rfl, hm, hfold, ⟨rfl, rfl⟩ | ⟨y, rfl, hy, rfl⟩⟩
    ·
      conv => whnf
      split <;> rename_i h1
      all_goals simp only [decide_eq_true_eq, decide_eq_false_iff_not] at h1
      · have hk : k < q.2.length := by omega
        have hku : k < used.length := by omega
        have hwk : IntKind.i64.wrap ((k : Int) + 1) = ((k + 1 : Nat) : Int) := wrap_id (by omega) (by omega)
        have hnext := fold_succ hfold
        have hsu : stepU q n used body none k = if used[k] then none else tryU q n (used.set k true) (body ++ [q.2[k]]) none := by
          unfold stepU
          rw [show used.getD k false = used[k] from by simp [List.getD_eq_getElem?_getD, hku], show q.2.getD k (0, []) = q.2[k] from by simp [List.getD_eq_getElem?_getD, hk]]
        rw [hsu] at hnext
        clear hsu
        conv => whnf
        refine ⟨by omega, rows_len bL_len _, ?_⟩
        conv => whnf
        refine ⟨_, takeN_rp (k := k) bL_len hku, ?_⟩
        generalize hub : used[k] = ub at hnext
        cases ub with
        | true =>
          conv => whnf
          rw [if_pos rfl] at hnext
          exact ⟨m - 1, by omega, k + 1, IntKind.i64.wrap ((k : Int) + 1), none, hwk, by omega, hnext, .inl ⟨rfl, by kernel_rfl⟩⟩
        | false =>
        conv => whnf
        rw [if_neg (by simp)] at hnext
        refine ⟨rows_len bL_len _, solid_bL _, ?_⟩
        conv => whnf
        refine ⟨by omega, rfl, _, app_bL [] used, ?_⟩
        conv => whnf
        refine ⟨by omega, ?_⟩
        conv => whnf
        refine ⟨_, takeN_own (k := k) (d := 0) (xs := [] ++ used) bL_len (Nat.zero_add _) hku (Nat.le_refl _) rfl, _, set_bL (m := [] ++ used) hku _, ?_⟩
        conv => whnf
        refine ⟨[0, 1, 3, 4, 6, 7, 8, 9, 10, 11, 2, 5, 12, 13, 1000, 14, 1000, 15], by kernel_rfl, ?_⟩
        conv => whnf
        refine ⟨by omega, rows_len rAtom_len _, ?_⟩
        conv => whnf
        refine ⟨_, takeN_rp (k := k) rAtom_len hk, ?_⟩
        conv => whnf
        refine ⟨rows_len rAtom_len _, solid_rAtomR _, ?_⟩
        conv => whnf
        refine ⟨by omega, rfl, _, app_rAtom [] body, ?_⟩
        conv => whnf
        refine ⟨rfl, solid_rAtomR [q.2[k]], ?_⟩
        conv => whnf
        refine ⟨by omega, (show _ = (0 + body.length) * 2 from by rw [rows_len rAtom_len]; simp), _, (show _ = rows rAtom (body ++ [q.2[k]]) from snoc_rAtom1 body q.2[k]), ?_⟩
        conv => whnf
        refine .inr (.inr ⟨[0, 1], [5, 8], ?_⟩)
        conv => whnf
        refine ⟨_, _, takeN_all (show _ = (0 + used.length) * 1 from by rw [rows_len bL_len, List.length_set]; simp), roVs_bL _, ?_⟩
        conv => whnf
        refine ⟨_, _, takeN_all (show _ = (0 + body.length + 1) * 2 from by rw [rows_len rAtom_len, List.length_append]; simp), roVs_rAtomS _, ?_⟩
        conv => whnf
        have hsp := ih.1 (used.set k true) (body ++ [q.2[k]]) (by rw [List.length_set]; exact hul) (by rw [List.length_append, List.length_singleton]; omega) (fun a ha => by
          rcases List.mem_append.1 ha with ha | ha
          · exact hbd a ha
          · rw [List.mem_singleton.1 ha]; exact hq.2.2 _ (List.getElem_mem hk))
        unfold vAtomS vBools at hsp
        rw [List.length_set, List.length_append, List.length_singleton, show body.length + 1 = 0 + body.length + 1 from by omega, show used.length = 0 + used.length from by omega] at hsp
        refine ⟨_, hsp, fun r g2 hP => ?_⟩
        obtain ⟨rfl, ⟨hz, rfl⟩ | ⟨z, hz, hzl, rfl⟩⟩ := hP
        · refine .inl ?_
          conv => whnf
          exact ⟨m - 1, by omega, k + 1, IntKind.i64.wrap ((k : Int) + 1), none, hwk, by omega, hnext.trans hz, .inl ⟨rfl, by kernel_rfl⟩⟩
        · refine .inl ?_
          conv => whnf
          exact ⟨m - 1, by omega, k + 1, IntKind.i64.wrap ((k : Int) + 1), some z, hwk, by omega, hnext.trans hz, .inr ⟨z, rfl, hzl, by kernel_rfl⟩⟩
      · conv => whnf
        have hkk : k = q.2.length := by omega
        subst hkk
        refine ⟨[], ?_⟩
        conv => whnf
        exact ⟨rfl, .inl ⟨hfold, rfl⟩⟩
    ·
      conv => whnf
      split <;> rename_i h1
      all_goals simp only [decide_eq_true_eq, decide_eq_false_iff_not] at h1
      · have hk : k < q.2.length := by omega
        have hku : k < used.length := by omega
        have hwk : IntKind.i64.wrap ((k : Int) + 1) = ((k + 1 : Nat) : Int) := wrap_id (by omega) (by omega)
        have hnext := fold_succ hfold
        have hsu : stepU q n used body (some y) k = if used[k] then (some y) else tryU q n (used.set k true) (body ++ [q.2[k]]) (some y) := by
          unfold stepU
          rw [show used.getD k false = used[k] from by simp [List.getD_eq_getElem?_getD, hku], show q.2.getD k (0, []) = q.2[k] from by simp [List.getD_eq_getElem?_getD, hk]]
        rw [hsu] at hnext
        clear hsu
        conv => whnf
        refine ⟨by omega, rows_len bL_len _, ?_⟩
        conv => whnf
        refine ⟨_, takeN_rp (k := k) bL_len hku, ?_⟩
        generalize hub : used[k] = ub at hnext
        cases ub with
        | true =>
          conv => whnf
          rw [if_pos rfl] at hnext
          exact ⟨m - 1, by omega, k + 1, IntKind.i64.wrap ((k : Int) + 1), some y, hwk, by omega, hnext, .inr ⟨y, rfl, hy, by kernel_rfl⟩⟩
        | false =>
        conv => whnf
        rw [if_neg (by simp)] at hnext
        refine ⟨rows_len bL_len _, solid_bL _, ?_⟩
        conv => whnf
        refine ⟨by omega, rfl, _, app_bL [] used, ?_⟩
        conv => whnf
        refine ⟨by omega, ?_⟩
        conv => whnf
        refine ⟨_, takeN_own (k := k) (d := 0) (xs := [] ++ used) bL_len (Nat.zero_add _) hku (Nat.le_refl _) rfl, _, set_bL (m := [] ++ used) hku _, ?_⟩
        conv => whnf
        refine ⟨[0, 1, 3, 4, 6, 7, 8, 9, 10, 11, 2, 5, 12, 13, 1000, 14, 1000, 15], by kernel_rfl, ?_⟩
        conv => whnf
        refine ⟨by omega, rows_len rAtom_len _, ?_⟩
        conv => whnf
        refine ⟨_, takeN_rp (k := k) rAtom_len hk, ?_⟩
        conv => whnf
        refine ⟨rows_len rAtom_len _, solid_rAtomR _, ?_⟩
        conv => whnf
        refine ⟨by omega, rfl, _, app_rAtom [] body, ?_⟩
        conv => whnf
        refine ⟨rfl, solid_rAtomR [q.2[k]], ?_⟩
        conv => whnf
        refine ⟨by omega, (show _ = (0 + body.length) * 2 from by rw [rows_len rAtom_len]; simp), _, (show _ = rows rAtom (body ++ [q.2[k]]) from snoc_rAtom1 body q.2[k]), ?_⟩
        conv => whnf
        refine .inr (.inr ⟨[0, 1, 4, 5], [7, 10], ?_⟩)
        conv => whnf
        refine ⟨_, _, takeN_all (show _ = (0 + used.length) * 1 from by rw [rows_len bL_len, List.length_set]; simp), roVs_bL _, ?_⟩
        conv => whnf
        refine ⟨_, _, takeN_all (show _ = (0 + body.length + 1) * 2 from by rw [rows_len rAtom_len, List.length_append]; simp), roVs_rAtomS _, ?_⟩
        conv => whnf
        have hsp := (ih.2 y hy) (used.set k true) (body ++ [q.2[k]]) (by rw [List.length_set]; exact hul) (by rw [List.length_append, List.length_singleton]; omega) (fun a ha => by
          rcases List.mem_append.1 ha with ha | ha
          · exact hbd a ha
          · rw [List.mem_singleton.1 ha]; exact hq.2.2 _ (List.getElem_mem hk))
        unfold vAtomS vBools at hsp
        rw [List.length_set, List.length_append, List.length_singleton, show body.length + 1 = 0 + body.length + 1 from by omega, show used.length = 0 + used.length from by omega] at hsp
        refine ⟨_, hsp, fun r g2 hP => ?_⟩
        obtain ⟨rfl, z, hz, hzl, ⟨rfl, rfl⟩ | rfl⟩ := hP
        · refine .inl ?_
          conv => whnf
          exact ⟨m - 1, by omega, k + 1, IntKind.i64.wrap ((k : Int) + 1), some z, hwk, by omega, hnext.trans hz, .inr ⟨z, rfl, hzl, by kernel_rfl⟩⟩
        · refine .inl ?_
          conv => whnf
          exact ⟨m - 1, by omega, k + 1, IntKind.i64.wrap ((k : Int) + 1), some z, hwk, by omega, hnext.trans hz, .inr ⟨z, rfl, hzl, by kernel_rfl⟩⟩
      · conv => whnf
        have hkk : k = q.2.length := by omega
        subst hkk
        refine ⟨[], ?_⟩
        conv => whnf
        exact ⟨rfl, .inr ⟨y, hfold, hy, rfl⟩⟩
set_option maxHeartbeats 16000000 in
theorem ordS1 (q : QueryC) (hq : few q) (n : Nat) (ih : OrdIH q n) (y0 : QueryC) (hy0 : cQuery y0 ≤ 1048576) (used : List Bool) (body : List AtomC) (hul : used.length = q.2.length) (hbl : body.length + (n + 1) = q.2.length) (hbd : ∀ a ∈ body, a.2.length ≤ 3) :
    SpecG Try.prog 118 [vQuery q, vBools used, .agg [ints q.1, vAtomS body], .ptr 0 0, .ptr 1 0] (gS y0) fun r g2 => r = .tup [] ∧ OutS y0 (tryU q (n + 1) used body (some y0)) g2 := by
    unfold gS
    rw [tryU_succ]
    have hql := hq.2.1

    have hne : ((body.length : Int) == (q.2.length : Int)) = false := by rw [beq_eq_false_iff_ne]; omega
    refine SpecG_of mx Γ_ok 4 Try.func118 rfl rfl (by decide) ?_
    conv => whnf
    rw [hne]
    conv => whnf
    refine ⟨[(1,0),(3,0),(4,0),(5,0),(7,0),(11,0)], fun m s => ∃ (k : Nat) (e : Int) (y : QueryC), e = k ∧ m + k = q.2.length ∧ cQuery y ≤ 1048576 ∧ (List.range k).foldl (stepU q n used body) (some y0) = some y ∧
      (y = y0 ∧ s = ⟨78, [(1, vBools used), (3, .ptr 0 0), (4, .ptr 1 0), (5, .ptr 4 0), (7, .ptr 5 0), (11, ci e)], [some ⟨true, [.own 2 1 0 y0.1.length y0.1.length none, .own 3 2 0 y0.2.length y0.2.length none]⟩, some ⟨true, [cb true]⟩, some ⟨false, rows ciL y0.1⟩, some ⟨false, rows tAtom y0.2⟩, some ⟨true, rQuery q⟩, some ⟨true, [ints q.1, vAtomS body]⟩]⟩ ∨ s = ⟨78, [(1, vBools used), (3, .ptr 0 0), (4, .ptr 1 0), (5, .ptr 4 0), (7, .ptr 5 0), (11, ci e)], [some ⟨true, [.own 6 1 0 y.1.length y.1.length none, .own 7 2 0 y.2.length y.2.length none]⟩, some ⟨true, [cb true]⟩, some ⟨false, rows ciL y0.1⟩, some ⟨false, rows tAtom y0.2⟩, some ⟨true, rQuery q⟩, some ⟨true, [ints q.1, vAtomS body]⟩, some ⟨false, rows ciL y.1⟩, some ⟨false, rows tAtom y.2⟩]⟩), q.2.length, ⟨0, 0, y0, rfl, rfl, hy0, rfl, .inl ⟨rfl, by kernel_rfl⟩⟩, ?_⟩
    rintro m s ⟨k, _, y, rfl, hm, hy, hfold, ⟨rfl, rfl⟩ | rfl⟩
    ·
      conv => whnf
      split <;> rename_i h1
      all_goals simp only [decide_eq_true_eq, decide_eq_false_iff_not] at h1
      · have hk : k < q.2.length := by omega
        have hku : k < used.length := by omega
        have hwk : IntKind.i64.wrap ((k : Int) + 1) = ((k + 1 : Nat) : Int) := wrap_id (by omega) (by omega)
        have hnext := fold_succ hfold
        have hsu : stepU q n used body (some y) k = if used[k] then (some y) else tryU q n (used.set k true) (body ++ [q.2[k]]) (some y) := by
          unfold stepU
          rw [show used.getD k false = used[k] from by simp [List.getD_eq_getElem?_getD, hku], show q.2.getD k (0, []) = q.2[k] from by simp [List.getD_eq_getElem?_getD, hk]]
        rw [hsu] at hnext
        clear hsu
        conv => whnf
        refine ⟨by omega, rows_len bL_len _, ?_⟩
        conv => whnf
        refine ⟨_, takeN_rp (k := k) bL_len hku, ?_⟩
        generalize hub : used[k] = ub at hnext
        cases ub with
        | true =>
          conv => whnf
          rw [if_pos rfl] at hnext
          exact ⟨m - 1, by omega, k + 1, IntKind.i64.wrap ((k : Int) + 1), y, hwk, by omega, hy, hnext, .inl ⟨rfl, by kernel_rfl⟩⟩
        | false =>
        conv => whnf
        rw [if_neg (by simp)] at hnext
        refine ⟨rows_len bL_len _, solid_bL _, ?_⟩
        conv => whnf
        refine ⟨by omega, rfl, _, app_bL [] used, ?_⟩
        conv => whnf
        refine ⟨by omega, ?_⟩
        conv => whnf
        refine ⟨_, takeN_own (k := k) (d := 0) (xs := [] ++ used) bL_len (Nat.zero_add _) hku (Nat.le_refl _) rfl, _, set_bL (m := [] ++ used) hku _, ?_⟩
        conv => whnf
        refine ⟨[0, 1, 3, 4, 6, 7, 8, 9, 10, 11, 2, 5, 12, 13, 1000, 14, 1000, 15], by kernel_rfl, ?_⟩
        conv => whnf
        refine ⟨by omega, rows_len rAtom_len _, ?_⟩
        conv => whnf
        refine ⟨_, takeN_rp (k := k) rAtom_len hk, ?_⟩
        conv => whnf
        refine ⟨rows_len rAtom_len _, solid_rAtomR _, ?_⟩
        conv => whnf
        refine ⟨by omega, rfl, _, app_rAtom [] body, ?_⟩
        conv => whnf
        refine ⟨rfl, solid_rAtomR [q.2[k]], ?_⟩
        conv => whnf
        refine ⟨by omega, (show _ = (0 + body.length) * 2 from by rw [rows_len rAtom_len]; simp), _, (show _ = rows rAtom (body ++ [q.2[k]]) from snoc_rAtom1 body q.2[k]), ?_⟩
        conv => whnf
        refine .inr (.inr ⟨[0, 1, 2, 3], [7, 10], ?_⟩)
        conv => whnf
        refine ⟨_, _, takeN_all (show _ = (0 + used.length) * 1 from by rw [rows_len bL_len, List.length_set]; simp), roVs_bL _, ?_⟩
        conv => whnf
        refine ⟨_, _, takeN_all (show _ = (0 + body.length + 1) * 2 from by rw [rows_len rAtom_len, List.length_append]; simp), roVs_rAtomS _, ?_⟩
        conv => whnf
        have hsp := (ih.2 y hy) (used.set k true) (body ++ [q.2[k]]) (by rw [List.length_set]; exact hul) (by rw [List.length_append, List.length_singleton]; omega) (fun a ha => by
          rcases List.mem_append.1 ha with ha | ha
          · exact hbd a ha
          · rw [List.mem_singleton.1 ha]; exact hq.2.2 _ (List.getElem_mem hk))
        unfold vAtomS vBools at hsp
        rw [List.length_set, List.length_append, List.length_singleton, show body.length + 1 = 0 + body.length + 1 from by omega, show used.length = 0 + used.length from by omega] at hsp
        refine ⟨_, hsp, fun r g2 hP => ?_⟩
        obtain ⟨rfl, z, hz, hzl, ⟨rfl, rfl⟩ | rfl⟩ := hP
        · refine .inl ?_
          conv => whnf
          exact ⟨m - 1, by omega, k + 1, IntKind.i64.wrap ((k : Int) + 1), z, hwk, by omega, hzl, hnext.trans hz, .inl ⟨rfl, by kernel_rfl⟩⟩
        · refine .inl ?_
          conv => whnf
          exact ⟨m - 1, by omega, k + 1, IntKind.i64.wrap ((k : Int) + 1), z, hwk, by omega, hzl, hnext.trans hz, .inr (by kernel_rfl)⟩
      · conv => whnf
        have hkk : k = q.2.length := by omega
        subst hkk
        refine ⟨[], ?_⟩
        conv => whnf
        exact ⟨rfl, y, hfold, hy, .inl ⟨rfl, rfl⟩⟩
    ·
      conv => whnf
      split <;> rename_i h1
      all_goals simp only [decide_eq_true_eq, decide_eq_false_iff_not] at h1
      · have hk : k < q.2.length := by omega
        have hku : k < used.length := by omega
        have hwk : IntKind.i64.wrap ((k : Int) + 1) = ((k + 1 : Nat) : Int) := wrap_id (by omega) (by omega)
        have hnext := fold_succ hfold
        have hsu : stepU q n used body (some y) k = if used[k] then (some y) else tryU q n (used.set k true) (body ++ [q.2[k]]) (some y) := by
          unfold stepU
          rw [show used.getD k false = used[k] from by simp [List.getD_eq_getElem?_getD, hku], show q.2.getD k (0, []) = q.2[k] from by simp [List.getD_eq_getElem?_getD, hk]]
        rw [hsu] at hnext
        clear hsu
        conv => whnf
        refine ⟨by omega, rows_len bL_len _, ?_⟩
        conv => whnf
        refine ⟨_, takeN_rp (k := k) bL_len hku, ?_⟩
        generalize hub : used[k] = ub at hnext
        cases ub with
        | true =>
          conv => whnf
          rw [if_pos rfl] at hnext
          exact ⟨m - 1, by omega, k + 1, IntKind.i64.wrap ((k : Int) + 1), y, hwk, by omega, hy, hnext, .inr (by kernel_rfl)⟩
        | false =>
        conv => whnf
        rw [if_neg (by simp)] at hnext
        refine ⟨rows_len bL_len _, solid_bL _, ?_⟩
        conv => whnf
        refine ⟨by omega, rfl, _, app_bL [] used, ?_⟩
        conv => whnf
        refine ⟨by omega, ?_⟩
        conv => whnf
        refine ⟨_, takeN_own (k := k) (d := 0) (xs := [] ++ used) bL_len (Nat.zero_add _) hku (Nat.le_refl _) rfl, _, set_bL (m := [] ++ used) hku _, ?_⟩
        conv => whnf
        refine ⟨[0, 1, 3, 4, 6, 7, 8, 9, 10, 11, 2, 5, 12, 13, 1000, 14, 1000, 15], by kernel_rfl, ?_⟩
        conv => whnf
        refine ⟨by omega, rows_len rAtom_len _, ?_⟩
        conv => whnf
        refine ⟨_, takeN_rp (k := k) rAtom_len hk, ?_⟩
        conv => whnf
        refine ⟨rows_len rAtom_len _, solid_rAtomR _, ?_⟩
        conv => whnf
        refine ⟨by omega, rfl, _, app_rAtom [] body, ?_⟩
        conv => whnf
        refine ⟨rfl, solid_rAtomR [q.2[k]], ?_⟩
        conv => whnf
        refine ⟨by omega, (show _ = (0 + body.length) * 2 from by rw [rows_len rAtom_len]; simp), _, (show _ = rows rAtom (body ++ [q.2[k]]) from snoc_rAtom1 body q.2[k]), ?_⟩
        conv => whnf
        refine .inr (.inr ⟨[0, 1, 6, 7], [9, 12], ?_⟩)
        conv => whnf
        refine ⟨_, _, takeN_all (show _ = (0 + used.length) * 1 from by rw [rows_len bL_len, List.length_set]; simp), roVs_bL _, ?_⟩
        conv => whnf
        refine ⟨_, _, takeN_all (show _ = (0 + body.length + 1) * 2 from by rw [rows_len rAtom_len, List.length_append]; simp), roVs_rAtomS _, ?_⟩
        conv => whnf
        have hsp := (ih.2 y hy) (used.set k true) (body ++ [q.2[k]]) (by rw [List.length_set]; exact hul) (by rw [List.length_append, List.length_singleton]; omega) (fun a ha => by
          rcases List.mem_append.1 ha with ha | ha
          · exact hbd a ha
          · rw [List.mem_singleton.1 ha]; exact hq.2.2 _ (List.getElem_mem hk))
        unfold vAtomS vBools at hsp
        rw [List.length_set, List.length_append, List.length_singleton, show body.length + 1 = 0 + body.length + 1 from by omega, show used.length = 0 + used.length from by omega] at hsp
        refine ⟨_, hsp, fun r g2 hP => ?_⟩
        obtain ⟨rfl, z, hz, hzl, ⟨rfl, rfl⟩ | rfl⟩ := hP
        · refine .inl ?_
          conv => whnf
          exact ⟨m - 1, by omega, k + 1, IntKind.i64.wrap ((k : Int) + 1), z, hwk, by omega, hzl, hnext.trans hz, .inr (by kernel_rfl)⟩
        · refine .inl ?_
          conv => whnf
          exact ⟨m - 1, by omega, k + 1, IntKind.i64.wrap ((k : Int) + 1), z, hwk, by omega, hzl, hnext.trans hz, .inr (by kernel_rfl)⟩
      · conv => whnf
        have hkk : k = q.2.length := by omega
        subst hkk
        refine ⟨[], ?_⟩
        conv => whnf
        exact ⟨rfl, y, hfold, hy, .inr rfl⟩
theorem ord_all (q : QueryC) (hq : few q) : ∀ n, OrdIH q n
  | 0 => ⟨ordN0 q hq, ordS0 q hq⟩
  | n + 1 => ⟨ordN1 q hq n (ord_all q hq n), ordS1 q hq n (ord_all q hq n)⟩
end Go.Proofs.YthfjngmbdbocbaaD
