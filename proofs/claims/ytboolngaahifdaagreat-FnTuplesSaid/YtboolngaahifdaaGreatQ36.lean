/- Contracts and plain laws of this seat; no condition. -/
import Derived.Test.YtboolngaahifdaaGreatQ32
import Derived.Test.YtboolngaahifdaaGreatQ35
import Derived.Test.YtboolngaahifdaaGreatQ11
set_option linter.unusedVariables false
set_option linter.unusedSimpArgs false
set_option maxRecDepth 100000
namespace Go.Proofs.YtboolngaahifdaaGreatD
open Go Go.Proofs
def unO (o : Option QueryT) : QueryT × Bool := (o.getD ([], []), o.isSome)
theorem wEq_unO (o : Option QueryT) : wEq o = .tup [wQuery (unO o).1, cb (unO o).2] := by cases o <;> rfl
theorem eqs_ok {n c : Nat} : ∀ {m i : Nat} {e y : U4}, okE n c e → m + i ≤ n → eqs m i e = some y → okE n c y
 | 0, i, e, y, h, _, he => by
  rw [eqs_zero] at he
  cases he
  exact h
 | m + 1, i, e, y, h, hm, he => by
  rw [eqs_succ] at he
  obtain ⟨e1, e2, e3, e4, e5, e6⟩ := id h
  have ht := fine_at e5 (i := i) (by omega)
  have hu := fine_at e6 (i := i) (by omega)
  cases hE : eqE e (e.2.1.getD i 0) (e.2.2.1.getD i 0) with
  | none => rw [hE] at he; cases he
  | some z =>
   rw [hE] at he
   exact eqs_ok (okE_eqE h ht hu hE) (by omega) he
theorem uAll_ok {vs : List QueryT} (hv : okV vs) : ∀ {l : List AtomC} {k : Nat} {st y : U4}, okB vs l → okU vs k st → uAll vs l st = some y → okU vs (k + l.length) y
 | [], k, st, y, _, h, he => by
  rw [uAll_nil] at he
  cases he
  exact h
 | a :: l, k, st, y, hb, h, he => by
  rw [uAll_cons] at he
  by_cases hf : (fresh (viewAt vs a) st.1).1 < 20
  ·rw [if_pos hf] at he
   have h1 := okU_next hv (fun x hx => hb x (by rw [List.mem_singleton] at hx; subst hx; exact List.mem_cons_self ..)) h hf
   have h2 := uAll_ok hv (fun x hx => hb x (List.mem_cons_of_mem _ hx)) h1 he
   rw [List.length_cons, show k + (l.length + 1) = k + 1 + l.length from by omega]
   exact h2
  ·rw [if_neg hf] at he
   cases he
theorem okU_zero (vs : List QueryT) (q : QueryT) : okU vs 0 (varsOf q, [], [], []) :=
 ⟨Nat.le_trans (top_fine (varsOf_fine q)) (by omega), Nat.le_trans (varsTo_len20 q) (by omega), rfl, Nat.zero_le _, Nat.le_refl _, fineT_nil, fineT_nil⟩
theorem pUnfO_bound {s : List Int} {vs : List QueryT} {q y : QueryT} (h : pUnfO s vs q = some y) : cQuery y ≤ 1000 := by
 unfold pUnfO at h
 split at h
 ·rename_i hc
  rw [Bool.and_eq_true] at hc
  obtain ⟨hA, hB⟩ := hc
  obtain ⟨f1, f2⟩ := unf_small (vs := vs) hB
  unfold pUnf at h
  cases hu : uAll vs q.2 (varsOf q, [], [], []) with
  | none => rw [hu] at h; cases h
  | some st =>
   rw [hu] at h
   simp only at h
   obtain ⟨o1, o2, o3, o4, o5, o6, o7⟩ := uAll_ok (views_ok hA) (body_ok hB) (okU_zero vs q) hu
   cases he : eqs st.2.1.length 0 (q.1, st.2.1, st.2.2.1, st.2.2.2) with
   | none => rw [he] at h; cases h
   | some e =>
    rw [he] at h
    cases h
    obtain ⟨_, _, e3, e4, _, _⟩ := eqs_ok (n := st.2.1.length) (c := 64) (m := st.2.1.length) (i := 0) (e := (q.1, st.2.1, st.2.2.1, st.2.2.2)) ⟨rfl, o3.symm, f1, (by show st.2.2.2.length + sumB cAtom st.2.2.2 ≤ _; omega), o6, o7⟩ (by omega) he
    obtain ⟨d1, d2⟩ := dedup_bound cAtom e.2.2.2
    show e.1.length + ((dedup e.2.2.2).length + sumB cAtom (dedup e.2.2.2)) ≤ _
    omega
 ·cases h
abbrev QueryCa := List Int × List AtomC
def getA (l : List AtomC) (i : Int) : AtomC := l.getD i.toNat (0, [])
def candS (l : List AtomC) (acc : List AtomC) (i : Int) : List AtomC := if inR i 0 (l.length - 1) then acc ++ [getA l i] else acc
def candL (l : List AtomC) (is : List Int) : List AtomC := is.foldl (candS l) []
def pCandidateOf (q : QueryCa) (l : List AtomC) (is : List Int) : QueryCa := (q.1, candL l is)
theorem candL_at (l : List AtomC) {is : List Int} {k : Nat} (hk : k < is.length) : candL l (is.take (k + 1)) = candS l (candL l (is.take k)) is[k] := by
 unfold candL
 rw [List.take_succ_eq_append_getElem hk, List.foldl_append]
 rfl
theorem candF_len (l : List AtomC) : ∀ (is : List Int) (acc : List AtomC), (is.foldl (candS l) acc).length ≤ acc.length + is.length
 | [], acc => Nat.le_refl _
 | i :: is, acc => by
  have h1 := candF_len l is (candS l acc i)
  have h2 : (candS l acc i).length ≤ acc.length + 1 := by unfold candS; split <;> simp
  rw [List.foldl_cons, List.length_cons]
  omega
theorem candL_len (l : List AtomC) (is : List Int) (k : Nat) : (candL l (is.take k)).length ≤ k := by
 have h1 := candF_len l (is.take k) []
 rw [List.length_take] at h1
 unfold candL
 simp only [List.length_nil] at h1
 omega
theorem getA_at {l : List AtomC} {q : Nat} (hq : q < l.length) : getA l (q : Int) = l[q] := by
 unfold getA
 rw [Int.toNat_natCast]
 simp [List.getD_eq_getElem?_getD, hq]
theorem candF_sum (c : AtomC → Nat) (l : List AtomC) (B : Nat) (hB : ∀ (j : Nat) (h : j < l.length), c l[j] ≤ B) : ∀ (is : List Int) (acc : List AtomC), sumB c (is.foldl (candS l) acc) ≤ sumB c acc + is.length * B
 | [], acc => by simp
 | i :: is, acc => by
  have h1 := candF_sum c l B hB is (candS l acc i)
  have h2 : sumB c (candS l acc i) ≤ sumB c acc + B := by
   unfold candS
   split
   ·rename_i hi
    have hr : 0 ≤ i ∧ i ≤ (l.length : Int) - 1 := by simpa [inR] using hi
    obtain ⟨q, rfl⟩ : ∃ q : Nat, i = q := ⟨i.toNat, by omega⟩
    have hq : q < l.length := by omega
    rw [getA_at hq]
    have h3 := hB q hq
    have : ∀ (xs : List AtomC) (x : AtomC), sumB c (xs ++ [x]) = sumB c xs + c x := by
     intro xs x
     induction xs with
     | nil => simp [sumB]
     | cons y xs ih => simp only [List.cons_append, sumB, ih]; omega
    rw [this]
    omega
   ·omega
  rw [List.foldl_cons, List.length_cons, Nat.succ_mul]
  omega
set_option maxHeartbeats 8000000 in
theorem specCandidateOf_spec (x0 : QueryCa) (x1 : List AtomC) (x2 : List Int) (h0 : cQuery x0 ≤ 1048576) (h1 : cAtomS x1 ≤ 1048576) (h2 : x2.length ≤ 1048576) : Spec Tryz.prog 52 [vQuery x0, vAtomS x1, ints x2] (wQuery (pCandidateOf x0 x1 x2)) := by
 unfold cQuery cAtomS at h0
 unfold cAtomS at h1
 refine Spec_of mx Γ_ok Tryz.func52 rfl ?_
 conv => whnf
 refine ⟨rows_len ciL_len _, solid_ci _, ?_⟩
 conv => whnf
 refine ⟨by omega, rfl, _, app_ci [] x0.1, ?_⟩
 conv => whnf
 refine ⟨[(1,0),(2,0),(6,0),(7,202),(8,0)], fun m s => ∃ (k : Nat) (e : Int) (n1 n : Nat) (r1 r : List V), e = k ∧ m + k = x2.length ∧ n1 = x0.1.length ∧ n = (candL x1 (x2.take k)).length ∧ r1 = rows ciL x0.1 ∧ r = rows tAtom (candL x1 (x2.take k)) ∧
  s = ⟨49, [(1, vAtomS x1), (2, ints x2), (6, .ptr 0 0), (7, .ptr 1 0), (8, ci e)], [some ⟨true, [cnil, cnil]⟩, some ⟨true, [.own 2 1 0 n1 n1 none, .own 3 2 0 n n none]⟩, some ⟨false, r1⟩, some ⟨false, r⟩]⟩, x2.length, ⟨0, 0, 0 + x0.1.length, 0, _, _, rfl, rfl, Nat.zero_add _, rfl, by rw [List.nil_append], rfl, rfl⟩, ?_⟩
 rintro m s ⟨k, _, n1, n, _, _, rfl, hm, hn1, hn, rfl, rfl, rfl⟩
 conv => whnf
 split <;> rename_i h3
 all_goals simp only [decide_eq_true_eq, decide_eq_false_iff_not] at h3
 ·conv => whnf
  have hk : k < x2.length := by omega
  have hcl := candL_len x1 x2 k
  have hw : IntKind.i64.wrap ((x1.length : Int) - 1) = x1.length - 1 := wrap_id (by omega) (by omega)
  generalize hL : candL x1 (x2.take k) = L at hn hcl
  refine ⟨by omega, rows_len ciL_len _, ?_⟩
  conv => whnf
  refine ⟨_, takeN_rp (k := k) ciL_len hk, ?_⟩
  conv => whnf
  refine ⟨_, l1In_spec _ _ _, .inl rfl, .inl ?_⟩
  rw [hw]
  conv => whnf
  generalize hb1 : inR x2[k] 0 (x1.length - 1) = b1
  have hst : candL x1 (x2.take (k + 1)) = if b1 then L ++ [getA x1 x2[k]] else L := by rw [candL_at x1 hk, hL, candS, hb1]
  cases b1 with
  | false =>
   conv => whnf
   refine ⟨m - 1, by omega, k + 1, _, n1, n, _, _, wrap_id (by omega) (by omega), by omega, hn1, ?_, rfl, ?_, rfl⟩
   ·rw [hst, hn]; rfl
   ·rw [hst]; rfl
  | true =>
  conv => whnf
  have hr : 0 ≤ x2[k] ∧ x2[k] ≤ (x1.length : Int) - 1 := by simpa [inR] using hb1
  obtain ⟨q, hqa⟩ : ∃ q : Nat, x2[k] = q := ⟨x2[k].toNat, by omega⟩
  have hq : q < x1.length := by omega
  have hb := sumB_one (f := cAtom) hq
  have hcb : cAtom x1[q] = x1[q].2.length := rfl
  rw [if_pos rfl, hqa, getA_at hq] at hst
  refine ⟨by omega, rows_len ciL_len _, ?_⟩
  conv => whnf
  refine ⟨_, takeN_rp (k := k) ciL_len hk, ?_⟩
  rw [hqa]
  conv => whnf
  refine ⟨by omega, rows_len rAtom_len _, ?_⟩
  conv => whnf
  refine ⟨_, takeN_rp (k := q) rAtom_len hq, ?_⟩
  conv => whnf
  refine ⟨[0, 1, 2, 3, 5, 6, 4, 7, 8, 9, 10, 11, 12], by kernel_rfl, ?_⟩
  conv => whnf
  refine ⟨rows_len ciL_len _, solid_ci _, ?_⟩
  conv => whnf
  refine ⟨by omega, rfl, _, app_ci [] _, ?_⟩
  conv => whnf
  refine ⟨by rw [rows_len ciL_len, List.nil_append, Nat.zero_add]; rfl, ?_⟩
  conv => whnf
  refine ⟨_, rfl, .inr ⟨fun c hc => ?_, ?_⟩⟩
  ·have hc : c ∈ [ci x1[q].1, V.tr 1 (0 + x1[q].2.length) (rows ciL ([] ++ x1[q].2))] := hc
   simp only [List.mem_cons, List.not_mem_nil, or_false] at hc
   rcases hc with rfl | rfl <;> rfl
  conv => whnf
  refine ⟨by omega, by rw [rows_len tAtom_len, hn], rows tAtom (L ++ [x1[q]]), ?_, ?_⟩
  ·rw [List.nil_append, Nat.zero_add]
   exact snoc_rows tAtom _ _
  conv => whnf
  refine ⟨m - 1, by omega, k + 1, _, n1, _, _, _, wrap_id (by omega) (by omega), by omega, hn1, ?_, rfl, ?_, rfl⟩
  ·rw [hst, List.length_append, hn]
   rfl
  ·rw [hst]
 ·conv => whnf
  have hkk : k = x2.length := by omega
  rw [hkk, List.take_length] at hn ⊢
  subst hn1
  subst hn
  refine ⟨by rw [rows_len ciL_len], by rw [rows_len tAtom_len], rfl⟩
set_option maxHeartbeats 8000000 in
theorem implCandidateOf_spec (x0 : QueryCa) (x1 : List AtomC) (x2 : List Int) (h0 : cQuery x0 ≤ 1048576) (h1 : cAtomS x1 ≤ 1048576) (h2 : x2.length ≤ 1048576) : Spec Tryz.prog 51 [vQuery x0, vAtomS x1, ints x2] (wQuery (pCandidateOf x0 x1 x2)) := by
 unfold cQuery cAtomS at h0
 unfold cAtomS at h1
 refine Spec_of mx Γ_ok Tryz.func51 rfl ?_
 conv => whnf
 refine ⟨_, copyInts_spec x0.1 (by omega), .inl rfl, .inr ?_⟩
 conv => whnf
 refine ⟨[(1,0),(6,0),(7,202),(14,0),(15,0),(16,0)], fun m s => ∃ (k : Nat) (e : Int) (n : Nat) (r : List V), e = k ∧ m + k = x2.length ∧ n = (candL x1 (x2.take k)).length ∧ r = rows tAtom (candL x1 (x2.take k)) ∧
  s = ⟨37, [(1, vAtomS x1), (6, .ptr 0 0), (7, .ptr 1 0), (14, ints x2), (15, ci x2.length), (16, ci e)], [some ⟨true, [cnil, cnil]⟩, some ⟨true, [.own 2 1 0 x0.1.length x0.1.length none, .own 3 2 0 n n none]⟩, some ⟨false, rows ciL x0.1⟩, some ⟨false, r⟩]⟩, x2.length, ⟨0, 0, 0, _, rfl, rfl, rfl, rfl, rfl⟩, ?_⟩
 rintro m s ⟨k, _, n, _, rfl, hm, hn, rfl, rfl⟩
 conv => whnf
 split <;> rename_i h3
 all_goals simp only [decide_eq_true_eq, decide_eq_false_iff_not] at h3
 ·conv => whnf
  have hk : k < x2.length := by omega
  have hcl := candL_len x1 x2 k
  have hw : IntKind.i64.wrap ((x1.length : Int) - 1) = x1.length - 1 := wrap_id (by omega) (by omega)
  generalize hL : candL x1 (x2.take k) = L at hn hcl
  refine ⟨by omega, rows_len ciL_len _, ?_⟩
  conv => whnf
  refine ⟨_, takeN_rp (k := k) ciL_len hk, ?_⟩
  conv => whnf
  refine ⟨_, within_spec _ _ _, .inl rfl, .inl ?_⟩
  rw [hw]
  conv => whnf
  generalize hb1 : inR x2[k] 0 (x1.length - 1) = b1
  have hst : candL x1 (x2.take (k + 1)) = if b1 then L ++ [getA x1 x2[k]] else L := by rw [candL_at x1 hk, hL, candS, hb1]
  cases b1 with
  | false =>
   conv => whnf
   refine ⟨m - 1, by omega, k + 1, _, n, _, wrap_id (by omega) (by omega), by omega, ?_, ?_, rfl⟩
   ·rw [hst, hn]; rfl
   ·rw [hst]; rfl
  | true =>
  conv => whnf
  have hr : 0 ≤ x2[k] ∧ x2[k] ≤ (x1.length : Int) - 1 := by simpa [inR] using hb1
  obtain ⟨q, hqa⟩ : ∃ q : Nat, x2[k] = q := ⟨x2[k].toNat, by omega⟩
  have hq : q < x1.length := by omega
  have hb := sumB_one (f := cAtom) hq
  rw [if_pos rfl, hqa, getA_at hq] at hst
  rw [hqa]
  have hw2 : IntKind.i64.wrap ((q : Int) + 1) = q + 1 := wrap_id (by omega) (by omega)
  refine ⟨List.range 11, by kernel_rfl, ?_⟩
  conv => whnf
  rw [hw2, show ((q : Int) + 1).toNat - (q : Int).toNat = 1 from by omega]
  refine ⟨by omega, rows_len rAtom_len _, rows rAtom [x1[q]], takeN_own (k := q) (d := 0) (m := 2) (xs := x1) rAtom_len rfl hq (by omega) rfl, ?_⟩
  conv => whnf
  refine ⟨_, copyAtoms_spec [x1[q]] (by unfold cAtomS; simp only [sumB, List.length_singleton]; omega), .inl rfl, .inr ?_⟩
  conv => whnf
  refine ⟨rows tAtom [x1[q]], rfl, .inr ⟨fun c hc => ?_, ?_⟩⟩
  ·exact solid_tAtom x1[q] c hc
  conv => whnf
  refine ⟨by rw [List.length_singleton]; omega, by rw [rows_len tAtom_len, hn], rows tAtom (L ++ [x1[q]]), (rows_append tAtom [x1[q]] L).symm, ?_⟩
  conv => whnf
  refine ⟨m - 1, by omega, k + 1, _, _, _, wrap_id (by omega) (by omega), by omega, ?_, ?_, rfl⟩
  ·rw [hst, List.length_append, hn]
  ·rw [hst]
 ·conv => whnf
  have hkk : k = x2.length := by omega
  rw [hkk, List.take_length] at hn ⊢
  subst hn
  refine ⟨by rw [rows_len ciL_len], by rw [rows_len tAtom_len], rfl⟩
end Go.Proofs.YtboolngaahifdaaGreatD
