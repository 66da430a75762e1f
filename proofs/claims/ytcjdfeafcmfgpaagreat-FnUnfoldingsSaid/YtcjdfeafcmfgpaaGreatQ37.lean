/- Contracts and plain laws of this seat; no condition. -/
import Derived.Test.YtcjdfeafcmfgpaaGreatQ33
import Derived.Test.YtcjdfeafcmfgpaaGreatQ36
import Derived.Test.YtcjdfeafcmfgpaaGreatQ10
import Derived.Test.YtcjdfeafcmfgpaaGreatQ20
import Derived.Test.YtcjdfeafcmfgpaaGreatQ12
set_option linter.unusedVariables false
set_option linter.unusedSimpArgs false
set_option maxRecDepth 100000
namespace Go.Proofs.YtcjdfeafcmfgpaaGreatD
open Go Go.Proofs
def unO (o : Option QueryT) : QueryT × Bool := (o.getD ([], []), o.isSome)
theorem wEq_unO (o : Option QueryT) : wEq o = .tup [wQuery (unO o).1, cb (unO o).2] := by cases o <;> rfl
theorem eqs_ok {n c : Nat} : ∀ {m i : Nat} {e y : U4}, okE n c e → m + i ≤ n → eqs m i e = some y → okE n c y
 | 0, i, e, y, h, _, he => by
  rw [eqs_zero] at he
  cases he
  exact h
 | m + 1, i, e, y, h, hm, he => by
  rw [eqs_succ] at he
  obtain ⟨e1, e2, e3, e4, e5, e6⟩ := id h
  have ht := fine_at e5 (i := i) (by omega)
  have hu := fine_at e6 (i := i) (by omega)
  cases hE : eqE e (e.2.1.getD i 0) (e.2.2.1.getD i 0) with
  | none => rw [hE] at he; cases he
  | some z =>
   rw [hE] at he
   exact eqs_ok (okE_eqE h ht hu hE) (by omega) he
theorem uAll_ok {vs : List QueryT} (hv : okV vs) : ∀ {l : List AtomC} {k : Nat} {st y : U4}, okB vs l → okU vs k st → uAll vs l st = some y → okU vs (k + l.length) y
 | [], k, st, y, _, h, he => by
  rw [uAll_nil] at he
  cases he
  exact h
 | a :: l, k, st, y, hb, h, he => by
  rw [uAll_cons] at he
  by_cases hf : (fresh (viewAt vs a) st.1).1 < 20
  ·rw [if_pos hf] at he
   have h1 := okU_next hv (fun x hx => hb x (by rw [List.mem_singleton] at hx; subst hx; exact List.mem_cons_self ..)) h hf
   have h2 := uAll_ok hv (fun x hx => hb x (List.mem_cons_of_mem _ hx)) h1 he
   rw [List.length_cons, show k + (l.length + 1) = k + 1 + l.length from by omega]
   exact h2
  ·rw [if_neg hf] at he
   cases he
theorem okU_zero (vs : List QueryT) (q : QueryT) : okU vs 0 (varsOf q, [], [], []) :=
 ⟨Nat.le_trans (top_fine (varsOf_fine q)) (by omega), Nat.le_trans (varsTo_len20 q) (by omega), rfl, Nat.zero_le _, Nat.le_refl _, fineT_nil, fineT_nil⟩
theorem pUnfO_bound {s : List Int} {vs : List QueryT} {q y : QueryT} (h : pUnfO s vs q = some y) : cQuery y ≤ 1000 := by
 unfold pUnfO at h
 split at h
 ·rename_i hc
  rw [Bool.and_eq_true] at hc
  obtain ⟨hA, hB⟩ := hc
  obtain ⟨f1, f2⟩ := unf_small (vs := vs) hB
  unfold pUnf at h
  cases hu : uAll vs q.2 (varsOf q, [], [], []) with
  | none => rw [hu] at h; cases h
  | some st =>
   rw [hu] at h
   simp only at h
   obtain ⟨o1, o2, o3, o4, o5, o6, o7⟩ := uAll_ok (views_ok hA) (body_ok hB) (okU_zero vs q) hu
   cases he : eqs st.2.1.length 0 (q.1, st.2.1, st.2.2.1, st.2.2.2) with
   | none => rw [he] at h; cases h
   | some e =>
    rw [he] at h
    cases h
    obtain ⟨_, _, e3, e4, _, _⟩ := eqs_ok (n := st.2.1.length) (c := 64) (m := st.2.1.length) (i := 0) (e := (q.1, st.2.1, st.2.2.1, st.2.2.2)) ⟨rfl, o3.symm, f1, (by show st.2.2.2.length + sumB cAtom st.2.2.2 ≤ _; omega), o6, o7⟩ (by omega) he
    obtain ⟨d1, d2⟩ := dedup_bound cAtom e.2.2.2
    show e.1.length + ((dedup e.2.2.2).length + sumB cAtom (dedup e.2.2.2)) ≤ _
    omega
 ·cases h
abbrev QueryQ := List Int × List (Int × List Int)
theorem eqA_dec (a b : AtomC) : eqA a b = decide (a = b) := by
 obtain ⟨a1, a2⟩ := a
 obtain ⟨b1, b2⟩ := b
 unfold eqA
 simp only [Prod.mk.injEq, Bool.decide_and]
theorem eqQ_dec (a b : QueryQ) : decide (a = b) = (decide (a.1 = b.1) && decide (a.2 = b.2)) := by
 obtain ⟨a1, a2⟩ := a
 obtain ⟨b1, b2⟩ := b
 simp only [Prod.mk.injEq, Bool.decide_and]
theorem q_sizes {a : QueryQ} (h : cQuery a ≤ 1048576) : a.1.length ≤ 1048576 ∧ a.2.length ≤ 1048576 ∧ ∀ {k : Nat} (hk : k < a.2.length), a.2[k].2.length ≤ 1048576 := by
 unfold cQuery cAtomS at h
 refine ⟨by omega, by omega, fun {k} hk => ?_⟩
 have := sumB_one (f := cAtom) hk
 have e : cAtom a.2[k] = a.2[k].2.length := rfl
 omega
set_option maxHeartbeats 2000000 in
theorem specEqualQueries_spec (a b : QueryQ) (ha : cQuery a ≤ 1048576) (hb : cQuery b ≤ 1048576) : Spec Tryz.prog 29 [vQuery a, vQuery b] (cb (decide (a = b))) := by
 obtain ⟨a1, a2, a3⟩ := q_sizes ha
 obtain ⟨b1, b2, b3⟩ := q_sizes hb
 rw [eqQ_dec]
 refine Spec_of mx Γ_ok Tryz.func29 rfl ?_
 conv => whnf
 refine ⟨_, l2Ints_spec a.1 b.1 (by omega) (by omega), .inl rfl, .inl ?_⟩
 generalize decide (a.1 = b.1) = c1
 cases c1 with
 | false =>
  conv => whnf
  rfl
 | true =>
 conv => whnf
 rw [Bool.true_and]
 generalize hc2 : ((a.2.length : Int) != (b.2.length : Int)) = c2
 cases c2 with
 | true =>
  conv => whnf
  rw [ne_len (by intro h; rw [h] at hc2; simp at hc2)]
  rfl
 | false =>
 have hlen : a.2.length = b.2.length := by
  have : (a.2.length : Int) = b.2.length := by simpa using hc2
  omega
 conv => whnf
 refine ⟨[(2,0),(3,0),(5,0)], fun m st => ∃ (k : Nat) (e : Int), e = k ∧ m + k = a.2.length ∧ decide (a.2 = b.2) = decide (a.2.drop k = b.2.drop k) ∧
  st = ⟨40, [(2, .ptr 0 0), (3, .ptr 1 0), (5, ci e)], [some ⟨true, rQuery a⟩, some ⟨true, rQuery b⟩]⟩, a.2.length, ⟨0, 0, rfl, rfl, rfl, by kernel_rfl⟩, ?_⟩
 rintro m st ⟨k, _, rfl, hm, hj, rfl⟩
 conv => whnf
 split <;> rename_i h1
 all_goals simp only [decide_eq_true_eq, decide_eq_false_iff_not] at h1
 ·have hk : k < a.2.length := by omega
  have hk' : k < b.2.length := by omega
  have h3 := a3 hk
  have h4 := b3 hk'
  rw [drop_eq_at hk hk'] at hj
  conv => whnf
  refine ⟨List.range 12, by kernel_rfl, ?_⟩
  conv => whnf
  refine ⟨by omega, rows_len rAtom_len _, ?_⟩
  conv => whnf
  refine ⟨_, takeN_rp (k := k) rAtom_len hk, ?_⟩
  conv => whnf
  refine ⟨by omega, rows_len rAtom_len _, ?_⟩
  conv => whnf
  refine ⟨_, takeN_rp (k := k) rAtom_len hk', ?_⟩
  conv => whnf
  refine ⟨_, specEqualAtoms_spec a.2[k] b.2[k] (by omega) (by omega), .inl rfl, .inl ?_⟩
  rw [eqA_dec]
  generalize decide (a.2[k] = b.2[k]) = c3 at hj
  cases c3 with
  | false =>
   conv => whnf
   rw [hj]
   rfl
  | true =>
   conv => whnf
   exact ⟨m - 1, by omega, k + 1, IntKind.i64.wrap ((k : Int) + 1), wrap_id (by omega) (by omega), by omega, by rw [hj, Bool.true_and], by kernel_rfl⟩
 ·conv => whnf
  rw [hj, List.drop_eq_nil_of_le (by omega), List.drop_eq_nil_of_le (by omega)]
  rfl
theorem specEqualFacts_spec (a b : List FactC) (ha : cFactS a ≤ 1048576) (hb : cFactS b ≤ 1048576) : Spec Tryz.prog 43 [vFactS a, vFactS b] (cb (decide (a = b))) := by
 unfold cFactS at ha hb
 refine Spec_of mx Γ_ok Tryz.func43 rfl ?_
 conv => whnf
 generalize hc2 : ((a.length : Int) != (b.length : Int)) = c2
 cases c2 with
 | true =>
  conv => whnf
  rw [ne_len (by intro h; rw [h] at hc2; simp at hc2)]
  rfl
 | false =>
 have hlen : a.length = b.length := by
  have : (a.length : Int) = b.length := by simpa using hc2
  omega
 conv => whnf
 refine ⟨[(0,0),(1,0),(4,0),(5,0)], fun m st => ∃ (k : Nat) (e : Int), e = k ∧ m + k = a.length ∧ decide (a = b) = decide (a.drop k = b.drop k) ∧
  st = ⟨27, [(0, vFactS a), (1, vFactS b), (4, cb false), (5, ci e)], []⟩, a.length, ⟨0, 0, rfl, rfl, rfl, by kernel_rfl⟩, ?_⟩
 rintro m st ⟨k, _, rfl, hm, hj, rfl⟩
 conv => whnf
 split <;> rename_i h1
 all_goals simp only [decide_eq_true_eq, decide_eq_false_iff_not] at h1
 ·have hk : k < a.length := by omega
  have hk' : k < b.length := by omega
  have h3 := sumB_one (f := cFact) hk
  have h4 := sumB_one (f := cFact) hk'
  have e3 : cFact a[k] = a[k].2.length := rfl
  have e4 : cFact b[k] = b[k].2.length := rfl
  rw [drop_eq_at hk hk'] at hj
  conv => whnf
  refine ⟨List.range 10, by kernel_rfl, ?_⟩
  conv => whnf
  refine ⟨by omega, rows_len rFact_len _, ?_⟩
  conv => whnf
  refine ⟨_, takeN_rp (k := k) rFact_len hk, ?_⟩
  conv => whnf
  refine ⟨by omega, rows_len rFact_len _, ?_⟩
  conv => whnf
  refine ⟨_, takeN_rp (k := k) rFact_len hk', ?_⟩
  conv => whnf
  refine ⟨_, l5Same_spec a[k] b[k] (by omega) (by omega), .inl rfl, .inl ?_⟩
  unfold eqF
  generalize decide (a[k] = b[k]) = c3 at hj
  cases c3 with
  | false =>
   conv => whnf
   rw [hj]
   rfl
  | true =>
   conv => whnf
   exact ⟨m - 1, by omega, k + 1, IntKind.i64.wrap ((k : Int) + 1), wrap_id (by omega) (by omega), by omega, by rw [hj, Bool.true_and], by kernel_rfl⟩
 ·conv => whnf
  rw [hj, List.drop_eq_nil_of_le (by omega), List.drop_eq_nil_of_le (by omega)]
  rfl
end Go.Proofs.YtcjdfeafcmfgpaaGreatD
