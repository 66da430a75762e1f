/- UnfoldQuery: the law's terms. -/
import Derived.Test.YtbnikloglnkddaaFUnfold5
import Derived.Test.YtbnikloglnkddaaFUnfold7
set_option linter.unusedVariables false
set_option linter.unusedSimpArgs false
set_option maxRecDepth 100000
namespace Go.Proofs.YtbnikloglnkddaaD
open Go Go.Proofs

def unO (o : Option QueryT) : QueryT × Bool := (o.getD ([], []), o.isSome)
def pUnfoldQuery (s : List Int) (vs : List QueryT) (q : QueryT) : QueryT × Bool := unO (pUnfO s vs q)
theorem wEq_unO (o : Option QueryT) : wEq o = .tup [wQuery (unO o).1, cb (unO o).2] := by cases o <;> rfl
theorem eqs_ok {n c : Nat} : ∀ {m i : Nat} {e y : U4}, okE n c e → m + i ≤ n → eqs m i e = some y → okE n c y
  | 0, i, e, y, h, _, he => by
    rw [eqs_zero] at he
    cases he
    exact h
  | m + 1, i, e, y, h, hm, he => by
    rw [eqs_succ] at he
    obtain ⟨e1, e2, e3, e4, e5, e6⟩ := id h
    have ht := fine_at e5 (i := i) (by omega)
    have hu := fine_at e6 (i := i) (by omega)
    cases hE : eqE e (e.2.1.getD i 0) (e.2.2.1.getD i 0) with
    | none => rw [hE] at he; cases he
    | some z =>
      rw [hE] at he
      exact eqs_ok (okE_eqE h ht hu hE) (by omega) he
theorem uAll_ok {vs : List QueryT} (hv : okV vs) : ∀ {l : List AtomC} {k : Nat} {st y : U4}, okB vs l → okU vs k st → uAll vs l st = some y → okU vs (k + l.length) y
  | [], k, st, y, _, h, he => by
    rw [uAll_nil] at he
    cases he
    exact h
  | a :: l, k, st, y, hb, h, he => by
    rw [uAll_cons] at he
    by_cases hf : (fresh (viewAt vs a) st.1).1 < 20
    · rw [if_pos hf] at he
      have h1 := okU_next hv (fun x hx => hb x (by rw [List.mem_singleton] at hx; subst hx; exact List.mem_cons_self ..)) h hf
      have h2 := uAll_ok hv (fun x hx => hb x (List.mem_cons_of_mem _ hx)) h1 he
      rw [List.length_cons, show k + (l.length + 1) = k + 1 + l.length from by omega]
      exact h2
    · rw [if_neg hf] at he
      cases he
theorem okU_zero (vs : List QueryT) (q : QueryT) : okU vs 0 (varsOf q, [], [], []) :=
  ⟨Nat.le_trans (top_fine (varsOf_fine q)) (by omega), Nat.le_trans (varsTo_len20 q) (by omega), rfl, Nat.zero_le _, Nat.le_refl _, fineT_nil, fineT_nil⟩
theorem pUnfO_bound {s : List Int} {vs : List QueryT} {q y : QueryT} (h : pUnfO s vs q = some y) : cQuery y ≤ 1000 := by
  unfold pUnfO at h
  split at h
  · rename_i hc
    rw [Bool.and_eq_true] at hc
    obtain ⟨hA, hB⟩ := hc
    obtain ⟨f1, f2⟩ := unf_small (vs := vs) hB
    unfold pUnf at h
    cases hu : uAll vs q.2 (varsOf q, [], [], []) with
    | none => rw [hu] at h; cases h
    | some st =>
      rw [hu] at h
      simp only at h
      obtain ⟨o1, o2, o3, o4, o5, o6, o7⟩ := uAll_ok (views_ok hA) (body_ok hB) (okU_zero vs q) hu
      cases he : eqs st.2.1.length 0 (q.1, st.2.1, st.2.2.1, st.2.2.2) with
      | none => rw [he] at h; cases h
      | some e =>
        rw [he] at h
        cases h
        obtain ⟨_, _, e3, e4, _, _⟩ := eqs_ok (n := st.2.1.length) (c := 64) (m := st.2.1.length) (i := 0) (e := (q.1, st.2.1, st.2.2.1, st.2.2.2)) ⟨rfl, o3.symm, f1, (by show st.2.2.2.length + sumB cAtom st.2.2.2 ≤ _; omega), o6, o7⟩ (by omega) he
        obtain ⟨d1, d2⟩ := dedup_bound cAtom e.2.2.2
        show e.1.length + ((dedup e.2.2.2).length + sumB cAtom (dedup e.2.2.2)) ≤ _
        omega
  · cases h
theorem small_UnfoldQuery (x0 : List Int) (x1 : List QueryT) (x2 : QueryT) (h0 : cSchema x0 ≤ 1048576) (h1 : cQueryS x1 ≤ 1048576) (h2 : cQuery x2 ≤ 1048576) : cQuery (pUnfoldQuery x0 x1 x2).1 ≤ 2147483648 := by
  unfold pUnfoldQuery unO
  cases h : pUnfO x0 x1 x2 with
  | none =>
    show cQuery ([], []) ≤ _
    exact Nat.zero_le _
  | some y =>
    have := pUnfO_bound h
    show cQuery y ≤ _
    omega
theorem specUnfoldQuery_law (x0 : List Int) (x1 : List QueryT) (x2 : QueryT) (h0 : cSchema x0 ≤ 1048576) (h1 : cQueryS x1 ≤ 1048576) (h2 : cQuery x2 ≤ 1048576) (q0 : qSchema x0) (q1 : qQueryS x1) (q2 : qQuery x2) : Spec Try.prog 16 [vSchema x0, vQueryS x1, vQuery x2] (.tup [wQuery (pUnfoldQuery x0 x1 x2).1, cb (pUnfoldQuery x0 x1 x2).2]) := by
  have h := specUnfoldQuery_spec x0 x1 x2 h0 h1 h2 q0 q1
  rw [wEq_unO] at h
  exact h
theorem implUnfoldQuery_law (x0 : List Int) (x1 : List QueryT) (x2 : QueryT) (h0 : cSchema x0 ≤ 1048576) (h1 : cQueryS x1 ≤ 1048576) (h2 : cQuery x2 ≤ 1048576) (q0 : qSchema x0) (q1 : qQueryS x1) (q2 : qQuery x2) : Spec Try.prog 20 [vSchema x0, vQueryS x1, vQuery x2] (.tup [wQuery (pUnfoldQuery x0 x1 x2).1, cb (pUnfoldQuery x0 x1 x2).2]) := by
  have h := implUnfold_spec x0 x1 x2 h0 h1 h2 q0 q1
  rw [wEq_unO] at h
  exact h
end Go.Proofs.YtbnikloglnkddaaD
