/- IsRewriting, twice. -/
import Derived.Test.YtbnikloglnkddaaFUnfold8
import Derived.Test.YtbnikloglnkddaaFMap5
set_option linter.unusedVariables false
set_option linter.unusedSimpArgs false
set_option maxRecDepth 100000
namespace Go.Proofs.YtbnikloglnkddaaD
open Go Go.Proofs

theorem fineA_app {a b : List AtomC} (ha : fineA a) (hb : fineA b) : fineA (a ++ b) := fun t ht => by
  rcases List.mem_append.1 ht with h | h
  · exact ha t h
  · exact hb t h
theorem fineA_ren {to : List Int} {l : List AtomC} (h : fineT to) (hl : fineA l) : fineA (l.map (renA to)) := fun a ha => by
  simp only [List.mem_map] at ha
  obtain ⟨x, hx, rfl⟩ := ha
  intro t ht
  simp only [renA, List.mem_map] at ht
  obtain ⟨w, hw, rfl⟩ := ht
  exact ren1_fine h (hl x hx w hw)
theorem fineA_rep {a b : Int} {l : List AtomC} (h : b < 20) (hl : fineA l) : fineA (l.map (repA a b)) := fun x hx => by
  simp only [List.mem_map] at hx
  obtain ⟨y, hy, rfl⟩ := hx
  exact fineT_map (hl y hy) h
theorem uAll_fine {vs : List QueryT} (hv : okV vs) : ∀ {l : List AtomC} {st y : U4}, okB vs l → fineA st.2.2.2 → uAll vs l st = some y → fineA y.2.2.2
  | [], st, y, _, h, he => by
    rw [uAll_nil] at he
    cases he
    exact h
  | a :: l, st, y, hb, h, he => by
    rw [uAll_cons] at he
    by_cases hf : (fresh (viewAt vs a) st.1).1 < 20
    · rw [if_pos hf] at he
      refine uAll_fine hv (fun x hx => hb x (List.mem_cons_of_mem _ hx)) ?_ he
      obtain ⟨j, hj, hjl, _, _⟩ := hb a (List.mem_cons_self ..)
      have hmem : viewAt vs a ∈ vs := by
        unfold viewAt
        rw [hj, Int.toNat_natCast]
        simp only [List.getD_eq_getElem?_getD, List.getElem?_eq_getElem hjl, Option.getD_some]
        exact List.getElem_mem hjl
      obtain ⟨_, _, _, _, v5⟩ := hv _ hmem
      exact fineA_app h (fineA_ren (frK_fine _ _ 20 (Nat.le_refl _) hf) v5)
    · rw [if_neg hf] at he
      cases he
theorem eqE_fine {e y : U4} {t u : Int} (h1 : fineT e.1) (h2 : fineA e.2.2.2) (ht : t < 20) (hu : u < 20) (he : eqE e t u = some y) : fineT y.1 ∧ fineA y.2.2.2 := by
  unfold eqE at he
  split at he
  · cases he; exact ⟨h1, h2⟩
  · split at he
    · cases he
    · split at he
      · cases he; exact ⟨fineT_map h1 ht, fineA_rep ht h2⟩
      · cases he; exact ⟨fineT_map h1 hu, fineA_rep hu h2⟩
theorem eqs_fine {n c : Nat} : ∀ {m i : Nat} {e y : U4}, okE n c e → m + i ≤ n → fineT e.1 → fineA e.2.2.2 → eqs m i e = some y → fineT y.1 ∧ fineA y.2.2.2
  | 0, i, e, y, h, _, h1, h2, he => by
    rw [eqs_zero] at he
    cases he
    exact ⟨h1, h2⟩
  | m + 1, i, e, y, h, hm, h1, h2, he => by
    rw [eqs_succ] at he
    obtain ⟨e1, e2, e3, e4, e5, e6⟩ := id h
    have ht := fine_at e5 (i := i) (by omega)
    have hu := fine_at e6 (i := i) (by omega)
    cases hE : eqE e (e.2.1.getD i 0) (e.2.2.1.getD i 0) with
    | none => rw [hE] at he; cases he
    | some z =>
      rw [hE] at he
      obtain ⟨g1, g2⟩ := eqE_fine h1 h2 ht hu hE
      exact eqs_fine (okE_eqE h ht hu hE) (by omega) g1 g2 he
theorem dedup_memR {x : AtomC} : ∀ {xs acc : List AtomC}, x ∈ xs.foldl dedS acc → x ∈ xs ∨ x ∈ acc
  | [], acc, h => .inr h
  | y :: xs, acc, h => by
    have h' : x ∈ xs.foldl dedS (dedS acc y) := h
    rcases dedup_memR (xs := xs) h' with h1 | h1
    · exact .inl (List.mem_cons_of_mem _ h1)
    · unfold dedS at h1
      split at h1
      · exact .inr h1
      · rcases List.mem_append.1 h1 with h2 | h2
        · exact .inr h2
        · rw [List.mem_singleton] at h2
          subst h2
          exact .inl (List.mem_cons_self ..)
theorem pUnfO_fine {s : List Int} {vs : List QueryT} {q y : QueryT} (h : pUnfO s vs q = some y) : fineT y.1 ∧ fineA y.2 := by
  unfold pUnfO at h
  split at h
  · rename_i hc
    rw [Bool.and_eq_true] at hc
    obtain ⟨hA, hB⟩ := hc
    obtain ⟨f1, f2⟩ := unf_small (vs := vs) hB
    obtain ⟨f3, _⟩ := isQuery_fine hB
    unfold pUnf at h
    cases hu : uAll vs q.2 (varsOf q, [], [], []) with
    | none => rw [hu] at h; cases h
    | some st =>
      rw [hu] at h
      simp only at h
      obtain ⟨o1, o2, o3, o4, o5, o6, o7⟩ := uAll_ok (views_ok hA) (body_ok hB) (okU_zero vs q) hu
      have hfb := uAll_fine (views_ok hA) (body_ok hB) (fun a ha => absurd ha List.not_mem_nil) hu
      cases he : eqs st.2.1.length 0 (q.1, st.2.1, st.2.2.1, st.2.2.2) with
      | none => rw [he] at h; cases h
      | some e =>
        rw [he] at h
        cases h
        obtain ⟨g1, g2⟩ := eqs_fine (n := st.2.1.length) (c := 64) (m := st.2.1.length) (i := 0) (e := (q.1, st.2.1, st.2.2.1, st.2.2.2)) ⟨rfl, o3.symm, f1, (by show st.2.2.2.length + sumB cAtom st.2.2.2 ≤ _; omega), o6, o7⟩ (by omega) f3 hfb he
        refine ⟨g1, fun a ha => ?_⟩
        rcases dedup_memR ha with h5 | h5
        · exact g2 a h5
        · exact absurd h5 List.not_mem_nil
  · cases h
def pBoth (o : Option QueryT) (q : QueryT) : Bool := match o with
  | none => false
  | some x => (mapP x q).isSome && (mapP q x).isSome
def pIsRewriting (s : List Int) (vs : List QueryT) (q r : QueryT) : Bool := pAreViews s vs && (isQuery s q && pBoth (pUnfO s vs r) q)
theorem l17Both_spec (x q : QueryT) (hx : cQuery x ≤ 1048576) (hq : cQuery q ≤ 1048576) (x1 : fineT x.1) (x2 : fineA x.2) (q1 : fineT q.1) (q2 : fineA q.2) : Spec Try.prog 80 [vQuery x, vQuery q] (.tup [cb (mapP x q).isSome, cb (mapP q x).isSome]) := by
  refine Spec_of mx Γ_ok Try.func80 rfl ?_
  conv => whnf
  refine ⟨_, l7Find_spec x q hx hq x1 x2, .inl rfl, .inl ?_⟩
  generalize mapP x q = o1
  cases o1
  all_goals
    conv => whnf
    refine ⟨_, l7Find_spec q x hq hx q1 q2, .inl rfl, .inl ?_⟩
    generalize mapP q x = o2
    cases o2
    all_goals
      conv => whnf
      rfl
theorem l17Fine_spec (s : List Int) (vs : List QueryT) (q : QueryT) (hs : cSchema s ≤ 1048576) (hvs : cQueryS vs ≤ 1048576) (hq : cQuery q ≤ 1048576) (q0 : qSchema s) (q1 : qQueryS vs) : Spec Try.prog 79 [vSchema s, vQueryS vs, vQuery q] (cb (pAreViews s vs && isQuery s q)) := by
  refine Spec_of mx Γ_ok Try.func79 rfl ?_
  conv => whnf
  refine ⟨_, specAreViews_spec s vs hs hvs q0 q1, .inl rfl, .inl ?_⟩
  conv => whnf
  generalize pAreViews s vs = b1
  cases b1 with
  | false =>
    conv => whnf
    rfl
  | true =>
    conv => whnf
    refine ⟨_, specIsQuery_spec s q hs hq, .inl rfl, .inl ?_⟩
    conv => whnf
    rfl
theorem specIsRewriting_spec (x0 : List Int) (x1 : List QueryT) (x2 x3 : QueryT) (h0 : cSchema x0 ≤ 1048576) (h1 : cQueryS x1 ≤ 1048576) (h2 : cQuery x2 ≤ 1048576) (h3 : cQuery x3 ≤ 1048576) (q0 : qSchema x0) (q1 : qQueryS x1) (q2 : qQuery x2) (q3 : qQuery x3) : Spec Try.prog 28 [vSchema x0, vQueryS x1, vQuery x2, vQuery x3] (cb (pIsRewriting x0 x1 x2 x3)) := by
  refine Spec_of mx Γ_ok Try.func28 rfl ?_
  conv => whnf
  refine ⟨_, l17Fine_spec x0 x1 x2 h0 h1 h2 q0 q1, .inl rfl, .inl ?_⟩
  unfold pIsRewriting
  rw [← Bool.and_assoc]
  generalize hB : (pAreViews x0 x1 && isQuery x0 x2) = bB
  cases bB with
  | false =>
    conv => whnf
    rfl
  | true =>
  rw [Bool.and_eq_true] at hB
  obtain ⟨hA, hB⟩ := hB
  obtain ⟨f1, f2⟩ := isQuery_fine hB
  conv => whnf
  refine ⟨_, specUnfoldQuery_spec x0 x1 x3 h0 h1 h3 q0 q1, .inl rfl, .inl ?_⟩
  cases hu : pUnfO x0 x1 x3 with
  | none =>
    conv => whnf
    rfl
  | some y =>
    obtain ⟨g1, g2⟩ := pUnfO_fine hu
    have hy := pUnfO_bound hu
    simp only [wEq, roV, roVs, wQuery_ro]
    conv => whnf
    refine ⟨_, l17Both_spec y x2 (by omega) h2 g1 g2 f1 f2, .inl rfl, .inl ?_⟩
    rw [show pBoth (some y) x2 = ((mapP y x2).isSome && (mapP x2 y).isSome) from rfl]
    generalize (mapP y x2).isSome = b1
    generalize (mapP x2 y).isSome = b2
    cases b1 <;> cases b2
    all_goals
      conv => whnf
      rfl
theorem fits_spec (x0 : List Int) (x1 : List QueryT) (x2 x3 : QueryT) (h0 : cSchema x0 ≤ 1048576) (h1 : cQueryS x1 ≤ 1048576) (h2 : cQuery x2 ≤ 1048576) (h3 : cQuery x3 ≤ 1048576) (q0 : qSchema x0) (q1 : qQueryS x1) (f1 : fineT x2.1) (f2 : fineA x2.2) : Spec Try.prog 81 [vSchema x0, vQueryS x1, vQuery x2, vQuery x3] (cb (pBoth (pUnfO x0 x1 x3) x2)) := by
  refine Spec_of mx Γ_ok Try.func81 rfl ?_
  conv => whnf
  refine ⟨_, implUnfold_spec x0 x1 x3 h0 h1 h3 q0 q1, .inl rfl, .inl ?_⟩
  cases hu : pUnfO x0 x1 x3 with
  | none =>
    conv => whnf
    rfl
  | some y =>
    obtain ⟨g1, g2⟩ := pUnfO_fine hu
    have hy := pUnfO_bound hu
    simp only [wEq, roV, roVs, wQuery_ro]
    conv => whnf
    refine ⟨_, mapping_spec x2 y h2 (by omega) f1 f2, .inl rfl, .inl ?_⟩
    rw [show pBoth (some y) x2 = ((mapP x2 y).isSome && (mapP y x2).isSome) from Bool.and_comm _ _]
    generalize mapP x2 y = o1
    cases o1
    all_goals
      conv => whnf
      refine ⟨_, mapping_spec y x2 (by omega) h2 g1 g2, .inl rfl, .inl ?_⟩
      generalize mapP y x2 = o2
      cases o2
      all_goals
        conv => whnf
        rfl
theorem implIsRewriting_spec (x0 : List Int) (x1 : List QueryT) (x2 x3 : QueryT) (h0 : cSchema x0 ≤ 1048576) (h1 : cQueryS x1 ≤ 1048576) (h2 : cQuery x2 ≤ 1048576) (h3 : cQuery x3 ≤ 1048576) (q0 : qSchema x0) (q1 : qQueryS x1) (q2 : qQuery x2) (q3 : qQuery x3) : Spec Try.prog 29 [vSchema x0, vQueryS x1, vQuery x2, vQuery x3] (cb (pIsRewriting x0 x1 x2 x3)) := by
  refine Spec_of mx Γ_ok Try.func29 rfl ?_
  conv => whnf
  refine ⟨_, implAreViews_spec x0 x1 h0 h1 q0 q1, .inl rfl, .inl ?_⟩
  conv => whnf
  unfold pIsRewriting
  generalize hA : pAreViews x0 x1 = bA
  cases bA with
  | false =>
    conv => whnf
    rfl
  | true =>
  conv => whnf
  refine ⟨_, implIsQuery_spec x0 x2 h0 h2, .inl rfl, .inl ?_⟩
  conv => whnf
  generalize hB : isQuery x0 x2 = bB
  cases bB with
  | false =>
    conv => whnf
    rfl
  | true =>
  conv => whnf
  obtain ⟨f1, f2⟩ := isQuery_fine hB
  refine ⟨_, fits_spec x0 x1 x2 x3 h0 h1 h2 h3 q0 q1 f1 f2, .inl rfl, .inl ?_⟩
  conv => whnf
  rfl
end Go.Proofs.YtbnikloglnkddaaD
