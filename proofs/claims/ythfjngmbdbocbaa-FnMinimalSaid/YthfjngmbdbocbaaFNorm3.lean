/- Normal forms: the laws NormalForm, IsIsomorphic. -/
import Derived.Test.YthfjngmbdbocbaaFNorm2
import Derived.Test.YthfjngmbdbocbaaFDedupeAtoms2
set_option linter.unusedVariables false
set_option linter.unusedSimpArgs false
set_option maxRecDepth 100000
namespace Go.Proofs.YthfjngmbdbocbaaD
open Go Go.Proofs

theorem unused_none : ∀ (l : List AtomC), unused l (List.replicate l.length false) = l
  | [] => rfl
  | a :: l => by
    show unused (a :: l) (false :: List.replicate l.length false) = _
    simp only [unused, Bool.false_eq_true, if_false, unused_none l]
theorem start_some (q : QueryC) : ∃ z, tryU q q.2.length (List.replicate q.2.length false) [] none = some z ∧ normQ q = z := by
  have h := tryU_ok q q.2.length (List.replicate q.2.length false) [] none (by simp) (by rw [unused_none])
  rw [unused_none] at h
  have h2 := tryQ_start q.1 q.2.length [] q.2 rfl
  rw [List.nil_append] at h2
  obtain ⟨z, hz⟩ := tryQ_keeps q.1 q.2.length [] q.2 (nmQ (q.1, q.2))
  refine ⟨z, by rw [h, h2, hz], ?_⟩
  unfold normQ
  rw [h2, hz]
  rfl
theorem tryQ_size (h : List Int) (B : Nat) : ∀ (n : Nat) (body left : List AtomC) (o : Option QueryC), left.length = n → sizeQ h body left ≤ B → (∀ y, o = some y → cQuery y ≤ B) → ∀ y, tryQ h n body left o = some y → cQuery y ≤ B
  | 0, body, left, o, hl, hs, ho, y, hy => by
    have hle : left = [] := List.length_eq_zero_iff.1 hl
    subst hle
    have hx : cQuery (nmQ (h, body)) ≤ B := by
      rw [nmQ_size]
      unfold sizeQ at hs
      show h.length + (body.length + sumB cAtom body) ≤ _
      omega
    cases o with
    | none =>
      have : some (nmQ (h, body)) = some y := hy
      cases this; exact hx
    | some b =>
      simp only [tryQ, betterQ] at hy
      split at hy
      · cases hy; exact hx
      · cases hy; exact ho _ rfl
  | n + 1, body, left, o, hl, hs, ho, y, hy => by
    simp only [tryQ] at hy
    have key : ∀ (l : List Nat) (o : Option QueryC), (∀ i ∈ l, i < left.length) → (∀ y, o = some y → cQuery y ≤ B) → ∀ y, l.foldl (fun o i => tryQ h n (body ++ [left.getD i (0, [])]) (left.eraseIdx i) o) o = some y → cQuery y ≤ B := by
      intro l
      induction l with
      | nil => intro o _ ho y hy; exact ho y hy
      | cons i l ih =>
        intro o hi ho y hy
        rw [List.foldl_cons] at hy
        have hil := hi i (by simp)
        refine ih _ (fun j hj => hi j (by simp [hj])) (fun z hz => ?_) y hy
        rw [show left.getD i (0, []) = left[i] from by simp [List.getD_eq_getElem?_getD, hil]] at hz
        exact tryQ_size h B n _ _ o (by rw [List.length_eraseIdx_of_lt hil]; omega) (by rw [sizeQ_step h body left hil]; exact hs) ho z hz
    exact key _ o (fun i hi => List.mem_range.1 hi) ho y hy
theorem normQ_size {q : QueryC} (hq : cQuery q ≤ 1048576) : cQuery (normQ q) ≤ 1048576 := by
  have h2 := tryQ_start q.1 q.2.length [] q.2 rfl
  rw [List.nil_append] at h2
  obtain ⟨z, hz⟩ := tryQ_keeps q.1 q.2.length [] q.2 (nmQ (q.1, q.2))
  have e : normQ q = z := by unfold normQ; rw [h2, hz]; rfl
  rw [e]
  refine tryQ_size q.1 1048576 q.2.length [] q.2 _ rfl ?_ (fun y hy => ?_) z hz
  · unfold sizeQ; unfold cQuery cAtomS at hq; simp [sumB]; omega
  · cases hy; rw [nmQ_size]; exact hq
set_option maxHeartbeats 4000000 in
theorem specNormalForm_spec (s : List Int) (q : QueryC) (hs : cSchema s ≤ 1048576) (hq : cQuery q ≤ 1048576) : Spec Try.prog 47 [vSchema s, vQuery q] (.tup [wQuery (if isQuery s q then normQ q else ([], [])), cb (isQuery s q)]) := by
  refine Spec_of mx Γ_ok Try.func47 rfl ?_
  conv => whnf
  refine ⟨_, specIsQuery_spec s q hs hq, .inl rfl, .inl ?_⟩
  conv => whnf
  generalize hb1 : isQuery s q = b1
  cases b1 with
  | false =>
    conv => whnf
    exact .inr ⟨1, .inr ⟨2, rfl⟩⟩
  | true =>
    have hfew := isQuery_few hb1
    have hql := hfew.2.1
    obtain ⟨z, hz, hzn⟩ := start_some q
    rw [hzn]
    conv => whnf
    refine ⟨[1002, 0, 1, 2, 3, 5, 6, 7, 4], by kernel_rfl, ?_⟩
    conv => whnf
    refine ⟨by omega, _, repl_rows (f := bL) (d := false) rfl _, ?_⟩
    conv => whnf
    refine .inr (.inr ⟨[3, 4], [5], ?_⟩)
    conv => whnf
    refine ⟨_, _, takeN_all (by rw [rows_len bL_len, List.length_replicate]; rfl), roVs_bL _, ?_⟩
    conv => whnf
    refine .inr ?_
    conv => whnf
    have hsp := (ord_all q hfew q.2.length).1 (List.replicate q.2.length false) [] (by simp) (by simp) (fun a ha => by cases ha)
    unfold vBools at hsp
    rw [List.length_replicate] at hsp
    refine ⟨_, hsp, fun r g2 hP => ?_⟩
    rw [hz] at hP
    obtain ⟨rfl, ⟨h1, _⟩ | ⟨z', h1, h2, rfl⟩⟩ := hP
    · cases h1
    · cases h1
      refine .inl ?_
      conv => whnf
      refine ⟨by rw [rows_len ciL_len], by rw [rows_len tAtom_len], rfl⟩
end Go.Proofs.YthfjngmbdbocbaaD
