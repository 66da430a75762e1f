/- A chase by keys, in plain terms. -/
import Derived.Test.YthfjngmbdbocbaaGreatFChase0
import Derived.Test.YthfjngmbdbocbaaGreatFMap5
import Derived.Test.YthfjngmbdbocbaaGreatFFirstViolation2
import Derived.Test.YthfjngmbdbocbaaGreatFDedupeAtoms
import Derived.Test.YthfjngmbdbocbaaGreatFAreKeys
set_option linter.unusedVariables false
set_option linter.unusedSimpArgs false
set_option maxRecDepth 100000
namespace Go.Proofs.YthfjngmbdbocbaaGreatD
open Go Go.Proofs

def viol (q : QueryT) (ks : List FactK) : Option (Nat × Nat × Nat) := tripK q.2 ks (ran 0 ks.length)
def fdiff : List Int → List Int → Nat
  | x :: xs, y :: ys => if x == y then fdiff xs ys + 1 else 0
  | _, _ => 0
def tA (q : QueryT) (i j : Nat) : Int := (getF q.2 i).2.getD (fdiff (getF q.2 i).2 (getF q.2 j).2) 0
def tB (q : QueryT) (i j : Nat) : Int := (getF q.2 j).2.getD (fdiff (getF q.2 i).2 (getF q.2 j).2) 0
theorem tripJ_some {x0 x1 : List FactK} {k i : Nat} : ∀ {js : List Nat} {r : Nat × Nat × Nat}, tripJ x0 x1 k i js = some r → r.1 = k ∧ r.2.1 = i ∧ r.2.2 ∈ js ∧ violP (getF x1 k) (getF x0 i) (getF x0 r.2.2) = true
  | [], r, h => by cases h
  | j :: js, r, h => by
    simp only [tripJ] at h
    split at h
    · rename_i hv
      cases h
      exact ⟨rfl, rfl, by simp, hv⟩
    · obtain ⟨h1, h2, h3, h4⟩ := tripJ_some h
      exact ⟨h1, h2, by simp [h3], h4⟩
theorem tripI_some {x0 x1 : List FactK} {k : Nat} : ∀ {is : List Nat} {r : Nat × Nat × Nat}, tripI x0 x1 k is = some r → r.1 = k ∧ r.2.1 ∈ is ∧ r.2.2 ∈ ran (r.2.1 + 1) x0.length ∧ violP (getF x1 k) (getF x0 r.2.1) (getF x0 r.2.2) = true
  | [], r, h => by cases h
  | i :: is, r, h => by
    simp only [tripI] at h
    cases hj : tripJ x0 x1 k i (ran (i + 1) x0.length) with
    | some r' =>
      rw [hj] at h
      cases h
      obtain ⟨h1, h2, h3, h4⟩ := tripJ_some hj
      rw [← h2] at h3 h4
      exact ⟨h1, by rw [h2]; simp, h3, h4⟩
    | none =>
      rw [hj] at h
      obtain ⟨h1, h2, h3, h4⟩ := tripI_some (is := is) (by simpa using h)
      exact ⟨h1, by simp [h2], h3, h4⟩
theorem tripK_some {x0 x1 : List FactK} : ∀ {ks : List Nat} {r : Nat × Nat × Nat}, tripK x0 x1 ks = some r → r.1 ∈ ks ∧ r.2.1 ∈ ran 0 x0.length ∧ r.2.2 ∈ ran (r.2.1 + 1) x0.length ∧ violP (getF x1 r.1) (getF x0 r.2.1) (getF x0 r.2.2) = true
  | [], r, h => by cases h
  | k :: ks, r, h => by
    simp only [tripK] at h
    cases hj : tripI x0 x1 k (ran 0 x0.length) with
    | some r' =>
      rw [hj] at h
      cases h
      obtain ⟨h1, h2, h3, h4⟩ := tripI_some hj
      rw [← h1] at h4
      exact ⟨by rw [h1]; simp, h2, h3, h4⟩
    | none =>
      rw [hj] at h
      obtain ⟨h1, h2, h3, h4⟩ := tripK_some (ks := ks) (by simpa using h)
      exact ⟨by simp [h1], h2, h3, h4⟩
theorem ran_mem {k n i : Nat} : i ∈ ran k n ↔ k ≤ i ∧ i < n := by
  unfold ran
  rw [List.mem_range'_1]
  omega
theorem viol_some {q : QueryT} {ks : List FactK} {k i j : Nat} (h : viol q ks = some (k, i, j)) : k < ks.length ∧ i < j ∧ j < q.2.length ∧ (getF q.2 i).1 = (getF q.2 j).1 ∧ (getF q.2 i).2 ≠ (getF q.2 j).2 := by
  obtain ⟨h1, h2, h3, h4⟩ := tripK_some h
  simp only at h1 h2 h3 h4
  rw [ran_mem] at h1 h2 h3
  simp only [violP, Bool.and_eq_true, decide_eq_true_eq, Bool.not_eq_true', decide_eq_false_iff_not] at h4
  exact ⟨by omega, by omega, by omega, h4.1.trans h4.2.1.symm, h4.2.2.2⟩
theorem fdiff_ok : ∀ {xs ys : List Int}, xs.length = ys.length → xs ≠ ys → fdiff xs ys < xs.length ∧ xs.getD (fdiff xs ys) 0 ≠ ys.getD (fdiff xs ys) 0 ∧ ∀ r, r < fdiff xs ys → xs.getD r 0 = ys.getD r 0
  | [], [], _, h => absurd rfl h
  | [], _ :: _, h, _ => by simp at h
  | _ :: _, [], h, _ => by simp at h
  | x :: xs, y :: ys, hl, hne => by
    simp only [fdiff]
    split
    · rename_i he
      have he' : x = y := by simpa using he
      subst he'
      obtain ⟨h1, h2, h3⟩ := fdiff_ok (xs := xs) (ys := ys) (by simpa using hl) (fun h => hne (by rw [h]))
      refine ⟨by simp; exact h1, by simpa using h2, fun r hr => ?_⟩
      cases r with
      | zero => simp
      | succ r => simpa using h3 r (by omega)
    · rename_i he
      refine ⟨by simp, by simpa using he, fun r hr => absurd hr (Nat.not_lt_zero _)⟩
theorem getF_mem {q : QueryT} {i : Nat} (hi : i < q.2.length) : getF q.2 i ∈ q.2 := by
  rw [getF_at hi]
  exact List.getElem_mem hi
/-- What is known at a violation. -/
theorem viol_terms {q : QueryT} {ks : List FactK} {k i j : Nat} (hok : okA q.2) (h : viol q ks = some (k, i, j)) :
    (getF q.2 i).2.length = (getF q.2 j).2.length ∧ fdiff (getF q.2 i).2 (getF q.2 j).2 < (getF q.2 i).2.length ∧ tA q i j ≠ tB q i j ∧ occurs q (tA q i j) = true ∧ occurs q (tB q i j) = true ∧ tA q i j < 20 ∧ tB q i j < 20 := by
  obtain ⟨_, hij, hj, hrel, hne⟩ := viol_some h
  have hmi := getF_mem (q := q) (i := i) (by omega)
  have hmj := getF_mem (q := q) (i := j) hj
  have hl := hok.1 _ hmi _ hmj hrel
  obtain ⟨h1, h2, _⟩ := fdiff_ok hl hne
  have e1 : tA q i j ∈ (getF q.2 i).2 := by
    unfold tA
    rw [getD_int h1]
    exact List.getElem_mem h1
  have e2 : tB q i j ∈ (getF q.2 j).2 := by
    unfold tB
    rw [getD_int (by omega)]
    exact List.getElem_mem (by omega)
  exact ⟨hl, h1, h2, occurs_mem.2 ⟨_, hmi, e1⟩, occurs_mem.2 ⟨_, hmj, e2⟩, hok.2 _ hmi _ e1, hok.2 _ hmj _ e2⟩
def chz (ks : List FactK) : Nat → QueryT → Option QueryT
  | 0, _ => none
  | n + 1, q => match viol q ks with
    | none => some (pDedupeAtoms q)
    | some (_, i, j) => match eqP q (tA q i j) (tB q i j) with
      | none => none
      | some y => chz ks n y
theorem chz_any {ks : List FactK} : ∀ (n m : Nat) (q : QueryT), okA q.2 → mu q < n → mu q < m → chz ks n q = chz ks m q
  | 0, m, q, _, h, _ => absurd h (Nat.not_lt_zero _)
  | n + 1, 0, q, _, _, h => absurd h (Nat.not_lt_zero _)
  | n + 1, m + 1, q, hok, h1, h2 => by
    simp only [chz]
    cases hv : viol q ks with
    | none => rfl
    | some r =>
      obtain ⟨k, i, j⟩ := r
      obtain ⟨_, _, g3, g4, g5, g6, g7⟩ := viol_terms hok hv
      simp only
      cases he : eqP q (tA q i j) (tB q i j) with
      | none => rfl
      | some y =>
        have := (mu_eqP g3 g4 g5 he).1
        exact chz_any n m y (okA_eqP hok g6 g7 he) (by omega) (by omega)
def chZ (ks : List FactK) (q : QueryT) : Option QueryT := chz ks (mu q + 1) q
theorem chZ_end {ks : List FactK} {q : QueryT} (h : viol q ks = none) : chZ ks q = some (pDedupeAtoms q) := by
  simp only [chZ, chz, h]
theorem chZ_fail {ks : List FactK} {q : QueryT} {k i j : Nat} (h : viol q ks = some (k, i, j)) (he : eqP q (tA q i j) (tB q i j) = none) : chZ ks q = none := by
  simp only [chZ, chz, h, he]
theorem chZ_step {ks : List FactK} {q y : QueryT} {k i j : Nat} (hok : okA q.2) (h : viol q ks = some (k, i, j)) (he : eqP q (tA q i j) (tB q i j) = some y) : chZ ks q = chZ ks y := by
  obtain ⟨_, _, g3, g4, g5, g6, g7⟩ := viol_terms hok h
  have := (mu_eqP g3 g4 g5 he).1
  rw [show chZ ks q = chz ks (mu q) y from by simp only [chZ, chz, h, he]]
  exact chz_any _ _ y (okA_eqP hok g6 g7 he) (by omega) (by omega)
theorem isQuery_ok {s : List Int} {q : QueryT} (h : isQuery s q = true) : okA q.2 := by
  refine ⟨fun a ha b hb hab => ?_, (isQuery_fine h).2⟩
  simp only [isQuery, fineQ, Bool.and_eq_true, List.all_eq_true] at h
  obtain ⟨_, _, _, h2, _⟩ := h
  have e1 := h2 a ha
  have e2 := h2 b hb
  simp only [isAtom, takesS, Bool.and_eq_true, decide_eq_true_eq] at e1 e2
  have h3 := e1.1.2.2
  have h4 := e2.1.2.2
  rw [hab] at h3
  have : (a.2.length : Int) = b.2.length := h3.symm.trans h4
  omega
theorem rAtom_ro (x : AtomC) : roVs (rAtom x) = rAtom x := by simp only [rAtom, roVs, ints_ro, ci_ro]
theorem vQuery_ro' (q : QueryT) : roV (vQuery q) = vQuery q := by
  show V.agg [roV (ints q.1), roV (vAtomS q.2)] = _
  rw [ints_ro, show roV (vAtomS q.2) = vAtomS q.2 from congrArg (V.ro q.2.length) (roVs_rows rAtom_ro q.2)]
  rfl
theorem v3_mk (a b c : Int) : v3 (a, b, c) = .tup [ci a, ci b, ci c] := rfl
def wCh : Option QueryT → V
  | none => .tup [wQuery ([], []), cb false]
  | some y => .tup [wQuery y, cb true]
theorem dedup_mem {x : AtomC} : ∀ {xs acc : List AtomC}, x ∈ xs.foldl dedS acc → x ∈ xs ∨ x ∈ acc
  | [], acc, h => .inr h
  | y :: xs, acc, h => by
    rcases dedup_mem (xs := xs) h with h | h
    · exact .inl (by simp [h])
    · unfold dedS at h
      split at h
      · exact .inr h
      · simp only [List.mem_append, List.mem_singleton] at h
        rcases h with h | h
        · exact .inr h
        · exact .inl (by simp [h])
theorem chz_bound {ks : List FactK} : ∀ (n : Nat) {q y : QueryT}, okA q.2 → cQuery q ≤ 1048576 → chz ks n q = some y → cQuery y ≤ 1048576 ∧ okA y.2
  | 0, q, y, _, _, h => by cases h
  | n + 1, q, y, hok, hq, h => by
    simp only [chz] at h
    cases hv : viol q ks with
    | none =>
      rw [hv] at h
      cases h
      refine ⟨?_, ?_⟩
      · have h1 := dedup_bound cAtom q.2
        unfold cQuery cAtomS at *
        simp only [pDedupeAtoms]
        omega
      · refine ⟨fun a ha b hb => hok.1 a ?_ b ?_, fun a ha => hok.2 a ?_⟩
        all_goals
          first
          | exact (dedup_mem ha).resolve_right (by simp)
          | exact (dedup_mem hb).resolve_right (by simp)
    | some r =>
      obtain ⟨k, i, j⟩ := r
      obtain ⟨_, _, g3, g4, g5, g6, g7⟩ := viol_terms hok hv
      rw [hv] at h
      simp only at h
      cases he : eqP q (tA q i j) (tB q i j) with
      | none => rw [he] at h; cases h
      | some z =>
        rw [he] at h
        exact chz_bound n (okA_eqP hok g6 g7 he) (by rw [(mu_eqP g3 g4 g5 he).2]; exact hq) h
theorem chZ_bound {ks : List FactK} {q y : QueryT} (hok : okA q.2) (hq : cQuery q ≤ 1048576) (h : chZ ks q = some y) : cQuery y ≤ 1048576 ∧ okA y.2 := chz_bound _ hok hq h
end Go.Proofs.YthfjngmbdbocbaaGreatD
