/- The search for a mapping: the first program. -/
import Derived.Test.YthfjngmbdbocbaaFMap1
set_option linter.unusedVariables false
set_option linter.unusedSimpArgs false
set_option maxRecDepth 100000
namespace Go.Proofs.YthfjngmbdbocbaaD
open Go Go.Proofs

def stepM (a b : AtomC) (m : List Int) : Option (List Int) :=
  if a.1 != b.1 then none else if (a.2.length : Int) != b.2.length then none else if (uniK m a.2 b.2 a.2.length).2 then some (uniK m a.2 b.2 a.2.length).1 else none
def srch (ts : List AtomC) : List AtomC → List Int → Option (List Int)
  | [], m => some m
  | a :: fs, m => ts.findSome? fun b => (stepM a b m).bind fun x => srch ts fs x
theorem srch_drop {ts fs : List AtomC} {i : Nat} (hi : i < fs.length) (m : List Int) : srch ts (fs.drop i) m = ts.findSome? fun b => (stepM fs[i] b m).bind fun x => srch ts (fs.drop (i + 1)) x := by
  rw [List.drop_eq_getElem_cons hi]
  rfl
theorem first_take {α β : Type} {f : α → Option β} {ts : List α} {k : Nat} (hk : k < ts.length) (h : (ts.take k).findSome? f = none) : (ts.take (k + 1)).findSome? f = f ts[k] := by
  rw [List.take_succ_eq_append_getElem hk, List.findSome?_append, h]
  simp [List.findSome?]
  cases f ts[k] <;> rfl
theorem first_some {α β : Type} {f : α → Option β} {ts : List α} {k : Nat} {y : β} (h : (ts.take k).findSome? f = some y) : ts.findSome? f = some y := by
  have : ts = ts.take k ++ ts.drop k := (List.take_append_drop k ts).symm
  rw [this, List.findSome?_append, h]
  rfl
def fineA (fs : List AtomC) : Prop := ∀ a ∈ fs, fineT a.2
def wS (m : List Int) : Option (List Int) → V
  | some y => .tup [ints y, cb true]
  | none => .tup [ints m, cb false]
theorem ints_ro (xs : List Int) : roV (ints xs) = ints xs := by
  show V.ro _ (roVs (rows ciL xs)) = _
  rw [roVs_ci]
  rfl
theorem srch_len {ts : List AtomC} : ∀ {fs : List AtomC} {m y : List Int}, srch ts fs m = some y → y.length = m.length
  | [], m, y, h => by simp only [srch, Option.some.injEq] at h; rw [h]
  | a :: fs, m, y, h => by
    simp only [srch] at h
    obtain ⟨b, _, h⟩ := List.exists_of_findSome?_eq_some h
    cases hs : stepM a b m with
    | none => rw [hs] at h; cases h
    | some x =>
      rw [hs] at h
      rw [srch_len (m := x) h]
      unfold stepM at hs
      split at hs
      · cases hs
      · split at hs
        · cases hs
        · split at hs
          · cases hs
            exact uniK_len _ _ _ _
          · cases hs
set_option maxHeartbeats 8000000 in
theorem l7Search_spec (f t : QueryT) (hf : cQuery f ≤ 1048576) (ht : cQuery t ≤ 1048576) (hfa : fineA f.2) : ∀ (n i : Nat) (m : List Int), i + n = f.2.length → m.length = 20 → Spec Try.prog 155 [vQuery f, vQuery t, ci i, ints m] (wS m (srch t.2 (f.2.drop i) m)) := by
  have hf' := hf
  have ht' := ht
  unfold cQuery cAtomS at hf' ht'
  intro n
  induction n with
  | zero =>
    intro i m hi hm
    obtain rfl : i = f.2.length := by omega
    rw [List.drop_of_length_le (Nat.le_refl _)]
    refine Spec_of mx Γ_ok Try.func155 rfl ?_
    conv => whnf
    rw [beq_self_eq_true]
    conv => whnf
    rfl
  | succ n ih =>
    intro i m hi hm
    have hil : i < f.2.length := by omega
    have hb1 := sumB_one (f := cAtom) hil
    have hcb1 : cAtom f.2[i] = f.2[i].2.length := rfl
    have hfi : fineT f.2[i].2 := hfa _ (List.getElem_mem hil)
    rw [srch_drop hil]
    generalize ha : f.2[i] = a at hb1 hcb1 hfi
    refine Spec_of mx Γ_ok Try.func155 rfl ?_
    conv => whnf
    rw [show ((i : Int) == (f.2.length : Int)) = false from by simp; omega]
    conv => whnf
    refine ⟨by omega, rows_len rAtom_len _, ?_⟩
    conv => whnf
    refine ⟨_, takeN_rp (k := i) rAtom_len hil, ?_⟩
    rw [ha]
    conv => whnf
    refine ⟨[(2,0),(3,0),(4,0),(5,0),(8,0),(9,0),(10,0),(11,0)], fun j s => ∃ (k : Nat) (e : Int), e = k ∧ j + k = t.2.length ∧ ((t.2.take k).findSome? fun b => (stepM a b m).bind fun x => srch t.2 (f.2.drop (i + 1)) x) = none ∧
      s = ⟨77, [(2, ci i), (3, ints m), (4, .ptr 0 0), (5, .ptr 1 0), (8, cnil), (9, cb false), (10, .ptr 2 0), (11, ci e)], [some ⟨true, rQuery f⟩, some ⟨true, rQuery t⟩, some ⟨true, rAtom a⟩]⟩, t.2.length, ⟨0, 0, rfl, rfl, rfl, rfl⟩, ?_⟩
    rintro j s ⟨k, _, rfl, hj, hnone, rfl⟩
    conv => whnf
    split <;> rename_i h3
    all_goals simp only [decide_eq_true_eq, decide_eq_false_iff_not] at h3
    · conv => whnf
      have hk : k < t.2.length := by omega
      have hb2 := sumB_one (f := cAtom) hk
      have hcb2 : cAtom t.2[k] = t.2[k].2.length := rfl
      have hnx := first_take hk hnone
      generalize hbb : t.2[k] = b at hb2 hcb2 hnx
      refine ⟨by omega, rows_len rAtom_len _, ?_⟩
      conv => whnf
      refine ⟨_, takeN_rp (k := k) rAtom_len hk, ?_⟩
      rw [hbb]
      conv => whnf
      have hskip : stepM a b m = none → ∃ m', m' < j ∧ ∃ (k' : Nat) (e : Int), e = k' ∧ m' + k' = t.2.length ∧ ((t.2.take k').findSome? fun b => (stepM a b m).bind fun x => srch t.2 (f.2.drop (i + 1)) x) = none ∧ (⟨77, [(2, ci i), (3, ints m), (4, .ptr 0 0), (5, .ptr 1 0), (8, cnil), (9, cb false), (10, .ptr 2 0), (11, ci (IntKind.i64.wrap ((k : Int) + 1)))], [some ⟨true, rQuery f⟩, some ⟨true, rQuery t⟩, some ⟨true, rAtom a⟩]⟩ : St) = ⟨77, [(2, ci i), (3, ints m), (4, .ptr 0 0), (5, .ptr 1 0), (8, cnil), (9, cb false), (10, .ptr 2 0), (11, ci e)], [some ⟨true, rQuery f⟩, some ⟨true, rQuery t⟩, some ⟨true, rAtom a⟩]⟩ := by
        intro hs
        rw [hs] at hnx
        exact ⟨j - 1, by omega, k + 1, _, wrap_id (by omega) (by omega), by omega, hnx, rfl⟩
      generalize hb3 : (a.1 != b.1) = b3
      cases b3 with
      | true =>
        conv => whnf
        exact hskip (by rw [stepM, hb3]; rfl)
      | false =>
      conv => whnf
      generalize hb4 : ((a.2.length : Int) != (b.2.length : Int)) = b4
      cases b4 with
      | true =>
        conv => whnf
        exact hskip (by rw [stepM, hb3, hb4]; rfl)
      | false =>
      conv => whnf
      have hlen : a.2.length = b.2.length := by
        have h9 : (a.2.length : Int) = b.2.length := (by simpa using hb4)
        omega
      refine ⟨_, l7Unify_spec a.2 b.2 m hm hlen (by omega) hfi, .inl rfl, .inl ?_⟩
      generalize hu : uniK m a.2 b.2 a.2.length = r
      have hul : r.1.length = 20 := by rw [← hu, uniK_len, hm]
      obtain ⟨x, ok⟩ := r
      have hst : stepM a b m = if ok then some x else none := by rw [stepM, hb3, hb4, hu]; rfl
      simp only [roV, roVs, intsT_ro, ci_ro]
      cases ok with
      | false =>
        conv => whnf
        exact hskip (by rw [hst]; rfl)
      | true =>
      conv => whnf
      rw [show IntKind.i64.wrap ((i : Int) + 1) = ((i + 1 : Nat) : Int) from wrap_id (by omega) (by omega)]
      refine ⟨_, ih (i + 1) x (by omega) hul, .inl rfl, .inl ?_⟩
      rw [hst, if_pos rfl] at hnx
      simp only [Option.bind_some] at hnx
      generalize srch t.2 (f.2.drop (i + 1)) x = o at hnx
      cases o with
      | some y =>
        simp only [wS, roV, roVs, ints_ro, ci_ro]
        conv => whnf
        rw [first_some hnx]
        rfl
      | none =>
        simp only [wS, roV, roVs, ints_ro, ci_ro]
        conv => whnf
        exact ⟨j - 1, by omega, k + 1, _, wrap_id (by omega) (by omega), by omega, hnx, rfl⟩
    · conv => whnf
      have hkk : k = t.2.length := by omega
      rw [hkk, List.take_length] at hnone
      rw [hnone]
      rfl
end Go.Proofs.YthfjngmbdbocbaaD
