/- What is asked of a type, read off the program. -/
import Derived.Test.YtiplgkbgkmomlaaD19
set_option linter.unusedVariables false
set_option linter.unusedSimpArgs false
namespace Go.Proofs.YtiplgkbgkmomlaaD
open Go

def tiOf (P : Program) (t : TypeId) : Option TI :=
  match P.info? t, P.underlying t with
  | some i, some d => match i.zero with
    | some z => bif z.cells.toList.all Value.oneCell' && Nat.beq z.cells.toList.length i.size then
        match d with
        | .struct fs => bif fs.toList.all fun f => match P.info? f.type with
            | some j => !(Nat.beq j.size 0)
            | none => false then some ⟨true, i.size, i.bytes, z.cells.toList, none, fs.toList.map (·.offset), fs.toList.map (fun f => P.cellsOf f.type), none, false, false⟩ else none
        | .array _ _ => some ⟨true, i.size, i.bytes, z.cells.toList, none, [], [], none, false, false⟩
        | .slice e => bif Nat.beq i.size 1 then some ⟨false, i.size, i.bytes, z.cells.toList, some e, [], [], none, false, false⟩ else none
        | .int k => bif Nat.beq i.size 1 then some ⟨false, i.size, i.bytes, z.cells.toList, none, [], [], some k, false, false⟩ else none
        | .string => bif Nat.beq i.size 1 then some ⟨false, i.size, i.bytes, z.cells.toList, none, [], [], none, true, false⟩ else none
        | .bool => bif Nat.beq i.size 1 then some ⟨false, i.size, i.bytes, z.cells.toList, none, [], [], none, false, true⟩ else none
        | .pointer _ | .func .. => bif Nat.beq i.size 1 then some ⟨false, i.size, i.bytes, z.cells.toList, none, [], [], none, false, false⟩ else none
        | _ => none
      else none
    | none => none
  | _, _ => none

theorem bif_some {α : Type} {b : Bool} {x : Option α} {y : α} (h : (bif b then x else none) = some y) : b = true ∧ x = some y := by cases b <;> simp_all
theorem tiOf_ok {P : Program} {t : TypeId} {ti : TI} (h : tiOf P t = some ti) : TIOk P t ti := by
  unfold tiOf at h
  split at h <;> try (cases h; done)
  rename_i i d hi hd
  split at h <;> try (cases h; done)
  rename_i z hz
  obtain ⟨hb, h⟩ := bif_some h
  simp only [Bool.and_eq_true] at hb
  have hl := Nat.eq_of_beq_eq_true hb.2
  have hone := List.all_eq_true.1 hb.1
  split at h <;> try (cases h; done)
  · rename_i fs
    obtain ⟨hf, h⟩ := bif_some h
    cases h
    refine ⟨⟨i, z, hi, rfl, rfl, hz, rfl⟩, hone, hl, fun h => (by cases h), _, hd, rfl, rfl, rfl, rfl, fun f hf' => ?_, rfl, rfl, rfl⟩
    have := List.all_eq_true.1 hf f hf'
    split at this
    · rename_i j hj
      refine ⟨j, hj, fun h0 => ?_⟩
      rw [h0] at this
      simp at this
    · cases this
  · cases h
    exact ⟨⟨i, z, hi, rfl, rfl, hz, rfl⟩, hone, hl, fun h => (by cases h), _, hd, rfl, rfl, rfl, rfl, rfl, rfl⟩
  all_goals
    obtain ⟨hs, h⟩ := bif_some h
    cases h
    exact ⟨⟨i, z, hi, rfl, rfl, hz, rfl⟩, hone, hl, fun _ => Nat.eq_of_beq_eq_true hs, _, hd, rfl, rfl, rfl, rfl, rfl, rfl⟩
def tabL : List (Nat × TI) → Tab
  | [], _ => none
  | (k, v) :: r, t => bif Nat.beq k t then some v else tabL r t
theorem tabL_ok {P : Program} : ∀ {l : List (Nat × TI)}, (∀ p ∈ l, tiOf P p.1 = some p.2) → TabOk P (tabL l)
  | [], _, t, ti, h => by cases h
  | (k, v) :: r, hl, t, ti, h => by
    simp only [tabL] at h
    cases hb : Nat.beq k t with
    | true =>
      rw [hb] at h
      cases h
      have hk := Nat.eq_of_beq_eq_true hb
      subst hk
      exact tiOf_ok (hl (k, v) (by simp))
    | false =>
      rw [hb] at h
      exact tabL_ok (fun p hp => hl p (by simp [hp])) t ti h
end Go.Proofs.YtiplgkbgkmomlaaD
