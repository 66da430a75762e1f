/- Statement FnExactCounterExample: for every input that the row lets in, the call of the law FnExactCounterExample returns true and its arguments read afterwards as before; no condition. -/
import Derived.Test.YtbnikloglnkddaaRows
import Derived.Test.YtbnikloglnkddaaD22
import Derived.Test.YtbnikloglnkddaaFLawCounterExample
import Derived.WalkKit
import Derived.ProofKit
import Derived.OpenShut
import Derived.ShutString
import Derived.ChangeOld
import Derived.Below
import Derived.SizedLaws
namespace Go.Proofs.Ytbnikloglnkddaa.rowFnExactCounterExample
open Go.ChangeShapes Go.WideShapes Go.ChangeAt Go.RowKit Go.Proofs.YtbnikloglnkddaaD
set_option linter.unusedVariables false
set_option linter.unusedSimpArgs false
theorem own : ownKnob Try.prog.godebug = none := by kernel_rfl
theorem laidOut : laidOutB Try.prog = true := by kernel_rfl
set_option maxRecDepth 100000 in
theorem lifted (os : Os) (started : os.Started) (H : Type) (enc : TypeId × Value → H) :
    ReturnsInHanded {} Try.checked os 9 .any (Rows.fnExactCounterExampleSpec.pre6 enc Try.prog Try.f9 Rows.fnExactCounterExampleRow.domain false) (Rows.fnExactCounterExampleSpec.post enc Try.prog Try.f9 false true false false) := by
  refine returnsInHanded_of_change_sized (C := Try.checked) own started (by kernel_rfl) Try.func9
    (ChangeSpec.witness6 (enc := enc) (C := Try.checked) false ⟨#[], #[.agg #[.slice none 0 0], .agg #[.slice none 0 0, .slice none 0 0], .agg #[.slice none 0 0, .slice none 0 0]], []⟩ 8 (by kernel_rfl) (by kernel_rfl) (by kernel_rfl) (by kernel_rfl)) ?_
  intro W base args ds gs before hval0 hW hcnd hsz0 _
  have hval : ∀ (j : Nat) t v, Try.f9.params[j]? = some t → args[j]? = some v → Value.okWide Try.prog W .any base t v := hval0
  have hW' := hW
  obtain ⟨p, q, hA0, hV, rfl, hfz, hnd⟩ := hW
  have hA : DataW.TrodAll enc Try.prog W 0 (fun _ => true) true Try.f9.params.toList args.toList ds p := hA0
  rw [Try.params9] at hA hval
  obtain ⟨v0, vs0, d0, ds0, p0, q0, hargs, rfl, rfl, h0, r0⟩ := trodAll_cons hA
  obtain ⟨v1, vs1, d1, ds1, p1, q1, rfl, rfl, rfl, h1, r1⟩ := trodAll_cons r0
  obtain ⟨v2, vs2, d2, ds2, p2, q2, rfl, rfl, rfl, h2, r2⟩ := trodAll_cons r1
  obtain ⟨rfl, rfl, rfl⟩ := trodAll_nil r2
  obtain rfl : args = #[v0, v1, v2] := by cases args; simp_all
  obtain ⟨rfl, rfl⟩ := trodVars_none hV
  have lt0 : ∀ x ∈ p0, x.block < W.heap.size := by obtain ⟨m, hm⟩ := h0; exact DataW.trod_lt m _ _ _ hm
  obtain ⟨cs0, rfl, _⟩ := okWide_struct Try.underlying24 (hval 0 24 v0 rfl rfl)
  obtain ⟨x0, hv0, hq0⟩ := Opens.agg_in (opens_struct1 Try.underlying24 (by kernel_rfl) rfl (opens_slice (sz := 1) Try.underlying22 (by kernel_rfl) (fun _ => rfl) (opens_int Try.underlying3))) h0
  have lt1 : ∀ x ∈ p1, x.block < W.heap.size := by obtain ⟨m, hm⟩ := h1; exact DataW.trod_lt m _ _ _ hm
  obtain ⟨cs1, rfl, _⟩ := okWide_struct Try.underlying28 (hval 1 28 v1 rfl rfl)
  obtain ⟨x1, hv1, hq1⟩ := Opens.agg_in (opens_struct2 Try.underlying28 rfl (by kernel_rfl) (by kernel_rfl) (opens_slice (sz := 1) Try.underlying22 (by kernel_rfl) (fun _ => rfl) (opens_int Try.underlying3)) (opens_slice (sz := 2) Try.underlying26 (by kernel_rfl) (fun _ => rfl) (opens_struct2 Try.underlying134 rfl (by kernel_rfl) (by kernel_rfl) (opens_int Try.underlying3) (opens_slice (sz := 1) Try.underlying22 (by kernel_rfl) (fun _ => rfl) (opens_int Try.underlying3))))) h1
  have lt2 : ∀ x ∈ p2, x.block < W.heap.size := by obtain ⟨m, hm⟩ := h2; exact DataW.trod_lt m _ _ _ hm
  obtain ⟨cs2, rfl, _⟩ := okWide_struct Try.underlying28 (hval 2 28 v2 rfl rfl)
  obtain ⟨x2, hv2, hq2⟩ := Opens.agg_in (opens_struct2 Try.underlying28 rfl (by kernel_rfl) (by kernel_rfl) (opens_slice (sz := 1) Try.underlying22 (by kernel_rfl) (fun _ => rfl) (opens_int Try.underlying3)) (opens_slice (sz := 2) Try.underlying26 (by kernel_rfl) (fun _ => rfl) (opens_struct2 Try.underlying134 rfl (by kernel_rfl) (by kernel_rfl) (opens_int Try.underlying3) (opens_slice (sz := 1) Try.underlying22 (by kernel_rfl) (fun _ => rfl) (opens_int Try.underlying3))))) h2
  refine (law_calls (law_CounterExample x0 x1 x2 hq0 hq1 hq2) (xs := [_, _, _]) ⟨hv0, hv1, hv2, trivial⟩).mono fun e W' ⟨he, bel⟩ => ?_
  subst he
  exact ⟨_, rfl, _, _, _, [], _, [], hW', trodAll_mk1 (shut_bool Try.underlying4 _), (trodAll_cons_mk (Below.trod laidOut (by kernel_rfl) (of_decide_eq_true (by kernel_rfl)) h0 bel lt0) (trodAll_cons_mk (Below.trod laidOut (by kernel_rfl) (of_decide_eq_true (by kernel_rfl)) h1 bel lt1) (trodAll_cons_mk (Below.trod laidOut (by kernel_rfl) (of_decide_eq_true (by kernel_rfl)) h2 bel lt2) trodAll_mk0))), rfl, bel.frame _, fun h => by cases h⟩
theorem over : Rows.fnExactCounterExampleRow.holds Try.pinned (OpenSpec.ofChange Rows.fnExactCounterExampleSpec) :=
  OpenClaim.holds_of_wide 9 Try.f9 rfl rfl rfl rfl rfl rfl rfl ⟨rfl, rfl, rfl, rfl, rfl⟩ rfl rfl rfl rfl rfl (by kernel_rfl) Try.func9 (by kernel_rfl)
    (of_decide_eq_true (by kernel_rfl)) (by unfold Func.isWrapper; first | (rw [if_pos (by decide +kernel)]; kernel_rfl) | (rw [if_neg (by decide +kernel)]; exact ⟨rfl, rfl⟩))
    (fun os started H enc _ => lifted os started H enc)
#print axioms over
end Go.Proofs.Ytbnikloglnkddaa.rowFnExactCounterExample
namespace Go.Proofs.Ytbnikloglnkddaa
/-- The given statement. -/
theorem fnExactCounterExample_holds : Rows.FnExactCounterExampleSaid := rowFnExactCounterExample.over
end Go.Proofs.Ytbnikloglnkddaa
