/- Statement FnBags: for every input that the row lets in, the law's call returns true and its arguments read afterwards as before; no condition. -/
import Derived.Test.YtboolngaahifdaaGreatRows
import Derived.Test.YtboolngaahifdaaGreatQ8
import Derived.Test.YtboolngaahifdaaGreatQ42
import Derived.WalkKit
import Derived.ProofKit
import Derived.OpenShut
import Derived.ShutString
import Derived.ChangeOld
import Derived.Below
import Derived.SizedLaws
namespace Go.Proofs.YtboolngaahifdaaGreat.rowFnBags
open Go.ChangeShapes Go.WideShapes Go.ChangeAt Go.RowKit Go.Proofs.YtboolngaahifdaaGreatD
set_option linter.unusedVariables false
set_option linter.unusedSimpArgs false
theorem own : ownKnob Tryz.prog.godebug = none := by kernel_rfl
theorem laidOut : laidOutB Tryz.prog = true := by kernel_rfl
set_option maxRecDepth 100000 in
theorem lifted (os : Os) (started : os.Started) (H : Type) (enc : TypeId × Value → H) :
    ReturnsInHanded {} Tryz.checked os 6 .any (Rows.fnBagsSpec.pre6 enc Tryz.prog Tryz.f6 Rows.fnBagsRow.domain false) (Rows.fnBagsSpec.post enc Tryz.prog Tryz.f6 false true false false) := by
  refine returnsInHanded_of_change_sized (C := Tryz.checked) own started (by kernel_rfl) Tryz.func6
    (ChangeSpec.witness6 (enc := enc) (C := Tryz.checked) false ⟨#[], #[.slice none 0 0], []⟩ 8 (by kernel_rfl) (by kernel_rfl) (by kernel_rfl) (by kernel_rfl)) ?_
  intro W base args ds gs before hval0 hW hcnd hsz0 _
  have hval : ∀ (j : Nat) t v, Tryz.f6.params[j]? = some t → args[j]? = some v → Value.okWide Tryz.prog W .any base t v := hval0
  have hW' := hW
  obtain ⟨p, q, hA0, hV, rfl, hfz, hnd⟩ := hW
  have hA : DataW.TrodAll enc Tryz.prog W 0 (fun _ => true) true Tryz.f6.params.toList args.toList ds p := hA0
  rw [Tryz.params6] at hA hval
  obtain ⟨v0, vs0, d0, ds0, p0, q0, hargs, rfl, rfl, h0, r0⟩ := trodAll_cons hA
  obtain ⟨rfl, rfl, rfl⟩ := trodAll_nil r0
  obtain rfl : args = #[v0] := by cases args; simp_all
  obtain ⟨rfl, rfl⟩ := trodVars_none hV
  have lt0 : ∀ x ∈ p0, x.block < W.heap.size := by obtain ⟨m, hm⟩ := h0; exact DataW.trod_lt m _ _ _ hm
  obtain ⟨a0, len0, cap0, rfl⟩ := okWide_slice Tryz.underlying22 (hval 0 22 v0 rfl rfl)
  obtain ⟨x0, hv0, hq0⟩ := Opens.cell_in (OD (sz := 1) Tryz.underlying22 (by kernel_rfl) (fun _ => rfl) (V6 Tryz.underlying5)) h0 rfl
  refine (US (Q9 x0 hq0) (xs := [_]) ⟨hv0, trivial⟩).mono fun e W' ⟨he, bel⟩ => ?_
  subst he
  exact ⟨_, rfl, _, _, _, [], _, [], hW', trodAll_mk1 (shut_bool Tryz.underlying4 _), (trodAll_cons_mk (Below.trod laidOut (by kernel_rfl) (of_decide_eq_true (by kernel_rfl)) h0 bel lt0) trodAll_mk0), rfl, bel.frame _, fun h => by cases h⟩
def fact0 (P : Program) (f : FuncId) (fn : Func) (s : ChangeSpec) (c : OpenClaim) : Bool := c.wf (OpenSpec.ofChange s)
def fact1 (P : Program) (f : FuncId) (fn : Func) (s : ChangeSpec) (c : OpenClaim) : Bool := laidOutB P
def fact2 (P : Program) (f : FuncId) (fn : Func) (s : ChangeSpec) (c : OpenClaim) : Bool := mapsRowed P
def fact3 (P : Program) (f : FuncId) (fn : Func) (s : ChangeSpec) (c : OpenClaim) : Bool := fn.params.all (P.readableRec ·)
def fact4 (P : Program) (f : FuncId) (fn : Func) (s : ChangeSpec) (c : OpenClaim) : Bool := namedTie P c.named s.vars
def fact5 (P : Program) (f : FuncId) (fn : Func) (s : ChangeSpec) (c : OpenClaim) : Bool := (c.stops == [])
def fact6 (P : Program) (f : FuncId) (fn : Func) (s : ChangeSpec) (c : OpenClaim) : Bool := (P.stops == [])
def fact7 (P : Program) (f : FuncId) (fn : Func) (s : ChangeSpec) (c : OpenClaim) : Bool := (c.knobs == [])
def fact8 (P : Program) (f : FuncId) (fn : Func) (s : ChangeSpec) (c : OpenClaim) : Bool := (P.stopKnobs == [])
def fact9 (P : Program) (f : FuncId) (fn : Func) (s : ChangeSpec) (c : OpenClaim) : Bool := (c.inPlace == P.inPlace f)
def fact10 (P : Program) (f : FuncId) (fn : Func) (s : ChangeSpec) (c : OpenClaim) : Bool := (c.unfollowed == P.unfollowed f)
def fact11 (P : Program) (f : FuncId) (fn : Func) (s : ChangeSpec) (c : OpenClaim) : Bool := (c.recurses == P.recurses f)
def fact12 (P : Program) (f : FuncId) (fn : Func) (s : ChangeSpec) (c : OpenClaim) : Bool := (c.named == P.varsNamed f)
def fact13 (P : Program) (f : FuncId) (fn : Func) (s : ChangeSpec) (c : OpenClaim) : Bool := (c.maps == (fn.params.toList ++ s.plain.varTypes P).any (P.mapsRec ·))
def fact14 (P : Program) (f : FuncId) (fn : Func) (s : ChangeSpec) (c : OpenClaim) : Bool := (c.ifaces == (fn.params.toList ++ s.plain.varTypes P).any (P.ifacesRec ·))
def fact15 (P : Program) (f : FuncId) (fn : Func) (s : ChangeSpec) (c : OpenClaim) : Bool := (c.mapsOut == P.mapsAmong fn.resultTypes.toList)
def fact16 (P : Program) (f : FuncId) (fn : Func) (s : ChangeSpec) (c : OpenClaim) : Bool := (c.loops == (fn.params.toList ++ s.plain.varTypes P).any (P.loopsFrom ·))
def fact17 (P : Program) (f : FuncId) (fn : Func) (s : ChangeSpec) (c : OpenClaim) : Bool := (c.wideKeys == (fn.params.toList ++ s.plain.varTypes P ++ fn.resultTypes.toList).any (P.wideKeysFrom ·))
def fact18 (P : Program) (f : FuncId) (fn : Func) (s : ChangeSpec) (c : OpenClaim) : Bool := s.vars.all (P.varReadable ·)
def fact19 (P : Program) (f : FuncId) (fn : Func) (s : ChangeSpec) (c : OpenClaim) : Bool := fn.resultTypes.all (fun t => P.readableRec t && decide (t < P.types.size))
def fact20 (P : Program) (f : FuncId) (fn : Func) (s : ChangeSpec) (c : OpenClaim) : Bool := (c.ifacesOut == fn.resultTypes.toList.any (P.ifacesRec ·))
def fact21 (P : Program) (f : FuncId) (fn : Func) (s : ChangeSpec) (c : OpenClaim) : Bool := (c.loopsOut == fn.resultTypes.toList.any (P.loopsFrom ·))
def fact22 (P : Program) (f : FuncId) (fn : Func) (s : ChangeSpec) (c : OpenClaim) : Bool := (c.plainKeys == P.plainKeys)
def fact23 (P : Program) (f : FuncId) (fn : Func) (s : ChangeSpec) (c : OpenClaim) : Bool := c.shortTexts.isNone
def fact24 (P : Program) (f : FuncId) (fn : Func) (s : ChangeSpec) (c : OpenClaim) : Bool := P.stopsHeard
def fact25 (P : Program) (f : FuncId) (fn : Func) (s : ChangeSpec) (c : OpenClaim) : Bool := P.mayEnter
def fact26 (P : Program) (f : FuncId) (fn : Func) (s : ChangeSpec) (c : OpenClaim) : Bool := (c.lifted == P.liftsFinal)
def fact27 (P : Program) (f : FuncId) (fn : Func) (s : ChangeSpec) (c : OpenClaim) : Bool := (P.make == some c.make)
def fact28 (P : Program) (f : FuncId) (fn : Func) (s : ChangeSpec) (c : OpenClaim) : Bool := (c.kinds == (if c.domain.isEmpty then [] else fn.params.toList.map fun t => match P.underlying t with | some (.int k) => some k | _ => none))
def fact29 (P : Program) (f : FuncId) (fn : Func) (s : ChangeSpec) (c : OpenClaim) : Bool := (c.pinned == c.pinnedBy)
def fact30 (P : Program) (f : FuncId) (fn : Func) (s : ChangeSpec) (c : OpenClaim) : Bool := (c.veiled == (fn.params.toList ++ s.plain.varTypes P ++ fn.resultTypes.toList).any (P.veiledRec ·))
def fact31 (P : Program) (f : FuncId) (fn : Func) (s : ChangeSpec) (c : OpenClaim) : Bool := c.veiledFits P fn.params.toList (fn.params.toList ++ s.plain.varTypes P ++ fn.resultTypes.toList)
theorem j0 : fact0 Tryz.prog 6 Tryz.f6 Rows.fnBagsSpec Rows.fnBagsRow = true := by kernel_rfl
theorem j1 : fact1 Tryz.prog 6 Tryz.f6 Rows.fnBagsSpec Rows.fnBagsRow = true := by kernel_rfl
theorem j2 : fact2 Tryz.prog 6 Tryz.f6 Rows.fnBagsSpec Rows.fnBagsRow = true := by kernel_rfl
theorem j3 : fact3 Tryz.prog 6 Tryz.f6 Rows.fnBagsSpec Rows.fnBagsRow = true := by kernel_rfl
theorem j4 : fact4 Tryz.prog 6 Tryz.f6 Rows.fnBagsSpec Rows.fnBagsRow = true := by kernel_rfl
theorem j5 : fact5 Tryz.prog 6 Tryz.f6 Rows.fnBagsSpec Rows.fnBagsRow = true := by kernel_rfl
theorem j6 : fact6 Tryz.prog 6 Tryz.f6 Rows.fnBagsSpec Rows.fnBagsRow = true := by kernel_rfl
theorem j7 : fact7 Tryz.prog 6 Tryz.f6 Rows.fnBagsSpec Rows.fnBagsRow = true := by kernel_rfl
theorem j8 : fact8 Tryz.prog 6 Tryz.f6 Rows.fnBagsSpec Rows.fnBagsRow = true := by kernel_rfl
theorem j9 : fact9 Tryz.prog 6 Tryz.f6 Rows.fnBagsSpec Rows.fnBagsRow = true := by kernel_rfl
theorem j10 : fact10 Tryz.prog 6 Tryz.f6 Rows.fnBagsSpec Rows.fnBagsRow = true := by kernel_rfl
theorem j11 : fact11 Tryz.prog 6 Tryz.f6 Rows.fnBagsSpec Rows.fnBagsRow = true := by kernel_rfl
theorem j12 : fact12 Tryz.prog 6 Tryz.f6 Rows.fnBagsSpec Rows.fnBagsRow = true := by kernel_rfl
theorem j13 : fact13 Tryz.prog 6 Tryz.f6 Rows.fnBagsSpec Rows.fnBagsRow = true := by kernel_rfl
theorem j14 : fact14 Tryz.prog 6 Tryz.f6 Rows.fnBagsSpec Rows.fnBagsRow = true := by kernel_rfl
theorem j15 : fact15 Tryz.prog 6 Tryz.f6 Rows.fnBagsSpec Rows.fnBagsRow = true := by kernel_rfl
theorem j16 : fact16 Tryz.prog 6 Tryz.f6 Rows.fnBagsSpec Rows.fnBagsRow = true := by kernel_rfl
theorem j17 : fact17 Tryz.prog 6 Tryz.f6 Rows.fnBagsSpec Rows.fnBagsRow = true := by kernel_rfl
theorem j18 : fact18 Tryz.prog 6 Tryz.f6 Rows.fnBagsSpec Rows.fnBagsRow = true := by kernel_rfl
theorem j19 : fact19 Tryz.prog 6 Tryz.f6 Rows.fnBagsSpec Rows.fnBagsRow = true := by kernel_rfl
theorem j20 : fact20 Tryz.prog 6 Tryz.f6 Rows.fnBagsSpec Rows.fnBagsRow = true := by kernel_rfl
theorem j21 : fact21 Tryz.prog 6 Tryz.f6 Rows.fnBagsSpec Rows.fnBagsRow = true := by kernel_rfl
theorem j22 : fact22 Tryz.prog 6 Tryz.f6 Rows.fnBagsSpec Rows.fnBagsRow = true := by kernel_rfl
theorem j23 : fact23 Tryz.prog 6 Tryz.f6 Rows.fnBagsSpec Rows.fnBagsRow = true := by kernel_rfl
theorem j24 : fact24 Tryz.prog 6 Tryz.f6 Rows.fnBagsSpec Rows.fnBagsRow = true := by kernel_rfl
theorem j25 : fact25 Tryz.prog 6 Tryz.f6 Rows.fnBagsSpec Rows.fnBagsRow = true := by kernel_rfl
theorem j26 : fact26 Tryz.prog 6 Tryz.f6 Rows.fnBagsSpec Rows.fnBagsRow = true := by kernel_rfl
theorem j27 : fact27 Tryz.prog 6 Tryz.f6 Rows.fnBagsSpec Rows.fnBagsRow = true := by kernel_rfl
theorem j28 : fact28 Tryz.prog 6 Tryz.f6 Rows.fnBagsSpec Rows.fnBagsRow = true := by kernel_rfl
theorem j29 : fact29 Tryz.prog 6 Tryz.f6 Rows.fnBagsSpec Rows.fnBagsRow = true := by kernel_rfl
theorem j30 : fact30 Tryz.prog 6 Tryz.f6 Rows.fnBagsSpec Rows.fnBagsRow = true := by kernel_rfl
theorem j31 : fact31 Tryz.prog 6 Tryz.f6 Rows.fnBagsSpec Rows.fnBagsRow = true := by kernel_rfl
theorem and2 {a b : Bool} (h : a = true) (k : b = true) : (a && b) = true := by rw [h, k]; rfl
theorem all (P : Program) (f : FuncId) (fn : Func) (s : ChangeSpec) (c : OpenClaim) (h0 : fact0 P f fn s c = true) (h1 : fact1 P f fn s c = true) (h2 : fact2 P f fn s c = true) (h3 : fact3 P f fn s c = true) (h4 : fact4 P f fn s c = true) (h5 : fact5 P f fn s c = true) (h6 : fact6 P f fn s c = true) (h7 : fact7 P f fn s c = true) (h8 : fact8 P f fn s c = true) (h9 : fact9 P f fn s c = true) (h10 : fact10 P f fn s c = true) (h11 : fact11 P f fn s c = true) (h12 : fact12 P f fn s c = true) (h13 : fact13 P f fn s c = true) (h14 : fact14 P f fn s c = true) (h15 : fact15 P f fn s c = true) (h16 : fact16 P f fn s c = true) (h17 : fact17 P f fn s c = true) (h18 : fact18 P f fn s c = true) (h19 : fact19 P f fn s c = true) (h20 : fact20 P f fn s c = true) (h21 : fact21 P f fn s c = true) (h22 : fact22 P f fn s c = true) (h23 : fact23 P f fn s c = true) (h24 : fact24 P f fn s c = true) (h25 : fact25 P f fn s c = true) (h26 : fact26 P f fn s c = true) (h27 : fact27 P f fn s c = true) (h28 : fact28 P f fn s c = true) (h29 : fact29 P f fn s c = true) (h30 : fact30 P f fn s c = true) (h31 : fact31 P f fn s c = true) : joinedFacts P f fn s c = true :=
  (and2 (and2 (and2 (and2 (and2 (and2 (and2 (and2 (and2 (and2 (and2 (and2 (and2 (and2 (and2 (and2 (and2 (and2 (and2 (and2 (and2 (and2 (and2 (and2 (and2 (and2 (and2 (and2 (and2 (and2 (and2 h0 h1) h2) h3) h4) h5) h6) h7) h8) h9) h10) h11) h12) h13) h14) h15) h16) h17) h18) h19) h20) h21) h22) h23) h24) h25) h26) h27) h28) h29) h30) h31)
theorem joined : joinedFacts Tryz.prog 6 Tryz.f6 Rows.fnBagsSpec Rows.fnBagsRow = true := all _ _ _ _ _ j0 j1 j2 j3 j4 j5 j6 j7 j8 j9 j10 j11 j12 j13 j14 j15 j16 j17 j18 j19 j20 j21 j22 j23 j24 j25 j26 j27 j28 j29 j30 j31
theorem over : Rows.fnBagsRow.holds Tryz.pinned (OpenSpec.ofChange Rows.fnBagsSpec) :=
  OpenClaim.holds_of_wide 6 Tryz.f6 rfl rfl rfl rfl rfl rfl rfl ⟨rfl, rfl, rfl, rfl, rfl⟩ rfl rfl rfl rfl rfl (by kernel_rfl) Tryz.func6 joined
    (of_decide_eq_true (by kernel_rfl)) (by unfold Func.isWrapper; first | (rw [if_pos (by decide +kernel)]; kernel_rfl) | (rw [if_neg (by decide +kernel)]; exact ⟨rfl, rfl⟩))
    (fun os started H enc _ => lifted os started H enc)
#print axioms over
end Go.Proofs.YtboolngaahifdaaGreat.rowFnBags
namespace Go.Proofs.YtboolngaahifdaaGreat
theorem fnBags_holds : Rows.FnBagsSaid := rowFnBags.over
end Go.Proofs.YtboolngaahifdaaGreat
