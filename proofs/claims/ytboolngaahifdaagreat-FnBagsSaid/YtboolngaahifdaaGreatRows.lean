/-
  No cell of these rows narrows 'for every input' (looked for: loops, veiled, ifaces, maps, wideKeys, modest, calm, conditions, laid).
  DERIVED. THE GIVEN ROWS OF THIS SEAT. 4 by the template 'for every input the law returns true; each argument reads behind the call as it read before'; 0 by the template 'total and deterministic' (their statements: YtboolngaahifdaaGreatTotals.lean).
  GIVEN WITH THE SEED: the statements are not yours to turn. If you find one false, say at which input.
  Laid BY PROGRAM, IN A SANDBOX (cutbox-rows.mjs): the forced cells as the released guide's own fill.sh prints them over the translation f2c060ad416f0af5… (all of the seat's roots in one cut). By AI agents, Wed Nov 11 2026. No macro, syntax, notation, axiom, sorry.
-/
import Derived.Test.YtboolngaahifdaaGreatChecked
import GoSem.Claim
import GoSem.ClaimJoined
import GoSem.ClaimMapViews
import Derived.JoinedTies
import Derived.KernelRfl
namespace Go.Proofs.YtboolngaahifdaaGreat
/- THE CELL 'sum', in the pinned program and in every row, IS THE sha256 OF THE DUMP (.gsa) THAT YtboolngaahifdaaGreatProg.lean LOADS. Nothing in Lean hashes anything: it is a label: what it is worth is what the hold of that sum in a sandbox is worth. -/
noncomputable def Tryz.pinned : Pinned := { name := "ytboolngaahifdaagreat", sum := "f2c060ad416f0af53aa33afd440eac2ecb2a3901eab33381e2d436d6ed3ee9b6", checked := Tryz.checked }
namespace Rows
def none {H : Type} : Left H := { results := [], args := [] }

/-- 'laws.FnEvaluations': WHATEVER THE INPUT: true; the input reads as it did. -/
def fnEvaluationsSpec : ChangeSpec := { name := "fnEvaluations", fn := fun _ => fun
  | [d] => { results := [.lit (.bool true)], args := [d] }
  | _ => none }
def fnEvaluationsRow : OpenClaim := { program := "ytboolngaahifdaagreat", sum := "f2c060ad416f0af53aa33afd440eac2ecb2a3901eab33381e2d436d6ed3ee9b6", func := "loop.example/g01985/laws.FnEvaluations", spec := "fnEvaluations", unfollowed := true, recurses := true, apart := false }
def FnEvaluationsSaid : Prop := fnEvaluationsRow.holds Tryz.pinned (OpenSpec.ofChange fnEvaluationsSpec)

/-- ITS FALSE NEIGHBOUR: 'it returns false'. Refute it at one input. -/
def fnEvaluationsWrong : ChangeSpec := { name := "fnEvaluations", fn := fun _ => fun
  | [d] => { results := [.lit (.bool false)], args := [d] }
  | _ => none }
def FnEvaluationsWrongFalsely : Prop := fnEvaluationsRow.holds Tryz.pinned (OpenSpec.ofChange fnEvaluationsWrong)

/-- 'laws.FnExactBagWitness': WHATEVER THE INPUT: true; the input reads as it did. -/
def fnExactBagWitnessSpec : ChangeSpec := { name := "fnExactBagWitness", fn := fun _ => fun
  | [d1, d2, d3] => { results := [.lit (.bool true)], args := [d1, d2, d3] }
  | _ => none }
def fnExactBagWitnessRow : OpenClaim := { program := "ytboolngaahifdaagreat", sum := "f2c060ad416f0af53aa33afd440eac2ecb2a3901eab33381e2d436d6ed3ee9b6", func := "loop.example/g01985/laws.FnExactBagWitness", spec := "fnExactBagWitness", unfollowed := true, recurses := true, apart := false }
def FnExactBagWitnessSaid : Prop := fnExactBagWitnessRow.holds Tryz.pinned (OpenSpec.ofChange fnExactBagWitnessSpec)

/-- ITS FALSE NEIGHBOUR: 'it returns false'. Refute it at one input. -/
def fnExactBagWitnessWrong : ChangeSpec := { name := "fnExactBagWitness", fn := fun _ => fun
  | [d1, d2, d3] => { results := [.lit (.bool false)], args := [d1, d2, d3] }
  | _ => none }
def FnExactBagWitnessWrongFalsely : Prop := fnExactBagWitnessRow.holds Tryz.pinned (OpenSpec.ofChange fnExactBagWitnessWrong)

/-- 'laws.FnTuples': WHATEVER THE INPUT: true; the input reads as it did. -/
def fnTuplesSpec : ChangeSpec := { name := "fnTuples", fn := fun _ => fun
  | [d] => { results := [.lit (.bool true)], args := [d] }
  | _ => none }
def fnTuplesRow : OpenClaim := { program := "ytboolngaahifdaagreat", sum := "f2c060ad416f0af53aa33afd440eac2ecb2a3901eab33381e2d436d6ed3ee9b6", func := "loop.example/g01985/laws.FnTuples", spec := "fnTuples", unfollowed := true, recurses := true, apart := false }
def FnTuplesSaid : Prop := fnTuplesRow.holds Tryz.pinned (OpenSpec.ofChange fnTuplesSpec)

/-- ITS FALSE NEIGHBOUR: 'it returns false'. Refute it at one input. -/
def fnTuplesWrong : ChangeSpec := { name := "fnTuples", fn := fun _ => fun
  | [d] => { results := [.lit (.bool false)], args := [d] }
  | _ => none }
def FnTuplesWrongFalsely : Prop := fnTuplesRow.holds Tryz.pinned (OpenSpec.ofChange fnTuplesWrong)

/-- 'laws.FnBags': WHATEVER THE INPUT: true; the input reads as it did. -/
def fnBagsSpec : ChangeSpec := { name := "fnBags", fn := fun _ => fun
  | [d] => { results := [.lit (.bool true)], args := [d] }
  | _ => none }
def fnBagsRow : OpenClaim := { program := "ytboolngaahifdaagreat", sum := "f2c060ad416f0af53aa33afd440eac2ecb2a3901eab33381e2d436d6ed3ee9b6", func := "loop.example/g01985/laws.FnBags", spec := "fnBags", unfollowed := true, recurses := true, apart := false }
def FnBagsSaid : Prop := fnBagsRow.holds Tryz.pinned (OpenSpec.ofChange fnBagsSpec)

/-- ITS FALSE NEIGHBOUR: 'it returns false'. Refute it at one input. -/
def fnBagsWrong : ChangeSpec := { name := "fnBags", fn := fun _ => fun
  | [d] => { results := [.lit (.bool false)], args := [d] }
  | _ => none }
def FnBagsWrongFalsely : Prop := fnBagsRow.holds Tryz.pinned (OpenSpec.ofChange fnBagsWrong)

/- THE SECOND FORM. 'bulk': how many values and letters a reading holds, each counted each time it is reached (what is shared counts as often as it is met; a slice's spare places count too). A statement '..UptoSaid' is the law's where the arguments, and the package variables that the reading takes, are together of bulk at most 1048576: NARROWER than '..Said'. Prove '..Said' where nothing that the law and all that it calls make is longer than what came in: it says more and counts as full. Else prove '..UptoSaid'. A law counts once. -/
mutual
def uptoBulk {H : Type} : DataW H → Nat
  | .lit (.string bytes) => bytes.length + 1
  | .lit _ => 1
  | .nil => 1
  | .ptr d => uptoBulk d + 1
  | .slice elems spare => uptoBulkAll elems + uptoBulkAll spare + 1
  | .agg parts => uptoBulkAll parts + 1
  | .iface _ d => uptoBulk d + 1
  | .map entries => uptoBulkEntries entries + 1
  | .held _ => 1
def uptoBulkAll {H : Type} : List (DataW H) → Nat
  | [] => 0
  | d :: r => uptoBulk d + uptoBulkAll r
def uptoBulkEntries {H : Type} : List (Lit × DataW H) → Nat
  | [] => 0
  | x :: r => uptoBulkEntry x + uptoBulkEntries r
def uptoBulkEntry {H : Type} : Lit × DataW H → Nat
  | (.string bytes, d) => bytes.length + uptoBulk d + 1
  | (_, d) => uptoBulk d + 1
 end
def uptoSmall : (H : Type) → List (DataW H) → Bool := fun _ ds => decide (uptoBulkAll ds ≤ 1048576)
def OpenSpec.upto (s : _root_.Go.ChangeSpec) : _root_.Go.OpenSpec := { _root_.Go.OpenSpec.ofChange s with cond := some uptoSmall }

/-- 'laws.FnEvaluations', WHERE WHAT IT READS IS OF BULK AT MOST 1048576: true; the input reads as it did. -/
def fnEvaluationsUptoRow : OpenClaim := { program := "ytboolngaahifdaagreat", sum := "f2c060ad416f0af53aa33afd440eac2ecb2a3901eab33381e2d436d6ed3ee9b6", func := "loop.example/g01985/laws.FnEvaluations", spec := "fnEvaluations", unfollowed := true, recurses := true, apart := false, narrowed := true }
def FnEvaluationsUptoSaid : Prop := fnEvaluationsUptoRow.holds Tryz.pinned (OpenSpec.upto fnEvaluationsSpec)

/-- 'laws.FnExactBagWitness', WHERE WHAT IT READS IS OF BULK AT MOST 1048576: true; the input reads as it did. -/
def fnExactBagWitnessUptoRow : OpenClaim := { program := "ytboolngaahifdaagreat", sum := "f2c060ad416f0af53aa33afd440eac2ecb2a3901eab33381e2d436d6ed3ee9b6", func := "loop.example/g01985/laws.FnExactBagWitness", spec := "fnExactBagWitness", unfollowed := true, recurses := true, apart := false, narrowed := true }
def FnExactBagWitnessUptoSaid : Prop := fnExactBagWitnessUptoRow.holds Tryz.pinned (OpenSpec.upto fnExactBagWitnessSpec)

/-- 'laws.FnTuples', WHERE WHAT IT READS IS OF BULK AT MOST 1048576: true; the input reads as it did. -/
def fnTuplesUptoRow : OpenClaim := { program := "ytboolngaahifdaagreat", sum := "f2c060ad416f0af53aa33afd440eac2ecb2a3901eab33381e2d436d6ed3ee9b6", func := "loop.example/g01985/laws.FnTuples", spec := "fnTuples", unfollowed := true, recurses := true, apart := false, narrowed := true }
def FnTuplesUptoSaid : Prop := fnTuplesUptoRow.holds Tryz.pinned (OpenSpec.upto fnTuplesSpec)

/-- 'laws.FnBags', WHERE WHAT IT READS IS OF BULK AT MOST 1048576: true; the input reads as it did. -/
def fnBagsUptoRow : OpenClaim := { program := "ytboolngaahifdaagreat", sum := "f2c060ad416f0af53aa33afd440eac2ecb2a3901eab33381e2d436d6ed3ee9b6", func := "loop.example/g01985/laws.FnBags", spec := "fnBags", unfollowed := true, recurses := true, apart := false, narrowed := true }
def FnBagsUptoSaid : Prop := fnBagsUptoRow.holds Tryz.pinned (OpenSpec.upto fnBagsSpec)

end Rows
end Go.Proofs.YtboolngaahifdaaGreat
