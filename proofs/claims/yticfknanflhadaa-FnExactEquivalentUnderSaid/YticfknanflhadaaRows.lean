/-
  No cell of these rows narrows 'for every input' (looked for: loops, veiled, ifaces, maps, wideKeys, modest, calm, conditions, laid).
  DERIVED. THE GIVEN ROWS OF THIS SEAT. 6 by the template 'for every input the law returns true; each argument reads behind the call as it read before'; 0 by the template 'total and deterministic' (their statements: YticfknanflhadaaTotals.lean).
  GIVEN WITH THE SEED: the statements are not yours to turn. If you find one false, say at which input.
  Laid BY PROGRAM, IN A SANDBOX (cutbox-rows.mjs): the forced cells as the released guide's own fill.sh prints them over the translation 4c92edd7eaffbc46… (all of the seat's roots in one cut). By AI agents, Wed Nov 11 2026. No macro, syntax, notation, axiom, sorry.
-/
import Derived.Test.YticfknanflhadaaChecked
import GoSem.Claim
import GoSem.ClaimJoined
import GoSem.ClaimMapViews
import Derived.JoinedTies
import Derived.KernelRfl
namespace Go.Proofs.Yticfknanflhadaa
/- THE CELL 'sum', in the pinned program and in every row, IS THE sha256 OF THE DUMP (.gsa) THAT YticfknanflhadaaProg.lean LOADS. Nothing in Lean hashes anything: it is a label: what it is worth is what the hold of that sum in a sandbox is worth. -/
noncomputable def Try.pinned : Pinned := { name := "yticfknanflhadaa", sum := "4c92edd7eaffbc462d3932a175b2670e318440ef29ffffeebef8ccee70b5b1dc", checked := Try.checked }
namespace Rows
def none {H : Type} : Left H := { results := [], args := [] }

/-- 'laws.FnExactChaseKeys': WHATEVER THE INPUT: true; the input reads as it did. -/
def fnExactChaseKeysSpec : ChangeSpec := { name := "fnExactChaseKeys", fn := fun _ => fun
  | [d1, d2, d3] => { results := [.lit (.bool true)], args := [d1, d2, d3] }
  | _ => none }
def fnExactChaseKeysRow : OpenClaim := { program := "yticfknanflhadaa", sum := "4c92edd7eaffbc462d3932a175b2670e318440ef29ffffeebef8ccee70b5b1dc", func := "loop.example/g01985/laws.FnExactChaseKeys", spec := "fnExactChaseKeys", unfollowed := true, recurses := true, apart := false }
def FnExactChaseKeysSaid : Prop := fnExactChaseKeysRow.holds Try.pinned (OpenSpec.ofChange fnExactChaseKeysSpec)

/-- ITS FALSE NEIGHBOUR: 'it returns false'. Refute it at one input. -/
def fnExactChaseKeysWrong : ChangeSpec := { name := "fnExactChaseKeys", fn := fun _ => fun
  | [d1, d2, d3] => { results := [.lit (.bool false)], args := [d1, d2, d3] }
  | _ => none }
def FnExactChaseKeysWrongFalsely : Prop := fnExactChaseKeysRow.holds Try.pinned (OpenSpec.ofChange fnExactChaseKeysWrong)

/-- 'laws.FnExactContainedUnder': WHATEVER THE INPUT: true; the input reads as it did. -/
def fnExactContainedUnderSpec : ChangeSpec := { name := "fnExactContainedUnder", fn := fun _ => fun
  | [d1, d2, d3, d4] => { results := [.lit (.bool true)], args := [d1, d2, d3, d4] }
  | _ => none }
def fnExactContainedUnderRow : OpenClaim := { program := "yticfknanflhadaa", sum := "4c92edd7eaffbc462d3932a175b2670e318440ef29ffffeebef8ccee70b5b1dc", func := "loop.example/g01985/laws.FnExactContainedUnder", spec := "fnExactContainedUnder", unfollowed := true, recurses := true, apart := false }
def FnExactContainedUnderSaid : Prop := fnExactContainedUnderRow.holds Try.pinned (OpenSpec.ofChange fnExactContainedUnderSpec)

/-- ITS FALSE NEIGHBOUR: 'it returns false'. Refute it at one input. -/
def fnExactContainedUnderWrong : ChangeSpec := { name := "fnExactContainedUnder", fn := fun _ => fun
  | [d1, d2, d3, d4] => { results := [.lit (.bool false)], args := [d1, d2, d3, d4] }
  | _ => none }
def FnExactContainedUnderWrongFalsely : Prop := fnExactContainedUnderRow.holds Try.pinned (OpenSpec.ofChange fnExactContainedUnderWrong)

/-- 'laws.FnExactIsRewriting': WHATEVER THE INPUT: true; the input reads as it did. -/
def fnExactIsRewritingSpec : ChangeSpec := { name := "fnExactIsRewriting", fn := fun _ => fun
  | [d1, d2, d3, d4] => { results := [.lit (.bool true)], args := [d1, d2, d3, d4] }
  | _ => none }
def fnExactIsRewritingRow : OpenClaim := { program := "yticfknanflhadaa", sum := "4c92edd7eaffbc462d3932a175b2670e318440ef29ffffeebef8ccee70b5b1dc", func := "loop.example/g01985/laws.FnExactIsRewriting", spec := "fnExactIsRewriting", unfollowed := true, recurses := true, apart := false }
def FnExactIsRewritingSaid : Prop := fnExactIsRewritingRow.holds Try.pinned (OpenSpec.ofChange fnExactIsRewritingSpec)

/-- ITS FALSE NEIGHBOUR: 'it returns false'. Refute it at one input. -/
def fnExactIsRewritingWrong : ChangeSpec := { name := "fnExactIsRewriting", fn := fun _ => fun
  | [d1, d2, d3, d4] => { results := [.lit (.bool false)], args := [d1, d2, d3, d4] }
  | _ => none }
def FnExactIsRewritingWrongFalsely : Prop := fnExactIsRewritingRow.holds Try.pinned (OpenSpec.ofChange fnExactIsRewritingWrong)

/-- 'laws.FnExactEquivalentUnder': WHATEVER THE INPUT: true; the input reads as it did. -/
def fnExactEquivalentUnderSpec : ChangeSpec := { name := "fnExactEquivalentUnder", fn := fun _ => fun
  | [d1, d2, d3, d4] => { results := [.lit (.bool true)], args := [d1, d2, d3, d4] }
  | _ => none }
def fnExactEquivalentUnderRow : OpenClaim := { program := "yticfknanflhadaa", sum := "4c92edd7eaffbc462d3932a175b2670e318440ef29ffffeebef8ccee70b5b1dc", func := "loop.example/g01985/laws.FnExactEquivalentUnder", spec := "fnExactEquivalentUnder", unfollowed := true, recurses := true, apart := false }
def FnExactEquivalentUnderSaid : Prop := fnExactEquivalentUnderRow.holds Try.pinned (OpenSpec.ofChange fnExactEquivalentUnderSpec)

/-- ITS FALSE NEIGHBOUR: 'it returns false'. Refute it at one input. -/
def fnExactEquivalentUnderWrong : ChangeSpec := { name := "fnExactEquivalentUnder", fn := fun _ => fun
  | [d1, d2, d3, d4] => { results := [.lit (.bool false)], args := [d1, d2, d3, d4] }
  | _ => none }
def FnExactEquivalentUnderWrongFalsely : Prop := fnExactEquivalentUnderRow.holds Try.pinned (OpenSpec.ofChange fnExactEquivalentUnderWrong)

/-- 'laws.FnExactFreeze': WHATEVER THE INPUT: true; the input reads as it did. -/
def fnExactFreezeSpec : ChangeSpec := { name := "fnExactFreeze", fn := fun _ => fun
  | [d] => { results := [.lit (.bool true)], args := [d] }
  | _ => none }
def fnExactFreezeRow : OpenClaim := { program := "yticfknanflhadaa", sum := "4c92edd7eaffbc462d3932a175b2670e318440ef29ffffeebef8ccee70b5b1dc", func := "loop.example/g01985/laws.FnExactFreeze", spec := "fnExactFreeze", unfollowed := true, recurses := true, apart := false }
def FnExactFreezeSaid : Prop := fnExactFreezeRow.holds Try.pinned (OpenSpec.ofChange fnExactFreezeSpec)

/-- ITS FALSE NEIGHBOUR: 'it returns false'. Refute it at one input. -/
def fnExactFreezeWrong : ChangeSpec := { name := "fnExactFreeze", fn := fun _ => fun
  | [d] => { results := [.lit (.bool false)], args := [d] }
  | _ => none }
def FnExactFreezeWrongFalsely : Prop := fnExactFreezeRow.holds Try.pinned (OpenSpec.ofChange fnExactFreezeWrong)

/-- 'laws.FnExactCounterExample': WHATEVER THE INPUT: true; the input reads as it did. -/
def fnExactCounterExampleSpec : ChangeSpec := { name := "fnExactCounterExample", fn := fun _ => fun
  | [d1, d2, d3] => { results := [.lit (.bool true)], args := [d1, d2, d3] }
  | _ => none }
def fnExactCounterExampleRow : OpenClaim := { program := "yticfknanflhadaa", sum := "4c92edd7eaffbc462d3932a175b2670e318440ef29ffffeebef8ccee70b5b1dc", func := "loop.example/g01985/laws.FnExactCounterExample", spec := "fnExactCounterExample", unfollowed := true, recurses := true, apart := false }
def FnExactCounterExampleSaid : Prop := fnExactCounterExampleRow.holds Try.pinned (OpenSpec.ofChange fnExactCounterExampleSpec)

/-- ITS FALSE NEIGHBOUR: 'it returns false'. Refute it at one input. -/
def fnExactCounterExampleWrong : ChangeSpec := { name := "fnExactCounterExample", fn := fun _ => fun
  | [d1, d2, d3] => { results := [.lit (.bool false)], args := [d1, d2, d3] }
  | _ => none }
def FnExactCounterExampleWrongFalsely : Prop := fnExactCounterExampleRow.holds Try.pinned (OpenSpec.ofChange fnExactCounterExampleWrong)

/- THE SECOND FORM. 'bulk': how many values and letters a reading holds, each counted each time it is reached (what is shared counts as often as it is met; a slice's spare places count too). A statement '..UptoSaid' is the law's where the arguments, and the package variables that the reading takes, are together of bulk at most 1048576: NARROWER than '..Said'. Prove '..Said' where nothing that the law and all that it calls make is longer than what came in: it says more and counts as full. Else prove '..UptoSaid'. A law counts once. -/
mutual
def uptoBulk {H : Type} : DataW H → Nat
  | .lit (.string bytes) => bytes.length + 1
  | .lit _ => 1
  | .nil => 1
  | .ptr d => uptoBulk d + 1
  | .slice elems spare => uptoBulkAll elems + uptoBulkAll spare + 1
  | .agg parts => uptoBulkAll parts + 1
  | .iface _ d => uptoBulk d + 1
  | .map entries => uptoBulkEntries entries + 1
  | .held _ => 1
def uptoBulkAll {H : Type} : List (DataW H) → Nat
  | [] => 0
  | d :: r => uptoBulk d + uptoBulkAll r
def uptoBulkEntries {H : Type} : List (Lit × DataW H) → Nat
  | [] => 0
  | x :: r => uptoBulkEntry x + uptoBulkEntries r
def uptoBulkEntry {H : Type} : Lit × DataW H → Nat
  | (.string bytes, d) => bytes.length + uptoBulk d + 1
  | (_, d) => uptoBulk d + 1
 end
def uptoSmall : (H : Type) → List (DataW H) → Bool := fun _ ds => decide (uptoBulkAll ds ≤ 1048576)
def OpenSpec.upto (s : _root_.Go.ChangeSpec) : _root_.Go.OpenSpec := { _root_.Go.OpenSpec.ofChange s with cond := some uptoSmall }

/-- 'laws.FnExactChaseKeys', WHERE WHAT IT READS IS OF BULK AT MOST 1048576: true; the input reads as it did. -/
def fnExactChaseKeysUptoRow : OpenClaim := { program := "yticfknanflhadaa", sum := "4c92edd7eaffbc462d3932a175b2670e318440ef29ffffeebef8ccee70b5b1dc", func := "loop.example/g01985/laws.FnExactChaseKeys", spec := "fnExactChaseKeys", unfollowed := true, recurses := true, apart := false, narrowed := true }
def FnExactChaseKeysUptoSaid : Prop := fnExactChaseKeysUptoRow.holds Try.pinned (OpenSpec.upto fnExactChaseKeysSpec)

/-- 'laws.FnExactContainedUnder', WHERE WHAT IT READS IS OF BULK AT MOST 1048576: true; the input reads as it did. -/
def fnExactContainedUnderUptoRow : OpenClaim := { program := "yticfknanflhadaa", sum := "4c92edd7eaffbc462d3932a175b2670e318440ef29ffffeebef8ccee70b5b1dc", func := "loop.example/g01985/laws.FnExactContainedUnder", spec := "fnExactContainedUnder", unfollowed := true, recurses := true, apart := false, narrowed := true }
def FnExactContainedUnderUptoSaid : Prop := fnExactContainedUnderUptoRow.holds Try.pinned (OpenSpec.upto fnExactContainedUnderSpec)

/-- 'laws.FnExactIsRewriting', WHERE WHAT IT READS IS OF BULK AT MOST 1048576: true; the input reads as it did. -/
def fnExactIsRewritingUptoRow : OpenClaim := { program := "yticfknanflhadaa", sum := "4c92edd7eaffbc462d3932a175b2670e318440ef29ffffeebef8ccee70b5b1dc", func := "loop.example/g01985/laws.FnExactIsRewriting", spec := "fnExactIsRewriting", unfollowed := true, recurses := true, apart := false, narrowed := true }
def FnExactIsRewritingUptoSaid : Prop := fnExactIsRewritingUptoRow.holds Try.pinned (OpenSpec.upto fnExactIsRewritingSpec)

/-- 'laws.FnExactEquivalentUnder', WHERE WHAT IT READS IS OF BULK AT MOST 1048576: true; the input reads as it did. -/
def fnExactEquivalentUnderUptoRow : OpenClaim := { program := "yticfknanflhadaa", sum := "4c92edd7eaffbc462d3932a175b2670e318440ef29ffffeebef8ccee70b5b1dc", func := "loop.example/g01985/laws.FnExactEquivalentUnder", spec := "fnExactEquivalentUnder", unfollowed := true, recurses := true, apart := false, narrowed := true }
def FnExactEquivalentUnderUptoSaid : Prop := fnExactEquivalentUnderUptoRow.holds Try.pinned (OpenSpec.upto fnExactEquivalentUnderSpec)

/-- 'laws.FnExactFreeze', WHERE WHAT IT READS IS OF BULK AT MOST 1048576: true; the input reads as it did. -/
def fnExactFreezeUptoRow : OpenClaim := { program := "yticfknanflhadaa", sum := "4c92edd7eaffbc462d3932a175b2670e318440ef29ffffeebef8ccee70b5b1dc", func := "loop.example/g01985/laws.FnExactFreeze", spec := "fnExactFreeze", unfollowed := true, recurses := true, apart := false, narrowed := true }
def FnExactFreezeUptoSaid : Prop := fnExactFreezeUptoRow.holds Try.pinned (OpenSpec.upto fnExactFreezeSpec)

/-- 'laws.FnExactCounterExample', WHERE WHAT IT READS IS OF BULK AT MOST 1048576: true; the input reads as it did. -/
def fnExactCounterExampleUptoRow : OpenClaim := { program := "yticfknanflhadaa", sum := "4c92edd7eaffbc462d3932a175b2670e318440ef29ffffeebef8ccee70b5b1dc", func := "loop.example/g01985/laws.FnExactCounterExample", spec := "fnExactCounterExample", unfollowed := true, recurses := true, apart := false, narrowed := true }
def FnExactCounterExampleUptoSaid : Prop := fnExactCounterExampleUptoRow.holds Try.pinned (OpenSpec.upto fnExactCounterExampleSpec)

end Rows
end Go.Proofs.Yticfknanflhadaa
