/-
  No cell of these rows narrows 'for every input' (looked for: loops, veiled, ifaces, maps, wideKeys, modest, calm, conditions, laid).
  DERIVED. THE GIVEN ROWS OF THIS SEAT. 10 by the template 'for every input the law returns true; each argument reads behind the call as it read before'; 0 by the template 'total and deterministic' (their statements: YtbnikloglnkddaaTotals.lean).
  GIVEN WITH THE SEED: the statements are not yours to turn. If you find one false, say at which input.
  Laid BY PROGRAM, IN A SANDBOX (cutbox-rows.mjs): the forced cells as the released guide's own fill.sh prints them over the translation 5c63817e1c4edd75… (all of the seat's roots in one cut). By AI agents, Wed Nov 11 2026. No macro, syntax, notation, axiom, sorry.
-/
import Derived.Test.YtbnikloglnkddaaChecked
import GoSem.Claim
import GoSem.ClaimJoined
import GoSem.ClaimMapViews
import Derived.JoinedTies
import Derived.KernelRfl
namespace Go.Proofs.Ytbnikloglnkddaa
/- THE CELL 'sum', in the pinned program and in every row, IS THE sha256 OF THE DUMP (.gsa) THAT YtbnikloglnkddaaProg.lean LOADS. Nothing in Lean hashes anything: it is a label: what it is worth is what the hold of that sum in a sandbox is worth. -/
noncomputable def Try.pinned : Pinned := { name := "ytbnikloglnkddaa", sum := "5c63817e1c4edd75e69c7445403fb26724608b540be3638a68724617ff1c0b72", checked := Try.checked }
namespace Rows
def none {H : Type} : Left H := { results := [], args := [] }

/-- 'laws.FnExactUnfoldQuery': WHATEVER THE INPUT: true; the input reads as it did. -/
def fnExactUnfoldQuerySpec : ChangeSpec := { name := "fnExactUnfoldQuery", fn := fun _ => fun
  | [d1, d2, d3] => { results := [.lit (.bool true)], args := [d1, d2, d3] }
  | _ => none }
def fnExactUnfoldQueryRow : OpenClaim := { program := "ytbnikloglnkddaa", sum := "5c63817e1c4edd75e69c7445403fb26724608b540be3638a68724617ff1c0b72", func := "loop.example/g01985/laws.FnExactUnfoldQuery", spec := "fnExactUnfoldQuery", unfollowed := true, recurses := true, apart := false }
def FnExactUnfoldQuerySaid : Prop := fnExactUnfoldQueryRow.holds Try.pinned (OpenSpec.ofChange fnExactUnfoldQuerySpec)

/-- ITS FALSE NEIGHBOUR: 'it returns false'. Refute it at one input. -/
def fnExactUnfoldQueryWrong : ChangeSpec := { name := "fnExactUnfoldQuery", fn := fun _ => fun
  | [d1, d2, d3] => { results := [.lit (.bool false)], args := [d1, d2, d3] }
  | _ => none }
def FnExactUnfoldQueryWrongFalsely : Prop := fnExactUnfoldQueryRow.holds Try.pinned (OpenSpec.ofChange fnExactUnfoldQueryWrong)

/-- 'laws.FnExactIsRewriting': WHATEVER THE INPUT: true; the input reads as it did. -/
def fnExactIsRewritingSpec : ChangeSpec := { name := "fnExactIsRewriting", fn := fun _ => fun
  | [d1, d2, d3, d4] => { results := [.lit (.bool true)], args := [d1, d2, d3, d4] }
  | _ => none }
def fnExactIsRewritingRow : OpenClaim := { program := "ytbnikloglnkddaa", sum := "5c63817e1c4edd75e69c7445403fb26724608b540be3638a68724617ff1c0b72", func := "loop.example/g01985/laws.FnExactIsRewriting", spec := "fnExactIsRewriting", unfollowed := true, recurses := true, apart := false }
def FnExactIsRewritingSaid : Prop := fnExactIsRewritingRow.holds Try.pinned (OpenSpec.ofChange fnExactIsRewritingSpec)

/-- ITS FALSE NEIGHBOUR: 'it returns false'. Refute it at one input. -/
def fnExactIsRewritingWrong : ChangeSpec := { name := "fnExactIsRewriting", fn := fun _ => fun
  | [d1, d2, d3, d4] => { results := [.lit (.bool false)], args := [d1, d2, d3, d4] }
  | _ => none }
def FnExactIsRewritingWrongFalsely : Prop := fnExactIsRewritingRow.holds Try.pinned (OpenSpec.ofChange fnExactIsRewritingWrong)

/-- 'laws.FnExactNormalForm': WHATEVER THE INPUT: true; the input reads as it did. -/
def fnExactNormalFormSpec : ChangeSpec := { name := "fnExactNormalForm", fn := fun _ => fun
  | [d1, d2] => { results := [.lit (.bool true)], args := [d1, d2] }
  | _ => none }
def fnExactNormalFormRow : OpenClaim := { program := "ytbnikloglnkddaa", sum := "5c63817e1c4edd75e69c7445403fb26724608b540be3638a68724617ff1c0b72", func := "loop.example/g01985/laws.FnExactNormalForm", spec := "fnExactNormalForm", unfollowed := true, recurses := true, apart := false }
def FnExactNormalFormSaid : Prop := fnExactNormalFormRow.holds Try.pinned (OpenSpec.ofChange fnExactNormalFormSpec)

/-- ITS FALSE NEIGHBOUR: 'it returns false'. Refute it at one input. -/
def fnExactNormalFormWrong : ChangeSpec := { name := "fnExactNormalForm", fn := fun _ => fun
  | [d1, d2] => { results := [.lit (.bool false)], args := [d1, d2] }
  | _ => none }
def FnExactNormalFormWrongFalsely : Prop := fnExactNormalFormRow.holds Try.pinned (OpenSpec.ofChange fnExactNormalFormWrong)

/-- 'laws.FnExactIsIsomorphic': WHATEVER THE INPUT: true; the input reads as it did. -/
def fnExactIsIsomorphicSpec : ChangeSpec := { name := "fnExactIsIsomorphic", fn := fun _ => fun
  | [d1, d2, d3] => { results := [.lit (.bool true)], args := [d1, d2, d3] }
  | _ => none }
def fnExactIsIsomorphicRow : OpenClaim := { program := "ytbnikloglnkddaa", sum := "5c63817e1c4edd75e69c7445403fb26724608b540be3638a68724617ff1c0b72", func := "loop.example/g01985/laws.FnExactIsIsomorphic", spec := "fnExactIsIsomorphic", unfollowed := true, recurses := true, apart := false }
def FnExactIsIsomorphicSaid : Prop := fnExactIsIsomorphicRow.holds Try.pinned (OpenSpec.ofChange fnExactIsIsomorphicSpec)

/-- ITS FALSE NEIGHBOUR: 'it returns false'. Refute it at one input. -/
def fnExactIsIsomorphicWrong : ChangeSpec := { name := "fnExactIsIsomorphic", fn := fun _ => fun
  | [d1, d2, d3] => { results := [.lit (.bool false)], args := [d1, d2, d3] }
  | _ => none }
def FnExactIsIsomorphicWrongFalsely : Prop := fnExactIsIsomorphicRow.holds Try.pinned (OpenSpec.ofChange fnExactIsIsomorphicWrong)

/-- 'laws.FnExactBagEquivalent': WHATEVER THE INPUT: true; the input reads as it did. -/
def fnExactBagEquivalentSpec : ChangeSpec := { name := "fnExactBagEquivalent", fn := fun _ => fun
  | [d1, d2, d3] => { results := [.lit (.bool true)], args := [d1, d2, d3] }
  | _ => none }
def fnExactBagEquivalentRow : OpenClaim := { program := "ytbnikloglnkddaa", sum := "5c63817e1c4edd75e69c7445403fb26724608b540be3638a68724617ff1c0b72", func := "loop.example/g01985/laws.FnExactBagEquivalent", spec := "fnExactBagEquivalent", unfollowed := true, recurses := true, apart := false }
def FnExactBagEquivalentSaid : Prop := fnExactBagEquivalentRow.holds Try.pinned (OpenSpec.ofChange fnExactBagEquivalentSpec)

/-- ITS FALSE NEIGHBOUR: 'it returns false'. Refute it at one input. -/
def fnExactBagEquivalentWrong : ChangeSpec := { name := "fnExactBagEquivalent", fn := fun _ => fun
  | [d1, d2, d3] => { results := [.lit (.bool false)], args := [d1, d2, d3] }
  | _ => none }
def FnExactBagEquivalentWrongFalsely : Prop := fnExactBagEquivalentRow.holds Try.pinned (OpenSpec.ofChange fnExactBagEquivalentWrong)

/-- 'laws.FnExactFreeze': WHATEVER THE INPUT: true; the input reads as it did. -/
def fnExactFreezeSpec : ChangeSpec := { name := "fnExactFreeze", fn := fun _ => fun
  | [d] => { results := [.lit (.bool true)], args := [d] }
  | _ => none }
def fnExactFreezeRow : OpenClaim := { program := "ytbnikloglnkddaa", sum := "5c63817e1c4edd75e69c7445403fb26724608b540be3638a68724617ff1c0b72", func := "loop.example/g01985/laws.FnExactFreeze", spec := "fnExactFreeze", unfollowed := true, recurses := true, apart := false }
def FnExactFreezeSaid : Prop := fnExactFreezeRow.holds Try.pinned (OpenSpec.ofChange fnExactFreezeSpec)

/-- ITS FALSE NEIGHBOUR: 'it returns false'. Refute it at one input. -/
def fnExactFreezeWrong : ChangeSpec := { name := "fnExactFreeze", fn := fun _ => fun
  | [d] => { results := [.lit (.bool false)], args := [d] }
  | _ => none }
def FnExactFreezeWrongFalsely : Prop := fnExactFreezeRow.holds Try.pinned (OpenSpec.ofChange fnExactFreezeWrong)

/-- 'laws.FnExactCounterExample': WHATEVER THE INPUT: true; the input reads as it did. -/
def fnExactCounterExampleSpec : ChangeSpec := { name := "fnExactCounterExample", fn := fun _ => fun
  | [d1, d2, d3] => { results := [.lit (.bool true)], args := [d1, d2, d3] }
  | _ => none }
def fnExactCounterExampleRow : OpenClaim := { program := "ytbnikloglnkddaa", sum := "5c63817e1c4edd75e69c7445403fb26724608b540be3638a68724617ff1c0b72", func := "loop.example/g01985/laws.FnExactCounterExample", spec := "fnExactCounterExample", unfollowed := true, recurses := true, apart := false }
def FnExactCounterExampleSaid : Prop := fnExactCounterExampleRow.holds Try.pinned (OpenSpec.ofChange fnExactCounterExampleSpec)

/-- ITS FALSE NEIGHBOUR: 'it returns false'. Refute it at one input. -/
def fnExactCounterExampleWrong : ChangeSpec := { name := "fnExactCounterExample", fn := fun _ => fun
  | [d1, d2, d3] => { results := [.lit (.bool false)], args := [d1, d2, d3] }
  | _ => none }
def FnExactCounterExampleWrongFalsely : Prop := fnExactCounterExampleRow.holds Try.pinned (OpenSpec.ofChange fnExactCounterExampleWrong)

/-- 'laws.FnExactParseKey': WHATEVER THE INPUT: true; the input reads as it did. -/
def fnExactParseKeySpec : ChangeSpec := { name := "fnExactParseKey", fn := fun _ => fun
  | [d1, d2] => { results := [.lit (.bool true)], args := [d1, d2] }
  | _ => none }
def fnExactParseKeyRow : OpenClaim := { program := "ytbnikloglnkddaa", sum := "5c63817e1c4edd75e69c7445403fb26724608b540be3638a68724617ff1c0b72", func := "loop.example/g01985/laws.FnExactParseKey", spec := "fnExactParseKey", apart := false }
def FnExactParseKeySaid : Prop := fnExactParseKeyRow.holds Try.pinned (OpenSpec.ofChange fnExactParseKeySpec)

/-- ITS FALSE NEIGHBOUR: 'it returns false'. Refute it at one input. -/
def fnExactParseKeyWrong : ChangeSpec := { name := "fnExactParseKey", fn := fun _ => fun
  | [d1, d2] => { results := [.lit (.bool false)], args := [d1, d2] }
  | _ => none }
def FnExactParseKeyWrongFalsely : Prop := fnExactParseKeyRow.holds Try.pinned (OpenSpec.ofChange fnExactParseKeyWrong)

/-- 'laws.FnExactFirstNames': WHATEVER THE INPUT: true; the input reads as it did. -/
def fnExactFirstNamesSpec : ChangeSpec := { name := "fnExactFirstNames", fn := fun _ => fun
  | [d] => { results := [.lit (.bool true)], args := [d] }
  | _ => none }
def fnExactFirstNamesRow : OpenClaim := { program := "ytbnikloglnkddaa", sum := "5c63817e1c4edd75e69c7445403fb26724608b540be3638a68724617ff1c0b72", func := "loop.example/g01985/laws.FnExactFirstNames", spec := "fnExactFirstNames", unfollowed := true, recurses := true, apart := false }
def FnExactFirstNamesSaid : Prop := fnExactFirstNamesRow.holds Try.pinned (OpenSpec.ofChange fnExactFirstNamesSpec)

/-- ITS FALSE NEIGHBOUR: 'it returns false'. Refute it at one input. -/
def fnExactFirstNamesWrong : ChangeSpec := { name := "fnExactFirstNames", fn := fun _ => fun
  | [d] => { results := [.lit (.bool false)], args := [d] }
  | _ => none }
def FnExactFirstNamesWrongFalsely : Prop := fnExactFirstNamesRow.holds Try.pinned (OpenSpec.ofChange fnExactFirstNamesWrong)

/-- 'laws.FnExactAnswerOver': WHATEVER THE INPUT: true; the input reads as it did. -/
def fnExactAnswerOverSpec : ChangeSpec := { name := "fnExactAnswerOver", fn := fun _ => fun
  | [d1, d2] => { results := [.lit (.bool true)], args := [d1, d2] }
  | _ => none }
def fnExactAnswerOverRow : OpenClaim := { program := "ytbnikloglnkddaa", sum := "5c63817e1c4edd75e69c7445403fb26724608b540be3638a68724617ff1c0b72", func := "loop.example/g01985/laws.FnExactAnswerOver", spec := "fnExactAnswerOver", unfollowed := true, recurses := true, apart := false }
def FnExactAnswerOverSaid : Prop := fnExactAnswerOverRow.holds Try.pinned (OpenSpec.ofChange fnExactAnswerOverSpec)

/-- ITS FALSE NEIGHBOUR: 'it returns false'. Refute it at one input. -/
def fnExactAnswerOverWrong : ChangeSpec := { name := "fnExactAnswerOver", fn := fun _ => fun
  | [d1, d2] => { results := [.lit (.bool false)], args := [d1, d2] }
  | _ => none }
def FnExactAnswerOverWrongFalsely : Prop := fnExactAnswerOverRow.holds Try.pinned (OpenSpec.ofChange fnExactAnswerOverWrong)

/- THE SECOND FORM. 'bulk': how many values and letters a reading holds, each counted each time it is reached (what is shared counts as often as it is met; a slice's spare places count too). A statement '..UptoSaid' is the law's where the arguments, and the package variables that the reading takes, are together of bulk at most 1048576: NARROWER than '..Said'. Prove '..Said' where nothing that the law and all that it calls make is longer than what came in: it says more and counts as full. Else prove '..UptoSaid'. A law counts once. -/
mutual
def uptoBulk {H : Type} : DataW H → Nat
  | .lit (.string bytes) => bytes.length + 1
  | .lit _ => 1
  | .nil => 1
  | .ptr d => uptoBulk d + 1
  | .slice elems spare => uptoBulkAll elems + uptoBulkAll spare + 1
  | .agg parts => uptoBulkAll parts + 1
  | .iface _ d => uptoBulk d + 1
  | .map entries => uptoBulkEntries entries + 1
  | .held _ => 1
def uptoBulkAll {H : Type} : List (DataW H) → Nat
  | [] => 0
  | d :: r => uptoBulk d + uptoBulkAll r
def uptoBulkEntries {H : Type} : List (Lit × DataW H) → Nat
  | [] => 0
  | x :: r => uptoBulkEntry x + uptoBulkEntries r
def uptoBulkEntry {H : Type} : Lit × DataW H → Nat
  | (.string bytes, d) => bytes.length + uptoBulk d + 1
  | (_, d) => uptoBulk d + 1
 end
def uptoSmall : (H : Type) → List (DataW H) → Bool := fun _ ds => decide (uptoBulkAll ds ≤ 1048576)
def OpenSpec.upto (s : _root_.Go.ChangeSpec) : _root_.Go.OpenSpec := { _root_.Go.OpenSpec.ofChange s with cond := some uptoSmall }

/-- 'laws.FnExactUnfoldQuery', WHERE WHAT IT READS IS OF BULK AT MOST 1048576: true; the input reads as it did. -/
def fnExactUnfoldQueryUptoRow : OpenClaim := { program := "ytbnikloglnkddaa", sum := "5c63817e1c4edd75e69c7445403fb26724608b540be3638a68724617ff1c0b72", func := "loop.example/g01985/laws.FnExactUnfoldQuery", spec := "fnExactUnfoldQuery", unfollowed := true, recurses := true, apart := false, narrowed := true }
def FnExactUnfoldQueryUptoSaid : Prop := fnExactUnfoldQueryUptoRow.holds Try.pinned (OpenSpec.upto fnExactUnfoldQuerySpec)

/-- 'laws.FnExactIsRewriting', WHERE WHAT IT READS IS OF BULK AT MOST 1048576: true; the input reads as it did. -/
def fnExactIsRewritingUptoRow : OpenClaim := { program := "ytbnikloglnkddaa", sum := "5c63817e1c4edd75e69c7445403fb26724608b540be3638a68724617ff1c0b72", func := "loop.example/g01985/laws.FnExactIsRewriting", spec := "fnExactIsRewriting", unfollowed := true, recurses := true, apart := false, narrowed := true }
def FnExactIsRewritingUptoSaid : Prop := fnExactIsRewritingUptoRow.holds Try.pinned (OpenSpec.upto fnExactIsRewritingSpec)

/-- 'laws.FnExactNormalForm', WHERE WHAT IT READS IS OF BULK AT MOST 1048576: true; the input reads as it did. -/
def fnExactNormalFormUptoRow : OpenClaim := { program := "ytbnikloglnkddaa", sum := "5c63817e1c4edd75e69c7445403fb26724608b540be3638a68724617ff1c0b72", func := "loop.example/g01985/laws.FnExactNormalForm", spec := "fnExactNormalForm", unfollowed := true, recurses := true, apart := false, narrowed := true }
def FnExactNormalFormUptoSaid : Prop := fnExactNormalFormUptoRow.holds Try.pinned (OpenSpec.upto fnExactNormalFormSpec)

/-- 'laws.FnExactIsIsomorphic', WHERE WHAT IT READS IS OF BULK AT MOST 1048576: true; the input reads as it did. -/
def fnExactIsIsomorphicUptoRow : OpenClaim := { program := "ytbnikloglnkddaa", sum := "5c63817e1c4edd75e69c7445403fb26724608b540be3638a68724617ff1c0b72", func := "loop.example/g01985/laws.FnExactIsIsomorphic", spec := "fnExactIsIsomorphic", unfollowed := true, recurses := true, apart := false, narrowed := true }
def FnExactIsIsomorphicUptoSaid : Prop := fnExactIsIsomorphicUptoRow.holds Try.pinned (OpenSpec.upto fnExactIsIsomorphicSpec)

/-- 'laws.FnExactBagEquivalent', WHERE WHAT IT READS IS OF BULK AT MOST 1048576: true; the input reads as it did. -/
def fnExactBagEquivalentUptoRow : OpenClaim := { program := "ytbnikloglnkddaa", sum := "5c63817e1c4edd75e69c7445403fb26724608b540be3638a68724617ff1c0b72", func := "loop.example/g01985/laws.FnExactBagEquivalent", spec := "fnExactBagEquivalent", unfollowed := true, recurses := true, apart := false, narrowed := true }
def FnExactBagEquivalentUptoSaid : Prop := fnExactBagEquivalentUptoRow.holds Try.pinned (OpenSpec.upto fnExactBagEquivalentSpec)

/-- 'laws.FnExactFreeze', WHERE WHAT IT READS IS OF BULK AT MOST 1048576: true; the input reads as it did. -/
def fnExactFreezeUptoRow : OpenClaim := { program := "ytbnikloglnkddaa", sum := "5c63817e1c4edd75e69c7445403fb26724608b540be3638a68724617ff1c0b72", func := "loop.example/g01985/laws.FnExactFreeze", spec := "fnExactFreeze", unfollowed := true, recurses := true, apart := false, narrowed := true }
def FnExactFreezeUptoSaid : Prop := fnExactFreezeUptoRow.holds Try.pinned (OpenSpec.upto fnExactFreezeSpec)

/-- 'laws.FnExactCounterExample', WHERE WHAT IT READS IS OF BULK AT MOST 1048576: true; the input reads as it did. -/
def fnExactCounterExampleUptoRow : OpenClaim := { program := "ytbnikloglnkddaa", sum := "5c63817e1c4edd75e69c7445403fb26724608b540be3638a68724617ff1c0b72", func := "loop.example/g01985/laws.FnExactCounterExample", spec := "fnExactCounterExample", unfollowed := true, recurses := true, apart := false, narrowed := true }
def FnExactCounterExampleUptoSaid : Prop := fnExactCounterExampleUptoRow.holds Try.pinned (OpenSpec.upto fnExactCounterExampleSpec)

/-- 'laws.FnExactParseKey', WHERE WHAT IT READS IS OF BULK AT MOST 1048576: true; the input reads as it did. -/
def fnExactParseKeyUptoRow : OpenClaim := { program := "ytbnikloglnkddaa", sum := "5c63817e1c4edd75e69c7445403fb26724608b540be3638a68724617ff1c0b72", func := "loop.example/g01985/laws.FnExactParseKey", spec := "fnExactParseKey", apart := false, narrowed := true }
def FnExactParseKeyUptoSaid : Prop := fnExactParseKeyUptoRow.holds Try.pinned (OpenSpec.upto fnExactParseKeySpec)

/-- 'laws.FnExactFirstNames', WHERE WHAT IT READS IS OF BULK AT MOST 1048576: true; the input reads as it did. -/
def fnExactFirstNamesUptoRow : OpenClaim := { program := "ytbnikloglnkddaa", sum := "5c63817e1c4edd75e69c7445403fb26724608b540be3638a68724617ff1c0b72", func := "loop.example/g01985/laws.FnExactFirstNames", spec := "fnExactFirstNames", unfollowed := true, recurses := true, apart := false, narrowed := true }
def FnExactFirstNamesUptoSaid : Prop := fnExactFirstNamesUptoRow.holds Try.pinned (OpenSpec.upto fnExactFirstNamesSpec)

/-- 'laws.FnExactAnswerOver', WHERE WHAT IT READS IS OF BULK AT MOST 1048576: true; the input reads as it did. -/
def fnExactAnswerOverUptoRow : OpenClaim := { program := "ytbnikloglnkddaa", sum := "5c63817e1c4edd75e69c7445403fb26724608b540be3638a68724617ff1c0b72", func := "loop.example/g01985/laws.FnExactAnswerOver", spec := "fnExactAnswerOver", unfollowed := true, recurses := true, apart := false, narrowed := true }
def FnExactAnswerOverUptoSaid : Prop := fnExactAnswerOverUptoRow.holds Try.pinned (OpenSpec.upto fnExactAnswerOverSpec)

end Rows
end Go.Proofs.Ytbnikloglnkddaa
