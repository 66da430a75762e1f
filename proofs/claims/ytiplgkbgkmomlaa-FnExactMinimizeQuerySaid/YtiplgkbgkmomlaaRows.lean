/-
  No cell of these rows narrows 'for every input' (looked for: loops, veiled, ifaces, maps, wideKeys, modest, calm, conditions, laid).
  DERIVED. THE GIVEN ROWS OF THIS SEAT. 12 by the template 'for every input the law returns true; each argument reads behind the call as it read before'; 0 by the template 'total and deterministic' (their statements: YtiplgkbgkmomlaaTotals.lean).
  GIVEN WITH THE SEED: the statements are not yours to turn. If you find one false, say at which input.
  Laid BY PROGRAM, IN A SANDBOX (cutbox-rows.mjs): the forced cells as the released guide's own fill.sh prints them over the translation 0cbc2619c7270b08… (all of the seat's roots in one cut). By AI agents, Wed Nov 11 2026. No macro, syntax, notation, axiom, sorry.
-/
import Derived.Test.YtiplgkbgkmomlaaChecked
import GoSem.Claim
import GoSem.ClaimJoined
import GoSem.ClaimMapViews
import Derived.JoinedTies
import Derived.KernelRfl
namespace Go.Proofs.Ytiplgkbgkmomlaa
/- THE CELL 'sum', in the pinned program and in every row, IS THE sha256 OF THE DUMP (.gsa) THAT YtiplgkbgkmomlaaProg.lean LOADS. Nothing in Lean hashes anything: it is a label: what it is worth is what the hold of that sum in a sandbox is worth. -/
noncomputable def Try.pinned : Pinned := { name := "ytiplgkbgkmomlaa", sum := "0cbc2619c7270b084c1d9234cac520f64dbb301cf8f97888d55c04479fa5d8d4", checked := Try.checked }
namespace Rows
def none {H : Type} : Left H := { results := [], args := [] }

/-- 'laws.FnViolations': WHATEVER THE INPUT: true; the input reads as it did. -/
def fnViolationsSpec : ChangeSpec := { name := "fnViolations", fn := fun _ => fun
  | [d] => { results := [.lit (.bool true)], args := [d] }
  | _ => none }
def fnViolationsRow : OpenClaim := { program := "ytiplgkbgkmomlaa", sum := "0cbc2619c7270b084c1d9234cac520f64dbb301cf8f97888d55c04479fa5d8d4", func := "loop.example/g01985/laws.FnViolations", spec := "fnViolations", apart := false }
def FnViolationsSaid : Prop := fnViolationsRow.holds Try.pinned (OpenSpec.ofChange fnViolationsSpec)

/-- ITS FALSE NEIGHBOUR: 'it returns false'. Refute it at one input. -/
def fnViolationsWrong : ChangeSpec := { name := "fnViolations", fn := fun _ => fun
  | [d] => { results := [.lit (.bool false)], args := [d] }
  | _ => none }
def FnViolationsWrongFalsely : Prop := fnViolationsRow.holds Try.pinned (OpenSpec.ofChange fnViolationsWrong)

/-- 'laws.FnExactFirstNames': WHATEVER THE INPUT: true; the input reads as it did. -/
def fnExactFirstNamesSpec : ChangeSpec := { name := "fnExactFirstNames", fn := fun _ => fun
  | [d] => { results := [.lit (.bool true)], args := [d] }
  | _ => none }
def fnExactFirstNamesRow : OpenClaim := { program := "ytiplgkbgkmomlaa", sum := "0cbc2619c7270b084c1d9234cac520f64dbb301cf8f97888d55c04479fa5d8d4", func := "loop.example/g01985/laws.FnExactFirstNames", spec := "fnExactFirstNames", unfollowed := true, recurses := true, apart := false }
def FnExactFirstNamesSaid : Prop := fnExactFirstNamesRow.holds Try.pinned (OpenSpec.ofChange fnExactFirstNamesSpec)

/-- ITS FALSE NEIGHBOUR: 'it returns false'. Refute it at one input. -/
def fnExactFirstNamesWrong : ChangeSpec := { name := "fnExactFirstNames", fn := fun _ => fun
  | [d] => { results := [.lit (.bool false)], args := [d] }
  | _ => none }
def FnExactFirstNamesWrongFalsely : Prop := fnExactFirstNamesRow.holds Try.pinned (OpenSpec.ofChange fnExactFirstNamesWrong)

/-- 'laws.FnExactParseKey': WHATEVER THE INPUT: true; the input reads as it did. -/
def fnExactParseKeySpec : ChangeSpec := { name := "fnExactParseKey", fn := fun _ => fun
  | [d1, d2] => { results := [.lit (.bool true)], args := [d1, d2] }
  | _ => none }
def fnExactParseKeyRow : OpenClaim := { program := "ytiplgkbgkmomlaa", sum := "0cbc2619c7270b084c1d9234cac520f64dbb301cf8f97888d55c04479fa5d8d4", func := "loop.example/g01985/laws.FnExactParseKey", spec := "fnExactParseKey", apart := false }
def FnExactParseKeySaid : Prop := fnExactParseKeyRow.holds Try.pinned (OpenSpec.ofChange fnExactParseKeySpec)

/-- ITS FALSE NEIGHBOUR: 'it returns false'. Refute it at one input. -/
def fnExactParseKeyWrong : ChangeSpec := { name := "fnExactParseKey", fn := fun _ => fun
  | [d1, d2] => { results := [.lit (.bool false)], args := [d1, d2] }
  | _ => none }
def FnExactParseKeyWrongFalsely : Prop := fnExactParseKeyRow.holds Try.pinned (OpenSpec.ofChange fnExactParseKeyWrong)

/-- 'laws.FnExactWithoutAtom': WHATEVER THE INPUT: true; the input reads as it did. -/
def fnExactWithoutAtomSpec : ChangeSpec := { name := "fnExactWithoutAtom", fn := fun _ => fun
  | [d1, d2, d3] => { results := [.lit (.bool true)], args := [d1, d2, d3] }
  | _ => none }
def fnExactWithoutAtomRow : OpenClaim := { program := "ytiplgkbgkmomlaa", sum := "0cbc2619c7270b084c1d9234cac520f64dbb301cf8f97888d55c04479fa5d8d4", func := "loop.example/g01985/laws.FnExactWithoutAtom", spec := "fnExactWithoutAtom", apart := false }
def FnExactWithoutAtomSaid : Prop := fnExactWithoutAtomRow.holds Try.pinned (OpenSpec.ofChange fnExactWithoutAtomSpec)

/-- ITS FALSE NEIGHBOUR: 'it returns false'. Refute it at one input. -/
def fnExactWithoutAtomWrong : ChangeSpec := { name := "fnExactWithoutAtom", fn := fun _ => fun
  | [d1, d2, d3] => { results := [.lit (.bool false)], args := [d1, d2, d3] }
  | _ => none }
def FnExactWithoutAtomWrongFalsely : Prop := fnExactWithoutAtomRow.holds Try.pinned (OpenSpec.ofChange fnExactWithoutAtomWrong)

/-- 'laws.FnTerms': WHATEVER THE INPUT: true; the input reads as it did. -/
def fnTermsSpec : ChangeSpec := { name := "fnTerms", fn := fun _ => fun
  | [d] => { results := [.lit (.bool true)], args := [d] }
  | _ => none }
def fnTermsRow : OpenClaim := { program := "ytiplgkbgkmomlaa", sum := "0cbc2619c7270b084c1d9234cac520f64dbb301cf8f97888d55c04479fa5d8d4", func := "loop.example/g01985/laws.FnTerms", spec := "fnTerms", unfollowed := true, recurses := true, apart := false }
def FnTermsSaid : Prop := fnTermsRow.holds Try.pinned (OpenSpec.ofChange fnTermsSpec)

/-- ITS FALSE NEIGHBOUR: 'it returns false'. Refute it at one input. -/
def fnTermsWrong : ChangeSpec := { name := "fnTerms", fn := fun _ => fun
  | [d] => { results := [.lit (.bool false)], args := [d] }
  | _ => none }
def FnTermsWrongFalsely : Prop := fnTermsRow.holds Try.pinned (OpenSpec.ofChange fnTermsWrong)

/-- 'laws.FnExactIsRedundant': WHATEVER THE INPUT: true; the input reads as it did. -/
def fnExactIsRedundantSpec : ChangeSpec := { name := "fnExactIsRedundant", fn := fun _ => fun
  | [d1, d2, d3] => { results := [.lit (.bool true)], args := [d1, d2, d3] }
  | _ => none }
def fnExactIsRedundantRow : OpenClaim := { program := "ytiplgkbgkmomlaa", sum := "0cbc2619c7270b084c1d9234cac520f64dbb301cf8f97888d55c04479fa5d8d4", func := "loop.example/g01985/laws.FnExactIsRedundant", spec := "fnExactIsRedundant", unfollowed := true, recurses := true, apart := false }
def FnExactIsRedundantSaid : Prop := fnExactIsRedundantRow.holds Try.pinned (OpenSpec.ofChange fnExactIsRedundantSpec)

/-- ITS FALSE NEIGHBOUR: 'it returns false'. Refute it at one input. -/
def fnExactIsRedundantWrong : ChangeSpec := { name := "fnExactIsRedundant", fn := fun _ => fun
  | [d1, d2, d3] => { results := [.lit (.bool false)], args := [d1, d2, d3] }
  | _ => none }
def FnExactIsRedundantWrongFalsely : Prop := fnExactIsRedundantRow.holds Try.pinned (OpenSpec.ofChange fnExactIsRedundantWrong)

/-- 'laws.FnExactIsMinimal': WHATEVER THE INPUT: true; the input reads as it did. -/
def fnExactIsMinimalSpec : ChangeSpec := { name := "fnExactIsMinimal", fn := fun _ => fun
  | [d1, d2] => { results := [.lit (.bool true)], args := [d1, d2] }
  | _ => none }
def fnExactIsMinimalRow : OpenClaim := { program := "ytiplgkbgkmomlaa", sum := "0cbc2619c7270b084c1d9234cac520f64dbb301cf8f97888d55c04479fa5d8d4", func := "loop.example/g01985/laws.FnExactIsMinimal", spec := "fnExactIsMinimal", unfollowed := true, recurses := true, apart := false }
def FnExactIsMinimalSaid : Prop := fnExactIsMinimalRow.holds Try.pinned (OpenSpec.ofChange fnExactIsMinimalSpec)

/-- ITS FALSE NEIGHBOUR: 'it returns false'. Refute it at one input. -/
def fnExactIsMinimalWrong : ChangeSpec := { name := "fnExactIsMinimal", fn := fun _ => fun
  | [d1, d2] => { results := [.lit (.bool false)], args := [d1, d2] }
  | _ => none }
def FnExactIsMinimalWrongFalsely : Prop := fnExactIsMinimalRow.holds Try.pinned (OpenSpec.ofChange fnExactIsMinimalWrong)

/-- 'laws.FnExactNormalForm': WHATEVER THE INPUT: true; the input reads as it did. -/
def fnExactNormalFormSpec : ChangeSpec := { name := "fnExactNormalForm", fn := fun _ => fun
  | [d1, d2] => { results := [.lit (.bool true)], args := [d1, d2] }
  | _ => none }
def fnExactNormalFormRow : OpenClaim := { program := "ytiplgkbgkmomlaa", sum := "0cbc2619c7270b084c1d9234cac520f64dbb301cf8f97888d55c04479fa5d8d4", func := "loop.example/g01985/laws.FnExactNormalForm", spec := "fnExactNormalForm", unfollowed := true, recurses := true, apart := false }
def FnExactNormalFormSaid : Prop := fnExactNormalFormRow.holds Try.pinned (OpenSpec.ofChange fnExactNormalFormSpec)

/-- ITS FALSE NEIGHBOUR: 'it returns false'. Refute it at one input. -/
def fnExactNormalFormWrong : ChangeSpec := { name := "fnExactNormalForm", fn := fun _ => fun
  | [d1, d2] => { results := [.lit (.bool false)], args := [d1, d2] }
  | _ => none }
def FnExactNormalFormWrongFalsely : Prop := fnExactNormalFormRow.holds Try.pinned (OpenSpec.ofChange fnExactNormalFormWrong)

/-- 'laws.FnExactIsIsomorphic': WHATEVER THE INPUT: true; the input reads as it did. -/
def fnExactIsIsomorphicSpec : ChangeSpec := { name := "fnExactIsIsomorphic", fn := fun _ => fun
  | [d1, d2, d3] => { results := [.lit (.bool true)], args := [d1, d2, d3] }
  | _ => none }
def fnExactIsIsomorphicRow : OpenClaim := { program := "ytiplgkbgkmomlaa", sum := "0cbc2619c7270b084c1d9234cac520f64dbb301cf8f97888d55c04479fa5d8d4", func := "loop.example/g01985/laws.FnExactIsIsomorphic", spec := "fnExactIsIsomorphic", unfollowed := true, recurses := true, apart := false }
def FnExactIsIsomorphicSaid : Prop := fnExactIsIsomorphicRow.holds Try.pinned (OpenSpec.ofChange fnExactIsIsomorphicSpec)

/-- ITS FALSE NEIGHBOUR: 'it returns false'. Refute it at one input. -/
def fnExactIsIsomorphicWrong : ChangeSpec := { name := "fnExactIsIsomorphic", fn := fun _ => fun
  | [d1, d2, d3] => { results := [.lit (.bool false)], args := [d1, d2, d3] }
  | _ => none }
def FnExactIsIsomorphicWrongFalsely : Prop := fnExactIsIsomorphicRow.holds Try.pinned (OpenSpec.ofChange fnExactIsIsomorphicWrong)

/-- 'laws.FnExactBagEquivalent': WHATEVER THE INPUT: true; the input reads as it did. -/
def fnExactBagEquivalentSpec : ChangeSpec := { name := "fnExactBagEquivalent", fn := fun _ => fun
  | [d1, d2, d3] => { results := [.lit (.bool true)], args := [d1, d2, d3] }
  | _ => none }
def fnExactBagEquivalentRow : OpenClaim := { program := "ytiplgkbgkmomlaa", sum := "0cbc2619c7270b084c1d9234cac520f64dbb301cf8f97888d55c04479fa5d8d4", func := "loop.example/g01985/laws.FnExactBagEquivalent", spec := "fnExactBagEquivalent", unfollowed := true, recurses := true, apart := false }
def FnExactBagEquivalentSaid : Prop := fnExactBagEquivalentRow.holds Try.pinned (OpenSpec.ofChange fnExactBagEquivalentSpec)

/-- ITS FALSE NEIGHBOUR: 'it returns false'. Refute it at one input. -/
def fnExactBagEquivalentWrong : ChangeSpec := { name := "fnExactBagEquivalent", fn := fun _ => fun
  | [d1, d2, d3] => { results := [.lit (.bool false)], args := [d1, d2, d3] }
  | _ => none }
def FnExactBagEquivalentWrongFalsely : Prop := fnExactBagEquivalentRow.holds Try.pinned (OpenSpec.ofChange fnExactBagEquivalentWrong)

/-- 'laws.FnExactMinimizeQuery': WHATEVER THE INPUT: true; the input reads as it did. -/
def fnExactMinimizeQuerySpec : ChangeSpec := { name := "fnExactMinimizeQuery", fn := fun _ => fun
  | [d1, d2] => { results := [.lit (.bool true)], args := [d1, d2] }
  | _ => none }
def fnExactMinimizeQueryRow : OpenClaim := { program := "ytiplgkbgkmomlaa", sum := "0cbc2619c7270b084c1d9234cac520f64dbb301cf8f97888d55c04479fa5d8d4", func := "loop.example/g01985/laws.FnExactMinimizeQuery", spec := "fnExactMinimizeQuery", unfollowed := true, recurses := true, apart := false }
def FnExactMinimizeQuerySaid : Prop := fnExactMinimizeQueryRow.holds Try.pinned (OpenSpec.ofChange fnExactMinimizeQuerySpec)

/-- ITS FALSE NEIGHBOUR: 'it returns false'. Refute it at one input. -/
def fnExactMinimizeQueryWrong : ChangeSpec := { name := "fnExactMinimizeQuery", fn := fun _ => fun
  | [d1, d2] => { results := [.lit (.bool false)], args := [d1, d2] }
  | _ => none }
def FnExactMinimizeQueryWrongFalsely : Prop := fnExactMinimizeQueryRow.holds Try.pinned (OpenSpec.ofChange fnExactMinimizeQueryWrong)

/-- 'laws.FnExactUnfoldQuery': WHATEVER THE INPUT: true; the input reads as it did. -/
def fnExactUnfoldQuerySpec : ChangeSpec := { name := "fnExactUnfoldQuery", fn := fun _ => fun
  | [d1, d2, d3] => { results := [.lit (.bool true)], args := [d1, d2, d3] }
  | _ => none }
def fnExactUnfoldQueryRow : OpenClaim := { program := "ytiplgkbgkmomlaa", sum := "0cbc2619c7270b084c1d9234cac520f64dbb301cf8f97888d55c04479fa5d8d4", func := "loop.example/g01985/laws.FnExactUnfoldQuery", spec := "fnExactUnfoldQuery", unfollowed := true, recurses := true, apart := false }
def FnExactUnfoldQuerySaid : Prop := fnExactUnfoldQueryRow.holds Try.pinned (OpenSpec.ofChange fnExactUnfoldQuerySpec)

/-- ITS FALSE NEIGHBOUR: 'it returns false'. Refute it at one input. -/
def fnExactUnfoldQueryWrong : ChangeSpec := { name := "fnExactUnfoldQuery", fn := fun _ => fun
  | [d1, d2, d3] => { results := [.lit (.bool false)], args := [d1, d2, d3] }
  | _ => none }
def FnExactUnfoldQueryWrongFalsely : Prop := fnExactUnfoldQueryRow.holds Try.pinned (OpenSpec.ofChange fnExactUnfoldQueryWrong)

/- THE SECOND FORM. 'bulk': how many values and letters a reading holds, each counted each time it is reached (what is shared counts as often as it is met; a slice's spare places count too). A statement '..UptoSaid' is the law's where the arguments, and the package variables that the reading takes, are together of bulk at most 1048576: NARROWER than '..Said'. Prove '..Said' where nothing that the law and all that it calls make is longer than what came in: it says more and counts as full. Else prove '..UptoSaid'. A law counts once. -/
mutual
def uptoBulk {H : Type} : DataW H → Nat
  | .lit (.string bytes) => bytes.length + 1
  | .lit _ => 1
  | .nil => 1
  | .ptr d => uptoBulk d + 1
  | .slice elems spare => uptoBulkAll elems + uptoBulkAll spare + 1
  | .agg parts => uptoBulkAll parts + 1
  | .iface _ d => uptoBulk d + 1
  | .map entries => uptoBulkEntries entries + 1
  | .held _ => 1
def uptoBulkAll {H : Type} : List (DataW H) → Nat
  | [] => 0
  | d :: r => uptoBulk d + uptoBulkAll r
def uptoBulkEntries {H : Type} : List (Lit × DataW H) → Nat
  | [] => 0
  | x :: r => uptoBulkEntry x + uptoBulkEntries r
def uptoBulkEntry {H : Type} : Lit × DataW H → Nat
  | (.string bytes, d) => bytes.length + uptoBulk d + 1
  | (_, d) => uptoBulk d + 1
 end
def uptoSmall : (H : Type) → List (DataW H) → Bool := fun _ ds => decide (uptoBulkAll ds ≤ 1048576)
def OpenSpec.upto (s : _root_.Go.ChangeSpec) : _root_.Go.OpenSpec := { _root_.Go.OpenSpec.ofChange s with cond := some uptoSmall }

/-- 'laws.FnViolations', WHERE WHAT IT READS IS OF BULK AT MOST 1048576: true; the input reads as it did. -/
def fnViolationsUptoRow : OpenClaim := { program := "ytiplgkbgkmomlaa", sum := "0cbc2619c7270b084c1d9234cac520f64dbb301cf8f97888d55c04479fa5d8d4", func := "loop.example/g01985/laws.FnViolations", spec := "fnViolations", apart := false, narrowed := true }
def FnViolationsUptoSaid : Prop := fnViolationsUptoRow.holds Try.pinned (OpenSpec.upto fnViolationsSpec)

/-- 'laws.FnExactFirstNames', WHERE WHAT IT READS IS OF BULK AT MOST 1048576: true; the input reads as it did. -/
def fnExactFirstNamesUptoRow : OpenClaim := { program := "ytiplgkbgkmomlaa", sum := "0cbc2619c7270b084c1d9234cac520f64dbb301cf8f97888d55c04479fa5d8d4", func := "loop.example/g01985/laws.FnExactFirstNames", spec := "fnExactFirstNames", unfollowed := true, recurses := true, apart := false, narrowed := true }
def FnExactFirstNamesUptoSaid : Prop := fnExactFirstNamesUptoRow.holds Try.pinned (OpenSpec.upto fnExactFirstNamesSpec)

/-- 'laws.FnExactParseKey', WHERE WHAT IT READS IS OF BULK AT MOST 1048576: true; the input reads as it did. -/
def fnExactParseKeyUptoRow : OpenClaim := { program := "ytiplgkbgkmomlaa", sum := "0cbc2619c7270b084c1d9234cac520f64dbb301cf8f97888d55c04479fa5d8d4", func := "loop.example/g01985/laws.FnExactParseKey", spec := "fnExactParseKey", apart := false, narrowed := true }
def FnExactParseKeyUptoSaid : Prop := fnExactParseKeyUptoRow.holds Try.pinned (OpenSpec.upto fnExactParseKeySpec)

/-- 'laws.FnExactWithoutAtom', WHERE WHAT IT READS IS OF BULK AT MOST 1048576: true; the input reads as it did. -/
def fnExactWithoutAtomUptoRow : OpenClaim := { program := "ytiplgkbgkmomlaa", sum := "0cbc2619c7270b084c1d9234cac520f64dbb301cf8f97888d55c04479fa5d8d4", func := "loop.example/g01985/laws.FnExactWithoutAtom", spec := "fnExactWithoutAtom", apart := false, narrowed := true }
def FnExactWithoutAtomUptoSaid : Prop := fnExactWithoutAtomUptoRow.holds Try.pinned (OpenSpec.upto fnExactWithoutAtomSpec)

/-- 'laws.FnTerms', WHERE WHAT IT READS IS OF BULK AT MOST 1048576: true; the input reads as it did. -/
def fnTermsUptoRow : OpenClaim := { program := "ytiplgkbgkmomlaa", sum := "0cbc2619c7270b084c1d9234cac520f64dbb301cf8f97888d55c04479fa5d8d4", func := "loop.example/g01985/laws.FnTerms", spec := "fnTerms", unfollowed := true, recurses := true, apart := false, narrowed := true }
def FnTermsUptoSaid : Prop := fnTermsUptoRow.holds Try.pinned (OpenSpec.upto fnTermsSpec)

/-- 'laws.FnExactIsRedundant', WHERE WHAT IT READS IS OF BULK AT MOST 1048576: true; the input reads as it did. -/
def fnExactIsRedundantUptoRow : OpenClaim := { program := "ytiplgkbgkmomlaa", sum := "0cbc2619c7270b084c1d9234cac520f64dbb301cf8f97888d55c04479fa5d8d4", func := "loop.example/g01985/laws.FnExactIsRedundant", spec := "fnExactIsRedundant", unfollowed := true, recurses := true, apart := false, narrowed := true }
def FnExactIsRedundantUptoSaid : Prop := fnExactIsRedundantUptoRow.holds Try.pinned (OpenSpec.upto fnExactIsRedundantSpec)

/-- 'laws.FnExactIsMinimal', WHERE WHAT IT READS IS OF BULK AT MOST 1048576: true; the input reads as it did. -/
def fnExactIsMinimalUptoRow : OpenClaim := { program := "ytiplgkbgkmomlaa", sum := "0cbc2619c7270b084c1d9234cac520f64dbb301cf8f97888d55c04479fa5d8d4", func := "loop.example/g01985/laws.FnExactIsMinimal", spec := "fnExactIsMinimal", unfollowed := true, recurses := true, apart := false, narrowed := true }
def FnExactIsMinimalUptoSaid : Prop := fnExactIsMinimalUptoRow.holds Try.pinned (OpenSpec.upto fnExactIsMinimalSpec)

/-- 'laws.FnExactNormalForm', WHERE WHAT IT READS IS OF BULK AT MOST 1048576: true; the input reads as it did. -/
def fnExactNormalFormUptoRow : OpenClaim := { program := "ytiplgkbgkmomlaa", sum := "0cbc2619c7270b084c1d9234cac520f64dbb301cf8f97888d55c04479fa5d8d4", func := "loop.example/g01985/laws.FnExactNormalForm", spec := "fnExactNormalForm", unfollowed := true, recurses := true, apart := false, narrowed := true }
def FnExactNormalFormUptoSaid : Prop := fnExactNormalFormUptoRow.holds Try.pinned (OpenSpec.upto fnExactNormalFormSpec)

/-- 'laws.FnExactIsIsomorphic', WHERE WHAT IT READS IS OF BULK AT MOST 1048576: true; the input reads as it did. -/
def fnExactIsIsomorphicUptoRow : OpenClaim := { program := "ytiplgkbgkmomlaa", sum := "0cbc2619c7270b084c1d9234cac520f64dbb301cf8f97888d55c04479fa5d8d4", func := "loop.example/g01985/laws.FnExactIsIsomorphic", spec := "fnExactIsIsomorphic", unfollowed := true, recurses := true, apart := false, narrowed := true }
def FnExactIsIsomorphicUptoSaid : Prop := fnExactIsIsomorphicUptoRow.holds Try.pinned (OpenSpec.upto fnExactIsIsomorphicSpec)

/-- 'laws.FnExactBagEquivalent', WHERE WHAT IT READS IS OF BULK AT MOST 1048576: true; the input reads as it did. -/
def fnExactBagEquivalentUptoRow : OpenClaim := { program := "ytiplgkbgkmomlaa", sum := "0cbc2619c7270b084c1d9234cac520f64dbb301cf8f97888d55c04479fa5d8d4", func := "loop.example/g01985/laws.FnExactBagEquivalent", spec := "fnExactBagEquivalent", unfollowed := true, recurses := true, apart := false, narrowed := true }
def FnExactBagEquivalentUptoSaid : Prop := fnExactBagEquivalentUptoRow.holds Try.pinned (OpenSpec.upto fnExactBagEquivalentSpec)

/-- 'laws.FnExactMinimizeQuery', WHERE WHAT IT READS IS OF BULK AT MOST 1048576: true; the input reads as it did. -/
def fnExactMinimizeQueryUptoRow : OpenClaim := { program := "ytiplgkbgkmomlaa", sum := "0cbc2619c7270b084c1d9234cac520f64dbb301cf8f97888d55c04479fa5d8d4", func := "loop.example/g01985/laws.FnExactMinimizeQuery", spec := "fnExactMinimizeQuery", unfollowed := true, recurses := true, apart := false, narrowed := true }
def FnExactMinimizeQueryUptoSaid : Prop := fnExactMinimizeQueryUptoRow.holds Try.pinned (OpenSpec.upto fnExactMinimizeQuerySpec)

/-- 'laws.FnExactUnfoldQuery', WHERE WHAT IT READS IS OF BULK AT MOST 1048576: true; the input reads as it did. -/
def fnExactUnfoldQueryUptoRow : OpenClaim := { program := "ytiplgkbgkmomlaa", sum := "0cbc2619c7270b084c1d9234cac520f64dbb301cf8f97888d55c04479fa5d8d4", func := "loop.example/g01985/laws.FnExactUnfoldQuery", spec := "fnExactUnfoldQuery", unfollowed := true, recurses := true, apart := false, narrowed := true }
def FnExactUnfoldQueryUptoSaid : Prop := fnExactUnfoldQueryUptoRow.holds Try.pinned (OpenSpec.upto fnExactUnfoldQuerySpec)

end Rows
end Go.Proofs.Ytiplgkbgkmomlaa
