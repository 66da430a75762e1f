/-
  No cell of these rows narrows 'for every input' (looked for: loops, veiled, ifaces, maps, wideKeys, modest, calm, conditions, laid).
  DERIVED. THE GIVEN ROWS OF THIS SEAT. 9 by the template 'for every input the law returns true; each argument reads behind the call as it read before'; 0 by the template 'total and deterministic' (their statements: YtobopgbdciffdaaTotals.lean).
  GIVEN WITH THE SEED: the statements are not yours to turn. If you find one false, say at which input.
  Laid BY PROGRAM, IN A SANDBOX (cutbox-rows.mjs): the forced cells as the released guide's own fill.sh prints them over the translation 4d286ecc9d319bfe… (all of the seat's roots in one cut). By AI agents, Wed Nov 11 2026. No macro, syntax, notation, axiom, sorry.
-/
import Derived.Test.YtobopgbdciffdaaChecked
import GoSem.Claim
import GoSem.ClaimJoined
import GoSem.ClaimMapViews
import Derived.JoinedTies
import Derived.KernelRfl
namespace Go.Proofs.Ytobopgbdciffdaa
/- THE CELL 'sum', in the pinned program and in every row, IS THE sha256 OF THE DUMP (.gsa) THAT YtobopgbdciffdaaProg.lean LOADS. Nothing in Lean hashes anything: it is a label: what it is worth is what the hold of that sum in a sandbox is worth. -/
noncomputable def Try.pinned : Pinned := { name := "ytobopgbdciffdaa", sum := "4d286ecc9d319bfed81b7c12fa54a530183a783258b91cb9a0e5fc9caac02275", checked := Try.checked }
namespace Rows
def none {H : Type} : Left H := { results := [], args := [] }

/-- 'laws.FnViolations': WHATEVER THE INPUT: true; the input reads as it did. -/
def fnViolationsSpec : ChangeSpec := { name := "fnViolations", fn := fun _ => fun
  | [d] => { results := [.lit (.bool true)], args := [d] }
  | _ => none }
def fnViolationsRow : OpenClaim := { program := "ytobopgbdciffdaa", sum := "4d286ecc9d319bfed81b7c12fa54a530183a783258b91cb9a0e5fc9caac02275", func := "loop.example/g01985/laws.FnViolations", spec := "fnViolations", apart := false }
def FnViolationsSaid : Prop := fnViolationsRow.holds Try.pinned (OpenSpec.ofChange fnViolationsSpec)

/-- ITS FALSE NEIGHBOUR: 'it returns false'. Refute it at one input. -/
def fnViolationsWrong : ChangeSpec := { name := "fnViolations", fn := fun _ => fun
  | [d] => { results := [.lit (.bool false)], args := [d] }
  | _ => none }
def FnViolationsWrongFalsely : Prop := fnViolationsRow.holds Try.pinned (OpenSpec.ofChange fnViolationsWrong)

/-- 'laws.FnExactAreViews': WHATEVER THE INPUT: true; the input reads as it did. -/
def fnExactAreViewsSpec : ChangeSpec := { name := "fnExactAreViews", fn := fun _ => fun
  | [d1, d2] => { results := [.lit (.bool true)], args := [d1, d2] }
  | _ => none }
def fnExactAreViewsRow : OpenClaim := { program := "ytobopgbdciffdaa", sum := "4d286ecc9d319bfed81b7c12fa54a530183a783258b91cb9a0e5fc9caac02275", func := "loop.example/g01985/laws.FnExactAreViews", spec := "fnExactAreViews", apart := false }
def FnExactAreViewsSaid : Prop := fnExactAreViewsRow.holds Try.pinned (OpenSpec.ofChange fnExactAreViewsSpec)

/-- ITS FALSE NEIGHBOUR: 'it returns false'. Refute it at one input. -/
def fnExactAreViewsWrong : ChangeSpec := { name := "fnExactAreViews", fn := fun _ => fun
  | [d1, d2] => { results := [.lit (.bool false)], args := [d1, d2] }
  | _ => none }
def FnExactAreViewsWrongFalsely : Prop := fnExactAreViewsRow.holds Try.pinned (OpenSpec.ofChange fnExactAreViewsWrong)

/-- 'laws.FnExactParseKey': WHATEVER THE INPUT: true; the input reads as it did. -/
def fnExactParseKeySpec : ChangeSpec := { name := "fnExactParseKey", fn := fun _ => fun
  | [d1, d2] => { results := [.lit (.bool true)], args := [d1, d2] }
  | _ => none }
def fnExactParseKeyRow : OpenClaim := { program := "ytobopgbdciffdaa", sum := "4d286ecc9d319bfed81b7c12fa54a530183a783258b91cb9a0e5fc9caac02275", func := "loop.example/g01985/laws.FnExactParseKey", spec := "fnExactParseKey", apart := false }
def FnExactParseKeySaid : Prop := fnExactParseKeyRow.holds Try.pinned (OpenSpec.ofChange fnExactParseKeySpec)

/-- ITS FALSE NEIGHBOUR: 'it returns false'. Refute it at one input. -/
def fnExactParseKeyWrong : ChangeSpec := { name := "fnExactParseKey", fn := fun _ => fun
  | [d1, d2] => { results := [.lit (.bool false)], args := [d1, d2] }
  | _ => none }
def FnExactParseKeyWrongFalsely : Prop := fnExactParseKeyRow.holds Try.pinned (OpenSpec.ofChange fnExactParseKeyWrong)

/-- 'laws.FnExactWithoutAtom': WHATEVER THE INPUT: true; the input reads as it did. -/
def fnExactWithoutAtomSpec : ChangeSpec := { name := "fnExactWithoutAtom", fn := fun _ => fun
  | [d1, d2, d3] => { results := [.lit (.bool true)], args := [d1, d2, d3] }
  | _ => none }
def fnExactWithoutAtomRow : OpenClaim := { program := "ytobopgbdciffdaa", sum := "4d286ecc9d319bfed81b7c12fa54a530183a783258b91cb9a0e5fc9caac02275", func := "loop.example/g01985/laws.FnExactWithoutAtom", spec := "fnExactWithoutAtom", apart := false }
def FnExactWithoutAtomSaid : Prop := fnExactWithoutAtomRow.holds Try.pinned (OpenSpec.ofChange fnExactWithoutAtomSpec)

/-- ITS FALSE NEIGHBOUR: 'it returns false'. Refute it at one input. -/
def fnExactWithoutAtomWrong : ChangeSpec := { name := "fnExactWithoutAtom", fn := fun _ => fun
  | [d1, d2, d3] => { results := [.lit (.bool false)], args := [d1, d2, d3] }
  | _ => none }
def FnExactWithoutAtomWrongFalsely : Prop := fnExactWithoutAtomRow.holds Try.pinned (OpenSpec.ofChange fnExactWithoutAtomWrong)

/-- 'laws.FnTerms': WHATEVER THE INPUT: true; the input reads as it did. -/
def fnTermsSpec : ChangeSpec := { name := "fnTerms", fn := fun _ => fun
  | [d] => { results := [.lit (.bool true)], args := [d] }
  | _ => none }
def fnTermsRow : OpenClaim := { program := "ytobopgbdciffdaa", sum := "4d286ecc9d319bfed81b7c12fa54a530183a783258b91cb9a0e5fc9caac02275", func := "loop.example/g01985/laws.FnTerms", spec := "fnTerms", unfollowed := true, recurses := true, apart := false }
def FnTermsSaid : Prop := fnTermsRow.holds Try.pinned (OpenSpec.ofChange fnTermsSpec)

/-- ITS FALSE NEIGHBOUR: 'it returns false'. Refute it at one input. -/
def fnTermsWrong : ChangeSpec := { name := "fnTerms", fn := fun _ => fun
  | [d] => { results := [.lit (.bool false)], args := [d] }
  | _ => none }
def FnTermsWrongFalsely : Prop := fnTermsRow.holds Try.pinned (OpenSpec.ofChange fnTermsWrong)

/-- 'laws.FnExactIsRedundant': WHATEVER THE INPUT: true; the input reads as it did. -/
def fnExactIsRedundantSpec : ChangeSpec := { name := "fnExactIsRedundant", fn := fun _ => fun
  | [d1, d2, d3] => { results := [.lit (.bool true)], args := [d1, d2, d3] }
  | _ => none }
def fnExactIsRedundantRow : OpenClaim := { program := "ytobopgbdciffdaa", sum := "4d286ecc9d319bfed81b7c12fa54a530183a783258b91cb9a0e5fc9caac02275", func := "loop.example/g01985/laws.FnExactIsRedundant", spec := "fnExactIsRedundant", unfollowed := true, recurses := true, apart := false }
def FnExactIsRedundantSaid : Prop := fnExactIsRedundantRow.holds Try.pinned (OpenSpec.ofChange fnExactIsRedundantSpec)

/-- ITS FALSE NEIGHBOUR: 'it returns false'. Refute it at one input. -/
def fnExactIsRedundantWrong : ChangeSpec := { name := "fnExactIsRedundant", fn := fun _ => fun
  | [d1, d2, d3] => { results := [.lit (.bool false)], args := [d1, d2, d3] }
  | _ => none }
def FnExactIsRedundantWrongFalsely : Prop := fnExactIsRedundantRow.holds Try.pinned (OpenSpec.ofChange fnExactIsRedundantWrong)

/-- 'laws.FnExactIsMinimal': WHATEVER THE INPUT: true; the input reads as it did. -/
def fnExactIsMinimalSpec : ChangeSpec := { name := "fnExactIsMinimal", fn := fun _ => fun
  | [d1, d2] => { results := [.lit (.bool true)], args := [d1, d2] }
  | _ => none }
def fnExactIsMinimalRow : OpenClaim := { program := "ytobopgbdciffdaa", sum := "4d286ecc9d319bfed81b7c12fa54a530183a783258b91cb9a0e5fc9caac02275", func := "loop.example/g01985/laws.FnExactIsMinimal", spec := "fnExactIsMinimal", unfollowed := true, recurses := true, apart := false }
def FnExactIsMinimalSaid : Prop := fnExactIsMinimalRow.holds Try.pinned (OpenSpec.ofChange fnExactIsMinimalSpec)

/-- ITS FALSE NEIGHBOUR: 'it returns false'. Refute it at one input. -/
def fnExactIsMinimalWrong : ChangeSpec := { name := "fnExactIsMinimal", fn := fun _ => fun
  | [d1, d2] => { results := [.lit (.bool false)], args := [d1, d2] }
  | _ => none }
def FnExactIsMinimalWrongFalsely : Prop := fnExactIsMinimalRow.holds Try.pinned (OpenSpec.ofChange fnExactIsMinimalWrong)

/-- 'laws.FnExactNormalForm': WHATEVER THE INPUT: true; the input reads as it did. -/
def fnExactNormalFormSpec : ChangeSpec := { name := "fnExactNormalForm", fn := fun _ => fun
  | [d1, d2] => { results := [.lit (.bool true)], args := [d1, d2] }
  | _ => none }
def fnExactNormalFormRow : OpenClaim := { program := "ytobopgbdciffdaa", sum := "4d286ecc9d319bfed81b7c12fa54a530183a783258b91cb9a0e5fc9caac02275", func := "loop.example/g01985/laws.FnExactNormalForm", spec := "fnExactNormalForm", unfollowed := true, recurses := true, apart := false }
def FnExactNormalFormSaid : Prop := fnExactNormalFormRow.holds Try.pinned (OpenSpec.ofChange fnExactNormalFormSpec)

/-- ITS FALSE NEIGHBOUR: 'it returns false'. Refute it at one input. -/
def fnExactNormalFormWrong : ChangeSpec := { name := "fnExactNormalForm", fn := fun _ => fun
  | [d1, d2] => { results := [.lit (.bool false)], args := [d1, d2] }
  | _ => none }
def FnExactNormalFormWrongFalsely : Prop := fnExactNormalFormRow.holds Try.pinned (OpenSpec.ofChange fnExactNormalFormWrong)

/-- 'laws.FnExactIsIsomorphic': WHATEVER THE INPUT: true; the input reads as it did. -/
def fnExactIsIsomorphicSpec : ChangeSpec := { name := "fnExactIsIsomorphic", fn := fun _ => fun
  | [d1, d2, d3] => { results := [.lit (.bool true)], args := [d1, d2, d3] }
  | _ => none }
def fnExactIsIsomorphicRow : OpenClaim := { program := "ytobopgbdciffdaa", sum := "4d286ecc9d319bfed81b7c12fa54a530183a783258b91cb9a0e5fc9caac02275", func := "loop.example/g01985/laws.FnExactIsIsomorphic", spec := "fnExactIsIsomorphic", unfollowed := true, recurses := true, apart := false }
def FnExactIsIsomorphicSaid : Prop := fnExactIsIsomorphicRow.holds Try.pinned (OpenSpec.ofChange fnExactIsIsomorphicSpec)

/-- ITS FALSE NEIGHBOUR: 'it returns false'. Refute it at one input. -/
def fnExactIsIsomorphicWrong : ChangeSpec := { name := "fnExactIsIsomorphic", fn := fun _ => fun
  | [d1, d2, d3] => { results := [.lit (.bool false)], args := [d1, d2, d3] }
  | _ => none }
def FnExactIsIsomorphicWrongFalsely : Prop := fnExactIsIsomorphicRow.holds Try.pinned (OpenSpec.ofChange fnExactIsIsomorphicWrong)

/- THE SECOND FORM. 'bulk': how many values and letters a reading holds, each counted each time it is reached (what is shared counts as often as it is met; a slice's spare places count too). A statement '..UptoSaid' is the law's where the arguments, and the package variables that the reading takes, are together of bulk at most 1048576: NARROWER than '..Said'. Prove '..Said' where nothing that the law and all that it calls make is longer than what came in: it says more and counts as full. Else prove '..UptoSaid'. A law counts once. -/
mutual
def uptoBulk {H : Type} : DataW H → Nat
  | .lit (.string bytes) => bytes.length + 1
  | .lit _ => 1
  | .nil => 1
  | .ptr d => uptoBulk d + 1
  | .slice elems spare => uptoBulkAll elems + uptoBulkAll spare + 1
  | .agg parts => uptoBulkAll parts + 1
  | .iface _ d => uptoBulk d + 1
  | .map entries => uptoBulkEntries entries + 1
  | .held _ => 1
def uptoBulkAll {H : Type} : List (DataW H) → Nat
  | [] => 0
  | d :: r => uptoBulk d + uptoBulkAll r
def uptoBulkEntries {H : Type} : List (Lit × DataW H) → Nat
  | [] => 0
  | x :: r => uptoBulkEntry x + uptoBulkEntries r
def uptoBulkEntry {H : Type} : Lit × DataW H → Nat
  | (.string bytes, d) => bytes.length + uptoBulk d + 1
  | (_, d) => uptoBulk d + 1
 end
def uptoSmall : (H : Type) → List (DataW H) → Bool := fun _ ds => decide (uptoBulkAll ds ≤ 1048576)
def OpenSpec.upto (s : _root_.Go.ChangeSpec) : _root_.Go.OpenSpec := { _root_.Go.OpenSpec.ofChange s with cond := some uptoSmall }

/-- 'laws.FnViolations', WHERE WHAT IT READS IS OF BULK AT MOST 1048576: true; the input reads as it did. -/
def fnViolationsUptoRow : OpenClaim := { program := "ytobopgbdciffdaa", sum := "4d286ecc9d319bfed81b7c12fa54a530183a783258b91cb9a0e5fc9caac02275", func := "loop.example/g01985/laws.FnViolations", spec := "fnViolations", apart := false, narrowed := true }
def FnViolationsUptoSaid : Prop := fnViolationsUptoRow.holds Try.pinned (OpenSpec.upto fnViolationsSpec)

/-- 'laws.FnExactAreViews', WHERE WHAT IT READS IS OF BULK AT MOST 1048576: true; the input reads as it did. -/
def fnExactAreViewsUptoRow : OpenClaim := { program := "ytobopgbdciffdaa", sum := "4d286ecc9d319bfed81b7c12fa54a530183a783258b91cb9a0e5fc9caac02275", func := "loop.example/g01985/laws.FnExactAreViews", spec := "fnExactAreViews", apart := false, narrowed := true }
def FnExactAreViewsUptoSaid : Prop := fnExactAreViewsUptoRow.holds Try.pinned (OpenSpec.upto fnExactAreViewsSpec)

/-- 'laws.FnExactParseKey', WHERE WHAT IT READS IS OF BULK AT MOST 1048576: true; the input reads as it did. -/
def fnExactParseKeyUptoRow : OpenClaim := { program := "ytobopgbdciffdaa", sum := "4d286ecc9d319bfed81b7c12fa54a530183a783258b91cb9a0e5fc9caac02275", func := "loop.example/g01985/laws.FnExactParseKey", spec := "fnExactParseKey", apart := false, narrowed := true }
def FnExactParseKeyUptoSaid : Prop := fnExactParseKeyUptoRow.holds Try.pinned (OpenSpec.upto fnExactParseKeySpec)

/-- 'laws.FnExactWithoutAtom', WHERE WHAT IT READS IS OF BULK AT MOST 1048576: true; the input reads as it did. -/
def fnExactWithoutAtomUptoRow : OpenClaim := { program := "ytobopgbdciffdaa", sum := "4d286ecc9d319bfed81b7c12fa54a530183a783258b91cb9a0e5fc9caac02275", func := "loop.example/g01985/laws.FnExactWithoutAtom", spec := "fnExactWithoutAtom", apart := false, narrowed := true }
def FnExactWithoutAtomUptoSaid : Prop := fnExactWithoutAtomUptoRow.holds Try.pinned (OpenSpec.upto fnExactWithoutAtomSpec)

/-- 'laws.FnTerms', WHERE WHAT IT READS IS OF BULK AT MOST 1048576: true; the input reads as it did. -/
def fnTermsUptoRow : OpenClaim := { program := "ytobopgbdciffdaa", sum := "4d286ecc9d319bfed81b7c12fa54a530183a783258b91cb9a0e5fc9caac02275", func := "loop.example/g01985/laws.FnTerms", spec := "fnTerms", unfollowed := true, recurses := true, apart := false, narrowed := true }
def FnTermsUptoSaid : Prop := fnTermsUptoRow.holds Try.pinned (OpenSpec.upto fnTermsSpec)

/-- 'laws.FnExactIsRedundant', WHERE WHAT IT READS IS OF BULK AT MOST 1048576: true; the input reads as it did. -/
def fnExactIsRedundantUptoRow : OpenClaim := { program := "ytobopgbdciffdaa", sum := "4d286ecc9d319bfed81b7c12fa54a530183a783258b91cb9a0e5fc9caac02275", func := "loop.example/g01985/laws.FnExactIsRedundant", spec := "fnExactIsRedundant", unfollowed := true, recurses := true, apart := false, narrowed := true }
def FnExactIsRedundantUptoSaid : Prop := fnExactIsRedundantUptoRow.holds Try.pinned (OpenSpec.upto fnExactIsRedundantSpec)

/-- 'laws.FnExactIsMinimal', WHERE WHAT IT READS IS OF BULK AT MOST 1048576: true; the input reads as it did. -/
def fnExactIsMinimalUptoRow : OpenClaim := { program := "ytobopgbdciffdaa", sum := "4d286ecc9d319bfed81b7c12fa54a530183a783258b91cb9a0e5fc9caac02275", func := "loop.example/g01985/laws.FnExactIsMinimal", spec := "fnExactIsMinimal", unfollowed := true, recurses := true, apart := false, narrowed := true }
def FnExactIsMinimalUptoSaid : Prop := fnExactIsMinimalUptoRow.holds Try.pinned (OpenSpec.upto fnExactIsMinimalSpec)

/-- 'laws.FnExactNormalForm', WHERE WHAT IT READS IS OF BULK AT MOST 1048576: true; the input reads as it did. -/
def fnExactNormalFormUptoRow : OpenClaim := { program := "ytobopgbdciffdaa", sum := "4d286ecc9d319bfed81b7c12fa54a530183a783258b91cb9a0e5fc9caac02275", func := "loop.example/g01985/laws.FnExactNormalForm", spec := "fnExactNormalForm", unfollowed := true, recurses := true, apart := false, narrowed := true }
def FnExactNormalFormUptoSaid : Prop := fnExactNormalFormUptoRow.holds Try.pinned (OpenSpec.upto fnExactNormalFormSpec)

/-- 'laws.FnExactIsIsomorphic', WHERE WHAT IT READS IS OF BULK AT MOST 1048576: true; the input reads as it did. -/
def fnExactIsIsomorphicUptoRow : OpenClaim := { program := "ytobopgbdciffdaa", sum := "4d286ecc9d319bfed81b7c12fa54a530183a783258b91cb9a0e5fc9caac02275", func := "loop.example/g01985/laws.FnExactIsIsomorphic", spec := "fnExactIsIsomorphic", unfollowed := true, recurses := true, apart := false, narrowed := true }
def FnExactIsIsomorphicUptoSaid : Prop := fnExactIsIsomorphicUptoRow.holds Try.pinned (OpenSpec.upto fnExactIsIsomorphicSpec)

end Rows
end Go.Proofs.Ytobopgbdciffdaa
