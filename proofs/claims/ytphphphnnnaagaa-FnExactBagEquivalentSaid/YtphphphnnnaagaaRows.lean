/-
  No cell of these rows narrows 'for every input' (looked for: loops, veiled, ifaces, maps, wideKeys, modest, calm, conditions, laid).
  DERIVED. THE GIVEN ROWS OF THIS SEAT. 8 by the template 'for every input the law returns true; each argument reads behind the call as it read before'; 0 by the template 'total and deterministic' (their statements: YtphphphnnnaagaaTotals.lean).
  GIVEN WITH THE SEED: the statements are not yours to turn. If you find one false, say at which input.
  Laid BY PROGRAM, IN A SANDBOX (cutbox-rows.mjs): the forced cells as the released guide's own fill.sh prints them over the translation cc1fe1ab21a7d130… (all of the seat's roots in one cut). By AI agents, Wed Nov 11 2026. No macro, syntax, notation, axiom, sorry.
-/
import Derived.Test.YtphphphnnnaagaaChecked
import GoSem.Claim
import GoSem.ClaimJoined
import GoSem.ClaimMapViews
import Derived.JoinedTies
import Derived.KernelRfl
namespace Go.Proofs.Ytphphphnnnaagaa
/- THE CELL 'sum', in the pinned program and in every row, IS THE sha256 OF THE DUMP (.gsa) THAT YtphphphnnnaagaaProg.lean LOADS. Nothing in Lean hashes anything: it is a label: what it is worth is what the hold of that sum in a sandbox is worth. -/
noncomputable def Try.pinned : Pinned := { name := "ytphphphnnnaagaa", sum := "cc1fe1ab21a7d130b0c1c0b65aac48ae33370c39b399a9e1c6371af359cddf9f", checked := Try.checked }
namespace Rows
def none {H : Type} : Left H := { results := [], args := [] }

/-- 'laws.FnExactFirstViolation': WHATEVER THE INPUT: true; the input reads as it did. -/
def fnExactFirstViolationSpec : ChangeSpec := { name := "fnExactFirstViolation", fn := fun _ => fun
  | [d1, d2] => { results := [.lit (.bool true)], args := [d1, d2] }
  | _ => none }
def fnExactFirstViolationRow : OpenClaim := { program := "ytphphphnnnaagaa", sum := "cc1fe1ab21a7d130b0c1c0b65aac48ae33370c39b399a9e1c6371af359cddf9f", func := "loop.example/g01985/laws.FnExactFirstViolation", spec := "fnExactFirstViolation", apart := false }
def FnExactFirstViolationSaid : Prop := fnExactFirstViolationRow.holds Try.pinned (OpenSpec.ofChange fnExactFirstViolationSpec)

/-- ITS FALSE NEIGHBOUR: 'it returns false'. Refute it at one input. -/
def fnExactFirstViolationWrong : ChangeSpec := { name := "fnExactFirstViolation", fn := fun _ => fun
  | [d1, d2] => { results := [.lit (.bool false)], args := [d1, d2] }
  | _ => none }
def FnExactFirstViolationWrongFalsely : Prop := fnExactFirstViolationRow.holds Try.pinned (OpenSpec.ofChange fnExactFirstViolationWrong)

/-- 'laws.FnViolations': WHATEVER THE INPUT: true; the input reads as it did. -/
def fnViolationsSpec : ChangeSpec := { name := "fnViolations", fn := fun _ => fun
  | [d] => { results := [.lit (.bool true)], args := [d] }
  | _ => none }
def fnViolationsRow : OpenClaim := { program := "ytphphphnnnaagaa", sum := "cc1fe1ab21a7d130b0c1c0b65aac48ae33370c39b399a9e1c6371af359cddf9f", func := "loop.example/g01985/laws.FnViolations", spec := "fnViolations", apart := false }
def FnViolationsSaid : Prop := fnViolationsRow.holds Try.pinned (OpenSpec.ofChange fnViolationsSpec)

/-- ITS FALSE NEIGHBOUR: 'it returns false'. Refute it at one input. -/
def fnViolationsWrong : ChangeSpec := { name := "fnViolations", fn := fun _ => fun
  | [d] => { results := [.lit (.bool false)], args := [d] }
  | _ => none }
def FnViolationsWrongFalsely : Prop := fnViolationsRow.holds Try.pinned (OpenSpec.ofChange fnViolationsWrong)

/-- 'laws.FnExactFirstNames': WHATEVER THE INPUT: true; the input reads as it did. -/
def fnExactFirstNamesSpec : ChangeSpec := { name := "fnExactFirstNames", fn := fun _ => fun
  | [d] => { results := [.lit (.bool true)], args := [d] }
  | _ => none }
def fnExactFirstNamesRow : OpenClaim := { program := "ytphphphnnnaagaa", sum := "cc1fe1ab21a7d130b0c1c0b65aac48ae33370c39b399a9e1c6371af359cddf9f", func := "loop.example/g01985/laws.FnExactFirstNames", spec := "fnExactFirstNames", unfollowed := true, recurses := true, apart := false }
def FnExactFirstNamesSaid : Prop := fnExactFirstNamesRow.holds Try.pinned (OpenSpec.ofChange fnExactFirstNamesSpec)

/-- ITS FALSE NEIGHBOUR: 'it returns false'. Refute it at one input. -/
def fnExactFirstNamesWrong : ChangeSpec := { name := "fnExactFirstNames", fn := fun _ => fun
  | [d] => { results := [.lit (.bool false)], args := [d] }
  | _ => none }
def FnExactFirstNamesWrongFalsely : Prop := fnExactFirstNamesRow.holds Try.pinned (OpenSpec.ofChange fnExactFirstNamesWrong)

/-- 'laws.FnExactParseKey': WHATEVER THE INPUT: true; the input reads as it did. -/
def fnExactParseKeySpec : ChangeSpec := { name := "fnExactParseKey", fn := fun _ => fun
  | [d1, d2] => { results := [.lit (.bool true)], args := [d1, d2] }
  | _ => none }
def fnExactParseKeyRow : OpenClaim := { program := "ytphphphnnnaagaa", sum := "cc1fe1ab21a7d130b0c1c0b65aac48ae33370c39b399a9e1c6371af359cddf9f", func := "loop.example/g01985/laws.FnExactParseKey", spec := "fnExactParseKey", apart := false }
def FnExactParseKeySaid : Prop := fnExactParseKeyRow.holds Try.pinned (OpenSpec.ofChange fnExactParseKeySpec)

/-- ITS FALSE NEIGHBOUR: 'it returns false'. Refute it at one input. -/
def fnExactParseKeyWrong : ChangeSpec := { name := "fnExactParseKey", fn := fun _ => fun
  | [d1, d2] => { results := [.lit (.bool false)], args := [d1, d2] }
  | _ => none }
def FnExactParseKeyWrongFalsely : Prop := fnExactParseKeyRow.holds Try.pinned (OpenSpec.ofChange fnExactParseKeyWrong)

/-- 'laws.FnTerms': WHATEVER THE INPUT: true; the input reads as it did. -/
def fnTermsSpec : ChangeSpec := { name := "fnTerms", fn := fun _ => fun
  | [d] => { results := [.lit (.bool true)], args := [d] }
  | _ => none }
def fnTermsRow : OpenClaim := { program := "ytphphphnnnaagaa", sum := "cc1fe1ab21a7d130b0c1c0b65aac48ae33370c39b399a9e1c6371af359cddf9f", func := "loop.example/g01985/laws.FnTerms", spec := "fnTerms", unfollowed := true, recurses := true, apart := false }
def FnTermsSaid : Prop := fnTermsRow.holds Try.pinned (OpenSpec.ofChange fnTermsSpec)

/-- ITS FALSE NEIGHBOUR: 'it returns false'. Refute it at one input. -/
def fnTermsWrong : ChangeSpec := { name := "fnTerms", fn := fun _ => fun
  | [d] => { results := [.lit (.bool false)], args := [d] }
  | _ => none }
def FnTermsWrongFalsely : Prop := fnTermsRow.holds Try.pinned (OpenSpec.ofChange fnTermsWrong)

/-- 'laws.FnExactNormalForm': WHATEVER THE INPUT: true; the input reads as it did. -/
def fnExactNormalFormSpec : ChangeSpec := { name := "fnExactNormalForm", fn := fun _ => fun
  | [d1, d2] => { results := [.lit (.bool true)], args := [d1, d2] }
  | _ => none }
def fnExactNormalFormRow : OpenClaim := { program := "ytphphphnnnaagaa", sum := "cc1fe1ab21a7d130b0c1c0b65aac48ae33370c39b399a9e1c6371af359cddf9f", func := "loop.example/g01985/laws.FnExactNormalForm", spec := "fnExactNormalForm", unfollowed := true, recurses := true, apart := false }
def FnExactNormalFormSaid : Prop := fnExactNormalFormRow.holds Try.pinned (OpenSpec.ofChange fnExactNormalFormSpec)

/-- ITS FALSE NEIGHBOUR: 'it returns false'. Refute it at one input. -/
def fnExactNormalFormWrong : ChangeSpec := { name := "fnExactNormalForm", fn := fun _ => fun
  | [d1, d2] => { results := [.lit (.bool false)], args := [d1, d2] }
  | _ => none }
def FnExactNormalFormWrongFalsely : Prop := fnExactNormalFormRow.holds Try.pinned (OpenSpec.ofChange fnExactNormalFormWrong)

/-- 'laws.FnExactIsIsomorphic': WHATEVER THE INPUT: true; the input reads as it did. -/
def fnExactIsIsomorphicSpec : ChangeSpec := { name := "fnExactIsIsomorphic", fn := fun _ => fun
  | [d1, d2, d3] => { results := [.lit (.bool true)], args := [d1, d2, d3] }
  | _ => none }
def fnExactIsIsomorphicRow : OpenClaim := { program := "ytphphphnnnaagaa", sum := "cc1fe1ab21a7d130b0c1c0b65aac48ae33370c39b399a9e1c6371af359cddf9f", func := "loop.example/g01985/laws.FnExactIsIsomorphic", spec := "fnExactIsIsomorphic", unfollowed := true, recurses := true, apart := false }
def FnExactIsIsomorphicSaid : Prop := fnExactIsIsomorphicRow.holds Try.pinned (OpenSpec.ofChange fnExactIsIsomorphicSpec)

/-- ITS FALSE NEIGHBOUR: 'it returns false'. Refute it at one input. -/
def fnExactIsIsomorphicWrong : ChangeSpec := { name := "fnExactIsIsomorphic", fn := fun _ => fun
  | [d1, d2, d3] => { results := [.lit (.bool false)], args := [d1, d2, d3] }
  | _ => none }
def FnExactIsIsomorphicWrongFalsely : Prop := fnExactIsIsomorphicRow.holds Try.pinned (OpenSpec.ofChange fnExactIsIsomorphicWrong)

/-- 'laws.FnExactBagEquivalent': WHATEVER THE INPUT: true; the input reads as it did. -/
def fnExactBagEquivalentSpec : ChangeSpec := { name := "fnExactBagEquivalent", fn := fun _ => fun
  | [d1, d2, d3] => { results := [.lit (.bool true)], args := [d1, d2, d3] }
  | _ => none }
def fnExactBagEquivalentRow : OpenClaim := { program := "ytphphphnnnaagaa", sum := "cc1fe1ab21a7d130b0c1c0b65aac48ae33370c39b399a9e1c6371af359cddf9f", func := "loop.example/g01985/laws.FnExactBagEquivalent", spec := "fnExactBagEquivalent", unfollowed := true, recurses := true, apart := false }
def FnExactBagEquivalentSaid : Prop := fnExactBagEquivalentRow.holds Try.pinned (OpenSpec.ofChange fnExactBagEquivalentSpec)

/-- ITS FALSE NEIGHBOUR: 'it returns false'. Refute it at one input. -/
def fnExactBagEquivalentWrong : ChangeSpec := { name := "fnExactBagEquivalent", fn := fun _ => fun
  | [d1, d2, d3] => { results := [.lit (.bool false)], args := [d1, d2, d3] }
  | _ => none }
def FnExactBagEquivalentWrongFalsely : Prop := fnExactBagEquivalentRow.holds Try.pinned (OpenSpec.ofChange fnExactBagEquivalentWrong)

/- THE SECOND FORM. 'bulk': how many values and letters a reading holds, each counted each time it is reached (what is shared counts as often as it is met; a slice's spare places count too). A statement '..UptoSaid' is the law's where the arguments, and the package variables that the reading takes, are together of bulk at most 1048576: NARROWER than '..Said'. Prove '..Said' where nothing that the law and all that it calls make is longer than what came in: it says more and counts as full. Else prove '..UptoSaid'. A law counts once. -/
mutual
def uptoBulk {H : Type} : DataW H → Nat
  | .lit (.string bytes) => bytes.length + 1
  | .lit _ => 1
  | .nil => 1
  | .ptr d => uptoBulk d + 1
  | .slice elems spare => uptoBulkAll elems + uptoBulkAll spare + 1
  | .agg parts => uptoBulkAll parts + 1
  | .iface _ d => uptoBulk d + 1
  | .map entries => uptoBulkEntries entries + 1
  | .held _ => 1
def uptoBulkAll {H : Type} : List (DataW H) → Nat
  | [] => 0
  | d :: r => uptoBulk d + uptoBulkAll r
def uptoBulkEntries {H : Type} : List (Lit × DataW H) → Nat
  | [] => 0
  | x :: r => uptoBulkEntry x + uptoBulkEntries r
def uptoBulkEntry {H : Type} : Lit × DataW H → Nat
  | (.string bytes, d) => bytes.length + uptoBulk d + 1
  | (_, d) => uptoBulk d + 1
 end
def uptoSmall : (H : Type) → List (DataW H) → Bool := fun _ ds => decide (uptoBulkAll ds ≤ 1048576)
def OpenSpec.upto (s : _root_.Go.ChangeSpec) : _root_.Go.OpenSpec := { _root_.Go.OpenSpec.ofChange s with cond := some uptoSmall }

/-- 'laws.FnExactFirstViolation', WHERE WHAT IT READS IS OF BULK AT MOST 1048576: true; the input reads as it did. -/
def fnExactFirstViolationUptoRow : OpenClaim := { program := "ytphphphnnnaagaa", sum := "cc1fe1ab21a7d130b0c1c0b65aac48ae33370c39b399a9e1c6371af359cddf9f", func := "loop.example/g01985/laws.FnExactFirstViolation", spec := "fnExactFirstViolation", apart := false, narrowed := true }
def FnExactFirstViolationUptoSaid : Prop := fnExactFirstViolationUptoRow.holds Try.pinned (OpenSpec.upto fnExactFirstViolationSpec)

/-- 'laws.FnViolations', WHERE WHAT IT READS IS OF BULK AT MOST 1048576: true; the input reads as it did. -/
def fnViolationsUptoRow : OpenClaim := { program := "ytphphphnnnaagaa", sum := "cc1fe1ab21a7d130b0c1c0b65aac48ae33370c39b399a9e1c6371af359cddf9f", func := "loop.example/g01985/laws.FnViolations", spec := "fnViolations", apart := false, narrowed := true }
def FnViolationsUptoSaid : Prop := fnViolationsUptoRow.holds Try.pinned (OpenSpec.upto fnViolationsSpec)

/-- 'laws.FnExactFirstNames', WHERE WHAT IT READS IS OF BULK AT MOST 1048576: true; the input reads as it did. -/
def fnExactFirstNamesUptoRow : OpenClaim := { program := "ytphphphnnnaagaa", sum := "cc1fe1ab21a7d130b0c1c0b65aac48ae33370c39b399a9e1c6371af359cddf9f", func := "loop.example/g01985/laws.FnExactFirstNames", spec := "fnExactFirstNames", unfollowed := true, recurses := true, apart := false, narrowed := true }
def FnExactFirstNamesUptoSaid : Prop := fnExactFirstNamesUptoRow.holds Try.pinned (OpenSpec.upto fnExactFirstNamesSpec)

/-- 'laws.FnExactParseKey', WHERE WHAT IT READS IS OF BULK AT MOST 1048576: true; the input reads as it did. -/
def fnExactParseKeyUptoRow : OpenClaim := { program := "ytphphphnnnaagaa", sum := "cc1fe1ab21a7d130b0c1c0b65aac48ae33370c39b399a9e1c6371af359cddf9f", func := "loop.example/g01985/laws.FnExactParseKey", spec := "fnExactParseKey", apart := false, narrowed := true }
def FnExactParseKeyUptoSaid : Prop := fnExactParseKeyUptoRow.holds Try.pinned (OpenSpec.upto fnExactParseKeySpec)

/-- 'laws.FnTerms', WHERE WHAT IT READS IS OF BULK AT MOST 1048576: true; the input reads as it did. -/
def fnTermsUptoRow : OpenClaim := { program := "ytphphphnnnaagaa", sum := "cc1fe1ab21a7d130b0c1c0b65aac48ae33370c39b399a9e1c6371af359cddf9f", func := "loop.example/g01985/laws.FnTerms", spec := "fnTerms", unfollowed := true, recurses := true, apart := false, narrowed := true }
def FnTermsUptoSaid : Prop := fnTermsUptoRow.holds Try.pinned (OpenSpec.upto fnTermsSpec)

/-- 'laws.FnExactNormalForm', WHERE WHAT IT READS IS OF BULK AT MOST 1048576: true; the input reads as it did. -/
def fnExactNormalFormUptoRow : OpenClaim := { program := "ytphphphnnnaagaa", sum := "cc1fe1ab21a7d130b0c1c0b65aac48ae33370c39b399a9e1c6371af359cddf9f", func := "loop.example/g01985/laws.FnExactNormalForm", spec := "fnExactNormalForm", unfollowed := true, recurses := true, apart := false, narrowed := true }
def FnExactNormalFormUptoSaid : Prop := fnExactNormalFormUptoRow.holds Try.pinned (OpenSpec.upto fnExactNormalFormSpec)

/-- 'laws.FnExactIsIsomorphic', WHERE WHAT IT READS IS OF BULK AT MOST 1048576: true; the input reads as it did. -/
def fnExactIsIsomorphicUptoRow : OpenClaim := { program := "ytphphphnnnaagaa", sum := "cc1fe1ab21a7d130b0c1c0b65aac48ae33370c39b399a9e1c6371af359cddf9f", func := "loop.example/g01985/laws.FnExactIsIsomorphic", spec := "fnExactIsIsomorphic", unfollowed := true, recurses := true, apart := false, narrowed := true }
def FnExactIsIsomorphicUptoSaid : Prop := fnExactIsIsomorphicUptoRow.holds Try.pinned (OpenSpec.upto fnExactIsIsomorphicSpec)

/-- 'laws.FnExactBagEquivalent', WHERE WHAT IT READS IS OF BULK AT MOST 1048576: true; the input reads as it did. -/
def fnExactBagEquivalentUptoRow : OpenClaim := { program := "ytphphphnnnaagaa", sum := "cc1fe1ab21a7d130b0c1c0b65aac48ae33370c39b399a9e1c6371af359cddf9f", func := "loop.example/g01985/laws.FnExactBagEquivalent", spec := "fnExactBagEquivalent", unfollowed := true, recurses := true, apart := false, narrowed := true }
def FnExactBagEquivalentUptoSaid : Prop := fnExactBagEquivalentUptoRow.holds Try.pinned (OpenSpec.upto fnExactBagEquivalentSpec)

end Rows
end Go.Proofs.Ytphphphnnnaagaa
