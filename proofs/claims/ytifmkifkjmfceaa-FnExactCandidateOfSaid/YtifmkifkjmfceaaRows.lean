/-
  No cell of these rows narrows 'for every input' (looked for: loops, veiled, ifaces, maps, wideKeys, modest, calm, conditions, laid).
  DERIVED. THE GIVEN ROWS OF THIS SEAT. 12 by the template 'for every input the law returns true; each argument reads behind the call as it read before'; 0 by the template 'total and deterministic' (their statements: YtifmkifkjmfceaaTotals.lean).
  GIVEN WITH THE SEED: the statements are not yours to turn. If you find one false, say at which input.
  Laid BY PROGRAM, IN A SANDBOX (cutbox-rows.mjs): the forced cells as the released guide's own fill.sh prints them over the translation 2c6e8dda6af79e8a… (all of the seat's roots in one cut). By AI agents, Wed Nov 11 2026. No macro, syntax, notation, axiom, sorry.
-/
import Derived.Test.YtifmkifkjmfceaaChecked
import GoSem.Claim
import GoSem.ClaimJoined
import GoSem.ClaimMapViews
import Derived.JoinedTies
import Derived.KernelRfl
namespace Go.Proofs.Ytifmkifkjmfceaa
/- THE CELL 'sum', in the pinned program and in every row, IS THE sha256 OF THE DUMP (.gsa) THAT YtifmkifkjmfceaaProg.lean LOADS. Nothing in Lean hashes anything: it is a label: what it is worth is what the hold of that sum in a sandbox is worth. -/
noncomputable def Try.pinned : Pinned := { name := "ytifmkifkjmfceaa", sum := "2c6e8dda6af79e8ae9d8401042902e77b93f28a2bb943849ad562097e94711d4", checked := Try.checked }
namespace Rows
def none {H : Type} : Left H := { results := [], args := [] }

/-- 'laws.FnExactQueryCode': WHATEVER THE INPUT: true; the input reads as it did. -/
def fnExactQueryCodeSpec : ChangeSpec := { name := "fnExactQueryCode", fn := fun _ => fun
  | [d] => { results := [.lit (.bool true)], args := [d] }
  | _ => none }
def fnExactQueryCodeRow : OpenClaim := { program := "ytifmkifkjmfceaa", sum := "2c6e8dda6af79e8ae9d8401042902e77b93f28a2bb943849ad562097e94711d4", func := "loop.example/g01985/laws.FnExactQueryCode", spec := "fnExactQueryCode", apart := false }
def FnExactQueryCodeSaid : Prop := fnExactQueryCodeRow.holds Try.pinned (OpenSpec.ofChange fnExactQueryCodeSpec)

/-- ITS FALSE NEIGHBOUR: 'it returns false'. Refute it at one input. -/
def fnExactQueryCodeWrong : ChangeSpec := { name := "fnExactQueryCode", fn := fun _ => fun
  | [d] => { results := [.lit (.bool false)], args := [d] }
  | _ => none }
def FnExactQueryCodeWrongFalsely : Prop := fnExactQueryCodeRow.holds Try.pinned (OpenSpec.ofChange fnExactQueryCodeWrong)

/-- 'laws.FnExactAreKeys': WHATEVER THE INPUT: true; the input reads as it did. -/
def fnExactAreKeysSpec : ChangeSpec := { name := "fnExactAreKeys", fn := fun _ => fun
  | [d1, d2] => { results := [.lit (.bool true)], args := [d1, d2] }
  | _ => none }
def fnExactAreKeysRow : OpenClaim := { program := "ytifmkifkjmfceaa", sum := "2c6e8dda6af79e8ae9d8401042902e77b93f28a2bb943849ad562097e94711d4", func := "loop.example/g01985/laws.FnExactAreKeys", spec := "fnExactAreKeys", apart := false }
def FnExactAreKeysSaid : Prop := fnExactAreKeysRow.holds Try.pinned (OpenSpec.ofChange fnExactAreKeysSpec)

/-- ITS FALSE NEIGHBOUR: 'it returns false'. Refute it at one input. -/
def fnExactAreKeysWrong : ChangeSpec := { name := "fnExactAreKeys", fn := fun _ => fun
  | [d1, d2] => { results := [.lit (.bool false)], args := [d1, d2] }
  | _ => none }
def FnExactAreKeysWrongFalsely : Prop := fnExactAreKeysRow.holds Try.pinned (OpenSpec.ofChange fnExactAreKeysWrong)

/-- 'laws.FnExactHoldsInclusion': WHATEVER THE INPUT: true; the input reads as it did. -/
def fnExactHoldsInclusionSpec : ChangeSpec := { name := "fnExactHoldsInclusion", fn := fun _ => fun
  | [d1, d2] => { results := [.lit (.bool true)], args := [d1, d2] }
  | _ => none }
def fnExactHoldsInclusionRow : OpenClaim := { program := "ytifmkifkjmfceaa", sum := "2c6e8dda6af79e8ae9d8401042902e77b93f28a2bb943849ad562097e94711d4", func := "loop.example/g01985/laws.FnExactHoldsInclusion", spec := "fnExactHoldsInclusion", apart := false }
def FnExactHoldsInclusionSaid : Prop := fnExactHoldsInclusionRow.holds Try.pinned (OpenSpec.ofChange fnExactHoldsInclusionSpec)

/-- ITS FALSE NEIGHBOUR: 'it returns false'. Refute it at one input. -/
def fnExactHoldsInclusionWrong : ChangeSpec := { name := "fnExactHoldsInclusion", fn := fun _ => fun
  | [d1, d2] => { results := [.lit (.bool false)], args := [d1, d2] }
  | _ => none }
def FnExactHoldsInclusionWrongFalsely : Prop := fnExactHoldsInclusionRow.holds Try.pinned (OpenSpec.ofChange fnExactHoldsInclusionWrong)

/-- 'laws.FnExactFormatInclusion': WHATEVER THE INPUT: true; the input reads as it did. -/
def fnExactFormatInclusionSpec : ChangeSpec := { name := "fnExactFormatInclusion", fn := fun _ => fun
  | [d] => { results := [.lit (.bool true)], args := [d] }
  | _ => none }
def fnExactFormatInclusionRow : OpenClaim := { program := "ytifmkifkjmfceaa", sum := "2c6e8dda6af79e8ae9d8401042902e77b93f28a2bb943849ad562097e94711d4", func := "loop.example/g01985/laws.FnExactFormatInclusion", spec := "fnExactFormatInclusion", apart := false }
def FnExactFormatInclusionSaid : Prop := fnExactFormatInclusionRow.holds Try.pinned (OpenSpec.ofChange fnExactFormatInclusionSpec)

/-- ITS FALSE NEIGHBOUR: 'it returns false'. Refute it at one input. -/
def fnExactFormatInclusionWrong : ChangeSpec := { name := "fnExactFormatInclusion", fn := fun _ => fun
  | [d] => { results := [.lit (.bool false)], args := [d] }
  | _ => none }
def FnExactFormatInclusionWrongFalsely : Prop := fnExactFormatInclusionRow.holds Try.pinned (OpenSpec.ofChange fnExactFormatInclusionWrong)

/-- 'laws.FnExactUsedViews': WHATEVER THE INPUT: true; the input reads as it did. -/
def fnExactUsedViewsSpec : ChangeSpec := { name := "fnExactUsedViews", fn := fun _ => fun
  | [d] => { results := [.lit (.bool true)], args := [d] }
  | _ => none }
def fnExactUsedViewsRow : OpenClaim := { program := "ytifmkifkjmfceaa", sum := "2c6e8dda6af79e8ae9d8401042902e77b93f28a2bb943849ad562097e94711d4", func := "loop.example/g01985/laws.FnExactUsedViews", spec := "fnExactUsedViews", unfollowed := true, recurses := true, apart := false }
def FnExactUsedViewsSaid : Prop := fnExactUsedViewsRow.holds Try.pinned (OpenSpec.ofChange fnExactUsedViewsSpec)

/-- ITS FALSE NEIGHBOUR: 'it returns false'. Refute it at one input. -/
def fnExactUsedViewsWrong : ChangeSpec := { name := "fnExactUsedViews", fn := fun _ => fun
  | [d] => { results := [.lit (.bool false)], args := [d] }
  | _ => none }
def FnExactUsedViewsWrongFalsely : Prop := fnExactUsedViewsRow.holds Try.pinned (OpenSpec.ofChange fnExactUsedViewsWrong)

/-- 'laws.FnExactHoldsKey': WHATEVER THE INPUT: true; the input reads as it did. -/
def fnExactHoldsKeySpec : ChangeSpec := { name := "fnExactHoldsKey", fn := fun _ => fun
  | [d1, d2] => { results := [.lit (.bool true)], args := [d1, d2] }
  | _ => none }
def fnExactHoldsKeyRow : OpenClaim := { program := "ytifmkifkjmfceaa", sum := "2c6e8dda6af79e8ae9d8401042902e77b93f28a2bb943849ad562097e94711d4", func := "loop.example/g01985/laws.FnExactHoldsKey", spec := "fnExactHoldsKey", apart := false }
def FnExactHoldsKeySaid : Prop := fnExactHoldsKeyRow.holds Try.pinned (OpenSpec.ofChange fnExactHoldsKeySpec)

/-- ITS FALSE NEIGHBOUR: 'it returns false'. Refute it at one input. -/
def fnExactHoldsKeyWrong : ChangeSpec := { name := "fnExactHoldsKey", fn := fun _ => fun
  | [d1, d2] => { results := [.lit (.bool false)], args := [d1, d2] }
  | _ => none }
def FnExactHoldsKeyWrongFalsely : Prop := fnExactHoldsKeyRow.holds Try.pinned (OpenSpec.ofChange fnExactHoldsKeyWrong)

/-- 'laws.FnExactCandidateOf': WHATEVER THE INPUT: true; the input reads as it did. -/
def fnExactCandidateOfSpec : ChangeSpec := { name := "fnExactCandidateOf", fn := fun _ => fun
  | [d1, d2, d3] => { results := [.lit (.bool true)], args := [d1, d2, d3] }
  | _ => none }
def fnExactCandidateOfRow : OpenClaim := { program := "ytifmkifkjmfceaa", sum := "2c6e8dda6af79e8ae9d8401042902e77b93f28a2bb943849ad562097e94711d4", func := "loop.example/g01985/laws.FnExactCandidateOf", spec := "fnExactCandidateOf", apart := false }
def FnExactCandidateOfSaid : Prop := fnExactCandidateOfRow.holds Try.pinned (OpenSpec.ofChange fnExactCandidateOfSpec)

/-- ITS FALSE NEIGHBOUR: 'it returns false'. Refute it at one input. -/
def fnExactCandidateOfWrong : ChangeSpec := { name := "fnExactCandidateOf", fn := fun _ => fun
  | [d1, d2, d3] => { results := [.lit (.bool false)], args := [d1, d2, d3] }
  | _ => none }
def FnExactCandidateOfWrongFalsely : Prop := fnExactCandidateOfRow.holds Try.pinned (OpenSpec.ofChange fnExactCandidateOfWrong)

/-- 'laws.FnExactViewSchema': WHATEVER THE INPUT: true; the input reads as it did. -/
def fnExactViewSchemaSpec : ChangeSpec := { name := "fnExactViewSchema", fn := fun _ => fun
  | [d] => { results := [.lit (.bool true)], args := [d] }
  | _ => none }
def fnExactViewSchemaRow : OpenClaim := { program := "ytifmkifkjmfceaa", sum := "2c6e8dda6af79e8ae9d8401042902e77b93f28a2bb943849ad562097e94711d4", func := "loop.example/g01985/laws.FnExactViewSchema", spec := "fnExactViewSchema", apart := false }
def FnExactViewSchemaSaid : Prop := fnExactViewSchemaRow.holds Try.pinned (OpenSpec.ofChange fnExactViewSchemaSpec)

/-- ITS FALSE NEIGHBOUR: 'it returns false'. Refute it at one input. -/
def fnExactViewSchemaWrong : ChangeSpec := { name := "fnExactViewSchema", fn := fun _ => fun
  | [d] => { results := [.lit (.bool false)], args := [d] }
  | _ => none }
def FnExactViewSchemaWrongFalsely : Prop := fnExactViewSchemaRow.holds Try.pinned (OpenSpec.ofChange fnExactViewSchemaWrong)

/-- 'laws.FnExactFirstViolation': WHATEVER THE INPUT: true; the input reads as it did. -/
def fnExactFirstViolationSpec : ChangeSpec := { name := "fnExactFirstViolation", fn := fun _ => fun
  | [d1, d2] => { results := [.lit (.bool true)], args := [d1, d2] }
  | _ => none }
def fnExactFirstViolationRow : OpenClaim := { program := "ytifmkifkjmfceaa", sum := "2c6e8dda6af79e8ae9d8401042902e77b93f28a2bb943849ad562097e94711d4", func := "loop.example/g01985/laws.FnExactFirstViolation", spec := "fnExactFirstViolation", apart := false }
def FnExactFirstViolationSaid : Prop := fnExactFirstViolationRow.holds Try.pinned (OpenSpec.ofChange fnExactFirstViolationSpec)

/-- ITS FALSE NEIGHBOUR: 'it returns false'. Refute it at one input. -/
def fnExactFirstViolationWrong : ChangeSpec := { name := "fnExactFirstViolation", fn := fun _ => fun
  | [d1, d2] => { results := [.lit (.bool false)], args := [d1, d2] }
  | _ => none }
def FnExactFirstViolationWrongFalsely : Prop := fnExactFirstViolationRow.holds Try.pinned (OpenSpec.ofChange fnExactFirstViolationWrong)

/-- 'laws.FnExactReplaceTerm': WHATEVER THE INPUT: true; the input reads as it did. -/
def fnExactReplaceTermSpec : ChangeSpec := { name := "fnExactReplaceTerm", fn := fun _ => fun
  | [d1, d2, d3] => { results := [.lit (.bool true)], args := [d1, d2, d3] }
  | _ => none }
def fnExactReplaceTermRow : OpenClaim := { program := "ytifmkifkjmfceaa", sum := "2c6e8dda6af79e8ae9d8401042902e77b93f28a2bb943849ad562097e94711d4", func := "loop.example/g01985/laws.FnExactReplaceTerm", spec := "fnExactReplaceTerm", unfollowed := true, recurses := true, apart := false }
def FnExactReplaceTermSaid : Prop := fnExactReplaceTermRow.holds Try.pinned (OpenSpec.ofChange fnExactReplaceTermSpec)

/-- ITS FALSE NEIGHBOUR: 'it returns false'. Refute it at one input. -/
def fnExactReplaceTermWrong : ChangeSpec := { name := "fnExactReplaceTerm", fn := fun _ => fun
  | [d1, d2, d3] => { results := [.lit (.bool false)], args := [d1, d2, d3] }
  | _ => none }
def FnExactReplaceTermWrongFalsely : Prop := fnExactReplaceTermRow.holds Try.pinned (OpenSpec.ofChange fnExactReplaceTermWrong)

/-- 'laws.FnExactDedupeAtoms': WHATEVER THE INPUT: true; the input reads as it did. -/
def fnExactDedupeAtomsSpec : ChangeSpec := { name := "fnExactDedupeAtoms", fn := fun _ => fun
  | [d] => { results := [.lit (.bool true)], args := [d] }
  | _ => none }
def fnExactDedupeAtomsRow : OpenClaim := { program := "ytifmkifkjmfceaa", sum := "2c6e8dda6af79e8ae9d8401042902e77b93f28a2bb943849ad562097e94711d4", func := "loop.example/g01985/laws.FnExactDedupeAtoms", spec := "fnExactDedupeAtoms", apart := false }
def FnExactDedupeAtomsSaid : Prop := fnExactDedupeAtomsRow.holds Try.pinned (OpenSpec.ofChange fnExactDedupeAtomsSpec)

/-- ITS FALSE NEIGHBOUR: 'it returns false'. Refute it at one input. -/
def fnExactDedupeAtomsWrong : ChangeSpec := { name := "fnExactDedupeAtoms", fn := fun _ => fun
  | [d] => { results := [.lit (.bool false)], args := [d] }
  | _ => none }
def FnExactDedupeAtomsWrongFalsely : Prop := fnExactDedupeAtomsRow.holds Try.pinned (OpenSpec.ofChange fnExactDedupeAtomsWrong)

/-- 'laws.FnExactFirstNames': WHATEVER THE INPUT: true; the input reads as it did. -/
def fnExactFirstNamesSpec : ChangeSpec := { name := "fnExactFirstNames", fn := fun _ => fun
  | [d] => { results := [.lit (.bool true)], args := [d] }
  | _ => none }
def fnExactFirstNamesRow : OpenClaim := { program := "ytifmkifkjmfceaa", sum := "2c6e8dda6af79e8ae9d8401042902e77b93f28a2bb943849ad562097e94711d4", func := "loop.example/g01985/laws.FnExactFirstNames", spec := "fnExactFirstNames", unfollowed := true, recurses := true, apart := false }
def FnExactFirstNamesSaid : Prop := fnExactFirstNamesRow.holds Try.pinned (OpenSpec.ofChange fnExactFirstNamesSpec)

/-- ITS FALSE NEIGHBOUR: 'it returns false'. Refute it at one input. -/
def fnExactFirstNamesWrong : ChangeSpec := { name := "fnExactFirstNames", fn := fun _ => fun
  | [d] => { results := [.lit (.bool false)], args := [d] }
  | _ => none }
def FnExactFirstNamesWrongFalsely : Prop := fnExactFirstNamesRow.holds Try.pinned (OpenSpec.ofChange fnExactFirstNamesWrong)

/- THE SECOND FORM. 'bulk': how many values and letters a reading holds, each counted each time it is reached (what is shared counts as often as it is met; a slice's spare places count too). A statement '..UptoSaid' is the law's where the arguments, and the package variables that the reading takes, are together of bulk at most 1048576: NARROWER than '..Said'. Prove '..Said' where nothing that the law and all that it calls make is longer than what came in: it says more and counts as full. Else prove '..UptoSaid'. A law counts once. -/
mutual
def uptoBulk {H : Type} : DataW H → Nat
  | .lit (.string bytes) => bytes.length + 1
  | .lit _ => 1
  | .nil => 1
  | .ptr d => uptoBulk d + 1
  | .slice elems spare => uptoBulkAll elems + uptoBulkAll spare + 1
  | .agg parts => uptoBulkAll parts + 1
  | .iface _ d => uptoBulk d + 1
  | .map entries => uptoBulkEntries entries + 1
  | .held _ => 1
def uptoBulkAll {H : Type} : List (DataW H) → Nat
  | [] => 0
  | d :: r => uptoBulk d + uptoBulkAll r
def uptoBulkEntries {H : Type} : List (Lit × DataW H) → Nat
  | [] => 0
  | x :: r => uptoBulkEntry x + uptoBulkEntries r
def uptoBulkEntry {H : Type} : Lit × DataW H → Nat
  | (.string bytes, d) => bytes.length + uptoBulk d + 1
  | (_, d) => uptoBulk d + 1
 end
def uptoSmall : (H : Type) → List (DataW H) → Bool := fun _ ds => decide (uptoBulkAll ds ≤ 1048576)
def OpenSpec.upto (s : _root_.Go.ChangeSpec) : _root_.Go.OpenSpec := { _root_.Go.OpenSpec.ofChange s with cond := some uptoSmall }

/-- 'laws.FnExactQueryCode', WHERE WHAT IT READS IS OF BULK AT MOST 1048576: true; the input reads as it did. -/
def fnExactQueryCodeUptoRow : OpenClaim := { program := "ytifmkifkjmfceaa", sum := "2c6e8dda6af79e8ae9d8401042902e77b93f28a2bb943849ad562097e94711d4", func := "loop.example/g01985/laws.FnExactQueryCode", spec := "fnExactQueryCode", apart := false, narrowed := true }
def FnExactQueryCodeUptoSaid : Prop := fnExactQueryCodeUptoRow.holds Try.pinned (OpenSpec.upto fnExactQueryCodeSpec)

/-- 'laws.FnExactAreKeys', WHERE WHAT IT READS IS OF BULK AT MOST 1048576: true; the input reads as it did. -/
def fnExactAreKeysUptoRow : OpenClaim := { program := "ytifmkifkjmfceaa", sum := "2c6e8dda6af79e8ae9d8401042902e77b93f28a2bb943849ad562097e94711d4", func := "loop.example/g01985/laws.FnExactAreKeys", spec := "fnExactAreKeys", apart := false, narrowed := true }
def FnExactAreKeysUptoSaid : Prop := fnExactAreKeysUptoRow.holds Try.pinned (OpenSpec.upto fnExactAreKeysSpec)

/-- 'laws.FnExactHoldsInclusion', WHERE WHAT IT READS IS OF BULK AT MOST 1048576: true; the input reads as it did. -/
def fnExactHoldsInclusionUptoRow : OpenClaim := { program := "ytifmkifkjmfceaa", sum := "2c6e8dda6af79e8ae9d8401042902e77b93f28a2bb943849ad562097e94711d4", func := "loop.example/g01985/laws.FnExactHoldsInclusion", spec := "fnExactHoldsInclusion", apart := false, narrowed := true }
def FnExactHoldsInclusionUptoSaid : Prop := fnExactHoldsInclusionUptoRow.holds Try.pinned (OpenSpec.upto fnExactHoldsInclusionSpec)

/-- 'laws.FnExactFormatInclusion', WHERE WHAT IT READS IS OF BULK AT MOST 1048576: true; the input reads as it did. -/
def fnExactFormatInclusionUptoRow : OpenClaim := { program := "ytifmkifkjmfceaa", sum := "2c6e8dda6af79e8ae9d8401042902e77b93f28a2bb943849ad562097e94711d4", func := "loop.example/g01985/laws.FnExactFormatInclusion", spec := "fnExactFormatInclusion", apart := false, narrowed := true }
def FnExactFormatInclusionUptoSaid : Prop := fnExactFormatInclusionUptoRow.holds Try.pinned (OpenSpec.upto fnExactFormatInclusionSpec)

/-- 'laws.FnExactUsedViews', WHERE WHAT IT READS IS OF BULK AT MOST 1048576: true; the input reads as it did. -/
def fnExactUsedViewsUptoRow : OpenClaim := { program := "ytifmkifkjmfceaa", sum := "2c6e8dda6af79e8ae9d8401042902e77b93f28a2bb943849ad562097e94711d4", func := "loop.example/g01985/laws.FnExactUsedViews", spec := "fnExactUsedViews", unfollowed := true, recurses := true, apart := false, narrowed := true }
def FnExactUsedViewsUptoSaid : Prop := fnExactUsedViewsUptoRow.holds Try.pinned (OpenSpec.upto fnExactUsedViewsSpec)

/-- 'laws.FnExactHoldsKey', WHERE WHAT IT READS IS OF BULK AT MOST 1048576: true; the input reads as it did. -/
def fnExactHoldsKeyUptoRow : OpenClaim := { program := "ytifmkifkjmfceaa", sum := "2c6e8dda6af79e8ae9d8401042902e77b93f28a2bb943849ad562097e94711d4", func := "loop.example/g01985/laws.FnExactHoldsKey", spec := "fnExactHoldsKey", apart := false, narrowed := true }
def FnExactHoldsKeyUptoSaid : Prop := fnExactHoldsKeyUptoRow.holds Try.pinned (OpenSpec.upto fnExactHoldsKeySpec)

/-- 'laws.FnExactCandidateOf', WHERE WHAT IT READS IS OF BULK AT MOST 1048576: true; the input reads as it did. -/
def fnExactCandidateOfUptoRow : OpenClaim := { program := "ytifmkifkjmfceaa", sum := "2c6e8dda6af79e8ae9d8401042902e77b93f28a2bb943849ad562097e94711d4", func := "loop.example/g01985/laws.FnExactCandidateOf", spec := "fnExactCandidateOf", apart := false, narrowed := true }
def FnExactCandidateOfUptoSaid : Prop := fnExactCandidateOfUptoRow.holds Try.pinned (OpenSpec.upto fnExactCandidateOfSpec)

/-- 'laws.FnExactViewSchema', WHERE WHAT IT READS IS OF BULK AT MOST 1048576: true; the input reads as it did. -/
def fnExactViewSchemaUptoRow : OpenClaim := { program := "ytifmkifkjmfceaa", sum := "2c6e8dda6af79e8ae9d8401042902e77b93f28a2bb943849ad562097e94711d4", func := "loop.example/g01985/laws.FnExactViewSchema", spec := "fnExactViewSchema", apart := false, narrowed := true }
def FnExactViewSchemaUptoSaid : Prop := fnExactViewSchemaUptoRow.holds Try.pinned (OpenSpec.upto fnExactViewSchemaSpec)

/-- 'laws.FnExactFirstViolation', WHERE WHAT IT READS IS OF BULK AT MOST 1048576: true; the input reads as it did. -/
def fnExactFirstViolationUptoRow : OpenClaim := { program := "ytifmkifkjmfceaa", sum := "2c6e8dda6af79e8ae9d8401042902e77b93f28a2bb943849ad562097e94711d4", func := "loop.example/g01985/laws.FnExactFirstViolation", spec := "fnExactFirstViolation", apart := false, narrowed := true }
def FnExactFirstViolationUptoSaid : Prop := fnExactFirstViolationUptoRow.holds Try.pinned (OpenSpec.upto fnExactFirstViolationSpec)

/-- 'laws.FnExactReplaceTerm', WHERE WHAT IT READS IS OF BULK AT MOST 1048576: true; the input reads as it did. -/
def fnExactReplaceTermUptoRow : OpenClaim := { program := "ytifmkifkjmfceaa", sum := "2c6e8dda6af79e8ae9d8401042902e77b93f28a2bb943849ad562097e94711d4", func := "loop.example/g01985/laws.FnExactReplaceTerm", spec := "fnExactReplaceTerm", unfollowed := true, recurses := true, apart := false, narrowed := true }
def FnExactReplaceTermUptoSaid : Prop := fnExactReplaceTermUptoRow.holds Try.pinned (OpenSpec.upto fnExactReplaceTermSpec)

/-- 'laws.FnExactDedupeAtoms', WHERE WHAT IT READS IS OF BULK AT MOST 1048576: true; the input reads as it did. -/
def fnExactDedupeAtomsUptoRow : OpenClaim := { program := "ytifmkifkjmfceaa", sum := "2c6e8dda6af79e8ae9d8401042902e77b93f28a2bb943849ad562097e94711d4", func := "loop.example/g01985/laws.FnExactDedupeAtoms", spec := "fnExactDedupeAtoms", apart := false, narrowed := true }
def FnExactDedupeAtomsUptoSaid : Prop := fnExactDedupeAtomsUptoRow.holds Try.pinned (OpenSpec.upto fnExactDedupeAtomsSpec)

/-- 'laws.FnExactFirstNames', WHERE WHAT IT READS IS OF BULK AT MOST 1048576: true; the input reads as it did. -/
def fnExactFirstNamesUptoRow : OpenClaim := { program := "ytifmkifkjmfceaa", sum := "2c6e8dda6af79e8ae9d8401042902e77b93f28a2bb943849ad562097e94711d4", func := "loop.example/g01985/laws.FnExactFirstNames", spec := "fnExactFirstNames", unfollowed := true, recurses := true, apart := false, narrowed := true }
def FnExactFirstNamesUptoSaid : Prop := fnExactFirstNamesUptoRow.holds Try.pinned (OpenSpec.upto fnExactFirstNamesSpec)

end Rows
end Go.Proofs.Ytifmkifkjmfceaa
