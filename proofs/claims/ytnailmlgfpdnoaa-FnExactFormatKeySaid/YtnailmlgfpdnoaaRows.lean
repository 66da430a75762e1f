/-
  No cell of these rows narrows 'for every input' (looked for: loops, veiled, ifaces, maps, wideKeys, modest, calm, conditions, laid).
  DERIVED. THE GIVEN ROWS OF THIS SEAT. 6 by the template 'for every input the law returns true; each argument reads behind the call as it read before'; 0 by the template 'total and deterministic' (their statements: YtnailmlgfpdnoaaTotals.lean).
  GIVEN WITH THE SEED: the statements are not yours to turn. If you find one false, say at which input.
  Laid BY PROGRAM, IN A SANDBOX (cutbox-rows.mjs): the forced cells as the released guide's own fill.sh prints them over the translation 457e6bc814321c43… (all of the seat's roots in one cut). By AI agents, Wed Nov 11 2026. No macro, syntax, notation, axiom, sorry.
-/
import Derived.Test.YtnailmlgfpdnoaaChecked
import GoSem.Claim
import GoSem.ClaimJoined
import GoSem.ClaimMapViews
import Derived.JoinedTies
import Derived.KernelRfl
namespace Go.Proofs.Ytnailmlgfpdnoaa
/- THE CELL 'sum', in the pinned program and in every row, IS THE sha256 OF THE DUMP (.gsa) THAT YtnailmlgfpdnoaaProg.lean LOADS. Nothing in Lean hashes anything: it is a label: what it is worth is what the hold of that sum in a sandbox is worth. -/
noncomputable def Try.pinned : Pinned := { name := "ytnailmlgfpdnoaa", sum := "457e6bc814321c43e9ba5f9d4d804e3a4255f1e73d7b8d8b4c83e66d07508527", checked := Try.checked }
namespace Rows
def none {H : Type} : Left H := { results := [], args := [] }

/-- 'laws.FnExactNextSet': WHATEVER THE INPUT: true; the input reads as it did. -/
def fnExactNextSetSpec : ChangeSpec := { name := "fnExactNextSet", fn := fun _ => fun
  | [d1, d2] => { results := [.lit (.bool true)], args := [d1, d2] }
  | _ => none }
def fnExactNextSetRow : OpenClaim := { program := "ytnailmlgfpdnoaa", sum := "457e6bc814321c43e9ba5f9d4d804e3a4255f1e73d7b8d8b4c83e66d07508527", func := "loop.example/g01985/laws.FnExactNextSet", spec := "fnExactNextSet", apart := false }
def FnExactNextSetSaid : Prop := fnExactNextSetRow.holds Try.pinned (OpenSpec.ofChange fnExactNextSetSpec)

/-- ITS FALSE NEIGHBOUR: 'it returns false'. Refute it at one input. -/
def fnExactNextSetWrong : ChangeSpec := { name := "fnExactNextSet", fn := fun _ => fun
  | [d1, d2] => { results := [.lit (.bool false)], args := [d1, d2] }
  | _ => none }
def FnExactNextSetWrongFalsely : Prop := fnExactNextSetRow.holds Try.pinned (OpenSpec.ofChange fnExactNextSetWrong)

/-- 'laws.FnExactTotalCount': WHATEVER THE INPUT: true; the input reads as it did. -/
def fnExactTotalCountSpec : ChangeSpec := { name := "fnExactTotalCount", fn := fun _ => fun
  | [d] => { results := [.lit (.bool true)], args := [d] }
  | _ => none }
def fnExactTotalCountRow : OpenClaim := { program := "ytnailmlgfpdnoaa", sum := "457e6bc814321c43e9ba5f9d4d804e3a4255f1e73d7b8d8b4c83e66d07508527", func := "loop.example/g01985/laws.FnExactTotalCount", spec := "fnExactTotalCount", apart := false }
def FnExactTotalCountSaid : Prop := fnExactTotalCountRow.holds Try.pinned (OpenSpec.ofChange fnExactTotalCountSpec)

/-- ITS FALSE NEIGHBOUR: 'it returns false'. Refute it at one input. -/
def fnExactTotalCountWrong : ChangeSpec := { name := "fnExactTotalCount", fn := fun _ => fun
  | [d] => { results := [.lit (.bool false)], args := [d] }
  | _ => none }
def FnExactTotalCountWrongFalsely : Prop := fnExactTotalCountRow.holds Try.pinned (OpenSpec.ofChange fnExactTotalCountWrong)

/-- 'laws.FnExactIsKey': WHATEVER THE INPUT: true; the input reads as it did. -/
def fnExactIsKeySpec : ChangeSpec := { name := "fnExactIsKey", fn := fun _ => fun
  | [d1, d2] => { results := [.lit (.bool true)], args := [d1, d2] }
  | _ => none }
def fnExactIsKeyRow : OpenClaim := { program := "ytnailmlgfpdnoaa", sum := "457e6bc814321c43e9ba5f9d4d804e3a4255f1e73d7b8d8b4c83e66d07508527", func := "loop.example/g01985/laws.FnExactIsKey", spec := "fnExactIsKey", apart := false }
def FnExactIsKeySaid : Prop := fnExactIsKeyRow.holds Try.pinned (OpenSpec.ofChange fnExactIsKeySpec)

/-- ITS FALSE NEIGHBOUR: 'it returns false'. Refute it at one input. -/
def fnExactIsKeyWrong : ChangeSpec := { name := "fnExactIsKey", fn := fun _ => fun
  | [d1, d2] => { results := [.lit (.bool false)], args := [d1, d2] }
  | _ => none }
def FnExactIsKeyWrongFalsely : Prop := fnExactIsKeyRow.holds Try.pinned (OpenSpec.ofChange fnExactIsKeyWrong)

/-- 'laws.FnExactSameCounts': WHATEVER THE INPUT: true; the input reads as it did. -/
def fnExactSameCountsSpec : ChangeSpec := { name := "fnExactSameCounts", fn := fun _ => fun
  | [d1, d2] => { results := [.lit (.bool true)], args := [d1, d2] }
  | _ => none }
def fnExactSameCountsRow : OpenClaim := { program := "ytnailmlgfpdnoaa", sum := "457e6bc814321c43e9ba5f9d4d804e3a4255f1e73d7b8d8b4c83e66d07508527", func := "loop.example/g01985/laws.FnExactSameCounts", spec := "fnExactSameCounts", unfollowed := true, recurses := true, apart := false }
def FnExactSameCountsSaid : Prop := fnExactSameCountsRow.holds Try.pinned (OpenSpec.ofChange fnExactSameCountsSpec)

/-- ITS FALSE NEIGHBOUR: 'it returns false'. Refute it at one input. -/
def fnExactSameCountsWrong : ChangeSpec := { name := "fnExactSameCounts", fn := fun _ => fun
  | [d1, d2] => { results := [.lit (.bool false)], args := [d1, d2] }
  | _ => none }
def FnExactSameCountsWrongFalsely : Prop := fnExactSameCountsRow.holds Try.pinned (OpenSpec.ofChange fnExactSameCountsWrong)

/-- 'laws.FnExactFormatKey': WHATEVER THE INPUT: true; the input reads as it did. -/
def fnExactFormatKeySpec : ChangeSpec := { name := "fnExactFormatKey", fn := fun _ => fun
  | [d] => { results := [.lit (.bool true)], args := [d] }
  | _ => none }
def fnExactFormatKeyRow : OpenClaim := { program := "ytnailmlgfpdnoaa", sum := "457e6bc814321c43e9ba5f9d4d804e3a4255f1e73d7b8d8b4c83e66d07508527", func := "loop.example/g01985/laws.FnExactFormatKey", spec := "fnExactFormatKey", apart := false }
def FnExactFormatKeySaid : Prop := fnExactFormatKeyRow.holds Try.pinned (OpenSpec.ofChange fnExactFormatKeySpec)

/-- ITS FALSE NEIGHBOUR: 'it returns false'. Refute it at one input. -/
def fnExactFormatKeyWrong : ChangeSpec := { name := "fnExactFormatKey", fn := fun _ => fun
  | [d] => { results := [.lit (.bool false)], args := [d] }
  | _ => none }
def FnExactFormatKeyWrongFalsely : Prop := fnExactFormatKeyRow.holds Try.pinned (OpenSpec.ofChange fnExactFormatKeyWrong)

/-- 'laws.FnExactIsInclusion': WHATEVER THE INPUT: true; the input reads as it did. -/
def fnExactIsInclusionSpec : ChangeSpec := { name := "fnExactIsInclusion", fn := fun _ => fun
  | [d1, d2] => { results := [.lit (.bool true)], args := [d1, d2] }
  | _ => none }
def fnExactIsInclusionRow : OpenClaim := { program := "ytnailmlgfpdnoaa", sum := "457e6bc814321c43e9ba5f9d4d804e3a4255f1e73d7b8d8b4c83e66d07508527", func := "loop.example/g01985/laws.FnExactIsInclusion", spec := "fnExactIsInclusion", apart := false }
def FnExactIsInclusionSaid : Prop := fnExactIsInclusionRow.holds Try.pinned (OpenSpec.ofChange fnExactIsInclusionSpec)

/-- ITS FALSE NEIGHBOUR: 'it returns false'. Refute it at one input. -/
def fnExactIsInclusionWrong : ChangeSpec := { name := "fnExactIsInclusion", fn := fun _ => fun
  | [d1, d2] => { results := [.lit (.bool false)], args := [d1, d2] }
  | _ => none }
def FnExactIsInclusionWrongFalsely : Prop := fnExactIsInclusionRow.holds Try.pinned (OpenSpec.ofChange fnExactIsInclusionWrong)

/- THE SECOND FORM. 'bulk': how many values and letters a reading holds, each counted each time it is reached (what is shared counts as often as it is met; a slice's spare places count too). A statement '..UptoSaid' is the law's where the arguments, and the package variables that the reading takes, are together of bulk at most 1048576: NARROWER than '..Said'. Prove '..Said' where nothing that the law and all that it calls make is longer than what came in: it says more and counts as full. Else prove '..UptoSaid'. A law counts once. -/
mutual
def uptoBulk {H : Type} : DataW H → Nat
  | .lit (.string bytes) => bytes.length + 1
  | .lit _ => 1
  | .nil => 1
  | .ptr d => uptoBulk d + 1
  | .slice elems spare => uptoBulkAll elems + uptoBulkAll spare + 1
  | .agg parts => uptoBulkAll parts + 1
  | .iface _ d => uptoBulk d + 1
  | .map entries => uptoBulkEntries entries + 1
  | .held _ => 1
def uptoBulkAll {H : Type} : List (DataW H) → Nat
  | [] => 0
  | d :: r => uptoBulk d + uptoBulkAll r
def uptoBulkEntries {H : Type} : List (Lit × DataW H) → Nat
  | [] => 0
  | x :: r => uptoBulkEntry x + uptoBulkEntries r
def uptoBulkEntry {H : Type} : Lit × DataW H → Nat
  | (.string bytes, d) => bytes.length + uptoBulk d + 1
  | (_, d) => uptoBulk d + 1
 end
def uptoSmall : (H : Type) → List (DataW H) → Bool := fun _ ds => decide (uptoBulkAll ds ≤ 1048576)
def OpenSpec.upto (s : _root_.Go.ChangeSpec) : _root_.Go.OpenSpec := { _root_.Go.OpenSpec.ofChange s with cond := some uptoSmall }

/-- 'laws.FnExactNextSet', WHERE WHAT IT READS IS OF BULK AT MOST 1048576: true; the input reads as it did. -/
def fnExactNextSetUptoRow : OpenClaim := { program := "ytnailmlgfpdnoaa", sum := "457e6bc814321c43e9ba5f9d4d804e3a4255f1e73d7b8d8b4c83e66d07508527", func := "loop.example/g01985/laws.FnExactNextSet", spec := "fnExactNextSet", apart := false, narrowed := true }
def FnExactNextSetUptoSaid : Prop := fnExactNextSetUptoRow.holds Try.pinned (OpenSpec.upto fnExactNextSetSpec)

/-- 'laws.FnExactTotalCount', WHERE WHAT IT READS IS OF BULK AT MOST 1048576: true; the input reads as it did. -/
def fnExactTotalCountUptoRow : OpenClaim := { program := "ytnailmlgfpdnoaa", sum := "457e6bc814321c43e9ba5f9d4d804e3a4255f1e73d7b8d8b4c83e66d07508527", func := "loop.example/g01985/laws.FnExactTotalCount", spec := "fnExactTotalCount", apart := false, narrowed := true }
def FnExactTotalCountUptoSaid : Prop := fnExactTotalCountUptoRow.holds Try.pinned (OpenSpec.upto fnExactTotalCountSpec)

/-- 'laws.FnExactIsKey', WHERE WHAT IT READS IS OF BULK AT MOST 1048576: true; the input reads as it did. -/
def fnExactIsKeyUptoRow : OpenClaim := { program := "ytnailmlgfpdnoaa", sum := "457e6bc814321c43e9ba5f9d4d804e3a4255f1e73d7b8d8b4c83e66d07508527", func := "loop.example/g01985/laws.FnExactIsKey", spec := "fnExactIsKey", apart := false, narrowed := true }
def FnExactIsKeyUptoSaid : Prop := fnExactIsKeyUptoRow.holds Try.pinned (OpenSpec.upto fnExactIsKeySpec)

/-- 'laws.FnExactSameCounts', WHERE WHAT IT READS IS OF BULK AT MOST 1048576: true; the input reads as it did. -/
def fnExactSameCountsUptoRow : OpenClaim := { program := "ytnailmlgfpdnoaa", sum := "457e6bc814321c43e9ba5f9d4d804e3a4255f1e73d7b8d8b4c83e66d07508527", func := "loop.example/g01985/laws.FnExactSameCounts", spec := "fnExactSameCounts", unfollowed := true, recurses := true, apart := false, narrowed := true }
def FnExactSameCountsUptoSaid : Prop := fnExactSameCountsUptoRow.holds Try.pinned (OpenSpec.upto fnExactSameCountsSpec)

/-- 'laws.FnExactFormatKey', WHERE WHAT IT READS IS OF BULK AT MOST 1048576: true; the input reads as it did. -/
def fnExactFormatKeyUptoRow : OpenClaim := { program := "ytnailmlgfpdnoaa", sum := "457e6bc814321c43e9ba5f9d4d804e3a4255f1e73d7b8d8b4c83e66d07508527", func := "loop.example/g01985/laws.FnExactFormatKey", spec := "fnExactFormatKey", apart := false, narrowed := true }
def FnExactFormatKeyUptoSaid : Prop := fnExactFormatKeyUptoRow.holds Try.pinned (OpenSpec.upto fnExactFormatKeySpec)

/-- 'laws.FnExactIsInclusion', WHERE WHAT IT READS IS OF BULK AT MOST 1048576: true; the input reads as it did. -/
def fnExactIsInclusionUptoRow : OpenClaim := { program := "ytnailmlgfpdnoaa", sum := "457e6bc814321c43e9ba5f9d4d804e3a4255f1e73d7b8d8b4c83e66d07508527", func := "loop.example/g01985/laws.FnExactIsInclusion", spec := "fnExactIsInclusion", apart := false, narrowed := true }
def FnExactIsInclusionUptoSaid : Prop := fnExactIsInclusionUptoRow.holds Try.pinned (OpenSpec.upto fnExactIsInclusionSpec)

end Rows
end Go.Proofs.Ytnailmlgfpdnoaa
