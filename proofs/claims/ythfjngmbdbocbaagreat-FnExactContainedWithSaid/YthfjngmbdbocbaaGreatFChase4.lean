/- ChaseKeys, ContainedUnder, EquivalentUnder: both programs. -/
import Derived.Test.YthfjngmbdbocbaaGreatFChase2
import Derived.Test.YthfjngmbdbocbaaGreatFChase3
set_option linter.unusedVariables false
set_option linter.unusedSimpArgs false
set_option maxRecDepth 100000
namespace Go.Proofs.YthfjngmbdbocbaaGreatD
open Go Go.Proofs

def chO : Option QueryT → QueryT × Bool
  | none => (([], []), false)
  | some y => (y, true)
theorem wCh_eq (o : Option QueryT) : wCh o = .tup [wQuery (chO o).1, cb (chO o).2] := by cases o <;> rfl
def pChaseKeys (s : List Int) (q : QueryT) (ks : List FactK) : QueryT × Bool := if isQuery s q && pAreKeys s ks then chO (chZ ks q) else (([], []), false)
theorem pChaseKeys_bound (x0 : List Int) (x1 : QueryT) (x2 : List FactK) (h1 : cQuery x1 ≤ 1048576) : cQuery (pChaseKeys x0 x1 x2).1 ≤ 1048576 := by
  unfold pChaseKeys
  split
  · rename_i h
    simp only [Bool.and_eq_true] at h
    cases hc : chZ x2 x1 with
    | none => exact Nat.zero_le _
    | some y => exact (chZ_bound (isQuery_ok h.1) h1 hc).1
  · exact Nat.zero_le _
theorem small_ChaseKeys (x0 : List Int) (x1 : QueryT) (x2 : List FactK) (h0 : cSchema x0 ≤ 1048576) (h1 : cQuery x1 ≤ 1048576) (h2 : cKeyS x2 ≤ 1048576) : cQuery (pChaseKeys x0 x1 x2).1 ≤ 2147483648 := by
  have := pChaseKeys_bound x0 x1 x2 h1
  omega
def underP (a b : QueryT) (ks : List FactK) : Bool := match chZ ks a with
  | none => true
  | some x => (mapP b x).isSome
def pContainedUnder (s : List Int) (a b : QueryT) (ks : List FactK) : Bool := isQuery s a && (isQuery s b && (pAreKeys s ks && (!((a.1.length : Int) != b.1.length) && underP a b ks)))
def pEquivalentUnder (s : List Int) (a b : QueryT) (ks : List FactK) : Bool := pContainedUnder s a b ks && pContainedUnder s b a ks
end Go.Proofs.YthfjngmbdbocbaaGreatD
