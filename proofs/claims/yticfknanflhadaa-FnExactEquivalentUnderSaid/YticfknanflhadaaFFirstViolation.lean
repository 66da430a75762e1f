/- FirstViolation and HoldsKey, twice. -/
import Derived.Test.YticfknanflhadaaFAgree2
set_option linter.unusedVariables false
set_option linter.unusedSimpArgs false
set_option maxRecDepth 100000
namespace Go.Proofs.YticfknanflhadaaD
open Go Go.Proofs

abbrev FactK := Int × List Int
def violP (key f g : FactK) : Bool := decide (f.1 = key.1) && (decide (g.1 = key.1) && (agreeI f.2 key.2 g.2 key.2 && !decide (f.2 = g.2)))
def getF (x0 : List FactK) (k : Nat) : FactK := x0.getD k (0, [])
def tripJ (x0 x1 : List FactK) (k i : Nat) : List Nat → Option (Nat × Nat × Nat)
  | [] => none
  | j :: js => if violP (getF x1 k) (getF x0 i) (getF x0 j) then some (k, i, j) else tripJ x0 x1 k i js
def tripI (x0 x1 : List FactK) (k : Nat) : List Nat → Option (Nat × Nat × Nat)
  | [] => none
  | i :: is => (tripJ x0 x1 k i (ran (i + 1) x0.length)).or (tripI x0 x1 k is)
def tripK (x0 x1 : List FactK) : List Nat → Option (Nat × Nat × Nat)
  | [] => none
  | k :: ks => (tripI x0 x1 k (ran 0 x0.length)).or (tripK x0 x1 ks)
def out3 : Option (Nat × Nat × Nat) → Int × Int × Int
  | none => (-1, -1, -1)
  | some (k, i, j) => (k, i, j)
def pFirstViolation (x0 x1 : List FactK) : Int × Int × Int := out3 (tripK x0 x1 (ran 0 x1.length))
def v3 (x : Int × Int × Int) : V := .tup [ci x.1, ci x.2.1, ci x.2.2]
theorem getF_at {x0 : List FactK} {k : Nat} (hk : k < x0.length) : getF x0 k = x0[k] := by simp [getF, List.getD_eq_getElem?_getD, hk]

end Go.Proofs.YticfknanflhadaaD
