/- A fact put in its place; the frozen query: the first program. -/
import Derived.Test.YthfjngmbdbocbaaFFz1
set_option linter.unusedVariables false
set_option linter.unusedSimpArgs false
set_option maxRecDepth 100000
namespace Go.Proofs.YthfjngmbdbocbaaD
open Go Go.Proofs

def putGo (f : FactC) : Bool → List FactC → List FactC
  | p, [] => if p then [] else [f]
  | p, x :: r => if !p && !ltF x f then (if eqF x f then [] else [f]) ++ x :: putGo f true r else x :: putGo f p r
def putF (db : List FactC) (f : FactC) : List FactC := putGo f false db
theorem solid_tFact (a : FactC) : ∀ c ∈ tFact a, solid c = true := by
  intro c hc
  simp only [tFact, List.mem_cons, List.not_mem_nil, or_false] at hc
  rcases hc with rfl | rfl <;> rfl
theorem putGo_true (f : FactC) (l : List FactC) : putGo f true l = l := by
  induction l with
  | nil => rfl
  | cons x r ih => simp [putGo, ih]
theorem putGo_length (f : FactC) : ∀ (l : List FactC) (p : Bool), (putGo f p l).length ≤ l.length + 1
  | [], p => by cases p <;> simp [putGo]
  | x :: r, p => by
    have := putGo_length f r p
    simp only [putGo]
    split
    · rw [putGo_true]; split <;> simp
    · simp only [List.length_cons]; omega
end Go.Proofs.YthfjngmbdbocbaaD
