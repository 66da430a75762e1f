/- Contracts of functions and plain laws that a proof of this seat rests on; no condition. -/
import Derived.Test.YtcjdfeafcmfgpaaGreatQ10
import Derived.Test.YtcjdfeafcmfgpaaGreatQ8
set_option linter.unusedVariables false
set_option linter.unusedSimpArgs false
namespace Go.Proofs.YtcjdfeafcmfgpaaGreatD
open Go Go.Proofs
def sz1 (n : Nat) (left : Int) : Int := if left - n < 0 then -1 else left - n
end Go.Proofs.YtcjdfeafcmfgpaaGreatD
set_option linter.unusedVariables false
set_option linter.unusedSimpArgs false
namespace Go.Proofs.YtcjdfeafcmfgpaaGreatD
open Go Go.Proofs
end Go.Proofs.YtcjdfeafcmfgpaaGreatD
set_option linter.unusedVariables false
set_option linter.unusedSimpArgs false
namespace Go.Proofs.YtcjdfeafcmfgpaaGreatD
open Go Go.Proofs
section
variable {α : Type}
def sumB (f : α → Nat) : List α → Nat
  | [] => 0
  | x :: xs => f x + sumB f xs
theorem sumB_at {f : α → Nat} : ∀ {xs : List α} {k : Nat} (hk : k < xs.length), sumB f (xs.take (k + 1)) = sumB f (xs.take k) + f xs[k]
  | x :: xs, 0, _ => by simp [sumB]
  | x :: xs, k + 1, hk => by
    have := sumB_at (f := f) (xs := xs) (k := k) (by simpa using hk)
    simp only [List.take_succ_cons, sumB, List.getElem_cons_succ] at this ⊢
    omega
theorem sumB_take {f : α → Nat} : ∀ (xs : List α) (k : Nat), sumB f (xs.take k) ≤ sumB f xs
  | [], k => by simp
  | x :: xs, 0 => by simp [sumB]
  | x :: xs, k + 1 => by have := sumB_take (f := f) xs k; simp only [List.take_succ_cons, sumB]; omega
theorem sumB_le {f : α → Nat} {xs : List α} {k : Nat} (hk : k < xs.length) : sumB f (xs.take k) + f xs[k] ≤ sumB f xs := by
  rw [← sumB_at hk]; exact sumB_take xs _
theorem sumB_one {f : α → Nat} {xs : List α} {k : Nat} (hk : k < xs.length) : f xs[k] ≤ sumB f xs := by have := sumB_le (f := f) hk; omega
theorem rows_cell {f : α → List V} {n : Nat} (h : ∀ x, (f x).length = n) {xs : List α} {k d o : Nat} {v : V} (ho : o = k * n + d) (hk : k < xs.length) (hd : (f xs[k])[d]? = some v) : (rows f xs)[o]? = some v := by
  subst ho
  have hdn : d < n := by rw [← h xs[k]]; exact (List.getElem?_eq_some_iff.1 hd).1
  rw [← List.getElem?_drop, rows_at h xs k hk, List.getElem?_append_left (by rw [h]; exact hdn)]
  exact hd
theorem rows_setCell {f : α → List V} {n : Nat} (h : ∀ x, (f x).length = n) {xs : List α} {k d o : Nat} {v : V} {y : α} (ho : o = k * n + d) (hk : k < xs.length) (hy : f y = (f xs[k]).set d v) (hd : d < n) : (rows f xs).set o v = rows f (xs.set k y) := by
  subst ho
  have hn : n ≠ 0 := by omega
  rw [← setC_rows h hn hk y]
  apply List.ext_getElem?
  intro i
  have hmul : (k + 1) * n ≤ xs.length * n := Nat.mul_le_mul_right _ hk
  rw [Nat.succ_mul] at hmul
  have hlen := rows_len h xs
  rw [List.getElem?_set, setC_get (by rw [h]; omega), h]
  by_cases hi : k * n + d = i
  · subst hi
    rw [if_pos rfl, if_pos (by omega), if_pos (by omega), hy, show k * n + d - k * n = d from by omega, List.getElem?_set, if_pos rfl, if_pos (by rw [h]; exact hd)]
  · rw [if_neg hi]
    by_cases hin : k * n ≤ i ∧ i < k * n + n
    · rw [if_pos hin, hy, List.getElem?_set, if_neg (by omega)]
      obtain ⟨q, rfl⟩ : ∃ q, i = k * n + q := ⟨i - k * n, by omega⟩
      rw [show k * n + q - k * n = q from by omega, ← List.getElem?_drop, rows_at h xs k hk, List.getElem?_append_left (by rw [h]; omega)]
    · rw [if_neg hin]
end
theorem flat1 {v : V} (h : flat v = true) : ∀ c ∈ [v], flat c = true := fun c hc => by
  simp only [List.mem_singleton] at hc
  rw [hc]; exact h
theorem solid_ci (xs : List Int) : ∀ c ∈ rows ciL xs, solid c = true := all_rows (fun x c hc => by simp only [ciL, List.mem_singleton] at hc; rw [hc]; rfl) xs
theorem snoc_ci (xs : List Int) (x : Int) : rows ciL xs ++ [ci x] = rows ciL (xs ++ [x]) := by rw [rows_append]; rfl
theorem app_ci (xs ys : List Int) : rows ciL xs ++ rows ciL ys = rows ciL (xs ++ ys) := (rows_append ciL ys xs).symm
theorem drop_all {α : Type} {p : α → Bool} {xs : List α} {k : Nat} (hk : k < xs.length) : (xs.drop k).all p = (p xs[k] && (xs.drop (k + 1)).all p) := by
  rw [List.drop_eq_getElem_cons hk]
  rfl
theorem drop_any {α : Type} {p : α → Bool} {xs : List α} {k : Nat} (hk : k < xs.length) : (xs.drop k).any p = (p xs[k] || (xs.drop (k + 1)).any p) := by
  rw [List.drop_eq_getElem_cons hk]
  rfl
theorem drop_end {α : Type} {xs : List α} {k : Nat} (hk : xs.length ≤ k) : xs.drop k = [] := List.drop_eq_nil_of_le hk
theorem roVs_ci (xs : List Int) : roVs (rows ciL xs) = rows ciL xs := roVs_rows (fun _ => rfl) xs
end Go.Proofs.YtcjdfeafcmfgpaaGreatD
set_option linter.unusedVariables false
set_option linter.unusedSimpArgs false
set_option maxRecDepth 100000
namespace Go.Proofs.YtcjdfeafcmfgpaaGreatD
open Go Go.Proofs
theorem ci_ro (x : Int) : roV (ci x) = ci x := rfl
theorem intsT_ro (x : List Int) : roV (intsT x) = ints x := by simp only [intsT, ints, roV, roVs_ci]
def rSchema (x : (List Int)) : List V := [ints (x)]
def tSchema (x : (List Int)) : List V := [intsT (x)]
def vSchema (x : (List Int)) : V := .agg (rSchema x)
def wSchema (x : (List Int)) : V := .agg (tSchema x)
theorem tSchema_ro (x : (List Int)) : roVs (tSchema x) = rSchema x := by
  simp only [tSchema, rSchema, roVs, intsT_ro]
theorem wSchema_ro (x : (List Int)) : roV (wSchema x) = vSchema x := by simp only [wSchema, vSchema, roV, tSchema_ro]
def cSchema (x : (List Int)) : Nat := (x).length
def rAtom (x : (Int × (List Int))) : List V := [ci (x.1), ints (x.2)]
def tAtom (x : (Int × (List Int))) : List V := [ci (x.1), intsT (x.2)]
def vAtom (x : (Int × (List Int))) : V := .agg (rAtom x)
def wAtom (x : (Int × (List Int))) : V := .agg (tAtom x)
theorem rAtom_len (x : (Int × (List Int))) : (rAtom x).length = 2 := rfl
theorem tAtom_len (x : (Int × (List Int))) : (tAtom x).length = 2 := rfl
theorem tAtom_ro (x : (Int × (List Int))) : roVs (tAtom x) = rAtom x := by
  simp only [tAtom, rAtom, roVs, ci_ro, intsT_ro]
def cAtom (x : (Int × (List Int))) : Nat := (x.2).length
theorem closed_rAtom (x : (Int × (List Int))) : closeds (tAtom x) := ⟨trivial, closeds_rows (f := ciL) (fun _ => ⟨trivial, trivial⟩) _, trivial⟩
def vAtomS (xs : (List (Int × (List Int)))) : V := .ro xs.length (rows rAtom xs)
def wAtomS (xs : (List (Int × (List Int)))) : V := .tr 2 xs.length (rows tAtom xs)
theorem wAtomS_ro (xs : (List (Int × (List Int)))) : roV (wAtomS xs) = vAtomS xs := by simp only [wAtomS, vAtomS, roV, roVs_rows tAtom_ro]
def cAtomS (xs : (List (Int × (List Int)))) : Nat := xs.length + sumB cAtom xs
theorem closed_wAtomS (xs : (List (Int × (List Int)))) : closed (wAtomS xs) := closeds_rows (f := tAtom) closed_rAtom xs
def rQuery (x : ((List Int) × (List (Int × (List Int))))) : List V := [ints (x.1), vAtomS (x.2)]
def tQuery (x : ((List Int) × (List (Int × (List Int))))) : List V := [intsT (x.1), wAtomS (x.2)]
def vQuery (x : ((List Int) × (List (Int × (List Int))))) : V := .agg (rQuery x)
def wQuery (x : ((List Int) × (List (Int × (List Int))))) : V := .agg (tQuery x)
theorem tQuery_ro (x : ((List Int) × (List (Int × (List Int))))) : roVs (tQuery x) = rQuery x := by
  simp only [tQuery, rQuery, roVs, intsT_ro, wAtomS_ro]
theorem wQuery_ro (x : ((List Int) × (List (Int × (List Int))))) : roV (wQuery x) = vQuery x := by simp only [wQuery, vQuery, roV, tQuery_ro]
def cQuery (x : ((List Int) × (List (Int × (List Int))))) : Nat := (x.1).length + cAtomS (x.2)
theorem closed_rQuery (x : ((List Int) × (List (Int × (List Int))))) : closeds (tQuery x) := ⟨closeds_rows (f := ciL) (fun _ => ⟨trivial, trivial⟩) _, closed_wAtomS _, trivial⟩
theorem closed_wQuery (x : ((List Int) × (List (Int × (List Int))))) : closed (wQuery x) := closed_rQuery x
def rFact (x : (Int × (List Int))) : List V := [ci (x.1), ints (x.2)]
def tFact (x : (Int × (List Int))) : List V := [ci (x.1), intsT (x.2)]
def vFact (x : (Int × (List Int))) : V := .agg (rFact x)
def wFact (x : (Int × (List Int))) : V := .agg (tFact x)
theorem rFact_len (x : (Int × (List Int))) : (rFact x).length = 2 := rfl
theorem tFact_len (x : (Int × (List Int))) : (tFact x).length = 2 := rfl
theorem tFact_ro (x : (Int × (List Int))) : roVs (tFact x) = rFact x := by
  simp only [tFact, rFact, roVs, ci_ro, intsT_ro]
theorem wFact_ro (x : (Int × (List Int))) : roV (wFact x) = vFact x := by simp only [wFact, vFact, roV, tFact_ro]
def cFact (x : (Int × (List Int))) : Nat := (x.2).length
theorem closed_rFact (x : (Int × (List Int))) : closeds (tFact x) := ⟨trivial, closeds_rows (f := ciL) (fun _ => ⟨trivial, trivial⟩) _, trivial⟩
def rKey (x : (Int × (List Int))) : List V := [ci (x.1), ints (x.2)]
def tKey (x : (Int × (List Int))) : List V := [ci (x.1), intsT (x.2)]
def wKey (x : (Int × (List Int))) : V := .agg (tKey x)
theorem rKey_len (x : (Int × (List Int))) : (rKey x).length = 2 := rfl
theorem tKey_len (x : (Int × (List Int))) : (tKey x).length = 2 := rfl
theorem tKey_ro (x : (Int × (List Int))) : roVs (tKey x) = rKey x := by
  simp only [tKey, rKey, roVs, ci_ro, intsT_ro]
def cKey (x : (Int × (List Int))) : Nat := (x.2).length
def rInclusion (x : (Int × (List Int) × Int × (List Int))) : List V := [ci (x.1), ints (x.2.1), ci (x.2.2.1), ints (x.2.2.2)]
def vFactS (xs : (List (Int × (List Int)))) : V := .ro xs.length (rows rFact xs)
def wFactS (xs : (List (Int × (List Int)))) : V := .tr 2 xs.length (rows tFact xs)
theorem wFactS_ro (xs : (List (Int × (List Int)))) : roV (wFactS xs) = vFactS xs := by simp only [wFactS, vFactS, roV, roVs_rows tFact_ro]
def cFactS (xs : (List (Int × (List Int)))) : Nat := xs.length + sumB cFact xs
theorem closed_wFactS (xs : (List (Int × (List Int)))) : closed (wFactS xs) := closeds_rows (f := tFact) closed_rFact xs
def vKeyS (xs : (List (Int × (List Int)))) : V := .ro xs.length (rows rKey xs)
def wKeyS (xs : (List (Int × (List Int)))) : V := .tr 2 xs.length (rows tKey xs)
theorem wKeyS_ro (xs : (List (Int × (List Int)))) : roV (wKeyS xs) = vKeyS xs := by simp only [wKeyS, vKeyS, roV, roVs_rows tKey_ro]
def cKeyS (xs : (List (Int × (List Int)))) : Nat := xs.length + sumB cKey xs
def vInclusionS (xs : (List (Int × (List Int) × Int × (List Int)))) : V := .ro xs.length (rows rInclusion xs)
end Go.Proofs.YtcjdfeafcmfgpaaGreatD
set_option linter.unusedVariables false
set_option linter.unusedSimpArgs false
set_option maxRecDepth 100000
namespace Go.Proofs.YtcjdfeafcmfgpaaGreatD
open Go Go.Proofs
theorem drop_eq_at {α : Type} [DecidableEq α] {xs ys : List α} {k : Nat} (hk : k < xs.length) (hk' : k < ys.length) : decide (xs.drop k = ys.drop k) = (decide (xs[k] = ys[k]) && decide (xs.drop (k + 1) = ys.drop (k + 1))) := by
  rw [List.drop_eq_getElem_cons hk, List.drop_eq_getElem_cons hk', ← Bool.decide_and, decide_eq_decide]
  simp only [List.cons.injEq]
theorem ne_len {α : Type} [DecidableEq α] {xs ys : List α} (h : xs.length ≠ ys.length) : decide (xs = ys) = false := decide_eq_false fun e => h (congrArg List.length e)
theorem l2Ints_spec (xs ys : List Int) (hl : xs.length ≤ 1099511627776) (hl' : ys.length ≤ 1099511627776) : Spec Tryz.prog 129 [ints xs, ints ys] (cb (decide (xs = ys))) := by
  refine Spec_of mx Γ_ok Tryz.func129 rfl ?_
  conv => whnf
  split <;> rename_i h0
  · conv => whnf
    simp only [bne_iff_ne, ne_eq] at h0
    show cb false = _
    rw [ne_len (by omega)]
  conv => whnf
  have h0' : xs.length = ys.length := by
    have h3 : (xs.length : Int) = ys.length := by simpa using h0
    omega
  refine ⟨[(0,0),(1,0),(4,0),(5,0)], fun m s => ∃ (k : Nat) (e : Int), e = k ∧ m + k = xs.length ∧ decide (xs = ys) = decide (xs.drop k = ys.drop k) ∧
    s = ⟨26, [(0, ints xs), (1, ints ys), (4, cb false), (5, ci e)], []⟩, xs.length, ⟨0, 0, rfl, rfl, rfl, rfl⟩, ?_⟩
  rintro m s ⟨k, _, rfl, hm, hj, rfl⟩
  conv => whnf
  split <;> rename_i h1
  all_goals simp only [decide_eq_true_eq, decide_eq_false_iff_not] at h1
  · conv => whnf
    have hk : k < xs.length := by omega
    have hk' : k < ys.length := by omega
    rw [drop_eq_at hk hk'] at hj
    refine ⟨List.range 9, by kernel_rfl, ?_⟩
    conv => whnf
    refine ⟨by omega, rows_len ciL_len xs, ?_⟩
    conv => whnf
    refine ⟨_, takeN_rp (k := k) ciL_len hk, ?_⟩
    conv => whnf
    refine ⟨by omega, rows_len ciL_len ys, ?_⟩
    conv => whnf
    refine ⟨_, takeN_rp (k := k) ciL_len hk', ?_⟩
    conv => whnf
    split <;> rename_i h2
    · conv => whnf
      show cb false = _
      rw [hj, decide_eq_false (p := xs[k] = ys[k]) (by simpa using h2), Bool.false_and]
    · conv => whnf
      rw [decide_eq_true (p := xs[k] = ys[k]) (by simpa using h2), Bool.true_and] at hj
      exact ⟨m - 1, by omega, k + 1, _, wrap_id (by omega) (by omega), by omega, hj, rfl⟩
  · conv => whnf
    rw [hj, drop_end (by omega), drop_end (by omega)]
    rfl
end Go.Proofs.YtcjdfeafcmfgpaaGreatD
set_option linter.unusedVariables false
set_option linter.unusedSimpArgs false
set_option maxRecDepth 100000
namespace Go.Proofs.YtcjdfeafcmfgpaaGreatD
open Go Go.Proofs
theorem slicesEq_spec (xs ys : List Int) (hl : xs.length ≤ 1099511627776) (hl' : ys.length ≤ 1099511627776) : Spec Tryz.prog 197 [ints xs, ints ys] (cb (decide (xs = ys))) := by
  refine Spec_of mx Γ_ok Tryz.func197 rfl ?_
  conv => whnf
  split <;> rename_i h0
  · conv => whnf
    simp only [bne_iff_ne, ne_eq] at h0
    show cb false = _
    rw [ne_len (by omega)]
  conv => whnf
  have h0' : xs.length = ys.length := by
    have h3 : (xs.length : Int) = ys.length := by simpa using h0
    omega
  refine ⟨[(0,0),(1,0),(4,0),(12,0),(13,0)], fun m s => ∃ (k : Nat) (e : Int), e = k ∧ m + k = xs.length ∧ decide (xs = ys) = decide (xs.drop k = ys.drop k) ∧
    s = ⟨26, [(0, ints xs), (1, ints ys), (4, cb false), (12, ci xs.length), (13, ci e)], []⟩, xs.length, ⟨0, 0, rfl, rfl, rfl, rfl⟩, ?_⟩
  rintro m s ⟨k, _, rfl, hm, hj, rfl⟩
  conv => whnf
  split <;> rename_i h1
  all_goals simp only [decide_eq_true_eq, decide_eq_false_iff_not] at h1
  · conv => whnf
    have hk : k < xs.length := by omega
    have hk' : k < ys.length := by omega
    rw [drop_eq_at hk hk'] at hj
    refine ⟨List.range 9, by kernel_rfl, ?_⟩
    conv => whnf
    refine ⟨by omega, rows_len ciL_len xs, ?_⟩
    conv => whnf
    refine ⟨_, takeN_rp (k := k) ciL_len hk, ?_⟩
    conv => whnf
    refine ⟨by omega, rows_len ciL_len ys, ?_⟩
    conv => whnf
    refine ⟨_, takeN_rp (k := k) ciL_len hk', ?_⟩
    conv => whnf
    split <;> rename_i h2
    · conv => whnf
      show cb false = _
      rw [hj, decide_eq_false (p := xs[k] = ys[k]) (by simpa using h2), Bool.false_and]
    · conv => whnf
      rw [decide_eq_true (p := xs[k] = ys[k]) (by simpa using h2), Bool.true_and] at hj
      exact ⟨m - 1, by omega, k + 1, _, wrap_id (by omega) (by omega), by omega, hj, rfl⟩
  · conv => whnf
    rw [hj, drop_end (by omega), drop_end (by omega)]
    rfl
end Go.Proofs.YtcjdfeafcmfgpaaGreatD
set_option linter.unusedVariables false
set_option linter.unusedSimpArgs false
namespace Go.Proofs.YtcjdfeafcmfgpaaGreatD
open Go Go.Proofs
def schema (xs : List Int) : V := .agg [ints xs]
def key (r : Int) (xs : List Int) : V := .agg [ci r, ints xs]
def inR (x lo hi : Int) : Bool := decide (lo ≤ x) && decide (x ≤ hi)
theorem inR_of {x lo hi : Int} {b : Bool} (h : decide (x ≥ lo) = b) : inR x lo hi = (b && decide (x ≤ hi)) := by
  unfold inR
  rw [show decide (lo ≤ x) = b from h]
theorem l1In_spec (x lo hi : Int) : Spec Tryz.prog 133 [ci x, ci lo, ci hi] (cb (inR x lo hi)) := by
  refine Spec_of mx Γ_ok Tryz.func133 rfl ?_
  (repeat' ((conv => whnf); (split <;> rename_i hsplit <;> (try rw [hsplit]))))
  all_goals conv => whnf
  · rw [inR_of hsplit, Bool.true_and]
    rfl
  · rw [inR_of hsplit, Bool.false_and]
    rfl
theorem within_spec (x lo hi : Int) : Spec Tryz.prog 151 [ci x, ci lo, ci hi] (cb (inR x lo hi)) := by
  refine Spec_of mx Γ_ok Tryz.func151 rfl ?_
  (repeat' ((conv => whnf); (split <;> rename_i hsplit <;> (try rw [hsplit]))))
  all_goals conv => whnf
  · rw [inR_of hsplit, Bool.true_and]
    rfl
  · rw [inR_of hsplit, Bool.false_and]
    rfl
def isSchema (xs : List Int) : Bool := xs.all (fun x => inR x 1 3) && inR xs.length 1 4
theorem all_true {α : Type} {p : α → Bool} {xs : List α} (h : ∀ j y, j < xs.length → xs[j]? = some y → p y = true) : xs.all p = true := by
  rw [List.all_eq_true]
  intro y hy
  obtain ⟨j, hj⟩ := List.getElem?_of_mem hy
  exact h j y (List.getElem?_eq_some_iff.1 hj).1 hj
theorem all_false {α : Type} {p : α → Bool} {xs : List α} {k : Nat} (hk : k < xs.length) (h : p xs[k] = false) : xs.all p = false := by
  rw [Bool.eq_false_iff]
  intro ha
  rw [List.all_eq_true] at ha
  rw [ha _ (List.getElem_mem hk)] at h
  cases h
theorem step_inv {α : Type} {p : α → Bool} {xs : List α} {k : Nat} (hk : k < xs.length) (hj : ∀ j y, j < k → xs[j]? = some y → p y = true) (h : p xs[k] = true) : ∀ j y, j < k + 1 → xs[j]? = some y → p y = true := by
  intro j y hlt hy
  rcases Nat.lt_succ_iff_lt_or_eq.1 hlt with h1 | rfl
  · exact hj j y h1 hy
  · rw [List.getElem?_eq_getElem hk] at hy
    cases hy
    exact h
theorem specIsSchema_spec (xs : List Int) (hl : xs.length ≤ 1099511627776) : Spec Tryz.prog 132 [schema xs] (cb (isSchema xs)) := by
  refine Spec_of mx Γ_ok Tryz.func132 rfl ?_
  conv => whnf
  refine ⟨[(1,0),(2,0),(3,0)], fun m s => ∃ (k : Nat) (e : Int), e = k ∧ m + k = xs.length ∧ (∀ j y, j < k → xs[j]? = some y → inR y 1 3 = true) ∧
    s = ⟨22, [(1, .ptr 0 0), (2, cb false), (3, ci e)], [some ⟨true, [ints xs]⟩]⟩, xs.length, ⟨0, 0, rfl, rfl, by simp, rfl⟩, ?_⟩
  rintro m s ⟨k, _, rfl, hm, hj, rfl⟩
  conv => whnf
  split <;> rename_i h1
  all_goals simp only [decide_eq_true_eq, decide_eq_false_iff_not] at h1
  · conv => whnf
    have hk : k < xs.length := by omega
    refine ⟨by omega, rows_len ciL_len xs, ?_⟩
    conv => whnf
    refine ⟨_, takeN_rp (k := k) ciL_len hk, ?_⟩
    conv => whnf
    refine ⟨_, l1In_spec _ _ _, .inl rfl, .inl ?_⟩
    conv => whnf
    split <;> rename_i h2
    all_goals simp only [Bool.not_eq_true', Bool.not_eq_false'] at h2
    · conv => whnf
      show cb false = _
      unfold isSchema
      rw [all_false (p := fun x => inR x 1 3) hk h2, Bool.false_and]
    · conv => whnf
      exact ⟨m - 1, by omega, k + 1, _, wrap_id (by omega) (by omega), by omega, step_inv hk hj h2, rfl⟩
  · conv => whnf
    refine ⟨_, l1In_spec _ _ _, .inl rfl, .inl ?_⟩
    conv => whnf
    show cb (inR xs.length 1 4) = _
    unfold isSchema
    rw [all_true (p := fun x => inR x 1 3) fun j y h hy => hj j y (by omega) hy, Bool.true_and]
theorem implIsSchema_spec (xs : List Int) (hl : xs.length ≤ 1099511627776) : Spec Tryz.prog 150 [schema xs] (cb (isSchema xs)) := by
  refine Spec_of mx Γ_ok Tryz.func150 rfl ?_
  conv => whnf
  refine ⟨[(1,0),(2,0),(6,0),(7,0),(8,0)], fun m s => ∃ (k : Nat) (e : Int), e = k ∧ m + k = xs.length ∧ (∀ j y, j < k → xs[j]? = some y → inR y 1 3 = true) ∧
    s = ⟨20, [(1, .ptr 0 0), (2, cb false), (6, ints xs), (7, ci xs.length), (8, ci e)], [some ⟨true, [ints xs]⟩]⟩, xs.length, ⟨0, 0, rfl, rfl, by simp, rfl⟩, ?_⟩
  rintro m s ⟨k, _, rfl, hm, hj, rfl⟩
  conv => whnf
  split <;> rename_i h1
  all_goals simp only [decide_eq_true_eq, decide_eq_false_iff_not] at h1
  · conv => whnf
    have hk : k < xs.length := by omega
    refine ⟨by omega, rows_len ciL_len xs, ?_⟩
    conv => whnf
    refine ⟨_, takeN_rp (k := k) ciL_len hk, ?_⟩
    conv => whnf
    refine ⟨_, within_spec _ _ _, .inl rfl, .inl ?_⟩
    conv => whnf
    split <;> rename_i h2
    all_goals simp only [Bool.not_eq_true', Bool.not_eq_false'] at h2
    · conv => whnf
      show cb false = _
      unfold isSchema
      rw [all_false (p := fun x => inR x 1 3) hk h2, Bool.false_and]
    · conv => whnf
      exact ⟨m - 1, by omega, k + 1, _, wrap_id (by omega) (by omega), by omega, step_inv hk hj h2, rfl⟩
  · conv => whnf
    refine ⟨_, within_spec _ _ _, .inl rfl, .inl ?_⟩
    conv => whnf
    show cb (inR xs.length 1 4) = _
    unfold isSchema
    rw [all_true (p := fun x => inR x 1 3) fun j y h hy => hj j y (by omega) hy, Bool.true_and]
end Go.Proofs.YtcjdfeafcmfgpaaGreatD
