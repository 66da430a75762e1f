/- Part 11 of the proof of the statement FnFreezes: contracts of functions and plain laws; no condition. -/
import Derived.Test.YtcjdfeafcmfgpaaGreatQ10
import Derived.Test.YtcjdfeafcmfgpaaGreatQ8
set_option linter.unusedVariables false
set_option linter.unusedSimpArgs false
namespace Go.Proofs.YtcjdfeafcmfgpaaGreatD
open Go Go.Proofs
def sz1 (n : Nat) (left : Int) : Int := if left - n < 0 then -1 else left - n
end Go.Proofs.YtcjdfeafcmfgpaaGreatD
set_option linter.unusedVariables false
set_option linter.unusedSimpArgs false
namespace Go.Proofs.YtcjdfeafcmfgpaaGreatD
open Go Go.Proofs
end Go.Proofs.YtcjdfeafcmfgpaaGreatD
set_option linter.unusedVariables false
set_option linter.unusedSimpArgs false
namespace Go.Proofs.YtcjdfeafcmfgpaaGreatD
open Go Go.Proofs
section
variable {α : Type}
def sumB (f : α → Nat) : List α → Nat
  | [] => 0
  | x :: xs => f x + sumB f xs
theorem sumB_at {f : α → Nat} : ∀ {xs : List α} {k : Nat} (hk : k < xs.length), sumB f (xs.take (k + 1)) = sumB f (xs.take k) + f xs[k]
  | x :: xs, 0, _ => by simp [sumB]
  | x :: xs, k + 1, hk => by
    have := sumB_at (f := f) (xs := xs) (k := k) (by simpa using hk)
    simp only [List.take_succ_cons, sumB, List.getElem_cons_succ] at this ⊢
    omega
theorem sumB_take {f : α → Nat} : ∀ (xs : List α) (k : Nat), sumB f (xs.take k) ≤ sumB f xs
  | [], k => by simp
  | x :: xs, 0 => by simp [sumB]
  | x :: xs, k + 1 => by have := sumB_take (f := f) xs k; simp only [List.take_succ_cons, sumB]; omega
theorem sumB_le {f : α → Nat} {xs : List α} {k : Nat} (hk : k < xs.length) : sumB f (xs.take k) + f xs[k] ≤ sumB f xs := by
  rw [← sumB_at hk]; exact sumB_take xs _
theorem sumB_one {f : α → Nat} {xs : List α} {k : Nat} (hk : k < xs.length) : f xs[k] ≤ sumB f xs := by have := sumB_le (f := f) hk; omega
end
theorem flat1 {v : V} (h : flat v = true) : ∀ c ∈ [v], flat c = true := fun c hc => by
  simp only [List.mem_singleton] at hc
  rw [hc]; exact h
theorem solid_ci (xs : List Int) : ∀ c ∈ rows ciL xs, solid c = true := all_rows (fun x c hc => by simp only [ciL, List.mem_singleton] at hc; rw [hc]; rfl) xs
theorem snoc_ci (xs : List Int) (x : Int) : rows ciL xs ++ [ci x] = rows ciL (xs ++ [x]) := by rw [rows_append]; rfl
theorem app_ci (xs ys : List Int) : rows ciL xs ++ rows ciL ys = rows ciL (xs ++ ys) := (rows_append ciL ys xs).symm
theorem drop_all {α : Type} {p : α → Bool} {xs : List α} {k : Nat} (hk : k < xs.length) : (xs.drop k).all p = (p xs[k] && (xs.drop (k + 1)).all p) := by
  rw [List.drop_eq_getElem_cons hk]
  rfl
theorem drop_any {α : Type} {p : α → Bool} {xs : List α} {k : Nat} (hk : k < xs.length) : (xs.drop k).any p = (p xs[k] || (xs.drop (k + 1)).any p) := by
  rw [List.drop_eq_getElem_cons hk]
  rfl
theorem drop_end {α : Type} {xs : List α} {k : Nat} (hk : xs.length ≤ k) : xs.drop k = [] := List.drop_eq_nil_of_le hk
theorem roVs_ci (xs : List Int) : roVs (rows ciL xs) = rows ciL xs := roVs_rows (fun _ => rfl) xs
end Go.Proofs.YtcjdfeafcmfgpaaGreatD
set_option linter.unusedVariables false
set_option linter.unusedSimpArgs false
set_option maxRecDepth 100000
namespace Go.Proofs.YtcjdfeafcmfgpaaGreatD
open Go Go.Proofs
theorem ci_ro (x : Int) : roV (ci x) = ci x := rfl
theorem intsT_ro (x : List Int) : roV (intsT x) = ints x := by simp only [intsT, ints, roV, roVs_ci]
def rSchema (x : (List Int)) : List V := [ints (x)]
def tSchema (x : (List Int)) : List V := [intsT (x)]
def vSchema (x : (List Int)) : V := .agg (rSchema x)
def wSchema (x : (List Int)) : V := .agg (tSchema x)
theorem tSchema_ro (x : (List Int)) : roVs (tSchema x) = rSchema x := by
  simp only [tSchema, rSchema, roVs, intsT_ro]
theorem wSchema_ro (x : (List Int)) : roV (wSchema x) = vSchema x := by simp only [wSchema, vSchema, roV, tSchema_ro]
def cSchema (x : (List Int)) : Nat := (x).length
def rAtom (x : (Int × (List Int))) : List V := [ci (x.1), ints (x.2)]
def tAtom (x : (Int × (List Int))) : List V := [ci (x.1), intsT (x.2)]
def vAtom (x : (Int × (List Int))) : V := .agg (rAtom x)
def wAtom (x : (Int × (List Int))) : V := .agg (tAtom x)
theorem rAtom_len (x : (Int × (List Int))) : (rAtom x).length = 2 := rfl
theorem tAtom_len (x : (Int × (List Int))) : (tAtom x).length = 2 := rfl
theorem tAtom_ro (x : (Int × (List Int))) : roVs (tAtom x) = rAtom x := by
  simp only [tAtom, rAtom, roVs, ci_ro, intsT_ro]
def cAtom (x : (Int × (List Int))) : Nat := (x.2).length
def vAtomS (xs : (List (Int × (List Int)))) : V := .ro xs.length (rows rAtom xs)
def wAtomS (xs : (List (Int × (List Int)))) : V := .tr 2 xs.length (rows tAtom xs)
theorem wAtomS_ro (xs : (List (Int × (List Int)))) : roV (wAtomS xs) = vAtomS xs := by simp only [wAtomS, vAtomS, roV, roVs_rows tAtom_ro]
def cAtomS (xs : (List (Int × (List Int)))) : Nat := xs.length + sumB cAtom xs
def rQuery (x : ((List Int) × (List (Int × (List Int))))) : List V := [ints (x.1), vAtomS (x.2)]
def tQuery (x : ((List Int) × (List (Int × (List Int))))) : List V := [intsT (x.1), wAtomS (x.2)]
def vQuery (x : ((List Int) × (List (Int × (List Int))))) : V := .agg (rQuery x)
def wQuery (x : ((List Int) × (List (Int × (List Int))))) : V := .agg (tQuery x)
theorem tQuery_ro (x : ((List Int) × (List (Int × (List Int))))) : roVs (tQuery x) = rQuery x := by
  simp only [tQuery, rQuery, roVs, intsT_ro, wAtomS_ro]
theorem wQuery_ro (x : ((List Int) × (List (Int × (List Int))))) : roV (wQuery x) = vQuery x := by simp only [wQuery, vQuery, roV, tQuery_ro]
def cQuery (x : ((List Int) × (List (Int × (List Int))))) : Nat := (x.1).length + cAtomS (x.2)
def rFact (x : (Int × (List Int))) : List V := [ci (x.1), ints (x.2)]
def tFact (x : (Int × (List Int))) : List V := [ci (x.1), intsT (x.2)]
def vFact (x : (Int × (List Int))) : V := .agg (rFact x)
def wFact (x : (Int × (List Int))) : V := .agg (tFact x)
theorem rFact_len (x : (Int × (List Int))) : (rFact x).length = 2 := rfl
theorem tFact_len (x : (Int × (List Int))) : (tFact x).length = 2 := rfl
theorem tFact_ro (x : (Int × (List Int))) : roVs (tFact x) = rFact x := by
  simp only [tFact, rFact, roVs, ci_ro, intsT_ro]
def cFact (x : (Int × (List Int))) : Nat := (x.2).length
theorem closed_rFact (x : (Int × (List Int))) : closeds (tFact x) := ⟨trivial, closeds_rows (f := ciL) (fun _ => ⟨trivial, trivial⟩) _, trivial⟩
def vFactS (xs : (List (Int × (List Int)))) : V := .ro xs.length (rows rFact xs)
def wFactS (xs : (List (Int × (List Int)))) : V := .tr 2 xs.length (rows tFact xs)
theorem wFactS_ro (xs : (List (Int × (List Int)))) : roV (wFactS xs) = vFactS xs := by simp only [wFactS, vFactS, roV, roVs_rows tFact_ro]
def cFactS (xs : (List (Int × (List Int)))) : Nat := xs.length + sumB cFact xs
theorem closed_wFactS (xs : (List (Int × (List Int)))) : closed (wFactS xs) := closeds_rows (f := tFact) closed_rFact xs
end Go.Proofs.YtcjdfeafcmfgpaaGreatD
set_option linter.unusedVariables false
set_option linter.unusedSimpArgs false
namespace Go.Proofs.YtcjdfeafcmfgpaaGreatD
open Go Go.Proofs
def schema (xs : List Int) : V := .agg [ints xs]
def key (r : Int) (xs : List Int) : V := .agg [ci r, ints xs]
def inR (x lo hi : Int) : Bool := decide (lo ≤ x) && decide (x ≤ hi)
theorem inR_of {x lo hi : Int} {b : Bool} (h : decide (x ≥ lo) = b) : inR x lo hi = (b && decide (x ≤ hi)) := by
  unfold inR
  rw [show decide (lo ≤ x) = b from h]
theorem l1In_spec (x lo hi : Int) : Spec Tryz.prog 133 [ci x, ci lo, ci hi] (cb (inR x lo hi)) := by
  refine Spec_of mx Γ_ok Tryz.func133 rfl ?_
  (repeat' ((conv => whnf); (split <;> rename_i hsplit <;> (try rw [hsplit]))))
  all_goals conv => whnf
  · rw [inR_of hsplit, Bool.true_and]
    rfl
  · rw [inR_of hsplit, Bool.false_and]
    rfl
theorem within_spec (x lo hi : Int) : Spec Tryz.prog 151 [ci x, ci lo, ci hi] (cb (inR x lo hi)) := by
  refine Spec_of mx Γ_ok Tryz.func151 rfl ?_
  (repeat' ((conv => whnf); (split <;> rename_i hsplit <;> (try rw [hsplit]))))
  all_goals conv => whnf
  · rw [inR_of hsplit, Bool.true_and]
    rfl
  · rw [inR_of hsplit, Bool.false_and]
    rfl
def isSchema (xs : List Int) : Bool := xs.all (fun x => inR x 1 3) && inR xs.length 1 4
theorem all_true {α : Type} {p : α → Bool} {xs : List α} (h : ∀ j y, j < xs.length → xs[j]? = some y → p y = true) : xs.all p = true := by
  rw [List.all_eq_true]
  intro y hy
  obtain ⟨j, hj⟩ := List.getElem?_of_mem hy
  exact h j y (List.getElem?_eq_some_iff.1 hj).1 hj
theorem all_false {α : Type} {p : α → Bool} {xs : List α} {k : Nat} (hk : k < xs.length) (h : p xs[k] = false) : xs.all p = false := by
  rw [Bool.eq_false_iff]
  intro ha
  rw [List.all_eq_true] at ha
  rw [ha _ (List.getElem_mem hk)] at h
  cases h
theorem step_inv {α : Type} {p : α → Bool} {xs : List α} {k : Nat} (hk : k < xs.length) (hj : ∀ j y, j < k → xs[j]? = some y → p y = true) (h : p xs[k] = true) : ∀ j y, j < k + 1 → xs[j]? = some y → p y = true := by
  intro j y hlt hy
  rcases Nat.lt_succ_iff_lt_or_eq.1 hlt with h1 | rfl
  · exact hj j y h1 hy
  · rw [List.getElem?_eq_getElem hk] at hy
    cases hy
    exact h
theorem specIsSchema_spec (xs : List Int) (hl : xs.length ≤ 1099511627776) : Spec Tryz.prog 132 [schema xs] (cb (isSchema xs)) := by
  refine Spec_of mx Γ_ok Tryz.func132 rfl ?_
  conv => whnf
  refine ⟨[(1,0),(2,0),(3,0)], fun m s => ∃ (k : Nat) (e : Int), e = k ∧ m + k = xs.length ∧ (∀ j y, j < k → xs[j]? = some y → inR y 1 3 = true) ∧
    s = ⟨22, [(1, .ptr 0 0), (2, cb false), (3, ci e)], [some ⟨true, [ints xs]⟩]⟩, xs.length, ⟨0, 0, rfl, rfl, by simp, rfl⟩, ?_⟩
  rintro m s ⟨k, _, rfl, hm, hj, rfl⟩
  conv => whnf
  split <;> rename_i h1
  all_goals simp only [decide_eq_true_eq, decide_eq_false_iff_not] at h1
  · conv => whnf
    have hk : k < xs.length := by omega
    refine ⟨by omega, rows_len ciL_len xs, ?_⟩
    conv => whnf
    refine ⟨_, takeN_rp (k := k) ciL_len hk, ?_⟩
    conv => whnf
    refine ⟨_, l1In_spec _ _ _, .inl rfl, .inl ?_⟩
    conv => whnf
    split <;> rename_i h2
    all_goals simp only [Bool.not_eq_true', Bool.not_eq_false'] at h2
    · conv => whnf
      show cb false = _
      unfold isSchema
      rw [all_false (p := fun x => inR x 1 3) hk h2, Bool.false_and]
    · conv => whnf
      exact ⟨m - 1, by omega, k + 1, _, wrap_id (by omega) (by omega), by omega, step_inv hk hj h2, rfl⟩
  · conv => whnf
    refine ⟨_, l1In_spec _ _ _, .inl rfl, .inl ?_⟩
    conv => whnf
    show cb (inR xs.length 1 4) = _
    unfold isSchema
    rw [all_true (p := fun x => inR x 1 3) fun j y h hy => hj j y (by omega) hy, Bool.true_and]
theorem implIsSchema_spec (xs : List Int) (hl : xs.length ≤ 1099511627776) : Spec Tryz.prog 150 [schema xs] (cb (isSchema xs)) := by
  refine Spec_of mx Γ_ok Tryz.func150 rfl ?_
  conv => whnf
  refine ⟨[(1,0),(2,0),(6,0),(7,0),(8,0)], fun m s => ∃ (k : Nat) (e : Int), e = k ∧ m + k = xs.length ∧ (∀ j y, j < k → xs[j]? = some y → inR y 1 3 = true) ∧
    s = ⟨20, [(1, .ptr 0 0), (2, cb false), (6, ints xs), (7, ci xs.length), (8, ci e)], [some ⟨true, [ints xs]⟩]⟩, xs.length, ⟨0, 0, rfl, rfl, by simp, rfl⟩, ?_⟩
  rintro m s ⟨k, _, rfl, hm, hj, rfl⟩
  conv => whnf
  split <;> rename_i h1
  all_goals simp only [decide_eq_true_eq, decide_eq_false_iff_not] at h1
  · conv => whnf
    have hk : k < xs.length := by omega
    refine ⟨by omega, rows_len ciL_len xs, ?_⟩
    conv => whnf
    refine ⟨_, takeN_rp (k := k) ciL_len hk, ?_⟩
    conv => whnf
    refine ⟨_, within_spec _ _ _, .inl rfl, .inl ?_⟩
    conv => whnf
    split <;> rename_i h2
    all_goals simp only [Bool.not_eq_true', Bool.not_eq_false'] at h2
    · conv => whnf
      show cb false = _
      unfold isSchema
      rw [all_false (p := fun x => inR x 1 3) hk h2, Bool.false_and]
    · conv => whnf
      exact ⟨m - 1, by omega, k + 1, _, wrap_id (by omega) (by omega), by omega, step_inv hk hj h2, rfl⟩
  · conv => whnf
    refine ⟨_, within_spec _ _ _, .inl rfl, .inl ?_⟩
    conv => whnf
    show cb (inR xs.length 1 4) = _
    unfold isSchema
    rw [all_true (p := fun x => inR x 1 3) fun j y h hy => hj j y (by omega) hy, Bool.true_and]
end Go.Proofs.YtcjdfeafcmfgpaaGreatD
set_option linter.unusedVariables false
set_option linter.unusedSimpArgs false
set_option maxRecDepth 100000
namespace Go.Proofs.YtcjdfeafcmfgpaaGreatD
open Go Go.Proofs
def cu8 (x : Int) : List V := [.sc (.int .u8 x)]
theorem cu8_len (x : Int) : (cu8 x).length = 1 := rfl
def bytesR (xs : List Int) : V := .ro xs.length (rows cu8 xs)
abbrev Cur := List Int × Nat × Int
def curC (c : Cur) : List V := [bytesR c.1, ci c.2.1, ci c.2.2]
def vCur (c : Cur) : V := .bp (curC c)
def goodC (c : Cur) : Prop := c.1.length ≤ 1099511627776 ∧ c.2.1 ≤ c.1.length
def hStep (h b : Int) : Int := andI .i64 (IntKind.i64.wrap (IntKind.i64.wrap (IntKind.i64.wrap (h * 131) + IntKind.i64.wrap b) + 7)) 1073741823
def newCur (xs : List Int) : Cur := (xs, 0, (xs.take 4000).foldl hStep (IntKind.i64.wrap (10101 + xs.length)))
theorem good_new {xs : List Int} (h : xs.length ≤ 1099511627776) : goodC (newCur xs) := ⟨h, Nat.zero_le _⟩
theorem l1New_spec (xs : List Int) (h : xs.length ≤ 1099511627776) : Spec Tryz.prog 104 [bytesR xs] (vCur (newCur xs)) := by
  unfold bytesR
  refine Spec_of mx Γ_ok Tryz.func104 rfl ?_
  conv => whnf
  refine ⟨[(0,0),(3,0),(4,0)], fun m st => ∃ (k : Nat) (e f : Int), e = k ∧ m + k = xs.length + 1 ∧ k ≤ 4000 ∧ k ≤ xs.length ∧ f = ((xs.take k).foldl hStep (IntKind.i64.wrap (10101 + xs.length))) ∧
    st = ⟨32, [(0, bytesR xs), (3, ci f), (4, ci e)], []⟩, xs.length + 1, ⟨0, 0, _, rfl, rfl, by omega, by omega, rfl, by kernel_rfl⟩, ?_⟩
  rintro m st ⟨k, _, _, rfl, hm, hk4, hkl, rfl, rfl⟩
  unfold bytesR
  have fin : ∀ f : Int, (k = xs.length ∨ k = 4000) → f = (xs.take k).foldl hStep (IntKind.i64.wrap (10101 + xs.length)) → (newCur xs) = (xs, 0, f) := by
    rintro f hk rfl
    unfold newCur
    rcases hk with rfl | rfl
    · rw [List.take_length, List.take_of_length_le (by omega)]
    · rfl
  conv => whnf
  generalize hc1 : decide ((k : Int) < (xs.length : Int)) = c1
  cases c1 with
  | false =>
    conv => whnf
    rw [fin _ (.inl (by have := of_decide_eq_false hc1; omega)) rfl]
    exact ⟨rfl, rfl, rfl⟩
  | true =>
    have hk : k < xs.length := by have := of_decide_eq_true hc1; omega
    conv => whnf
    generalize hc2 : decide ((k : Int) < 4000) = c2
    cases c2 with
    | false =>
      conv => whnf
      rw [fin _ (.inr (by have := of_decide_eq_false hc2; omega)) rfl]
      exact ⟨rfl, rfl, rfl⟩
    | true =>
      have hk4 : k < 4000 := by have := of_decide_eq_true hc2; omega
      conv => whnf
      refine ⟨by omega, rows_len cu8_len _, ?_⟩
      conv => whnf
      refine ⟨_, takeN_rp (k := k) cu8_len hk, ?_⟩
      conv => whnf
      refine ⟨m - 1, by omega, k + 1, _, hStep ((xs.take k).foldl hStep (IntKind.i64.wrap (10101 + xs.length))) xs[k], wrap_id (by omega) (by omega), by omega, by omega, by omega, ?_, by kernel_rfl⟩
      rw [List.take_succ_eq_append_getElem hk, List.foldl_append]
      rfl
def nextH (h : Int) : Int := IntKind.i64.wrap (IntKind.i64.wrap (h * 6364136223846793005) + 1442695040888963407)
def rawB (h : Int) : Int := andI .i64 (xorI .i64 (shrI .i64 h 33) (shrI .i64 h 45)) 255
def byteP (c : Cur) : Int × Cur := if c.2.1 < c.1.length then (andI .i64 (IntKind.i64.wrap (rawB (nextH c.2.2) + IntKind.i64.wrap (c.1.getD c.2.1 0))) 255, (c.1, c.2.1 + 1, nextH c.2.2)) else (rawB (nextH c.2.2), (c.1, c.2.1, nextH c.2.2))
theorem and_255 (a : Int) : 0 ≤ andI .i64 a 255 ∧ andI .i64 a 255 ≤ 255 := by
  have h : (BitVec.ofInt 64 a &&& BitVec.ofInt 64 255).toNat ≤ 255 := by
    rw [BitVec.toNat_and]
    have : (BitVec.ofInt 64 255).toNat = 255 := by decide
    rw [this]
    exact Nat.and_le_right
  have e : andI .i64 a 255 = IntKind.i64.wrap ((BitVec.ofInt 64 a &&& BitVec.ofInt 64 255).toNat : Int) := rfl
  rw [e, wrap_id (by omega) (by omega)]
  omega
theorem byteP_bd (c : Cur) : 0 ≤ (byteP c).1 ∧ (byteP c).1 ≤ 255 := by
  unfold byteP
  split
  · exact and_255 _
  · exact and_255 _
theorem byteP_good {c : Cur} (h : goodC c) : goodC (byteP c).2 := by
  unfold byteP
  obtain ⟨h1, h2⟩ := h
  split
  · exact ⟨h1, by simp only; omega⟩
  · exact ⟨h1, h2⟩
theorem curC_ne (c : Cur) : curC c ≠ [] := by unfold curC; simp
theorem set3_ne {a b d x : V} : setC [a, b, d] 2 [x] ≠ [] := by show [a, b, x] ≠ []; simp
theorem set31_ne {a b d x y : V} : setC (setC [a, b, d] 2 [x]) 1 [y] ≠ [] := by show [a, y, x] ≠ []; simp
theorem getD_at0 {l : List Int} {i : Nat} (h : i < l.length) : l.getD i 0 = l[i] := by simp [List.getD_eq_getElem?_getD, h]
set_option maxHeartbeats 1000000 in
theorem l1Byte_spec (c : Cur) (h : goodC c) : SpecR Tryz.prog 254 [vCur c] (ci (byteP c).1) [vCur (byteP c).2] := by
  obtain ⟨xs, i, hh⟩ := c
  obtain ⟨h1, h2⟩ := h
  simp only at h1 h2
  unfold vCur curC bytesR
  refine SpecL_of mx Γ_ok 1 Tryz.func254 rfl rfl (by omega) ?_
  conv => whnf
  refine ⟨_, rfl, ?_⟩
  conv => whnf
  refine ⟨_, rfl, _, rfl, ?_⟩
  conv => whnf
  refine ⟨List.range 13, by kernel_rfl, ?_⟩
  conv => whnf
  refine ⟨_, rfl, ?_⟩
  conv => whnf
  refine ⟨by decide, ?_⟩
  conv => whnf
  refine ⟨_, rfl, ?_⟩
  conv => whnf
  refine ⟨by decide, ?_⟩
  conv => whnf
  refine ⟨List.range 10, by kernel_rfl, ?_⟩
  conv => whnf
  refine ⟨_, rfl, ?_⟩
  conv => whnf
  refine ⟨_, rfl, ?_⟩
  conv => whnf
  unfold byteP
  simp only
  generalize hc1 : decide ((i : Int) < (xs.length : Int)) = c1
  cases c1 with
  | false =>
    have hk : ¬ i < xs.length := by have := of_decide_eq_false hc1; omega
    simp only [if_neg hk]
    conv => whnf
    exact ⟨rfl, set3_ne, rfl⟩
  | true =>
    have hk : i < xs.length := by have := of_decide_eq_true hc1; omega
    have hw : IntKind.i64.wrap ((i : Int) + 1) = ((i + 1 : Nat) : Int) := wrap_id (by omega) (by omega)
    simp only [if_pos hk, getD_at0 hk]
    conv => whnf
    refine ⟨List.range 15, by kernel_rfl, ?_⟩
    conv => whnf
    refine ⟨_, rfl, ?_⟩
    conv => whnf
    refine ⟨_, rfl, ?_⟩
    conv => whnf
    refine ⟨by omega, rows_len cu8_len _, ?_⟩
    conv => whnf
    refine ⟨_, takeN_rp (k := i) cu8_len hk, ?_⟩
    conv => whnf
    refine ⟨_, rfl, ?_⟩
    conv => whnf
    refine ⟨_, rfl, _, rfl, ?_⟩
    conv => whnf
    refine ⟨rfl, set31_ne, ?_⟩
    rw [← hw]
    rfl
def belowP (c : Cur) (n : Int) : Int × Cur :=
  if n ≤ 0 then (0, c) else if n ≤ 256 then ((byteP c).1.tmod n, (byteP c).2) else
    let a := byteP c
    let b := byteP a.2
    let d := byteP b.2
    let e := byteP d.2
    ((IntKind.i64.wrap (IntKind.i64.wrap (IntKind.i64.wrap (IntKind.i64.wrap (a.1 * 16777216) + IntKind.i64.wrap (b.1 * 65536)) + IntKind.i64.wrap (d.1 * 256)) + e.1)).tmod n, e.2)
theorem belowP_bd (c : Cur) {n : Int} (h : 0 < n) (h2 : n ≤ 256) : 0 ≤ (belowP c n).1 ∧ (belowP c n).1 < n := by
  unfold belowP
  rw [if_neg (by omega), if_pos h2]
  have := byteP_bd c
  simp only
  rw [Int.tmod_eq_emod_of_nonneg this.1]
  exact ⟨Int.emod_nonneg _ (by omega), Int.emod_lt_of_pos _ h⟩
theorem belowP_good {c : Cur} (h : goodC c) (n : Int) : goodC (belowP c n).2 := by
  unfold belowP
  split
  · exact h
  · split
    · exact byteP_good h
    · exact byteP_good (byteP_good (byteP_good (byteP_good h)))
theorem l1Below_spec (c : Cur) (n : Int) (h : goodC c) (hn : n ≤ 256) : SpecR Tryz.prog 166 [vCur c, ci n] (ci (belowP c n).1) [vCur (belowP c n).2, ci n] := by
  unfold belowP
  rw [show vCur c = .bp (curC c) from rfl]
  unfold curC bytesR
  refine SpecL_of mx Γ_ok 2 Tryz.func166 rfl rfl (by omega) ?_
  conv => whnf
  generalize hc1 : decide (n ≤ 0) = c1
  cases c1 with
  | true =>
    rw [if_pos (of_decide_eq_true hc1)]
    conv => whnf
    exact ⟨rfl, by simp, rfl⟩
  | false =>
    have h0 := of_decide_eq_false hc1
    rw [if_neg h0, if_pos hn]
    have e : decide (n ≤ 256) = true := decide_eq_true hn
    conv => whnf
    rw [e]
    conv => whnf
    refine .inr (.inl ?_)
    conv => whnf
    refine ⟨by simp, ?_⟩
    conv => whnf
    have hs := l1Byte_spec c h
    refine ⟨_, _, _, hs, ?_⟩
    conv => whnf
    refine .inl ?_
    conv => whnf
    refine ⟨by omega, ?_⟩
    conv => whnf
    exact ⟨rfl, curC_ne _, rfl⟩
end Go.Proofs.YtcjdfeafcmfgpaaGreatD
set_option linter.unusedVariables false
set_option linter.unusedSimpArgs false
set_option maxRecDepth 100000
namespace Go.Proofs.YtcjdfeafcmfgpaaGreatD
open Go Go.Proofs
theorem drop_eq_at {α : Type} [DecidableEq α] {xs ys : List α} {k : Nat} (hk : k < xs.length) (hk' : k < ys.length) : decide (xs.drop k = ys.drop k) = (decide (xs[k] = ys[k]) && decide (xs.drop (k + 1) = ys.drop (k + 1))) := by
  rw [List.drop_eq_getElem_cons hk, List.drop_eq_getElem_cons hk', ← Bool.decide_and, decide_eq_decide]
  simp only [List.cons.injEq]
theorem ne_len {α : Type} [DecidableEq α] {xs ys : List α} (h : xs.length ≠ ys.length) : decide (xs = ys) = false := decide_eq_false fun e => h (congrArg List.length e)
theorem l2Ints_spec (xs ys : List Int) (hl : xs.length ≤ 1099511627776) (hl' : ys.length ≤ 1099511627776) : Spec Tryz.prog 129 [ints xs, ints ys] (cb (decide (xs = ys))) := by
  refine Spec_of mx Γ_ok Tryz.func129 rfl ?_
  conv => whnf
  split <;> rename_i h0
  · conv => whnf
    simp only [bne_iff_ne, ne_eq] at h0
    show cb false = _
    rw [ne_len (by omega)]
  conv => whnf
  have h0' : xs.length = ys.length := by
    have h3 : (xs.length : Int) = ys.length := by simpa using h0
    omega
  refine ⟨[(0,0),(1,0),(4,0),(5,0)], fun m s => ∃ (k : Nat) (e : Int), e = k ∧ m + k = xs.length ∧ decide (xs = ys) = decide (xs.drop k = ys.drop k) ∧
    s = ⟨26, [(0, ints xs), (1, ints ys), (4, cb false), (5, ci e)], []⟩, xs.length, ⟨0, 0, rfl, rfl, rfl, rfl⟩, ?_⟩
  rintro m s ⟨k, _, rfl, hm, hj, rfl⟩
  conv => whnf
  split <;> rename_i h1
  all_goals simp only [decide_eq_true_eq, decide_eq_false_iff_not] at h1
  · conv => whnf
    have hk : k < xs.length := by omega
    have hk' : k < ys.length := by omega
    rw [drop_eq_at hk hk'] at hj
    refine ⟨List.range 9, by kernel_rfl, ?_⟩
    conv => whnf
    refine ⟨by omega, rows_len ciL_len xs, ?_⟩
    conv => whnf
    refine ⟨_, takeN_rp (k := k) ciL_len hk, ?_⟩
    conv => whnf
    refine ⟨by omega, rows_len ciL_len ys, ?_⟩
    conv => whnf
    refine ⟨_, takeN_rp (k := k) ciL_len hk', ?_⟩
    conv => whnf
    split <;> rename_i h2
    · conv => whnf
      show cb false = _
      rw [hj, decide_eq_false (p := xs[k] = ys[k]) (by simpa using h2), Bool.false_and]
    · conv => whnf
      rw [decide_eq_true (p := xs[k] = ys[k]) (by simpa using h2), Bool.true_and] at hj
      exact ⟨m - 1, by omega, k + 1, _, wrap_id (by omega) (by omega), by omega, hj, rfl⟩
  · conv => whnf
    rw [hj, drop_end (by omega), drop_end (by omega)]
    rfl
end Go.Proofs.YtcjdfeafcmfgpaaGreatD
set_option linter.unusedVariables false
set_option linter.unusedSimpArgs false
set_option maxRecDepth 100000
namespace Go.Proofs.YtcjdfeafcmfgpaaGreatD
open Go Go.Proofs
theorem slicesEq_spec (xs ys : List Int) (hl : xs.length ≤ 1099511627776) (hl' : ys.length ≤ 1099511627776) : Spec Tryz.prog 197 [ints xs, ints ys] (cb (decide (xs = ys))) := by
  refine Spec_of mx Γ_ok Tryz.func197 rfl ?_
  conv => whnf
  split <;> rename_i h0
  · conv => whnf
    simp only [bne_iff_ne, ne_eq] at h0
    show cb false = _
    rw [ne_len (by omega)]
  conv => whnf
  have h0' : xs.length = ys.length := by
    have h3 : (xs.length : Int) = ys.length := by simpa using h0
    omega
  refine ⟨[(0,0),(1,0),(4,0),(12,0),(13,0)], fun m s => ∃ (k : Nat) (e : Int), e = k ∧ m + k = xs.length ∧ decide (xs = ys) = decide (xs.drop k = ys.drop k) ∧
    s = ⟨26, [(0, ints xs), (1, ints ys), (4, cb false), (12, ci xs.length), (13, ci e)], []⟩, xs.length, ⟨0, 0, rfl, rfl, rfl, rfl⟩, ?_⟩
  rintro m s ⟨k, _, rfl, hm, hj, rfl⟩
  conv => whnf
  split <;> rename_i h1
  all_goals simp only [decide_eq_true_eq, decide_eq_false_iff_not] at h1
  · conv => whnf
    have hk : k < xs.length := by omega
    have hk' : k < ys.length := by omega
    rw [drop_eq_at hk hk'] at hj
    refine ⟨List.range 9, by kernel_rfl, ?_⟩
    conv => whnf
    refine ⟨by omega, rows_len ciL_len xs, ?_⟩
    conv => whnf
    refine ⟨_, takeN_rp (k := k) ciL_len hk, ?_⟩
    conv => whnf
    refine ⟨by omega, rows_len ciL_len ys, ?_⟩
    conv => whnf
    refine ⟨_, takeN_rp (k := k) ciL_len hk', ?_⟩
    conv => whnf
    split <;> rename_i h2
    · conv => whnf
      show cb false = _
      rw [hj, decide_eq_false (p := xs[k] = ys[k]) (by simpa using h2), Bool.false_and]
    · conv => whnf
      rw [decide_eq_true (p := xs[k] = ys[k]) (by simpa using h2), Bool.true_and] at hj
      exact ⟨m - 1, by omega, k + 1, _, wrap_id (by omega) (by omega), by omega, hj, rfl⟩
  · conv => whnf
    rw [hj, drop_end (by omega), drop_end (by omega)]
    rfl
end Go.Proofs.YtcjdfeafcmfgpaaGreatD
set_option linter.unusedVariables false
set_option linter.unusedSimpArgs false
set_option maxRecDepth 100000
namespace Go.Proofs.YtcjdfeafcmfgpaaGreatD
open Go Go.Proofs
theorem getD_at {ps : List Int} {k : Nat} (hk : k < ps.length) : ps.getD k 0 = ps[k] := by simp [List.getD_eq_getElem?_getD, hk]
theorem schema_at {xs : List Int} (h : isSchema xs = true) {q : Nat} (hq : q < xs.length) : 1 ≤ xs[q] ∧ xs[q] ≤ 3 := by
  unfold isSchema at h
  simp only [Bool.and_eq_true, List.all_eq_true] at h
  have := h.1 xs[q] (List.getElem_mem hq)
  simpa [inR] using this
end Go.Proofs.YtcjdfeafcmfgpaaGreatD
set_option linter.unusedVariables false
set_option linter.unusedSimpArgs false
namespace Go.Proofs.YtcjdfeafcmfgpaaGreatD
open Go Go.Proofs
def eqV (v : Int) (y : Int) : Bool := y == v
def has (xs : List Int) (v : Int) : Bool := xs.any (eqV v)
theorem l2Has_spec (xs : List Int) (v : Int) (hl : xs.length ≤ 1099511627776) : Spec Tryz.prog 157 [ints xs, ci v] (cb (has xs v)) := by
  refine Spec_of mx Γ_ok Tryz.func157 rfl ?_
  conv => whnf
  refine ⟨[(0,0),(1,0),(4,0),(5,0)], fun m s => ∃ (k : Nat) (e : Int), e = k ∧ m + k = xs.length ∧ has xs v = (xs.drop k).any (eqV v) ∧ s = ⟨18, [(0, ints xs), (1, ci v), (4, cb false), (5, ci e)], []⟩, xs.length, ⟨0, 0, rfl, rfl, rfl, rfl⟩, ?_⟩
  rintro m s ⟨k, _, rfl, hm, hj, rfl⟩
  conv => whnf
  split <;> rename_i h1
  all_goals simp only [decide_eq_true_eq, decide_eq_false_iff_not] at h1
  · conv => whnf
    have hk : k < xs.length := by omega
    rw [drop_any hk] at hj
    refine ⟨by omega, rows_len ciL_len xs, ?_⟩
    conv => whnf
    refine ⟨_, takeN_rp (k := k) ciL_len hk, ?_⟩
    conv => whnf
    split <;> rename_i h2
    · conv => whnf
      rw [hj, show eqV v xs[k] = true from h2]
      rfl
    · conv => whnf
      rw [show eqV v xs[k] = false from h2, Bool.false_or] at hj
      exact ⟨m - 1, by omega, k + 1, _, wrap_id (by omega) (by omega), by omega, hj, rfl⟩
  · conv => whnf
    rw [hj, drop_end (by omega)]
    rfl
end Go.Proofs.YtcjdfeafcmfgpaaGreatD
