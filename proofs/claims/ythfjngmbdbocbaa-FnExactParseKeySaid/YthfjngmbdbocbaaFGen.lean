/- The laws' helpers, type by type; printed by wip/gen.py. -/
import Derived.Test.YthfjngmbdbocbaaFGenLib
set_option linter.unusedVariables false
set_option linter.unusedSimpArgs false
set_option maxRecDepth 100000
namespace Go.Proofs.YthfjngmbdbocbaaD
open Go Go.Proofs

theorem ci_ro (x : Int) : roV (ci x) = ci x := rfl
theorem intsT_ro (x : List Int) : roV (intsT x) = ints x := by simp only [intsT, ints, roV, roVs_ci]
def rSchema (x : (List Int)) : List V := [ints (x)]
def tSchema (x : (List Int)) : List V := [intsT (x)]
def vSchema (x : (List Int)) : V := .agg (rSchema x)
def wSchema (x : (List Int)) : V := .agg (tSchema x)
theorem rSchema_len (x : (List Int)) : (rSchema x).length = 1 := rfl
theorem tSchema_len (x : (List Int)) : (tSchema x).length = 1 := rfl
theorem tSchema_ro (x : (List Int)) : roVs (tSchema x) = rSchema x := by
  simp only [tSchema, rSchema, roVs, intsT_ro]
theorem wSchema_ro (x : (List Int)) : roV (wSchema x) = vSchema x := by simp only [wSchema, vSchema, roV, tSchema_ro]
def cSchema (x : (List Int)) : Nat := (x).length
def mSchema (x : (List Int)) : Nat := (x).length
def eSchema (x : (List Int)) : Nat := (x).length
def kSchema (x : (List Int)) (k : Int) : (List Int) := mkI (x).length (k)
def nSchema (x : (List Int)) (k : Int) : (List Int) := mkI (x).length (k)
def qSchema (x : (List Int)) : Prop := (x.length ≤ maxLen ∧ ∀ y ∈ x, (Lit.int .i64 y).wf = true)
theorem toSchema_spec (x : (List Int)) (h : cSchema x ≤ 1099511627776) : Spec Try.prog 9 [vSchema x] (wSchema x) := by
  unfold cSchema at h
  refine Spec_of mx Γ_ok Try.func9 rfl ?_
  conv => whnf
  refine ⟨_, toIntS_spec (x) (by omega), .inl rfl, .inr ?_⟩
  conv => whnf
  exact ⟨by rw [rows_len ciL_len], rfl⟩
theorem szSchema_spec (x : (List Int)) (left : Int) (h : qSchema x) (h1 : 0 ≤ left) (h2 : left ≤ 1099511627776) : Spec Try.prog 7 [vSchema x, ci left] (ci (sz1 (cSchema x) left)) := by
  unfold qSchema at h
  unfold cSchema
  have hq0 := h
  refine Spec_of mx Γ_ok Try.func7 rfl ?_
  conv => whnf
  refine ⟨_, szIntS_spec (x) (left) (by have := hq0.1; simp only [maxLen] at this; omega) (by omega) (by omega), .inl rfl, .inl ?_⟩
  conv => whnf
  generalize hb0 : decide (sz1 ((x).length) (left) < 0) = b0
  rcases sz1_dec hb0 with ⟨rfl, hn0⟩ | ⟨rfl, hs0, hl0⟩
  · conv => whnf
    show ci (-1) = _
    rw [sz1_neg (by omega)]
  rw [hs0]
  conv => whnf
  show ci (left - ((x).length : Nat)) = _
  first | rfl | (rw [sz1_pos (by omega)]; congr 1; omega)
theorem eqSchema_spec (x : (List Int)) (h : cSchema x ≤ 1099511627776) : Spec Try.prog 12 [vSchema x, vSchema x] (cb true) := by
  unfold cSchema at h
  refine Spec_of mx Γ_ok Try.func12 rfl ?_
  conv => whnf
  refine ⟨_, eqIntS_refl (x) (by omega), .inl rfl, .inl ?_⟩
  conv => whnf
  rfl
theorem markSchema_spec (x : (List Int)) (k : Int) (h : k + (mSchema x : Nat) ≤ 4398046511104) (hc : cSchema x ≤ 1099511627776) (h1 : 0 ≤ k) : SpecR Try.prog 13 [wSchema x, ci k] (ci (k + (mSchema x : Nat))) [wSchema (kSchema x k), ci k] := by
  unfold mSchema at h ⊢
  unfold cSchema at hc
  refine SpecL_of mx Γ_ok 2 Try.func13 rfl rfl (by omega) ?_
  conv => whnf
  refine .inr (.inl ⟨by rw [rows_len ciL_len], ?_⟩)
  conv => whnf
  refine ⟨_, _, _, markIntS_spec (x) (k) (by omega) (by omega) (by omega), ?_⟩
  conv => whnf
  refine .inl ?_
  conv => whnf
  refine ⟨by first | rfl | (show ci _ = ci _; congr 1; omega), ?_⟩
  conv => whnf
  refine ⟨by rw [rows_len ciL_len, mkI_len], ?_⟩
  conv => whnf
  simp only [intsT, mkI_len, mkL_len, wSchema, tSchema, kSchema, ci]
theorem closed_rSchema (x : (List Int)) : closeds (tSchema x) := ⟨closeds_rows (f := ciL) (fun _ => ⟨trivial, trivial⟩) _, trivial⟩
theorem closed_wSchema (x : (List Int)) : closed (wSchema x) := closed_rSchema x
theorem mSchema_le (x : (List Int)) : mSchema x ≤ 4 * cSchema x := by
  unfold mSchema cSchema
  omega
theorem eSchema_le (x : (List Int)) : eSchema x ≤ 2 + 4 * cSchema x := by
  unfold eSchema cSchema
  omega
def uSchema (x : (List Int)) (k : Int) : V := .agg [.ro (x).length (rows ciL (mkI (x).length (k)))]
theorem uSchema_eq (x : (List Int)) (k : Int) : vSchema (kSchema x k) = uSchema x k := by
  simp only [vSchema, rSchema, kSchema, uSchema, ints, mkI_len]
def rAtom (x : (Int × (List Int))) : List V := [ci (x.1), ints (x.2)]
def tAtom (x : (Int × (List Int))) : List V := [ci (x.1), intsT (x.2)]
def vAtom (x : (Int × (List Int))) : V := .agg (rAtom x)
def wAtom (x : (Int × (List Int))) : V := .agg (tAtom x)
theorem rAtom_len (x : (Int × (List Int))) : (rAtom x).length = 2 := rfl
theorem tAtom_len (x : (Int × (List Int))) : (tAtom x).length = 2 := rfl
theorem tAtom_ro (x : (Int × (List Int))) : roVs (tAtom x) = rAtom x := by
  simp only [tAtom, rAtom, roVs, ci_ro, intsT_ro]
theorem wAtom_ro (x : (Int × (List Int))) : roV (wAtom x) = vAtom x := by simp only [wAtom, vAtom, roV, tAtom_ro]
def cAtom (x : (Int × (List Int))) : Nat := (x.2).length
def mAtom (x : (Int × (List Int))) : Nat := (x.2).length
def eAtom (x : (Int × (List Int))) : Nat := 1 + (x.2).length
def kAtom (x : (Int × (List Int))) (k : Int) : (Int × (List Int)) := (x.1, mkI (x.2).length (k))
def nAtom (x : (Int × (List Int))) (k : Int) : (Int × (List Int)) := (k, mkI (x.2).length (k + 1))
def qAtom (x : (Int × (List Int))) : Prop := (Lit.int .i64 x.1).wf = true ∧ (x.2.length ≤ maxLen ∧ ∀ y ∈ x.2, (Lit.int .i64 y).wf = true)
theorem closed_rAtom (x : (Int × (List Int))) : closeds (tAtom x) := ⟨trivial, closeds_rows (f := ciL) (fun _ => ⟨trivial, trivial⟩) _, trivial⟩
theorem closed_wAtom (x : (Int × (List Int))) : closed (wAtom x) := closed_rAtom x
theorem mAtom_le (x : (Int × (List Int))) : mAtom x ≤ 4 * cAtom x := by
  unfold mAtom cAtom
  omega
theorem eAtom_le (x : (Int × (List Int))) : eAtom x ≤ 2 + 4 * cAtom x := by
  unfold eAtom cAtom
  omega
def uAtom (x : (Int × (List Int))) (k : Int) : V := .agg [ci (x.1), .ro (x.2).length (rows ciL (mkI (x.2).length (k)))]
theorem uAtom_eq (x : (Int × (List Int))) (k : Int) : vAtom (kAtom x k) = uAtom x k := by
  simp only [vAtom, rAtom, kAtom, uAtom, ints, mkI_len]
def vAtomS (xs : (List (Int × (List Int)))) : V := .ro xs.length (rows rAtom xs)
def wAtomS (xs : (List (Int × (List Int)))) : V := .tr 2 xs.length (rows tAtom xs)
theorem wAtomS_ro (xs : (List (Int × (List Int)))) : roV (wAtomS xs) = vAtomS xs := by simp only [wAtomS, vAtomS, roV, roVs_rows tAtom_ro]
def cAtomS (xs : (List (Int × (List Int)))) : Nat := xs.length + sumB cAtom xs
def mAtomS (xs : (List (Int × (List Int)))) : Nat := sumB eAtom xs
def kAtomS (xs : (List (Int × (List Int)))) (k : Int) : (List (Int × (List Int))) := mkL eAtom nAtom xs k
def qAtomS (xs : (List (Int × (List Int)))) : Prop := xs.length ≤ maxLen ∧ ∀ y ∈ xs, qAtom y
theorem closed_wAtomS (xs : (List (Int × (List Int)))) : closed (wAtomS xs) := closeds_rows (f := tAtom) closed_rAtom xs
theorem mAtomS_le (xs : (List (Int × (List Int)))) : mAtomS xs ≤ 4 * cAtomS xs := by
  unfold mAtomS cAtomS
  have := sumB_le4 eAtom_le xs
  omega
def uAtomS (xs : (List (Int × (List Int)))) (k : Int) : V := .ro xs.length (rows rAtom (kAtomS xs k))
theorem uAtomS_eq (xs : (List (Int × (List Int)))) (k : Int) : vAtomS (kAtomS xs k) = uAtomS xs k := by
  have : (kAtomS xs k).length = xs.length := mkL_len _ _ _ _
  simp only [vAtomS, uAtomS, this]
def rQuery (x : ((List Int) × (List (Int × (List Int))))) : List V := [ints (x.1), vAtomS (x.2)]
def tQuery (x : ((List Int) × (List (Int × (List Int))))) : List V := [intsT (x.1), wAtomS (x.2)]
def vQuery (x : ((List Int) × (List (Int × (List Int))))) : V := .agg (rQuery x)
def wQuery (x : ((List Int) × (List (Int × (List Int))))) : V := .agg (tQuery x)
theorem rQuery_len (x : ((List Int) × (List (Int × (List Int))))) : (rQuery x).length = 2 := rfl
theorem tQuery_len (x : ((List Int) × (List (Int × (List Int))))) : (tQuery x).length = 2 := rfl
theorem tQuery_ro (x : ((List Int) × (List (Int × (List Int))))) : roVs (tQuery x) = rQuery x := by
  simp only [tQuery, rQuery, roVs, intsT_ro, wAtomS_ro]
theorem wQuery_ro (x : ((List Int) × (List (Int × (List Int))))) : roV (wQuery x) = vQuery x := by simp only [wQuery, vQuery, roV, tQuery_ro]
def cQuery (x : ((List Int) × (List (Int × (List Int))))) : Nat := (x.1).length + cAtomS (x.2)
def mQuery (x : ((List Int) × (List (Int × (List Int))))) : Nat := (x.1).length + mAtomS (x.2)
def eQuery (x : ((List Int) × (List (Int × (List Int))))) : Nat := (x.1).length + mAtomS (x.2)
def kQuery (x : ((List Int) × (List (Int × (List Int))))) (k : Int) : ((List Int) × (List (Int × (List Int)))) := (mkI (x.1).length (k), kAtomS (x.2) (k + ((x.1).length : Nat)))
def nQuery (x : ((List Int) × (List (Int × (List Int))))) (k : Int) : ((List Int) × (List (Int × (List Int)))) := (mkI (x.1).length (k), kAtomS (x.2) (k + ((x.1).length : Nat)))
def qQuery (x : ((List Int) × (List (Int × (List Int))))) : Prop := (x.1.length ≤ maxLen ∧ ∀ y ∈ x.1, (Lit.int .i64 y).wf = true) ∧ qAtomS x.2
theorem closed_rQuery (x : ((List Int) × (List (Int × (List Int))))) : closeds (tQuery x) := ⟨closeds_rows (f := ciL) (fun _ => ⟨trivial, trivial⟩) _, closed_wAtomS _, trivial⟩
theorem closed_wQuery (x : ((List Int) × (List (Int × (List Int))))) : closed (wQuery x) := closed_rQuery x
theorem mQuery_le (x : ((List Int) × (List (Int × (List Int))))) : mQuery x ≤ 4 * cQuery x := by
  unfold mQuery cQuery
  have h1 := mAtomS_le (x.2)
  omega
theorem eQuery_le (x : ((List Int) × (List (Int × (List Int))))) : eQuery x ≤ 2 + 4 * cQuery x := by
  unfold eQuery cQuery
  have h1 := mAtomS_le (x.2)
  omega
def uQuery (x : ((List Int) × (List (Int × (List Int))))) (k : Int) : V := .agg [.ro (x.1).length (rows ciL (mkI (x.1).length (k))), uAtomS (x.2) (k + ((x.1).length : Nat))]
theorem uQuery_eq (x : ((List Int) × (List (Int × (List Int))))) (k : Int) : vQuery (kQuery x k) = uQuery x k := by
  simp only [vQuery, rQuery, kQuery, uQuery, ints, mkI_len, uAtomS_eq]
def rFact (x : (Int × (List Int))) : List V := [ci (x.1), ints (x.2)]
def tFact (x : (Int × (List Int))) : List V := [ci (x.1), intsT (x.2)]
def vFact (x : (Int × (List Int))) : V := .agg (rFact x)
def wFact (x : (Int × (List Int))) : V := .agg (tFact x)
theorem rFact_len (x : (Int × (List Int))) : (rFact x).length = 2 := rfl
theorem tFact_len (x : (Int × (List Int))) : (tFact x).length = 2 := rfl
theorem tFact_ro (x : (Int × (List Int))) : roVs (tFact x) = rFact x := by
  simp only [tFact, rFact, roVs, ci_ro, intsT_ro]
theorem wFact_ro (x : (Int × (List Int))) : roV (wFact x) = vFact x := by simp only [wFact, vFact, roV, tFact_ro]
def cFact (x : (Int × (List Int))) : Nat := (x.2).length
def mFact (x : (Int × (List Int))) : Nat := (x.2).length
def eFact (x : (Int × (List Int))) : Nat := 1 + (x.2).length
def kFact (x : (Int × (List Int))) (k : Int) : (Int × (List Int)) := (x.1, mkI (x.2).length (k))
def nFact (x : (Int × (List Int))) (k : Int) : (Int × (List Int)) := (k, mkI (x.2).length (k + 1))
def qFact (x : (Int × (List Int))) : Prop := (Lit.int .i64 x.1).wf = true ∧ (x.2.length ≤ maxLen ∧ ∀ y ∈ x.2, (Lit.int .i64 y).wf = true)
theorem closed_rFact (x : (Int × (List Int))) : closeds (tFact x) := ⟨trivial, closeds_rows (f := ciL) (fun _ => ⟨trivial, trivial⟩) _, trivial⟩
theorem closed_wFact (x : (Int × (List Int))) : closed (wFact x) := closed_rFact x
theorem mFact_le (x : (Int × (List Int))) : mFact x ≤ 4 * cFact x := by
  unfold mFact cFact
  omega
theorem eFact_le (x : (Int × (List Int))) : eFact x ≤ 2 + 4 * cFact x := by
  unfold eFact cFact
  omega
def uFact (x : (Int × (List Int))) (k : Int) : V := .agg [ci (x.1), .ro (x.2).length (rows ciL (mkI (x.2).length (k)))]
theorem uFact_eq (x : (Int × (List Int))) (k : Int) : vFact (kFact x k) = uFact x k := by
  simp only [vFact, rFact, kFact, uFact, ints, mkI_len]
def rCounted (x : ((List Int) × Int)) : List V := [ints (x.1), ci (x.2)]
def tCounted (x : ((List Int) × Int)) : List V := [intsT (x.1), ci (x.2)]
def vCounted (x : ((List Int) × Int)) : V := .agg (rCounted x)
def wCounted (x : ((List Int) × Int)) : V := .agg (tCounted x)
theorem rCounted_len (x : ((List Int) × Int)) : (rCounted x).length = 2 := rfl
theorem tCounted_len (x : ((List Int) × Int)) : (tCounted x).length = 2 := rfl
theorem tCounted_ro (x : ((List Int) × Int)) : roVs (tCounted x) = rCounted x := by
  simp only [tCounted, rCounted, roVs, ci_ro, intsT_ro]
theorem wCounted_ro (x : ((List Int) × Int)) : roV (wCounted x) = vCounted x := by simp only [wCounted, vCounted, roV, tCounted_ro]
def cCounted (x : ((List Int) × Int)) : Nat := (x.1).length
def mCounted (x : ((List Int) × Int)) : Nat := (x.1).length
def eCounted (x : ((List Int) × Int)) : Nat := (x.1).length + 1
def kCounted (x : ((List Int) × Int)) (k : Int) : ((List Int) × Int) := (mkI (x.1).length (k), x.2)
def nCounted (x : ((List Int) × Int)) (k : Int) : ((List Int) × Int) := (mkI (x.1).length (k), k + ((x.1).length : Nat))
def qCounted (x : ((List Int) × Int)) : Prop := (x.1.length ≤ maxLen ∧ ∀ y ∈ x.1, (Lit.int .i64 y).wf = true) ∧ (Lit.int .i64 x.2).wf = true
theorem closed_rCounted (x : ((List Int) × Int)) : closeds (tCounted x) := ⟨closeds_rows (f := ciL) (fun _ => ⟨trivial, trivial⟩) _, trivial, trivial⟩
theorem closed_wCounted (x : ((List Int) × Int)) : closed (wCounted x) := closed_rCounted x
theorem mCounted_le (x : ((List Int) × Int)) : mCounted x ≤ 4 * cCounted x := by
  unfold mCounted cCounted
  omega
theorem eCounted_le (x : ((List Int) × Int)) : eCounted x ≤ 2 + 4 * cCounted x := by
  unfold eCounted cCounted
  omega
def uCounted (x : ((List Int) × Int)) (k : Int) : V := .agg [.ro (x.1).length (rows ciL (mkI (x.1).length (k))), ci (x.2)]
theorem uCounted_eq (x : ((List Int) × Int)) (k : Int) : vCounted (kCounted x k) = uCounted x k := by
  simp only [vCounted, rCounted, kCounted, uCounted, ints, mkI_len]
def rKey (x : (Int × (List Int))) : List V := [ci (x.1), ints (x.2)]
def tKey (x : (Int × (List Int))) : List V := [ci (x.1), intsT (x.2)]
def vKey (x : (Int × (List Int))) : V := .agg (rKey x)
def wKey (x : (Int × (List Int))) : V := .agg (tKey x)
theorem rKey_len (x : (Int × (List Int))) : (rKey x).length = 2 := rfl
theorem tKey_len (x : (Int × (List Int))) : (tKey x).length = 2 := rfl
theorem tKey_ro (x : (Int × (List Int))) : roVs (tKey x) = rKey x := by
  simp only [tKey, rKey, roVs, ci_ro, intsT_ro]
theorem wKey_ro (x : (Int × (List Int))) : roV (wKey x) = vKey x := by simp only [wKey, vKey, roV, tKey_ro]
def cKey (x : (Int × (List Int))) : Nat := (x.2).length
def mKey (x : (Int × (List Int))) : Nat := (x.2).length
def eKey (x : (Int × (List Int))) : Nat := 1 + (x.2).length
def kKey (x : (Int × (List Int))) (k : Int) : (Int × (List Int)) := (x.1, mkI (x.2).length (k))
def nKey (x : (Int × (List Int))) (k : Int) : (Int × (List Int)) := (k, mkI (x.2).length (k + 1))
def qKey (x : (Int × (List Int))) : Prop := (Lit.int .i64 x.1).wf = true ∧ (x.2.length ≤ maxLen ∧ ∀ y ∈ x.2, (Lit.int .i64 y).wf = true)
theorem eqKey_spec (x : (Int × (List Int))) (h : cKey x ≤ 1099511627776) : Spec Try.prog 11 [vKey x, vKey x] (cb true) := by
  unfold cKey at h
  refine Spec_of mx Γ_ok Try.func11 rfl ?_
  conv => whnf
  rw [bne_self_eq_false]
  conv => whnf
  refine ⟨_, eqIntS_refl (x.2) (by omega), .inl rfl, .inl ?_⟩
  conv => whnf
  rfl
theorem markKey_spec (x : (Int × (List Int))) (k : Int) (h : k + (mKey x : Nat) ≤ 4398046511104) (hc : cKey x ≤ 1099511627776) (h1 : 0 ≤ k) : SpecR Try.prog 14 [wKey x, ci k] (ci (k + (mKey x : Nat))) [wKey (kKey x k), ci k] := by
  unfold mKey at h ⊢
  unfold cKey at hc
  refine SpecL_of mx Γ_ok 3 Try.func14 rfl rfl (by omega) ?_
  conv => whnf
  refine .inr (.inl ⟨by rw [rows_len ciL_len], ?_⟩)
  conv => whnf
  refine ⟨_, _, _, markIntS_spec (x.2) (k) (by omega) (by omega) (by omega), ?_⟩
  conv => whnf
  refine .inl ?_
  conv => whnf
  refine ⟨by first | rfl | (show ci _ = ci _; congr 1; omega), ?_⟩
  conv => whnf
  refine ⟨by rw [rows_len ciL_len, mkI_len], ?_⟩
  conv => whnf
  simp only [intsT, mkI_len, mkL_len, wKey, tKey, kKey, ci]
theorem heldKey_spec (x : (Int × (List Int))) (k : Int) (h : k + (mKey x : Nat) ≤ 4398046511104) (hc : cKey x ≤ 1099511627776) (h1 : 0 ≤ k) : Spec Try.prog 15 [vKey (kKey x k), ci k] (ci (k + (mKey x : Nat))) := by
  unfold mKey at h ⊢
  unfold cKey at hc
  refine Spec_of mx Γ_ok Try.func15 rfl ?_
  conv => whnf
  refine ⟨_, heldIntS_spec (x.2).length (k) (by omega) (by omega) (by omega), .inl rfl, .inl ?_⟩
  conv => whnf
  rw [decide_eq_false (by omega)]
  conv => whnf
  first | rfl | (show ci _ = ci _; congr 1; omega)
theorem closed_rKey (x : (Int × (List Int))) : closeds (tKey x) := ⟨trivial, closeds_rows (f := ciL) (fun _ => ⟨trivial, trivial⟩) _, trivial⟩
theorem closed_wKey (x : (Int × (List Int))) : closed (wKey x) := closed_rKey x
theorem mKey_le (x : (Int × (List Int))) : mKey x ≤ 4 * cKey x := by
  unfold mKey cKey
  omega
theorem eKey_le (x : (Int × (List Int))) : eKey x ≤ 2 + 4 * cKey x := by
  unfold eKey cKey
  omega
def uKey (x : (Int × (List Int))) (k : Int) : V := .agg [ci (x.1), .ro (x.2).length (rows ciL (mkI (x.2).length (k)))]
theorem uKey_eq (x : (Int × (List Int))) (k : Int) : vKey (kKey x k) = uKey x k := by
  simp only [vKey, rKey, kKey, uKey, ints, mkI_len]
theorem heldKey_own (x : (Int × (List Int))) (k : Int) (h : k + (mKey x : Nat) ≤ 4398046511104) (hc : cKey x ≤ 1099511627776) (h1 : 0 ≤ k) : Spec Try.prog 15 [uKey x k, ci k] (ci (k + (mKey x : Nat))) := by
  have := heldKey_spec x k h hc h1
  rwa [uKey_eq] at this
def rInclusion (x : (Int × (List Int) × Int × (List Int))) : List V := [ci (x.1), ints (x.2.1), ci (x.2.2.1), ints (x.2.2.2)]
def tInclusion (x : (Int × (List Int) × Int × (List Int))) : List V := [ci (x.1), intsT (x.2.1), ci (x.2.2.1), intsT (x.2.2.2)]
def vInclusion (x : (Int × (List Int) × Int × (List Int))) : V := .agg (rInclusion x)
def wInclusion (x : (Int × (List Int) × Int × (List Int))) : V := .agg (tInclusion x)
theorem rInclusion_len (x : (Int × (List Int) × Int × (List Int))) : (rInclusion x).length = 4 := rfl
theorem tInclusion_len (x : (Int × (List Int) × Int × (List Int))) : (tInclusion x).length = 4 := rfl
theorem tInclusion_ro (x : (Int × (List Int) × Int × (List Int))) : roVs (tInclusion x) = rInclusion x := by
  simp only [tInclusion, rInclusion, roVs, ci_ro, intsT_ro]
theorem wInclusion_ro (x : (Int × (List Int) × Int × (List Int))) : roV (wInclusion x) = vInclusion x := by simp only [wInclusion, vInclusion, roV, tInclusion_ro]
def cInclusion (x : (Int × (List Int) × Int × (List Int))) : Nat := (x.2.1).length + (x.2.2.2).length
def mInclusion (x : (Int × (List Int) × Int × (List Int))) : Nat := (x.2.1).length + (x.2.2.2).length
def eInclusion (x : (Int × (List Int) × Int × (List Int))) : Nat := 1 + (x.2.1).length + 1 + (x.2.2.2).length
def kInclusion (x : (Int × (List Int) × Int × (List Int))) (k : Int) : (Int × (List Int) × Int × (List Int)) := (x.1, mkI (x.2.1).length (k), x.2.2.1, mkI (x.2.2.2).length (k + ((x.2.1).length : Nat)))
def nInclusion (x : (Int × (List Int) × Int × (List Int))) (k : Int) : (Int × (List Int) × Int × (List Int)) := (k, mkI (x.2.1).length (k + 1), k + 1 + ((x.2.1).length : Nat), mkI (x.2.2.2).length (k + 1 + ((x.2.1).length : Nat) + 1))
def qInclusion (x : (Int × (List Int) × Int × (List Int))) : Prop := (Lit.int .i64 x.1).wf = true ∧ (x.2.1.length ≤ maxLen ∧ ∀ y ∈ x.2.1, (Lit.int .i64 y).wf = true) ∧ (Lit.int .i64 x.2.2.1).wf = true ∧ (x.2.2.2.length ≤ maxLen ∧ ∀ y ∈ x.2.2.2, (Lit.int .i64 y).wf = true)
theorem closed_rInclusion (x : (Int × (List Int) × Int × (List Int))) : closeds (tInclusion x) := ⟨trivial, closeds_rows (f := ciL) (fun _ => ⟨trivial, trivial⟩) _, trivial, closeds_rows (f := ciL) (fun _ => ⟨trivial, trivial⟩) _, trivial⟩
theorem closed_wInclusion (x : (Int × (List Int) × Int × (List Int))) : closed (wInclusion x) := closed_rInclusion x
theorem mInclusion_le (x : (Int × (List Int) × Int × (List Int))) : mInclusion x ≤ 4 * cInclusion x := by
  unfold mInclusion cInclusion
  omega
theorem eInclusion_le (x : (Int × (List Int) × Int × (List Int))) : eInclusion x ≤ 2 + 4 * cInclusion x := by
  unfold eInclusion cInclusion
  omega
def uInclusion (x : (Int × (List Int) × Int × (List Int))) (k : Int) : V := .agg [ci (x.1), .ro (x.2.1).length (rows ciL (mkI (x.2.1).length (k))), ci (x.2.2.1), .ro (x.2.2.2).length (rows ciL (mkI (x.2.2.2).length (k + ((x.2.1).length : Nat))))]
theorem uInclusion_eq (x : (Int × (List Int) × Int × (List Int))) (k : Int) : vInclusion (kInclusion x k) = uInclusion x k := by
  simp only [vInclusion, rInclusion, kInclusion, uInclusion, ints, mkI_len]
def vSchemaS (xs : (List (List Int))) : V := .ro xs.length (rows rSchema xs)
def wSchemaS (xs : (List (List Int))) : V := .tr 1 xs.length (rows tSchema xs)
theorem wSchemaS_ro (xs : (List (List Int))) : roV (wSchemaS xs) = vSchemaS xs := by simp only [wSchemaS, vSchemaS, roV, roVs_rows tSchema_ro]
def cSchemaS (xs : (List (List Int))) : Nat := xs.length + sumB cSchema xs
def mSchemaS (xs : (List (List Int))) : Nat := sumB eSchema xs
def kSchemaS (xs : (List (List Int))) (k : Int) : (List (List Int)) := mkL eSchema nSchema xs k
def qSchemaS (xs : (List (List Int))) : Prop := xs.length ≤ maxLen ∧ ∀ y ∈ xs, qSchema y
theorem closed_wSchemaS (xs : (List (List Int))) : closed (wSchemaS xs) := closeds_rows (f := tSchema) closed_rSchema xs
theorem mSchemaS_le (xs : (List (List Int))) : mSchemaS xs ≤ 4 * cSchemaS xs := by
  unfold mSchemaS cSchemaS
  have := sumB_le4 eSchema_le xs
  omega
def uSchemaS (xs : (List (List Int))) (k : Int) : V := .ro xs.length (rows rSchema (kSchemaS xs k))
theorem uSchemaS_eq (xs : (List (List Int))) (k : Int) : vSchemaS (kSchemaS xs k) = uSchemaS xs k := by
  have : (kSchemaS xs k).length = xs.length := mkL_len _ _ _ _
  simp only [vSchemaS, uSchemaS, this]
def vQueryS (xs : (List ((List Int) × (List (Int × (List Int)))))) : V := .ro xs.length (rows rQuery xs)
def wQueryS (xs : (List ((List Int) × (List (Int × (List Int)))))) : V := .tr 2 xs.length (rows tQuery xs)
theorem wQueryS_ro (xs : (List ((List Int) × (List (Int × (List Int)))))) : roV (wQueryS xs) = vQueryS xs := by simp only [wQueryS, vQueryS, roV, roVs_rows tQuery_ro]
def cQueryS (xs : (List ((List Int) × (List (Int × (List Int)))))) : Nat := xs.length + sumB cQuery xs
def mQueryS (xs : (List ((List Int) × (List (Int × (List Int)))))) : Nat := sumB eQuery xs
def kQueryS (xs : (List ((List Int) × (List (Int × (List Int)))))) (k : Int) : (List ((List Int) × (List (Int × (List Int))))) := mkL eQuery nQuery xs k
def qQueryS (xs : (List ((List Int) × (List (Int × (List Int)))))) : Prop := xs.length ≤ maxLen ∧ ∀ y ∈ xs, qQuery y
theorem closed_wQueryS (xs : (List ((List Int) × (List (Int × (List Int)))))) : closed (wQueryS xs) := closeds_rows (f := tQuery) closed_rQuery xs
theorem mQueryS_le (xs : (List ((List Int) × (List (Int × (List Int)))))) : mQueryS xs ≤ 4 * cQueryS xs := by
  unfold mQueryS cQueryS
  have := sumB_le4 eQuery_le xs
  omega
def uQueryS (xs : (List ((List Int) × (List (Int × (List Int)))))) (k : Int) : V := .ro xs.length (rows rQuery (kQueryS xs k))
theorem uQueryS_eq (xs : (List ((List Int) × (List (Int × (List Int)))))) (k : Int) : vQueryS (kQueryS xs k) = uQueryS xs k := by
  have : (kQueryS xs k).length = xs.length := mkL_len _ _ _ _
  simp only [vQueryS, uQueryS, this]
def vFactS (xs : (List (Int × (List Int)))) : V := .ro xs.length (rows rFact xs)
def wFactS (xs : (List (Int × (List Int)))) : V := .tr 2 xs.length (rows tFact xs)
theorem wFactS_ro (xs : (List (Int × (List Int)))) : roV (wFactS xs) = vFactS xs := by simp only [wFactS, vFactS, roV, roVs_rows tFact_ro]
def cFactS (xs : (List (Int × (List Int)))) : Nat := xs.length + sumB cFact xs
def mFactS (xs : (List (Int × (List Int)))) : Nat := sumB eFact xs
def kFactS (xs : (List (Int × (List Int)))) (k : Int) : (List (Int × (List Int))) := mkL eFact nFact xs k
def qFactS (xs : (List (Int × (List Int)))) : Prop := xs.length ≤ maxLen ∧ ∀ y ∈ xs, qFact y
theorem closed_wFactS (xs : (List (Int × (List Int)))) : closed (wFactS xs) := closeds_rows (f := tFact) closed_rFact xs
theorem mFactS_le (xs : (List (Int × (List Int)))) : mFactS xs ≤ 4 * cFactS xs := by
  unfold mFactS cFactS
  have := sumB_le4 eFact_le xs
  omega
def uFactS (xs : (List (Int × (List Int)))) (k : Int) : V := .ro xs.length (rows rFact (kFactS xs k))
theorem uFactS_eq (xs : (List (Int × (List Int)))) (k : Int) : vFactS (kFactS xs k) = uFactS xs k := by
  have : (kFactS xs k).length = xs.length := mkL_len _ _ _ _
  simp only [vFactS, uFactS, this]
def vCountedS (xs : (List ((List Int) × Int))) : V := .ro xs.length (rows rCounted xs)
def wCountedS (xs : (List ((List Int) × Int))) : V := .tr 2 xs.length (rows tCounted xs)
theorem wCountedS_ro (xs : (List ((List Int) × Int))) : roV (wCountedS xs) = vCountedS xs := by simp only [wCountedS, vCountedS, roV, roVs_rows tCounted_ro]
def cCountedS (xs : (List ((List Int) × Int))) : Nat := xs.length + sumB cCounted xs
def mCountedS (xs : (List ((List Int) × Int))) : Nat := sumB eCounted xs
def kCountedS (xs : (List ((List Int) × Int))) (k : Int) : (List ((List Int) × Int)) := mkL eCounted nCounted xs k
def qCountedS (xs : (List ((List Int) × Int))) : Prop := xs.length ≤ maxLen ∧ ∀ y ∈ xs, qCounted y
theorem closed_wCountedS (xs : (List ((List Int) × Int))) : closed (wCountedS xs) := closeds_rows (f := tCounted) closed_rCounted xs
theorem mCountedS_le (xs : (List ((List Int) × Int))) : mCountedS xs ≤ 4 * cCountedS xs := by
  unfold mCountedS cCountedS
  have := sumB_le4 eCounted_le xs
  omega
def uCountedS (xs : (List ((List Int) × Int))) (k : Int) : V := .ro xs.length (rows rCounted (kCountedS xs k))
theorem uCountedS_eq (xs : (List ((List Int) × Int))) (k : Int) : vCountedS (kCountedS xs k) = uCountedS xs k := by
  have : (kCountedS xs k).length = xs.length := mkL_len _ _ _ _
  simp only [vCountedS, uCountedS, this]
def vKeyS (xs : (List (Int × (List Int)))) : V := .ro xs.length (rows rKey xs)
def wKeyS (xs : (List (Int × (List Int)))) : V := .tr 2 xs.length (rows tKey xs)
theorem wKeyS_ro (xs : (List (Int × (List Int)))) : roV (wKeyS xs) = vKeyS xs := by simp only [wKeyS, vKeyS, roV, roVs_rows tKey_ro]
def cKeyS (xs : (List (Int × (List Int)))) : Nat := xs.length + sumB cKey xs
def mKeyS (xs : (List (Int × (List Int)))) : Nat := sumB eKey xs
def kKeyS (xs : (List (Int × (List Int)))) (k : Int) : (List (Int × (List Int))) := mkL eKey nKey xs k
def qKeyS (xs : (List (Int × (List Int)))) : Prop := xs.length ≤ maxLen ∧ ∀ y ∈ xs, qKey y
theorem closed_wKeyS (xs : (List (Int × (List Int)))) : closed (wKeyS xs) := closeds_rows (f := tKey) closed_rKey xs
theorem mKeyS_le (xs : (List (Int × (List Int)))) : mKeyS xs ≤ 4 * cKeyS xs := by
  unfold mKeyS cKeyS
  have := sumB_le4 eKey_le xs
  omega
def uKeyS (xs : (List (Int × (List Int)))) (k : Int) : V := .ro xs.length (rows rKey (kKeyS xs k))
theorem uKeyS_eq (xs : (List (Int × (List Int)))) (k : Int) : vKeyS (kKeyS xs k) = uKeyS xs k := by
  have : (kKeyS xs k).length = xs.length := mkL_len _ _ _ _
  simp only [vKeyS, uKeyS, this]
def vInclusionS (xs : (List (Int × (List Int) × Int × (List Int)))) : V := .ro xs.length (rows rInclusion xs)
def wInclusionS (xs : (List (Int × (List Int) × Int × (List Int)))) : V := .tr 4 xs.length (rows tInclusion xs)
theorem wInclusionS_ro (xs : (List (Int × (List Int) × Int × (List Int)))) : roV (wInclusionS xs) = vInclusionS xs := by simp only [wInclusionS, vInclusionS, roV, roVs_rows tInclusion_ro]
def cInclusionS (xs : (List (Int × (List Int) × Int × (List Int)))) : Nat := xs.length + sumB cInclusion xs
def mInclusionS (xs : (List (Int × (List Int) × Int × (List Int)))) : Nat := sumB eInclusion xs
def kInclusionS (xs : (List (Int × (List Int) × Int × (List Int)))) (k : Int) : (List (Int × (List Int) × Int × (List Int))) := mkL eInclusion nInclusion xs k
def qInclusionS (xs : (List (Int × (List Int) × Int × (List Int)))) : Prop := xs.length ≤ maxLen ∧ ∀ y ∈ xs, qInclusion y
theorem closed_wInclusionS (xs : (List (Int × (List Int) × Int × (List Int)))) : closed (wInclusionS xs) := closeds_rows (f := tInclusion) closed_rInclusion xs
theorem mInclusionS_le (xs : (List (Int × (List Int) × Int × (List Int)))) : mInclusionS xs ≤ 4 * cInclusionS xs := by
  unfold mInclusionS cInclusionS
  have := sumB_le4 eInclusion_le xs
  omega
def uInclusionS (xs : (List (Int × (List Int) × Int × (List Int)))) (k : Int) : V := .ro xs.length (rows rInclusion (kInclusionS xs k))
theorem uInclusionS_eq (xs : (List (Int × (List Int) × Int × (List Int)))) (k : Int) : vInclusionS (kInclusionS xs k) = uInclusionS xs k := by
  have : (kInclusionS xs k).length = xs.length := mkL_len _ _ _ _
  simp only [vInclusionS, uInclusionS, this]
end Go.Proofs.YthfjngmbdbocbaaD
