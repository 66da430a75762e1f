/- The laws' helpers, type by type; printed by wip/gen.py. -/
import Derived.Test.YtnailmlgfpdnoaaFGenLib
set_option linter.unusedVariables false
set_option linter.unusedSimpArgs false
set_option maxRecDepth 100000
namespace Go.Proofs.YtnailmlgfpdnoaaD
open Go Go.Proofs

theorem ci_ro (x : Int) : roV (ci x) = ci x := rfl
theorem intsT_ro (x : List Int) : roV (intsT x) = ints x := by simp only [intsT, ints, roV, roVs_ci]
def rSchema (x : (List Int)) : List V := [ints (x)]
def tSchema (x : (List Int)) : List V := [intsT (x)]
def vSchema (x : (List Int)) : V := .agg (rSchema x)
def wSchema (x : (List Int)) : V := .agg (tSchema x)
theorem rSchema_len (x : (List Int)) : (rSchema x).length = 1 := rfl
theorem tSchema_len (x : (List Int)) : (tSchema x).length = 1 := rfl
theorem tSchema_ro (x : (List Int)) : roVs (tSchema x) = rSchema x := by
  simp only [tSchema, rSchema, roVs, intsT_ro]
theorem wSchema_ro (x : (List Int)) : roV (wSchema x) = vSchema x := by simp only [wSchema, vSchema, roV, tSchema_ro]
def cSchema (x : (List Int)) : Nat := (x).length
def mSchema (x : (List Int)) : Nat := (x).length
def eSchema (x : (List Int)) : Nat := (x).length
def kSchema (x : (List Int)) (k : Int) : (List Int) := mkI (x).length (k)
def nSchema (x : (List Int)) (k : Int) : (List Int) := mkI (x).length (k)
def qSchema (x : (List Int)) : Prop := (x.length ≤ maxLen ∧ ∀ y ∈ x, (Lit.int .i64 y).wf = true)
theorem toSchema_spec (x : (List Int)) (h : cSchema x ≤ 1099511627776) : Spec Try.prog 23 [vSchema x] (wSchema x) := by
  unfold cSchema at h
  refine Spec_of mx Γ_ok Try.func23 rfl ?_
  conv => whnf
  refine ⟨_, toIntS_spec (x) (by omega), .inl rfl, .inr ?_⟩
  conv => whnf
  exact ⟨by rw [rows_len ciL_len], rfl⟩
theorem szSchema_spec (x : (List Int)) (left : Int) (h : qSchema x) (h1 : 0 ≤ left) (h2 : left ≤ 1099511627776) : Spec Try.prog 20 [vSchema x, ci left] (ci (sz1 (cSchema x) left)) := by
  unfold qSchema at h
  unfold cSchema
  have hq0 := h
  refine Spec_of mx Γ_ok Try.func20 rfl ?_
  conv => whnf
  refine ⟨_, szIntS_spec (x) (left) (by have := hq0.1; simp only [maxLen] at this; omega) (by omega) (by omega), .inl rfl, .inl ?_⟩
  conv => whnf
  generalize hb0 : decide (sz1 ((x).length) (left) < 0) = b0
  rcases sz1_dec hb0 with ⟨rfl, hn0⟩ | ⟨rfl, hs0, hl0⟩
  · conv => whnf
    show ci (-1) = _
    rw [sz1_neg (by omega)]
  rw [hs0]
  conv => whnf
  show ci (left - ((x).length : Nat)) = _
  first | rfl | (rw [sz1_pos (by omega)]; congr 1; omega)
theorem eqSchema_spec (x : (List Int)) (h : cSchema x ≤ 1099511627776) : Spec Try.prog 26 [vSchema x, vSchema x] (cb true) := by
  unfold cSchema at h
  refine Spec_of mx Γ_ok Try.func26 rfl ?_
  conv => whnf
  refine ⟨_, eqIntS_refl (x) (by omega), .inl rfl, .inl ?_⟩
  conv => whnf
  rfl
theorem closed_rSchema (x : (List Int)) : closeds (tSchema x) := ⟨closeds_rows (f := ciL) (fun _ => ⟨trivial, trivial⟩) _, trivial⟩
theorem closed_wSchema (x : (List Int)) : closed (wSchema x) := closed_rSchema x
theorem mSchema_le (x : (List Int)) : mSchema x ≤ 4 * cSchema x := by
  unfold mSchema cSchema
  omega
theorem eSchema_le (x : (List Int)) : eSchema x ≤ 2 + 4 * cSchema x := by
  unfold eSchema cSchema
  omega
def uSchema (x : (List Int)) (k : Int) : V := .agg [.ro (x).length (rows ciL (mkI (x).length (k)))]
theorem uSchema_eq (x : (List Int)) (k : Int) : vSchema (kSchema x k) = uSchema x k := by
  simp only [vSchema, rSchema, kSchema, uSchema, ints, mkI_len]
def rCounted (x : ((List Int) × Int)) : List V := [ints (x.1), ci (x.2)]
def tCounted (x : ((List Int) × Int)) : List V := [intsT (x.1), ci (x.2)]
def vCounted (x : ((List Int) × Int)) : V := .agg (rCounted x)
def wCounted (x : ((List Int) × Int)) : V := .agg (tCounted x)
theorem rCounted_len (x : ((List Int) × Int)) : (rCounted x).length = 2 := rfl
theorem tCounted_len (x : ((List Int) × Int)) : (tCounted x).length = 2 := rfl
theorem tCounted_ro (x : ((List Int) × Int)) : roVs (tCounted x) = rCounted x := by
  simp only [tCounted, rCounted, roVs, ci_ro, intsT_ro]
theorem wCounted_ro (x : ((List Int) × Int)) : roV (wCounted x) = vCounted x := by simp only [wCounted, vCounted, roV, tCounted_ro]
def cCounted (x : ((List Int) × Int)) : Nat := (x.1).length
def mCounted (x : ((List Int) × Int)) : Nat := (x.1).length
def eCounted (x : ((List Int) × Int)) : Nat := (x.1).length + 1
def kCounted (x : ((List Int) × Int)) (k : Int) : ((List Int) × Int) := (mkI (x.1).length (k), x.2)
def nCounted (x : ((List Int) × Int)) (k : Int) : ((List Int) × Int) := (mkI (x.1).length (k), k + ((x.1).length : Nat))
def qCounted (x : ((List Int) × Int)) : Prop := (x.1.length ≤ maxLen ∧ ∀ y ∈ x.1, (Lit.int .i64 y).wf = true) ∧ (Lit.int .i64 x.2).wf = true
theorem toCounted_spec (x : ((List Int) × Int)) (h : cCounted x ≤ 1099511627776) : Spec Try.prog 39 [vCounted x] (wCounted x) := by
  unfold cCounted at h
  refine Spec_of mx Γ_ok Try.func39 rfl ?_
  conv => whnf
  refine ⟨_, toIntS_spec (x.1) (by omega), .inl rfl, .inr ?_⟩
  conv => whnf
  exact ⟨by rw [rows_len ciL_len], rfl⟩
theorem szCounted_spec (x : ((List Int) × Int)) (left : Int) (h : qCounted x) (h1 : 0 ≤ left) (h2 : left ≤ 1099511627776) : Spec Try.prog 38 [vCounted x, ci left] (ci (sz1 (cCounted x) left)) := by
  unfold qCounted at h
  unfold cCounted
  obtain ⟨hq0, hq1⟩ := h
  refine Spec_of mx Γ_ok Try.func38 rfl ?_
  conv => whnf
  refine ⟨_, szIntS_spec (x.1) (left) (by have := hq0.1; simp only [maxLen] at this; omega) (by omega) (by omega), .inl rfl, .inl ?_⟩
  conv => whnf
  generalize hb0 : decide (sz1 ((x.1).length) (left) < 0) = b0
  rcases sz1_dec hb0 with ⟨rfl, hn0⟩ | ⟨rfl, hs0, hl0⟩
  · conv => whnf
    show ci (-1) = _
    rw [sz1_neg (by omega)]
  rw [hs0]
  conv => whnf
  show ci (left - ((x.1).length : Nat)) = _
  first | rfl | (rw [sz1_pos (by omega)]; congr 1; omega)
theorem eqCounted_spec (x : ((List Int) × Int)) (h : cCounted x ≤ 1099511627776) : Spec Try.prog 40 [vCounted x, vCounted x] (cb true) := by
  unfold cCounted at h
  refine Spec_of mx Γ_ok Try.func40 rfl ?_
  conv => whnf
  refine ⟨_, eqIntS_refl (x.1) (by omega), .inl rfl, .inl ?_⟩
  conv => whnf
  rw [bne_self_eq_false]
  conv => whnf
  rfl
theorem closed_rCounted (x : ((List Int) × Int)) : closeds (tCounted x) := ⟨closeds_rows (f := ciL) (fun _ => ⟨trivial, trivial⟩) _, trivial, trivial⟩
theorem closed_wCounted (x : ((List Int) × Int)) : closed (wCounted x) := closed_rCounted x
theorem mCounted_le (x : ((List Int) × Int)) : mCounted x ≤ 4 * cCounted x := by
  unfold mCounted cCounted
  omega
theorem eCounted_le (x : ((List Int) × Int)) : eCounted x ≤ 2 + 4 * cCounted x := by
  unfold eCounted cCounted
  omega
def uCounted (x : ((List Int) × Int)) (k : Int) : V := .agg [.ro (x.1).length (rows ciL (mkI (x.1).length (k))), ci (x.2)]
theorem uCounted_eq (x : ((List Int) × Int)) (k : Int) : vCounted (kCounted x k) = uCounted x k := by
  simp only [vCounted, rCounted, kCounted, uCounted, ints, mkI_len]
def rKey (x : (Int × (List Int))) : List V := [ci (x.1), ints (x.2)]
def tKey (x : (Int × (List Int))) : List V := [ci (x.1), intsT (x.2)]
def vKey (x : (Int × (List Int))) : V := .agg (rKey x)
def wKey (x : (Int × (List Int))) : V := .agg (tKey x)
theorem rKey_len (x : (Int × (List Int))) : (rKey x).length = 2 := rfl
theorem tKey_len (x : (Int × (List Int))) : (tKey x).length = 2 := rfl
theorem tKey_ro (x : (Int × (List Int))) : roVs (tKey x) = rKey x := by
  simp only [tKey, rKey, roVs, ci_ro, intsT_ro]
theorem wKey_ro (x : (Int × (List Int))) : roV (wKey x) = vKey x := by simp only [wKey, vKey, roV, tKey_ro]
def cKey (x : (Int × (List Int))) : Nat := (x.2).length
def mKey (x : (Int × (List Int))) : Nat := (x.2).length
def eKey (x : (Int × (List Int))) : Nat := 1 + (x.2).length
def kKey (x : (Int × (List Int))) (k : Int) : (Int × (List Int)) := (x.1, mkI (x.2).length (k))
def nKey (x : (Int × (List Int))) (k : Int) : (Int × (List Int)) := (k, mkI (x.2).length (k + 1))
def qKey (x : (Int × (List Int))) : Prop := (Lit.int .i64 x.1).wf = true ∧ (x.2.length ≤ maxLen ∧ ∀ y ∈ x.2, (Lit.int .i64 y).wf = true)
theorem toKey_spec (x : (Int × (List Int))) (h : cKey x ≤ 1099511627776) : Spec Try.prog 24 [vKey x] (wKey x) := by
  unfold cKey at h
  refine Spec_of mx Γ_ok Try.func24 rfl ?_
  conv => whnf
  refine ⟨_, toIntS_spec (x.2) (by omega), .inl rfl, .inr ?_⟩
  conv => whnf
  exact ⟨by rw [rows_len ciL_len], rfl⟩
theorem szKey_spec (x : (Int × (List Int))) (left : Int) (h : qKey x) (h1 : 0 ≤ left) (h2 : left ≤ 1099511627776) : Spec Try.prog 21 [vKey x, ci left] (ci (sz1 (cKey x) left)) := by
  unfold qKey at h
  unfold cKey
  obtain ⟨hq0, hq1⟩ := h
  refine Spec_of mx Γ_ok Try.func21 rfl ?_
  conv => whnf
  refine ⟨_, szIntS_spec (x.2) (left) (by have := hq1.1; simp only [maxLen] at this; omega) (by omega) (by omega), .inl rfl, .inl ?_⟩
  conv => whnf
  generalize hb0 : decide (sz1 ((x.2).length) (left) < 0) = b0
  rcases sz1_dec hb0 with ⟨rfl, hn0⟩ | ⟨rfl, hs0, hl0⟩
  · conv => whnf
    show ci (-1) = _
    rw [sz1_neg (by omega)]
  rw [hs0]
  conv => whnf
  show ci (left - ((x.2).length : Nat)) = _
  first | rfl | (rw [sz1_pos (by omega)]; congr 1; omega)
theorem eqKey_spec (x : (Int × (List Int))) (h : cKey x ≤ 1099511627776) : Spec Try.prog 27 [vKey x, vKey x] (cb true) := by
  unfold cKey at h
  refine Spec_of mx Γ_ok Try.func27 rfl ?_
  conv => whnf
  rw [bne_self_eq_false]
  conv => whnf
  refine ⟨_, eqIntS_refl (x.2) (by omega), .inl rfl, .inl ?_⟩
  conv => whnf
  rfl
theorem closed_rKey (x : (Int × (List Int))) : closeds (tKey x) := ⟨trivial, closeds_rows (f := ciL) (fun _ => ⟨trivial, trivial⟩) _, trivial⟩
theorem closed_wKey (x : (Int × (List Int))) : closed (wKey x) := closed_rKey x
theorem mKey_le (x : (Int × (List Int))) : mKey x ≤ 4 * cKey x := by
  unfold mKey cKey
  omega
theorem eKey_le (x : (Int × (List Int))) : eKey x ≤ 2 + 4 * cKey x := by
  unfold eKey cKey
  omega
def uKey (x : (Int × (List Int))) (k : Int) : V := .agg [ci (x.1), .ro (x.2).length (rows ciL (mkI (x.2).length (k)))]
theorem uKey_eq (x : (Int × (List Int))) (k : Int) : vKey (kKey x k) = uKey x k := by
  simp only [vKey, rKey, kKey, uKey, ints, mkI_len]
def rInclusion (x : (Int × (List Int) × Int × (List Int))) : List V := [ci (x.1), ints (x.2.1), ci (x.2.2.1), ints (x.2.2.2)]
def tInclusion (x : (Int × (List Int) × Int × (List Int))) : List V := [ci (x.1), intsT (x.2.1), ci (x.2.2.1), intsT (x.2.2.2)]
def vInclusion (x : (Int × (List Int) × Int × (List Int))) : V := .agg (rInclusion x)
def wInclusion (x : (Int × (List Int) × Int × (List Int))) : V := .agg (tInclusion x)
theorem rInclusion_len (x : (Int × (List Int) × Int × (List Int))) : (rInclusion x).length = 4 := rfl
theorem tInclusion_len (x : (Int × (List Int) × Int × (List Int))) : (tInclusion x).length = 4 := rfl
theorem tInclusion_ro (x : (Int × (List Int) × Int × (List Int))) : roVs (tInclusion x) = rInclusion x := by
  simp only [tInclusion, rInclusion, roVs, ci_ro, intsT_ro]
theorem wInclusion_ro (x : (Int × (List Int) × Int × (List Int))) : roV (wInclusion x) = vInclusion x := by simp only [wInclusion, vInclusion, roV, tInclusion_ro]
def cInclusion (x : (Int × (List Int) × Int × (List Int))) : Nat := (x.2.1).length + (x.2.2.2).length
def mInclusion (x : (Int × (List Int) × Int × (List Int))) : Nat := (x.2.1).length + (x.2.2.2).length
def eInclusion (x : (Int × (List Int) × Int × (List Int))) : Nat := 1 + (x.2.1).length + 1 + (x.2.2.2).length
def kInclusion (x : (Int × (List Int) × Int × (List Int))) (k : Int) : (Int × (List Int) × Int × (List Int)) := (x.1, mkI (x.2.1).length (k), x.2.2.1, mkI (x.2.2.2).length (k + ((x.2.1).length : Nat)))
def nInclusion (x : (Int × (List Int) × Int × (List Int))) (k : Int) : (Int × (List Int) × Int × (List Int)) := (k, mkI (x.2.1).length (k + 1), k + 1 + ((x.2.1).length : Nat), mkI (x.2.2.2).length (k + 1 + ((x.2.1).length : Nat) + 1))
def qInclusion (x : (Int × (List Int) × Int × (List Int))) : Prop := (Lit.int .i64 x.1).wf = true ∧ (x.2.1.length ≤ maxLen ∧ ∀ y ∈ x.2.1, (Lit.int .i64 y).wf = true) ∧ (Lit.int .i64 x.2.2.1).wf = true ∧ (x.2.2.2.length ≤ maxLen ∧ ∀ y ∈ x.2.2.2, (Lit.int .i64 y).wf = true)
theorem toInclusion_spec (x : (Int × (List Int) × Int × (List Int))) (h : cInclusion x ≤ 1099511627776) : Spec Try.prog 34 [vInclusion x] (wInclusion x) := by
  unfold cInclusion at h
  refine Spec_of mx Γ_ok Try.func34 rfl ?_
  conv => whnf
  refine ⟨_, toIntS_spec (x.2.1) (by omega), .inl rfl, .inr ?_⟩
  conv => whnf
  refine ⟨_, toIntS_spec (x.2.2.2) (by omega), .inl rfl, .inr ?_⟩
  conv => whnf
  exact ⟨by rw [rows_len ciL_len], by rw [rows_len ciL_len], rfl⟩
theorem szInclusion_spec (x : (Int × (List Int) × Int × (List Int))) (left : Int) (h : qInclusion x) (h1 : 0 ≤ left) (h2 : left ≤ 1099511627776) : Spec Try.prog 32 [vInclusion x, ci left] (ci (sz1 (cInclusion x) left)) := by
  unfold qInclusion at h
  unfold cInclusion
  obtain ⟨hq0, hq1, hq2, hq3⟩ := h
  refine Spec_of mx Γ_ok Try.func32 rfl ?_
  conv => whnf
  refine ⟨_, szIntS_spec (x.2.1) (left) (by have := hq1.1; simp only [maxLen] at this; omega) (by omega) (by omega), .inl rfl, .inl ?_⟩
  conv => whnf
  generalize hb0 : decide (sz1 ((x.2.1).length) (left) < 0) = b0
  rcases sz1_dec hb0 with ⟨rfl, hn0⟩ | ⟨rfl, hs0, hl0⟩
  · conv => whnf
    show ci (-1) = _
    rw [sz1_neg (by omega)]
  rw [hs0]
  conv => whnf
  refine ⟨_, szIntS_spec (x.2.2.2) (left - ((x.2.1).length : Nat)) (by have := hq3.1; simp only [maxLen] at this; omega) (by omega) (by omega), .inl rfl, .inl ?_⟩
  conv => whnf
  generalize hb1 : decide (sz1 ((x.2.2.2).length) (left - ((x.2.1).length : Nat)) < 0) = b1
  rcases sz1_dec hb1 with ⟨rfl, hn1⟩ | ⟨rfl, hs1, hl1⟩
  · conv => whnf
    show ci (-1) = _
    rw [sz1_neg (by omega)]
  rw [hs1]
  conv => whnf
  show ci (left - ((x.2.1).length : Nat) - ((x.2.2.2).length : Nat)) = _
  first | rfl | (rw [sz1_pos (by omega)]; congr 1; omega)
theorem eqInclusion_spec (x : (Int × (List Int) × Int × (List Int))) (h : cInclusion x ≤ 1099511627776) : Spec Try.prog 36 [vInclusion x, vInclusion x] (cb true) := by
  unfold cInclusion at h
  refine Spec_of mx Γ_ok Try.func36 rfl ?_
  conv => whnf
  rw [bne_self_eq_false]
  conv => whnf
  refine ⟨_, eqIntS_refl (x.2.1) (by omega), .inl rfl, .inl ?_⟩
  conv => whnf
  rw [bne_self_eq_false]
  conv => whnf
  refine ⟨_, eqIntS_refl (x.2.2.2) (by omega), .inl rfl, .inl ?_⟩
  conv => whnf
  rfl
theorem closed_rInclusion (x : (Int × (List Int) × Int × (List Int))) : closeds (tInclusion x) := ⟨trivial, closeds_rows (f := ciL) (fun _ => ⟨trivial, trivial⟩) _, trivial, closeds_rows (f := ciL) (fun _ => ⟨trivial, trivial⟩) _, trivial⟩
theorem closed_wInclusion (x : (Int × (List Int) × Int × (List Int))) : closed (wInclusion x) := closed_rInclusion x
theorem mInclusion_le (x : (Int × (List Int) × Int × (List Int))) : mInclusion x ≤ 4 * cInclusion x := by
  unfold mInclusion cInclusion
  omega
theorem eInclusion_le (x : (Int × (List Int) × Int × (List Int))) : eInclusion x ≤ 2 + 4 * cInclusion x := by
  unfold eInclusion cInclusion
  omega
def uInclusion (x : (Int × (List Int) × Int × (List Int))) (k : Int) : V := .agg [ci (x.1), .ro (x.2.1).length (rows ciL (mkI (x.2.1).length (k))), ci (x.2.2.1), .ro (x.2.2.2).length (rows ciL (mkI (x.2.2.2).length (k + ((x.2.1).length : Nat))))]
theorem uInclusion_eq (x : (Int × (List Int) × Int × (List Int))) (k : Int) : vInclusion (kInclusion x k) = uInclusion x k := by
  simp only [vInclusion, rInclusion, kInclusion, uInclusion, ints, mkI_len]
def vCountedS (xs : (List ((List Int) × Int))) : V := .ro xs.length (rows rCounted xs)
def wCountedS (xs : (List ((List Int) × Int))) : V := .tr 2 xs.length (rows tCounted xs)
theorem wCountedS_ro (xs : (List ((List Int) × Int))) : roV (wCountedS xs) = vCountedS xs := by simp only [wCountedS, vCountedS, roV, roVs_rows tCounted_ro]
def cCountedS (xs : (List ((List Int) × Int))) : Nat := xs.length + sumB cCounted xs
def mCountedS (xs : (List ((List Int) × Int))) : Nat := sumB eCounted xs
def kCountedS (xs : (List ((List Int) × Int))) (k : Int) : (List ((List Int) × Int)) := mkL eCounted nCounted xs k
def qCountedS (xs : (List ((List Int) × Int))) : Prop := xs.length ≤ maxLen ∧ ∀ y ∈ xs, qCounted y
theorem toCountedS_spec (xs : (List ((List Int) × Int))) (h : cCountedS xs ≤ 1099511627776) : Spec Try.prog 17 [vCountedS xs] (wCountedS xs) := by
  unfold cCountedS at h
  refine Spec_of mx Γ_ok Try.func17 rfl ?_
  conv => whnf
  refine ⟨by omega, _, repl_rows (f := optR [cnil, ci 0] tCounted) (d := none) rfl _, ?_⟩
  conv => whnf
  refine ⟨[(0,0),(2,0),(3,0),(4,0)], fun m s => ∃ (k : Nat) (e : Int) (r : List V), e = k ∧ m + k = xs.length ∧ r = rows (optR [cnil, ci 0] tCounted) (doneO xs k) ∧
    s = ⟨23, [(0, vCountedS xs), (2, cnil), (3, .own 0 2 0 xs.length xs.length none), (4, ci e)], [some ⟨false, r⟩]⟩, xs.length, ⟨0, 0, _, rfl, rfl, by rw [doneO_zero]; rfl, rfl⟩, ?_⟩
  rintro m s ⟨k, _, _, rfl, hm, rfl, rfl⟩
  conv => whnf
  split <;> rename_i h1
  all_goals simp only [decide_eq_true_eq, decide_eq_false_iff_not] at h1
  · conv => whnf
    have hk : k < xs.length := by omega
    have hb := sumB_one (f := cCounted) hk
    have hlen := optR_len (z := [cnil, ci 0]) (f := tCounted) (n := 2) rfl tCounted_len
    refine ⟨by omega, rows_len rCounted_len xs, ?_⟩
    conv => whnf
    refine ⟨_, takeN_rp (k := k) rCounted_len hk, ?_⟩
    conv => whnf
    refine ⟨_, toCounted_spec xs[k] (by omega), .inl rfl, .inr ?_⟩
    conv => whnf
    refine ⟨by omega, ?_⟩
    conv => whnf
    refine ⟨_, takeN_own (k := k) (d := 0) (m := 2) (xs := doneO xs k) hlen (Nat.zero_add _) (by rw [doneO_len (by omega)]; exact hk) (by omega) rfl, ?_⟩
    conv => whnf
    refine ⟨by rw [rows_len ciL_len], ?_⟩
    conv => whnf
    refine ⟨by have := rows_len hlen (doneO xs k); rw [doneO_len (by omega)] at this; have h5 : (k + 1) * 2 ≤ xs.length * 2 := Nat.mul_le_mul_right _ hk; show 0 + k * 2 + 2 ≤ _; omega, _, (congrArg (fun o => setC (rows (optR [cnil, ci 0] tCounted) (doneO xs k)) o (tCounted xs[k])) (Nat.zero_add _)).trans (setC_rows hlen (by omega) (by rw [doneO_len (by omega)]; exact hk) (some xs[k])), ?_⟩
    conv => whnf
    exact ⟨m - 1, by omega, k + 1, _, _, wrap_id (by omega) (by omega), by omega, by exact congrArg _ (doneO_set hk), rfl⟩
  · conv => whnf
    have hkk : k = xs.length := by omega
    refine ⟨?_, ?_⟩
    · rw [doneO_all hkk, rows_len tCounted_len]
    · rw [doneO_all hkk]
      rfl
theorem szCountedS_spec (xs : (List ((List Int) × Int))) (left : Int) (h : qCountedS xs) (h1 : 0 ≤ left) (h2 : left ≤ 1099511627776) : Spec Try.prog 15 [vCountedS xs, ci left] (ci (sz1 (cCountedS xs) left)) := by
  obtain ⟨hq, hqs⟩ := h
  simp only [maxLen] at hq
  unfold cCountedS
  refine Spec_of mx Γ_ok Try.func15 rfl ?_
  conv => whnf
  have hw : IntKind.i64.wrap (left - xs.length) = left - xs.length := wrap_id (by omega) (by omega)
  rw [hw]
  split <;> rename_i h0
  all_goals simp only [decide_eq_true_eq, decide_eq_false_iff_not] at h0
  · conv => whnf
    show ci (-1) = _
    rw [sz1_neg (by omega)]
  conv => whnf
  refine ⟨[(0,0),(1,0),(4,0),(5,0)], fun m s => ∃ (k : Nat) (e f : Int), e = k ∧ m + k = xs.length ∧ f = left - (xs.length : Nat) - (sumB cCounted (xs.take k) : Nat) ∧ 0 ≤ f ∧
    s = ⟨27, [(0, vCountedS xs), (1, ci f), (4, ci 0), (5, ci e)], []⟩, xs.length, ⟨0, 0, _, rfl, rfl, by rw [sumB_zero]; omega, by omega, rfl⟩, ?_⟩
  rintro m s ⟨k, _, f, rfl, hm, hf, hf0, rfl⟩
  conv => whnf
  split <;> rename_i h3
  all_goals simp only [decide_eq_true_eq, decide_eq_false_iff_not] at h3
  · conv => whnf
    have hk : k < xs.length := by omega
    have hb := sumB_le (f := cCounted) hk
    have hat := sumB_at (f := cCounted) hk
    refine ⟨by omega, rows_len rCounted_len xs, ?_⟩
    conv => whnf
    refine ⟨_, takeN_rp (k := k) rCounted_len hk, ?_⟩
    conv => whnf
    refine ⟨_, szCounted_spec xs[k] f (hqs _ (List.getElem_mem hk)) hf0 (by omega), .inl rfl, .inl ?_⟩
    conv => whnf
    generalize hb1 : decide (sz1 (cCounted xs[k]) f < 0) = b1
    rcases sz1_dec hb1 with ⟨rfl, hn⟩ | ⟨rfl, hs, hl⟩
    · conv => whnf
      show ci (-1) = _
      rw [sz1_neg (by omega)]
    · rw [hs]
      conv => whnf
      exact ⟨m - 1, by omega, k + 1, _, _, wrap_id (by omega) (by omega), by omega, by omega, by omega, rfl⟩
  · conv => whnf
    have hall := sumB_all (f := cCounted) (xs := xs) (k := k) (by omega)
    show ci f = _
    rw [sz1_pos (by omega)]
    congr 1
    omega
theorem eqCountedS_spec (xs : (List ((List Int) × Int))) (h : cCountedS xs ≤ 1099511627776) : Spec Try.prog 19 [vCountedS xs, vCountedS xs] (cb true) := by
  unfold cCountedS at h
  refine Spec_of mx Γ_ok Try.func19 rfl ?_
  conv => whnf
  rw [bne_self_eq_false]
  conv => whnf
  refine ⟨[(0,0),(1,0),(4,0),(5,0)], fun m s => ∃ (k : Nat) (e : Int), e = k ∧ m + k = xs.length ∧
    s = ⟨27, [(0, vCountedS xs), (1, vCountedS xs), (4, cb false), (5, ci e)], []⟩, xs.length, ⟨0, 0, rfl, rfl, rfl⟩, ?_⟩
  rintro m s ⟨k, _, rfl, hm, rfl⟩
  conv => whnf
  split <;> rename_i h1
  all_goals simp only [decide_eq_true_eq, decide_eq_false_iff_not] at h1
  · conv => whnf
    have hk : k < xs.length := by omega
    have hb := sumB_one (f := cCounted) hk
    refine ⟨List.range 10, by kernel_rfl, ?_⟩
    conv => whnf
    refine ⟨by omega, rows_len rCounted_len xs, ?_⟩
    conv => whnf
    refine ⟨_, takeN_rp (k := k) rCounted_len hk, ?_⟩
    conv => whnf
    refine ⟨by omega, rows_len rCounted_len xs, ?_⟩
    conv => whnf
    refine ⟨_, takeN_rp (k := k) rCounted_len hk, ?_⟩
    conv => whnf
    refine ⟨_, eqCounted_spec xs[k] (by omega), .inl rfl, .inl ?_⟩
    conv => whnf
    exact ⟨m - 1, by omega, k + 1, _, wrap_id (by omega) (by omega), by omega, rfl⟩
  · conv => whnf
    rfl
theorem closed_wCountedS (xs : (List ((List Int) × Int))) : closed (wCountedS xs) := closeds_rows (f := tCounted) closed_rCounted xs
theorem mCountedS_le (xs : (List ((List Int) × Int))) : mCountedS xs ≤ 4 * cCountedS xs := by
  unfold mCountedS cCountedS
  have := sumB_le4 eCounted_le xs
  omega
def uCountedS (xs : (List ((List Int) × Int))) (k : Int) : V := .ro xs.length (rows rCounted (kCountedS xs k))
theorem uCountedS_eq (xs : (List ((List Int) × Int))) (k : Int) : vCountedS (kCountedS xs k) = uCountedS xs k := by
  have : (kCountedS xs k).length = xs.length := mkL_len _ _ _ _
  simp only [vCountedS, uCountedS, this]
end Go.Proofs.YtnailmlgfpdnoaaD
