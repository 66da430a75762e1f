/- The laws' helpers, type by type; printed by wip/gen.py. -/
import Derived.Test.YthfjngmbdbocbaaGreatFGenLib
set_option linter.unusedVariables false
set_option linter.unusedSimpArgs false
set_option maxRecDepth 100000
namespace Go.Proofs.YthfjngmbdbocbaaGreatD
open Go Go.Proofs

theorem ci_ro (x : Int) : roV (ci x) = ci x := rfl
theorem intsT_ro (x : List Int) : roV (intsT x) = ints x := by simp only [intsT, ints, roV, roVs_ci]
def rSchema (x : (List Int)) : List V := [ints (x)]
def tSchema (x : (List Int)) : List V := [intsT (x)]
def vSchema (x : (List Int)) : V := .agg (rSchema x)
def wSchema (x : (List Int)) : V := .agg (tSchema x)
theorem rSchema_len (x : (List Int)) : (rSchema x).length = 1 := rfl
theorem tSchema_len (x : (List Int)) : (tSchema x).length = 1 := rfl
theorem tSchema_ro (x : (List Int)) : roVs (tSchema x) = rSchema x := by
  simp only [tSchema, rSchema, roVs, intsT_ro]
theorem wSchema_ro (x : (List Int)) : roV (wSchema x) = vSchema x := by simp only [wSchema, vSchema, roV, tSchema_ro]
def cSchema (x : (List Int)) : Nat := (x).length
def mSchema (x : (List Int)) : Nat := (x).length
def eSchema (x : (List Int)) : Nat := (x).length
def kSchema (x : (List Int)) (k : Int) : (List Int) := mkI (x).length (k)
def nSchema (x : (List Int)) (k : Int) : (List Int) := mkI (x).length (k)
def qSchema (x : (List Int)) : Prop := (x.length ≤ maxLen ∧ ∀ y ∈ x, (Lit.int .i64 y).wf = true)
theorem toSchema_spec (x : (List Int)) (h : cSchema x ≤ 1099511627776) : Spec Tryz.prog 10 [vSchema x] (wSchema x) := by
  unfold cSchema at h
  refine Spec_of mx Γ_ok Tryz.func10 rfl ?_
  conv => whnf
  refine ⟨_, toIntS_spec (x) (by omega), .inl rfl, .inr ?_⟩
  conv => whnf
  exact ⟨by rw [rows_len ciL_len], rfl⟩
theorem szSchema_spec (x : (List Int)) (left : Int) (h : qSchema x) (h1 : 0 ≤ left) (h2 : left ≤ 1099511627776) : Spec Tryz.prog 5 [vSchema x, ci left] (ci (sz1 (cSchema x) left)) := by
  unfold qSchema at h
  unfold cSchema
  have hq0 := h
  refine Spec_of mx Γ_ok Tryz.func5 rfl ?_
  conv => whnf
  refine ⟨_, szIntS_spec (x) (left) (by have := hq0.1; simp only [maxLen] at this; omega) (by omega) (by omega), .inl rfl, .inl ?_⟩
  conv => whnf
  generalize hb0 : decide (sz1 ((x).length) (left) < 0) = b0
  rcases sz1_dec hb0 with ⟨rfl, hn0⟩ | ⟨rfl, hs0, hl0⟩
  · conv => whnf
    show ci (-1) = _
    rw [sz1_neg (by omega)]
  rw [hs0]
  conv => whnf
  show ci (left - ((x).length : Nat)) = _
  first | rfl | (rw [sz1_pos (by omega)]; congr 1; omega)
theorem eqSchema_spec (x : (List Int)) (h : cSchema x ≤ 1099511627776) : Spec Tryz.prog 16 [vSchema x, vSchema x] (cb true) := by
  unfold cSchema at h
  refine Spec_of mx Γ_ok Tryz.func16 rfl ?_
  conv => whnf
  refine ⟨_, eqIntS_refl (x) (by omega), .inl rfl, .inl ?_⟩
  conv => whnf
  rfl
theorem markSchema_spec (x : (List Int)) (k : Int) (h : k + (mSchema x : Nat) ≤ 4398046511104) (hc : cSchema x ≤ 1099511627776) (h1 : 0 ≤ k) : SpecR Tryz.prog 19 [wSchema x, ci k] (ci (k + (mSchema x : Nat))) [wSchema (kSchema x k), ci k] := by
  unfold mSchema at h ⊢
  unfold cSchema at hc
  refine SpecL_of mx Γ_ok 2 Tryz.func19 rfl rfl (by omega) ?_
  conv => whnf
  refine .inr (.inl ⟨by rw [rows_len ciL_len], ?_⟩)
  conv => whnf
  refine ⟨_, _, _, markIntS_spec (x) (k) (by omega) (by omega) (by omega), ?_⟩
  conv => whnf
  refine .inl ?_
  conv => whnf
  refine ⟨by first | rfl | (show ci _ = ci _; congr 1; omega), ?_⟩
  conv => whnf
  refine ⟨by rw [rows_len ciL_len, mkI_len], ?_⟩
  conv => whnf
  simp only [intsT, mkI_len, mkL_len, wSchema, tSchema, kSchema, ci]
theorem closed_rSchema (x : (List Int)) : closeds (tSchema x) := ⟨closeds_rows (f := ciL) (fun _ => ⟨trivial, trivial⟩) _, trivial⟩
theorem closed_wSchema (x : (List Int)) : closed (wSchema x) := closed_rSchema x
theorem mSchema_le (x : (List Int)) : mSchema x ≤ 4 * cSchema x := by
  unfold mSchema cSchema
  omega
theorem eSchema_le (x : (List Int)) : eSchema x ≤ 2 + 4 * cSchema x := by
  unfold eSchema cSchema
  omega
def uSchema (x : (List Int)) (k : Int) : V := .agg [.ro (x).length (rows ciL (mkI (x).length (k)))]
theorem uSchema_eq (x : (List Int)) (k : Int) : vSchema (kSchema x k) = uSchema x k := by
  simp only [vSchema, rSchema, kSchema, uSchema, ints, mkI_len]
def rAtom (x : (Int × (List Int))) : List V := [ci (x.1), ints (x.2)]
def tAtom (x : (Int × (List Int))) : List V := [ci (x.1), intsT (x.2)]
def vAtom (x : (Int × (List Int))) : V := .agg (rAtom x)
def wAtom (x : (Int × (List Int))) : V := .agg (tAtom x)
theorem rAtom_len (x : (Int × (List Int))) : (rAtom x).length = 2 := rfl
theorem tAtom_len (x : (Int × (List Int))) : (tAtom x).length = 2 := rfl
theorem tAtom_ro (x : (Int × (List Int))) : roVs (tAtom x) = rAtom x := by
  simp only [tAtom, rAtom, roVs, ci_ro, intsT_ro]
theorem wAtom_ro (x : (Int × (List Int))) : roV (wAtom x) = vAtom x := by simp only [wAtom, vAtom, roV, tAtom_ro]
def cAtom (x : (Int × (List Int))) : Nat := (x.2).length
def mAtom (x : (Int × (List Int))) : Nat := (x.2).length
def eAtom (x : (Int × (List Int))) : Nat := 1 + (x.2).length
def kAtom (x : (Int × (List Int))) (k : Int) : (Int × (List Int)) := (x.1, mkI (x.2).length (k))
def nAtom (x : (Int × (List Int))) (k : Int) : (Int × (List Int)) := (k, mkI (x.2).length (k + 1))
def qAtom (x : (Int × (List Int))) : Prop := (Lit.int .i64 x.1).wf = true ∧ (x.2.length ≤ maxLen ∧ ∀ y ∈ x.2, (Lit.int .i64 y).wf = true)
theorem toAtom_spec (x : (Int × (List Int))) (h : cAtom x ≤ 1099511627776) : Spec Tryz.prog 70 [vAtom x] (wAtom x) := by
  unfold cAtom at h
  refine Spec_of mx Γ_ok Tryz.func70 rfl ?_
  conv => whnf
  refine ⟨_, toIntS_spec (x.2) (by omega), .inl rfl, .inr ?_⟩
  conv => whnf
  exact ⟨by rw [rows_len ciL_len], rfl⟩
theorem szAtom_spec (x : (Int × (List Int))) (left : Int) (h : qAtom x) (h1 : 0 ≤ left) (h2 : left ≤ 1099511627776) : Spec Tryz.prog 58 [vAtom x, ci left] (ci (sz1 (cAtom x) left)) := by
  unfold qAtom at h
  unfold cAtom
  obtain ⟨hq0, hq1⟩ := h
  refine Spec_of mx Γ_ok Tryz.func58 rfl ?_
  conv => whnf
  refine ⟨_, szIntS_spec (x.2) (left) (by have := hq1.1; simp only [maxLen] at this; omega) (by omega) (by omega), .inl rfl, .inl ?_⟩
  conv => whnf
  generalize hb0 : decide (sz1 ((x.2).length) (left) < 0) = b0
  rcases sz1_dec hb0 with ⟨rfl, hn0⟩ | ⟨rfl, hs0, hl0⟩
  · conv => whnf
    show ci (-1) = _
    rw [sz1_neg (by omega)]
  rw [hs0]
  conv => whnf
  show ci (left - ((x.2).length : Nat)) = _
  first | rfl | (rw [sz1_pos (by omega)]; congr 1; omega)
theorem eqAtom_spec (x : (Int × (List Int))) (h : cAtom x ≤ 1099511627776) : Spec Tryz.prog 84 [vAtom x, vAtom x] (cb true) := by
  unfold cAtom at h
  refine Spec_of mx Γ_ok Tryz.func84 rfl ?_
  conv => whnf
  rw [bne_self_eq_false]
  conv => whnf
  refine ⟨_, eqIntS_refl (x.2) (by omega), .inl rfl, .inl ?_⟩
  conv => whnf
  rfl
theorem closed_rAtom (x : (Int × (List Int))) : closeds (tAtom x) := ⟨trivial, closeds_rows (f := ciL) (fun _ => ⟨trivial, trivial⟩) _, trivial⟩
theorem closed_wAtom (x : (Int × (List Int))) : closed (wAtom x) := closed_rAtom x
theorem mAtom_le (x : (Int × (List Int))) : mAtom x ≤ 4 * cAtom x := by
  unfold mAtom cAtom
  omega
theorem eAtom_le (x : (Int × (List Int))) : eAtom x ≤ 2 + 4 * cAtom x := by
  unfold eAtom cAtom
  omega
def uAtom (x : (Int × (List Int))) (k : Int) : V := .agg [ci (x.1), .ro (x.2).length (rows ciL (mkI (x.2).length (k)))]
theorem uAtom_eq (x : (Int × (List Int))) (k : Int) : vAtom (kAtom x k) = uAtom x k := by
  simp only [vAtom, rAtom, kAtom, uAtom, ints, mkI_len]
def vAtomS (xs : (List (Int × (List Int)))) : V := .ro xs.length (rows rAtom xs)
def wAtomS (xs : (List (Int × (List Int)))) : V := .tr 2 xs.length (rows tAtom xs)
theorem wAtomS_ro (xs : (List (Int × (List Int)))) : roV (wAtomS xs) = vAtomS xs := by simp only [wAtomS, vAtomS, roV, roVs_rows tAtom_ro]
def cAtomS (xs : (List (Int × (List Int)))) : Nat := xs.length + sumB cAtom xs
def mAtomS (xs : (List (Int × (List Int)))) : Nat := sumB eAtom xs
def kAtomS (xs : (List (Int × (List Int)))) (k : Int) : (List (Int × (List Int))) := mkL eAtom nAtom xs k
def qAtomS (xs : (List (Int × (List Int)))) : Prop := xs.length ≤ maxLen ∧ ∀ y ∈ xs, qAtom y
theorem toAtomS_spec (xs : (List (Int × (List Int)))) (h : cAtomS xs ≤ 1099511627776) : Spec Tryz.prog 38 [vAtomS xs] (wAtomS xs) := by
  unfold cAtomS at h
  refine Spec_of mx Γ_ok Tryz.func38 rfl ?_
  conv => whnf
  refine ⟨by omega, _, repl_rows (f := optR [ci 0, cnil] tAtom) (d := none) rfl _, ?_⟩
  conv => whnf
  refine ⟨[(0,0),(2,0),(3,0),(4,0)], fun m s => ∃ (k : Nat) (e : Int) (r : List V), e = k ∧ m + k = xs.length ∧ r = rows (optR [ci 0, cnil] tAtom) (doneO xs k) ∧
    s = ⟨23, [(0, vAtomS xs), (2, cnil), (3, .own 0 2 0 xs.length xs.length none), (4, ci e)], [some ⟨false, r⟩]⟩, xs.length, ⟨0, 0, _, rfl, rfl, by rw [doneO_zero]; rfl, rfl⟩, ?_⟩
  rintro m s ⟨k, _, _, rfl, hm, rfl, rfl⟩
  conv => whnf
  split <;> rename_i h1
  all_goals simp only [decide_eq_true_eq, decide_eq_false_iff_not] at h1
  · conv => whnf
    have hk : k < xs.length := by omega
    have hb := sumB_one (f := cAtom) hk
    have hlen := optR_len (z := [ci 0, cnil]) (f := tAtom) (n := 2) rfl tAtom_len
    refine ⟨by omega, rows_len rAtom_len xs, ?_⟩
    conv => whnf
    refine ⟨_, takeN_rp (k := k) rAtom_len hk, ?_⟩
    conv => whnf
    refine ⟨_, toAtom_spec xs[k] (by omega), .inl rfl, .inr ?_⟩
    conv => whnf
    refine ⟨by omega, ?_⟩
    conv => whnf
    refine ⟨_, takeN_own (k := k) (d := 0) (m := 2) (xs := doneO xs k) hlen (Nat.zero_add _) (by rw [doneO_len (by omega)]; exact hk) (by omega) rfl, ?_⟩
    conv => whnf
    refine ⟨by rw [rows_len ciL_len], ?_⟩
    conv => whnf
    refine ⟨by have := rows_len hlen (doneO xs k); rw [doneO_len (by omega)] at this; have h5 : (k + 1) * 2 ≤ xs.length * 2 := Nat.mul_le_mul_right _ hk; show 0 + k * 2 + 2 ≤ _; omega, _, (congrArg (fun o => setC (rows (optR [ci 0, cnil] tAtom) (doneO xs k)) o (tAtom xs[k])) (Nat.zero_add _)).trans (setC_rows hlen (by omega) (by rw [doneO_len (by omega)]; exact hk) (some xs[k])), ?_⟩
    conv => whnf
    exact ⟨m - 1, by omega, k + 1, _, _, wrap_id (by omega) (by omega), by omega, by exact congrArg _ (doneO_set hk), rfl⟩
  · conv => whnf
    have hkk : k = xs.length := by omega
    refine ⟨?_, ?_⟩
    · rw [doneO_all hkk, rows_len tAtom_len]
    · rw [doneO_all hkk]
      rfl
theorem szAtomS_spec (xs : (List (Int × (List Int)))) (left : Int) (h : qAtomS xs) (h1 : 0 ≤ left) (h2 : left ≤ 1099511627776) : Spec Tryz.prog 27 [vAtomS xs, ci left] (ci (sz1 (cAtomS xs) left)) := by
  obtain ⟨hq, hqs⟩ := h
  simp only [maxLen] at hq
  unfold cAtomS
  refine Spec_of mx Γ_ok Tryz.func27 rfl ?_
  conv => whnf
  have hw : IntKind.i64.wrap (left - xs.length) = left - xs.length := wrap_id (by omega) (by omega)
  rw [hw]
  split <;> rename_i h0
  all_goals simp only [decide_eq_true_eq, decide_eq_false_iff_not] at h0
  · conv => whnf
    show ci (-1) = _
    rw [sz1_neg (by omega)]
  conv => whnf
  refine ⟨[(0,0),(1,0),(4,0),(5,0)], fun m s => ∃ (k : Nat) (e f : Int), e = k ∧ m + k = xs.length ∧ f = left - (xs.length : Nat) - (sumB cAtom (xs.take k) : Nat) ∧ 0 ≤ f ∧
    s = ⟨27, [(0, vAtomS xs), (1, ci f), (4, ci 0), (5, ci e)], []⟩, xs.length, ⟨0, 0, _, rfl, rfl, by rw [sumB_zero]; omega, by omega, rfl⟩, ?_⟩
  rintro m s ⟨k, _, f, rfl, hm, hf, hf0, rfl⟩
  conv => whnf
  split <;> rename_i h3
  all_goals simp only [decide_eq_true_eq, decide_eq_false_iff_not] at h3
  · conv => whnf
    have hk : k < xs.length := by omega
    have hb := sumB_le (f := cAtom) hk
    have hat := sumB_at (f := cAtom) hk
    refine ⟨by omega, rows_len rAtom_len xs, ?_⟩
    conv => whnf
    refine ⟨_, takeN_rp (k := k) rAtom_len hk, ?_⟩
    conv => whnf
    refine ⟨_, szAtom_spec xs[k] f (hqs _ (List.getElem_mem hk)) hf0 (by omega), .inl rfl, .inl ?_⟩
    conv => whnf
    generalize hb1 : decide (sz1 (cAtom xs[k]) f < 0) = b1
    rcases sz1_dec hb1 with ⟨rfl, hn⟩ | ⟨rfl, hs, hl⟩
    · conv => whnf
      show ci (-1) = _
      rw [sz1_neg (by omega)]
    · rw [hs]
      conv => whnf
      exact ⟨m - 1, by omega, k + 1, _, _, wrap_id (by omega) (by omega), by omega, by omega, by omega, rfl⟩
  · conv => whnf
    have hall := sumB_all (f := cAtom) (xs := xs) (k := k) (by omega)
    show ci f = _
    rw [sz1_pos (by omega)]
    congr 1
    omega
theorem eqAtomS_spec (xs : (List (Int × (List Int)))) (h : cAtomS xs ≤ 1099511627776) : Spec Tryz.prog 49 [vAtomS xs, vAtomS xs] (cb true) := by
  unfold cAtomS at h
  refine Spec_of mx Γ_ok Tryz.func49 rfl ?_
  conv => whnf
  rw [bne_self_eq_false]
  conv => whnf
  refine ⟨[(0,0),(1,0),(4,0),(5,0)], fun m s => ∃ (k : Nat) (e : Int), e = k ∧ m + k = xs.length ∧
    s = ⟨27, [(0, vAtomS xs), (1, vAtomS xs), (4, cb false), (5, ci e)], []⟩, xs.length, ⟨0, 0, rfl, rfl, rfl⟩, ?_⟩
  rintro m s ⟨k, _, rfl, hm, rfl⟩
  conv => whnf
  split <;> rename_i h1
  all_goals simp only [decide_eq_true_eq, decide_eq_false_iff_not] at h1
  · conv => whnf
    have hk : k < xs.length := by omega
    have hb := sumB_one (f := cAtom) hk
    refine ⟨List.range 10, by kernel_rfl, ?_⟩
    conv => whnf
    refine ⟨by omega, rows_len rAtom_len xs, ?_⟩
    conv => whnf
    refine ⟨_, takeN_rp (k := k) rAtom_len hk, ?_⟩
    conv => whnf
    refine ⟨by omega, rows_len rAtom_len xs, ?_⟩
    conv => whnf
    refine ⟨_, takeN_rp (k := k) rAtom_len hk, ?_⟩
    conv => whnf
    refine ⟨_, eqAtom_spec xs[k] (by omega), .inl rfl, .inl ?_⟩
    conv => whnf
    exact ⟨m - 1, by omega, k + 1, _, wrap_id (by omega) (by omega), by omega, rfl⟩
  · conv => whnf
    rfl
theorem markAtomS_spec (xs : (List (Int × (List Int)))) (k : Int) (h : k + (mAtomS xs : Nat) ≤ 4398046511104) (hc : cAtomS xs ≤ 1099511627776) (h1 : 0 ≤ k) : SpecR Tryz.prog 53 [wAtomS xs, ci k] (ci (k + (mAtomS xs : Nat))) [wAtomS (kAtomS xs k), ci k] := by
  unfold mAtomS at h ⊢
  unfold cAtomS at hc
  refine SpecL_of mx Γ_ok 2 Tryz.func53 rfl rfl (by omega) ?_
  conv => whnf
  refine ⟨[(0,0),(1,0),(4,0),(5,0)], fun m s => ∃ (i : Nat) (g f : Int) (r : List V), g = i ∧ f = k + (sumB eAtom (xs.take i) : Nat) ∧ m + i = xs.length ∧ r = rows tAtom (mkP eAtom nAtom xs i k) ∧
    s = ⟨27, [(0, .own 0 2 0 xs.length xs.length none), (1, ci f), (4, ci 0), (5, ci g)], [some ⟨false, r⟩, none]⟩, xs.length, ⟨0, 0, k, _, rfl, by rw [sumB_zero]; omega, rfl, by rw [mkP_zero], rfl⟩, ?_⟩
  rintro m s ⟨i, _, f, _, rfl, hf, hm, rfl, rfl⟩
  conv => whnf
  split <;> rename_i h3
  all_goals simp only [decide_eq_true_eq, decide_eq_false_iff_not] at h3
  · conv => whnf
    have hi : i < xs.length := by omega
    have hb := sumB_le (f := eAtom) hi
    have hbc := sumB_one (f := cAtom) hi
    have hat := sumB_at (f := eAtom) hi
    have hlen0 := mkP_len eAtom nAtom (xs := xs) (i := i) k (by omega)
    obtain ⟨ys, hys⟩ : ∃ ys, ys = mkP eAtom nAtom xs i k := ⟨_, rfl⟩
    have hlen : ys.length = xs.length := by rw [hys]; exact hlen0
    have hi' : i < ys.length := by omega
    have hyx : ys[i] = xs[i] := by subst hys; exact mkP_at eAtom nAtom k hi _
    have he : eAtom xs[i] = 1 + (xs[i].2).length := rfl
    have hce : cAtom xs[i] = (xs[i].2).length := rfl
    rw [← hys]
    obtain ⟨ys0, hys0⟩ : ∃ ys', ys' = ys.set i (f, xs[i].2) := ⟨_, rfl⟩
    have hset0 : (rows tAtom ys).set (0 + i * 2 + 0) (ci (f)) = rows tAtom ys0 := by rw [hys0]; exact rows_setCell (f := tAtom) tAtom_len (d := 0) (by omega) hi' (by rw [hyx]; rfl) (by omega)
    have hlen0 : ys0.length = xs.length := by rw [hys0, List.length_set]; exact hlen
    have hi0 : i < ys0.length := by omega
    have hyx0 : ys0[i] = (f, xs[i].2) := by subst hys0; simp
    refine ⟨by omega, ?_⟩
    conv => whnf
    refine ⟨_, takeN_own (o := 0 + i * 2 + 0) (k := i) (d := 0) (m := 1) (xs := ys) tAtom_len (by omega) hi' (by omega) rfl, _, hset0, ?_⟩
    conv => whnf
    have hwr0 : IntKind.i64.wrap (f + 1) = f + 1 := wrap_id (by omega) (by omega)
    rw [hwr0]
    obtain ⟨ys1, hys1⟩ : ∃ ys', ys' = ys0.set i (f, mkI (xs[i].2).length (f + 1)) := ⟨_, rfl⟩
    have hset1 : (rows tAtom ys0).set (0 + i * 2 + 1) (intsT (mkI (xs[i].2).length (f + 1))) = rows tAtom ys1 := by rw [hys1]; exact rows_setCell (f := tAtom) tAtom_len (d := 1) (by omega) hi0 (by rw [hyx0]; rfl) (by omega)
    have hlen1 : ys1.length = xs.length := by rw [hys1, List.length_set]; exact hlen0
    have hi1 : i < ys1.length := by omega
    have hyx1 : ys1[i] = (f, mkI (xs[i].2).length (f + 1)) := by subst hys1; simp
    refine ⟨by omega, ?_⟩
    conv => whnf
    refine ⟨_, takeN_own (o := 0 + i * 2 + 1) (k := i) (d := 1) (m := 1) (xs := ys0) tAtom_len (by omega) hi0 (by omega) rfl, ?_⟩
    conv => whnf
    refine .inr (.inl ⟨trivial, _, _, _, rows_cell (o := 0 + i * 2 + 1) (k := i) (d := 1) (xs := ys0) tAtom_len (by omega) hi0 (by rw [hyx0]; rfl), ?_⟩)
    conv => whnf
    refine ⟨_, _, _, markIntS_spec (xs[i].2) (f + 1) (by omega) (by omega) (by omega), ?_⟩
    conv => whnf
    refine ⟨_, hset1, .inl ?_⟩
    conv => whnf
    refine ⟨m - 1, by omega, i + 1, _, _, _, wrap_id (by omega) (by omega), by omega, by omega, ?_, rfl⟩
    rw [hys1, hys0]
    simp only [List.set_set]
    rw [hys, hf]
    exact congrArg _ (mkP_set eAtom nAtom k hi)
  · conv => whnf
    have hii : i = xs.length := by omega
    have hall := sumB_all (f := eAtom) (xs := xs) (k := i) (by omega)
    refine ⟨by show ci _ = ci _; congr 1; omega, ?_⟩
    conv => whnf
    refine ⟨by rw [rows_len tAtom_len, mkP_len eAtom nAtom k (by omega)], ?_⟩
    conv => whnf
    rw [mkP_all eAtom nAtom k hii]
    simp only [intsT, mkI_len, mkL_len, wAtomS, kAtomS, ci]
theorem heldAtomS_spec (xs : (List (Int × (List Int)))) (k : Int) (h : k + (mAtomS xs : Nat) ≤ 4398046511104) (hc : cAtomS xs ≤ 1099511627776) (h1 : 0 ≤ k) : Spec Tryz.prog 55 [vAtomS (kAtomS xs k), ci k] (ci (k + (mAtomS xs : Nat))) := by
  unfold mAtomS at h ⊢
  unfold cAtomS at hc
  refine Spec_of mx Γ_ok Tryz.func55 rfl ?_
  conv => whnf
  have hkl : (kAtomS xs k).length = xs.length := mkL_len _ _ _ _
  refine ⟨[(0,0),(1,0),(4,0),(5,0)], fun m s => ∃ (i : Nat) (g f : Int), g = i ∧ f = k + (sumB eAtom (xs.take i) : Nat) ∧ m + i = xs.length ∧
    s = ⟨31, [(0, vAtomS (kAtomS xs k)), (1, ci f), (4, ci 0), (5, ci g)], []⟩, xs.length, ⟨0, 0, k, rfl, by rw [sumB_zero]; omega, rfl, rfl⟩, ?_⟩
  rintro m s ⟨i, _, f, rfl, hf, hm, rfl⟩
  conv => whnf
  rw [hkl]
  split <;> rename_i h3
  all_goals simp only [decide_eq_true_eq, decide_eq_false_iff_not] at h3
  · conv => whnf
    have hi : i < xs.length := by omega
    have hb := sumB_le (f := eAtom) hi
    have hbc := sumB_one (f := cAtom) hi
    have hat := sumB_at (f := eAtom) hi
    have hi' : i < (kAtomS xs k).length := by omega
    have hyx : (kAtomS xs k)[i] = nAtom xs[i] f := by rw [hf]; exact mkL_at eAtom nAtom k hi hi'
    have he : eAtom xs[i] = 1 + (xs[i].2).length := rfl
    have hce : cAtom xs[i] = (xs[i].2).length := rfl
    refine ⟨by omega, rows_len rAtom_len _, ?_⟩
    conv => whnf
    refine ⟨_, takeN_rp_field (k := i) (d := 0) (m := 1) (r := [ci (f)]) rAtom_len hi' (by omega) (by rw [hyx]; rfl), ?_⟩
    conv => whnf
    rw [bne_self_eq_false]
    conv => whnf
    have hwr0 : IntKind.i64.wrap (f + 1) = f + 1 := wrap_id (by omega) (by omega)
    rw [hwr0]
    refine ⟨by omega, rows_len rAtom_len _, ?_⟩
    conv => whnf
    refine ⟨_, takeN_rp_field (k := i) (d := 1) (m := 1) (r := [ints (mkI (xs[i].2).length (f + 1))]) rAtom_len hi' (by omega) (by rw [hyx]; rfl), ?_⟩
    conv => whnf
    refine ⟨_, heldIntS_spec (xs[i].2).length (f + 1) (by omega) (by omega) (by omega), .inl rfl, .inl ?_⟩
    conv => whnf
    rw [decide_eq_false (by omega)]
    conv => whnf
    exact ⟨m - 1, by omega, i + 1, _, _, wrap_id (by omega) (by omega), by omega, by omega, rfl⟩
  · conv => whnf
    have hall := sumB_all (f := eAtom) (xs := xs) (k := i) (by omega)
    show ci f = ci _
    congr 1
    omega
theorem closed_wAtomS (xs : (List (Int × (List Int)))) : closed (wAtomS xs) := closeds_rows (f := tAtom) closed_rAtom xs
theorem mAtomS_le (xs : (List (Int × (List Int)))) : mAtomS xs ≤ 4 * cAtomS xs := by
  unfold mAtomS cAtomS
  have := sumB_le4 eAtom_le xs
  omega
def uAtomS (xs : (List (Int × (List Int)))) (k : Int) : V := .ro xs.length (rows rAtom (kAtomS xs k))
theorem uAtomS_eq (xs : (List (Int × (List Int)))) (k : Int) : vAtomS (kAtomS xs k) = uAtomS xs k := by
  have : (kAtomS xs k).length = xs.length := mkL_len _ _ _ _
  simp only [vAtomS, uAtomS, this]
theorem heldAtomS_own (x : (List (Int × (List Int)))) (k : Int) (h : k + (mAtomS x : Nat) ≤ 4398046511104) (hc : cAtomS x ≤ 1099511627776) (h1 : 0 ≤ k) : Spec Tryz.prog 55 [uAtomS x k, ci k] (ci (k + (mAtomS x : Nat))) := by
  have := heldAtomS_spec x k h hc h1
  rwa [uAtomS_eq] at this
def rQuery (x : ((List Int) × (List (Int × (List Int))))) : List V := [ints (x.1), vAtomS (x.2)]
def tQuery (x : ((List Int) × (List (Int × (List Int))))) : List V := [intsT (x.1), wAtomS (x.2)]
def vQuery (x : ((List Int) × (List (Int × (List Int))))) : V := .agg (rQuery x)
def wQuery (x : ((List Int) × (List (Int × (List Int))))) : V := .agg (tQuery x)
theorem rQuery_len (x : ((List Int) × (List (Int × (List Int))))) : (rQuery x).length = 2 := rfl
theorem tQuery_len (x : ((List Int) × (List (Int × (List Int))))) : (tQuery x).length = 2 := rfl
theorem tQuery_ro (x : ((List Int) × (List (Int × (List Int))))) : roVs (tQuery x) = rQuery x := by
  simp only [tQuery, rQuery, roVs, intsT_ro, wAtomS_ro]
theorem wQuery_ro (x : ((List Int) × (List (Int × (List Int))))) : roV (wQuery x) = vQuery x := by simp only [wQuery, vQuery, roV, tQuery_ro]
def cQuery (x : ((List Int) × (List (Int × (List Int))))) : Nat := (x.1).length + cAtomS (x.2)
def mQuery (x : ((List Int) × (List (Int × (List Int))))) : Nat := (x.1).length + mAtomS (x.2)
def eQuery (x : ((List Int) × (List (Int × (List Int))))) : Nat := (x.1).length + mAtomS (x.2)
def kQuery (x : ((List Int) × (List (Int × (List Int))))) (k : Int) : ((List Int) × (List (Int × (List Int)))) := (mkI (x.1).length (k), kAtomS (x.2) (k + ((x.1).length : Nat)))
def nQuery (x : ((List Int) × (List (Int × (List Int))))) (k : Int) : ((List Int) × (List (Int × (List Int)))) := (mkI (x.1).length (k), kAtomS (x.2) (k + ((x.1).length : Nat)))
def qQuery (x : ((List Int) × (List (Int × (List Int))))) : Prop := (x.1.length ≤ maxLen ∧ ∀ y ∈ x.1, (Lit.int .i64 y).wf = true) ∧ qAtomS x.2
theorem toQuery_spec (x : ((List Int) × (List (Int × (List Int))))) (h : cQuery x ≤ 1099511627776) : Spec Tryz.prog 11 [vQuery x] (wQuery x) := by
  unfold cQuery at h
  refine Spec_of mx Γ_ok Tryz.func11 rfl ?_
  conv => whnf
  refine ⟨_, toIntS_spec (x.1) (by omega), .inl rfl, .inr ?_⟩
  conv => whnf
  refine ⟨_, toAtomS_spec (x.2) (by omega), .inl rfl, .inr ?_⟩
  conv => whnf
  exact ⟨by rw [rows_len ciL_len], by rw [rows_len tAtom_len], rfl⟩
theorem szQuery_spec (x : ((List Int) × (List (Int × (List Int))))) (left : Int) (h : qQuery x) (h1 : 0 ≤ left) (h2 : left ≤ 1099511627776) : Spec Tryz.prog 6 [vQuery x, ci left] (ci (sz1 (cQuery x) left)) := by
  unfold qQuery at h
  unfold cQuery
  obtain ⟨hq0, hq1⟩ := h
  refine Spec_of mx Γ_ok Tryz.func6 rfl ?_
  conv => whnf
  refine ⟨_, szIntS_spec (x.1) (left) (by have := hq0.1; simp only [maxLen] at this; omega) (by omega) (by omega), .inl rfl, .inl ?_⟩
  conv => whnf
  generalize hb0 : decide (sz1 ((x.1).length) (left) < 0) = b0
  rcases sz1_dec hb0 with ⟨rfl, hn0⟩ | ⟨rfl, hs0, hl0⟩
  · conv => whnf
    show ci (-1) = _
    rw [sz1_neg (by omega)]
  rw [hs0]
  conv => whnf
  refine ⟨_, szAtomS_spec (x.2) (left - ((x.1).length : Nat)) hq1 (by omega) (by omega), .inl rfl, .inl ?_⟩
  conv => whnf
  generalize hb1 : decide (sz1 (cAtomS (x.2)) (left - ((x.1).length : Nat)) < 0) = b1
  rcases sz1_dec hb1 with ⟨rfl, hn1⟩ | ⟨rfl, hs1, hl1⟩
  · conv => whnf
    show ci (-1) = _
    rw [sz1_neg (by omega)]
  rw [hs1]
  conv => whnf
  show ci (left - ((x.1).length : Nat) - (cAtomS (x.2) : Nat)) = _
  first | rfl | (rw [sz1_pos (by omega)]; congr 1; omega)
theorem eqQuery_spec (x : ((List Int) × (List (Int × (List Int))))) (h : cQuery x ≤ 1099511627776) : Spec Tryz.prog 15 [vQuery x, vQuery x] (cb true) := by
  unfold cQuery at h
  refine Spec_of mx Γ_ok Tryz.func15 rfl ?_
  conv => whnf
  refine ⟨_, eqIntS_refl (x.1) (by omega), .inl rfl, .inl ?_⟩
  conv => whnf
  refine ⟨_, eqAtomS_spec (x.2) (by omega), .inl rfl, .inl ?_⟩
  conv => whnf
  rfl
theorem markQuery_spec (x : ((List Int) × (List (Int × (List Int))))) (k : Int) (h : k + (mQuery x : Nat) ≤ 4398046511104) (hc : cQuery x ≤ 1099511627776) (h1 : 0 ≤ k) : SpecR Tryz.prog 20 [wQuery x, ci k] (ci (k + (mQuery x : Nat))) [wQuery (kQuery x k), ci k] := by
  unfold mQuery at h ⊢
  unfold cQuery at hc
  refine SpecL_of mx Γ_ok 3 Tryz.func20 rfl rfl (by omega) ?_
  conv => whnf
  refine .inr (.inl ⟨by rw [rows_len ciL_len], ?_⟩)
  conv => whnf
  refine ⟨_, _, _, markIntS_spec (x.1) (k) (by omega) (by omega) (by omega), ?_⟩
  conv => whnf
  refine .inl ?_
  conv => whnf
  refine .inr (.inl ⟨by rw [rows_len tAtom_len], ?_⟩)
  conv => whnf
  refine ⟨_, _, _, markAtomS_spec (x.2) (k + ((x.1).length : Nat)) (by omega) (by omega) (by omega), ?_⟩
  conv => whnf
  refine .inl ?_
  conv => whnf
  refine ⟨by first | rfl | (show ci _ = ci _; congr 1; omega), ?_⟩
  conv => whnf
  refine ⟨by rw [rows_len ciL_len, mkI_len], ?_⟩
  conv => whnf
  refine ⟨by rw [rows_len tAtom_len]; exact congrArg (· * 2) (mkL_len _ _ _ _), ?_⟩
  conv => whnf
  simp only [intsT, mkI_len, mkL_len, wQuery, tQuery, kQuery, wAtomS, kAtomS, ci]
theorem heldQuery_spec (x : ((List Int) × (List (Int × (List Int))))) (k : Int) (h : k + (mQuery x : Nat) ≤ 4398046511104) (hc : cQuery x ≤ 1099511627776) (h1 : 0 ≤ k) : Spec Tryz.prog 23 [vQuery (kQuery x k), ci k] (ci (k + (mQuery x : Nat))) := by
  unfold mQuery at h ⊢
  unfold cQuery at hc
  refine Spec_of mx Γ_ok Tryz.func23 rfl ?_
  conv => whnf
  refine ⟨_, heldIntS_spec (x.1).length (k) (by omega) (by omega) (by omega), .inl rfl, .inl ?_⟩
  conv => whnf
  rw [decide_eq_false (by omega)]
  conv => whnf
  refine ⟨_, heldAtomS_spec (x.2) (k + ((x.1).length : Nat)) (by omega) (by omega) (by omega), .inl rfl, .inl ?_⟩
  conv => whnf
  rw [decide_eq_false (by omega)]
  conv => whnf
  first | rfl | (show ci _ = ci _; congr 1; omega)
theorem closed_rQuery (x : ((List Int) × (List (Int × (List Int))))) : closeds (tQuery x) := ⟨closeds_rows (f := ciL) (fun _ => ⟨trivial, trivial⟩) _, closed_wAtomS _, trivial⟩
theorem closed_wQuery (x : ((List Int) × (List (Int × (List Int))))) : closed (wQuery x) := closed_rQuery x
theorem mQuery_le (x : ((List Int) × (List (Int × (List Int))))) : mQuery x ≤ 4 * cQuery x := by
  unfold mQuery cQuery
  have h1 := mAtomS_le (x.2)
  omega
theorem eQuery_le (x : ((List Int) × (List (Int × (List Int))))) : eQuery x ≤ 2 + 4 * cQuery x := by
  unfold eQuery cQuery
  have h1 := mAtomS_le (x.2)
  omega
def uQuery (x : ((List Int) × (List (Int × (List Int))))) (k : Int) : V := .agg [.ro (x.1).length (rows ciL (mkI (x.1).length (k))), uAtomS (x.2) (k + ((x.1).length : Nat))]
theorem uQuery_eq (x : ((List Int) × (List (Int × (List Int))))) (k : Int) : vQuery (kQuery x k) = uQuery x k := by
  simp only [vQuery, rQuery, kQuery, uQuery, ints, mkI_len, uAtomS_eq]
theorem heldQuery_own (x : ((List Int) × (List (Int × (List Int))))) (k : Int) (h : k + (mQuery x : Nat) ≤ 4398046511104) (hc : cQuery x ≤ 1099511627776) (h1 : 0 ≤ k) : Spec Tryz.prog 23 [uQuery x k, ci k] (ci (k + (mQuery x : Nat))) := by
  have := heldQuery_spec x k h hc h1
  rwa [uQuery_eq] at this
def rFact (x : (Int × (List Int))) : List V := [ci (x.1), ints (x.2)]
def tFact (x : (Int × (List Int))) : List V := [ci (x.1), intsT (x.2)]
def vFact (x : (Int × (List Int))) : V := .agg (rFact x)
def wFact (x : (Int × (List Int))) : V := .agg (tFact x)
theorem rFact_len (x : (Int × (List Int))) : (rFact x).length = 2 := rfl
theorem tFact_len (x : (Int × (List Int))) : (tFact x).length = 2 := rfl
theorem tFact_ro (x : (Int × (List Int))) : roVs (tFact x) = rFact x := by
  simp only [tFact, rFact, roVs, ci_ro, intsT_ro]
theorem wFact_ro (x : (Int × (List Int))) : roV (wFact x) = vFact x := by simp only [wFact, vFact, roV, tFact_ro]
def cFact (x : (Int × (List Int))) : Nat := (x.2).length
def mFact (x : (Int × (List Int))) : Nat := (x.2).length
def eFact (x : (Int × (List Int))) : Nat := 1 + (x.2).length
def kFact (x : (Int × (List Int))) (k : Int) : (Int × (List Int)) := (x.1, mkI (x.2).length (k))
def nFact (x : (Int × (List Int))) (k : Int) : (Int × (List Int)) := (k, mkI (x.2).length (k + 1))
def qFact (x : (Int × (List Int))) : Prop := (Lit.int .i64 x.1).wf = true ∧ (x.2.length ≤ maxLen ∧ ∀ y ∈ x.2, (Lit.int .i64 y).wf = true)
theorem closed_rFact (x : (Int × (List Int))) : closeds (tFact x) := ⟨trivial, closeds_rows (f := ciL) (fun _ => ⟨trivial, trivial⟩) _, trivial⟩
theorem closed_wFact (x : (Int × (List Int))) : closed (wFact x) := closed_rFact x
theorem mFact_le (x : (Int × (List Int))) : mFact x ≤ 4 * cFact x := by
  unfold mFact cFact
  omega
theorem eFact_le (x : (Int × (List Int))) : eFact x ≤ 2 + 4 * cFact x := by
  unfold eFact cFact
  omega
def uFact (x : (Int × (List Int))) (k : Int) : V := .agg [ci (x.1), .ro (x.2).length (rows ciL (mkI (x.2).length (k)))]
theorem uFact_eq (x : (Int × (List Int))) (k : Int) : vFact (kFact x k) = uFact x k := by
  simp only [vFact, rFact, kFact, uFact, ints, mkI_len]
def rCounted (x : ((List Int) × Int)) : List V := [ints (x.1), ci (x.2)]
def tCounted (x : ((List Int) × Int)) : List V := [intsT (x.1), ci (x.2)]
def vCounted (x : ((List Int) × Int)) : V := .agg (rCounted x)
def wCounted (x : ((List Int) × Int)) : V := .agg (tCounted x)
theorem rCounted_len (x : ((List Int) × Int)) : (rCounted x).length = 2 := rfl
theorem tCounted_len (x : ((List Int) × Int)) : (tCounted x).length = 2 := rfl
theorem tCounted_ro (x : ((List Int) × Int)) : roVs (tCounted x) = rCounted x := by
  simp only [tCounted, rCounted, roVs, ci_ro, intsT_ro]
theorem wCounted_ro (x : ((List Int) × Int)) : roV (wCounted x) = vCounted x := by simp only [wCounted, vCounted, roV, tCounted_ro]
def cCounted (x : ((List Int) × Int)) : Nat := (x.1).length
def mCounted (x : ((List Int) × Int)) : Nat := (x.1).length
def eCounted (x : ((List Int) × Int)) : Nat := (x.1).length + 1
def kCounted (x : ((List Int) × Int)) (k : Int) : ((List Int) × Int) := (mkI (x.1).length (k), x.2)
def nCounted (x : ((List Int) × Int)) (k : Int) : ((List Int) × Int) := (mkI (x.1).length (k), k + ((x.1).length : Nat))
def qCounted (x : ((List Int) × Int)) : Prop := (x.1.length ≤ maxLen ∧ ∀ y ∈ x.1, (Lit.int .i64 y).wf = true) ∧ (Lit.int .i64 x.2).wf = true
theorem closed_rCounted (x : ((List Int) × Int)) : closeds (tCounted x) := ⟨closeds_rows (f := ciL) (fun _ => ⟨trivial, trivial⟩) _, trivial, trivial⟩
theorem closed_wCounted (x : ((List Int) × Int)) : closed (wCounted x) := closed_rCounted x
theorem mCounted_le (x : ((List Int) × Int)) : mCounted x ≤ 4 * cCounted x := by
  unfold mCounted cCounted
  omega
theorem eCounted_le (x : ((List Int) × Int)) : eCounted x ≤ 2 + 4 * cCounted x := by
  unfold eCounted cCounted
  omega
def uCounted (x : ((List Int) × Int)) (k : Int) : V := .agg [.ro (x.1).length (rows ciL (mkI (x.1).length (k))), ci (x.2)]
theorem uCounted_eq (x : ((List Int) × Int)) (k : Int) : vCounted (kCounted x k) = uCounted x k := by
  simp only [vCounted, rCounted, kCounted, uCounted, ints, mkI_len]
def rKey (x : (Int × (List Int))) : List V := [ci (x.1), ints (x.2)]
def tKey (x : (Int × (List Int))) : List V := [ci (x.1), intsT (x.2)]
def vKey (x : (Int × (List Int))) : V := .agg (rKey x)
def wKey (x : (Int × (List Int))) : V := .agg (tKey x)
theorem rKey_len (x : (Int × (List Int))) : (rKey x).length = 2 := rfl
theorem tKey_len (x : (Int × (List Int))) : (tKey x).length = 2 := rfl
theorem tKey_ro (x : (Int × (List Int))) : roVs (tKey x) = rKey x := by
  simp only [tKey, rKey, roVs, ci_ro, intsT_ro]
theorem wKey_ro (x : (Int × (List Int))) : roV (wKey x) = vKey x := by simp only [wKey, vKey, roV, tKey_ro]
def cKey (x : (Int × (List Int))) : Nat := (x.2).length
def mKey (x : (Int × (List Int))) : Nat := (x.2).length
def eKey (x : (Int × (List Int))) : Nat := 1 + (x.2).length
def kKey (x : (Int × (List Int))) (k : Int) : (Int × (List Int)) := (x.1, mkI (x.2).length (k))
def nKey (x : (Int × (List Int))) (k : Int) : (Int × (List Int)) := (k, mkI (x.2).length (k + 1))
def qKey (x : (Int × (List Int))) : Prop := (Lit.int .i64 x.1).wf = true ∧ (x.2.length ≤ maxLen ∧ ∀ y ∈ x.2, (Lit.int .i64 y).wf = true)
theorem toKey_spec (x : (Int × (List Int))) (h : cKey x ≤ 1099511627776) : Spec Tryz.prog 39 [vKey x] (wKey x) := by
  unfold cKey at h
  refine Spec_of mx Γ_ok Tryz.func39 rfl ?_
  conv => whnf
  refine ⟨_, toIntS_spec (x.2) (by omega), .inl rfl, .inr ?_⟩
  conv => whnf
  exact ⟨by rw [rows_len ciL_len], rfl⟩
theorem szKey_spec (x : (Int × (List Int))) (left : Int) (h : qKey x) (h1 : 0 ≤ left) (h2 : left ≤ 1099511627776) : Spec Tryz.prog 28 [vKey x, ci left] (ci (sz1 (cKey x) left)) := by
  unfold qKey at h
  unfold cKey
  obtain ⟨hq0, hq1⟩ := h
  refine Spec_of mx Γ_ok Tryz.func28 rfl ?_
  conv => whnf
  refine ⟨_, szIntS_spec (x.2) (left) (by have := hq1.1; simp only [maxLen] at this; omega) (by omega) (by omega), .inl rfl, .inl ?_⟩
  conv => whnf
  generalize hb0 : decide (sz1 ((x.2).length) (left) < 0) = b0
  rcases sz1_dec hb0 with ⟨rfl, hn0⟩ | ⟨rfl, hs0, hl0⟩
  · conv => whnf
    show ci (-1) = _
    rw [sz1_neg (by omega)]
  rw [hs0]
  conv => whnf
  show ci (left - ((x.2).length : Nat)) = _
  first | rfl | (rw [sz1_pos (by omega)]; congr 1; omega)
theorem eqKey_spec (x : (Int × (List Int))) (h : cKey x ≤ 1099511627776) : Spec Tryz.prog 50 [vKey x, vKey x] (cb true) := by
  unfold cKey at h
  refine Spec_of mx Γ_ok Tryz.func50 rfl ?_
  conv => whnf
  rw [bne_self_eq_false]
  conv => whnf
  refine ⟨_, eqIntS_refl (x.2) (by omega), .inl rfl, .inl ?_⟩
  conv => whnf
  rfl
theorem closed_rKey (x : (Int × (List Int))) : closeds (tKey x) := ⟨trivial, closeds_rows (f := ciL) (fun _ => ⟨trivial, trivial⟩) _, trivial⟩
theorem closed_wKey (x : (Int × (List Int))) : closed (wKey x) := closed_rKey x
theorem mKey_le (x : (Int × (List Int))) : mKey x ≤ 4 * cKey x := by
  unfold mKey cKey
  omega
theorem eKey_le (x : (Int × (List Int))) : eKey x ≤ 2 + 4 * cKey x := by
  unfold eKey cKey
  omega
def uKey (x : (Int × (List Int))) (k : Int) : V := .agg [ci (x.1), .ro (x.2).length (rows ciL (mkI (x.2).length (k)))]
theorem uKey_eq (x : (Int × (List Int))) (k : Int) : vKey (kKey x k) = uKey x k := by
  simp only [vKey, rKey, kKey, uKey, ints, mkI_len]
def rInclusion (x : (Int × (List Int) × Int × (List Int))) : List V := [ci (x.1), ints (x.2.1), ci (x.2.2.1), ints (x.2.2.2)]
def tInclusion (x : (Int × (List Int) × Int × (List Int))) : List V := [ci (x.1), intsT (x.2.1), ci (x.2.2.1), intsT (x.2.2.2)]
def vInclusion (x : (Int × (List Int) × Int × (List Int))) : V := .agg (rInclusion x)
def wInclusion (x : (Int × (List Int) × Int × (List Int))) : V := .agg (tInclusion x)
theorem rInclusion_len (x : (Int × (List Int) × Int × (List Int))) : (rInclusion x).length = 4 := rfl
theorem tInclusion_len (x : (Int × (List Int) × Int × (List Int))) : (tInclusion x).length = 4 := rfl
theorem tInclusion_ro (x : (Int × (List Int) × Int × (List Int))) : roVs (tInclusion x) = rInclusion x := by
  simp only [tInclusion, rInclusion, roVs, ci_ro, intsT_ro]
theorem wInclusion_ro (x : (Int × (List Int) × Int × (List Int))) : roV (wInclusion x) = vInclusion x := by simp only [wInclusion, vInclusion, roV, tInclusion_ro]
def cInclusion (x : (Int × (List Int) × Int × (List Int))) : Nat := (x.2.1).length + (x.2.2.2).length
def mInclusion (x : (Int × (List Int) × Int × (List Int))) : Nat := (x.2.1).length + (x.2.2.2).length
def eInclusion (x : (Int × (List Int) × Int × (List Int))) : Nat := 1 + (x.2.1).length + 1 + (x.2.2.2).length
def kInclusion (x : (Int × (List Int) × Int × (List Int))) (k : Int) : (Int × (List Int) × Int × (List Int)) := (x.1, mkI (x.2.1).length (k), x.2.2.1, mkI (x.2.2.2).length (k + ((x.2.1).length : Nat)))
def nInclusion (x : (Int × (List Int) × Int × (List Int))) (k : Int) : (Int × (List Int) × Int × (List Int)) := (k, mkI (x.2.1).length (k + 1), k + 1 + ((x.2.1).length : Nat), mkI (x.2.2.2).length (k + 1 + ((x.2.1).length : Nat) + 1))
def qInclusion (x : (Int × (List Int) × Int × (List Int))) : Prop := (Lit.int .i64 x.1).wf = true ∧ (x.2.1.length ≤ maxLen ∧ ∀ y ∈ x.2.1, (Lit.int .i64 y).wf = true) ∧ (Lit.int .i64 x.2.2.1).wf = true ∧ (x.2.2.2.length ≤ maxLen ∧ ∀ y ∈ x.2.2.2, (Lit.int .i64 y).wf = true)
theorem toInclusion_spec (x : (Int × (List Int) × Int × (List Int))) (h : cInclusion x ≤ 1099511627776) : Spec Tryz.prog 40 [vInclusion x] (wInclusion x) := by
  unfold cInclusion at h
  refine Spec_of mx Γ_ok Tryz.func40 rfl ?_
  conv => whnf
  refine ⟨_, toIntS_spec (x.2.1) (by omega), .inl rfl, .inr ?_⟩
  conv => whnf
  refine ⟨_, toIntS_spec (x.2.2.2) (by omega), .inl rfl, .inr ?_⟩
  conv => whnf
  exact ⟨by rw [rows_len ciL_len], by rw [rows_len ciL_len], rfl⟩
theorem szInclusion_spec (x : (Int × (List Int) × Int × (List Int))) (left : Int) (h : qInclusion x) (h1 : 0 ≤ left) (h2 : left ≤ 1099511627776) : Spec Tryz.prog 29 [vInclusion x, ci left] (ci (sz1 (cInclusion x) left)) := by
  unfold qInclusion at h
  unfold cInclusion
  obtain ⟨hq0, hq1, hq2, hq3⟩ := h
  refine Spec_of mx Γ_ok Tryz.func29 rfl ?_
  conv => whnf
  refine ⟨_, szIntS_spec (x.2.1) (left) (by have := hq1.1; simp only [maxLen] at this; omega) (by omega) (by omega), .inl rfl, .inl ?_⟩
  conv => whnf
  generalize hb0 : decide (sz1 ((x.2.1).length) (left) < 0) = b0
  rcases sz1_dec hb0 with ⟨rfl, hn0⟩ | ⟨rfl, hs0, hl0⟩
  · conv => whnf
    show ci (-1) = _
    rw [sz1_neg (by omega)]
  rw [hs0]
  conv => whnf
  refine ⟨_, szIntS_spec (x.2.2.2) (left - ((x.2.1).length : Nat)) (by have := hq3.1; simp only [maxLen] at this; omega) (by omega) (by omega), .inl rfl, .inl ?_⟩
  conv => whnf
  generalize hb1 : decide (sz1 ((x.2.2.2).length) (left - ((x.2.1).length : Nat)) < 0) = b1
  rcases sz1_dec hb1 with ⟨rfl, hn1⟩ | ⟨rfl, hs1, hl1⟩
  · conv => whnf
    show ci (-1) = _
    rw [sz1_neg (by omega)]
  rw [hs1]
  conv => whnf
  show ci (left - ((x.2.1).length : Nat) - ((x.2.2.2).length : Nat)) = _
  first | rfl | (rw [sz1_pos (by omega)]; congr 1; omega)
theorem eqInclusion_spec (x : (Int × (List Int) × Int × (List Int))) (h : cInclusion x ≤ 1099511627776) : Spec Tryz.prog 51 [vInclusion x, vInclusion x] (cb true) := by
  unfold cInclusion at h
  refine Spec_of mx Γ_ok Tryz.func51 rfl ?_
  conv => whnf
  rw [bne_self_eq_false]
  conv => whnf
  refine ⟨_, eqIntS_refl (x.2.1) (by omega), .inl rfl, .inl ?_⟩
  conv => whnf
  rw [bne_self_eq_false]
  conv => whnf
  refine ⟨_, eqIntS_refl (x.2.2.2) (by omega), .inl rfl, .inl ?_⟩
  conv => whnf
  rfl
theorem closed_rInclusion (x : (Int × (List Int) × Int × (List Int))) : closeds (tInclusion x) := ⟨trivial, closeds_rows (f := ciL) (fun _ => ⟨trivial, trivial⟩) _, trivial, closeds_rows (f := ciL) (fun _ => ⟨trivial, trivial⟩) _, trivial⟩
theorem closed_wInclusion (x : (Int × (List Int) × Int × (List Int))) : closed (wInclusion x) := closed_rInclusion x
theorem mInclusion_le (x : (Int × (List Int) × Int × (List Int))) : mInclusion x ≤ 4 * cInclusion x := by
  unfold mInclusion cInclusion
  omega
theorem eInclusion_le (x : (Int × (List Int) × Int × (List Int))) : eInclusion x ≤ 2 + 4 * cInclusion x := by
  unfold eInclusion cInclusion
  omega
def uInclusion (x : (Int × (List Int) × Int × (List Int))) (k : Int) : V := .agg [ci (x.1), .ro (x.2.1).length (rows ciL (mkI (x.2.1).length (k))), ci (x.2.2.1), .ro (x.2.2.2).length (rows ciL (mkI (x.2.2.2).length (k + ((x.2.1).length : Nat))))]
theorem uInclusion_eq (x : (Int × (List Int) × Int × (List Int))) (k : Int) : vInclusion (kInclusion x k) = uInclusion x k := by
  simp only [vInclusion, rInclusion, kInclusion, uInclusion, ints, mkI_len]
def vSchemaS (xs : (List (List Int))) : V := .ro xs.length (rows rSchema xs)
def wSchemaS (xs : (List (List Int))) : V := .tr 1 xs.length (rows tSchema xs)
theorem wSchemaS_ro (xs : (List (List Int))) : roV (wSchemaS xs) = vSchemaS xs := by simp only [wSchemaS, vSchemaS, roV, roVs_rows tSchema_ro]
def cSchemaS (xs : (List (List Int))) : Nat := xs.length + sumB cSchema xs
def mSchemaS (xs : (List (List Int))) : Nat := sumB eSchema xs
def kSchemaS (xs : (List (List Int))) (k : Int) : (List (List Int)) := mkL eSchema nSchema xs k
def qSchemaS (xs : (List (List Int))) : Prop := xs.length ≤ maxLen ∧ ∀ y ∈ xs, qSchema y
theorem closed_wSchemaS (xs : (List (List Int))) : closed (wSchemaS xs) := closeds_rows (f := tSchema) closed_rSchema xs
theorem mSchemaS_le (xs : (List (List Int))) : mSchemaS xs ≤ 4 * cSchemaS xs := by
  unfold mSchemaS cSchemaS
  have := sumB_le4 eSchema_le xs
  omega
def uSchemaS (xs : (List (List Int))) (k : Int) : V := .ro xs.length (rows rSchema (kSchemaS xs k))
theorem uSchemaS_eq (xs : (List (List Int))) (k : Int) : vSchemaS (kSchemaS xs k) = uSchemaS xs k := by
  have : (kSchemaS xs k).length = xs.length := mkL_len _ _ _ _
  simp only [vSchemaS, uSchemaS, this]
def vQueryS (xs : (List ((List Int) × (List (Int × (List Int)))))) : V := .ro xs.length (rows rQuery xs)
def wQueryS (xs : (List ((List Int) × (List (Int × (List Int)))))) : V := .tr 2 xs.length (rows tQuery xs)
theorem wQueryS_ro (xs : (List ((List Int) × (List (Int × (List Int)))))) : roV (wQueryS xs) = vQueryS xs := by simp only [wQueryS, vQueryS, roV, roVs_rows tQuery_ro]
def cQueryS (xs : (List ((List Int) × (List (Int × (List Int)))))) : Nat := xs.length + sumB cQuery xs
def mQueryS (xs : (List ((List Int) × (List (Int × (List Int)))))) : Nat := sumB eQuery xs
def kQueryS (xs : (List ((List Int) × (List (Int × (List Int)))))) (k : Int) : (List ((List Int) × (List (Int × (List Int))))) := mkL eQuery nQuery xs k
def qQueryS (xs : (List ((List Int) × (List (Int × (List Int)))))) : Prop := xs.length ≤ maxLen ∧ ∀ y ∈ xs, qQuery y
theorem closed_wQueryS (xs : (List ((List Int) × (List (Int × (List Int)))))) : closed (wQueryS xs) := closeds_rows (f := tQuery) closed_rQuery xs
theorem mQueryS_le (xs : (List ((List Int) × (List (Int × (List Int)))))) : mQueryS xs ≤ 4 * cQueryS xs := by
  unfold mQueryS cQueryS
  have := sumB_le4 eQuery_le xs
  omega
def uQueryS (xs : (List ((List Int) × (List (Int × (List Int)))))) (k : Int) : V := .ro xs.length (rows rQuery (kQueryS xs k))
theorem uQueryS_eq (xs : (List ((List Int) × (List (Int × (List Int)))))) (k : Int) : vQueryS (kQueryS xs k) = uQueryS xs k := by
  have : (kQueryS xs k).length = xs.length := mkL_len _ _ _ _
  simp only [vQueryS, uQueryS, this]
def vFactS (xs : (List (Int × (List Int)))) : V := .ro xs.length (rows rFact xs)
def wFactS (xs : (List (Int × (List Int)))) : V := .tr 2 xs.length (rows tFact xs)
theorem wFactS_ro (xs : (List (Int × (List Int)))) : roV (wFactS xs) = vFactS xs := by simp only [wFactS, vFactS, roV, roVs_rows tFact_ro]
def cFactS (xs : (List (Int × (List Int)))) : Nat := xs.length + sumB cFact xs
def mFactS (xs : (List (Int × (List Int)))) : Nat := sumB eFact xs
def kFactS (xs : (List (Int × (List Int)))) (k : Int) : (List (Int × (List Int))) := mkL eFact nFact xs k
def qFactS (xs : (List (Int × (List Int)))) : Prop := xs.length ≤ maxLen ∧ ∀ y ∈ xs, qFact y
theorem closed_wFactS (xs : (List (Int × (List Int)))) : closed (wFactS xs) := closeds_rows (f := tFact) closed_rFact xs
theorem mFactS_le (xs : (List (Int × (List Int)))) : mFactS xs ≤ 4 * cFactS xs := by
  unfold mFactS cFactS
  have := sumB_le4 eFact_le xs
  omega
def uFactS (xs : (List (Int × (List Int)))) (k : Int) : V := .ro xs.length (rows rFact (kFactS xs k))
theorem uFactS_eq (xs : (List (Int × (List Int)))) (k : Int) : vFactS (kFactS xs k) = uFactS xs k := by
  have : (kFactS xs k).length = xs.length := mkL_len _ _ _ _
  simp only [vFactS, uFactS, this]
def vCountedS (xs : (List ((List Int) × Int))) : V := .ro xs.length (rows rCounted xs)
def wCountedS (xs : (List ((List Int) × Int))) : V := .tr 2 xs.length (rows tCounted xs)
theorem wCountedS_ro (xs : (List ((List Int) × Int))) : roV (wCountedS xs) = vCountedS xs := by simp only [wCountedS, vCountedS, roV, roVs_rows tCounted_ro]
def cCountedS (xs : (List ((List Int) × Int))) : Nat := xs.length + sumB cCounted xs
def mCountedS (xs : (List ((List Int) × Int))) : Nat := sumB eCounted xs
def kCountedS (xs : (List ((List Int) × Int))) (k : Int) : (List ((List Int) × Int)) := mkL eCounted nCounted xs k
def qCountedS (xs : (List ((List Int) × Int))) : Prop := xs.length ≤ maxLen ∧ ∀ y ∈ xs, qCounted y
theorem closed_wCountedS (xs : (List ((List Int) × Int))) : closed (wCountedS xs) := closeds_rows (f := tCounted) closed_rCounted xs
theorem mCountedS_le (xs : (List ((List Int) × Int))) : mCountedS xs ≤ 4 * cCountedS xs := by
  unfold mCountedS cCountedS
  have := sumB_le4 eCounted_le xs
  omega
def uCountedS (xs : (List ((List Int) × Int))) (k : Int) : V := .ro xs.length (rows rCounted (kCountedS xs k))
theorem uCountedS_eq (xs : (List ((List Int) × Int))) (k : Int) : vCountedS (kCountedS xs k) = uCountedS xs k := by
  have : (kCountedS xs k).length = xs.length := mkL_len _ _ _ _
  simp only [vCountedS, uCountedS, this]
def vKeyS (xs : (List (Int × (List Int)))) : V := .ro xs.length (rows rKey xs)
def wKeyS (xs : (List (Int × (List Int)))) : V := .tr 2 xs.length (rows tKey xs)
theorem wKeyS_ro (xs : (List (Int × (List Int)))) : roV (wKeyS xs) = vKeyS xs := by simp only [wKeyS, vKeyS, roV, roVs_rows tKey_ro]
def cKeyS (xs : (List (Int × (List Int)))) : Nat := xs.length + sumB cKey xs
def mKeyS (xs : (List (Int × (List Int)))) : Nat := sumB eKey xs
def kKeyS (xs : (List (Int × (List Int)))) (k : Int) : (List (Int × (List Int))) := mkL eKey nKey xs k
def qKeyS (xs : (List (Int × (List Int)))) : Prop := xs.length ≤ maxLen ∧ ∀ y ∈ xs, qKey y
theorem toKeyS_spec (xs : (List (Int × (List Int)))) (h : cKeyS xs ≤ 1099511627776) : Spec Tryz.prog 12 [vKeyS xs] (wKeyS xs) := by
  unfold cKeyS at h
  refine Spec_of mx Γ_ok Tryz.func12 rfl ?_
  conv => whnf
  refine ⟨by omega, _, repl_rows (f := optR [ci 0, cnil] tKey) (d := none) rfl _, ?_⟩
  conv => whnf
  refine ⟨[(0,0),(2,0),(3,0),(4,0)], fun m s => ∃ (k : Nat) (e : Int) (r : List V), e = k ∧ m + k = xs.length ∧ r = rows (optR [ci 0, cnil] tKey) (doneO xs k) ∧
    s = ⟨23, [(0, vKeyS xs), (2, cnil), (3, .own 0 2 0 xs.length xs.length none), (4, ci e)], [some ⟨false, r⟩]⟩, xs.length, ⟨0, 0, _, rfl, rfl, by rw [doneO_zero]; rfl, rfl⟩, ?_⟩
  rintro m s ⟨k, _, _, rfl, hm, rfl, rfl⟩
  conv => whnf
  split <;> rename_i h1
  all_goals simp only [decide_eq_true_eq, decide_eq_false_iff_not] at h1
  · conv => whnf
    have hk : k < xs.length := by omega
    have hb := sumB_one (f := cKey) hk
    have hlen := optR_len (z := [ci 0, cnil]) (f := tKey) (n := 2) rfl tKey_len
    refine ⟨by omega, rows_len rKey_len xs, ?_⟩
    conv => whnf
    refine ⟨_, takeN_rp (k := k) rKey_len hk, ?_⟩
    conv => whnf
    refine ⟨_, toKey_spec xs[k] (by omega), .inl rfl, .inr ?_⟩
    conv => whnf
    refine ⟨by omega, ?_⟩
    conv => whnf
    refine ⟨_, takeN_own (k := k) (d := 0) (m := 2) (xs := doneO xs k) hlen (Nat.zero_add _) (by rw [doneO_len (by omega)]; exact hk) (by omega) rfl, ?_⟩
    conv => whnf
    refine ⟨by rw [rows_len ciL_len], ?_⟩
    conv => whnf
    refine ⟨by have := rows_len hlen (doneO xs k); rw [doneO_len (by omega)] at this; have h5 : (k + 1) * 2 ≤ xs.length * 2 := Nat.mul_le_mul_right _ hk; show 0 + k * 2 + 2 ≤ _; omega, _, (congrArg (fun o => setC (rows (optR [ci 0, cnil] tKey) (doneO xs k)) o (tKey xs[k])) (Nat.zero_add _)).trans (setC_rows hlen (by omega) (by rw [doneO_len (by omega)]; exact hk) (some xs[k])), ?_⟩
    conv => whnf
    exact ⟨m - 1, by omega, k + 1, _, _, wrap_id (by omega) (by omega), by omega, by exact congrArg _ (doneO_set hk), rfl⟩
  · conv => whnf
    have hkk : k = xs.length := by omega
    refine ⟨?_, ?_⟩
    · rw [doneO_all hkk, rows_len tKey_len]
    · rw [doneO_all hkk]
      rfl
theorem szKeyS_spec (xs : (List (Int × (List Int)))) (left : Int) (h : qKeyS xs) (h1 : 0 ≤ left) (h2 : left ≤ 1099511627776) : Spec Tryz.prog 7 [vKeyS xs, ci left] (ci (sz1 (cKeyS xs) left)) := by
  obtain ⟨hq, hqs⟩ := h
  simp only [maxLen] at hq
  unfold cKeyS
  refine Spec_of mx Γ_ok Tryz.func7 rfl ?_
  conv => whnf
  have hw : IntKind.i64.wrap (left - xs.length) = left - xs.length := wrap_id (by omega) (by omega)
  rw [hw]
  split <;> rename_i h0
  all_goals simp only [decide_eq_true_eq, decide_eq_false_iff_not] at h0
  · conv => whnf
    show ci (-1) = _
    rw [sz1_neg (by omega)]
  conv => whnf
  refine ⟨[(0,0),(1,0),(4,0),(5,0)], fun m s => ∃ (k : Nat) (e f : Int), e = k ∧ m + k = xs.length ∧ f = left - (xs.length : Nat) - (sumB cKey (xs.take k) : Nat) ∧ 0 ≤ f ∧
    s = ⟨27, [(0, vKeyS xs), (1, ci f), (4, ci 0), (5, ci e)], []⟩, xs.length, ⟨0, 0, _, rfl, rfl, by rw [sumB_zero]; omega, by omega, rfl⟩, ?_⟩
  rintro m s ⟨k, _, f, rfl, hm, hf, hf0, rfl⟩
  conv => whnf
  split <;> rename_i h3
  all_goals simp only [decide_eq_true_eq, decide_eq_false_iff_not] at h3
  · conv => whnf
    have hk : k < xs.length := by omega
    have hb := sumB_le (f := cKey) hk
    have hat := sumB_at (f := cKey) hk
    refine ⟨by omega, rows_len rKey_len xs, ?_⟩
    conv => whnf
    refine ⟨_, takeN_rp (k := k) rKey_len hk, ?_⟩
    conv => whnf
    refine ⟨_, szKey_spec xs[k] f (hqs _ (List.getElem_mem hk)) hf0 (by omega), .inl rfl, .inl ?_⟩
    conv => whnf
    generalize hb1 : decide (sz1 (cKey xs[k]) f < 0) = b1
    rcases sz1_dec hb1 with ⟨rfl, hn⟩ | ⟨rfl, hs, hl⟩
    · conv => whnf
      show ci (-1) = _
      rw [sz1_neg (by omega)]
    · rw [hs]
      conv => whnf
      exact ⟨m - 1, by omega, k + 1, _, _, wrap_id (by omega) (by omega), by omega, by omega, by omega, rfl⟩
  · conv => whnf
    have hall := sumB_all (f := cKey) (xs := xs) (k := k) (by omega)
    show ci f = _
    rw [sz1_pos (by omega)]
    congr 1
    omega
theorem eqKeyS_spec (xs : (List (Int × (List Int)))) (h : cKeyS xs ≤ 1099511627776) : Spec Tryz.prog 17 [vKeyS xs, vKeyS xs] (cb true) := by
  unfold cKeyS at h
  refine Spec_of mx Γ_ok Tryz.func17 rfl ?_
  conv => whnf
  rw [bne_self_eq_false]
  conv => whnf
  refine ⟨[(0,0),(1,0),(4,0),(5,0)], fun m s => ∃ (k : Nat) (e : Int), e = k ∧ m + k = xs.length ∧
    s = ⟨27, [(0, vKeyS xs), (1, vKeyS xs), (4, cb false), (5, ci e)], []⟩, xs.length, ⟨0, 0, rfl, rfl, rfl⟩, ?_⟩
  rintro m s ⟨k, _, rfl, hm, rfl⟩
  conv => whnf
  split <;> rename_i h1
  all_goals simp only [decide_eq_true_eq, decide_eq_false_iff_not] at h1
  · conv => whnf
    have hk : k < xs.length := by omega
    have hb := sumB_one (f := cKey) hk
    refine ⟨List.range 10, by kernel_rfl, ?_⟩
    conv => whnf
    refine ⟨by omega, rows_len rKey_len xs, ?_⟩
    conv => whnf
    refine ⟨_, takeN_rp (k := k) rKey_len hk, ?_⟩
    conv => whnf
    refine ⟨by omega, rows_len rKey_len xs, ?_⟩
    conv => whnf
    refine ⟨_, takeN_rp (k := k) rKey_len hk, ?_⟩
    conv => whnf
    refine ⟨_, eqKey_spec xs[k] (by omega), .inl rfl, .inl ?_⟩
    conv => whnf
    exact ⟨m - 1, by omega, k + 1, _, wrap_id (by omega) (by omega), by omega, rfl⟩
  · conv => whnf
    rfl
theorem markKeyS_spec (xs : (List (Int × (List Int)))) (k : Int) (h : k + (mKeyS xs : Nat) ≤ 4398046511104) (hc : cKeyS xs ≤ 1099511627776) (h1 : 0 ≤ k) : SpecR Tryz.prog 21 [wKeyS xs, ci k] (ci (k + (mKeyS xs : Nat))) [wKeyS (kKeyS xs k), ci k] := by
  unfold mKeyS at h ⊢
  unfold cKeyS at hc
  refine SpecL_of mx Γ_ok 2 Tryz.func21 rfl rfl (by omega) ?_
  conv => whnf
  refine ⟨[(0,0),(1,0),(4,0),(5,0)], fun m s => ∃ (i : Nat) (g f : Int) (r : List V), g = i ∧ f = k + (sumB eKey (xs.take i) : Nat) ∧ m + i = xs.length ∧ r = rows tKey (mkP eKey nKey xs i k) ∧
    s = ⟨27, [(0, .own 0 2 0 xs.length xs.length none), (1, ci f), (4, ci 0), (5, ci g)], [some ⟨false, r⟩, none]⟩, xs.length, ⟨0, 0, k, _, rfl, by rw [sumB_zero]; omega, rfl, by rw [mkP_zero], rfl⟩, ?_⟩
  rintro m s ⟨i, _, f, _, rfl, hf, hm, rfl, rfl⟩
  conv => whnf
  split <;> rename_i h3
  all_goals simp only [decide_eq_true_eq, decide_eq_false_iff_not] at h3
  · conv => whnf
    have hi : i < xs.length := by omega
    have hb := sumB_le (f := eKey) hi
    have hbc := sumB_one (f := cKey) hi
    have hat := sumB_at (f := eKey) hi
    have hlen0 := mkP_len eKey nKey (xs := xs) (i := i) k (by omega)
    obtain ⟨ys, hys⟩ : ∃ ys, ys = mkP eKey nKey xs i k := ⟨_, rfl⟩
    have hlen : ys.length = xs.length := by rw [hys]; exact hlen0
    have hi' : i < ys.length := by omega
    have hyx : ys[i] = xs[i] := by subst hys; exact mkP_at eKey nKey k hi _
    have he : eKey xs[i] = 1 + (xs[i].2).length := rfl
    have hce : cKey xs[i] = (xs[i].2).length := rfl
    rw [← hys]
    obtain ⟨ys0, hys0⟩ : ∃ ys', ys' = ys.set i (f, xs[i].2) := ⟨_, rfl⟩
    have hset0 : (rows tKey ys).set (0 + i * 2 + 0) (ci (f)) = rows tKey ys0 := by rw [hys0]; exact rows_setCell (f := tKey) tKey_len (d := 0) (by omega) hi' (by rw [hyx]; rfl) (by omega)
    have hlen0 : ys0.length = xs.length := by rw [hys0, List.length_set]; exact hlen
    have hi0 : i < ys0.length := by omega
    have hyx0 : ys0[i] = (f, xs[i].2) := by subst hys0; simp
    refine ⟨by omega, ?_⟩
    conv => whnf
    refine ⟨_, takeN_own (o := 0 + i * 2 + 0) (k := i) (d := 0) (m := 1) (xs := ys) tKey_len (by omega) hi' (by omega) rfl, _, hset0, ?_⟩
    conv => whnf
    have hwr0 : IntKind.i64.wrap (f + 1) = f + 1 := wrap_id (by omega) (by omega)
    rw [hwr0]
    obtain ⟨ys1, hys1⟩ : ∃ ys', ys' = ys0.set i (f, mkI (xs[i].2).length (f + 1)) := ⟨_, rfl⟩
    have hset1 : (rows tKey ys0).set (0 + i * 2 + 1) (intsT (mkI (xs[i].2).length (f + 1))) = rows tKey ys1 := by rw [hys1]; exact rows_setCell (f := tKey) tKey_len (d := 1) (by omega) hi0 (by rw [hyx0]; rfl) (by omega)
    have hlen1 : ys1.length = xs.length := by rw [hys1, List.length_set]; exact hlen0
    have hi1 : i < ys1.length := by omega
    have hyx1 : ys1[i] = (f, mkI (xs[i].2).length (f + 1)) := by subst hys1; simp
    refine ⟨by omega, ?_⟩
    conv => whnf
    refine ⟨_, takeN_own (o := 0 + i * 2 + 1) (k := i) (d := 1) (m := 1) (xs := ys0) tKey_len (by omega) hi0 (by omega) rfl, ?_⟩
    conv => whnf
    refine .inr (.inl ⟨trivial, _, _, _, rows_cell (o := 0 + i * 2 + 1) (k := i) (d := 1) (xs := ys0) tKey_len (by omega) hi0 (by rw [hyx0]; rfl), ?_⟩)
    conv => whnf
    refine ⟨_, _, _, markIntS_spec (xs[i].2) (f + 1) (by omega) (by omega) (by omega), ?_⟩
    conv => whnf
    refine ⟨_, hset1, .inl ?_⟩
    conv => whnf
    refine ⟨m - 1, by omega, i + 1, _, _, _, wrap_id (by omega) (by omega), by omega, by omega, ?_, rfl⟩
    rw [hys1, hys0]
    simp only [List.set_set]
    rw [hys, hf]
    exact congrArg _ (mkP_set eKey nKey k hi)
  · conv => whnf
    have hii : i = xs.length := by omega
    have hall := sumB_all (f := eKey) (xs := xs) (k := i) (by omega)
    refine ⟨by show ci _ = ci _; congr 1; omega, ?_⟩
    conv => whnf
    refine ⟨by rw [rows_len tKey_len, mkP_len eKey nKey k (by omega)], ?_⟩
    conv => whnf
    rw [mkP_all eKey nKey k hii]
    simp only [intsT, mkI_len, mkL_len, wKeyS, kKeyS, ci]
theorem closed_wKeyS (xs : (List (Int × (List Int)))) : closed (wKeyS xs) := closeds_rows (f := tKey) closed_rKey xs
theorem mKeyS_le (xs : (List (Int × (List Int)))) : mKeyS xs ≤ 4 * cKeyS xs := by
  unfold mKeyS cKeyS
  have := sumB_le4 eKey_le xs
  omega
def uKeyS (xs : (List (Int × (List Int)))) (k : Int) : V := .ro xs.length (rows rKey (kKeyS xs k))
theorem uKeyS_eq (xs : (List (Int × (List Int)))) (k : Int) : vKeyS (kKeyS xs k) = uKeyS xs k := by
  have : (kKeyS xs k).length = xs.length := mkL_len _ _ _ _
  simp only [vKeyS, uKeyS, this]
def vInclusionS (xs : (List (Int × (List Int) × Int × (List Int)))) : V := .ro xs.length (rows rInclusion xs)
def wInclusionS (xs : (List (Int × (List Int) × Int × (List Int)))) : V := .tr 4 xs.length (rows tInclusion xs)
theorem wInclusionS_ro (xs : (List (Int × (List Int) × Int × (List Int)))) : roV (wInclusionS xs) = vInclusionS xs := by simp only [wInclusionS, vInclusionS, roV, roVs_rows tInclusion_ro]
def cInclusionS (xs : (List (Int × (List Int) × Int × (List Int)))) : Nat := xs.length + sumB cInclusion xs
def mInclusionS (xs : (List (Int × (List Int) × Int × (List Int)))) : Nat := sumB eInclusion xs
def kInclusionS (xs : (List (Int × (List Int) × Int × (List Int)))) (k : Int) : (List (Int × (List Int) × Int × (List Int))) := mkL eInclusion nInclusion xs k
def qInclusionS (xs : (List (Int × (List Int) × Int × (List Int)))) : Prop := xs.length ≤ maxLen ∧ ∀ y ∈ xs, qInclusion y
theorem toInclusionS_spec (xs : (List (Int × (List Int) × Int × (List Int)))) (h : cInclusionS xs ≤ 1099511627776) : Spec Tryz.prog 13 [vInclusionS xs] (wInclusionS xs) := by
  unfold cInclusionS at h
  refine Spec_of mx Γ_ok Tryz.func13 rfl ?_
  conv => whnf
  refine ⟨by omega, _, repl_rows (f := optR [ci 0, cnil, ci 0, cnil] tInclusion) (d := none) rfl _, ?_⟩
  conv => whnf
  refine ⟨[(0,0),(2,0),(3,0),(4,0)], fun m s => ∃ (k : Nat) (e : Int) (r : List V), e = k ∧ m + k = xs.length ∧ r = rows (optR [ci 0, cnil, ci 0, cnil] tInclusion) (doneO xs k) ∧
    s = ⟨23, [(0, vInclusionS xs), (2, cnil), (3, .own 0 4 0 xs.length xs.length none), (4, ci e)], [some ⟨false, r⟩]⟩, xs.length, ⟨0, 0, _, rfl, rfl, by rw [doneO_zero]; rfl, rfl⟩, ?_⟩
  rintro m s ⟨k, _, _, rfl, hm, rfl, rfl⟩
  conv => whnf
  split <;> rename_i h1
  all_goals simp only [decide_eq_true_eq, decide_eq_false_iff_not] at h1
  · conv => whnf
    have hk : k < xs.length := by omega
    have hb := sumB_one (f := cInclusion) hk
    have hlen := optR_len (z := [ci 0, cnil, ci 0, cnil]) (f := tInclusion) (n := 4) rfl tInclusion_len
    refine ⟨by omega, rows_len rInclusion_len xs, ?_⟩
    conv => whnf
    refine ⟨_, takeN_rp (k := k) rInclusion_len hk, ?_⟩
    conv => whnf
    refine ⟨_, toInclusion_spec xs[k] (by omega), .inl rfl, .inr ?_⟩
    conv => whnf
    refine ⟨by omega, ?_⟩
    conv => whnf
    refine ⟨_, takeN_own (k := k) (d := 0) (m := 4) (xs := doneO xs k) hlen (Nat.zero_add _) (by rw [doneO_len (by omega)]; exact hk) (by omega) rfl, ?_⟩
    conv => whnf
    refine ⟨by rw [rows_len ciL_len], by rw [rows_len ciL_len], ?_⟩
    conv => whnf
    refine ⟨by have := rows_len hlen (doneO xs k); rw [doneO_len (by omega)] at this; have h5 : (k + 1) * 4 ≤ xs.length * 4 := Nat.mul_le_mul_right _ hk; show 0 + k * 4 + 4 ≤ _; omega, _, (congrArg (fun o => setC (rows (optR [ci 0, cnil, ci 0, cnil] tInclusion) (doneO xs k)) o (tInclusion xs[k])) (Nat.zero_add _)).trans (setC_rows hlen (by omega) (by rw [doneO_len (by omega)]; exact hk) (some xs[k])), ?_⟩
    conv => whnf
    exact ⟨m - 1, by omega, k + 1, _, _, wrap_id (by omega) (by omega), by omega, by exact congrArg _ (doneO_set hk), rfl⟩
  · conv => whnf
    have hkk : k = xs.length := by omega
    refine ⟨?_, ?_⟩
    · rw [doneO_all hkk, rows_len tInclusion_len]
    · rw [doneO_all hkk]
      rfl
theorem szInclusionS_spec (xs : (List (Int × (List Int) × Int × (List Int)))) (left : Int) (h : qInclusionS xs) (h1 : 0 ≤ left) (h2 : left ≤ 1099511627776) : Spec Tryz.prog 8 [vInclusionS xs, ci left] (ci (sz1 (cInclusionS xs) left)) := by
  obtain ⟨hq, hqs⟩ := h
  simp only [maxLen] at hq
  unfold cInclusionS
  refine Spec_of mx Γ_ok Tryz.func8 rfl ?_
  conv => whnf
  have hw : IntKind.i64.wrap (left - xs.length) = left - xs.length := wrap_id (by omega) (by omega)
  rw [hw]
  split <;> rename_i h0
  all_goals simp only [decide_eq_true_eq, decide_eq_false_iff_not] at h0
  · conv => whnf
    show ci (-1) = _
    rw [sz1_neg (by omega)]
  conv => whnf
  refine ⟨[(0,0),(1,0),(4,0),(5,0)], fun m s => ∃ (k : Nat) (e f : Int), e = k ∧ m + k = xs.length ∧ f = left - (xs.length : Nat) - (sumB cInclusion (xs.take k) : Nat) ∧ 0 ≤ f ∧
    s = ⟨27, [(0, vInclusionS xs), (1, ci f), (4, ci 0), (5, ci e)], []⟩, xs.length, ⟨0, 0, _, rfl, rfl, by rw [sumB_zero]; omega, by omega, rfl⟩, ?_⟩
  rintro m s ⟨k, _, f, rfl, hm, hf, hf0, rfl⟩
  conv => whnf
  split <;> rename_i h3
  all_goals simp only [decide_eq_true_eq, decide_eq_false_iff_not] at h3
  · conv => whnf
    have hk : k < xs.length := by omega
    have hb := sumB_le (f := cInclusion) hk
    have hat := sumB_at (f := cInclusion) hk
    refine ⟨by omega, rows_len rInclusion_len xs, ?_⟩
    conv => whnf
    refine ⟨_, takeN_rp (k := k) rInclusion_len hk, ?_⟩
    conv => whnf
    refine ⟨_, szInclusion_spec xs[k] f (hqs _ (List.getElem_mem hk)) hf0 (by omega), .inl rfl, .inl ?_⟩
    conv => whnf
    generalize hb1 : decide (sz1 (cInclusion xs[k]) f < 0) = b1
    rcases sz1_dec hb1 with ⟨rfl, hn⟩ | ⟨rfl, hs, hl⟩
    · conv => whnf
      show ci (-1) = _
      rw [sz1_neg (by omega)]
    · rw [hs]
      conv => whnf
      exact ⟨m - 1, by omega, k + 1, _, _, wrap_id (by omega) (by omega), by omega, by omega, by omega, rfl⟩
  · conv => whnf
    have hall := sumB_all (f := cInclusion) (xs := xs) (k := k) (by omega)
    show ci f = _
    rw [sz1_pos (by omega)]
    congr 1
    omega
theorem eqInclusionS_spec (xs : (List (Int × (List Int) × Int × (List Int)))) (h : cInclusionS xs ≤ 1099511627776) : Spec Tryz.prog 18 [vInclusionS xs, vInclusionS xs] (cb true) := by
  unfold cInclusionS at h
  refine Spec_of mx Γ_ok Tryz.func18 rfl ?_
  conv => whnf
  rw [bne_self_eq_false]
  conv => whnf
  refine ⟨[(0,0),(1,0),(4,0),(5,0)], fun m s => ∃ (k : Nat) (e : Int), e = k ∧ m + k = xs.length ∧
    s = ⟨27, [(0, vInclusionS xs), (1, vInclusionS xs), (4, cb false), (5, ci e)], []⟩, xs.length, ⟨0, 0, rfl, rfl, rfl⟩, ?_⟩
  rintro m s ⟨k, _, rfl, hm, rfl⟩
  conv => whnf
  split <;> rename_i h1
  all_goals simp only [decide_eq_true_eq, decide_eq_false_iff_not] at h1
  · conv => whnf
    have hk : k < xs.length := by omega
    have hb := sumB_one (f := cInclusion) hk
    refine ⟨List.range 10, by kernel_rfl, ?_⟩
    conv => whnf
    refine ⟨by omega, rows_len rInclusion_len xs, ?_⟩
    conv => whnf
    refine ⟨_, takeN_rp (k := k) rInclusion_len hk, ?_⟩
    conv => whnf
    refine ⟨by omega, rows_len rInclusion_len xs, ?_⟩
    conv => whnf
    refine ⟨_, takeN_rp (k := k) rInclusion_len hk, ?_⟩
    conv => whnf
    refine ⟨_, eqInclusion_spec xs[k] (by omega), .inl rfl, .inl ?_⟩
    conv => whnf
    exact ⟨m - 1, by omega, k + 1, _, wrap_id (by omega) (by omega), by omega, rfl⟩
  · conv => whnf
    rfl
theorem markInclusionS_spec (xs : (List (Int × (List Int) × Int × (List Int)))) (k : Int) (h : k + (mInclusionS xs : Nat) ≤ 4398046511104) (hc : cInclusionS xs ≤ 1099511627776) (h1 : 0 ≤ k) : SpecR Tryz.prog 22 [wInclusionS xs, ci k] (ci (k + (mInclusionS xs : Nat))) [wInclusionS (kInclusionS xs k), ci k] := by
  unfold mInclusionS at h ⊢
  unfold cInclusionS at hc
  refine SpecL_of mx Γ_ok 2 Tryz.func22 rfl rfl (by omega) ?_
  conv => whnf
  refine ⟨[(0,0),(1,0),(4,0),(5,0)], fun m s => ∃ (i : Nat) (g f : Int) (r : List V), g = i ∧ f = k + (sumB eInclusion (xs.take i) : Nat) ∧ m + i = xs.length ∧ r = rows tInclusion (mkP eInclusion nInclusion xs i k) ∧
    s = ⟨41, [(0, .own 0 4 0 xs.length xs.length none), (1, ci f), (4, ci 0), (5, ci g)], [some ⟨false, r⟩, none]⟩, xs.length, ⟨0, 0, k, _, rfl, by rw [sumB_zero]; omega, rfl, by rw [mkP_zero], rfl⟩, ?_⟩
  rintro m s ⟨i, _, f, _, rfl, hf, hm, rfl, rfl⟩
  conv => whnf
  split <;> rename_i h3
  all_goals simp only [decide_eq_true_eq, decide_eq_false_iff_not] at h3
  · conv => whnf
    have hi : i < xs.length := by omega
    have hb := sumB_le (f := eInclusion) hi
    have hbc := sumB_one (f := cInclusion) hi
    have hat := sumB_at (f := eInclusion) hi
    have hlen0 := mkP_len eInclusion nInclusion (xs := xs) (i := i) k (by omega)
    obtain ⟨ys, hys⟩ : ∃ ys, ys = mkP eInclusion nInclusion xs i k := ⟨_, rfl⟩
    have hlen : ys.length = xs.length := by rw [hys]; exact hlen0
    have hi' : i < ys.length := by omega
    have hyx : ys[i] = xs[i] := by subst hys; exact mkP_at eInclusion nInclusion k hi _
    have he : eInclusion xs[i] = 1 + (xs[i].2.1).length + 1 + (xs[i].2.2.2).length := rfl
    have hce : cInclusion xs[i] = (xs[i].2.1).length + (xs[i].2.2.2).length := rfl
    rw [← hys]
    obtain ⟨ys0, hys0⟩ : ∃ ys', ys' = ys.set i (f, xs[i].2.1, xs[i].2.2.1, xs[i].2.2.2) := ⟨_, rfl⟩
    have hset0 : (rows tInclusion ys).set (0 + i * 4 + 0) (ci (f)) = rows tInclusion ys0 := by rw [hys0]; exact rows_setCell (f := tInclusion) tInclusion_len (d := 0) (by omega) hi' (by rw [hyx]; rfl) (by omega)
    have hlen0 : ys0.length = xs.length := by rw [hys0, List.length_set]; exact hlen
    have hi0 : i < ys0.length := by omega
    have hyx0 : ys0[i] = (f, xs[i].2.1, xs[i].2.2.1, xs[i].2.2.2) := by subst hys0; simp
    refine ⟨by omega, ?_⟩
    conv => whnf
    refine ⟨_, takeN_own (o := 0 + i * 4 + 0) (k := i) (d := 0) (m := 1) (xs := ys) tInclusion_len (by omega) hi' (by omega) rfl, _, hset0, ?_⟩
    conv => whnf
    have hwr0 : IntKind.i64.wrap (f + 1) = f + 1 := wrap_id (by omega) (by omega)
    rw [hwr0]
    obtain ⟨ys1, hys1⟩ : ∃ ys', ys' = ys0.set i (f, mkI (xs[i].2.1).length (f + 1), xs[i].2.2.1, xs[i].2.2.2) := ⟨_, rfl⟩
    have hset1 : (rows tInclusion ys0).set (0 + i * 4 + 1) (intsT (mkI (xs[i].2.1).length (f + 1))) = rows tInclusion ys1 := by rw [hys1]; exact rows_setCell (f := tInclusion) tInclusion_len (d := 1) (by omega) hi0 (by rw [hyx0]; rfl) (by omega)
    have hlen1 : ys1.length = xs.length := by rw [hys1, List.length_set]; exact hlen0
    have hi1 : i < ys1.length := by omega
    have hyx1 : ys1[i] = (f, mkI (xs[i].2.1).length (f + 1), xs[i].2.2.1, xs[i].2.2.2) := by subst hys1; simp
    refine ⟨by omega, ?_⟩
    conv => whnf
    refine ⟨_, takeN_own (o := 0 + i * 4 + 1) (k := i) (d := 1) (m := 1) (xs := ys0) tInclusion_len (by omega) hi0 (by omega) rfl, ?_⟩
    conv => whnf
    refine .inr (.inl ⟨trivial, _, _, _, rows_cell (o := 0 + i * 4 + 1) (k := i) (d := 1) (xs := ys0) tInclusion_len (by omega) hi0 (by rw [hyx0]; rfl), ?_⟩)
    conv => whnf
    refine ⟨_, _, _, markIntS_spec (xs[i].2.1) (f + 1) (by omega) (by omega) (by omega), ?_⟩
    conv => whnf
    refine ⟨_, hset1, .inl ?_⟩
    conv => whnf
    obtain ⟨ys2, hys2⟩ : ∃ ys', ys' = ys1.set i (f, mkI (xs[i].2.1).length (f + 1), f + 1 + ((xs[i].2.1).length : Nat), xs[i].2.2.2) := ⟨_, rfl⟩
    have hset2 : (rows tInclusion ys1).set (0 + i * 4 + 2) (ci (f + 1 + ((xs[i].2.1).length : Nat))) = rows tInclusion ys2 := by rw [hys2]; exact rows_setCell (f := tInclusion) tInclusion_len (d := 2) (by omega) hi1 (by rw [hyx1]; rfl) (by omega)
    have hlen2 : ys2.length = xs.length := by rw [hys2, List.length_set]; exact hlen1
    have hi2 : i < ys2.length := by omega
    have hyx2 : ys2[i] = (f, mkI (xs[i].2.1).length (f + 1), f + 1 + ((xs[i].2.1).length : Nat), xs[i].2.2.2) := by subst hys2; simp
    refine ⟨by omega, ?_⟩
    conv => whnf
    refine ⟨_, takeN_own (o := 0 + i * 4 + 2) (k := i) (d := 2) (m := 1) (xs := ys1) tInclusion_len (by omega) hi1 (by omega) rfl, _, hset2, ?_⟩
    conv => whnf
    have hwr2 : IntKind.i64.wrap (f + 1 + ((xs[i].2.1).length : Nat) + 1) = f + 1 + ((xs[i].2.1).length : Nat) + 1 := wrap_id (by omega) (by omega)
    rw [hwr2]
    obtain ⟨ys3, hys3⟩ : ∃ ys', ys' = ys2.set i (f, mkI (xs[i].2.1).length (f + 1), f + 1 + ((xs[i].2.1).length : Nat), mkI (xs[i].2.2.2).length (f + 1 + ((xs[i].2.1).length : Nat) + 1)) := ⟨_, rfl⟩
    have hset3 : (rows tInclusion ys2).set (0 + i * 4 + 3) (intsT (mkI (xs[i].2.2.2).length (f + 1 + ((xs[i].2.1).length : Nat) + 1))) = rows tInclusion ys3 := by rw [hys3]; exact rows_setCell (f := tInclusion) tInclusion_len (d := 3) (by omega) hi2 (by rw [hyx2]; rfl) (by omega)
    have hlen3 : ys3.length = xs.length := by rw [hys3, List.length_set]; exact hlen2
    have hi3 : i < ys3.length := by omega
    have hyx3 : ys3[i] = (f, mkI (xs[i].2.1).length (f + 1), f + 1 + ((xs[i].2.1).length : Nat), mkI (xs[i].2.2.2).length (f + 1 + ((xs[i].2.1).length : Nat) + 1)) := by subst hys3; simp
    refine ⟨by omega, ?_⟩
    conv => whnf
    refine ⟨_, takeN_own (o := 0 + i * 4 + 3) (k := i) (d := 3) (m := 1) (xs := ys2) tInclusion_len (by omega) hi2 (by omega) rfl, ?_⟩
    conv => whnf
    refine .inr (.inl ⟨trivial, _, _, _, rows_cell (o := 0 + i * 4 + 3) (k := i) (d := 3) (xs := ys2) tInclusion_len (by omega) hi2 (by rw [hyx2]; rfl), ?_⟩)
    conv => whnf
    refine ⟨_, _, _, markIntS_spec (xs[i].2.2.2) (f + 1 + ((xs[i].2.1).length : Nat) + 1) (by omega) (by omega) (by omega), ?_⟩
    conv => whnf
    refine ⟨_, hset3, .inl ?_⟩
    conv => whnf
    refine ⟨m - 1, by omega, i + 1, _, _, _, wrap_id (by omega) (by omega), by omega, by omega, ?_, rfl⟩
    rw [hys3, hys2, hys1, hys0]
    simp only [List.set_set]
    rw [hys, hf]
    exact congrArg _ (mkP_set eInclusion nInclusion k hi)
  · conv => whnf
    have hii : i = xs.length := by omega
    have hall := sumB_all (f := eInclusion) (xs := xs) (k := i) (by omega)
    refine ⟨by show ci _ = ci _; congr 1; omega, ?_⟩
    conv => whnf
    refine ⟨by rw [rows_len tInclusion_len, mkP_len eInclusion nInclusion k (by omega)], ?_⟩
    conv => whnf
    rw [mkP_all eInclusion nInclusion k hii]
    simp only [intsT, mkI_len, mkL_len, wInclusionS, kInclusionS, ci]
theorem closed_wInclusionS (xs : (List (Int × (List Int) × Int × (List Int)))) : closed (wInclusionS xs) := closeds_rows (f := tInclusion) closed_rInclusion xs
theorem mInclusionS_le (xs : (List (Int × (List Int) × Int × (List Int)))) : mInclusionS xs ≤ 4 * cInclusionS xs := by
  unfold mInclusionS cInclusionS
  have := sumB_le4 eInclusion_le xs
  omega
def uInclusionS (xs : (List (Int × (List Int) × Int × (List Int)))) (k : Int) : V := .ro xs.length (rows rInclusion (kInclusionS xs k))
theorem uInclusionS_eq (xs : (List (Int × (List Int) × Int × (List Int)))) (k : Int) : vInclusionS (kInclusionS xs k) = uInclusionS xs k := by
  have : (kInclusionS xs k).length = xs.length := mkL_len _ _ _ _
  simp only [vInclusionS, uInclusionS, this]
end Go.Proofs.YthfjngmbdbocbaaGreatD
