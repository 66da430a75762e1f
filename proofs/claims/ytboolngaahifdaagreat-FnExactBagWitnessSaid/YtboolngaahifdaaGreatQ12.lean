/- Contracts and plain laws of this seat; no condition. -/
import Derived.Test.YtboolngaahifdaaGreatQ11
set_option linter.unusedVariables false
set_option linter.unusedSimpArgs false
set_option maxRecDepth 100000
namespace Go.Proofs.YtboolngaahifdaaGreatD
open Go Go.Proofs
theorem ci_ro (x : Int) : roV (ci x) = ci x := rfl
theorem intsT_ro (x : List Int) : roV (intsT x) = ints x := by simp only [intsT, ints, roV, roVs_ci]
def rSchema (x : (List Int)) : List V := [ints (x)]
def tSchema (x : (List Int)) : List V := [intsT (x)]
def vSchema (x : (List Int)) : V := .agg (rSchema x)
def wSchema (x : (List Int)) : V := .agg (tSchema x)
theorem tSchema_ro (x : (List Int)) : roVs (tSchema x) = rSchema x := by
 simp only [tSchema, rSchema, roVs, intsT_ro]
theorem wSchema_ro (x : (List Int)) : roV (wSchema x) = vSchema x := by simp only [wSchema, vSchema, roV, tSchema_ro]
def cSchema (x : (List Int)) : Nat := (x).length
def mSchema (x : (List Int)) : Nat := (x).length
def kSchema (x : (List Int)) (k : Int) : (List Int) := mkI (x).length (k)
def qSchema (x : (List Int)) : Prop := (x.length ≤ maxLen ∧ ∀ y ∈ x, (Lit.int .i64 y).wf = true)
theorem toSchema_spec (x : (List Int)) (h : cSchema x ≤ 1099511627776) : Spec Tryz.prog 30 [vSchema x] (wSchema x) := by
 unfold cSchema at h
 refine Spec_of mx Γ_ok Tryz.func30 rfl ?_
 conv => whnf
 refine ⟨_, toIntS_spec (x) (by omega), .inl rfl, .inr ?_⟩
 conv => whnf
 exact ⟨by rw [rows_len ciL_len], rfl⟩
theorem szSchema_spec (x : (List Int)) (left : Int) (h : qSchema x) (h1 : 0 ≤ left) (h2 : left ≤ 1099511627776) : Spec Tryz.prog 27 [vSchema x, ci left] (ci (sz1 (cSchema x) left)) := by
 unfold qSchema at h
 unfold cSchema
 have hq0 := h
 refine Spec_of mx Γ_ok Tryz.func27 rfl ?_
 conv => whnf
 refine ⟨_, szIntS_spec (x) (left) (by have := hq0.1; simp only [maxLen] at this; omega) (by omega) (by omega), .inl rfl, .inl ?_⟩
 conv => whnf
 generalize hb0 : decide (sz1 ((x).length) (left) < 0) = b0
 rcases sz1_dec hb0 with ⟨rfl, hn0⟩ | ⟨rfl, hs0, hl0⟩
 ·conv => whnf
  show ci (-1) = _
  rw [sz1_neg (by omega)]
 rw [hs0]
 conv => whnf
 show ci (left - ((x).length : Nat)) = _
 first | rfl | (rw [sz1_pos (by omega)]; congr 1; omega)
theorem eqSchema_spec (x : (List Int)) (h : cSchema x ≤ 1099511627776) : Spec Tryz.prog 34 [vSchema x, vSchema x] (cb true) := by
 unfold cSchema at h
 refine Spec_of mx Γ_ok Tryz.func34 rfl ?_
 conv => whnf
 refine ⟨_, eqIntS_refl (x) (by omega), .inl rfl, .inl ?_⟩
 conv => whnf
 rfl
theorem markSchema_spec (x : (List Int)) (k : Int) (h : k + (mSchema x : Nat) ≤ 4398046511104) (hc : cSchema x ≤ 1099511627776) (h1 : 0 ≤ k) : SpecR Tryz.prog 36 [wSchema x, ci k] (ci (k + (mSchema x : Nat))) [wSchema (kSchema x k), ci k] := by
 unfold mSchema at h ⊢
 unfold cSchema at hc
 refine SpecL_of mx Γ_ok 2 Tryz.func36 rfl rfl (by omega) ?_
 conv => whnf
 refine .inr (.inl ⟨by rw [rows_len ciL_len], ?_⟩)
 conv => whnf
 refine ⟨_, _, _, markIntS_spec (x) (k) (by omega) (by omega) (by omega), ?_⟩
 conv => whnf
 refine .inl ?_
 conv => whnf
 refine ⟨by first | rfl | (show ci _ = ci _; congr 1; omega), ?_⟩
 conv => whnf
 refine ⟨by rw [rows_len ciL_len, mkI_len], ?_⟩
 conv => whnf
 simp only [intsT, mkI_len, mkL_len, wSchema, tSchema, kSchema, ci]
theorem mSchema_le (x : (List Int)) : mSchema x ≤ 4 * cSchema x := by
 unfold mSchema cSchema
 omega
def rAtom (x : (Int × (List Int))) : List V := [ci (x.1), ints (x.2)]
def tAtom (x : (Int × (List Int))) : List V := [ci (x.1), intsT (x.2)]
def vAtom (x : (Int × (List Int))) : V := .agg (rAtom x)
def wAtom (x : (Int × (List Int))) : V := .agg (tAtom x)
theorem rAtom_len (x : (Int × (List Int))) : (rAtom x).length = 2 := rfl
theorem tAtom_len (x : (Int × (List Int))) : (tAtom x).length = 2 := rfl
theorem tAtom_ro (x : (Int × (List Int))) : roVs (tAtom x) = rAtom x := by
 simp only [tAtom, rAtom, roVs, ci_ro, intsT_ro]
def cAtom (x : (Int × (List Int))) : Nat := (x.2).length
def eAtom (x : (Int × (List Int))) : Nat := 1 + (x.2).length
def nAtom (x : (Int × (List Int))) (k : Int) : (Int × (List Int)) := (k, mkI (x.2).length (k + 1))
def qAtom (x : (Int × (List Int))) : Prop := (Lit.int .i64 x.1).wf = true ∧ (x.2.length ≤ maxLen ∧ ∀ y ∈ x.2, (Lit.int .i64 y).wf = true)
theorem toAtom_spec (x : (Int × (List Int))) (h : cAtom x ≤ 1099511627776) : Spec Tryz.prog 170 [vAtom x] (wAtom x) := by
 unfold cAtom at h
 refine Spec_of mx Γ_ok Tryz.func170 rfl ?_
 conv => whnf
 refine ⟨_, toIntS_spec (x.2) (by omega), .inl rfl, .inr ?_⟩
 conv => whnf
 exact ⟨by rw [rows_len ciL_len], rfl⟩
theorem szAtom_spec (x : (Int × (List Int))) (left : Int) (h : qAtom x) (h1 : 0 ≤ left) (h2 : left ≤ 1099511627776) : Spec Tryz.prog 167 [vAtom x, ci left] (ci (sz1 (cAtom x) left)) := by
 unfold qAtom at h
 unfold cAtom
 obtain ⟨hq0, hq1⟩ := h
 refine Spec_of mx Γ_ok Tryz.func167 rfl ?_
 conv => whnf
 refine ⟨_, szIntS_spec (x.2) (left) (by have := hq1.1; simp only [maxLen] at this; omega) (by omega) (by omega), .inl rfl, .inl ?_⟩
 conv => whnf
 generalize hb0 : decide (sz1 ((x.2).length) (left) < 0) = b0
 rcases sz1_dec hb0 with ⟨rfl, hn0⟩ | ⟨rfl, hs0, hl0⟩
 ·conv => whnf
  show ci (-1) = _
  rw [sz1_neg (by omega)]
 rw [hs0]
 conv => whnf
 show ci (left - ((x.2).length : Nat)) = _
 first | rfl | (rw [sz1_pos (by omega)]; congr 1; omega)
theorem eqAtom_spec (x : (Int × (List Int))) (h : cAtom x ≤ 1099511627776) : Spec Tryz.prog 179 [vAtom x, vAtom x] (cb true) := by
 unfold cAtom at h
 refine Spec_of mx Γ_ok Tryz.func179 rfl ?_
 conv => whnf
 rw [bne_self_eq_false]
 conv => whnf
 refine ⟨_, eqIntS_refl (x.2) (by omega), .inl rfl, .inl ?_⟩
 conv => whnf
 rfl
theorem eAtom_le (x : (Int × (List Int))) : eAtom x ≤ 2 + 4 * cAtom x := by
 unfold eAtom cAtom
 omega
def vAtomS (xs : (List (Int × (List Int)))) : V := .ro xs.length (rows rAtom xs)
def wAtomS (xs : (List (Int × (List Int)))) : V := .tr 2 xs.length (rows tAtom xs)
theorem wAtomS_ro (xs : (List (Int × (List Int)))) : roV (wAtomS xs) = vAtomS xs := by simp only [wAtomS, vAtomS, roV, roVs_rows tAtom_ro]
def cAtomS (xs : (List (Int × (List Int)))) : Nat := xs.length + sumB cAtom xs
def mAtomS (xs : (List (Int × (List Int)))) : Nat := sumB eAtom xs
def kAtomS (xs : (List (Int × (List Int)))) (k : Int) : (List (Int × (List Int))) := mkL eAtom nAtom xs k
def qAtomS (xs : (List (Int × (List Int)))) : Prop := xs.length ≤ maxLen ∧ ∀ y ∈ xs, qAtom y
theorem toAtomS_spec (xs : (List (Int × (List Int)))) (h : cAtomS xs ≤ 1099511627776) : Spec Tryz.prog 102 [vAtomS xs] (wAtomS xs) := by
 unfold cAtomS at h
 refine Spec_of mx Γ_ok Tryz.func102 rfl ?_
 conv => whnf
 refine ⟨by omega, _, repl_rows (f := optR [ci 0, cnil] tAtom) (d := none) rfl _, ?_⟩
 conv => whnf
 refine ⟨[(0,0),(2,0),(3,0),(4,0)], fun m s => ∃ (k : Nat) (e : Int) (r : List V), e = k ∧ m + k = xs.length ∧ r = rows (optR [ci 0, cnil] tAtom) (doneO xs k) ∧
  s = ⟨23, [(0, vAtomS xs), (2, cnil), (3, .own 0 2 0 xs.length xs.length none), (4, ci e)], [some ⟨false, r⟩]⟩, xs.length, ⟨0, 0, _, rfl, rfl, by rw [doneO_zero]; rfl, rfl⟩, ?_⟩
 rintro m s ⟨k, _, _, rfl, hm, rfl, rfl⟩
 conv => whnf
 split <;> rename_i h1
 all_goals simp only [decide_eq_true_eq, decide_eq_false_iff_not] at h1
 ·conv => whnf
  have hk : k < xs.length := by omega
  have hb := sumB_one (f := cAtom) hk
  have hlen := optR_len (z := [ci 0, cnil]) (f := tAtom) (n := 2) rfl tAtom_len
  refine ⟨by omega, rows_len rAtom_len xs, ?_⟩
  conv => whnf
  refine ⟨_, takeN_rp (k := k) rAtom_len hk, ?_⟩
  conv => whnf
  refine ⟨_, toAtom_spec xs[k] (by omega), .inl rfl, .inr ?_⟩
  conv => whnf
  refine ⟨by omega, ?_⟩
  conv => whnf
  refine ⟨_, takeN_own (k := k) (d := 0) (m := 2) (xs := doneO xs k) hlen (Nat.zero_add _) (by rw [doneO_len (by omega)]; exact hk) (by omega) rfl, ?_⟩
  conv => whnf
  refine ⟨by rw [rows_len ciL_len], ?_⟩
  conv => whnf
  refine ⟨by have := rows_len hlen (doneO xs k); rw [doneO_len (by omega)] at this; have h5 : (k + 1) * 2 ≤ xs.length * 2 := Nat.mul_le_mul_right _ hk; show 0 + k * 2 + 2 ≤ _; omega, _, (congrArg (fun o => setC (rows (optR [ci 0, cnil] tAtom) (doneO xs k)) o (tAtom xs[k])) (Nat.zero_add _)).trans (setC_rows hlen (by omega) (by rw [doneO_len (by omega)]; exact hk) (some xs[k])), ?_⟩
  conv => whnf
  exact ⟨m - 1, by omega, k + 1, _, _, wrap_id (by omega) (by omega), by omega, by exact congrArg _ (doneO_set hk), rfl⟩
 ·conv => whnf
  have hkk : k = xs.length := by omega
  refine ⟨?_, ?_⟩
  ·rw [doneO_all hkk, rows_len tAtom_len]
  ·rw [doneO_all hkk]
   rfl
theorem szAtomS_spec (xs : (List (Int × (List Int)))) (left : Int) (h : qAtomS xs) (h1 : 0 ≤ left) (h2 : left ≤ 1099511627776) : Spec Tryz.prog 97 [vAtomS xs, ci left] (ci (sz1 (cAtomS xs) left)) := by
 obtain ⟨hq, hqs⟩ := h
 simp only [maxLen] at hq
 unfold cAtomS
 refine Spec_of mx Γ_ok Tryz.func97 rfl ?_
 conv => whnf
 have hw : IntKind.i64.wrap (left - xs.length) = left - xs.length := wrap_id (by omega) (by omega)
 rw [hw]
 split <;> rename_i h0
 all_goals simp only [decide_eq_true_eq, decide_eq_false_iff_not] at h0
 ·conv => whnf
  show ci (-1) = _
  rw [sz1_neg (by omega)]
 conv => whnf
 refine ⟨[(0,0),(1,0),(4,0),(5,0)], fun m s => ∃ (k : Nat) (e f : Int), e = k ∧ m + k = xs.length ∧ f = left - (xs.length : Nat) - (sumB cAtom (xs.take k) : Nat) ∧ 0 ≤ f ∧
  s = ⟨27, [(0, vAtomS xs), (1, ci f), (4, ci 0), (5, ci e)], []⟩, xs.length, ⟨0, 0, _, rfl, rfl, by rw [sumB_zero]; omega, by omega, rfl⟩, ?_⟩
 rintro m s ⟨k, _, f, rfl, hm, hf, hf0, rfl⟩
 conv => whnf
 split <;> rename_i h3
 all_goals simp only [decide_eq_true_eq, decide_eq_false_iff_not] at h3
 ·conv => whnf
  have hk : k < xs.length := by omega
  have hb := sumB_le (f := cAtom) hk
  have hat := sumB_at (f := cAtom) hk
  refine ⟨by omega, rows_len rAtom_len xs, ?_⟩
  conv => whnf
  refine ⟨_, takeN_rp (k := k) rAtom_len hk, ?_⟩
  conv => whnf
  refine ⟨_, szAtom_spec xs[k] f (hqs _ (List.getElem_mem hk)) hf0 (by omega), .inl rfl, .inl ?_⟩
  conv => whnf
  generalize hb1 : decide (sz1 (cAtom xs[k]) f < 0) = b1
  rcases sz1_dec hb1 with ⟨rfl, hn⟩ | ⟨rfl, hs, hl⟩
  ·conv => whnf
   show ci (-1) = _
   rw [sz1_neg (by omega)]
  ·rw [hs]
   conv => whnf
   exact ⟨m - 1, by omega, k + 1, _, _, wrap_id (by omega) (by omega), by omega, by omega, by omega, rfl⟩
 ·conv => whnf
  have hall := sumB_all (f := cAtom) (xs := xs) (k := k) (by omega)
  show ci f = _
  rw [sz1_pos (by omega)]
  congr 1
  omega
theorem eqAtomS_spec (xs : (List (Int × (List Int)))) (h : cAtomS xs ≤ 1099511627776) : Spec Tryz.prog 110 [vAtomS xs, vAtomS xs] (cb true) := by
 unfold cAtomS at h
 refine Spec_of mx Γ_ok Tryz.func110 rfl ?_
 conv => whnf
 rw [bne_self_eq_false]
 conv => whnf
 refine ⟨[(0,0),(1,0),(4,0),(5,0)], fun m s => ∃ (k : Nat) (e : Int), e = k ∧ m + k = xs.length ∧
  s = ⟨27, [(0, vAtomS xs), (1, vAtomS xs), (4, cb false), (5, ci e)], []⟩, xs.length, ⟨0, 0, rfl, rfl, rfl⟩, ?_⟩
 rintro m s ⟨k, _, rfl, hm, rfl⟩
 conv => whnf
 split <;> rename_i h1
 all_goals simp only [decide_eq_true_eq, decide_eq_false_iff_not] at h1
 ·conv => whnf
  have hk : k < xs.length := by omega
  have hb := sumB_one (f := cAtom) hk
  refine ⟨List.range 10, by kernel_rfl, ?_⟩
  conv => whnf
  refine ⟨by omega, rows_len rAtom_len xs, ?_⟩
  conv => whnf
  refine ⟨_, takeN_rp (k := k) rAtom_len hk, ?_⟩
  conv => whnf
  refine ⟨by omega, rows_len rAtom_len xs, ?_⟩
  conv => whnf
  refine ⟨_, takeN_rp (k := k) rAtom_len hk, ?_⟩
  conv => whnf
  refine ⟨_, eqAtom_spec xs[k] (by omega), .inl rfl, .inl ?_⟩
  conv => whnf
  exact ⟨m - 1, by omega, k + 1, _, wrap_id (by omega) (by omega), by omega, rfl⟩
 ·conv => whnf
  rfl
theorem markAtomS_spec (xs : (List (Int × (List Int)))) (k : Int) (h : k + (mAtomS xs : Nat) ≤ 4398046511104) (hc : cAtomS xs ≤ 1099511627776) (h1 : 0 ≤ k) : SpecR Tryz.prog 112 [wAtomS xs, ci k] (ci (k + (mAtomS xs : Nat))) [wAtomS (kAtomS xs k), ci k] := by
 unfold mAtomS at h ⊢
 unfold cAtomS at hc
 refine SpecL_of mx Γ_ok 2 Tryz.func112 rfl rfl (by omega) ?_
 conv => whnf
 refine ⟨[(0,0),(1,0),(4,0),(5,0)], fun m s => ∃ (i : Nat) (g f : Int) (r : List V), g = i ∧ f = k + (sumB eAtom (xs.take i) : Nat) ∧ m + i = xs.length ∧ r = rows tAtom (mkP eAtom nAtom xs i k) ∧
  s = ⟨27, [(0, .own 0 2 0 xs.length xs.length none), (1, ci f), (4, ci 0), (5, ci g)], [some ⟨false, r⟩, none]⟩, xs.length, ⟨0, 0, k, _, rfl, by rw [sumB_zero]; omega, rfl, by rw [mkP_zero], rfl⟩, ?_⟩
 rintro m s ⟨i, _, f, _, rfl, hf, hm, rfl, rfl⟩
 conv => whnf
 split <;> rename_i h3
 all_goals simp only [decide_eq_true_eq, decide_eq_false_iff_not] at h3
 ·conv => whnf
  have hi : i < xs.length := by omega
  have hb := sumB_le (f := eAtom) hi
  have hbc := sumB_one (f := cAtom) hi
  have hat := sumB_at (f := eAtom) hi
  have hlen0 := mkP_len eAtom nAtom (xs := xs) (i := i) k (by omega)
  obtain ⟨ys, hys⟩ : ∃ ys, ys = mkP eAtom nAtom xs i k := ⟨_, rfl⟩
  have hlen : ys.length = xs.length := by rw [hys]; exact hlen0
  have hi' : i < ys.length := by omega
  have hyx : ys[i] = xs[i] := by subst hys; exact mkP_at eAtom nAtom k hi _
  have he : eAtom xs[i] = 1 + (xs[i].2).length := rfl
  have hce : cAtom xs[i] = (xs[i].2).length := rfl
  rw [← hys]
  obtain ⟨ys0, hys0⟩ : ∃ ys', ys' = ys.set i (f, xs[i].2) := ⟨_, rfl⟩
  have hset0 : (rows tAtom ys).set (0 + i * 2 + 0) (ci (f)) = rows tAtom ys0 := by rw [hys0]; exact rows_setCell (f := tAtom) tAtom_len (d := 0) (by omega) hi' (by rw [hyx]; rfl) (by omega)
  have hlen0 : ys0.length = xs.length := by rw [hys0, List.length_set]; exact hlen
  have hi0 : i < ys0.length := by omega
  have hyx0 : ys0[i] = (f, xs[i].2) := by subst hys0; simp
  refine ⟨by omega, ?_⟩
  conv => whnf
  refine ⟨_, takeN_own (o := 0 + i * 2 + 0) (k := i) (d := 0) (m := 1) (xs := ys) tAtom_len (by omega) hi' (by omega) rfl, _, hset0, ?_⟩
  conv => whnf
  have hwr0 : IntKind.i64.wrap (f + 1) = f + 1 := wrap_id (by omega) (by omega)
  rw [hwr0]
  obtain ⟨ys1, hys1⟩ : ∃ ys', ys' = ys0.set i (f, mkI (xs[i].2).length (f + 1)) := ⟨_, rfl⟩
  have hset1 : (rows tAtom ys0).set (0 + i * 2 + 1) (intsT (mkI (xs[i].2).length (f + 1))) = rows tAtom ys1 := by rw [hys1]; exact rows_setCell (f := tAtom) tAtom_len (d := 1) (by omega) hi0 (by rw [hyx0]; rfl) (by omega)
  have hlen1 : ys1.length = xs.length := by rw [hys1, List.length_set]; exact hlen0
  have hi1 : i < ys1.length := by omega
  have hyx1 : ys1[i] = (f, mkI (xs[i].2).length (f + 1)) := by subst hys1; simp
  refine ⟨by omega, ?_⟩
  conv => whnf
  refine ⟨_, takeN_own (o := 0 + i * 2 + 1) (k := i) (d := 1) (m := 1) (xs := ys0) tAtom_len (by omega) hi0 (by omega) rfl, ?_⟩
  conv => whnf
  refine .inr (.inl ⟨trivial, _, _, _, rows_cell (o := 0 + i * 2 + 1) (k := i) (d := 1) (xs := ys0) tAtom_len (by omega) hi0 (by rw [hyx0]; rfl), ?_⟩)
  conv => whnf
  refine ⟨_, _, _, markIntS_spec (xs[i].2) (f + 1) (by omega) (by omega) (by omega), ?_⟩
  conv => whnf
  refine ⟨_, hset1, .inl ?_⟩
  conv => whnf
  refine ⟨m - 1, by omega, i + 1, _, _, _, wrap_id (by omega) (by omega), by omega, by omega, ?_, rfl⟩
  rw [hys1, hys0]
  simp only [List.set_set]
  rw [hys, hf]
  exact congrArg _ (mkP_set eAtom nAtom k hi)
 ·conv => whnf
  have hii : i = xs.length := by omega
  have hall := sumB_all (f := eAtom) (xs := xs) (k := i) (by omega)
  refine ⟨by show ci _ = ci _; congr 1; omega, ?_⟩
  conv => whnf
  refine ⟨by rw [rows_len tAtom_len, mkP_len eAtom nAtom k (by omega)], ?_⟩
  conv => whnf
  rw [mkP_all eAtom nAtom k hii]
  simp only [intsT, mkI_len, mkL_len, wAtomS, kAtomS, ci]
theorem mAtomS_le (xs : (List (Int × (List Int)))) : mAtomS xs ≤ 4 * cAtomS xs := by
 unfold mAtomS cAtomS
 have := sumB_le4 eAtom_le xs
 omega
def rQuery (x : ((List Int) × (List (Int × (List Int))))) : List V := [ints (x.1), vAtomS (x.2)]
def tQuery (x : ((List Int) × (List (Int × (List Int))))) : List V := [intsT (x.1), wAtomS (x.2)]
def vQuery (x : ((List Int) × (List (Int × (List Int))))) : V := .agg (rQuery x)
def wQuery (x : ((List Int) × (List (Int × (List Int))))) : V := .agg (tQuery x)
theorem tQuery_ro (x : ((List Int) × (List (Int × (List Int))))) : roVs (tQuery x) = rQuery x := by
 simp only [tQuery, rQuery, roVs, intsT_ro, wAtomS_ro]
theorem wQuery_ro (x : ((List Int) × (List (Int × (List Int))))) : roV (wQuery x) = vQuery x := by simp only [wQuery, vQuery, roV, tQuery_ro]
def cQuery (x : ((List Int) × (List (Int × (List Int))))) : Nat := (x.1).length + cAtomS (x.2)
def mQuery (x : ((List Int) × (List (Int × (List Int))))) : Nat := (x.1).length + mAtomS (x.2)
def kQuery (x : ((List Int) × (List (Int × (List Int))))) (k : Int) : ((List Int) × (List (Int × (List Int)))) := (mkI (x.1).length (k), kAtomS (x.2) (k + ((x.1).length : Nat)))
def qQuery (x : ((List Int) × (List (Int × (List Int))))) : Prop := (x.1.length ≤ maxLen ∧ ∀ y ∈ x.1, (Lit.int .i64 y).wf = true) ∧ qAtomS x.2
theorem toQuery_spec (x : ((List Int) × (List (Int × (List Int))))) (h : cQuery x ≤ 1099511627776) : Spec Tryz.prog 31 [vQuery x] (wQuery x) := by
 unfold cQuery at h
 refine Spec_of mx Γ_ok Tryz.func31 rfl ?_
 conv => whnf
 refine ⟨_, toIntS_spec (x.1) (by omega), .inl rfl, .inr ?_⟩
 conv => whnf
 refine ⟨_, toAtomS_spec (x.2) (by omega), .inl rfl, .inr ?_⟩
 conv => whnf
 exact ⟨by rw [rows_len ciL_len], by rw [rows_len tAtom_len], rfl⟩
theorem szQuery_spec (x : ((List Int) × (List (Int × (List Int))))) (left : Int) (h : qQuery x) (h1 : 0 ≤ left) (h2 : left ≤ 1099511627776) : Spec Tryz.prog 28 [vQuery x, ci left] (ci (sz1 (cQuery x) left)) := by
 unfold qQuery at h
 unfold cQuery
 obtain ⟨hq0, hq1⟩ := h
 refine Spec_of mx Γ_ok Tryz.func28 rfl ?_
 conv => whnf
 refine ⟨_, szIntS_spec (x.1) (left) (by have := hq0.1; simp only [maxLen] at this; omega) (by omega) (by omega), .inl rfl, .inl ?_⟩
 conv => whnf
 generalize hb0 : decide (sz1 ((x.1).length) (left) < 0) = b0
 rcases sz1_dec hb0 with ⟨rfl, hn0⟩ | ⟨rfl, hs0, hl0⟩
 ·conv => whnf
  show ci (-1) = _
  rw [sz1_neg (by omega)]
 rw [hs0]
 conv => whnf
 refine ⟨_, szAtomS_spec (x.2) (left - ((x.1).length : Nat)) hq1 (by omega) (by omega), .inl rfl, .inl ?_⟩
 conv => whnf
 generalize hb1 : decide (sz1 (cAtomS (x.2)) (left - ((x.1).length : Nat)) < 0) = b1
 rcases sz1_dec hb1 with ⟨rfl, hn1⟩ | ⟨rfl, hs1, hl1⟩
 ·conv => whnf
  show ci (-1) = _
  rw [sz1_neg (by omega)]
 rw [hs1]
 conv => whnf
 show ci (left - ((x.1).length : Nat) - (cAtomS (x.2) : Nat)) = _
 first | rfl | (rw [sz1_pos (by omega)]; congr 1; omega)
theorem eqQuery_spec (x : ((List Int) × (List (Int × (List Int))))) (h : cQuery x ≤ 1099511627776) : Spec Tryz.prog 35 [vQuery x, vQuery x] (cb true) := by
 unfold cQuery at h
 refine Spec_of mx Γ_ok Tryz.func35 rfl ?_
 conv => whnf
 refine ⟨_, eqIntS_refl (x.1) (by omega), .inl rfl, .inl ?_⟩
 conv => whnf
 refine ⟨_, eqAtomS_spec (x.2) (by omega), .inl rfl, .inl ?_⟩
 conv => whnf
 rfl
theorem markQuery_spec (x : ((List Int) × (List (Int × (List Int))))) (k : Int) (h : k + (mQuery x : Nat) ≤ 4398046511104) (hc : cQuery x ≤ 1099511627776) (h1 : 0 ≤ k) : SpecR Tryz.prog 37 [wQuery x, ci k] (ci (k + (mQuery x : Nat))) [wQuery (kQuery x k), ci k] := by
 unfold mQuery at h ⊢
 unfold cQuery at hc
 refine SpecL_of mx Γ_ok 3 Tryz.func37 rfl rfl (by omega) ?_
 conv => whnf
 refine .inr (.inl ⟨by rw [rows_len ciL_len], ?_⟩)
 conv => whnf
 refine ⟨_, _, _, markIntS_spec (x.1) (k) (by omega) (by omega) (by omega), ?_⟩
 conv => whnf
 refine .inl ?_
 conv => whnf
 refine .inr (.inl ⟨by rw [rows_len tAtom_len], ?_⟩)
 conv => whnf
 refine ⟨_, _, _, markAtomS_spec (x.2) (k + ((x.1).length : Nat)) (by omega) (by omega) (by omega), ?_⟩
 conv => whnf
 refine .inl ?_
 conv => whnf
 refine ⟨by first | rfl | (show ci _ = ci _; congr 1; omega), ?_⟩
 conv => whnf
 refine ⟨by rw [rows_len ciL_len, mkI_len], ?_⟩
 conv => whnf
 refine ⟨by rw [rows_len tAtom_len]; exact congrArg (· * 2) (mkL_len _ _ _ _), ?_⟩
 conv => whnf
 simp only [intsT, mkI_len, mkL_len, wQuery, tQuery, kQuery, wAtomS, kAtomS, ci]
theorem mQuery_le (x : ((List Int) × (List (Int × (List Int))))) : mQuery x ≤ 4 * cQuery x := by
 unfold mQuery cQuery
 have h1 := mAtomS_le (x.2)
 omega
def rFact (x : (Int × (List Int))) : List V := [ci (x.1), ints (x.2)]
def tFact (x : (Int × (List Int))) : List V := [ci (x.1), intsT (x.2)]
def vFact (x : (Int × (List Int))) : V := .agg (rFact x)
def wFact (x : (Int × (List Int))) : V := .agg (tFact x)
theorem rFact_len (x : (Int × (List Int))) : (rFact x).length = 2 := rfl
theorem tFact_len (x : (Int × (List Int))) : (tFact x).length = 2 := rfl
theorem tFact_ro (x : (Int × (List Int))) : roVs (tFact x) = rFact x := by
 simp only [tFact, rFact, roVs, ci_ro, intsT_ro]
def cFact (x : (Int × (List Int))) : Nat := (x.2).length
def eFact (x : (Int × (List Int))) : Nat := 1 + (x.2).length
def nFact (x : (Int × (List Int))) (k : Int) : (Int × (List Int)) := (k, mkI (x.2).length (k + 1))
theorem eqFact_spec (x : (Int × (List Int))) (h : cFact x ≤ 1099511627776) : Spec Tryz.prog 108 [vFact x, vFact x] (cb true) := by
 unfold cFact at h
 refine Spec_of mx Γ_ok Tryz.func108 rfl ?_
 conv => whnf
 rw [bne_self_eq_false]
 conv => whnf
 refine ⟨_, eqIntS_refl (x.2) (by omega), .inl rfl, .inl ?_⟩
 conv => whnf
 rfl
theorem closed_rFact (x : (Int × (List Int))) : closeds (tFact x) := ⟨trivial, closeds_rows (f := ciL) (fun _ => ⟨trivial, trivial⟩) _, trivial⟩
theorem eFact_le (x : (Int × (List Int))) : eFact x ≤ 2 + 4 * cFact x := by
 unfold eFact cFact
 omega
def rCounted (x : ((List Int) × Int)) : List V := [ints (x.1), ci (x.2)]
def tCounted (x : ((List Int) × Int)) : List V := [intsT (x.1), ci (x.2)]
def vCounted (x : ((List Int) × Int)) : V := .agg (rCounted x)
theorem rCounted_len (x : ((List Int) × Int)) : (rCounted x).length = 2 := rfl
theorem tCounted_len (x : ((List Int) × Int)) : (tCounted x).length = 2 := rfl
theorem tCounted_ro (x : ((List Int) × Int)) : roVs (tCounted x) = rCounted x := by
 simp only [tCounted, rCounted, roVs, ci_ro, intsT_ro]
def cCounted (x : ((List Int) × Int)) : Nat := (x.1).length
def vFactS (xs : (List (Int × (List Int)))) : V := .ro xs.length (rows rFact xs)
def wFactS (xs : (List (Int × (List Int)))) : V := .tr 2 xs.length (rows tFact xs)
theorem wFactS_ro (xs : (List (Int × (List Int)))) : roV (wFactS xs) = vFactS xs := by simp only [wFactS, vFactS, roV, roVs_rows tFact_ro]
def cFactS (xs : (List (Int × (List Int)))) : Nat := xs.length + sumB cFact xs
def mFactS (xs : (List (Int × (List Int)))) : Nat := sumB eFact xs
def kFactS (xs : (List (Int × (List Int)))) (k : Int) : (List (Int × (List Int))) := mkL eFact nFact xs k
theorem eqFactS_spec (xs : (List (Int × (List Int)))) (h : cFactS xs ≤ 1099511627776) : Spec Tryz.prog 33 [vFactS xs, vFactS xs] (cb true) := by
 unfold cFactS at h
 refine Spec_of mx Γ_ok Tryz.func33 rfl ?_
 conv => whnf
 rw [bne_self_eq_false]
 conv => whnf
 refine ⟨[(0,0),(1,0),(4,0),(5,0)], fun m s => ∃ (k : Nat) (e : Int), e = k ∧ m + k = xs.length ∧
  s = ⟨27, [(0, vFactS xs), (1, vFactS xs), (4, cb false), (5, ci e)], []⟩, xs.length, ⟨0, 0, rfl, rfl, rfl⟩, ?_⟩
 rintro m s ⟨k, _, rfl, hm, rfl⟩
 conv => whnf
 split <;> rename_i h1
 all_goals simp only [decide_eq_true_eq, decide_eq_false_iff_not] at h1
 ·conv => whnf
  have hk : k < xs.length := by omega
  have hb := sumB_one (f := cFact) hk
  refine ⟨List.range 10, by kernel_rfl, ?_⟩
  conv => whnf
  refine ⟨by omega, rows_len rFact_len xs, ?_⟩
  conv => whnf
  refine ⟨_, takeN_rp (k := k) rFact_len hk, ?_⟩
  conv => whnf
  refine ⟨by omega, rows_len rFact_len xs, ?_⟩
  conv => whnf
  refine ⟨_, takeN_rp (k := k) rFact_len hk, ?_⟩
  conv => whnf
  refine ⟨_, eqFact_spec xs[k] (by omega), .inl rfl, .inl ?_⟩
  conv => whnf
  exact ⟨m - 1, by omega, k + 1, _, wrap_id (by omega) (by omega), by omega, rfl⟩
 ·conv => whnf
  rfl
theorem markFactS_spec (xs : (List (Int × (List Int)))) (k : Int) (h : k + (mFactS xs : Nat) ≤ 4398046511104) (hc : cFactS xs ≤ 1099511627776) (h1 : 0 ≤ k) : SpecR Tryz.prog 38 [wFactS xs, ci k] (ci (k + (mFactS xs : Nat))) [wFactS (kFactS xs k), ci k] := by
 unfold mFactS at h ⊢
 unfold cFactS at hc
 refine SpecL_of mx Γ_ok 2 Tryz.func38 rfl rfl (by omega) ?_
 conv => whnf
 refine ⟨[(0,0),(1,0),(4,0),(5,0)], fun m s => ∃ (i : Nat) (g f : Int) (r : List V), g = i ∧ f = k + (sumB eFact (xs.take i) : Nat) ∧ m + i = xs.length ∧ r = rows tFact (mkP eFact nFact xs i k) ∧
  s = ⟨27, [(0, .own 0 2 0 xs.length xs.length none), (1, ci f), (4, ci 0), (5, ci g)], [some ⟨false, r⟩, none]⟩, xs.length, ⟨0, 0, k, _, rfl, by rw [sumB_zero]; omega, rfl, by rw [mkP_zero], rfl⟩, ?_⟩
 rintro m s ⟨i, _, f, _, rfl, hf, hm, rfl, rfl⟩
 conv => whnf
 split <;> rename_i h3
 all_goals simp only [decide_eq_true_eq, decide_eq_false_iff_not] at h3
 ·conv => whnf
  have hi : i < xs.length := by omega
  have hb := sumB_le (f := eFact) hi
  have hbc := sumB_one (f := cFact) hi
  have hat := sumB_at (f := eFact) hi
  have hlen0 := mkP_len eFact nFact (xs := xs) (i := i) k (by omega)
  obtain ⟨ys, hys⟩ : ∃ ys, ys = mkP eFact nFact xs i k := ⟨_, rfl⟩
  have hlen : ys.length = xs.length := by rw [hys]; exact hlen0
  have hi' : i < ys.length := by omega
  have hyx : ys[i] = xs[i] := by subst hys; exact mkP_at eFact nFact k hi _
  have he : eFact xs[i] = 1 + (xs[i].2).length := rfl
  have hce : cFact xs[i] = (xs[i].2).length := rfl
  rw [← hys]
  obtain ⟨ys0, hys0⟩ : ∃ ys', ys' = ys.set i (f, xs[i].2) := ⟨_, rfl⟩
  have hset0 : (rows tFact ys).set (0 + i * 2 + 0) (ci (f)) = rows tFact ys0 := by rw [hys0]; exact rows_setCell (f := tFact) tFact_len (d := 0) (by omega) hi' (by rw [hyx]; rfl) (by omega)
  have hlen0 : ys0.length = xs.length := by rw [hys0, List.length_set]; exact hlen
  have hi0 : i < ys0.length := by omega
  have hyx0 : ys0[i] = (f, xs[i].2) := by subst hys0; simp
  refine ⟨by omega, ?_⟩
  conv => whnf
  refine ⟨_, takeN_own (o := 0 + i * 2 + 0) (k := i) (d := 0) (m := 1) (xs := ys) tFact_len (by omega) hi' (by omega) rfl, _, hset0, ?_⟩
  conv => whnf
  have hwr0 : IntKind.i64.wrap (f + 1) = f + 1 := wrap_id (by omega) (by omega)
  rw [hwr0]
  obtain ⟨ys1, hys1⟩ : ∃ ys', ys' = ys0.set i (f, mkI (xs[i].2).length (f + 1)) := ⟨_, rfl⟩
  have hset1 : (rows tFact ys0).set (0 + i * 2 + 1) (intsT (mkI (xs[i].2).length (f + 1))) = rows tFact ys1 := by rw [hys1]; exact rows_setCell (f := tFact) tFact_len (d := 1) (by omega) hi0 (by rw [hyx0]; rfl) (by omega)
  have hlen1 : ys1.length = xs.length := by rw [hys1, List.length_set]; exact hlen0
  have hi1 : i < ys1.length := by omega
  have hyx1 : ys1[i] = (f, mkI (xs[i].2).length (f + 1)) := by subst hys1; simp
  refine ⟨by omega, ?_⟩
  conv => whnf
  refine ⟨_, takeN_own (o := 0 + i * 2 + 1) (k := i) (d := 1) (m := 1) (xs := ys0) tFact_len (by omega) hi0 (by omega) rfl, ?_⟩
  conv => whnf
  refine .inr (.inl ⟨trivial, _, _, _, rows_cell (o := 0 + i * 2 + 1) (k := i) (d := 1) (xs := ys0) tFact_len (by omega) hi0 (by rw [hyx0]; rfl), ?_⟩)
  conv => whnf
  refine ⟨_, _, _, markIntS_spec (xs[i].2) (f + 1) (by omega) (by omega) (by omega), ?_⟩
  conv => whnf
  refine ⟨_, hset1, .inl ?_⟩
  conv => whnf
  refine ⟨m - 1, by omega, i + 1, _, _, _, wrap_id (by omega) (by omega), by omega, by omega, ?_, rfl⟩
  rw [hys1, hys0]
  simp only [List.set_set]
  rw [hys, hf]
  exact congrArg _ (mkP_set eFact nFact k hi)
 ·conv => whnf
  have hii : i = xs.length := by omega
  have hall := sumB_all (f := eFact) (xs := xs) (k := i) (by omega)
  refine ⟨by show ci _ = ci _; congr 1; omega, ?_⟩
  conv => whnf
  refine ⟨by rw [rows_len tFact_len, mkP_len eFact nFact k (by omega)], ?_⟩
  conv => whnf
  rw [mkP_all eFact nFact k hii]
  simp only [intsT, mkI_len, mkL_len, wFactS, kFactS, ci]
theorem heldFactS_spec (xs : (List (Int × (List Int)))) (k : Int) (h : k + (mFactS xs : Nat) ≤ 4398046511104) (hc : cFactS xs ≤ 1099511627776) (h1 : 0 ≤ k) : Spec Tryz.prog 39 [vFactS (kFactS xs k), ci k] (ci (k + (mFactS xs : Nat))) := by
 unfold mFactS at h ⊢
 unfold cFactS at hc
 refine Spec_of mx Γ_ok Tryz.func39 rfl ?_
 conv => whnf
 have hkl : (kFactS xs k).length = xs.length := mkL_len _ _ _ _
 refine ⟨[(0,0),(1,0),(4,0),(5,0)], fun m s => ∃ (i : Nat) (g f : Int), g = i ∧ f = k + (sumB eFact (xs.take i) : Nat) ∧ m + i = xs.length ∧
  s = ⟨31, [(0, vFactS (kFactS xs k)), (1, ci f), (4, ci 0), (5, ci g)], []⟩, xs.length, ⟨0, 0, k, rfl, by rw [sumB_zero]; omega, rfl, rfl⟩, ?_⟩
 rintro m s ⟨i, _, f, rfl, hf, hm, rfl⟩
 conv => whnf
 rw [hkl]
 split <;> rename_i h3
 all_goals simp only [decide_eq_true_eq, decide_eq_false_iff_not] at h3
 ·conv => whnf
  have hi : i < xs.length := by omega
  have hb := sumB_le (f := eFact) hi
  have hbc := sumB_one (f := cFact) hi
  have hat := sumB_at (f := eFact) hi
  have hi' : i < (kFactS xs k).length := by omega
  have hyx : (kFactS xs k)[i] = nFact xs[i] f := by rw [hf]; exact mkL_at eFact nFact k hi hi'
  have he : eFact xs[i] = 1 + (xs[i].2).length := rfl
  have hce : cFact xs[i] = (xs[i].2).length := rfl
  refine ⟨by omega, rows_len rFact_len _, ?_⟩
  conv => whnf
  refine ⟨_, takeN_rp_field (k := i) (d := 0) (m := 1) (r := [ci (f)]) rFact_len hi' (by omega) (by rw [hyx]; rfl), ?_⟩
  conv => whnf
  rw [bne_self_eq_false]
  conv => whnf
  have hwr0 : IntKind.i64.wrap (f + 1) = f + 1 := wrap_id (by omega) (by omega)
  rw [hwr0]
  refine ⟨by omega, rows_len rFact_len _, ?_⟩
  conv => whnf
  refine ⟨_, takeN_rp_field (k := i) (d := 1) (m := 1) (r := [ints (mkI (xs[i].2).length (f + 1))]) rFact_len hi' (by omega) (by rw [hyx]; rfl), ?_⟩
  conv => whnf
  refine ⟨_, heldIntS_spec (xs[i].2).length (f + 1) (by omega) (by omega) (by omega), .inl rfl, .inl ?_⟩
  conv => whnf
  rw [decide_eq_false (by omega)]
  conv => whnf
  exact ⟨m - 1, by omega, i + 1, _, _, wrap_id (by omega) (by omega), by omega, by omega, rfl⟩
 ·conv => whnf
  have hall := sumB_all (f := eFact) (xs := xs) (k := i) (by omega)
  show ci f = ci _
  congr 1
  omega
theorem closed_wFactS (xs : (List (Int × (List Int)))) : closed (wFactS xs) := closeds_rows (f := tFact) closed_rFact xs
theorem mFactS_le (xs : (List (Int × (List Int)))) : mFactS xs ≤ 4 * cFactS xs := by
 unfold mFactS cFactS
 have := sumB_le4 eFact_le xs
 omega
def uFactS (xs : (List (Int × (List Int)))) (k : Int) : V := .ro xs.length (rows rFact (kFactS xs k))
theorem uFactS_eq (xs : (List (Int × (List Int)))) (k : Int) : vFactS (kFactS xs k) = uFactS xs k := by
 have : (kFactS xs k).length = xs.length := mkL_len _ _ _ _
 simp only [vFactS, uFactS, this]
theorem heldFactS_own (x : (List (Int × (List Int)))) (k : Int) (h : k + (mFactS x : Nat) ≤ 4398046511104) (hc : cFactS x ≤ 1099511627776) (h1 : 0 ≤ k) : Spec Tryz.prog 39 [uFactS x k, ci k] (ci (k + (mFactS x : Nat))) := by
 have := heldFactS_spec x k h hc h1
 rwa [uFactS_eq] at this
def vCountedS (xs : (List ((List Int) × Int))) : V := .ro xs.length (rows rCounted xs)
def wCountedS (xs : (List ((List Int) × Int))) : V := .tr 2 xs.length (rows tCounted xs)
theorem wCountedS_ro (xs : (List ((List Int) × Int))) : roV (wCountedS xs) = vCountedS xs := by simp only [wCountedS, vCountedS, roV, roVs_rows tCounted_ro]
def cCountedS (xs : (List ((List Int) × Int))) : Nat := xs.length + sumB cCounted xs
end Go.Proofs.YtboolngaahifdaaGreatD
