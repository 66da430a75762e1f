/- RenameQuery and l4Copy: the first program. -/
import Derived.Test.YthfjngmbdbocbaaFCopy
import Derived.Test.YthfjngmbdbocbaaFIsKey
set_option linter.unusedVariables false
set_option linter.unusedSimpArgs false
set_option maxRecDepth 100000
namespace Go.Proofs.YthfjngmbdbocbaaD
open Go Go.Proofs

abbrev QueryR := List Int × List AtomC
def ren1 (to : List Int) (x : Int) : Int := if inR x 0 (to.length - 1) then to.getD x.toNat 0 else x
def renA (to : List Int) (a : AtomC) : AtomC := (a.1, a.2.map (ren1 to))
def renQ (to : List Int) (q : QueryR) : QueryR := (q.1.map (ren1 to), q.2.map (renA to))
theorem l4Term_spec (x : Int) (to : List Int) (h : to.length ≤ 1099511627776) : Spec Try.prog 138 [ci x, ints to] (ci (ren1 to x)) := by
  have hw : IntKind.i64.wrap ((to.length : Int) - 1) = to.length - 1 := wrap_id (by omega) (by omega)
  refine Spec_of mx Γ_ok Try.func138 rfl ?_
  conv => whnf
  refine ⟨_, l1In_spec _ _ _, .inl rfl, .inl ?_⟩
  rw [hw]
  conv => whnf
  unfold ren1
  generalize hb1 : inR x 0 (to.length - 1) = b1
  cases b1 with
  | false =>
    conv => whnf
    rfl
  | true =>
    conv => whnf
    have hr : 0 ≤ x ∧ x ≤ (to.length : Int) - 1 := by simpa [inR] using hb1
    obtain ⟨q, rfl⟩ : ∃ q : Nat, x = q := ⟨x.toNat, by omega⟩
    have hq : q < to.length := by omega
    refine ⟨by omega, rows_len ciL_len to, ?_⟩
    conv => whnf
    refine ⟨_, takeN_rp (k := q) ciL_len hq, ?_⟩
    conv => whnf
    rw [if_pos rfl, Int.toNat_natCast, getD_at hq]
    rfl
theorem l4Terms_spec (xs to : List Int) (h : xs.length ≤ 1048576) (ht : to.length ≤ 1099511627776) : Spec Try.prog 107 [ints xs, ints to] (intsT (xs.map (ren1 to))) := by
  refine Spec_of mx Γ_ok Try.func107 rfl ?_
  conv => whnf
  refine ⟨[(0,0),(1,0),(4,0),(5,0),(6,0)], fun m s => ∃ (k : Nat) (e : Int) (n : Nat) (r : List V), e = k ∧ m + k = xs.length ∧ n = k ∧ r = rows ciL ((xs.take k).map (ren1 to)) ∧
    s = ⟨26, [(0, ints xs), (1, ints to), (4, cnil), (5, .own 0 1 0 n n none), (6, ci e)], [some ⟨false, r⟩]⟩, xs.length, ⟨0, 0, 0, _, rfl, rfl, rfl, rfl, rfl⟩, ?_⟩
  rintro m s ⟨k, _, n, _, rfl, hm, rfl, rfl, rfl⟩
  conv => whnf
  split <;> rename_i h1
  all_goals simp only [decide_eq_true_eq, decide_eq_false_iff_not] at h1
  · conv => whnf
    have hk : n < xs.length := by omega
    refine ⟨by omega, rows_len ciL_len _, ?_⟩
    conv => whnf
    refine ⟨_, takeN_rp (k := n) ciL_len hk, ?_⟩
    conv => whnf
    refine ⟨_, l4Term_spec xs[n] to ht, .inl rfl, .inl ?_⟩
    conv => whnf
    refine ⟨_, rfl, .inl ⟨flat1 rfl, ?_⟩⟩
    conv => whnf
    refine ⟨by omega, by rw [rows_len ciL_len, List.length_map, List.length_take, Nat.min_eq_left (by omega)], _, snoc_ci _ _, ?_⟩
    conv => whnf
    refine ⟨m - 1, by omega, n + 1, _, _, _, wrap_id (by omega) (by omega), by omega, rfl, ?_, rfl⟩
    rw [List.take_succ_eq_append_getElem hk, List.map_append]
    rfl
  · conv => whnf
    have hkk : n = xs.length := by omega
    subst hkk
    rw [List.take_length]
    refine ⟨by rw [rows_len ciL_len, List.length_map], ?_⟩
    simp only [intsT, List.length_map]
    rfl
set_option maxHeartbeats 4000000 in
theorem renameQuery_spec (x0 : QueryR) (to : List Int) (h0 : cQuery x0 ≤ 1048576) (ht : to.length ≤ 1099511627776) : Spec Try.prog 36 [vQuery x0, ints to] (wQuery (renQ to x0)) := by
  unfold cQuery cAtomS at h0
  refine Spec_of mx Γ_ok Try.func36 rfl ?_
  conv => whnf
  refine ⟨_, l4Terms_spec x0.1 to (by omega) ht, .inl rfl, .inr ?_⟩
  conv => whnf
  refine ⟨[(1,0),(2,0),(4,0),(5,202),(6,0)], fun m s => ∃ (k : Nat) (e : Int) (n1 n : Nat) (r1 r : List V), e = k ∧ m + k = x0.2.length ∧ n1 = (x0.1.map (ren1 to)).length ∧ n = k ∧ r1 = rows ciL (x0.1.map (ren1 to)) ∧ r = rows tAtom ((x0.2.take k).map (renA to)) ∧
    s = ⟨40, [(1, ints to), (2, .ptr 0 0), (4, .ptr 1 0), (5, .ptr 2 0), (6, ci e)], [some ⟨true, rQuery x0⟩, some ⟨true, [cnil, cnil]⟩, some ⟨true, [.own 3 1 0 n1 n1 none, .own 4 2 0 n n none]⟩, some ⟨false, r1⟩, some ⟨false, r⟩]⟩, x0.2.length, ⟨0, 0, _, 0, _, _, rfl, rfl, rfl, rfl, rfl, rfl, rfl⟩, ?_⟩
  rintro m s ⟨k, _, n1, n, _, _, rfl, hm, hn1, rfl, rfl, rfl, rfl⟩
  conv => whnf
  split <;> rename_i h1
  all_goals simp only [decide_eq_true_eq, decide_eq_false_iff_not] at h1
  · conv => whnf
    have hk : n < x0.2.length := by omega
    have hb := sumB_one (f := cAtom) hk
    have hcb : cAtom x0.2[n] = x0.2[n].2.length := rfl
    refine ⟨List.range 21, by kernel_rfl, ?_⟩
    conv => whnf
    refine ⟨by omega, rows_len rAtom_len _, ?_⟩
    conv => whnf
    refine ⟨_, takeN_rp_field (k := n) (d := 0) (m := 1) (r := [ci x0.2[n].1]) rAtom_len hk (by omega) rfl, ?_⟩
    conv => whnf
    refine ⟨by omega, rows_len rAtom_len _, ?_⟩
    conv => whnf
    refine ⟨_, takeN_rp_field (k := n) (d := 1) (m := 1) (r := [ints x0.2[n].2]) rAtom_len hk (by omega) rfl, ?_⟩
    conv => whnf
    refine ⟨_, l4Terms_spec x0.2[n].2 to (by omega) ht, .inl rfl, .inr ?_⟩
    conv => whnf
    refine ⟨by rw [rows_len ciL_len], ?_⟩
    conv => whnf
    refine ⟨_, rfl, .inr ⟨solid_tAtom (renA to x0.2[n]), ?_⟩⟩
    conv => whnf
    refine ⟨by omega, by rw [rows_len tAtom_len, List.length_map, List.length_take, Nat.min_eq_left (by omega)], _, snoc_rows tAtom _ (renA to x0.2[n]), ?_⟩
    conv => whnf
    refine ⟨m - 1, by omega, n + 1, _, n1, _, _, _, wrap_id (by omega) (by omega), by omega, hn1, rfl, rfl, ?_, rfl⟩
    rw [List.take_succ_eq_append_getElem hk, List.map_append]
    rfl
  · conv => whnf
    have hkk : n = x0.2.length := by omega
    rw [hkk, List.take_length]
    subst hn1
    refine ⟨by rw [rows_len ciL_len], by rw [rows_len tAtom_len, List.length_map], ?_⟩
    have e : wQuery (renQ to x0) = .agg [.tr 1 (x0.1.map (ren1 to)).length (rows ciL (x0.1.map (ren1 to))), .tr 2 x0.2.length (rows tAtom (x0.2.map (renA to)))] := by
      simp only [wQuery, tQuery, renQ, wAtomS, intsT, List.length_map]
    rw [e]
    rfl
theorem ren1_nil (x : Int) : ren1 [] x = x := by
  unfold ren1
  rw [if_neg]
  simp [inR]
  omega
theorem renQ_nil (q : QueryR) : renQ [] q = q := by
  have h1 : ∀ xs : List Int, xs.map (ren1 []) = xs := fun xs => by
    rw [List.map_congr_left (g := id) (fun x _ => ren1_nil x), List.map_id]
  have h2 : ∀ xs : List AtomC, xs.map (renA []) = xs := fun xs => by
    rw [List.map_congr_left (g := id) (fun x _ => by simp only [renA, h1]; rfl), List.map_id]
  unfold renQ
  rw [h1, h2]
theorem l4Copy_spec (x0 : QueryR) (h0 : cQuery x0 ≤ 1048576) : Spec Try.prog 124 [vQuery x0] (wQuery x0) := by
  have hs := renameQuery_spec x0 [] h0 (by simp)
  rw [renQ_nil] at hs
  refine Spec_of mx Γ_ok Try.func124 rfl ?_
  conv => whnf
  refine .inl ?_
  conv => whnf
  refine ⟨_, _, rfl, rfl, ?_⟩
  conv => whnf
  refine ⟨_, hs, .inr (closed_wQuery _), .inr ?_⟩
  conv => whnf
  refine ⟨by rw [rows_len ciL_len], by rw [rows_len tAtom_len], rfl⟩
end Go.Proofs.YthfjngmbdbocbaaD
