/- ViewSchema, twice. -/
import Derived.Test.YtbnikloglnkddaaFGen
set_option linter.unusedVariables false
set_option linter.unusedSimpArgs false
set_option maxRecDepth 100000
namespace Go.Proofs.YtbnikloglnkddaaD
open Go Go.Proofs

def headLen (q : List Int × List (Int × List Int)) : Int := q.1.length
def pViewSchema (xs : List (List Int × List (Int × List Int))) : List Int := xs.map headLen
theorem small_ViewSchema (x0 : List (List Int × List (Int × List Int))) (h0 : cQueryS x0 ≤ 1048576) : cSchema (pViewSchema x0) ≤ 2147483648 := by
  unfold cQueryS at h0
  simp only [cSchema, pViewSchema, List.length_map]
  omega
theorem map_at {α β : Type} {f : α → β} {xs : List α} {k : Nat} (hk : k < xs.length) : (xs.take (k + 1)).map f = (xs.take k).map f ++ [f xs[k]] := by
  rw [List.take_succ_eq_append_getElem hk, List.map_append]
  rfl
theorem specViewSchema_spec (x0 : List (List Int × List (Int × List Int))) (h0 : cQueryS x0 ≤ 1048576) (q0 : qQueryS x0) : Spec Try.prog 64 [vQueryS x0] (wSchema (pViewSchema x0)) := by
  unfold cQueryS at h0
  refine Spec_of mx Γ_ok Try.func64 rfl ?_
  conv => whnf
  refine ⟨[(0,0),(2,0),(3,1),(4,0)], fun m s => ∃ (k : Nat) (e : Int) (r : List V), e = k ∧ m + k = x0.length ∧ r = rows ciL ((x0.take k).map headLen) ∧
    s = ⟨24, [(0, vQueryS x0), (2, .ptr 0 0), (3, .ptr 1 0), (4, ci e)], [some ⟨true, [cnil]⟩, some ⟨true, [.own 2 1 0 k k none]⟩, some ⟨false, r⟩]⟩, x0.length, ⟨0, 0, _, rfl, rfl, rfl, rfl⟩, ?_⟩
  rintro m s ⟨k, _, _, rfl, hm, rfl, rfl⟩
  conv => whnf
  split <;> rename_i h1
  all_goals simp only [decide_eq_true_eq, decide_eq_false_iff_not] at h1
  · conv => whnf
    have hk : k < x0.length := by omega
    refine ⟨List.range 12, by kernel_rfl, ?_⟩
    conv => whnf
    refine ⟨by omega, rows_len rQuery_len _, ?_⟩
    conv => whnf
    refine ⟨_, takeN_rp_field (k := k) (d := 0) (m := 1) (r := [ints x0[k].1]) rQuery_len hk (by omega) rfl, ?_⟩
    conv => whnf
    refine ⟨_, rfl, .inl ⟨flat1 rfl, ?_⟩⟩
    conv => whnf
    refine ⟨by omega, by rw [rows_len ciL_len, List.length_map, List.length_take, Nat.min_eq_left (by omega)], _, snoc_ci _ _, ?_⟩
    conv => whnf
    refine ⟨m - 1, by omega, k + 1, _, _, wrap_id (by omega) (by omega), by omega, ?_, rfl⟩
    rw [map_at hk]
    rfl
  · conv => whnf
    have hkk : k = x0.length := by omega
    subst hkk
    rw [List.take_length]
    refine ⟨by rw [rows_len ciL_len, List.length_map], ?_⟩
    simp only [wSchema, tSchema, intsT, pViewSchema, List.length_map]
    rfl
set_option maxHeartbeats 1000000 in
theorem implViewSchema_spec (x0 : List (List Int × List (Int × List Int))) (h0 : cQueryS x0 ≤ 1048576) (q0 : qQueryS x0) : Spec Try.prog 70 [vQueryS x0] (wSchema (pViewSchema x0)) := by
  unfold cQueryS at h0
  refine Spec_of mx Γ_ok Try.func70 rfl ?_
  conv => whnf
  refine ⟨[(2,0),(3,1),(7,0),(8,0),(9,0)], fun m s => ∃ (k : Nat) (e : Int) (r : List V), e = k ∧ m + k = x0.length ∧ r = rows ciL ((x0.take k).map headLen) ∧
    s = ⟨23, [(2, .ptr 0 0), (3, .ptr 1 0), (7, vQueryS x0), (8, ci x0.length), (9, ci e)], [some ⟨true, [cnil]⟩, some ⟨true, [.own 2 1 0 k k none]⟩, some ⟨false, r⟩]⟩, x0.length, ⟨0, 0, _, rfl, rfl, rfl, rfl⟩, ?_⟩
  rintro m s ⟨k, _, _, rfl, hm, rfl, rfl⟩
  conv => whnf
  split <;> rename_i h1
  all_goals simp only [decide_eq_true_eq, decide_eq_false_iff_not] at h1
  · conv => whnf
    have hk : k < x0.length := by omega
    refine ⟨by omega, rows_len rQuery_len _, ?_⟩
    conv => whnf
    refine ⟨_, takeN_rp (k := k) rQuery_len hk, ?_⟩
    conv => whnf
    refine ⟨_, rfl, .inl ⟨flat1 rfl, ?_⟩⟩
    conv => whnf
    refine ⟨by omega, by rw [rows_len ciL_len, List.length_map, List.length_take, Nat.min_eq_left (by omega)], _, snoc_ci _ _, ?_⟩
    conv => whnf
    refine ⟨m - 1, by omega, k + 1, _, _, wrap_id (by omega) (by omega), by omega, ?_, rfl⟩
    rw [map_at hk]
    rfl
  · conv => whnf
    have hkk : k = x0.length := by omega
    subst hkk
    rw [List.take_length]
    refine ⟨by rw [rows_len ciL_len, List.length_map], ?_⟩
    simp only [wSchema, tSchema, intsT, pViewSchema, List.length_map]
    rfl
end Go.Proofs.YtbnikloglnkddaaD
