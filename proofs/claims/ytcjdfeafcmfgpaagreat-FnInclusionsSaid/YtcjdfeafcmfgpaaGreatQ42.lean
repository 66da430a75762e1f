/- Contracts and plain laws of this seat; no condition. -/
import Derived.Test.YtcjdfeafcmfgpaaGreatQ10
import Derived.Test.YtcjdfeafcmfgpaaGreatQ29
set_option linter.unusedVariables false
set_option linter.unusedSimpArgs false
set_option maxRecDepth 100000
namespace Go.Proofs.YtcjdfeafcmfgpaaGreatD
open Go Go.Proofs
abbrev QueryQ := List Int × List (Int × List Int)
theorem eqA_dec (a b : AtomC) : eqA a b = decide (a = b) := by
 obtain ⟨a1, a2⟩ := a
 obtain ⟨b1, b2⟩ := b
 unfold eqA
 simp only [Prod.mk.injEq, Bool.decide_and]
theorem eqQ_dec (a b : QueryQ) : decide (a = b) = (decide (a.1 = b.1) && decide (a.2 = b.2)) := by
 obtain ⟨a1, a2⟩ := a
 obtain ⟨b1, b2⟩ := b
 simp only [Prod.mk.injEq, Bool.decide_and]
theorem q_sizes {a : QueryQ} (h : cQuery a ≤ 1048576) : a.1.length ≤ 1048576 ∧ a.2.length ≤ 1048576 ∧ ∀ {k : Nat} (hk : k < a.2.length), a.2[k].2.length ≤ 1048576 := by
 unfold cQuery cAtomS at h
 refine ⟨by omega, by omega, fun {k} hk => ?_⟩
 have := sumB_one (f := cAtom) hk
 have e : cAtom a.2[k] = a.2[k].2.length := rfl
 omega
set_option maxHeartbeats 2000000 in
theorem specEqualQueries_spec (a b : QueryQ) (ha : cQuery a ≤ 1048576) (hb : cQuery b ≤ 1048576) : Spec Tryz.prog 29 [vQuery a, vQuery b] (cb (decide (a = b))) := by
 obtain ⟨a1, a2, a3⟩ := q_sizes ha
 obtain ⟨b1, b2, b3⟩ := q_sizes hb
 rw [eqQ_dec]
 refine Spec_of mx Γ_ok Tryz.func29 rfl ?_
 conv => whnf
 refine ⟨_, l2Ints_spec a.1 b.1 (by omega) (by omega), .inl rfl, .inl ?_⟩
 generalize decide (a.1 = b.1) = c1
 cases c1 with
 | false =>
  conv => whnf
  rfl
 | true =>
 conv => whnf
 rw [Bool.true_and]
 generalize hc2 : ((a.2.length : Int) != (b.2.length : Int)) = c2
 cases c2 with
 | true =>
  conv => whnf
  rw [ne_len (by intro h; rw [h] at hc2; simp at hc2)]
  rfl
 | false =>
 have hlen : a.2.length = b.2.length := by
  have : (a.2.length : Int) = b.2.length := by simpa using hc2
  omega
 conv => whnf
 refine ⟨[(2,0),(3,0),(5,0)], fun m st => ∃ (k : Nat) (e : Int), e = k ∧ m + k = a.2.length ∧ decide (a.2 = b.2) = decide (a.2.drop k = b.2.drop k) ∧
  st = ⟨40, [(2, .ptr 0 0), (3, .ptr 1 0), (5, ci e)], [some ⟨true, rQuery a⟩, some ⟨true, rQuery b⟩]⟩, a.2.length, ⟨0, 0, rfl, rfl, rfl, by kernel_rfl⟩, ?_⟩
 rintro m st ⟨k, _, rfl, hm, hj, rfl⟩
 conv => whnf
 split <;> rename_i h1
 all_goals simp only [decide_eq_true_eq, decide_eq_false_iff_not] at h1
 ·have hk : k < a.2.length := by omega
  have hk' : k < b.2.length := by omega
  have h3 := a3 hk
  have h4 := b3 hk'
  rw [drop_eq_at hk hk'] at hj
  conv => whnf
  refine ⟨List.range 12, by kernel_rfl, ?_⟩
  conv => whnf
  refine ⟨by omega, rows_len rAtom_len _, ?_⟩
  conv => whnf
  refine ⟨_, takeN_rp (k := k) rAtom_len hk, ?_⟩
  conv => whnf
  refine ⟨by omega, rows_len rAtom_len _, ?_⟩
  conv => whnf
  refine ⟨_, takeN_rp (k := k) rAtom_len hk', ?_⟩
  conv => whnf
  refine ⟨_, specEqualAtoms_spec a.2[k] b.2[k] (by omega) (by omega), .inl rfl, .inl ?_⟩
  rw [eqA_dec]
  generalize decide (a.2[k] = b.2[k]) = c3 at hj
  cases c3 with
  | false =>
   conv => whnf
   rw [hj]
   rfl
  | true =>
   conv => whnf
   exact ⟨m - 1, by omega, k + 1, IntKind.i64.wrap ((k : Int) + 1), wrap_id (by omega) (by omega), by omega, by rw [hj, Bool.true_and], by kernel_rfl⟩
 ·conv => whnf
  rw [hj, List.drop_eq_nil_of_le (by omega), List.drop_eq_nil_of_le (by omega)]
  rfl
end Go.Proofs.YtcjdfeafcmfgpaaGreatD
