/- FormatInt of small ints. -/
import Derived.Test.YthfjngmbdbocbaaFBase
set_option linter.unusedVariables false
set_option linter.unusedSimpArgs false
set_option maxRecDepth 100000
namespace Go.Proofs.YthfjngmbdbocbaaD
open Go Go.Proofs

def str (b : ByteArray) : V := .sc (.string b)
def dig (n : Int) : ByteArray := bytesOf [48 + n]
theorem dig_size (n : Int) : (dig n).size = 1 := rfl
theorem fmt_facts {n : Int} (h0 : 0 ≤ n) (h3 : n ≤ 9) : IntKind.i64.wrap (48 + n.tmod 10) = 48 + n ∧ IntKind.u8.wrap (48 + n) = 48 + n ∧ IntKind.i64.wrap (n.tdiv 10) = 0 ∧ ¬ n.tmod 10 < 0 := by
  refine ⟨?_, ?_, ?_, ?_⟩
  · rw [Int.tmod_eq_emod_of_nonneg h0, Int.emod_eq_of_lt h0 (by omega)]
    exact wrap_id (by omega) (by omega)
  · have : n = 0 ∨ n = 1 ∨ n = 2 ∨ n = 3 ∨ n = 4 ∨ n = 5 ∨ n = 6 ∨ n = 7 ∨ n = 8 ∨ n = 9 := by omega
    rcases this with rfl | rfl | rfl | rfl | rfl | rfl | rfl | rfl | rfl | rfl <;> rfl
  · rw [Int.tdiv_eq_ediv_of_nonneg h0, Int.ediv_eq_zero_of_lt h0 (by omega)]
    rfl
  · rw [Int.tmod_eq_emod_of_nonneg h0]
    omega
set_option maxHeartbeats 1000000 in
theorem specFormatInt_spec (n : Int) (h0 : 0 ≤ n) (h3 : n ≤ 9) : Spec Try.prog 130 [ci n] (str (dig n)) := by
  obtain ⟨hw1, hw2, hq, hneg⟩ := fmt_facts h0 h3
  refine Spec_of mx Γ_ok Try.func130 rfl ?_
  conv => whnf
  split <;> rename_i h1
  · conv => whnf
    have : n = 0 := by simpa using h1
    subst this
    rfl
  conv => whnf
  have hn0 : n ≠ 0 := by simpa using h1
  refine ⟨[(0,0),(2,0),(3,0),(4,0)], fun m s => ∃ (e : Int) (b : ByteArray), ((m = 1 ∧ e = n ∧ b = ByteArray.empty) ∨ (m = 0 ∧ e = 0 ∧ b = dig n)) ∧ s = ⟨31, [(0, ci e), (2, str ByteArray.empty), (3, str b), (4, cb (decide (n < 0)))], []⟩, 1, ⟨n, ByteArray.empty, .inl ⟨rfl, rfl, rfl⟩, rfl⟩, ?_⟩
  rintro m s ⟨e, b, hc, rfl⟩
  rcases hc with ⟨rfl, rfl, rfl⟩ | ⟨rfl, rfl, rfl⟩
  · conv => whnf
    split <;> rename_i h2
    · conv => whnf
      refine ⟨by omega, ?_⟩
      conv => whnf
      split <;> rename_i h4
      · exact absurd (of_decide_eq_true h4) hneg
      conv => whnf
      rw [hw1, hw2]
      refine ⟨⟨rfl, rfl⟩, [48 + e], rfl, ?_⟩
      conv => whnf
      refine ⟨by show 1 + 0 ≤ _; omega, ?_⟩
      conv => whnf
      refine ⟨by omega, ?_⟩
      conv => whnf
      exact ⟨0, by omega, _, _, .inr ⟨rfl, hq, ByteArray.append_empty⟩, rfl⟩
    · simp at h2
      omega
  · conv => whnf
    rw [decide_eq_false (by omega)]
    conv => whnf
    rfl
def byV (b : Int) : V := .sc (.int .u8 b)
set_option maxHeartbeats 1000000 in
theorem implFormatInt_spec (n : Int) (h0 : 0 ≤ n) (h3 : n ≤ 9) : Spec Try.prog 131 [ci n] (str (dig n)) := by
  obtain ⟨hw1, hw2, hq, hneg⟩ := fmt_facts h0 h3
  refine Spec_of mx Γ_ok Try.func131 rfl ?_
  conv => whnf
  split <;> rename_i h1
  · conv => whnf
    have : n = 0 := by simpa using h1
    subst this
    rfl
  conv => whnf
  have hn0 : n ≠ 0 := by simpa using h1
  refine ⟨[(0,0),(2,0),(3,0),(4,0)], fun m s => ∃ (e : Int) (k : Nat) (bs : List V), ((m = 1 ∧ e = n ∧ k = 0 ∧ bs = []) ∨ (m = 0 ∧ e = 0 ∧ k = 1 ∧ bs = [byV (48 + n)])) ∧ s = ⟨59, [(0, ci n), (2, str ByteArray.empty), (3, .own 0 1 0 k k none), (4, ci e)], [some ⟨false, bs⟩]⟩, 1, ⟨n, 0, [], .inl ⟨rfl, rfl, rfl, rfl⟩, rfl⟩, ?_⟩
  rintro m s ⟨e, k, bs, hc, rfl⟩
  rcases hc with ⟨rfl, rfl, rfl, rfl⟩ | ⟨rfl, rfl, rfl, rfl⟩
  · conv => whnf
    split <;> rename_i h2
    · conv => whnf
      refine ⟨by omega, ?_⟩
      conv => whnf
      split <;> rename_i h4
      · exact absurd (of_decide_eq_true h4) hneg
      conv => whnf
      rw [hw1, hw2]
      refine ⟨_, rfl, .inl ⟨flat1 rfl, ?_⟩⟩
      conv => whnf
      refine ⟨by omega, rfl, _, rfl, ?_⟩
      conv => whnf
      refine ⟨by omega, ?_⟩
      conv => whnf
      exact ⟨0, by omega, _, _, _, .inr ⟨rfl, hq, rfl, rfl⟩, rfl⟩
    · simp at h2
      omega
  · conv => whnf
    rw [decide_eq_false (by omega)]
    conv => whnf
    refine ⟨[(2,0),(3,0),(6,0),(7,0)], fun m s => s = ⟨59, [(2, str ByteArray.empty), (3, .own 0 1 0 1 1 none), (6, ci 0), (7, ci 0)], [some ⟨false, [byV (48 + n)]⟩]⟩, 0, rfl, ?_⟩
    rintro m s rfl
    conv => whnf
    refine ⟨⟨rfl, rfl⟩, [48 + n], rfl, ?_⟩
    conv => whnf
    rfl
end Go.Proofs.YthfjngmbdbocbaaD
