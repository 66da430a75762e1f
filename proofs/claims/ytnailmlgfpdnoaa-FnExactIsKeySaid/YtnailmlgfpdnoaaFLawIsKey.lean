/- The law FnExactIsKey. -/
import Derived.Test.YtnailmlgfpdnoaaFKey2
set_option linter.unusedVariables false
set_option linter.unusedSimpArgs false
set_option maxRecDepth 100000
namespace Go.Proofs.YtnailmlgfpdnoaaD
open Go Go.Proofs

theorem lawIsKey_spec (xs : List Int) (r : Int) (ps : List Int) (hl : xs.length ≤ 9223372036854775807) (hp : ps.length ≤ 9223372036854775807) (hwf : ∀ x ∈ xs, -9223372036854775808 ≤ x ∧ x ≤ 9223372036854775807) : Spec Try.prog 5 [schema xs, key r ps] (cb true) := by
  refine Spec_of mx Γ_ok Try.func5 rfl ?_
  conv => whnf
  refine ⟨_, szSchema_spec xs _ hl (by omega) (by omega), .inl rfl, .inl ?_⟩
  conv => whnf
  generalize hb1 : decide (sz1 xs.length 1048576 < 0) = b1
  cases b1 with
  | true =>
    conv => whnf
    rfl
  | false =>
  conv => whnf
  have h1 : xs.length ≤ 1048576 ∧ sz1 xs.length 1048576 = 1048576 - xs.length := by
    have := of_decide_eq_false hb1
    unfold sz1 at this ⊢
    split at this
    · omega
    · rename_i h; rw [if_neg h]; omega
  refine ⟨_, szKey_spec r ps _ hp (by omega) (by omega), .inl rfl, .inl ?_⟩
  conv => whnf
  generalize hb2 : decide (sz1 ps.length (sz1 xs.length 1048576) < 0) = b2
  cases b2 with
  | true =>
    conv => whnf
    rfl
  | false =>
  conv => whnf
  have h2 : ps.length ≤ 1048576 := by
    have := of_decide_eq_false hb2
    unfold sz1 at this
    split at this
    · omega
    · omega
  have hx : xs.length ≤ 1099511627776 := by omega
  have hq : ps.length ≤ 1099511627776 := by omega
  refine ⟨[0,2,1,3,4,5], by kernel_rfl, ?_⟩
  conv => whnf
  refine ⟨_, toSchema_spec xs hx, .inl rfl, .inl ?_⟩
  rw [ro_schema]
  conv => whnf
  refine ⟨_, toKey_spec r ps hq, .inl rfl, .inl ?_⟩
  rw [ro_key]
  conv => whnf
  refine ⟨_, specIsKey_spec xs r ps hx hq hwf, .inl rfl, .inl ?_⟩
  conv => whnf
  refine ⟨_, toSchema_spec xs hx, .inl rfl, .inl ?_⟩
  rw [ro_schema]
  conv => whnf
  refine ⟨_, toKey_spec r ps hq, .inl rfl, .inl ?_⟩
  rw [ro_key]
  conv => whnf
  refine ⟨_, implIsKey_spec xs r ps hx hq hwf, .inl rfl, .inl ?_⟩
  conv => whnf
  rw [bne_self_eq_false]
  conv => whnf
  refine ⟨[0,1,2,3,4], by kernel_rfl, ?_⟩
  conv => whnf
  refine ⟨_, toSchema_spec xs hx, .inl rfl, .inl ?_⟩
  rw [ro_schema]
  conv => whnf
  refine ⟨_, eqSchema_spec xs xs hx hx, .inl rfl, .inl ?_⟩
  rw [beq_self_eq_true]
  conv => whnf
  refine ⟨[0,1,2,3,4], by kernel_rfl, ?_⟩
  conv => whnf
  refine ⟨_, toKey_spec r ps hq, .inl rfl, .inl ?_⟩
  rw [ro_key]
  conv => whnf
  refine ⟨_, eqKey_spec r r ps ps hq hq, .inl rfl, .inl ?_⟩
  rw [beq_self_eq_true, beq_self_eq_true]
  conv => whnf
  rfl
theorem wf_i64 {x : Int} (h : (Lit.int .i64 x).wf = true) : -9223372036854775808 ≤ x ∧ x ≤ 9223372036854775807 := by
  have h1 : IntKind.i64.min = -9223372036854775808 := by decide
  have h2 : IntKind.i64.max = 9223372036854775807 := by decide
  simpa [Lit.wf, h1, h2] using h
theorem law_IsKey (x0 : List Int) (x1 : Int × List Int) (h0 : x0.length ≤ maxLen ∧ ∀ x ∈ x0, (Lit.int .i64 x).wf = true) (h1 : (Lit.int .i64 x1.1).wf = true ∧ x1.2.length ≤ maxLen ∧ ∀ x ∈ x1.2, (Lit.int .i64 x).wf = true) : Spec Try.prog 5 [schema x0, key x1.1 x1.2] (cb true) :=
  lawIsKey_spec x0 x1.1 x1.2 (by have := h0.1; simp only [maxLen] at this; omega) (by have := h1.2.1; simp only [maxLen] at this; omega) fun x hx => wf_i64 (h0.2 x hx)
end Go.Proofs.YtnailmlgfpdnoaaD
