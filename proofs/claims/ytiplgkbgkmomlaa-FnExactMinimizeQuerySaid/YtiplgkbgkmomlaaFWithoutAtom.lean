/- WithoutAtom: the first program. -/
import Derived.Test.YtiplgkbgkmomlaaFQueryOk2
import Derived.Test.YtiplgkbgkmomlaaFRename
set_option linter.unusedVariables false
set_option linter.unusedSimpArgs false
set_option maxRecDepth 100000
namespace Go.Proofs.YtiplgkbgkmomlaaD
open Go Go.Proofs

def wo1 (l : List AtomC) (i : Int) (k : Nat) : List AtomC := if ((k : Int) != i) = true then [l.getD k (0, [])] else []
def wo (l : List AtomC) (i : Int) : Nat → List AtomC
  | 0 => []
  | k + 1 => wo l i k ++ wo1 l i k
def woQ (q : QueryR) (i : Int) : QueryR := (q.1, wo q.2 i q.2.length)
def pWithoutAtom (s : List Int) (q : QueryR) (i : Int) : QueryR × Bool := if isQuery s q && inR i 0 (q.2.length - 1) && isQuery s (woQ q i) then (woQ q i, true) else (q, false)
theorem getD_atom {l : List AtomC} {k : Nat} (hk : k < l.length) : l.getD k (0, []) = l[k] := by simp [List.getD_eq_getElem?_getD, hk]
theorem sumB_snoc (c : AtomC → Nat) (x : AtomC) : ∀ l : List AtomC, sumB c (l ++ [x]) = sumB c l + c x
  | [] => by simp [sumB]
  | y :: l => by simp only [List.cons_append, sumB, sumB_snoc c x l]; omega
theorem wo_bound (c : AtomC → Nat) (l : List AtomC) (i : Int) : ∀ k, k ≤ l.length → (wo l i k).length ≤ k ∧ sumB c (wo l i k) ≤ sumB c (l.take k)
  | 0, _ => ⟨Nat.le_refl _, by simp [wo, sumB]⟩
  | k + 1, hk => by
    have h1 := wo_bound c l i k (by omega)
    have hk' : k < l.length := by omega
    rw [List.take_succ_eq_append_getElem hk', sumB_snoc, wo, wo1]
    split
    · rw [getD_atom hk', List.length_append, sumB_snoc, List.length_singleton]
      omega
    · rw [List.append_nil]
      omega
theorem woQ_bound (q : QueryR) (i : Int) (h : cQuery q ≤ 1048576) : cQuery (woQ q i) ≤ 1048576 := by
  have h1 := wo_bound cAtom q.2 i q.2.length (Nat.le_refl _)
  rw [List.take_length] at h1
  unfold cQuery cAtomS at *
  simp only [woQ]
  omega
def wt (p : QueryR × Bool) : V := .tup [wQuery p.1, cb p.2]
set_option maxHeartbeats 8000000 in
theorem specWithoutAtom_spec (x0 : List Int) (x1 : QueryR) (x2 : Int) (h0 : cSchema x0 ≤ 1048576) (h1 : cQuery x1 ≤ 1048576) : Spec Try.prog 38 [vSchema x0, vQuery x1, ci x2] (wt (pWithoutAtom x0 x1 x2)) := by
  have h1' := h1
  unfold cQuery cAtomS at h1'
  have hcopy := l4Copy_spec x1 h1
  have hwb := woQ_bound x1 x2 h1
  refine Spec_of mx Γ_ok Try.func38 rfl ?_
  conv => whnf
  refine ⟨_, specIsQuery_spec x0 x1 h0 h1, .inl rfl, .inl ?_⟩
  conv => whnf
  unfold pWithoutAtom
  generalize isQuery x0 x1 = b1
  cases b1 with
  | false =>
    conv => whnf
    refine ⟨_, hcopy, .inl rfl, .inr ?_⟩
    conv => whnf
    refine ⟨by rw [rows_len ciL_len], by rw [rows_len tAtom_len], rfl⟩
  | true =>
  conv => whnf
  have hw : IntKind.i64.wrap ((x1.2.length : Int) - 1) = x1.2.length - 1 := wrap_id (by omega) (by omega)
  refine ⟨_, l1In_spec _ _ _, .inl rfl, .inl ?_⟩
  rw [hw]
  conv => whnf
  generalize inR x2 0 (x1.2.length - 1) = b2
  cases b2 with
  | false =>
    conv => whnf
    refine ⟨_, hcopy, .inl rfl, .inr ?_⟩
    conv => whnf
    refine ⟨by rw [rows_len ciL_len], by rw [rows_len tAtom_len], rfl⟩
  | true =>
  conv => whnf
  rw [Bool.true_and, Bool.true_and]
  refine ⟨rows_len ciL_len _, solid_ci _, ?_⟩
  conv => whnf
  refine ⟨by omega, rfl, _, app_ci [] x1.1, ?_⟩
  conv => whnf
  refine ⟨[(2,0),(3,0),(4,0),(6,0),(7,0),(8,202),(9,0)], fun m s => ∃ (k : Nat) (e : Int) (n1 n : Nat) (r1 r : List V), e = k ∧ m + k = x1.2.length ∧ n1 = x1.1.length ∧ n = (wo x1.2 x2 k).length ∧ r1 = rows ciL x1.1 ∧ r = rows tAtom (wo x1.2 x2 k) ∧
    s = ⟨67, [(2, ci x2), (3, .ptr 0 0), (4, .ptr 1 0), (6, .ptr 2 0), (7, cb false), (8, .ptr 3 0), (9, ci e)], [some ⟨true, [ints x0]⟩, some ⟨true, rQuery x1⟩, some ⟨true, [cnil, cnil]⟩, some ⟨true, [.own 4 1 0 n1 n1 none, .own 5 2 0 n n none]⟩, some ⟨false, r1⟩, some ⟨false, r⟩]⟩, x1.2.length, ⟨0, 0, 0 + x1.1.length, 0, _, _, rfl, rfl, Nat.zero_add _, rfl, by rw [List.nil_append], rfl, rfl⟩, ?_⟩
  rintro m s ⟨k, _, n1, n, _, _, rfl, hm, hn1, hn, rfl, rfl, rfl⟩
  conv => whnf
  split <;> rename_i h3
  all_goals simp only [decide_eq_true_eq, decide_eq_false_iff_not] at h3
  · conv => whnf
    have hk : k < x1.2.length := by omega
    have hb := sumB_one (f := cAtom) hk
    have hcb : cAtom x1.2[k] = x1.2[k].2.length := rfl
    have hcl := (wo_bound cAtom x1.2 x2 k (by omega)).1
    have hst : wo x1.2 x2 (k + 1) = wo x1.2 x2 k ++ wo1 x1.2 x2 k := rfl
    rw [wo1, getD_atom hk] at hst
    generalize wo x1.2 x2 k = L at hn hcl hst
    generalize hb3 : ((k : Int) != x2) = b3
    rw [hb3] at hst
    cases b3 with
    | false =>
      conv => whnf
      rw [if_neg (by simp), List.append_nil] at hst
      exact ⟨m - 1, by omega, k + 1, _, n1, n, _, _, wrap_id (by omega) (by omega), by omega, hn1, by rw [hst, hn], rfl, by rw [hst], rfl⟩
    | true =>
    conv => whnf
    rw [if_pos rfl] at hst
    refine ⟨[0, 1, 2, 3, 4, 5, 6, 7, 9, 10, 11, 12, 13, 14, 8, 15, 16, 17, 18, 19, 20], by kernel_rfl, ?_⟩
    conv => whnf
    refine ⟨by omega, rows_len rAtom_len _, ?_⟩
    conv => whnf
    refine ⟨_, takeN_rp_field (k := k) (d := 0) (m := 1) (r := [ci x1.2[k].1]) rAtom_len hk (by omega) rfl, ?_⟩
    conv => whnf
    refine ⟨by omega, rows_len rAtom_len _, ?_⟩
    conv => whnf
    refine ⟨_, takeN_rp_field (k := k) (d := 1) (m := 1) (r := [ints x1.2[k].2]) rAtom_len hk (by omega) rfl, ?_⟩
    conv => whnf
    refine ⟨rows_len ciL_len _, solid_ci _, ?_⟩
    conv => whnf
    refine ⟨by omega, rfl, _, app_ci [] _, ?_⟩
    conv => whnf
    refine ⟨by rw [rows_len ciL_len, List.nil_append, Nat.zero_add]; rfl, ?_⟩
    conv => whnf
    refine ⟨_, rfl, .inr ⟨fun c hc => ?_, ?_⟩⟩
    · have hc : c ∈ [ci x1.2[k].1, V.tr 1 (0 + x1.2[k].2.length) (rows ciL ([] ++ x1.2[k].2))] := hc
      simp only [List.mem_cons, List.not_mem_nil, or_false] at hc
      rcases hc with rfl | rfl <;> rfl
    conv => whnf
    refine ⟨by omega, by rw [rows_len tAtom_len, hn], rows tAtom (L ++ [x1.2[k]]), ?_, ?_⟩
    · rw [List.nil_append, Nat.zero_add]
      exact snoc_rows tAtom _ _
    conv => whnf
    refine ⟨m - 1, by omega, k + 1, _, n1, _, _, _, wrap_id (by omega) (by omega), by omega, hn1, ?_, rfl, ?_, rfl⟩
    · rw [hst, List.length_append, hn]
      rfl
    · rw [hst]
  · conv => whnf
    have hkk : k = x1.2.length := by omega
    rw [hkk] at hn ⊢
    subst hn1
    subst hn
    refine .inl ?_
    conv => whnf
    refine ⟨_, _, takeN_all (rows_len ciL_len _), roVs_ci _, ?_⟩
    conv => whnf
    refine ⟨_, _, takeN_all (rows_len tAtom_len _), roVs_rows tAtom_ro _, ?_⟩
    conv => whnf
    refine ⟨_, specIsQuery_spec x0 (woQ x1 x2) h0 hwb, .inr trivial, .inl ?_⟩
    conv => whnf
    generalize isQuery x0 (woQ x1 x2) = b4
    cases b4 with
    | false =>
      conv => whnf
      refine ⟨_, hcopy, .inl rfl, .inr ?_⟩
      conv => whnf
      refine ⟨by rw [rows_len ciL_len], by rw [rows_len tAtom_len], rfl⟩
    | true =>
      conv => whnf
      refine ⟨by rw [rows_len ciL_len], by rw [rows_len tAtom_len], rfl⟩
end Go.Proofs.YtiplgkbgkmomlaaD
