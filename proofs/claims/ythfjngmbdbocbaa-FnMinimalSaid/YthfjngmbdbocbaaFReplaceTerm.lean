/- ReplaceTerm: the first program. -/
import Derived.Test.YthfjngmbdbocbaaFCopy
set_option linter.unusedVariables false
set_option linter.unusedSimpArgs false
set_option maxRecDepth 100000
namespace Go.Proofs.YthfjngmbdbocbaaD
open Go Go.Proofs

abbrev QueryC := List Int × List AtomC
def rep1 (a b x : Int) : Int := if x == a then b else x
def repA (a b : Int) (x : AtomC) : AtomC := (x.1, x.2.map (rep1 a b))
def pReplaceTerm (q : QueryC) (a b : Int) : QueryC := (q.1.map (rep1 a b), q.2.map (repA a b))
theorem sumB_map {α β : Type} {c : β → Nat} {d : α → Nat} {f : α → β} (h : ∀ x, c (f x) = d x) : ∀ xs : List α, sumB c (xs.map f) = sumB d xs
  | [] => rfl
  | x :: xs => by simp only [List.map_cons, sumB, h, sumB_map h xs]
theorem small_ReplaceTerm (x0 : QueryC) (x1 x2 : Int) (h0 : cQuery x0 ≤ 1048576) : cQuery (pReplaceTerm x0 x1 x2) ≤ 2147483648 := by
  unfold cQuery cAtomS at *
  simp only [pReplaceTerm, List.length_map]
  rw [sumB_map (c := cAtom) (d := cAtom) (fun x => by simp [cAtom, repA])]
  omega
/-- Changed up to k. -/
def chg {α : Type} (f : α → α) (xs : List α) (k : Nat) : List α := (xs.take k).map f ++ xs.drop k
theorem chg_len {α : Type} (f : α → α) (xs : List α) (k : Nat) : (chg f xs k).length = xs.length := by
  simp only [chg, List.length_append, List.length_map, List.length_take, List.length_drop]; omega
theorem chg_zero {α : Type} (f : α → α) (xs : List α) : chg f xs 0 = xs := by simp [chg]
theorem chg_all {α : Type} (f : α → α) {xs : List α} {k : Nat} (h : xs.length ≤ k) : chg f xs k = xs.map f := by
  rw [chg, List.take_of_length_le h, List.drop_eq_nil_of_le h, List.append_nil]
theorem chg_at {α : Type} (f : α → α) {xs : List α} {k : Nat} (hk : k < xs.length) (h : k < (chg f xs k).length) : (chg f xs k)[k] = xs[k] := by
  have hl : ((xs.take k).map f).length = k := by rw [List.length_map, List.length_take]; omega
  have : (chg f xs k)[k]? = some xs[k] := by
    rw [chg, List.getElem?_append_right (by omega), hl, Nat.sub_self, List.getElem?_drop, Nat.add_zero, List.getElem?_eq_getElem hk]
  rw [List.getElem?_eq_getElem h] at this
  exact Option.some.inj this
theorem chg_set {α : Type} (f : α → α) {xs : List α} {k : Nat} (hk : k < xs.length) : (chg f xs k).set k (f xs[k]) = chg f xs (k + 1) := by
  have hl : ((xs.take k).map f).length = k := by rw [List.length_map, List.length_take]; omega
  unfold chg
  rw [List.set_append_right _ _ (by omega), hl, Nat.sub_self, List.drop_eq_getElem_cons hk, List.set_cons_zero, List.take_succ_eq_append_getElem hk, List.map_append, List.append_assoc]
  rfl
theorem chg_same {α : Type} (f : α → α) {xs : List α} {k : Nat} (hk : k < xs.length) (h : f xs[k] = xs[k]) : chg f xs (k + 1) = chg f xs k := by
  have hk' : k < (chg f xs k).length := by rw [chg_len]; exact hk
  rw [← chg_set f hk, h, ← chg_at f hk hk', List.set_getElem_self]
theorem l13Swap_spec (xs : List Int) (a b : Int) (h : xs.length ≤ 1099511627776) : Spec Try.prog 103 [ints xs, ci a, ci b] (intsT (xs.map (rep1 a b))) := by
  refine Spec_of mx Γ_ok Try.func103 rfl ?_
  conv => whnf
  refine ⟨rows_len ciL_len _, solid_ci _, ?_⟩
  conv => whnf
  refine ⟨by omega, rfl, _, app_ci [] xs, ?_⟩
  conv => whnf
  refine ⟨[(1,0),(2,0),(6,0),(7,0),(8,0)], fun m s => ∃ (k : Nat) (e : Int) (n : Nat) (r : List V), e = k ∧ m + k = xs.length ∧ n = xs.length ∧ r = rows ciL (chg (rep1 a b) xs k) ∧
    s = ⟨29, [(1, ci a), (2, ci b), (6, cnil), (7, .own 0 1 0 n n none), (8, ci e)], [some ⟨false, r⟩]⟩, xs.length, ⟨0, 0, 0 + xs.length, _, rfl, rfl, Nat.zero_add _, by rw [chg_zero, List.nil_append], rfl⟩, ?_⟩
  rintro m s ⟨k, _, n, _, rfl, hm, hn, rfl, rfl⟩
  conv => whnf
  split <;> rename_i h1
  all_goals simp only [decide_eq_true_eq, decide_eq_false_iff_not] at h1
  · conv => whnf
    have hk : k < xs.length := by omega
    have hk' : k < (chg (rep1 a b) xs k).length := by rw [chg_len]; exact hk
    refine ⟨by omega, ?_⟩
    conv => whnf
    refine ⟨_, takeN_own (k := k) (d := 0) (m := 1) (xs := chg (rep1 a b) xs k) ciL_len (Nat.zero_add _) hk' (by omega) rfl, ?_⟩
    rw [chg_at _ hk hk']
    conv => whnf
    generalize hb1 : (xs[k] == a) = b1
    have hf : rep1 a b xs[k] = if b1 then b else xs[k] := by rw [rep1, hb1]
    cases b1 with
    | true =>
      conv => whnf
      refine ⟨by omega, ?_⟩
      conv => whnf
      refine ⟨_, takeN_own (k := k) (d := 0) (m := 1) (xs := chg (rep1 a b) xs k) ciL_len (Nat.zero_add _) hk' (by omega) rfl, _, (congrArg (fun o => setC (rows ciL (chg (rep1 a b) xs k)) o (ciL b)) (Nat.zero_add _)).trans (setC_rows ciL_len (by omega) hk' _), ?_⟩
      conv => whnf
      refine ⟨m - 1, by omega, k + 1, _, n, _, wrap_id (by omega) (by omega), by omega, hn, ?_, rfl⟩
      rw [← chg_set _ hk, hf]
      rfl
    | false =>
      conv => whnf
      refine ⟨m - 1, by omega, k + 1, _, n, _, wrap_id (by omega) (by omega), by omega, hn, ?_, rfl⟩
      rw [chg_same _ hk hf]
  · conv => whnf
    rw [chg_all _ (by omega)]
    refine ⟨by rw [rows_len ciL_len, List.length_map, hn], ?_⟩
    rw [hn]
    simp only [intsT, List.length_map]
    rfl
theorem solid_repA (a : AtomC) : ∀ c ∈ tAtom a, solid c = true := solid_tAtom a
set_option maxHeartbeats 4000000 in
theorem specReplaceTerm_spec (x0 : QueryC) (x1 x2 : Int) (h0 : cQuery x0 ≤ 1048576) : Spec Try.prog 32 [vQuery x0, ci x1, ci x2] (wQuery (pReplaceTerm x0 x1 x2)) := by
  unfold cQuery cAtomS at h0
  refine Spec_of mx Γ_ok Try.func32 rfl ?_
  conv => whnf
  refine ⟨_, l13Swap_spec x0.1 x1 x2 (by omega), .inl rfl, .inr ?_⟩
  conv => whnf
  refine ⟨[(1,0),(2,0),(3,0),(6,0),(7,202),(8,0)], fun m s => ∃ (k : Nat) (e : Int) (n1 n : Nat) (r1 r : List V), e = k ∧ m + k = x0.2.length ∧ n1 = (x0.1.map (rep1 x1 x2)).length ∧ n = k ∧ r1 = rows ciL (x0.1.map (rep1 x1 x2)) ∧ r = rows tAtom ((x0.2.take k).map (repA x1 x2)) ∧
    s = ⟨44, [(1, ci x1), (2, ci x2), (3, .ptr 0 0), (6, .ptr 1 0), (7, .ptr 2 0), (8, ci e)], [some ⟨true, rQuery x0⟩, some ⟨true, [cnil, cnil]⟩, some ⟨true, [.own 3 1 0 n1 n1 none, .own 4 2 0 n n none]⟩, some ⟨false, r1⟩, some ⟨false, r⟩]⟩, x0.2.length, ⟨0, 0, _, 0, _, _, rfl, rfl, rfl, rfl, rfl, rfl, rfl⟩, ?_⟩
  rintro m s ⟨k, _, n1, n, _, _, rfl, hm, hn1, rfl, rfl, rfl, rfl⟩
  conv => whnf
  split <;> rename_i h1
  all_goals simp only [decide_eq_true_eq, decide_eq_false_iff_not] at h1
  · conv => whnf
    have hk : n < x0.2.length := by omega
    have hb := sumB_one (f := cAtom) hk
    have hcb : cAtom x0.2[n] = x0.2[n].2.length := rfl
    refine ⟨List.range 22, by kernel_rfl, ?_⟩
    conv => whnf
    refine ⟨by omega, rows_len rAtom_len _, ?_⟩
    conv => whnf
    refine ⟨_, takeN_rp_field (k := n) (d := 0) (m := 1) (r := [ci x0.2[n].1]) rAtom_len hk (by omega) rfl, ?_⟩
    conv => whnf
    refine ⟨by omega, rows_len rAtom_len _, ?_⟩
    conv => whnf
    refine ⟨_, takeN_rp_field (k := n) (d := 1) (m := 1) (r := [ints x0.2[n].2]) rAtom_len hk (by omega) rfl, ?_⟩
    conv => whnf
    refine ⟨_, l13Swap_spec x0.2[n].2 x1 x2 (by omega), .inl rfl, .inr ?_⟩
    conv => whnf
    refine ⟨by rw [rows_len ciL_len], ?_⟩
    conv => whnf
    refine ⟨_, rfl, .inr ⟨solid_tAtom (repA x1 x2 x0.2[n]), ?_⟩⟩
    conv => whnf
    refine ⟨by omega, by rw [rows_len tAtom_len, List.length_map, List.length_take, Nat.min_eq_left (by omega)], _, snoc_rows tAtom _ (repA x1 x2 x0.2[n]), ?_⟩
    conv => whnf
    refine ⟨m - 1, by omega, n + 1, _, n1, _, _, _, wrap_id (by omega) (by omega), by omega, hn1, rfl, rfl, ?_, rfl⟩
    rw [List.take_succ_eq_append_getElem hk, List.map_append]
    rfl
  · conv => whnf
    have hkk : n = x0.2.length := by omega
    rw [hkk, List.take_length]
    subst hn1
    refine ⟨by rw [rows_len ciL_len], by rw [rows_len tAtom_len, List.length_map], ?_⟩
    have e : wQuery (pReplaceTerm x0 x1 x2) = .agg [.tr 1 (x0.1.map (rep1 x1 x2)).length (rows ciL (x0.1.map (rep1 x1 x2))), .tr 2 x0.2.length (rows tAtom (x0.2.map (repA x1 x2)))] := by
      simp only [wQuery, tQuery, pReplaceTerm, wAtomS, intsT, List.length_map]
    rw [e]
    rfl
end Go.Proofs.YthfjngmbdbocbaaD
