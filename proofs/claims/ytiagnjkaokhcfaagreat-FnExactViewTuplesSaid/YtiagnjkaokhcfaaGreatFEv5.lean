/- Heads of bindings: the second program. -/
import Derived.Test.YtiagnjkaokhcfaaGreatFEv4
set_option linter.unusedVariables false
set_option linter.unusedSimpArgs false
set_option maxRecDepth 100000
namespace Go.Proofs.YtiagnjkaokhcfaaGreatD
open Go Go.Proofs

set_option maxHeartbeats 1000000 in
theorem l6Empty_spec : Spec Tryz.prog 211 [] (intsT (sB bNone)) := by
  refine Spec_of mx Γ_ok Tryz.func211 rfl ?_
  conv => whnf
  refine ⟨[(0,0),(1,0),(2,0)], fun m s => ∃ (k : Nat) (e : Int) (n : Nat) (r : List V), e = k ∧ m + k = 20 ∧ n = k ∧ r = rows ciL (List.replicate k (-1)) ∧
    s = ⟨20, [(0, cnil), (1, .own 0 1 0 n n none), (2, ci e)], [some ⟨false, r⟩]⟩, 20, ⟨0, 0, 0, _, rfl, rfl, rfl, rfl, rfl⟩, ?_⟩
  rintro m s ⟨k, _, n, _, rfl, hm, rfl, rfl, rfl⟩
  conv => whnf
  split <;> rename_i h1
  all_goals simp only [decide_eq_true_eq, decide_eq_false_iff_not] at h1
  · conv => whnf
    refine ⟨_, rfl, .inl ⟨flat1 rfl, ?_⟩⟩
    conv => whnf
    refine ⟨by omega, by rw [rows_len ciL_len, List.length_replicate], _, snoc_ci _ _, ?_⟩
    conv => whnf
    exact ⟨m - 1, by omega, n + 1, _, n + 1, _, wrap_id (by omega) (by omega), by omega, rfl, by rw [List.replicate_succ'], rfl⟩
  · conv => whnf
    have hn : n = 20 := by omega
    subst hn
    refine ⟨[(0,0),(1,0),(3,0)], fun m s => ∃ (k : Nat) (e : Int) (n : Nat) (r : List V), e = k ∧ m + k = 20 ∧ n = 20 + k ∧ r = rows ciL (List.replicate 20 (-1) ++ List.replicate k 0) ∧
      s = ⟨20, [(0, cnil), (1, .own 0 1 0 n n none), (3, ci e)], [some ⟨false, r⟩]⟩, 20, ⟨0, 0, 20, _, rfl, rfl, rfl, by rw [List.replicate_zero, List.append_nil], rfl⟩, ?_⟩
    rintro m s ⟨k, _, n, _, rfl, hm, rfl, rfl, rfl⟩
    conv => whnf
    split <;> rename_i h1
    all_goals simp only [decide_eq_true_eq, decide_eq_false_iff_not] at h1
    · conv => whnf
      refine ⟨_, rfl, .inl ⟨flat1 rfl, ?_⟩⟩
      conv => whnf
      refine ⟨by omega, by rw [rows_len ciL_len, List.length_append, List.length_replicate, List.length_replicate], _, snoc_ci _ _, ?_⟩
      conv => whnf
      exact ⟨m - 1, by omega, k + 1, _, 20 + (k + 1), _, wrap_id (by omega) (by omega), by omega, rfl, by rw [show List.replicate (k + 1) (0 : Int) = List.replicate k 0 ++ [0] from List.replicate_succ', List.append_assoc], rfl⟩
    · conv => whnf
      have hk : k = 20 := by omega
      subst hk
      refine ⟨by rw [rows_len ciL_len, List.length_append, List.length_replicate, List.length_replicate], ?_⟩
      rfl
/-- A term's value under a list of values. -/
def tS (v : List Int) (t : Int) : Int := if t < 0 then -1 - t else v.getD t.toNat 0
theorem l6Tuple_spec (xs v : List Int) (h : xs.length ≤ 1099511627776) (hv : v.length = 20) (ht : xs.all isTerm = true) : Spec Tryz.prog 192 [ints xs, ints v] (intsT (xs.map (tS v))) := by
  refine Spec_of mx Γ_ok Tryz.func192 rfl ?_
  conv => whnf
  refine ⟨[(0,0),(1,0),(4,0),(5,0),(6,0)], fun m s => ∃ (k : Nat) (e : Int) (n : Nat) (r : List V), e = k ∧ m + k = xs.length ∧ n = k ∧ r = rows ciL ((xs.take k).map (tS v)) ∧
    s = ⟨38, [(0, ints xs), (1, ints v), (4, cnil), (5, .own 0 1 0 n n none), (6, ci e)], [some ⟨false, r⟩]⟩, xs.length, ⟨0, 0, 0, _, rfl, rfl, rfl, rfl, rfl⟩, ?_⟩
  rintro m s ⟨k, _, n, _, rfl, hm, rfl, rfl, rfl⟩
  conv => whnf
  split <;> rename_i h1
  all_goals simp only [decide_eq_true_eq, decide_eq_false_iff_not] at h1
  · conv => whnf
    have hk : n < xs.length := by omega
    have hr : -80 ≤ xs[n] ∧ xs[n] ≤ 19 := by simpa [isTerm, inR] using fz_all_at ht hk
    refine ⟨by omega, rows_len ciL_len xs, ?_⟩
    conv => whnf
    refine ⟨_, takeN_rp (k := n) ciL_len hk, ?_⟩
    conv => whnf
    generalize hc1 : decide (xs[n] < 0) = c1
    cases c1 with
    | true =>
      have h2 : xs[n] < 0 := of_decide_eq_true hc1
      have hts : tS v xs[n] = IntKind.i64.wrap (-1 - xs[n]) := by rw [wrap_id (by omega) (by omega), tS, if_pos h2]
      conv => whnf
      refine ⟨by omega, rows_len ciL_len xs, ?_⟩
      conv => whnf
      refine ⟨_, takeN_rp (k := n) ciL_len hk, ?_⟩
      conv => whnf
      refine ⟨_, rfl, .inl ⟨flat1 rfl, ?_⟩⟩
      conv => whnf
      refine ⟨by omega, by rw [rows_len ciL_len, List.length_map, List.length_take]; congr 1; omega, _, snoc_ci _ _, ?_⟩
      conv => whnf
      refine ⟨m - 1, by omega, n + 1, _, _, _, wrap_id (by omega) (by omega), by omega, rfl, ?_, rfl⟩
      rw [List.take_succ_eq_append_getElem hk, List.map_append, List.map_singleton, hts]
    | false =>
      have h2 : ¬ xs[n] < 0 := of_decide_eq_false hc1
      obtain ⟨j, hjj⟩ : ∃ j : Nat, xs[n] = j := ⟨xs[n].toNat, by omega⟩
      have hj : j < v.length := by omega
      have hts : tS v xs[n] = v[j] := by rw [tS, if_neg h2, hjj, Int.toNat_natCast, getD_at hj]
      conv => whnf
      refine ⟨by omega, rows_len ciL_len xs, ?_⟩
      conv => whnf
      refine ⟨_, takeN_rp (k := n) ciL_len hk, ?_⟩
      rw [hjj]
      conv => whnf
      refine ⟨by omega, rows_len ciL_len v, ?_⟩
      conv => whnf
      refine ⟨_, takeN_rp (k := j) ciL_len hj, ?_⟩
      conv => whnf
      refine ⟨_, rfl, .inl ⟨flat1 rfl, ?_⟩⟩
      conv => whnf
      refine ⟨by omega, by rw [rows_len ciL_len, List.length_map, List.length_take]; congr 1; omega, _, snoc_ci _ _, ?_⟩
      conv => whnf
      refine ⟨m - 1, by omega, n + 1, _, _, _, wrap_id (by omega) (by omega), by omega, rfl, ?_, rfl⟩
      rw [List.take_succ_eq_append_getElem hk, List.map_append, List.map_singleton, hts]
  · conv => whnf
    have hkk : n = xs.length := by omega
    subst hkk
    rw [List.take_length]
    refine ⟨by rw [rows_len ciL_len, List.length_map], ?_⟩
    show V.tr 1 xs.length _ = intsT _
    rw [intsT, List.length_map]
/-- Lists that nobody writes. -/
def rL (xs : List Int) : List V := [ints xs]
theorem rL_len (xs : List Int) : (rL xs).length = 1 := rfl
theorem tL_ro' (xs : List Int) : roVs (tL xs) = rL xs := by
  show [roV (intsT xs)] = _
  rw [tL_ro]; rfl
def vLists (xs : List (List Int)) : V := .ro xs.length (rows rL xs)
theorem wLists_ro (xs : List (List Int)) : roV (wLists xs) = vLists xs := by
  show V.ro _ (roVs _) = _
  rw [roVs_rows tL_ro']; rfl
set_option maxHeartbeats 1000000 in
theorem l6Heads_spec (q : QueryE) (l : List (List Int)) (hq : cQuery q ≤ 1048576) (hl : l.length ≤ 1099511627776) (hv : ∀ v ∈ l, v.length = 20) (ht : q.1.all isTerm = true) : Spec Tryz.prog 104 [vQuery q, vLists l] (wLists (l.map fun v => q.1.map (tS v))) := by
  unfold cQuery at hq
  refine Spec_of mx Γ_ok Tryz.func104 rfl ?_
  conv => whnf
  refine ⟨[(1,0),(2,0),(4,0),(5,0),(6,0)], fun m s => ∃ (k : Nat) (e : Int) (n : Nat) (r : List V), e = k ∧ m + k = l.length ∧ n = k ∧ r = rows tL ((l.take k).map fun v => q.1.map (tS v)) ∧
    s = ⟨25, [(1, vLists l), (2, .ptr 0 0), (4, cnil), (5, .own 1 1 0 n n none), (6, ci e)], [some ⟨true, rQuery q⟩, some ⟨false, r⟩]⟩, l.length, ⟨0, 0, 0, _, rfl, rfl, rfl, rfl, rfl⟩, ?_⟩
  rintro m s ⟨k, _, n, _, rfl, hm, rfl, rfl, rfl⟩
  conv => whnf
  split <;> rename_i h1
  all_goals simp only [decide_eq_true_eq, decide_eq_false_iff_not] at h1
  · conv => whnf
    have hk : n < l.length := by omega
    refine ⟨List.range 11, by kernel_rfl, ?_⟩
    conv => whnf
    refine ⟨by omega, rows_len rL_len _, ?_⟩
    conv => whnf
    refine ⟨_, takeN_rp (k := n) rL_len hk, ?_⟩
    conv => whnf
    refine ⟨_, l6Tuple_spec q.1 l[n] (by omega) (hv _ (List.getElem_mem hk)) ht, .inl rfl, .inr ?_⟩
    conv => whnf
    refine ⟨by rw [rows_len ciL_len], ?_⟩
    conv => whnf
    refine ⟨_, rfl, .inr ⟨solid_tL (q.1.map (tS l[n])), ?_⟩⟩
    conv => whnf
    refine ⟨by omega, by rw [rows_len tL_len, List.length_map, List.length_take]; congr 1; omega, _, snoc_rows tL _ (q.1.map (tS l[n])), ?_⟩
    conv => whnf
    refine ⟨m - 1, by omega, n + 1, _, _, _, wrap_id (by omega) (by omega), by omega, rfl, ?_, rfl⟩
    rw [List.take_succ_eq_append_getElem hk, List.map_append, List.map_singleton]
  · conv => whnf
    have hkk : n = l.length := by omega
    subst hkk
    rw [List.take_length]
    refine ⟨by rw [rows_len tL_len, List.length_map], ?_⟩
    show V.tr 1 l.length _ = wLists _
    rw [wLists, List.length_map]
end Go.Proofs.YtiagnjkaokhcfaaGreatD
