/- Contracts and plain laws of this seat; no condition. -/
import Derived.Test.YtcjdfeafcmfgpaaGreatQ12
set_option linter.unusedVariables false
set_option linter.unusedSimpArgs false
set_option maxRecDepth 100000
namespace Go.Proofs.YtcjdfeafcmfgpaaGreatD
open Go Go.Proofs
def sB (b : Bnd) : List Int := (List.range 20).map (fun k => (b k).getD (-1)) ++ (List.range 20).map (fun k => if (b k).isSome then 1 else 0)
theorem sB_len (b : Bnd) : (sB b).length = 40 := rfl
theorem sB_at (b : Bnd) (i : Nat) : (sB b)[i]? = if i < 20 then some ((b i).getD (-1)) else if i < 40 then some (if (b (i - 20)).isSome then 1 else 0) else none := by
 unfold sB
 split
 ·rename_i h
  rw [List.getElem?_append_left (by simpa using h), List.getElem?_map, List.getElem?_range h]; rfl
 ·rename_i h
  rw [List.getElem?_append_right (by simp; omega)]
  simp only [List.length_map, List.length_range]
  split
  ·rw [List.getElem?_map, List.getElem?_range (by omega)]; rfl
  ·rw [List.getElem?_eq_none (by simp; omega)]
theorem bset_same (b : Bnd) (k : Nat) (v : Int) : bset b k v k = some v := by simp [bset]
theorem bset_ne {b : Bnd} {k i : Nat} {v : Int} (h : i ≠ k) : bset b k v i = b i := by simp [bset, h]
theorem sB_set (b : Bnd) {k : Nat} (hk : k < 20) (v : Int) : ((sB b).set k v).set (20 + k) 1 = sB (bset b k v) := by
 have hl := sB_len b
 apply List.ext_getElem?
 intro i
 rw [List.getElem?_set, List.getElem?_set, sB_at, sB_at, List.length_set, hl]
 by_cases h2 : 20 + k = i
 ·subst h2
  rw [if_pos rfl, if_pos (by omega), if_neg (by omega), if_pos (by omega), Nat.add_sub_cancel_left, bset_same]
  rfl
 ·rw [if_neg h2]
  by_cases h1 : k = i
  ·subst h1
   rw [if_pos rfl, if_pos (by omega), if_pos hk, bset_same]; rfl
  ·rw [if_neg h1]
   split
   ·rw [bset_ne (fun h => h1 h.symm)]
   ·split
    ·rw [bset_ne (by omega)]
    ·rfl
theorem setC_ci {xs : List Int} {k off : Nat} (hk : k < xs.length) (ho : off = k) (y : Int) : setC (rows ciL xs) off [ci y] = rows ciL (xs.set k y) := by
 subst ho
 have := setC_rows (f := ciL) ciL_len (by decide) hk y
 rwa [Nat.mul_one] at this
theorem takeN_sA {b : Bnd} {k off : Nat} (hk : k < 20) (ho : off = k) : takeN (rows ciL (sB b)) off 1 = some [ci ((b k).getD (-1))] := by
 have hl : k < (sB b).length := by rw [sB_len]; omega
 have h1 : (sB b)[k] = (b k).getD (-1) := by
  have := sB_at b k
  rw [if_pos hk, List.getElem?_eq_getElem hl] at this
  exact Option.some.inj this
 exact takeN_own (f := ciL) (k := k) (d := 0) (m := 1) (xs := sB b) ciL_len (by omega) hl (by omega) (by rw [h1]; rfl)
theorem takeN_sF {b : Bnd} {k off : Nat} (hk : k < 20) (ho : off = 20 + k) : takeN (rows ciL (sB b)) off 1 = some [ci (if (b k).isSome then 1 else 0)] := by
 have hl : 20 + k < (sB b).length := by rw [sB_len]; omega
 have h1 : (sB b)[20 + k] = if (b k).isSome then 1 else 0 := by
  have := sB_at b (20 + k)
  rw [if_neg (by omega), if_pos (by omega), List.getElem?_eq_getElem hl, Nat.add_sub_cancel_left] at this
  exact Option.some.inj this
 exact takeN_own (f := ciL) (k := 20 + k) (d := 0) (m := 1) (xs := sB b) ciL_len (by omega) hl (by omega) (by rw [h1]; rfl)
set_option maxHeartbeats 4000000 in
theorem l6Bind_spec (xs ys : List Int) (b : Bnd) (hx : xs.length ≤ 1099511627776) (hxy : xs.length = ys.length) (ht : xs.all isTerm = true) : Spec Tryz.prog 288 [ints xs, ints ys, ints (sB b)] (.tup [intsT (sB (bindGo xs ys b).1), cb (bindGo xs ys b).2]) := by
 refine Spec_of mx Γ_ok Tryz.func288 rfl ?_
 conv => whnf
 refine ⟨rows_len ciL_len _, solid_ci _, ?_⟩
 conv => whnf
 refine ⟨by rw [sB_len]; omega, rfl, _, app_ci [] (sB b), ?_⟩
 conv => whnf
 refine ⟨[(0,0),(1,0),(6,0),(7,0),(8,0),(9,0)], fun m s => ∃ (k : Nat) (e : Int) (x : Bnd), e = k ∧ m + k = xs.length ∧ bindGo xs ys b = bindGo (xs.drop k) (ys.drop k) x ∧
  s = ⟨65, [(0, ints xs), (1, ints ys), (6, cnil), (7, cb false), (8, .own 0 1 0 40 40 none), (9, ci e)], [some ⟨false, rows ciL (sB x)⟩]⟩, xs.length, ⟨0, 0, b, rfl, rfl, rfl, rfl⟩, ?_⟩
 rintro m s ⟨k, _, x, rfl, hm, hj, rfl⟩
 conv => whnf
 split <;> rename_i h3
 all_goals simp only [decide_eq_true_eq, decide_eq_false_iff_not] at h3
 ·conv => whnf
  have hk : k < xs.length := by omega
  have hky : k < ys.length := by omega
  have htk := fz_all_at ht hk
  have hr : -80 ≤ xs[k] ∧ xs[k] ≤ 19 := by simpa [isTerm, inR] using htk
  rw [List.drop_eq_getElem_cons hk, List.drop_eq_getElem_cons hky, bindGo] at hj
  refine ⟨by omega, rows_len ciL_len _, ?_⟩
  conv => whnf
  refine ⟨_, takeN_rp (k := k) ciL_len hk, ?_⟩
  conv => whnf
  generalize hc1 : decide (xs[k] < 0) = c1
  cases c1 with
  | true =>
   have h1 : xs[k] < 0 := of_decide_eq_true hc1
   rw [if_pos h1] at hj
   conv => whnf
   refine ⟨by omega, rows_len ciL_len _, ?_⟩
   conv => whnf
   refine ⟨_, takeN_rp (k := k) ciL_len hky, ?_⟩
   have hw : IntKind.i64.wrap (-1 - xs[k]) = -1 - xs[k] := wrap_id (by omega) (by omega)
   rw [hw]
   conv => whnf
   split <;> rename_i h5
   ·have h6 : ¬ -1 - xs[k] = ys[k] := by simpa using h5
    conv => whnf
    rw [hj, if_neg h6]
    refine ⟨by rw [rows_len ciL_len]; rfl, ?_⟩
    rfl
   ·have h6 : -1 - xs[k] = ys[k] := by simpa using h5
    conv => whnf
    rw [if_pos h6] at hj
    exact ⟨m - 1, by omega, k + 1, _, x, wrap_id (by omega) (by omega), by omega, hj, rfl⟩
  | false =>
   have h1 : ¬ xs[k] < 0 := of_decide_eq_false hc1
   rw [if_neg h1] at hj
   obtain ⟨j, hjj⟩ : ∃ j : Nat, xs[k] = j := ⟨xs[k].toNat, by omega⟩
   rw [hjj] at hj ⊢
   rw [Int.toNat_natCast] at hj
   have hj20 : j < 20 := by omega
   have hw : IntKind.i64.wrap (20 + (j : Int)) = ((20 + j : Nat) : Int) := by rw [wrap_id (by omega) (by omega)]; omega
   conv => whnf
   rw [hw]
   refine ⟨by omega, ?_⟩
   conv => whnf
   refine ⟨_, takeN_sF (b := x) (k := j) (off := 0 + ((20 + j : Nat) : Int).toNat * 1) hj20 (by omega), ?_⟩
   conv => whnf
   cases hxj : x j with
   | none =>
    rw [hxj] at hj
    conv => whnf
    refine ⟨by omega, rows_len ciL_len _, ?_⟩
    conv => whnf
    refine ⟨_, takeN_rp (k := k) ciL_len hky, ?_⟩
    conv => whnf
    refine ⟨by omega, ?_⟩
    conv => whnf
    refine ⟨_, takeN_sA (b := x) (k := j) (off := 0 + (j : Int).toNat * 1) hj20 (by omega), _, setC_ci (xs := sB x) (k := j) (by rw [sB_len]; omega) (by show 0 + (j : Int).toNat * 1 = j; omega) ys[k], ?_⟩
    conv => whnf
    rw [hw]
    refine ⟨by omega, ?_⟩
    conv => whnf
    have hl2 : 20 + j < ((sB x).set j ys[k]).length := by rw [List.length_set, sB_len]; omega
    refine ⟨_, takeN_own (f := ciL) (k := 20 + j) (d := 0) (m := 1) (xs := (sB x).set j ys[k]) ciL_len (by show 0 + ((20 + j : Nat) : Int).toNat * 1 = _; omega) hl2 (by omega) rfl, _, setC_ci (xs := (sB x).set j ys[k]) (k := 20 + j) hl2 (by show 0 + ((20 + j : Nat) : Int).toNat * 1 = _; omega) 1, ?_⟩
    rw [sB_set x hj20]
    conv => whnf
    exact ⟨m - 1, by omega, k + 1, _, bset x j ys[k], wrap_id (by omega) (by omega), by omega, hj, rfl⟩
   | some u =>
    rw [hxj] at hj
    conv => whnf
    refine ⟨List.range 10, by kernel_rfl, ?_⟩
    conv => whnf
    refine ⟨by omega, ?_⟩
    conv => whnf
    refine ⟨_, takeN_sA (b := x) (k := j) (off := 0 + (j : Int).toNat * 1) hj20 (by omega), ?_⟩
    rw [hxj]
    conv => whnf
    refine ⟨by omega, rows_len ciL_len _, ?_⟩
    conv => whnf
    refine ⟨_, takeN_rp (k := k) ciL_len hky, ?_⟩
    conv => whnf
    split <;> rename_i h5
    ·have h6 : ¬ u = ys[k] := by simpa using h5
     conv => whnf
     rw [hj]
     simp only [if_neg h6]
     refine ⟨by rw [rows_len ciL_len]; rfl, ?_⟩
     rfl
    ·have h6 : u = ys[k] := by simpa using h5
     conv => whnf
     simp only [if_pos h6] at hj
     exact ⟨m - 1, by omega, k + 1, _, x, wrap_id (by omega) (by omega), by omega, hj, rfl⟩
 ·conv => whnf
  rw [hj, drop_end (by omega)]
  have : ∀ l b, bindGo [] l b = (b, true) := fun l b => by cases l <;> rfl
  rw [this]
  refine ⟨by rw [rows_len ciL_len]; rfl, ?_⟩
  rfl
set_option maxHeartbeats 1000000 in
theorem l6Empty_spec : Spec Tryz.prog 249 [] (intsT (sB bNone)) := by
 refine Spec_of mx Γ_ok Tryz.func249 rfl ?_
 conv => whnf
 refine ⟨[(0,0),(1,0),(2,0)], fun m s => ∃ (k : Nat) (e : Int) (n : Nat) (r : List V), e = k ∧ m + k = 20 ∧ n = k ∧ r = rows ciL (List.replicate k (-1)) ∧
  s = ⟨20, [(0, cnil), (1, .own 0 1 0 n n none), (2, ci e)], [some ⟨false, r⟩]⟩, 20, ⟨0, 0, 0, _, rfl, rfl, rfl, rfl, rfl⟩, ?_⟩
 rintro m s ⟨k, _, n, _, rfl, hm, rfl, rfl, rfl⟩
 conv => whnf
 split <;> rename_i h1
 all_goals simp only [decide_eq_true_eq, decide_eq_false_iff_not] at h1
 ·conv => whnf
  refine ⟨_, rfl, .inl ⟨flat1 rfl, ?_⟩⟩
  conv => whnf
  refine ⟨by omega, by rw [rows_len ciL_len, List.length_replicate], _, snoc_ci _ _, ?_⟩
  conv => whnf
  exact ⟨m - 1, by omega, n + 1, _, n + 1, _, wrap_id (by omega) (by omega), by omega, rfl, by rw [List.replicate_succ'], rfl⟩
 ·conv => whnf
  have hn : n = 20 := by omega
  subst hn
  refine ⟨[(0,0),(1,0),(3,0)], fun m s => ∃ (k : Nat) (e : Int) (n : Nat) (r : List V), e = k ∧ m + k = 20 ∧ n = 20 + k ∧ r = rows ciL (List.replicate 20 (-1) ++ List.replicate k 0) ∧
   s = ⟨20, [(0, cnil), (1, .own 0 1 0 n n none), (3, ci e)], [some ⟨false, r⟩]⟩, 20, ⟨0, 0, 20, _, rfl, rfl, rfl, by rw [List.replicate_zero, List.append_nil], rfl⟩, ?_⟩
  rintro m s ⟨k, _, n, _, rfl, hm, rfl, rfl, rfl⟩
  conv => whnf
  split <;> rename_i h1
  all_goals simp only [decide_eq_true_eq, decide_eq_false_iff_not] at h1
  ·conv => whnf
   refine ⟨_, rfl, .inl ⟨flat1 rfl, ?_⟩⟩
   conv => whnf
   refine ⟨by omega, by rw [rows_len ciL_len, List.length_append, List.length_replicate, List.length_replicate], _, snoc_ci _ _, ?_⟩
   conv => whnf
   exact ⟨m - 1, by omega, k + 1, _, 20 + (k + 1), _, wrap_id (by omega) (by omega), by omega, rfl, by rw [show List.replicate (k + 1) (0 : Int) = List.replicate k 0 ++ [0] from List.replicate_succ', List.append_assoc], rfl⟩
  ·conv => whnf
   have hk : k = 20 := by omega
   subst hk
   refine ⟨by rw [rows_len ciL_len, List.length_append, List.length_replicate, List.length_replicate], ?_⟩
   rfl
def tS (v : List Int) (t : Int) : Int := if t < 0 then -1 - t else v.getD t.toNat 0
theorem l6Tuple_spec (xs v : List Int) (h : xs.length ≤ 1099511627776) (hv : v.length = 20) (ht : xs.all isTerm = true) : Spec Tryz.prog 214 [ints xs, ints v] (intsT (xs.map (tS v))) := by
 refine Spec_of mx Γ_ok Tryz.func214 rfl ?_
 conv => whnf
 refine ⟨[(0,0),(1,0),(4,0),(5,0),(6,0)], fun m s => ∃ (k : Nat) (e : Int) (n : Nat) (r : List V), e = k ∧ m + k = xs.length ∧ n = k ∧ r = rows ciL ((xs.take k).map (tS v)) ∧
  s = ⟨38, [(0, ints xs), (1, ints v), (4, cnil), (5, .own 0 1 0 n n none), (6, ci e)], [some ⟨false, r⟩]⟩, xs.length, ⟨0, 0, 0, _, rfl, rfl, rfl, rfl, rfl⟩, ?_⟩
 rintro m s ⟨k, _, n, _, rfl, hm, rfl, rfl, rfl⟩
 conv => whnf
 split <;> rename_i h1
 all_goals simp only [decide_eq_true_eq, decide_eq_false_iff_not] at h1
 ·conv => whnf
  have hk : n < xs.length := by omega
  have hr : -80 ≤ xs[n] ∧ xs[n] ≤ 19 := by simpa [isTerm, inR] using fz_all_at ht hk
  refine ⟨by omega, rows_len ciL_len xs, ?_⟩
  conv => whnf
  refine ⟨_, takeN_rp (k := n) ciL_len hk, ?_⟩
  conv => whnf
  generalize hc1 : decide (xs[n] < 0) = c1
  cases c1 with
  | true =>
   have h2 : xs[n] < 0 := of_decide_eq_true hc1
   have hts : tS v xs[n] = IntKind.i64.wrap (-1 - xs[n]) := by rw [wrap_id (by omega) (by omega), tS, if_pos h2]
   conv => whnf
   refine ⟨by omega, rows_len ciL_len xs, ?_⟩
   conv => whnf
   refine ⟨_, takeN_rp (k := n) ciL_len hk, ?_⟩
   conv => whnf
   refine ⟨_, rfl, .inl ⟨flat1 rfl, ?_⟩⟩
   conv => whnf
   refine ⟨by omega, by rw [rows_len ciL_len, List.length_map, List.length_take]; congr 1; omega, _, snoc_ci _ _, ?_⟩
   conv => whnf
   refine ⟨m - 1, by omega, n + 1, _, _, _, wrap_id (by omega) (by omega), by omega, rfl, ?_, rfl⟩
   rw [List.take_succ_eq_append_getElem hk, List.map_append, List.map_singleton, hts]
  | false =>
   have h2 : ¬ xs[n] < 0 := of_decide_eq_false hc1
   obtain ⟨j, hjj⟩ : ∃ j : Nat, xs[n] = j := ⟨xs[n].toNat, by omega⟩
   have hj : j < v.length := by omega
   have hts : tS v xs[n] = v[j] := by rw [tS, if_neg h2, hjj, Int.toNat_natCast, getD_at hj]
   conv => whnf
   refine ⟨by omega, rows_len ciL_len xs, ?_⟩
   conv => whnf
   refine ⟨_, takeN_rp (k := n) ciL_len hk, ?_⟩
   rw [hjj]
   conv => whnf
   refine ⟨by omega, rows_len ciL_len v, ?_⟩
   conv => whnf
   refine ⟨_, takeN_rp (k := j) ciL_len hj, ?_⟩
   conv => whnf
   refine ⟨_, rfl, .inl ⟨flat1 rfl, ?_⟩⟩
   conv => whnf
   refine ⟨by omega, by rw [rows_len ciL_len, List.length_map, List.length_take]; congr 1; omega, _, snoc_ci _ _, ?_⟩
   conv => whnf
   refine ⟨m - 1, by omega, n + 1, _, _, _, wrap_id (by omega) (by omega), by omega, rfl, ?_, rfl⟩
   rw [List.take_succ_eq_append_getElem hk, List.map_append, List.map_singleton, hts]
 ·conv => whnf
  have hkk : n = xs.length := by omega
  subst hkk
  rw [List.take_length]
  refine ⟨by rw [rows_len ciL_len, List.length_map], ?_⟩
  show V.tr 1 xs.length _ = intsT _
  rw [intsT, List.length_map]
def rL (xs : List Int) : List V := [ints xs]
theorem rL_len (xs : List Int) : (rL xs).length = 1 := rfl
theorem tL_ro' (xs : List Int) : roVs (tL xs) = rL xs := by
 show [roV (intsT xs)] = _
 rw [tL_ro]; rfl
def vLists (xs : List (List Int)) : V := .ro xs.length (rows rL xs)
theorem wLists_ro (xs : List (List Int)) : roV (wLists xs) = vLists xs := by
 show V.ro _ (roVs _) = _
 rw [roVs_rows tL_ro']; rfl
set_option maxHeartbeats 1000000 in
theorem l6Heads_spec (q : QueryE) (l : List (List Int)) (hq : cQuery q ≤ 1048576) (hl : l.length ≤ 1099511627776) (hv : ∀ v ∈ l, v.length = 20) (ht : q.1.all isTerm = true) : Spec Tryz.prog 110 [vQuery q, vLists l] (wLists (l.map fun v => q.1.map (tS v))) := by
 unfold cQuery at hq
 refine Spec_of mx Γ_ok Tryz.func110 rfl ?_
 conv => whnf
 refine ⟨[(1,0),(2,0),(4,0),(5,0),(6,0)], fun m s => ∃ (k : Nat) (e : Int) (n : Nat) (r : List V), e = k ∧ m + k = l.length ∧ n = k ∧ r = rows tL ((l.take k).map fun v => q.1.map (tS v)) ∧
  s = ⟨25, [(1, vLists l), (2, .ptr 0 0), (4, cnil), (5, .own 1 1 0 n n none), (6, ci e)], [some ⟨true, rQuery q⟩, some ⟨false, r⟩]⟩, l.length, ⟨0, 0, 0, _, rfl, rfl, rfl, rfl, rfl⟩, ?_⟩
 rintro m s ⟨k, _, n, _, rfl, hm, rfl, rfl, rfl⟩
 conv => whnf
 split <;> rename_i h1
 all_goals simp only [decide_eq_true_eq, decide_eq_false_iff_not] at h1
 ·conv => whnf
  have hk : n < l.length := by omega
  refine ⟨List.range 11, by kernel_rfl, ?_⟩
  conv => whnf
  refine ⟨by omega, rows_len rL_len _, ?_⟩
  conv => whnf
  refine ⟨_, takeN_rp (k := n) rL_len hk, ?_⟩
  conv => whnf
  refine ⟨_, l6Tuple_spec q.1 l[n] (by omega) (hv _ (List.getElem_mem hk)) ht, .inl rfl, .inr ?_⟩
  conv => whnf
  refine ⟨by rw [rows_len ciL_len], ?_⟩
  conv => whnf
  refine ⟨_, rfl, .inr ⟨solid_tL (q.1.map (tS l[n])), ?_⟩⟩
  conv => whnf
  refine ⟨by omega, by rw [rows_len tL_len, List.length_map, List.length_take]; congr 1; omega, _, snoc_rows tL _ (q.1.map (tS l[n])), ?_⟩
  conv => whnf
  refine ⟨m - 1, by omega, n + 1, _, _, _, wrap_id (by omega) (by omega), by omega, rfl, ?_, rfl⟩
  rw [List.take_succ_eq_append_getElem hk, List.map_append, List.map_singleton]
 ·conv => whnf
  have hkk : n = l.length := by omega
  subst hkk
  rw [List.take_length]
  refine ⟨by rw [rows_len tL_len, List.length_map], ?_⟩
  show V.tr 1 l.length _ = wLists _
  rw [wLists, List.length_map]
end Go.Proofs.YtcjdfeafcmfgpaaGreatD
