/- Contracts and plain laws of this seat; no condition. -/
import Derived.Test.YtcjdfeafcmfgpaaGreatQ11
import Derived.Test.YtcjdfeafcmfgpaaGreatQ18
import Derived.Test.YtcjdfeafcmfgpaaGreatQ16
set_option linter.unusedVariables false
set_option linter.unusedSimpArgs false
set_option maxRecDepth 100000
namespace Go.Proofs.YtcjdfeafcmfgpaaGreatD
open Go Go.Proofs
abbrev QueryR := List Int × List AtomC
def ren1 (to : List Int) (x : Int) : Int := if inR x 0 (to.length - 1) then to.getD x.toNat 0 else x
def renA (to : List Int) (a : AtomC) : AtomC := (a.1, a.2.map (ren1 to))
def renQ (to : List Int) (q : QueryR) : QueryR := (q.1.map (ren1 to), q.2.map (renA to))
theorem l4Term_spec (x : Int) (to : List Int) (h : to.length ≤ 1099511627776) : Spec Tryz.prog 314 [ci x, ints to] (ci (ren1 to x)) := by
 have hw : IntKind.i64.wrap ((to.length : Int) - 1) = to.length - 1 := wrap_id (by omega) (by omega)
 refine Spec_of mx Γ_ok Tryz.func314 rfl ?_
 conv => whnf
 refine ⟨_, l1In_spec _ _ _, .inl rfl, .inl ?_⟩
 rw [hw]
 conv => whnf
 unfold ren1
 generalize hb1 : inR x 0 (to.length - 1) = b1
 cases b1 with
 | false =>
  conv => whnf
  rfl
 | true =>
  conv => whnf
  have hr : 0 ≤ x ∧ x ≤ (to.length : Int) - 1 := by simpa [inR] using hb1
  obtain ⟨q, rfl⟩ : ∃ q : Nat, x = q := ⟨x.toNat, by omega⟩
  have hq : q < to.length := by omega
  refine ⟨by omega, rows_len ciL_len to, ?_⟩
  conv => whnf
  refine ⟨_, takeN_rp (k := q) ciL_len hq, ?_⟩
  conv => whnf
  rw [if_pos rfl, Int.toNat_natCast, getD_at hq]
  rfl
theorem l4Terms_spec (xs to : List Int) (h : xs.length ≤ 1048576) (ht : to.length ≤ 1099511627776) : Spec Tryz.prog 282 [ints xs, ints to] (intsT (xs.map (ren1 to))) := by
 refine Spec_of mx Γ_ok Tryz.func282 rfl ?_
 conv => whnf
 refine ⟨[(0,0),(1,0),(4,0),(5,0),(6,0)], fun m s => ∃ (k : Nat) (e : Int) (n : Nat) (r : List V), e = k ∧ m + k = xs.length ∧ n = k ∧ r = rows ciL ((xs.take k).map (ren1 to)) ∧
  s = ⟨26, [(0, ints xs), (1, ints to), (4, cnil), (5, .own 0 1 0 n n none), (6, ci e)], [some ⟨false, r⟩]⟩, xs.length, ⟨0, 0, 0, _, rfl, rfl, rfl, rfl, rfl⟩, ?_⟩
 rintro m s ⟨k, _, n, _, rfl, hm, rfl, rfl, rfl⟩
 conv => whnf
 split <;> rename_i h1
 all_goals simp only [decide_eq_true_eq, decide_eq_false_iff_not] at h1
 ·conv => whnf
  have hk : n < xs.length := by omega
  refine ⟨by omega, rows_len ciL_len _, ?_⟩
  conv => whnf
  refine ⟨_, takeN_rp (k := n) ciL_len hk, ?_⟩
  conv => whnf
  refine ⟨_, l4Term_spec xs[n] to ht, .inl rfl, .inl ?_⟩
  conv => whnf
  refine ⟨_, rfl, .inl ⟨flat1 rfl, ?_⟩⟩
  conv => whnf
  refine ⟨by omega, by rw [rows_len ciL_len, List.length_map, List.length_take, Nat.min_eq_left (by omega)], _, snoc_ci _ _, ?_⟩
  conv => whnf
  refine ⟨m - 1, by omega, n + 1, _, _, _, wrap_id (by omega) (by omega), by omega, rfl, ?_, rfl⟩
  rw [List.take_succ_eq_append_getElem hk, List.map_append]
  rfl
 ·conv => whnf
  have hkk : n = xs.length := by omega
  subst hkk
  rw [List.take_length]
  refine ⟨by rw [rows_len ciL_len, List.length_map], ?_⟩
  simp only [intsT, List.length_map]
  rfl
set_option maxHeartbeats 4000000 in
theorem renameQuery_spec (x0 : QueryR) (to : List Int) (h0 : cQuery x0 ≤ 1048576) (ht : to.length ≤ 1099511627776) : Spec Tryz.prog 230 [vQuery x0, ints to] (wQuery (renQ to x0)) := by
 unfold cQuery cAtomS at h0
 refine Spec_of mx Γ_ok Tryz.func230 rfl ?_
 conv => whnf
 refine ⟨_, l4Terms_spec x0.1 to (by omega) ht, .inl rfl, .inr ?_⟩
 conv => whnf
 refine ⟨[(1,0),(2,0),(4,0),(5,202),(6,0)], fun m s => ∃ (k : Nat) (e : Int) (n1 n : Nat) (r1 r : List V), e = k ∧ m + k = x0.2.length ∧ n1 = (x0.1.map (ren1 to)).length ∧ n = k ∧ r1 = rows ciL (x0.1.map (ren1 to)) ∧ r = rows tAtom ((x0.2.take k).map (renA to)) ∧
  s = ⟨40, [(1, ints to), (2, .ptr 0 0), (4, .ptr 1 0), (5, .ptr 2 0), (6, ci e)], [some ⟨true, rQuery x0⟩, some ⟨true, [cnil, cnil]⟩, some ⟨true, [.own 3 1 0 n1 n1 none, .own 4 2 0 n n none]⟩, some ⟨false, r1⟩, some ⟨false, r⟩]⟩, x0.2.length, ⟨0, 0, _, 0, _, _, rfl, rfl, rfl, rfl, rfl, rfl, rfl⟩, ?_⟩
 rintro m s ⟨k, _, n1, n, _, _, rfl, hm, hn1, rfl, rfl, rfl, rfl⟩
 conv => whnf
 split <;> rename_i h1
 all_goals simp only [decide_eq_true_eq, decide_eq_false_iff_not] at h1
 ·conv => whnf
  have hk : n < x0.2.length := by omega
  have hb := sumB_one (f := cAtom) hk
  have hcb : cAtom x0.2[n] = x0.2[n].2.length := rfl
  refine ⟨List.range 21, by kernel_rfl, ?_⟩
  conv => whnf
  refine ⟨by omega, rows_len rAtom_len _, ?_⟩
  conv => whnf
  refine ⟨_, takeN_rp_field (k := n) (d := 0) (m := 1) (r := [ci x0.2[n].1]) rAtom_len hk (by omega) rfl, ?_⟩
  conv => whnf
  refine ⟨by omega, rows_len rAtom_len _, ?_⟩
  conv => whnf
  refine ⟨_, takeN_rp_field (k := n) (d := 1) (m := 1) (r := [ints x0.2[n].2]) rAtom_len hk (by omega) rfl, ?_⟩
  conv => whnf
  refine ⟨_, l4Terms_spec x0.2[n].2 to (by omega) ht, .inl rfl, .inr ?_⟩
  conv => whnf
  refine ⟨by rw [rows_len ciL_len], ?_⟩
  conv => whnf
  refine ⟨_, rfl, .inr ⟨solid_tAtom (renA to x0.2[n]), ?_⟩⟩
  conv => whnf
  refine ⟨by omega, by rw [rows_len tAtom_len, List.length_map, List.length_take, Nat.min_eq_left (by omega)], _, snoc_rows tAtom _ (renA to x0.2[n]), ?_⟩
  conv => whnf
  refine ⟨m - 1, by omega, n + 1, _, n1, _, _, _, wrap_id (by omega) (by omega), by omega, hn1, rfl, rfl, ?_, rfl⟩
  rw [List.take_succ_eq_append_getElem hk, List.map_append]
  rfl
 ·conv => whnf
  have hkk : n = x0.2.length := by omega
  rw [hkk, List.take_length]
  subst hn1
  refine ⟨by rw [rows_len ciL_len], by rw [rows_len tAtom_len, List.length_map], ?_⟩
  have e : wQuery (renQ to x0) = .agg [.tr 1 (x0.1.map (ren1 to)).length (rows ciL (x0.1.map (ren1 to))), .tr 2 x0.2.length (rows tAtom (x0.2.map (renA to)))] := by
   simp only [wQuery, tQuery, renQ, wAtomS, intsT, List.length_map]
  rw [e]
  rfl
theorem ren1_nil (x : Int) : ren1 [] x = x := by
 unfold ren1
 rw [if_neg]
 simp [inR]
 omega
theorem renQ_nil (q : QueryR) : renQ [] q = q := by
 have h1 : ∀ xs : List Int, xs.map (ren1 []) = xs := fun xs => by
  rw [List.map_congr_left (g := id) (fun x _ => ren1_nil x), List.map_id]
 have h2 : ∀ xs : List AtomC, xs.map (renA []) = xs := fun xs => by
  rw [List.map_congr_left (g := id) (fun x _ => by simp only [renA, h1]; rfl), List.map_id]
 unfold renQ
 rw [h1, h2]
theorem l4Copy_spec (x0 : QueryR) (h0 : cQuery x0 ≤ 1048576) : Spec Tryz.prog 125 [vQuery x0] (wQuery x0) := by
 have hs := renameQuery_spec x0 [] h0 (by simp)
 rw [renQ_nil] at hs
 refine Spec_of mx Γ_ok Tryz.func125 rfl ?_
 conv => whnf
 refine .inl ?_
 conv => whnf
 refine ⟨_, _, rfl, rfl, ?_⟩
 conv => whnf
 refine ⟨_, hs, .inr (closed_wQuery _), .inr ?_⟩
 conv => whnf
 refine ⟨by rw [rows_len ciL_len], by rw [rows_len tAtom_len], rfl⟩
abbrev AtomD := Int × List Int
abbrev QueryW := List Int × List AtomD
def gC (c : Cur) : List (Option Obj) := [some ⟨false, curC c⟩]
theorem l2Term_g (c : Cur) (h : goodC c) : SpecG Tryz.prog 275 [.ptr 0 0] (gC c) fun r g2 => ∃ (t : Int) (c' : Cur), r = ci t ∧ goodC c' ∧ g2 = gC c' := by
 unfold gC
 refine SpecG_of mx Γ_ok 1 Tryz.func275 rfl rfl (by decide) ?_
 conv => whnf
 refine .inr (.inl ?_)
 conv => whnf
 refine ⟨curC_ne c, ?_⟩
 conv => whnf
 refine ⟨_, _, _, l1Once_spec c 4 h (by omega), ?_⟩
 conv => whnf
 refine .inl ?_
 conv => whnf
 have h1 := belowP_good h 4
 generalize (belowP c 4).2 = c1 at h1 ⊢
 generalize ((belowP c 4).1 == 0) = b
 cases b with
 | true =>
  conv => whnf
  refine .inr (.inl ?_)
  conv => whnf
  refine ⟨curC_ne c1, ?_⟩
  conv => whnf
  refine ⟨_, _, _, l1Below_spec c1 3 h1 (by omega), ?_⟩
  conv => whnf
  refine .inl ?_
  conv => whnf
  refine ⟨[], ?_⟩
  conv => whnf
  exact ⟨_, _, rfl, belowP_good h1 3, rfl⟩
 | false =>
  conv => whnf
  refine .inr (.inl ?_)
  conv => whnf
  refine ⟨curC_ne c1, ?_⟩
  conv => whnf
  refine ⟨_, _, _, l1Below_spec c1 4 h1 (by omega), ?_⟩
  conv => whnf
  refine .inl ?_
  conv => whnf
  refine ⟨[], ?_⟩
  conv => whnf
  exact ⟨_, _, rfl, belowP_good h1 4, rfl⟩
theorem l2Any_g (c : Cur) (h : goodC c) : SpecG Tryz.prog 209 [.ptr 0 0] (gC c) fun r g2 => ∃ (t : Int) (c' : Cur), r = ci t ∧ goodC c' ∧ g2 = gC c' := by
 unfold gC
 refine SpecG_of mx Γ_ok 1 Tryz.func209 rfl rfl (by decide) ?_
 conv => whnf
 refine .inr (.inl ?_)
 conv => whnf
 refine ⟨curC_ne c, ?_⟩
 conv => whnf
 refine ⟨_, _, _, l1Once_spec c 6 h (by omega), ?_⟩
 conv => whnf
 refine .inl ?_
 conv => whnf
 have h1 := belowP_good h 6
 generalize (belowP c 6).2 = c1 at h1 ⊢
 generalize ((belowP c 6).1 == 0) = b
 cases b with
 | true =>
  conv => whnf
  refine .inr (.inl ?_)
  conv => whnf
  refine ⟨curC_ne c1, ?_⟩
  conv => whnf
  refine ⟨rfl, ?_⟩
  conv => whnf
  refine ⟨_, _, _, l1PickInt_spec c1 [19, 20, -80, -81, -1, 99] h1 (by decide) (by decide), ?_⟩
  conv => whnf
  refine .inl ?_
  conv => whnf
  refine ⟨[], ?_⟩
  conv => whnf
  exact ⟨_, _, rfl, belowP_good h1 6, rfl⟩
 | false =>
  conv => whnf
  refine .inr (.inr ⟨[0], [], ?_⟩)
  conv => whnf
  refine ⟨_, l2Term_g c1 h1, fun r g2 hP => ?_⟩
  obtain ⟨t, c2, rfl, h2, rfl⟩ := hP
  refine .inl ?_
  conv => whnf
  refine ⟨[], ?_⟩
  conv => whnf
  exact ⟨_, _, rfl, h2, rfl⟩
set_option maxHeartbeats 2000000 in
theorem l3Atom_g (s : List Int) (c : Cur) (hs : sOk s) (h : goodC c) : SpecG Tryz.prog 274 [.ptr 0 0, vSchema s] (gC c) fun r g2 => ∃ (a : AtomD) (c' : Cur), r = wAtom a ∧ a.2.length ≤ 3 ∧ goodC c' ∧ g2 = gC c' := by
 unfold gC
 have hsl := hs.2.2
 refine SpecG_of mx Γ_ok 1 Tryz.func274 rfl rfl (by decide) ?_
 conv => whnf
 refine .inr (.inl ?_)
 conv => whnf
 refine ⟨curC_ne c, ?_⟩
 conv => whnf
 refine ⟨_, _, _, l1Below_spec c s.length h (by omega), ?_⟩
 conv => whnf
 refine .inl ?_
 conv => whnf
 obtain ⟨q, hq, hql⟩ := below_idx hs c
 have hat := sOk_at hs hql
 rw [hq]
 have hc := belowP_good h s.length
 generalize (belowP c s.length).2 = c0 at hc ⊢
 obtain ⟨N, hN⟩ : ∃ N : Nat, s[q] = N := ⟨s[q].toNat, by omega⟩
 have hN3 : N ≤ 3 := by omega
 refine ⟨[(0,0),(3,0),(4,0),(5,201),(6,0)], fun m st => ∃ (i : Nat) (e : Int) (a : List Int) (c1 : Cur) (k : Nat) (cc r : List V), e = i ∧ m + i = N ∧ goodC c1 ∧ k = a.length ∧ a.length = i ∧ cc = curC c1 ∧ r = rows ciL a ∧
  st = ⟨33, [(0, .ptr 0 0), (3, .ptr 1 0), (4, .ptr 2 0), (5, .ptr 3 0), (6, ci e)], [some ⟨false, cc⟩, some ⟨true, [ints s]⟩, some ⟨true, [ci 0, cnil]⟩, some ⟨true, [ci q, .own 4 1 0 k k none]⟩, some ⟨false, r⟩]⟩, N, ⟨0, 0, [], c0, 0, _, _, rfl, by omega, hc, rfl, rfl, rfl, rfl, by kernel_rfl⟩, ?_⟩
 rintro m st ⟨i, _, a, c1, k, _, _, rfl, hm, hc1, hk, hai, rfl, rfl, rfl⟩
 conv => whnf
 refine ⟨by omega, rows_len ciL_len _, ?_⟩
 conv => whnf
 refine ⟨_, takeN_rp (k := q) ciL_len hql, ?_⟩
 rw [hN]
 conv => whnf
 split <;> rename_i h1
 all_goals simp only [decide_eq_true_eq, decide_eq_false_iff_not] at h1
 ·conv => whnf
  refine .inr (.inr ⟨[0], [], ?_⟩)
  conv => whnf
  refine ⟨_, l2Term_g c1 hc1, fun r g2 hP => ?_⟩
  obtain ⟨t, c2, rfl, h2, rfl⟩ := hP
  refine .inl ?_
  conv => whnf
  refine ⟨_, rfl, .inl ⟨flat1 rfl, ?_⟩⟩
  conv => whnf
  refine ⟨by omega, by rw [rows_len ciL_len, hk], _, snoc_ci _ _, ?_⟩
  conv => whnf
  exact ⟨m - 1, by omega, i + 1, IntKind.i64.wrap ((i : Int) + 1), a ++ [t], c2, k + 1, curC c2, rows ciL (a ++ [t]), wrap_id (by omega) (by omega), by omega, h2, by simp [hk], by simp [hai], rfl, rfl, by kernel_rfl⟩
 ·conv => whnf
  refine ⟨[], ?_⟩
  conv => whnf
  subst hk
  refine ⟨by rw [rows_len ciL_len], ?_⟩
  exact ⟨((q : Int), a), c1, rfl, by show a.length ≤ 3; omega, hc1, rfl⟩
set_option maxHeartbeats 2000000 in
theorem l3Any_g (c : Cur) (h : goodC c) : SpecG Tryz.prog 210 [.ptr 0 0] (gC c) fun r g2 => ∃ (s : List Int) (c' : Cur), r = wSchema s ∧ s.length ≤ 8 ∧ goodC c' ∧ g2 = gC c' := by
 unfold gC
 refine SpecG_of mx Γ_ok 1 Tryz.func210 rfl rfl (by decide) ?_
 conv => whnf
 refine .inr (.inl ?_)
 conv => whnf
 refine ⟨curC_ne c, ?_⟩
 conv => whnf
 refine ⟨_, _, _, l3Schema_spec c h, ?_⟩
 conv => whnf
 refine .inr ?_
 conv => whnf
 obtain ⟨h1, s1, s2, s3⟩ := schP_ok h
 generalize (schP c).2 = c1 at h1 ⊢
 generalize (schP c).1 = s at s3 ⊢
 refine .inr (.inl ?_)
 conv => whnf
 refine ⟨curC_ne c1, ?_⟩
 conv => whnf
 refine ⟨_, _, _, l1Below_spec c1 10 h1 (by omega), ?_⟩
 conv => whnf
 refine .inl ?_
 conv => whnf
 have h2 := belowP_good h1 10
 generalize (belowP c1 10).2 = c2 at h2 ⊢
 generalize (belowP c1 10).1 = v
 generalize (v == 0) = b0
 cases b0 with
 | true =>
  conv => whnf
  refine ⟨[1001, 0, 1, 2, 3, 4, 5, 6, 7, 8, 1000, 1000], by kernel_rfl, ?_⟩
  conv => whnf
  refine .inr (.inl ?_)
  conv => whnf
  refine ⟨curC_ne c2, ?_⟩
  conv => whnf
  refine ⟨rfl, ?_⟩
  conv => whnf
  refine ⟨fun k => noSubT_lk (by kernel_rfl) k, rfl, _, _, _, l1PickInt_spec c2 [0, 3, 4] h2 (by decide) (by decide), ?_⟩
  conv => whnf
  refine .inl ?_
  conv => whnf
  refine ⟨_, rfl, .inl ⟨flat1 rfl, ?_⟩⟩
  conv => whnf
  refine ⟨by omega, by rw [rows_len ciL_len], _, snoc_ci _ _, ?_⟩
  conv => whnf
  refine ⟨[], ?_⟩
  conv => whnf
  refine ⟨by rw [rows_len ciL_len, List.length_append]; rfl, ?_⟩
  refine ⟨s ++ [([0, 3, 4] : List Int).getD (belowP c2 3).1.toNat 0], (belowP c2 3).2, ?_, by simp; omega, belowP_good h2 3, rfl⟩
  show _ = V.agg [.tr 1 (s ++ [([0, 3, 4] : List Int).getD (belowP c2 3).1.toNat 0]).length _]
  rw [List.length_append]
  rfl
 | false =>
  conv => whnf
  generalize (v == 1) = b1
  cases b1 with
  | true =>
   conv => whnf
   refine ⟨[], ?_⟩
   conv => whnf
   exact .inr ⟨1, [], c2, rfl, by simp, h2, rfl⟩
  | false =>
   conv => whnf
   generalize (v == 2) = b2
   cases b2 with
   | true =>
    conv => whnf
    refine ⟨[], ?_⟩
    conv => whnf
    exact ⟨rfl, [1, 2, 3, 1, 2], c2, rfl, by simp, h2, rfl⟩
   | false =>
    conv => whnf
    refine ⟨[], ?_⟩
    conv => whnf
    refine ⟨by rw [rows_len ciL_len], ?_⟩
    exact ⟨s, c2, rfl, by omega, h2, rfl⟩
def qSm (q : QueryW) : Prop := q.1.length ≤ 8 ∧ q.2.length ≤ 8 ∧ ∀ a ∈ q.2, a.2.length ≤ 8
theorem sm_sum : ∀ {l : List AtomD}, (∀ a ∈ l, a.2.length ≤ 8) → sumB cAtom l ≤ 8 * l.length
 | [], _ => by simp [sumB]
 | a :: l, h => by
  have h1 := sm_sum (l := l) fun x hx => h x (by simp [hx])
  have h2 : cAtom a = a.2.length := rfl
  have h3 := h a (by simp)
  simp only [sumB, List.length_cons]
  omega
theorem qSm_size {q : QueryW} (h : qSm q) : cQuery q ≤ 1048576 := by
 obtain ⟨h1, h2, h3⟩ := h
 have := sm_sum h3
 show q.1.length + (q.2.length + sumB cAtom q.2) ≤ _
 omega
theorem termsL_sum : ∀ l : List AtomD, (termsL l).length = sumB cAtom l
 | [] => rfl
 | a :: l => by
  have h := termsL_sum l
  have e : termsL (a :: l) = a.2 ++ termsL l := by simp [termsL]
  rw [e, List.length_append, h]
  rfl
theorem bodyVars_small {q : QueryW} (h : qSm q) : (bodyVars q).length ≤ 64 := by
 have h1 := bodyVars_len q (termsL q.2) []
 have h2 := sm_sum h.2.2
 have h3 := h.2.1
 rw [termsL_sum] at h1
 unfold bodyVars
 simp only [List.length_nil] at h1
 omega
theorem solid_tAtomD (a : AtomD) : ∀ c ∈ tAtom a, solid c = true := by
 intro c hc
 simp only [tAtom, List.mem_cons, List.not_mem_nil, or_false] at hc
 rcases hc with rfl | rfl <;> rfl
theorem snoc_rowsD {α : Type} (f : α → List V) (xs : List α) (x : α) : rows f xs ++ f x = rows f (xs ++ [x]) := by
 rw [rows_append]
 simp [rows]
set_option maxHeartbeats 4000000 in
theorem l4Query_g (s : List Int) (c : Cur) (hs : sOk s) (h : goodC c) : SpecG Tryz.prog 207 [.ptr 0 0, vSchema s] (gC c) fun r g2 => ∃ (q : QueryW) (c' : Cur), r = wQuery q ∧ q.1.length ≤ 3 ∧ q.2.length ≤ 3 ∧ 1 ≤ q.2.length ∧ (∀ a ∈ q.2, a.2.length ≤ 3) ∧ goodC c' ∧ g2 = gC c' := by
 unfold gC
 refine SpecG_of mx Γ_ok 1 Tryz.func207 rfl rfl (by decide) ?_
 conv => whnf
 refine .inr (.inl ?_)
 conv => whnf
 refine ⟨curC_ne c, ?_⟩
 conv => whnf
 refine ⟨_, _, _, l1Below_spec c 3 h (by omega), ?_⟩
 conv => whnf
 refine .inl ?_
 conv => whnf
 have hb := belowP_bd c (n := 3) (by omega) (by omega)
 have h0 := belowP_good h 3
 generalize (belowP c 3).2 = c0 at h0 ⊢
 obtain ⟨n0, hn0⟩ : ∃ n : Nat, (belowP c 3).1 = n := ⟨(belowP c 3).1.toNat, by omega⟩
 rw [hn0] at hb ⊢
 have hw : IntKind.i64.wrap (1 + (n0 : Int)) = ((n0 + 1 : Nat) : Int) := by rw [wrap_id (by omega) (by omega)]; omega
 rw [hw]
 refine ⟨[(0,0),(3,0),(4,0),(5,101),(5,202),(6,0)], fun m st => ∃ (n : Nat) (e : Int) (body : List AtomD) (c1 : Cur) (k : Nat) (cc r : List V), e = n ∧ m = n ∧ body.length + n = n0 + 1 ∧ goodC c1 ∧ k = body.length ∧ (∀ a ∈ body, a.2.length ≤ 3) ∧ cc = curC c1 ∧ r = rows tAtom body ∧
  st = ⟨61, [(0, .ptr 0 0), (3, .ptr 1 0), (4, .ptr 2 0), (5, .ptr 3 0), (5, .ptr 3 0), (6, ci e)], [some ⟨false, cc⟩, some ⟨true, [ints s]⟩, some ⟨true, [cnil, cnil]⟩, some ⟨true, [.own 4 1 0 0 0 none, .own 5 2 0 k k none]⟩, some ⟨false, []⟩, some ⟨false, r⟩]⟩, n0 + 1, ⟨n0 + 1, (n0 + 1 : Nat), [], c0, 0, _, _, rfl, rfl, by simp, h0, rfl, (fun a ha => by cases ha), rfl, rfl, by kernel_rfl⟩, ?_⟩
 rintro m st ⟨n, _, body, c1, k, _, _, rfl, hm, hbn, hc1, hk, hbd, rfl, rfl, rfl⟩
 conv => whnf
 split <;> rename_i h1
 all_goals simp only [decide_eq_true_eq, decide_eq_false_iff_not] at h1
 ·obtain ⟨n', rfl⟩ : ∃ n', n = n' + 1 := ⟨n - 1, by omega⟩
  conv => whnf
  refine .inr (.inr ⟨[0], [], ?_⟩)
  conv => whnf
  refine ⟨_, l3Atom_g s c1 hs hc1, fun r g2 hP => ?_⟩
  obtain ⟨a, c2, rfl, ha, h2, rfl⟩ := hP
  refine .inr ?_
  conv => whnf
  refine ⟨by rw [rows_len ciL_len], ?_⟩
  conv => whnf
  refine ⟨_, rfl, .inr ⟨solid_tAtomD a, ?_⟩⟩
  conv => whnf
  refine ⟨by omega, by rw [rows_len tAtom_len, hk], _, snoc_rowsD tAtom _ a, ?_⟩
  conv => whnf
  refine ⟨m - 1, by omega, n', _, body ++ [a], c2, k + 1, _, _, wrap_pred n', by omega, by simp; omega, h2, by simp [hk], fun x hx => ?_, rfl, rfl, by kernel_rfl⟩
  rcases List.mem_append.1 hx with hx | hx
  ·exact hbd x hx
  ·rw [List.mem_singleton.1 hx]; exact ha
 ·have hn : n = 0 := by omega
  subst hn
  subst hk
  have hq : qSm ([], body) := ⟨by simp, by show body.length ≤ 8; omega, fun a ha => by have := hbd a ha; omega⟩
  conv => whnf
  refine .inl ?_
  conv => whnf
  refine ⟨_, _, takeN_all rfl, rfl, ?_⟩
  conv => whnf
  refine ⟨_, _, takeN_all (by rw [rows_len tAtom_len]), roVs_rows tAtom_ro _, ?_⟩
  conv => whnf
  refine ⟨_, bodyVars_spec ([], body) (qSm_size hq), .inr (closeds_rows (f := ciL) (fun x => ⟨trivial, trivial⟩) _), .inl ?_⟩
  rw [intsT_ro]
  have hvl := bodyVars_small hq
  generalize bodyVars ([], body) = v at hvl ⊢
  conv => whnf
  refine .inr (.inl ?_)
  conv => whnf
  refine ⟨curC_ne c1, ?_⟩
  conv => whnf
  refine ⟨_, _, _, l1Below_spec c1 3 hc1 (by omega), ?_⟩
  conv => whnf
  refine .inl ?_
  conv => whnf
  have hb2 := belowP_bd c1 (n := 3) (by omega) (by omega)
  have h3 := belowP_good hc1 3
  generalize (belowP c1 3).2 = c2 at h3 ⊢
  obtain ⟨n2, hn2⟩ : ∃ n : Nat, (belowP c1 3).1 = n := ⟨(belowP c1 3).1.toNat, by omega⟩
  rw [hn2] at hb2 ⊢
  refine ⟨[(0,0),(4,0),(5,0),(8,0),(9,0)], fun m st => ∃ (n : Nat) (e : Int) (hd : List Int) (c1 : Cur) (k : Nat) (cc r : List V), e = n ∧ m = n ∧ hd.length + n = n2 ∧ goodC c1 ∧ k = hd.length ∧ cc = curC c1 ∧ r = rows ciL hd ∧
   st = ⟨61, [(0, .ptr 0 0), (4, .ptr 1 0), (5, .ptr 2 0), (8, ints v), (9, ci e)], [some ⟨false, cc⟩, some ⟨true, [cnil, cnil]⟩, some ⟨true, [.own 3 1 0 k k none, .own 4 2 0 body.length body.length none]⟩, some ⟨false, r⟩, some ⟨false, rows tAtom body⟩]⟩, n2, ⟨n2, n2, [], c2, 0, _, _, rfl, rfl, by simp, h3, rfl, rfl, rfl, by kernel_rfl⟩, ?_⟩
  rintro m2 st ⟨n, _, hd, c3, k, _, _, rfl, hm2, hhn, hc3, hk, rfl, rfl, rfl⟩
  conv => whnf
  split <;> rename_i h4
  all_goals simp only [decide_eq_true_eq, decide_eq_false_iff_not] at h4
  ·obtain ⟨n', rfl⟩ : ∃ n', n = n' + 1 := ⟨n - 1, by omega⟩
   conv => whnf
   refine .inr (.inl ?_)
   conv => whnf
   refine ⟨curC_ne c3, ?_⟩
   conv => whnf
   refine ⟨_, _, _, l1Below_spec c3 3 hc3 (by omega), ?_⟩
   conv => whnf
   refine .inl ?_
   have h5 := belowP_good hc3 3
   generalize (belowP c3 3).2 = c4 at h5 ⊢
   generalize (belowP c3 3).1 = t0
   generalize hvb : decide ((v.length : Int) > 0) = vb
   conv => whnf
   rw [hvb]
   cases vb with
   | false =>
    conv => whnf
    refine ⟨_, rfl, .inl ⟨flat1 rfl, ?_⟩⟩
    conv => whnf
    refine ⟨by omega, by rw [rows_len ciL_len, hk], _, snoc_ci _ _, ?_⟩
    conv => whnf
    exact ⟨m2 - 1, by omega, n', IntKind.i64.wrap (((n' + 1 : Nat) : Int) - 1), hd ++ [IntKind.i64.wrap (-1 - t0)], c4, k + 1, curC c4, rows ciL (hd ++ [IntKind.i64.wrap (-1 - t0)]), wrap_pred n', by omega, by simp; omega, h5, by simp [hk], rfl, rfl, by kernel_rfl⟩
   | true =>
    have hv0 : 0 < v.length := by have := of_decide_eq_true hvb; omega
    conv => whnf
    refine .inr (.inl ?_)
    conv => whnf
    refine ⟨curC_ne c4, ?_⟩
    conv => whnf
    refine ⟨_, _, _, l1Once_spec c4 8 h5 (by omega), ?_⟩
    conv => whnf
    refine .inl ?_
    conv => whnf
    have h6 := belowP_good h5 8
    generalize (belowP c4 8).2 = c5 at h6 ⊢
    generalize ((belowP c4 8).1 == 0) = b6
    cases b6 with
    | true =>
     conv => whnf
     refine ⟨_, rfl, .inl ⟨flat1 rfl, ?_⟩⟩
     conv => whnf
     refine ⟨by omega, by rw [rows_len ciL_len, hk], _, snoc_ci _ _, ?_⟩
     conv => whnf
     exact ⟨m2 - 1, by omega, n', IntKind.i64.wrap (((n' + 1 : Nat) : Int) - 1), hd ++ [IntKind.i64.wrap (-1 - t0)], c5, k + 1, curC c5, rows ciL (hd ++ [IntKind.i64.wrap (-1 - t0)]), wrap_pred n', by omega, by simp; omega, h6, by simp [hk], rfl, rfl, by kernel_rfl⟩
    | false =>
     conv => whnf
     refine .inr (.inl ?_)
     conv => whnf
     refine ⟨curC_ne c5, ?_⟩
     conv => whnf
     refine ⟨_, _, _, l1Below_spec c5 v.length h6 (by omega), ?_⟩
     conv => whnf
     refine .inl ?_
     conv => whnf
     have hb7 := belowP_bd c5 (n := v.length) (by omega) (by omega)
     have h7 := belowP_good h6 v.length
     generalize (belowP c5 v.length).2 = c6 at h7 ⊢
     obtain ⟨p, hp⟩ : ∃ p : Nat, (belowP c5 v.length).1 = p := ⟨(belowP c5 v.length).1.toNat, by omega⟩
     rw [hp] at hb7 ⊢
     have hpl : p < v.length := by omega
     refine ⟨by omega, rows_len ciL_len _, ?_⟩
     conv => whnf
     refine ⟨_, takeN_rp (k := p) ciL_len hpl, ?_⟩
     conv => whnf
     refine ⟨_, rfl, .inl ⟨flat1 rfl, ?_⟩⟩
     conv => whnf
     refine ⟨by omega, by rw [rows_len ciL_len, hk], _, snoc_ci _ _, ?_⟩
     conv => whnf
     exact ⟨m2 - 1, by omega, n', IntKind.i64.wrap (((n' + 1 : Nat) : Int) - 1), hd ++ [v[p]], c6, k + 1, curC c6, rows ciL (hd ++ [v[p]]), wrap_pred n', by omega, by simp; omega, h7, by simp [hk], rfl, rfl, by kernel_rfl⟩
  ·subst hk
   conv => whnf
   refine ⟨[], ?_⟩
   conv => whnf
   refine ⟨by rw [rows_len ciL_len], by rw [rows_len tAtom_len], ?_⟩
   exact ⟨(hd, body), c3, rfl, by show hd.length ≤ 3; omega, by show body.length ≤ 3; omega, by show 1 ≤ body.length; omega, hbd, hc3, rfl⟩
end Go.Proofs.YtcjdfeafcmfgpaaGreatD
