/- Contracts and plain laws of this seat; no condition. -/
import Derived.Test.YtboolngaahifdaaGreatQ23
set_option linter.unusedVariables false
set_option linter.unusedSimpArgs false
set_option maxRecDepth 100000
namespace Go.Proofs.YtboolngaahifdaaGreatD
open Go Go.Proofs
def smT (t : Int) : Prop := -3 ≤ t ∧ t ≤ 3
def smAt (a : AtomD) : Prop := 1 ≤ a.2.length ∧ a.2.length ≤ 3 ∧ ∀ t ∈ a.2, smT t
def smQ (q : QueryW) : Prop := q.1.length ≤ 2 ∧ (∀ t ∈ q.1, smT t) ∧ 1 ≤ q.2.length ∧ q.2.length ≤ 3 ∧ ∀ a ∈ q.2, smAt a
theorem smQ_sm {q : QueryW} (h : smQ q) : qSm q := ⟨by have := h.1; omega, by have := h.2.2.2.1; omega, fun a ha => by have := (h.2.2.2.2 a ha).2.1; omega⟩
theorem mem_snocS {l : List Int} {t : Int} (h : ∀ x ∈ l, smT x) (ht : smT t) : ∀ x ∈ l ++ [t], smT x := fun x hx => by
 rcases List.mem_append.1 hx with hx | hx
 ·exact h x hx
 ·rw [List.mem_singleton.1 hx]; exact ht
theorem bvS_mem (x : Int) : ∀ (ts acc : List Int), x ∈ ts.foldl bvS acc → x ∈ acc ∨ x ∈ ts
 | [], acc, h => .inl h
 | t :: ts, acc, h => by
  rcases bvS_mem x ts (bvS acc t) h with h | h
  ·unfold bvS at h
   split at h
   ·rcases List.mem_append.1 h with h | h
    ·exact .inl h
    ·exact .inr (by simp [List.mem_singleton.1 h])
   ·exact .inl h
  ·exact .inr (by simp [h])
theorem bodyVars_mem {q : QueryW} {x : Int} (h : x ∈ bodyVars q) : ∃ a ∈ q.2, x ∈ a.2 := by
 rcases bvS_mem x (termsL q.2) [] h with h | h
 ·cases h
 ·simpa [termsL] using h
theorem l2Term_s (c : Cur) (h : goodC c) : SpecG Tryz.prog 195 [.ptr 0 0] (gC c) fun r g2 => ∃ (t : Int) (c' : Cur), r = ci t ∧ smT t ∧ goodC c' ∧ g2 = gC c' := by
 unfold gC
 refine SpecG_of mx Γ_ok 1 Tryz.func195 rfl rfl (by decide) ?_
 conv => whnf
 refine .inr (.inl ?_)
 conv => whnf
 refine ⟨curC_ne c, ?_⟩
 conv => whnf
 refine ⟨_, _, _, l1Once_spec c 4 h (by omega), ?_⟩
 conv => whnf
 refine .inl ?_
 conv => whnf
 have h1 := belowP_good h 4
 generalize (belowP c 4).2 = c1 at h1 ⊢
 generalize ((belowP c 4).1 == 0) = b
 cases b with
 | true =>
  conv => whnf
  refine .inr (.inl ?_)
  conv => whnf
  refine ⟨curC_ne c1, ?_⟩
  conv => whnf
  refine ⟨_, _, _, l1Below_spec c1 3 h1 (by omega), ?_⟩
  conv => whnf
  refine .inl ?_
  conv => whnf
  refine ⟨[], ?_⟩
  conv => whnf
  exact ⟨_, _, rfl, by have hb := belowP_bd c1 (n := 3) (by omega) (by omega); rw [wrap_id (by omega) (by omega)]; exact ⟨by omega, by omega⟩, belowP_good h1 3, rfl⟩
 | false =>
  conv => whnf
  refine .inr (.inl ?_)
  conv => whnf
  refine ⟨curC_ne c1, ?_⟩
  conv => whnf
  refine ⟨_, _, _, l1Below_spec c1 4 h1 (by omega), ?_⟩
  conv => whnf
  refine .inl ?_
  conv => whnf
  refine ⟨[], ?_⟩
  conv => whnf
  exact ⟨_, _, rfl, by have hb := belowP_bd c1 (n := 4) (by omega) (by omega); exact ⟨by omega, by omega⟩, belowP_good h1 4, rfl⟩
set_option maxHeartbeats 2000000 in
theorem l3Atom_s (s : List Int) (c : Cur) (hs : sOk s) (h : goodC c) : SpecG Tryz.prog 192 [.ptr 0 0, vSchema s] (gC c) fun r g2 => ∃ (a : AtomD) (c' : Cur), r = wAtom a ∧ smAt a ∧ goodC c' ∧ g2 = gC c' := by
 unfold gC
 have hsl := hs.2.2
 refine SpecG_of mx Γ_ok 1 Tryz.func192 rfl rfl (by decide) ?_
 conv => whnf
 refine .inr (.inl ?_)
 conv => whnf
 refine ⟨curC_ne c, ?_⟩
 conv => whnf
 refine ⟨_, _, _, l1Below_spec c s.length h (by omega), ?_⟩
 conv => whnf
 refine .inl ?_
 conv => whnf
 obtain ⟨q, hq, hql⟩ := below_idx hs c
 have hat := sOk_at hs hql
 rw [hq]
 have hc := belowP_good h s.length
 generalize (belowP c s.length).2 = c0 at hc ⊢
 obtain ⟨N, hN⟩ : ∃ N : Nat, s[q] = N := ⟨s[q].toNat, by omega⟩
 have hN3 : N ≤ 3 := by omega
 refine ⟨[(0,0),(3,0),(4,0),(5,201),(6,0)], fun m st => ∃ (i : Nat) (e : Int) (a : List Int) (c1 : Cur) (k : Nat) (cc r : List V), e = i ∧ m + i = N ∧ goodC c1 ∧ k = a.length ∧ (∀ t ∈ a, smT t) ∧ a.length = i ∧ cc = curC c1 ∧ r = rows ciL a ∧
  st = ⟨33, [(0, .ptr 0 0), (3, .ptr 1 0), (4, .ptr 2 0), (5, .ptr 3 0), (6, ci e)], [some ⟨false, cc⟩, some ⟨true, [ints s]⟩, some ⟨true, [ci 0, cnil]⟩, some ⟨true, [ci q, .own 4 1 0 k k none]⟩, some ⟨false, r⟩]⟩, N, ⟨0, 0, [], c0, 0, _, _, rfl, by omega, hc, rfl, (fun t ht => by cases ht), rfl, rfl, rfl, by kernel_rfl⟩, ?_⟩
 rintro m st ⟨i, _, a, c1, k, _, _, rfl, hm, hc1, hk, hsm, hai, rfl, rfl, rfl⟩
 conv => whnf
 refine ⟨by omega, rows_len ciL_len _, ?_⟩
 conv => whnf
 refine ⟨_, takeN_rp (k := q) ciL_len hql, ?_⟩
 rw [hN]
 conv => whnf
 split <;> rename_i h1
 all_goals simp only [decide_eq_true_eq, decide_eq_false_iff_not] at h1
 ·conv => whnf
  refine .inr (.inr ⟨[0], [], ?_⟩)
  conv => whnf
  refine ⟨_, l2Term_s c1 hc1, fun r g2 hP => ?_⟩
  obtain ⟨t, c2, rfl, htm, h2, rfl⟩ := hP
  refine .inl ?_
  conv => whnf
  refine ⟨_, rfl, .inl ⟨flat1 rfl, ?_⟩⟩
  conv => whnf
  refine ⟨by omega, by rw [rows_len ciL_len, hk], _, snoc_ci _ _, ?_⟩
  conv => whnf
  exact ⟨m - 1, by omega, i + 1, IntKind.i64.wrap ((i : Int) + 1), a ++ [t], c2, k + 1, curC c2, rows ciL (a ++ [t]), wrap_id (by omega) (by omega), by omega, h2, by simp [hk], mem_snocS hsm htm, by simp [hai], rfl, rfl, by kernel_rfl⟩
 ·conv => whnf
  refine ⟨[], ?_⟩
  conv => whnf
  subst hk
  refine ⟨by rw [rows_len ciL_len], ?_⟩
  exact ⟨((q : Int), a), c1, rfl, ⟨by show 1 ≤ a.length; omega, by show a.length ≤ 3; omega, hsm⟩, hc1, rfl⟩
set_option maxHeartbeats 4000000 in
theorem l4Query_s (s : List Int) (c : Cur) (hs : sOk s) (h : goodC c) : SpecG Tryz.prog 139 [.ptr 0 0, vSchema s] (gC c) fun r g2 => ∃ (q : QueryW) (c' : Cur), r = wQuery q ∧ smQ q ∧ goodC c' ∧ g2 = gC c' := by
 unfold gC
 refine SpecG_of mx Γ_ok 1 Tryz.func139 rfl rfl (by decide) ?_
 conv => whnf
 refine .inr (.inl ?_)
 conv => whnf
 refine ⟨curC_ne c, ?_⟩
 conv => whnf
 refine ⟨_, _, _, l1Below_spec c 3 h (by omega), ?_⟩
 conv => whnf
 refine .inl ?_
 conv => whnf
 have hb := belowP_bd c (n := 3) (by omega) (by omega)
 have h0 := belowP_good h 3
 generalize (belowP c 3).2 = c0 at h0 ⊢
 obtain ⟨n0, hn0⟩ : ∃ n : Nat, (belowP c 3).1 = n := ⟨(belowP c 3).1.toNat, by omega⟩
 rw [hn0] at hb ⊢
 have hw : IntKind.i64.wrap (1 + (n0 : Int)) = ((n0 + 1 : Nat) : Int) := by rw [wrap_id (by omega) (by omega)]; omega
 rw [hw]
 refine ⟨[(0,0),(3,0),(4,0),(5,101),(5,202),(6,0)], fun m st => ∃ (n : Nat) (e : Int) (body : List AtomD) (c1 : Cur) (k : Nat) (cc r : List V), e = n ∧ m = n ∧ body.length + n = n0 + 1 ∧ goodC c1 ∧ k = body.length ∧ (∀ a ∈ body, smAt a) ∧ cc = curC c1 ∧ r = rows tAtom body ∧
  st = ⟨61, [(0, .ptr 0 0), (3, .ptr 1 0), (4, .ptr 2 0), (5, .ptr 3 0), (5, .ptr 3 0), (6, ci e)], [some ⟨false, cc⟩, some ⟨true, [ints s]⟩, some ⟨true, [cnil, cnil]⟩, some ⟨true, [.own 4 1 0 0 0 none, .own 5 2 0 k k none]⟩, some ⟨false, []⟩, some ⟨false, r⟩]⟩, n0 + 1, ⟨n0 + 1, (n0 + 1 : Nat), [], c0, 0, _, _, rfl, rfl, by simp, h0, rfl, (fun a ha => by cases ha), rfl, rfl, by kernel_rfl⟩, ?_⟩
 rintro m st ⟨n, _, body, c1, k, _, _, rfl, hm, hbn, hc1, hk, hbd, rfl, rfl, rfl⟩
 conv => whnf
 split <;> rename_i h1
 all_goals simp only [decide_eq_true_eq, decide_eq_false_iff_not] at h1
 ·obtain ⟨n', rfl⟩ : ∃ n', n = n' + 1 := ⟨n - 1, by omega⟩
  conv => whnf
  refine .inr (.inr ⟨[0], [], ?_⟩)
  conv => whnf
  refine ⟨_, l3Atom_s s c1 hs hc1, fun r g2 hP => ?_⟩
  obtain ⟨a, c2, rfl, ha, h2, rfl⟩ := hP
  refine .inr ?_
  conv => whnf
  refine ⟨by rw [rows_len ciL_len], ?_⟩
  conv => whnf
  refine ⟨_, rfl, .inr ⟨solid_tAtomD a, ?_⟩⟩
  conv => whnf
  refine ⟨by omega, by rw [rows_len tAtom_len, hk], _, snoc_rowsD tAtom _ a, ?_⟩
  conv => whnf
  refine ⟨m - 1, by omega, n', _, body ++ [a], c2, k + 1, _, _, wrap_pred n', by omega, by simp; omega, h2, by simp [hk], fun x hx => ?_, rfl, rfl, by kernel_rfl⟩
  rcases List.mem_append.1 hx with hx | hx
  ·exact hbd x hx
  ·rw [List.mem_singleton.1 hx]; exact ha
 ·have hn : n = 0 := by omega
  subst hn
  subst hk
  have hq : qSm ([], body) := ⟨by simp, by show body.length ≤ 8; omega, fun a ha => by have := (hbd a ha).2.1; omega⟩
  conv => whnf
  refine .inl ?_
  conv => whnf
  refine ⟨_, _, takeN_all rfl, rfl, ?_⟩
  conv => whnf
  refine ⟨_, _, takeN_all (by rw [rows_len tAtom_len]), roVs_rows tAtom_ro _, ?_⟩
  conv => whnf
  refine ⟨_, bodyVars_spec ([], body) (qSm_size hq), .inr (closeds_rows (f := ciL) (fun x => ⟨trivial, trivial⟩) _), .inl ?_⟩
  rw [intsT_ro]
  have hvl := bodyVars_small hq
  have hvs : ∀ t ∈ bodyVars ([], body), smT t := fun t ht => by
   obtain ⟨a, ha, hta⟩ := bodyVars_mem ht
   exact (hbd a ha).2.2 t hta
  generalize bodyVars ([], body) = v at hvl hvs ⊢
  conv => whnf
  refine .inr (.inl ?_)
  conv => whnf
  refine ⟨curC_ne c1, ?_⟩
  conv => whnf
  refine ⟨_, _, _, l1Below_spec c1 3 hc1 (by omega), ?_⟩
  conv => whnf
  refine .inl ?_
  conv => whnf
  have hb2 := belowP_bd c1 (n := 3) (by omega) (by omega)
  have h3 := belowP_good hc1 3
  generalize (belowP c1 3).2 = c2 at h3 ⊢
  obtain ⟨n2, hn2⟩ : ∃ n : Nat, (belowP c1 3).1 = n := ⟨(belowP c1 3).1.toNat, by omega⟩
  rw [hn2] at hb2 ⊢
  refine ⟨[(0,0),(4,0),(5,0),(8,0),(9,0)], fun m st => ∃ (n : Nat) (e : Int) (hd : List Int) (c1 : Cur) (k : Nat) (cc r : List V), e = n ∧ m = n ∧ hd.length + n = n2 ∧ goodC c1 ∧ k = hd.length ∧ (∀ t ∈ hd, smT t) ∧ cc = curC c1 ∧ r = rows ciL hd ∧
   st = ⟨61, [(0, .ptr 0 0), (4, .ptr 1 0), (5, .ptr 2 0), (8, ints v), (9, ci e)], [some ⟨false, cc⟩, some ⟨true, [cnil, cnil]⟩, some ⟨true, [.own 3 1 0 k k none, .own 4 2 0 body.length body.length none]⟩, some ⟨false, r⟩, some ⟨false, rows tAtom body⟩]⟩, n2, ⟨n2, n2, [], c2, 0, _, _, rfl, rfl, by simp, h3, rfl, (fun t ht => by cases ht), rfl, rfl, by kernel_rfl⟩, ?_⟩
  rintro m2 st ⟨n, _, hd, c3, k, _, _, rfl, hm2, hhn, hc3, hk, hhs, rfl, rfl, rfl⟩
  conv => whnf
  split <;> rename_i h4
  all_goals simp only [decide_eq_true_eq, decide_eq_false_iff_not] at h4
  ·obtain ⟨n', rfl⟩ : ∃ n', n = n' + 1 := ⟨n - 1, by omega⟩
   conv => whnf
   refine .inr (.inl ?_)
   conv => whnf
   refine ⟨curC_ne c3, ?_⟩
   conv => whnf
   refine ⟨_, _, _, l1Below_spec c3 3 hc3 (by omega), ?_⟩
   conv => whnf
   refine .inl ?_
   have hb5 := belowP_bd c3 (n := 3) (by omega) (by omega)
   have h5 := belowP_good hc3 3
   generalize (belowP c3 3).2 = c4 at h5 ⊢
   generalize (belowP c3 3).1 = t0 at hb5 ⊢
   have ht0 : smT (IntKind.i64.wrap (-1 - t0)) := by rw [wrap_id (by omega) (by omega)]; exact ⟨by omega, by omega⟩
   generalize hvb : decide ((v.length : Int) > 0) = vb
   conv => whnf
   rw [hvb]
   cases vb with
   | false =>
    conv => whnf
    refine ⟨_, rfl, .inl ⟨flat1 rfl, ?_⟩⟩
    conv => whnf
    refine ⟨by omega, by rw [rows_len ciL_len, hk], _, snoc_ci _ _, ?_⟩
    conv => whnf
    exact ⟨m2 - 1, by omega, n', IntKind.i64.wrap (((n' + 1 : Nat) : Int) - 1), hd ++ [IntKind.i64.wrap (-1 - t0)], c4, k + 1, curC c4, rows ciL (hd ++ [IntKind.i64.wrap (-1 - t0)]), wrap_pred n', by omega, by simp; omega, h5, by simp [hk], mem_snocS hhs ht0, rfl, rfl, by kernel_rfl⟩
   | true =>
    have hv0 : 0 < v.length := by have := of_decide_eq_true hvb; omega
    conv => whnf
    refine .inr (.inl ?_)
    conv => whnf
    refine ⟨curC_ne c4, ?_⟩
    conv => whnf
    refine ⟨_, _, _, l1Once_spec c4 8 h5 (by omega), ?_⟩
    conv => whnf
    refine .inl ?_
    conv => whnf
    have h6 := belowP_good h5 8
    generalize (belowP c4 8).2 = c5 at h6 ⊢
    generalize ((belowP c4 8).1 == 0) = b6
    cases b6 with
    | true =>
     conv => whnf
     refine ⟨_, rfl, .inl ⟨flat1 rfl, ?_⟩⟩
     conv => whnf
     refine ⟨by omega, by rw [rows_len ciL_len, hk], _, snoc_ci _ _, ?_⟩
     conv => whnf
     exact ⟨m2 - 1, by omega, n', IntKind.i64.wrap (((n' + 1 : Nat) : Int) - 1), hd ++ [IntKind.i64.wrap (-1 - t0)], c5, k + 1, curC c5, rows ciL (hd ++ [IntKind.i64.wrap (-1 - t0)]), wrap_pred n', by omega, by simp; omega, h6, by simp [hk], mem_snocS hhs ht0, rfl, rfl, by kernel_rfl⟩
    | false =>
     conv => whnf
     refine .inr (.inl ?_)
     conv => whnf
     refine ⟨curC_ne c5, ?_⟩
     conv => whnf
     refine ⟨_, _, _, l1Below_spec c5 v.length h6 (by omega), ?_⟩
     conv => whnf
     refine .inl ?_
     conv => whnf
     have hb7 := belowP_bd c5 (n := v.length) (by omega) (by omega)
     have h7 := belowP_good h6 v.length
     generalize (belowP c5 v.length).2 = c6 at h7 ⊢
     obtain ⟨p, hp⟩ : ∃ p : Nat, (belowP c5 v.length).1 = p := ⟨(belowP c5 v.length).1.toNat, by omega⟩
     rw [hp] at hb7 ⊢
     have hpl : p < v.length := by omega
     refine ⟨by omega, rows_len ciL_len _, ?_⟩
     conv => whnf
     refine ⟨_, takeN_rp (k := p) ciL_len hpl, ?_⟩
     conv => whnf
     refine ⟨_, rfl, .inl ⟨flat1 rfl, ?_⟩⟩
     conv => whnf
     refine ⟨by omega, by rw [rows_len ciL_len, hk], _, snoc_ci _ _, ?_⟩
     conv => whnf
     exact ⟨m2 - 1, by omega, n', IntKind.i64.wrap (((n' + 1 : Nat) : Int) - 1), hd ++ [v[p]], c6, k + 1, curC c6, rows ciL (hd ++ [v[p]]), wrap_pred n', by omega, by simp; omega, h7, by simp [hk], mem_snocS hhs (hvs _ (List.getElem_mem hpl)), rfl, rfl, by kernel_rfl⟩
  ·subst hk
   conv => whnf
   refine ⟨[], ?_⟩
   conv => whnf
   refine ⟨by rw [rows_len ciL_len], by rw [rows_len tAtom_len], ?_⟩
   exact ⟨(hd, body), c3, rfl, ⟨by show hd.length ≤ 2; omega, hhs, by show 1 ≤ body.length; omega, by show body.length ≤ 3; omega, hbd⟩, hc3, rfl⟩
end Go.Proofs.YtboolngaahifdaaGreatD
