/- Part 15 of the proof of the statement FnFreezes: contracts of functions and plain laws; no condition. -/
import Derived.Test.YtcjdfeafcmfgpaaGreatQ14
set_option linter.unusedVariables false
set_option linter.unusedSimpArgs false
set_option maxRecDepth 100000
namespace Go.Proofs.YtcjdfeafcmfgpaaGreatD
open Go Go.Proofs
set_option maxHeartbeats 2000000 in
theorem l3AnyAtom_g (c : Cur) (h : goodC c) : SpecG Tryz.prog 250 [.ptr 0 0] (gC c) fun r g2 => ∃ (a : AtomD) (c' : Cur), r = wAtom a ∧ a.2.length ≤ 4 ∧ goodC c' ∧ g2 = gC c' := by
  unfold gC
  refine SpecG_of mx Γ_ok 1 Tryz.func250 rfl rfl (by decide) ?_
  conv => whnf
  refine .inr (.inl ?_)
  conv => whnf
  refine ⟨curC_ne c, ?_⟩
  conv => whnf
  refine ⟨_, _, _, l3Schema_spec c h, ?_⟩
  conv => whnf
  refine .inl ?_
  rw [wSchema_ro]
  conv => whnf
  obtain ⟨h1, s1, s2, s3⟩ := schP_ok h
  have hs : sOk (schP c).1 := ⟨s1, s2, by omega⟩
  generalize (schP c).2 = c1 at h1 ⊢
  generalize (schP c).1 = s at hs ⊢
  refine .inr (.inr ⟨[0], [], ?_⟩)
  conv => whnf
  refine ⟨_, l3Atom_g s c1 hs h1, fun r g2 hP => ?_⟩
  obtain ⟨a, c2, rfl, ha, h2, rfl⟩ := hP
  refine .inr ?_
  conv => whnf
  refine .inr (.inl ?_)
  conv => whnf
  refine ⟨curC_ne c2, ?_⟩
  conv => whnf
  refine ⟨_, _, _, l1Below_spec c2 8 h2 (by omega), ?_⟩
  conv => whnf
  refine .inl ?_
  conv => whnf
  have h3 := belowP_good h2 8
  generalize (belowP c2 8).2 = c3 at h3 ⊢
  generalize (belowP c2 8).1 = v
  generalize (v == 0) = b0
  cases b0 with
  | true =>
    conv => whnf
    refine .inr (.inl ?_)
    conv => whnf
    refine ⟨curC_ne c3, ?_⟩
    conv => whnf
    refine ⟨rfl, ?_⟩
    conv => whnf
    refine ⟨_, _, _, l1PickInt_spec c3 [-1, 3, 4] h3 (by decide) (by decide), ?_⟩
    conv => whnf
    refine .inl ?_
    conv => whnf
    refine ⟨[], ?_⟩
    conv => whnf
    refine ⟨by rw [rows_len ciL_len], ?_⟩
    exact ⟨(_, a.2), _, rfl, by show a.2.length ≤ 4; omega, belowP_good h3 3, rfl⟩
  | false =>
    conv => whnf
    generalize (v == 1) = b1
    cases b1 with
    | true =>
      conv => whnf
      refine ⟨[1001, 0, 1, 2, 3, 4, 5, 6, 7, 1000, 1000], by kernel_rfl, ?_⟩
      conv => whnf
      refine .inr (.inr ⟨[0], fun k => noSubT_lk (by kernel_rfl) k, rfl, ?_⟩)
      conv => whnf
      refine ⟨_, l2Any_g c3 h3, fun r g2 hP => ?_⟩
      obtain ⟨t, c4, rfl, h4, rfl⟩ := hP
      refine .inl ?_
      conv => whnf
      refine ⟨_, rfl, .inl ⟨flat1 rfl, ?_⟩⟩
      conv => whnf
      refine ⟨by omega, by rw [rows_len ciL_len], _, snoc_ci _ _, ?_⟩
      conv => whnf
      refine ⟨[], ?_⟩
      conv => whnf
      refine ⟨by rw [rows_len ciL_len, List.length_append]; rfl, ?_⟩
      refine ⟨(a.1, a.2 ++ [t]), c4, ?_, by simp; omega, h4, rfl⟩
      show _ = V.agg [ci a.1, .tr 1 (a.2 ++ [t]).length _]
      rw [List.length_append]
      rfl
    | false =>
      conv => whnf
      refine ⟨[], ?_⟩
      conv => whnf
      refine ⟨by rw [rows_len ciL_len], ?_⟩
      exact ⟨a, c3, rfl, by omega, h3, rfl⟩
set_option maxHeartbeats 2000000 in
theorem l3Any_g (c : Cur) (h : goodC c) : SpecG Tryz.prog 210 [.ptr 0 0] (gC c) fun r g2 => ∃ (s : List Int) (c' : Cur), r = wSchema s ∧ s.length ≤ 8 ∧ goodC c' ∧ g2 = gC c' := by
  unfold gC
  refine SpecG_of mx Γ_ok 1 Tryz.func210 rfl rfl (by decide) ?_
  conv => whnf
  refine .inr (.inl ?_)
  conv => whnf
  refine ⟨curC_ne c, ?_⟩
  conv => whnf
  refine ⟨_, _, _, l3Schema_spec c h, ?_⟩
  conv => whnf
  refine .inr ?_
  conv => whnf
  obtain ⟨h1, s1, s2, s3⟩ := schP_ok h
  generalize (schP c).2 = c1 at h1 ⊢
  generalize (schP c).1 = s at s3 ⊢
  refine .inr (.inl ?_)
  conv => whnf
  refine ⟨curC_ne c1, ?_⟩
  conv => whnf
  refine ⟨_, _, _, l1Below_spec c1 10 h1 (by omega), ?_⟩
  conv => whnf
  refine .inl ?_
  conv => whnf
  have h2 := belowP_good h1 10
  generalize (belowP c1 10).2 = c2 at h2 ⊢
  generalize (belowP c1 10).1 = v
  generalize (v == 0) = b0
  cases b0 with
  | true =>
    conv => whnf
    refine ⟨[1001, 0, 1, 2, 3, 4, 5, 6, 7, 8, 1000, 1000], by kernel_rfl, ?_⟩
    conv => whnf
    refine .inr (.inl ?_)
    conv => whnf
    refine ⟨curC_ne c2, ?_⟩
    conv => whnf
    refine ⟨rfl, ?_⟩
    conv => whnf
    refine ⟨fun k => noSubT_lk (by kernel_rfl) k, rfl, _, _, _, l1PickInt_spec c2 [0, 3, 4] h2 (by decide) (by decide), ?_⟩
    conv => whnf
    refine .inl ?_
    conv => whnf
    refine ⟨_, rfl, .inl ⟨flat1 rfl, ?_⟩⟩
    conv => whnf
    refine ⟨by omega, by rw [rows_len ciL_len], _, snoc_ci _ _, ?_⟩
    conv => whnf
    refine ⟨[], ?_⟩
    conv => whnf
    refine ⟨by rw [rows_len ciL_len, List.length_append]; rfl, ?_⟩
    refine ⟨s ++ [([0, 3, 4] : List Int).getD (belowP c2 3).1.toNat 0], (belowP c2 3).2, ?_, by simp; omega, belowP_good h2 3, rfl⟩
    show _ = V.agg [.tr 1 (s ++ [([0, 3, 4] : List Int).getD (belowP c2 3).1.toNat 0]).length _]
    rw [List.length_append]
    rfl
  | false =>
    conv => whnf
    generalize (v == 1) = b1
    cases b1 with
    | true =>
      conv => whnf
      refine ⟨[], ?_⟩
      conv => whnf
      exact .inr ⟨1, [], c2, rfl, by simp, h2, rfl⟩
    | false =>
      conv => whnf
      generalize (v == 2) = b2
      cases b2 with
      | true =>
        conv => whnf
        refine ⟨[], ?_⟩
        conv => whnf
        exact ⟨rfl, [1, 2, 3, 1, 2], c2, rfl, by simp, h2, rfl⟩
      | false =>
        conv => whnf
        refine ⟨[], ?_⟩
        conv => whnf
        refine ⟨by rw [rows_len ciL_len], ?_⟩
        exact ⟨s, c2, rfl, by omega, h2, rfl⟩
end Go.Proofs.YtcjdfeafcmfgpaaGreatD
set_option linter.unusedVariables false
set_option linter.unusedSimpArgs false
set_option maxRecDepth 100000
namespace Go.Proofs.YtcjdfeafcmfgpaaGreatD
open Go Go.Proofs
def qSm (q : QueryW) : Prop := q.1.length ≤ 8 ∧ q.2.length ≤ 8 ∧ ∀ a ∈ q.2, a.2.length ≤ 8
theorem sm_sum : ∀ {l : List AtomD}, (∀ a ∈ l, a.2.length ≤ 8) → sumB cAtom l ≤ 8 * l.length
  | [], _ => by simp [sumB]
  | a :: l, h => by
    have h1 := sm_sum (l := l) fun x hx => h x (by simp [hx])
    have h2 : cAtom a = a.2.length := rfl
    have h3 := h a (by simp)
    simp only [sumB, List.length_cons]
    omega
theorem qSm_size {q : QueryW} (h : qSm q) : cQuery q ≤ 1048576 := by
  obtain ⟨h1, h2, h3⟩ := h
  have := sm_sum h3
  show q.1.length + (q.2.length + sumB cAtom q.2) ≤ _
  omega
theorem termsL_sum : ∀ l : List AtomD, (termsL l).length = sumB cAtom l
  | [] => rfl
  | a :: l => by
    have h := termsL_sum l
    have e : termsL (a :: l) = a.2 ++ termsL l := by simp [termsL]
    rw [e, List.length_append, h]
    rfl
theorem bodyVars_small {q : QueryW} (h : qSm q) : (bodyVars q).length ≤ 64 := by
  have h1 := bodyVars_len q (termsL q.2) []
  have h2 := sm_sum h.2.2
  have h3 := h.2.1
  rw [termsL_sum] at h1
  unfold bodyVars
  simp only [List.length_nil] at h1
  omega
theorem solid_tAtomD (a : AtomD) : ∀ c ∈ tAtom a, solid c = true := by
  intro c hc
  simp only [tAtom, List.mem_cons, List.not_mem_nil, or_false] at hc
  rcases hc with rfl | rfl <;> rfl
theorem snoc_rowsD {α : Type} (f : α → List V) (xs : List α) (x : α) : rows f xs ++ f x = rows f (xs ++ [x]) := by
  rw [rows_append]
  simp [rows]
set_option maxHeartbeats 4000000 in
theorem l4Query_g (s : List Int) (c : Cur) (hs : sOk s) (h : goodC c) : SpecG Tryz.prog 207 [.ptr 0 0, vSchema s] (gC c) fun r g2 => ∃ (q : QueryW) (c' : Cur), r = wQuery q ∧ q.1.length ≤ 3 ∧ q.2.length ≤ 3 ∧ 1 ≤ q.2.length ∧ (∀ a ∈ q.2, a.2.length ≤ 3) ∧ goodC c' ∧ g2 = gC c' := by
  unfold gC
  refine SpecG_of mx Γ_ok 1 Tryz.func207 rfl rfl (by decide) ?_
  conv => whnf
  refine .inr (.inl ?_)
  conv => whnf
  refine ⟨curC_ne c, ?_⟩
  conv => whnf
  refine ⟨_, _, _, l1Below_spec c 3 h (by omega), ?_⟩
  conv => whnf
  refine .inl ?_
  conv => whnf
  have hb := belowP_bd c (n := 3) (by omega) (by omega)
  have h0 := belowP_good h 3
  generalize (belowP c 3).2 = c0 at h0 ⊢
  obtain ⟨n0, hn0⟩ : ∃ n : Nat, (belowP c 3).1 = n := ⟨(belowP c 3).1.toNat, by omega⟩
  rw [hn0] at hb ⊢
  have hw : IntKind.i64.wrap (1 + (n0 : Int)) = ((n0 + 1 : Nat) : Int) := by rw [wrap_id (by omega) (by omega)]; omega
  rw [hw]
  refine ⟨[(0,0),(3,0),(4,0),(5,101),(5,202),(6,0)], fun m st => ∃ (n : Nat) (e : Int) (body : List AtomD) (c1 : Cur) (k : Nat) (cc r : List V), e = n ∧ m = n ∧ body.length + n = n0 + 1 ∧ goodC c1 ∧ k = body.length ∧ (∀ a ∈ body, a.2.length ≤ 3) ∧ cc = curC c1 ∧ r = rows tAtom body ∧
    st = ⟨61, [(0, .ptr 0 0), (3, .ptr 1 0), (4, .ptr 2 0), (5, .ptr 3 0), (5, .ptr 3 0), (6, ci e)], [some ⟨false, cc⟩, some ⟨true, [ints s]⟩, some ⟨true, [cnil, cnil]⟩, some ⟨true, [.own 4 1 0 0 0 none, .own 5 2 0 k k none]⟩, some ⟨false, []⟩, some ⟨false, r⟩]⟩, n0 + 1, ⟨n0 + 1, (n0 + 1 : Nat), [], c0, 0, _, _, rfl, rfl, by simp, h0, rfl, (fun a ha => by cases ha), rfl, rfl, by kernel_rfl⟩, ?_⟩
  rintro m st ⟨n, _, body, c1, k, _, _, rfl, hm, hbn, hc1, hk, hbd, rfl, rfl, rfl⟩
  conv => whnf
  split <;> rename_i h1
  all_goals simp only [decide_eq_true_eq, decide_eq_false_iff_not] at h1
  · obtain ⟨n', rfl⟩ : ∃ n', n = n' + 1 := ⟨n - 1, by omega⟩
    conv => whnf
    refine .inr (.inr ⟨[0], [], ?_⟩)
    conv => whnf
    refine ⟨_, l3Atom_g s c1 hs hc1, fun r g2 hP => ?_⟩
    obtain ⟨a, c2, rfl, ha, h2, rfl⟩ := hP
    refine .inr ?_
    conv => whnf
    refine ⟨by rw [rows_len ciL_len], ?_⟩
    conv => whnf
    refine ⟨_, rfl, .inr ⟨solid_tAtomD a, ?_⟩⟩
    conv => whnf
    refine ⟨by omega, by rw [rows_len tAtom_len, hk], _, snoc_rowsD tAtom _ a, ?_⟩
    conv => whnf
    refine ⟨m - 1, by omega, n', _, body ++ [a], c2, k + 1, _, _, wrap_pred n', by omega, by simp; omega, h2, by simp [hk], fun x hx => ?_, rfl, rfl, by kernel_rfl⟩
    rcases List.mem_append.1 hx with hx | hx
    · exact hbd x hx
    · rw [List.mem_singleton.1 hx]; exact ha
  · have hn : n = 0 := by omega
    subst hn
    subst hk
    have hq : qSm ([], body) := ⟨by simp, by show body.length ≤ 8; omega, fun a ha => by have := hbd a ha; omega⟩
    conv => whnf
    refine .inl ?_
    conv => whnf
    refine ⟨_, _, takeN_all rfl, rfl, ?_⟩
    conv => whnf
    refine ⟨_, _, takeN_all (by rw [rows_len tAtom_len]), roVs_rows tAtom_ro _, ?_⟩
    conv => whnf
    refine ⟨_, bodyVars_spec ([], body) (qSm_size hq), .inr (closeds_rows (f := ciL) (fun x => ⟨trivial, trivial⟩) _), .inl ?_⟩
    rw [intsT_ro]
    have hvl := bodyVars_small hq
    generalize bodyVars ([], body) = v at hvl ⊢
    conv => whnf
    refine .inr (.inl ?_)
    conv => whnf
    refine ⟨curC_ne c1, ?_⟩
    conv => whnf
    refine ⟨_, _, _, l1Below_spec c1 3 hc1 (by omega), ?_⟩
    conv => whnf
    refine .inl ?_
    conv => whnf
    have hb2 := belowP_bd c1 (n := 3) (by omega) (by omega)
    have h3 := belowP_good hc1 3
    generalize (belowP c1 3).2 = c2 at h3 ⊢
    obtain ⟨n2, hn2⟩ : ∃ n : Nat, (belowP c1 3).1 = n := ⟨(belowP c1 3).1.toNat, by omega⟩
    rw [hn2] at hb2 ⊢
    refine ⟨[(0,0),(4,0),(5,0),(8,0),(9,0)], fun m st => ∃ (n : Nat) (e : Int) (hd : List Int) (c1 : Cur) (k : Nat) (cc r : List V), e = n ∧ m = n ∧ hd.length + n = n2 ∧ goodC c1 ∧ k = hd.length ∧ cc = curC c1 ∧ r = rows ciL hd ∧
      st = ⟨61, [(0, .ptr 0 0), (4, .ptr 1 0), (5, .ptr 2 0), (8, ints v), (9, ci e)], [some ⟨false, cc⟩, some ⟨true, [cnil, cnil]⟩, some ⟨true, [.own 3 1 0 k k none, .own 4 2 0 body.length body.length none]⟩, some ⟨false, r⟩, some ⟨false, rows tAtom body⟩]⟩, n2, ⟨n2, n2, [], c2, 0, _, _, rfl, rfl, by simp, h3, rfl, rfl, rfl, by kernel_rfl⟩, ?_⟩
    rintro m2 st ⟨n, _, hd, c3, k, _, _, rfl, hm2, hhn, hc3, hk, rfl, rfl, rfl⟩
    conv => whnf
    split <;> rename_i h4
    all_goals simp only [decide_eq_true_eq, decide_eq_false_iff_not] at h4
    · obtain ⟨n', rfl⟩ : ∃ n', n = n' + 1 := ⟨n - 1, by omega⟩
      conv => whnf
      refine .inr (.inl ?_)
      conv => whnf
      refine ⟨curC_ne c3, ?_⟩
      conv => whnf
      refine ⟨_, _, _, l1Below_spec c3 3 hc3 (by omega), ?_⟩
      conv => whnf
      refine .inl ?_
      have h5 := belowP_good hc3 3
      generalize (belowP c3 3).2 = c4 at h5 ⊢
      generalize (belowP c3 3).1 = t0
      generalize hvb : decide ((v.length : Int) > 0) = vb
      conv => whnf
      rw [hvb]
      cases vb with
      | false =>
        conv => whnf
        refine ⟨_, rfl, .inl ⟨flat1 rfl, ?_⟩⟩
        conv => whnf
        refine ⟨by omega, by rw [rows_len ciL_len, hk], _, snoc_ci _ _, ?_⟩
        conv => whnf
        exact ⟨m2 - 1, by omega, n', IntKind.i64.wrap (((n' + 1 : Nat) : Int) - 1), hd ++ [IntKind.i64.wrap (-1 - t0)], c4, k + 1, curC c4, rows ciL (hd ++ [IntKind.i64.wrap (-1 - t0)]), wrap_pred n', by omega, by simp; omega, h5, by simp [hk], rfl, rfl, by kernel_rfl⟩
      | true =>
        have hv0 : 0 < v.length := by have := of_decide_eq_true hvb; omega
        conv => whnf
        refine .inr (.inl ?_)
        conv => whnf
        refine ⟨curC_ne c4, ?_⟩
        conv => whnf
        refine ⟨_, _, _, l1Once_spec c4 8 h5 (by omega), ?_⟩
        conv => whnf
        refine .inl ?_
        conv => whnf
        have h6 := belowP_good h5 8
        generalize (belowP c4 8).2 = c5 at h6 ⊢
        generalize ((belowP c4 8).1 == 0) = b6
        cases b6 with
        | true =>
          conv => whnf
          refine ⟨_, rfl, .inl ⟨flat1 rfl, ?_⟩⟩
          conv => whnf
          refine ⟨by omega, by rw [rows_len ciL_len, hk], _, snoc_ci _ _, ?_⟩
          conv => whnf
          exact ⟨m2 - 1, by omega, n', IntKind.i64.wrap (((n' + 1 : Nat) : Int) - 1), hd ++ [IntKind.i64.wrap (-1 - t0)], c5, k + 1, curC c5, rows ciL (hd ++ [IntKind.i64.wrap (-1 - t0)]), wrap_pred n', by omega, by simp; omega, h6, by simp [hk], rfl, rfl, by kernel_rfl⟩
        | false =>
          conv => whnf
          refine .inr (.inl ?_)
          conv => whnf
          refine ⟨curC_ne c5, ?_⟩
          conv => whnf
          refine ⟨_, _, _, l1Below_spec c5 v.length h6 (by omega), ?_⟩
          conv => whnf
          refine .inl ?_
          conv => whnf
          have hb7 := belowP_bd c5 (n := v.length) (by omega) (by omega)
          have h7 := belowP_good h6 v.length
          generalize (belowP c5 v.length).2 = c6 at h7 ⊢
          obtain ⟨p, hp⟩ : ∃ p : Nat, (belowP c5 v.length).1 = p := ⟨(belowP c5 v.length).1.toNat, by omega⟩
          rw [hp] at hb7 ⊢
          have hpl : p < v.length := by omega
          refine ⟨by omega, rows_len ciL_len _, ?_⟩
          conv => whnf
          refine ⟨_, takeN_rp (k := p) ciL_len hpl, ?_⟩
          conv => whnf
          refine ⟨_, rfl, .inl ⟨flat1 rfl, ?_⟩⟩
          conv => whnf
          refine ⟨by omega, by rw [rows_len ciL_len, hk], _, snoc_ci _ _, ?_⟩
          conv => whnf
          exact ⟨m2 - 1, by omega, n', IntKind.i64.wrap (((n' + 1 : Nat) : Int) - 1), hd ++ [v[p]], c6, k + 1, curC c6, rows ciL (hd ++ [v[p]]), wrap_pred n', by omega, by simp; omega, h7, by simp [hk], rfl, rfl, by kernel_rfl⟩
    · subst hk
      conv => whnf
      refine ⟨[], ?_⟩
      conv => whnf
      refine ⟨by rw [rows_len ciL_len], by rw [rows_len tAtom_len], ?_⟩
      exact ⟨(hd, body), c3, rfl, by show hd.length ≤ 3; omega, by show body.length ≤ 3; omega, by show 1 ≤ body.length; omega, hbd, hc3, rfl⟩
end Go.Proofs.YtcjdfeafcmfgpaaGreatD
set_option linter.unusedVariables false
set_option linter.unusedSimpArgs false
set_option maxRecDepth 100000
namespace Go.Proofs.YtcjdfeafcmfgpaaGreatD
open Go Go.Proofs
set_option maxHeartbeats 4000000 in
theorem l4Any_g (c : Cur) (h : goodC c) : SpecG Tryz.prog 160 [.ptr 0 0] (gC c) fun r g2 => ∃ (s : List Int) (q : QueryW) (c' : Cur), r = .tup [vSchema s, wQuery q] ∧ s.length ≤ 8 ∧ qSm q ∧ goodC c' ∧ g2 = gC c' := by
  unfold gC
  refine SpecG_of mx Γ_ok 1 Tryz.func160 rfl rfl (by decide) ?_
  conv => whnf
  refine .inr (.inl ?_)
  conv => whnf
  refine ⟨curC_ne c, ?_⟩
  conv => whnf
  refine ⟨_, _, _, l3Schema_spec c h, ?_⟩
  conv => whnf
  refine .inl ?_
  rw [wSchema_ro]
  conv => whnf
  obtain ⟨h1, s1, s2, s3⟩ := schP_ok h
  have hs : sOk (schP c).1 := ⟨s1, s2, by omega⟩
  generalize (schP c).2 = c1 at h1 ⊢
  generalize (schP c).1 = s at hs s3 ⊢
  refine .inr (.inr ⟨[0], [], ?_⟩)
  conv => whnf
  refine ⟨_, l4Query_g s c1 hs h1, fun r g2 hP => ?_⟩
  obtain ⟨q, c2, rfl, q1, q2, _, q3, h2, rfl⟩ := hP
  refine .inr ?_
  conv => whnf
  refine .inr (.inl ?_)
  conv => whnf
  refine ⟨curC_ne c2, ?_⟩
  conv => whnf
  refine ⟨_, _, _, l1Below_spec c2 12 h2 (by omega), ?_⟩
  conv => whnf
  refine .inl ?_
  conv => whnf
  have h3 := belowP_good h2 12
  generalize (belowP c2 12).2 = c3 at h3 ⊢
  generalize (belowP c2 12).1 = v
  have hret : ∀ (s : List Int) (q : QueryW), s.length ≤ 8 → qSm q → True := fun _ _ _ _ => trivial
  have hqs : qSm q := ⟨by omega, by omega, fun a ha => by have := q3 a ha; omega⟩
  generalize (v == 0) = b0
  cases b0 with
  | true =>
    conv => whnf
    refine ⟨[1001, 0, 1, 2, 3, 4, 5, 6, 7, 1000, 1000], by kernel_rfl, ?_⟩
    conv => whnf
    refine .inr (.inr ⟨[0], fun k => noSubT_lk (by kernel_rfl) k, rfl, ?_⟩)
    conv => whnf
    refine ⟨_, l2Any_g c3 h3, fun r g2 hP => ?_⟩
    obtain ⟨t, c4, rfl, h4, rfl⟩ := hP
    refine .inl ?_
    conv => whnf
    refine ⟨_, rfl, .inl ⟨flat1 rfl, ?_⟩⟩
    conv => whnf
    refine ⟨by omega, by rw [rows_len ciL_len], _, snoc_ci _ _, ?_⟩
    conv => whnf
    refine ⟨[2001, 0, 1, 2, 3], by kernel_rfl, ?_⟩
    conv => whnf
    refine ⟨rfl, ?_⟩
    conv => whnf
    refine ⟨[], ?_⟩
    conv => whnf
    refine ⟨by rw [rows_len ciL_len, List.length_append]; rfl, by rw [rows_len tAtom_len], ?_⟩
    refine ⟨s, (q.1 ++ [t], q.2), c4, ?_, by omega, ⟨by simp; omega, hqs.2.1, hqs.2.2⟩, h4, rfl⟩
    show _ = V.tup [_, .agg [.tr 1 (q.1 ++ [t]).length _, _]]
    rw [List.length_append]
    rfl
  | false =>
    conv => whnf
    generalize (v == 1) = b1
    cases b1 with
    | true =>
      conv => whnf
      refine ⟨[1001, 0, 1, 2, 3, 4, 5, 6, 7, 1000, 1000], by kernel_rfl, ?_⟩
      conv => whnf
      refine .inr (.inr ⟨[0], fun k => noSubT_lk (by kernel_rfl) k, rfl, ?_⟩)
      conv => whnf
      refine ⟨_, l3AnyAtom_g c3 h3, fun r g2 hP => ?_⟩
      obtain ⟨a, c4, rfl, ha, h4, rfl⟩ := hP
      refine .inr ?_
      conv => whnf
      refine ⟨by rw [rows_len ciL_len], ?_⟩
      conv => whnf
      refine ⟨_, rfl, .inr ⟨solid_tAtomD a, ?_⟩⟩
      conv => whnf
      refine ⟨by omega, by rw [rows_len tAtom_len], _, snoc_rowsD tAtom _ a, ?_⟩
      conv => whnf
      refine ⟨[2001, 0, 1, 2, 3], by kernel_rfl, ?_⟩
      conv => whnf
      refine ⟨rfl, ?_⟩
      conv => whnf
      refine ⟨[], ?_⟩
      conv => whnf
      refine ⟨by rw [rows_len ciL_len], by rw [rows_len tAtom_len, List.length_append]; rfl, ?_⟩
      refine ⟨s, (q.1, q.2 ++ [a]), c4, ?_, by omega, ⟨hqs.1, by simp; omega, fun x hx => ?_⟩, h4, rfl⟩
      · show _ = V.tup [_, .agg [_, .tr 2 (q.2 ++ [a]).length _]]
        rw [List.length_append]
        rfl
      · rcases List.mem_append.1 hx with hx | hx
        · exact hqs.2.2 x hx
        · rw [List.mem_singleton.1 hx]; omega
    | false =>
      conv => whnf
      generalize (v == 2) = b2
      cases b2 with
      | true =>
        conv => whnf
        refine ⟨[2001, 0, 1, 2, 3], by kernel_rfl, ?_⟩
        conv => whnf
        refine ⟨rfl, ?_⟩
        conv => whnf
        refine ⟨[], ?_⟩
        conv => whnf
        refine ⟨by rw [rows_len ciL_len], rfl, ?_⟩
        exact ⟨s, (q.1, []), c3, rfl, by omega, ⟨hqs.1, by simp, fun x hx => by cases hx⟩, h3, rfl⟩
      | false =>
        conv => whnf
        generalize (v == 3) = b3
        cases b3 with
        | true =>
          conv => whnf
          refine .inr (.inr ⟨[0], [], ?_⟩)
          conv => whnf
          refine ⟨_, l3Any_g c3 h3, fun r g2 hP => ?_⟩
          obtain ⟨s', c4, rfl, hs', h4, rfl⟩ := hP
          refine .inl ?_
          rw [wSchema_ro]
          conv => whnf
          refine ⟨[2001, 0, 1, 2, 3], by kernel_rfl, ?_⟩
          conv => whnf
          refine ⟨rfl, ?_⟩
          conv => whnf
          refine ⟨[], ?_⟩
          conv => whnf
          refine ⟨by rw [rows_len ciL_len], by rw [rows_len tAtom_len], ?_⟩
          exact ⟨s', q, c4, rfl, hs', hqs, h4, rfl⟩
        | false =>
          conv => whnf
          refine ⟨[2001, 0, 1, 2, 3], by kernel_rfl, ?_⟩
          conv => whnf
          refine ⟨rfl, ?_⟩
          conv => whnf
          refine ⟨[], ?_⟩
          conv => whnf
          refine ⟨by rw [rows_len ciL_len], by rw [rows_len tAtom_len], ?_⟩
          exact ⟨s, q, c3, rfl, by omega, hqs, h3, rfl⟩
end Go.Proofs.YtcjdfeafcmfgpaaGreatD
set_option linter.unusedVariables false
set_option linter.unusedSimpArgs false
set_option maxRecDepth 100000
namespace Go.Proofs.YtcjdfeafcmfgpaaGreatD
open Go Go.Proofs
theorem drawFreeze_g (xs : List Int) (h : xs.length ≤ 1099511627776) : SpecG Tryz.prog 48 [bytesR xs] [] fun r g2 => ∃ (q : QueryW), r = wQuery q ∧ qSm q ∧ g2 = [] := by
  refine SpecG_of mx Γ_ok 0 Tryz.func48 rfl rfl (by decide) ?_
  conv => whnf
  refine ⟨_, l1New_spec xs h, .inl rfl, .inr ?_⟩
  conv => whnf
  have g0 := good_new h
  generalize newCur xs = c0 at g0 ⊢
  refine .inr (.inr ⟨[1], [], ?_⟩)
  conv => whnf
  refine ⟨_, l4Any_g c0 g0, fun r g2 hP => ?_⟩
  obtain ⟨s, q, c1, rfl, hs, hq, g1, rfl⟩ := hP
  refine .inr ?_
  conv => whnf
  refine ⟨[], ?_⟩
  conv => whnf
  refine ⟨by rw [rows_len ciL_len], by rw [rows_len tAtom_len], ?_⟩
  exact ⟨q, rfl, hq, rfl⟩
theorem drawIsQuery_g (xs : List Int) (h : xs.length ≤ 1099511627776) : SpecG Tryz.prog 51 [bytesR xs] [] fun r g2 => ∃ (s : List Int) (q : QueryW), r = .tup [vSchema s, wQuery q] ∧ s.length ≤ 8 ∧ qSm q ∧ g2 = [] := by
  refine SpecG_of mx Γ_ok 0 Tryz.func51 rfl rfl (by decide) ?_
  conv => whnf
  refine ⟨_, l1New_spec xs h, .inl rfl, .inr ?_⟩
  conv => whnf
  have g0 := good_new h
  generalize newCur xs = c0 at g0 ⊢
  refine .inr (.inr ⟨[2], [], ?_⟩)
  conv => whnf
  refine ⟨_, l4Any_g c0 g0, fun r g2 hP => ?_⟩
  obtain ⟨s, q, c1, rfl, hs, hq, g1, rfl⟩ := hP
  refine .inr ?_
  conv => whnf
  refine ⟨[2000, 0, 1, 2, 3], by kernel_rfl, ?_⟩
  conv => whnf
  refine ⟨rfl, ?_⟩
  conv => whnf
  refine ⟨[], ?_⟩
  conv => whnf
  refine ⟨by rw [rows_len ciL_len], by rw [rows_len tAtom_len], ?_⟩
  exact ⟨s, q, rfl, hs, hq, rfl⟩
set_option maxHeartbeats 1000000 in
theorem drawUnfreeze_g (xs : List Int) (h : xs.length ≤ 1099511627776) : SpecG Tryz.prog 52 [bytesR xs] [] fun r g2 => ∃ (l : List Int), r = intsT l ∧ l.length ≤ 8 ∧ g2 = [] := by
  refine SpecG_of mx Γ_ok 0 Tryz.func52 rfl rfl (by decide) ?_
  conv => whnf
  refine ⟨_, l1New_spec xs h, .inl rfl, .inr ?_⟩
  conv => whnf
  have g0 := good_new h
  generalize newCur xs = c0 at g0 ⊢
  refine .inr (.inl ?_)
  conv => whnf
  refine ⟨curC_ne c0, ?_⟩
  conv => whnf
  refine ⟨_, _, _, l1Below_spec c0 4 g0 (by omega), ?_⟩
  conv => whnf
  refine .inl ?_
  have hb := belowP_bd c0 (n := 4) (by omega) (by omega)
  have g2 := belowP_good g0 4
  generalize (belowP c0 4).2 = c2 at g2 ⊢
  obtain ⟨n0, hn0⟩ : ∃ n : Nat, (belowP c0 4).1 = n := ⟨(belowP c0 4).1.toNat, by omega⟩
  rw [hn0] at hb ⊢
  conv => whnf
  refine ⟨[(2,0),(3,0),(4,0),(5,0)], fun m st => ∃ (n : Nat) (e : Int) (l : List Int) (c1 : Cur) (k : Nat) (cc r : List V), e = n ∧ m = n ∧ l.length + n = n0 ∧ goodC c1 ∧ k = l.length ∧ cc = curC c1 ∧ r = rows ciL l ∧
    st = ⟨24, [(2, cnil), (3, .ptr 0 0), (4, .own 1 1 0 k k none), (5, ci e)], [some ⟨false, cc⟩, some ⟨false, r⟩]⟩, n0, ⟨n0, n0, [], c2, 0, _, _, rfl, rfl, by simp, g2, rfl, rfl, rfl, by kernel_rfl⟩, ?_⟩
  rintro m st ⟨n, _, l, c3, k, _, _, rfl, hm, hln, g3, hk, rfl, rfl, rfl⟩
  conv => whnf
  split <;> rename_i h1
  all_goals simp only [decide_eq_true_eq, decide_eq_false_iff_not] at h1
  · obtain ⟨n', rfl⟩ : ∃ n', n = n' + 1 := ⟨n - 1, by omega⟩
    conv => whnf
    refine .inr (.inl ?_)
    conv => whnf
    refine ⟨curC_ne c3, ?_⟩
    conv => whnf
    refine ⟨rfl, ?_⟩
    conv => whnf
    refine ⟨_, _, _, l1PickInt_spec c3 [0, 5, 79, 80, 81, 99] g3 (by decide) (by decide), ?_⟩
    conv => whnf
    refine .inl ?_
    have g4 := belowP_good g3 6
    have e6 : (([0, 5, 79, 80, 81, 99] : List Int).length : Int) = 6 := rfl
    rw [e6]
    generalize (belowP c3 6).2 = c4 at g4 ⊢
    generalize ([0, 5, 79, 80, 81, 99] : List Int).getD _ 0 = t
    conv => whnf
    refine ⟨_, rfl, .inl ⟨flat1 rfl, ?_⟩⟩
    conv => whnf
    refine ⟨by omega, by rw [rows_len ciL_len, hk], _, snoc_ci _ _, ?_⟩
    conv => whnf
    exact ⟨m - 1, by omega, n', IntKind.i64.wrap (((n' + 1 : Nat) : Int) - 1), l ++ [t], c4, k + 1, curC c4, rows ciL (l ++ [t]), wrap_pred n', by omega, by simp; omega, g4, by simp [hk], rfl, rfl, by kernel_rfl⟩
  · have hn : n = 0 := by omega
    subst hn
    subst hk
    conv => whnf
    refine ⟨[], ?_⟩
    conv => whnf
    refine ⟨by rw [rows_len ciL_len], ?_⟩
    exact ⟨l, rfl, by omega, rfl⟩
end Go.Proofs.YtcjdfeafcmfgpaaGreatD
