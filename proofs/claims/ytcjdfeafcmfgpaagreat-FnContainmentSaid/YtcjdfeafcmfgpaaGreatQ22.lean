/- Contracts of functions and plain laws that a proof of this seat rests on; no condition. -/
import Derived.Test.YtcjdfeafcmfgpaaGreatQ21
set_option linter.unusedVariables false
set_option linter.unusedSimpArgs false
set_option maxRecDepth 100000
namespace Go.Proofs.YtcjdfeafcmfgpaaGreatD
open Go Go.Proofs
set_option maxHeartbeats 2000000 in
theorem l3Any_g (c : Cur) (h : goodC c) : SpecG Tryz.prog 210 [.ptr 0 0] (gC c) fun r g2 => ∃ (s : List Int) (c' : Cur), r = wSchema s ∧ s.length ≤ 8 ∧ goodC c' ∧ g2 = gC c' := by
  unfold gC
  refine SpecG_of mx Γ_ok 1 Tryz.func210 rfl rfl (by decide) ?_
  conv => whnf
  refine .inr (.inl ?_)
  conv => whnf
  refine ⟨curC_ne c, ?_⟩
  conv => whnf
  refine ⟨_, _, _, l3Schema_spec c h, ?_⟩
  conv => whnf
  refine .inr ?_
  conv => whnf
  obtain ⟨h1, s1, s2, s3⟩ := schP_ok h
  generalize (schP c).2 = c1 at h1 ⊢
  generalize (schP c).1 = s at s3 ⊢
  refine .inr (.inl ?_)
  conv => whnf
  refine ⟨curC_ne c1, ?_⟩
  conv => whnf
  refine ⟨_, _, _, l1Below_spec c1 10 h1 (by omega), ?_⟩
  conv => whnf
  refine .inl ?_
  conv => whnf
  have h2 := belowP_good h1 10
  generalize (belowP c1 10).2 = c2 at h2 ⊢
  generalize (belowP c1 10).1 = v
  generalize (v == 0) = b0
  cases b0 with
  | true =>
    conv => whnf
    refine ⟨[1001, 0, 1, 2, 3, 4, 5, 6, 7, 8, 1000, 1000], by kernel_rfl, ?_⟩
    conv => whnf
    refine .inr (.inl ?_)
    conv => whnf
    refine ⟨curC_ne c2, ?_⟩
    conv => whnf
    refine ⟨rfl, ?_⟩
    conv => whnf
    refine ⟨fun k => noSubT_lk (by kernel_rfl) k, rfl, _, _, _, l1PickInt_spec c2 [0, 3, 4] h2 (by decide) (by decide), ?_⟩
    conv => whnf
    refine .inl ?_
    conv => whnf
    refine ⟨_, rfl, .inl ⟨flat1 rfl, ?_⟩⟩
    conv => whnf
    refine ⟨by omega, by rw [rows_len ciL_len], _, snoc_ci _ _, ?_⟩
    conv => whnf
    refine ⟨[], ?_⟩
    conv => whnf
    refine ⟨by rw [rows_len ciL_len, List.length_append]; rfl, ?_⟩
    refine ⟨s ++ [([0, 3, 4] : List Int).getD (belowP c2 3).1.toNat 0], (belowP c2 3).2, ?_, by simp; omega, belowP_good h2 3, rfl⟩
    show _ = V.agg [.tr 1 (s ++ [([0, 3, 4] : List Int).getD (belowP c2 3).1.toNat 0]).length _]
    rw [List.length_append]
    rfl
  | false =>
    conv => whnf
    generalize (v == 1) = b1
    cases b1 with
    | true =>
      conv => whnf
      refine ⟨[], ?_⟩
      conv => whnf
      exact .inr ⟨1, [], c2, rfl, by simp, h2, rfl⟩
    | false =>
      conv => whnf
      generalize (v == 2) = b2
      cases b2 with
      | true =>
        conv => whnf
        refine ⟨[], ?_⟩
        conv => whnf
        exact ⟨rfl, [1, 2, 3, 1, 2], c2, rfl, by simp, h2, rfl⟩
      | false =>
        conv => whnf
        refine ⟨[], ?_⟩
        conv => whnf
        refine ⟨by rw [rows_len ciL_len], ?_⟩
        exact ⟨s, c2, rfl, by omega, h2, rfl⟩
end Go.Proofs.YtcjdfeafcmfgpaaGreatD
set_option linter.unusedVariables false
set_option linter.unusedSimpArgs false
set_option maxRecDepth 100000
namespace Go.Proofs.YtcjdfeafcmfgpaaGreatD
open Go Go.Proofs
def qSm (q : QueryW) : Prop := q.1.length ≤ 8 ∧ q.2.length ≤ 8 ∧ ∀ a ∈ q.2, a.2.length ≤ 8
theorem sm_sum : ∀ {l : List AtomD}, (∀ a ∈ l, a.2.length ≤ 8) → sumB cAtom l ≤ 8 * l.length
  | [], _ => by simp [sumB]
  | a :: l, h => by
    have h1 := sm_sum (l := l) fun x hx => h x (by simp [hx])
    have h2 : cAtom a = a.2.length := rfl
    have h3 := h a (by simp)
    simp only [sumB, List.length_cons]
    omega
theorem qSm_size {q : QueryW} (h : qSm q) : cQuery q ≤ 1048576 := by
  obtain ⟨h1, h2, h3⟩ := h
  have := sm_sum h3
  show q.1.length + (q.2.length + sumB cAtom q.2) ≤ _
  omega
theorem termsL_sum : ∀ l : List AtomD, (termsL l).length = sumB cAtom l
  | [] => rfl
  | a :: l => by
    have h := termsL_sum l
    have e : termsL (a :: l) = a.2 ++ termsL l := by simp [termsL]
    rw [e, List.length_append, h]
    rfl
theorem bodyVars_small {q : QueryW} (h : qSm q) : (bodyVars q).length ≤ 64 := by
  have h1 := bodyVars_len q (termsL q.2) []
  have h2 := sm_sum h.2.2
  have h3 := h.2.1
  rw [termsL_sum] at h1
  unfold bodyVars
  simp only [List.length_nil] at h1
  omega
theorem solid_tAtomD (a : AtomD) : ∀ c ∈ tAtom a, solid c = true := by
  intro c hc
  simp only [tAtom, List.mem_cons, List.not_mem_nil, or_false] at hc
  rcases hc with rfl | rfl <;> rfl
theorem snoc_rowsD {α : Type} (f : α → List V) (xs : List α) (x : α) : rows f xs ++ f x = rows f (xs ++ [x]) := by
  rw [rows_append]
  simp [rows]
set_option maxHeartbeats 4000000 in
theorem l4Query_g (s : List Int) (c : Cur) (hs : sOk s) (h : goodC c) : SpecG Tryz.prog 207 [.ptr 0 0, vSchema s] (gC c) fun r g2 => ∃ (q : QueryW) (c' : Cur), r = wQuery q ∧ q.1.length ≤ 3 ∧ q.2.length ≤ 3 ∧ 1 ≤ q.2.length ∧ (∀ a ∈ q.2, a.2.length ≤ 3) ∧ goodC c' ∧ g2 = gC c' := by
  unfold gC
  refine SpecG_of mx Γ_ok 1 Tryz.func207 rfl rfl (by decide) ?_
  conv => whnf
  refine .inr (.inl ?_)
  conv => whnf
  refine ⟨curC_ne c, ?_⟩
  conv => whnf
  refine ⟨_, _, _, l1Below_spec c 3 h (by omega), ?_⟩
  conv => whnf
  refine .inl ?_
  conv => whnf
  have hb := belowP_bd c (n := 3) (by omega) (by omega)
  have h0 := belowP_good h 3
  generalize (belowP c 3).2 = c0 at h0 ⊢
  obtain ⟨n0, hn0⟩ : ∃ n : Nat, (belowP c 3).1 = n := ⟨(belowP c 3).1.toNat, by omega⟩
  rw [hn0] at hb ⊢
  have hw : IntKind.i64.wrap (1 + (n0 : Int)) = ((n0 + 1 : Nat) : Int) := by rw [wrap_id (by omega) (by omega)]; omega
  rw [hw]
  refine ⟨[(0,0),(3,0),(4,0),(5,101),(5,202),(6,0)], fun m st => ∃ (n : Nat) (e : Int) (body : List AtomD) (c1 : Cur) (k : Nat) (cc r : List V), e = n ∧ m = n ∧ body.length + n = n0 + 1 ∧ goodC c1 ∧ k = body.length ∧ (∀ a ∈ body, a.2.length ≤ 3) ∧ cc = curC c1 ∧ r = rows tAtom body ∧
    st = ⟨61, [(0, .ptr 0 0), (3, .ptr 1 0), (4, .ptr 2 0), (5, .ptr 3 0), (5, .ptr 3 0), (6, ci e)], [some ⟨false, cc⟩, some ⟨true, [ints s]⟩, some ⟨true, [cnil, cnil]⟩, some ⟨true, [.own 4 1 0 0 0 none, .own 5 2 0 k k none]⟩, some ⟨false, []⟩, some ⟨false, r⟩]⟩, n0 + 1, ⟨n0 + 1, (n0 + 1 : Nat), [], c0, 0, _, _, rfl, rfl, by simp, h0, rfl, (fun a ha => by cases ha), rfl, rfl, by kernel_rfl⟩, ?_⟩
  rintro m st ⟨n, _, body, c1, k, _, _, rfl, hm, hbn, hc1, hk, hbd, rfl, rfl, rfl⟩
  conv => whnf
  split <;> rename_i h1
  all_goals simp only [decide_eq_true_eq, decide_eq_false_iff_not] at h1
  · obtain ⟨n', rfl⟩ : ∃ n', n = n' + 1 := ⟨n - 1, by omega⟩
    conv => whnf
    refine .inr (.inr ⟨[0], [], ?_⟩)
    conv => whnf
    refine ⟨_, l3Atom_g s c1 hs hc1, fun r g2 hP => ?_⟩
    obtain ⟨a, c2, rfl, ha, h2, rfl⟩ := hP
    refine .inr ?_
    conv => whnf
    refine ⟨by rw [rows_len ciL_len], ?_⟩
    conv => whnf
    refine ⟨_, rfl, .inr ⟨solid_tAtomD a, ?_⟩⟩
    conv => whnf
    refine ⟨by omega, by rw [rows_len tAtom_len, hk], _, snoc_rowsD tAtom _ a, ?_⟩
    conv => whnf
    refine ⟨m - 1, by omega, n', _, body ++ [a], c2, k + 1, _, _, wrap_pred n', by omega, by simp; omega, h2, by simp [hk], fun x hx => ?_, rfl, rfl, by kernel_rfl⟩
    rcases List.mem_append.1 hx with hx | hx
    · exact hbd x hx
    · rw [List.mem_singleton.1 hx]; exact ha
  · have hn : n = 0 := by omega
    subst hn
    subst hk
    have hq : qSm ([], body) := ⟨by simp, by show body.length ≤ 8; omega, fun a ha => by have := hbd a ha; omega⟩
    conv => whnf
    refine .inl ?_
    conv => whnf
    refine ⟨_, _, takeN_all rfl, rfl, ?_⟩
    conv => whnf
    refine ⟨_, _, takeN_all (by rw [rows_len tAtom_len]), roVs_rows tAtom_ro _, ?_⟩
    conv => whnf
    refine ⟨_, bodyVars_spec ([], body) (qSm_size hq), .inr (closeds_rows (f := ciL) (fun x => ⟨trivial, trivial⟩) _), .inl ?_⟩
    rw [intsT_ro]
    have hvl := bodyVars_small hq
    generalize bodyVars ([], body) = v at hvl ⊢
    conv => whnf
    refine .inr (.inl ?_)
    conv => whnf
    refine ⟨curC_ne c1, ?_⟩
    conv => whnf
    refine ⟨_, _, _, l1Below_spec c1 3 hc1 (by omega), ?_⟩
    conv => whnf
    refine .inl ?_
    conv => whnf
    have hb2 := belowP_bd c1 (n := 3) (by omega) (by omega)
    have h3 := belowP_good hc1 3
    generalize (belowP c1 3).2 = c2 at h3 ⊢
    obtain ⟨n2, hn2⟩ : ∃ n : Nat, (belowP c1 3).1 = n := ⟨(belowP c1 3).1.toNat, by omega⟩
    rw [hn2] at hb2 ⊢
    refine ⟨[(0,0),(4,0),(5,0),(8,0),(9,0)], fun m st => ∃ (n : Nat) (e : Int) (hd : List Int) (c1 : Cur) (k : Nat) (cc r : List V), e = n ∧ m = n ∧ hd.length + n = n2 ∧ goodC c1 ∧ k = hd.length ∧ cc = curC c1 ∧ r = rows ciL hd ∧
      st = ⟨61, [(0, .ptr 0 0), (4, .ptr 1 0), (5, .ptr 2 0), (8, ints v), (9, ci e)], [some ⟨false, cc⟩, some ⟨true, [cnil, cnil]⟩, some ⟨true, [.own 3 1 0 k k none, .own 4 2 0 body.length body.length none]⟩, some ⟨false, r⟩, some ⟨false, rows tAtom body⟩]⟩, n2, ⟨n2, n2, [], c2, 0, _, _, rfl, rfl, by simp, h3, rfl, rfl, rfl, by kernel_rfl⟩, ?_⟩
    rintro m2 st ⟨n, _, hd, c3, k, _, _, rfl, hm2, hhn, hc3, hk, rfl, rfl, rfl⟩
    conv => whnf
    split <;> rename_i h4
    all_goals simp only [decide_eq_true_eq, decide_eq_false_iff_not] at h4
    · obtain ⟨n', rfl⟩ : ∃ n', n = n' + 1 := ⟨n - 1, by omega⟩
      conv => whnf
      refine .inr (.inl ?_)
      conv => whnf
      refine ⟨curC_ne c3, ?_⟩
      conv => whnf
      refine ⟨_, _, _, l1Below_spec c3 3 hc3 (by omega), ?_⟩
      conv => whnf
      refine .inl ?_
      have h5 := belowP_good hc3 3
      generalize (belowP c3 3).2 = c4 at h5 ⊢
      generalize (belowP c3 3).1 = t0
      generalize hvb : decide ((v.length : Int) > 0) = vb
      conv => whnf
      rw [hvb]
      cases vb with
      | false =>
        conv => whnf
        refine ⟨_, rfl, .inl ⟨flat1 rfl, ?_⟩⟩
        conv => whnf
        refine ⟨by omega, by rw [rows_len ciL_len, hk], _, snoc_ci _ _, ?_⟩
        conv => whnf
        exact ⟨m2 - 1, by omega, n', IntKind.i64.wrap (((n' + 1 : Nat) : Int) - 1), hd ++ [IntKind.i64.wrap (-1 - t0)], c4, k + 1, curC c4, rows ciL (hd ++ [IntKind.i64.wrap (-1 - t0)]), wrap_pred n', by omega, by simp; omega, h5, by simp [hk], rfl, rfl, by kernel_rfl⟩
      | true =>
        have hv0 : 0 < v.length := by have := of_decide_eq_true hvb; omega
        conv => whnf
        refine .inr (.inl ?_)
        conv => whnf
        refine ⟨curC_ne c4, ?_⟩
        conv => whnf
        refine ⟨_, _, _, l1Once_spec c4 8 h5 (by omega), ?_⟩
        conv => whnf
        refine .inl ?_
        conv => whnf
        have h6 := belowP_good h5 8
        generalize (belowP c4 8).2 = c5 at h6 ⊢
        generalize ((belowP c4 8).1 == 0) = b6
        cases b6 with
        | true =>
          conv => whnf
          refine ⟨_, rfl, .inl ⟨flat1 rfl, ?_⟩⟩
          conv => whnf
          refine ⟨by omega, by rw [rows_len ciL_len, hk], _, snoc_ci _ _, ?_⟩
          conv => whnf
          exact ⟨m2 - 1, by omega, n', IntKind.i64.wrap (((n' + 1 : Nat) : Int) - 1), hd ++ [IntKind.i64.wrap (-1 - t0)], c5, k + 1, curC c5, rows ciL (hd ++ [IntKind.i64.wrap (-1 - t0)]), wrap_pred n', by omega, by simp; omega, h6, by simp [hk], rfl, rfl, by kernel_rfl⟩
        | false =>
          conv => whnf
          refine .inr (.inl ?_)
          conv => whnf
          refine ⟨curC_ne c5, ?_⟩
          conv => whnf
          refine ⟨_, _, _, l1Below_spec c5 v.length h6 (by omega), ?_⟩
          conv => whnf
          refine .inl ?_
          conv => whnf
          have hb7 := belowP_bd c5 (n := v.length) (by omega) (by omega)
          have h7 := belowP_good h6 v.length
          generalize (belowP c5 v.length).2 = c6 at h7 ⊢
          obtain ⟨p, hp⟩ : ∃ p : Nat, (belowP c5 v.length).1 = p := ⟨(belowP c5 v.length).1.toNat, by omega⟩
          rw [hp] at hb7 ⊢
          have hpl : p < v.length := by omega
          refine ⟨by omega, rows_len ciL_len _, ?_⟩
          conv => whnf
          refine ⟨_, takeN_rp (k := p) ciL_len hpl, ?_⟩
          conv => whnf
          refine ⟨_, rfl, .inl ⟨flat1 rfl, ?_⟩⟩
          conv => whnf
          refine ⟨by omega, by rw [rows_len ciL_len, hk], _, snoc_ci _ _, ?_⟩
          conv => whnf
          exact ⟨m2 - 1, by omega, n', IntKind.i64.wrap (((n' + 1 : Nat) : Int) - 1), hd ++ [v[p]], c6, k + 1, curC c6, rows ciL (hd ++ [v[p]]), wrap_pred n', by omega, by simp; omega, h7, by simp [hk], rfl, rfl, by kernel_rfl⟩
    · subst hk
      conv => whnf
      refine ⟨[], ?_⟩
      conv => whnf
      refine ⟨by rw [rows_len ciL_len], by rw [rows_len tAtom_len], ?_⟩
      exact ⟨(hd, body), c3, rfl, by show hd.length ≤ 3; omega, by show body.length ≤ 3; omega, by show 1 ≤ body.length; omega, hbd, hc3, rfl⟩
end Go.Proofs.YtcjdfeafcmfgpaaGreatD
set_option linter.unusedVariables false
set_option linter.unusedSimpArgs false
set_option maxRecDepth 100000
namespace Go.Proofs.YtcjdfeafcmfgpaaGreatD
open Go Go.Proofs
end Go.Proofs.YtcjdfeafcmfgpaaGreatD
set_option linter.unusedVariables false
set_option linter.unusedSimpArgs false
set_option maxRecDepth 100000
namespace Go.Proofs.YtcjdfeafcmfgpaaGreatD
open Go Go.Proofs
def SV : List Int := [0, 1, 2, 3, 99, 100, -1]
def smF (n : Nat) (f : FactC) : Prop := f.2.length ≤ n ∧ ∀ x ∈ f.2, x ∈ SV
def smDb (n m : Nat) (db : List FactC) : Prop := db.length ≤ n ∧ ∀ f ∈ db, smF m f
theorem below4_sv (c : Cur) : (belowP c 4).1 ∈ SV := by
  have hb := belowP_bd c (n := 4) (by omega) (by omega)
  have : (belowP c 4).1 = 0 ∨ (belowP c 4).1 = 1 ∨ (belowP c 4).1 = 2 ∨ (belowP c 4).1 = 3 := by omega
  rcases this with h | h | h | h <;> rw [h] <;> decide
theorem argGo_sv : ∀ (n : Nat) (a : List Int) (c : Cur), (∀ x ∈ a, x ∈ SV) → ∀ x ∈ (argGo n a c).1, x ∈ SV
  | 0, a, c, h => h
  | n + 1, a, c, h => argGo_sv n _ _ fun x hx => by
    rcases List.mem_append.1 hx with hx | hx
    · exact h x hx
    · rw [List.mem_singleton.1 hx]; exact below4_sv c
theorem factP_sv {s : List Int} (hs : sOk s) {c : Cur} (hc : goodC c) : smF 3 (factP s c).1 ∧ 1 ≤ (factP s c).1.2.length := by
  obtain ⟨k, h1, h2⟩ := below_idx hs c
  have h3 := sOk_at hs h2
  refine ⟨⟨(factP_ok hs hc).2, ?_⟩, ?_⟩
  · exact argGo_sv _ _ _ fun x hx => by cases hx
  · obtain ⟨g1, g2⟩ := argGo_ok (s.getD k 0).toNat [] (belowP c s.length).2 (belowP_good hc _)
    unfold factP
    simp only [h1, Int.toNat_natCast]
    rw [g2, getD_at h2]
    simp only [List.length_nil]
    omega
theorem dbDr_sv {s : List Int} (hs : sOk s) : ∀ (n : Nat) (db : List FactC) (c : Cur), goodC c → (∀ f ∈ db, smF 3 f) → ∀ f ∈ (dbDr s n db c).1, smF 3 f
  | 0, db, c, _, h => h
  | n + 1, db, c, hc, h => dbDr_sv hs n _ _ (factP_ok hs hc).1 fun f hf => by
    rcases mem_putGo' _ f db false hf with rfl | hf
    · exact (factP_sv hs hc).1
    · exact h f hf
theorem dbP_sv {s : List Int} (hs : sOk s) {c : Cur} (hc : goodC c) : goodC (dbP s c).2 ∧ smDb 8 3 (dbP s c).1 := by
  obtain ⟨h1, h2, h3⟩ := dbP_ok hs hc
  exact ⟨h1, h3, dbDr_sv hs _ _ _ (belowP_good hc 9) fun f hf => by cases hf⟩
theorem smDb_size {n m : Nat} {db : List FactC} (h : smDb n m db) (hn : n ≤ 100) (hm : m ≤ 100) : cFactS db ≤ 1048576 := by
  have h1 := sumB_cap' cFact m db fun x hx => (h.2 x hx).1
  have h2 := h.1
  have h3 : m * db.length ≤ 100 * 100 := Nat.mul_le_mul hm (by omega)
  show db.length + sumB cFact db ≤ _
  omega
theorem set0_ci (xs : List Int) (t : Int) (h : 0 < xs.length) : setC (rows ciL xs) (0 + 0 * 1) [ci t] = rows ciL (xs.set 0 t) := (congrArg (fun o => setC (rows ciL xs) o (ciL t)) (Nat.zero_add _)).trans (setC_rows ciL_len (by omega) h _)
set_option maxHeartbeats 4000000 in
theorem l5AnyFact_g (s : List Int) (c : Cur) (hs : sOk s) (h : goodC c) : SpecG Tryz.prog 212 [.ptr 0 0, vSchema s] (gC c) fun r g2 => ∃ (f : FactC) (c' : Cur), r = wFact f ∧ smF 4 f ∧ goodC c' ∧ g2 = gC c' := by
  unfold gC
  refine SpecG_of mx Γ_ok 1 Tryz.func212 rfl rfl (by decide) ?_
  conv => whnf
  refine ⟨_, l4Safe_spec s hs, .inl rfl, .inl ?_⟩
  rw [ints_roV]
  conv => whnf
  refine .inr (.inl ?_)
  conv => whnf
  refine ⟨curC_ne c, ?_⟩
  conv => whnf
  refine ⟨_, _, _, l5Fact_spec s c hs h, ?_⟩
  conv => whnf
  refine .inr ?_
  conv => whnf
  obtain ⟨⟨f1, f2⟩, f3⟩ := factP_sv hs h
  have g1 := (factP_ok hs h).1
  generalize (factP s c).2 = c1 at g1 ⊢
  generalize (factP s c).1 = F at f1 f2 f3 ⊢
  refine .inr (.inl ?_)
  conv => whnf
  refine ⟨curC_ne c1, ?_⟩
  conv => whnf
  refine ⟨_, _, _, l1Below_spec c1 10 g1 (by omega), ?_⟩
  conv => whnf
  refine .inl ?_
  conv => whnf
  have g2 := belowP_good g1 10
  generalize (belowP c1 10).2 = c2 at g2 ⊢
  generalize (belowP c1 10).1 = v
  have pick : ∀ (xs : List Int) (c : Cur), (∀ x ∈ xs, x ∈ SV) → 1 ≤ xs.length → xs.length ≤ 200 → xs.getD (belowP c xs.length).1.toNat 0 ∈ SV := fun xs c hx h1 h2 => by
    have hb := belowP_bd c (n := xs.length) (by omega) (by omega)
    have hk : (belowP c xs.length).1.toNat < xs.length := by omega
    rw [getD_at0 hk]
    exact hx _ (List.getElem_mem hk)
  generalize (v == 0) = b0
  cases b0 with
  | true =>
    conv => whnf
    refine ⟨[1001, 0, 1, 2, 3, 4, 5, 6, 7, 8, 1000, 1000], by kernel_rfl, ?_⟩
    conv => whnf
    refine .inr (.inl ?_)
    conv => whnf
    refine ⟨curC_ne c2, ?_⟩
    conv => whnf
    refine ⟨rfl, ?_⟩
    conv => whnf
    refine ⟨fun k => noSubT_lk (by kernel_rfl) k, rfl, _, _, _, l1PickInt_spec c2 [0, 99, 100, -1] g2 (by decide) (by decide), ?_⟩
    conv => whnf
    refine .inl ?_
    have hp := pick [0, 99, 100, -1] c2 (by decide) (by decide) (by decide)
    have g3 := belowP_good g2 4
    have e4 : (([0, 99, 100, -1] : List Int).length : Int) = 4 := rfl
    rw [e4] at hp ⊢
    generalize (belowP c2 4).2 = c3 at g3 ⊢
    generalize ([0, 99, 100, -1] : List Int).getD (belowP c2 4).1.toNat 0 = t at hp ⊢
    conv => whnf
    refine ⟨_, rfl, .inl ⟨flat1 rfl, ?_⟩⟩
    conv => whnf
    refine ⟨by omega, by rw [rows_len ciL_len], _, snoc_ci _ _, ?_⟩
    conv => whnf
    refine ⟨[], ?_⟩
    conv => whnf
    refine ⟨by rw [rows_len ciL_len, List.length_append]; rfl, ?_⟩
    refine ⟨(F.1, F.2 ++ [t]), c3, ?_, ⟨by simp only [List.length_append, List.length_cons, List.length_nil]; omega, fun x hx => ?_⟩, g3, rfl⟩
    · simp only [wFact, tFact, intsT, List.length_append]
      rfl
    · rcases List.mem_append.1 hx with hx | hx
      · exact f2 x hx
      · rw [List.mem_singleton.1 hx]; exact hp
  | false =>
    conv => whnf
    generalize (v == 1) = b1
    cases b1 with
    | true =>
      conv => whnf
      refine .inr (.inl ?_)
      conv => whnf
      refine ⟨curC_ne c2, ?_⟩
      conv => whnf
      refine ⟨rfl, ?_⟩
      conv => whnf
      refine ⟨_, _, _, l1PickInt_spec c2 [-1, 3, 4] g2 (by decide) (by decide), ?_⟩
      conv => whnf
      refine .inl ?_
      have g3 := belowP_good g2 3
      have e4 : (([-1, 3, 4] : List Int).length : Int) = 3 := rfl
      rw [e4]
      generalize (belowP c2 3).2 = c3 at g3 ⊢
      generalize ([-1, 3, 4] : List Int).getD (belowP c2 3).1.toNat 0 = t
      conv => whnf
      refine ⟨[], ?_⟩
      conv => whnf
      refine ⟨by rw [rows_len ciL_len], ?_⟩
      exact ⟨(t, F.2), c3, rfl, ⟨by show F.2.length ≤ 4; omega, f2⟩, g3, rfl⟩
    | false =>
      conv => whnf
      generalize (v == 2) = b2
      cases b2 with
      | true =>
        conv => whnf
        refine ⟨[1001, 0, 1, 2, 3, 4, 5, 6, 1000, 1000], by kernel_rfl, ?_⟩
        conv => whnf
        refine .inr (.inl ?_)
        conv => whnf
        refine ⟨curC_ne c2, ?_⟩
        conv => whnf
        refine ⟨rfl, ?_⟩
        conv => whnf
        refine ⟨fun k => noSubT_lk (by kernel_rfl) k, rfl, _, _, _, l1PickInt_spec c2 [99, 100, -1] g2 (by decide) (by decide), ?_⟩
        conv => whnf
        refine .inl ?_
        have hp := pick [99, 100, -1] c2 (by decide) (by decide) (by decide)
        have g3 := belowP_good g2 3
        have e4 : (([99, 100, -1] : List Int).length : Int) = 3 := rfl
        rw [e4] at hp ⊢
        generalize (belowP c2 3).2 = c3 at g3 ⊢
        generalize ([99, 100, -1] : List Int).getD (belowP c2 3).1.toNat 0 = t at hp ⊢
        conv => whnf
        refine ⟨by omega, ?_⟩
        conv => whnf
        refine ⟨_, takeN_own (k := 0) (d := 0) (m := 1) (xs := F.2) ciL_len (Nat.zero_add _) (by omega) (by omega) rfl, _, set0_ci F.2 t (by omega), ?_⟩
        conv => whnf
        refine ⟨[], ?_⟩
        conv => whnf
        refine ⟨by rw [rows_len ciL_len, List.length_set], ?_⟩
        refine ⟨(F.1, F.2.set 0 t), c3, ?_, ⟨by simp only [List.length_set]; omega, fun x hx => ?_⟩, g3, rfl⟩
        · simp only [wFact, tFact, intsT, List.length_set]
          rfl
        · rcases List.mem_or_eq_of_mem_set hx with hx | hx
          · exact f2 x hx
          · rw [hx]; exact hp
      | false =>
        conv => whnf
        refine ⟨[], ?_⟩
        conv => whnf
        refine ⟨by rw [rows_len ciL_len], ?_⟩
        exact ⟨F, c2, rfl, ⟨by omega, f2⟩, g2, rfl⟩
end Go.Proofs.YtcjdfeafcmfgpaaGreatD
set_option linter.unusedVariables false
set_option linter.unusedSimpArgs false
set_option maxRecDepth 100000
namespace Go.Proofs.YtcjdfeafcmfgpaaGreatD
open Go Go.Proofs
theorem solid_tFactD (f : FactC) : ∀ c ∈ tFact f, solid c = true := by
  intro c hc
  simp only [tFact, List.mem_cons, List.not_mem_nil, or_false] at hc
  rcases hc with rfl | rfl <;> rfl
set_option maxHeartbeats 4000000 in
theorem l6Draw_g (c : Cur) (h : goodC c) : SpecG Tryz.prog 107 [.ptr 0 0] (gC c) fun r g2 => ∃ (s : List Int) (q : QueryW) (db : List FactC) (c' : Cur), r = .tup [vSchema s, wQuery q, wFactS db] ∧ s.length ≤ 8 ∧ qSm q ∧ q.2.length ≤ 3 ∧ smDb 9 4 db ∧ goodC c' ∧ g2 = gC c' := by
  unfold gC
  refine SpecG_of mx Γ_ok 1 Tryz.func107 rfl rfl (by decide) ?_
  conv => whnf
  refine .inr (.inl ?_)
  conv => whnf
  refine ⟨curC_ne c, ?_⟩
  conv => whnf
  refine ⟨_, _, _, l3Schema_spec c h, ?_⟩
  conv => whnf
  refine .inl ?_
  rw [wSchema_ro]
  conv => whnf
  obtain ⟨h1, s1, s2, s3⟩ := schP_ok h
  have hs : sOk (schP c).1 := ⟨s1, s2, by omega⟩
  generalize (schP c).2 = c1 at h1 ⊢
  generalize (schP c).1 = s at hs s3 ⊢
  refine .inr (.inr ⟨[0], [], ?_⟩)
  conv => whnf
  refine ⟨_, l4Query_g s c1 hs h1, fun r g2 hP => ?_⟩
  obtain ⟨q, c2, rfl, q1, q2, _, q3, h2, rfl⟩ := hP
  refine .inr ?_
  conv => whnf
  refine .inr (.inl ?_)
  conv => whnf
  refine ⟨curC_ne c2, ?_⟩
  conv => whnf
  refine ⟨_, _, _, l5Db_spec s c2 hs h2, ?_⟩
  conv => whnf
  refine .inr ?_
  conv => whnf
  obtain ⟨h3, d1, d2⟩ := dbP_sv hs h2
  generalize (dbP s c2).2 = c3 at h3 ⊢
  generalize (dbP s c2).1 = db at d1 d2 ⊢
  refine .inr (.inl ?_)
  conv => whnf
  refine ⟨curC_ne c3, ?_⟩
  conv => whnf
  refine ⟨_, _, _, l1Below_spec c3 14 h3 (by omega), ?_⟩
  conv => whnf
  refine .inl ?_
  conv => whnf
  have h4 := belowP_good h3 14
  generalize (belowP c3 14).2 = c4 at h4 ⊢
  generalize (belowP c3 14).1 = v
  have hqs : qSm q := ⟨by omega, by omega, fun a ha => by have := q3 a ha; omega⟩
  have hd : smDb 9 4 db := ⟨by omega, fun f hf => ⟨by have := (d2 f hf).1; omega, (d2 f hf).2⟩⟩
  generalize (v == 0) = b0
  cases b0 with
  | true =>
    conv => whnf
    refine ⟨[1001, 0, 1, 2, 3, 4, 5, 6, 7, 1000, 1000], by kernel_rfl, ?_⟩
    conv => whnf
    refine .inr (.inr ⟨[0], fun k => noSubT_lk (by kernel_rfl) k, rfl, ?_⟩)
    conv => whnf
    refine ⟨_, l2Any_g c4 h4, fun r g2 hP => ?_⟩
    obtain ⟨t, c5, rfl, h5, rfl⟩ := hP
    refine .inl ?_
    conv => whnf
    refine ⟨_, rfl, .inl ⟨flat1 rfl, ?_⟩⟩
    conv => whnf
    refine ⟨by omega, by rw [rows_len ciL_len], _, snoc_ci _ _, ?_⟩
    conv => whnf
    refine ⟨[2001, 0, 1, 2, 3, 4, 5], by kernel_rfl, ?_⟩
    conv => whnf
    refine ⟨rfl, ?_⟩
    conv => whnf
    refine ⟨[], ?_⟩
    conv => whnf
    refine ⟨by rw [rows_len ciL_len, List.length_append]; rfl, by rw [rows_len tAtom_len], by rw [rows_len tFact_len], ?_⟩
    refine ⟨s, (q.1 ++ [t], q.2), db, c5, ?_, by omega, ⟨by simp; omega, hqs.2.1, hqs.2.2⟩, q2, hd, h5, rfl⟩
    show _ = V.tup [_, .agg [.tr 1 (q.1 ++ [t]).length _, _], _]
    rw [List.length_append]
    rfl
  | false =>
    conv => whnf
    generalize (v == 1) = b1
    cases b1 with
    | true =>
      conv => whnf
      refine .inr (.inr ⟨[0], [], ?_⟩)
      conv => whnf
      refine ⟨_, l5AnyFact_g s c4 hs h4, fun r g2 hP => ?_⟩
      obtain ⟨f, c5, rfl, hf, h5, rfl⟩ := hP
      refine .inr ?_
      conv => whnf
      refine ⟨by rw [rows_len ciL_len], ?_⟩
      conv => whnf
      refine ⟨_, rfl, .inr ⟨solid_tFactD f, ?_⟩⟩
      conv => whnf
      refine ⟨by omega, by rw [rows_len tFact_len], _, snoc_rowsD tFact _ f, ?_⟩
      conv => whnf
      refine ⟨[2001, 0, 1, 2, 3, 4, 5], by kernel_rfl, ?_⟩
      conv => whnf
      refine ⟨rfl, ?_⟩
      conv => whnf
      refine ⟨[], ?_⟩
      conv => whnf
      refine ⟨by rw [rows_len ciL_len], by rw [rows_len tAtom_len], by rw [rows_len tFact_len, List.length_append]; rfl, ?_⟩
      refine ⟨s, q, db ++ [f], c5, ?_, by omega, hqs, q2, ⟨by simp; omega, fun x hx => ?_⟩, h5, rfl⟩
      · show _ = V.tup [_, _, .tr 2 (db ++ [f]).length _]
        rw [List.length_append]
        rfl
      · rcases List.mem_append.1 hx with hx | hx
        · exact hd.2 x hx
        · rw [List.mem_singleton.1 hx]; exact hf
    | false =>
      conv => whnf
      generalize (v == 2) = b2
      cases b2 with
      | true =>
        conv => whnf
        refine .inr (.inr ⟨[0], [], ?_⟩)
        conv => whnf
        refine ⟨_, l3Any_g c4 h4, fun r g2 hP => ?_⟩
        obtain ⟨s', c5, rfl, hs', h5, rfl⟩ := hP
        refine .inl ?_
        rw [wSchema_ro]
        conv => whnf
        refine ⟨[2001, 0, 1, 2, 3, 4, 5], by kernel_rfl, ?_⟩
        conv => whnf
        refine ⟨rfl, ?_⟩
        conv => whnf
        refine ⟨[], ?_⟩
        conv => whnf
        refine ⟨by rw [rows_len ciL_len], by rw [rows_len tAtom_len], by rw [rows_len tFact_len], ?_⟩
        exact ⟨s', q, db, c5, rfl, hs', hqs, q2, hd, h5, rfl⟩
      | false =>
        conv => whnf
        refine ⟨[2001, 0, 1, 2, 3, 4, 5], by kernel_rfl, ?_⟩
        conv => whnf
        refine ⟨rfl, ?_⟩
        conv => whnf
        refine ⟨[], ?_⟩
        conv => whnf
        refine ⟨by rw [rows_len ciL_len], by rw [rows_len tAtom_len], by rw [rows_len tFact_len], ?_⟩
        exact ⟨s, q, db, c4, rfl, by omega, hqs, q2, hd, h4, rfl⟩
set_option maxHeartbeats 1000000 in
theorem drawAnswers_g (xs : List Int) (h : xs.length ≤ 1099511627776) : SpecG Tryz.prog 17 [bytesR xs] [] fun r g2 => ∃ (s : List Int) (q : QueryW) (db : List FactC), r = .tup [vSchema s, wQuery q, wFactS db] ∧ s.length ≤ 8 ∧ qSm q ∧ q.2.length ≤ 3 ∧ smDb 9 4 db ∧ g2 = [] := by
  refine SpecG_of mx Γ_ok 0 Tryz.func17 rfl rfl (by decide) ?_
  conv => whnf
  refine ⟨_, l1New_spec xs h, .inl rfl, .inr ?_⟩
  conv => whnf
  have g0 := good_new h
  generalize newCur xs = c0 at g0 ⊢
  refine .inr (.inr ⟨[2], [], ?_⟩)
  conv => whnf
  refine ⟨_, l6Draw_g c0 g0, fun r g2 hP => ?_⟩
  obtain ⟨s, q, db, c1, rfl, hs, hq, hq2, hd, g1, rfl⟩ := hP
  refine .inr ?_
  conv => whnf
  refine ⟨[2000, 0, 1, 2, 3, 4, 5], by kernel_rfl, ?_⟩
  conv => whnf
  refine ⟨rfl, ?_⟩
  conv => whnf
  refine ⟨[], ?_⟩
  conv => whnf
  refine ⟨by rw [rows_len ciL_len], by rw [rows_len tAtom_len], by rw [rows_len tFact_len], ?_⟩
  exact ⟨s, q, db, rfl, hs, hq, hq2, hd, rfl⟩
end Go.Proofs.YtcjdfeafcmfgpaaGreatD
