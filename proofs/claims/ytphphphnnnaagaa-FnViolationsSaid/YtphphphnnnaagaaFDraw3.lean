/- Drawn keys. -/
import Derived.Test.YtphphphnnnaagaaFDraw2
set_option linter.unusedVariables false
set_option linter.unusedSimpArgs false
set_option maxRecDepth 100000
namespace Go.Proofs.YtphphphnnnaagaaD
open Go Go.Proofs

theorem l1Once_spec (c : Cur) (n : Int) (h : goodC c) (hn : n ≤ 256) : SpecR Try.prog 119 [vCur c, ci n] (cb ((belowP c n).1 == 0)) [vCur (belowP c n).2, ci n] := by
  refine SpecL_of mx Γ_ok 2 Try.func119 rfl rfl (by omega) ?_
  conv => whnf
  refine .inr (.inl ?_)
  conv => whnf
  refine ⟨curC_ne c, ?_⟩
  conv => whnf
  refine ⟨_, _, _, l1Below_spec c n h hn, ?_⟩
  conv => whnf
  refine .inl ?_
  conv => whnf
  exact ⟨rfl, curC_ne _, rfl⟩
theorem l1PickInt_spec (c : Cur) (xs : List Int) (h : goodC c) (h1 : 1 ≤ xs.length) (h2 : xs.length ≤ 200) : SpecR Try.prog 110 [vCur c, intsT xs] (ci (xs.getD (belowP c xs.length).1.toNat 0)) [vCur (belowP c xs.length).2, intsT xs] := by
  refine SpecL_of mx Γ_ok 2 Try.func110 rfl rfl (by omega) ?_
  conv => whnf
  refine .inr (.inl ?_)
  conv => whnf
  refine ⟨curC_ne c, ?_⟩
  conv => whnf
  refine ⟨_, _, _, l1Below_spec c xs.length h (by omega), ?_⟩
  conv => whnf
  refine .inl ?_
  conv => whnf
  have hb := belowP_bd c (n := xs.length) (by omega) (by omega)
  generalize (belowP c xs.length).2 = c1
  obtain ⟨k, hk⟩ : ∃ k : Nat, (belowP c xs.length).1 = k := ⟨(belowP c xs.length).1.toNat, by omega⟩
  rw [hk] at hb ⊢
  have hkl : k < xs.length := by omega
  rw [Int.toNat_natCast, getD_at hkl]
  refine ⟨by omega, ?_⟩
  conv => whnf
  refine ⟨_, takeN_own (k := k) (d := 0) (m := 1) (xs := xs) ciL_len (Nat.zero_add _) hkl (by omega) rfl, ?_⟩
  conv => whnf
  refine ⟨rfl, curC_ne _, by rw [rows_len ciL_len], rfl⟩
/-! A key of one or two places. -/
def keyP (s : List Int) (c : Cur) : (Int × List Int) × Cur :=
  let r := belowP c s.length
  let n := s.getD r.1.toNat 0
  let a := belowP r.2 n
  if a.1 + 1 < n then
    let o := belowP a.2 4
    ((r.1, if o.1 == 0 then [a.1, a.1 + 1] else [a.1]), o.2)
  else ((r.1, [a.1]), a.2)
theorem keyP_ok {s : List Int} (hs : sOk s) {c : Cur} (hc : goodC c) : goodC (keyP s c).2 ∧ (keyP s c).1.2.length ≤ 2 := by
  unfold keyP
  simp only
  split
  · refine ⟨belowP_good (belowP_good (belowP_good hc _) _) _, ?_⟩
    split <;> simp
  · exact ⟨belowP_good (belowP_good hc _) _, by simp⟩
set_option maxHeartbeats 4000000 in
theorem l12Key_spec (s : List Int) (c : Cur) (hs : sOk s) (h : goodC c) : SpecR Try.prog 144 [vCur c, vSchema s] (wKey (keyP s c).1) [vCur (keyP s c).2, vSchema s] := by
  refine SpecL_of mx Γ_ok 2 Try.func144 rfl rfl (by omega) ?_
  conv => whnf
  refine .inr (.inl ?_)
  conv => whnf
  refine ⟨curC_ne c, ?_⟩
  conv => whnf
  have hsl := hs.2.2
  refine ⟨_, _, _, l1Below_spec c s.length h (by omega), ?_⟩
  conv => whnf
  refine .inl ?_
  conv => whnf
  obtain ⟨q, hq, hql⟩ := below_idx hs c
  have hat := sOk_at hs hql
  unfold keyP
  simp only [hq, Int.toNat_natCast, getD_at hql]
  have hc := belowP_good h s.length
  generalize (belowP c s.length).2 = c0 at hc ⊢
  refine ⟨by omega, rows_len ciL_len _, ?_⟩
  conv => whnf
  refine ⟨_, takeN_rp (k := q) ciL_len hql, ?_⟩
  generalize hNq : s[q] = N at hat ⊢
  conv => whnf
  refine .inr (.inl ?_)
  conv => whnf
  refine ⟨curC_ne c0, ?_⟩
  conv => whnf
  refine ⟨_, _, _, l1Below_spec c0 N hc (by omega), ?_⟩
  conv => whnf
  refine .inl ?_
  conv => whnf
  have hb := belowP_bd c0 (n := N) (by omega) (by omega)
  have hc1 := belowP_good hc N
  generalize (belowP c0 N).2 = c1 at hc1 ⊢
  generalize (belowP c0 N).1 = a at hb ⊢
  have hw : IntKind.i64.wrap (a + 1) = a + 1 := wrap_id (by omega) (by omega)
  refine ⟨[1001, 0, 1, 2, 3, 4, 5, 6, 7, 8, 9, 10, 11, 12, 13, 14, 15, 1000, 1000], by kernel_rfl, ?_⟩
  conv => whnf
  refine ⟨by omega, ?_⟩
  conv => whnf
  refine ⟨_, rfl, ?_⟩
  conv => whnf
  refine ⟨by omega, rows_len ciL_len _, ?_⟩
  conv => whnf
  refine ⟨_, takeN_rp (k := q) ciL_len hql, ?_⟩
  rw [hNq, hw]
  conv => whnf
  generalize hd : decide (a + 1 < N) = d
  cases d with
  | false =>
    have hd' := of_decide_eq_false hd
    simp only [if_neg hd']
    conv => whnf
    refine ⟨rfl, ?_⟩
    conv => whnf
    exact ⟨rfl, curC_ne _, rfl⟩
  | true =>
    have hd' := of_decide_eq_true hd
    simp only [if_pos hd']
    conv => whnf
    refine .inr (.inl ?_)
    conv => whnf
    refine ⟨curC_ne c1, ?_⟩
    conv => whnf
    refine ⟨fun k => noSubT_lk (by kernel_rfl) k, rfl, _, _, _, l1Once_spec c1 4 hc1 (by omega), ?_⟩
    conv => whnf
    refine .inl ?_
    conv => whnf
    generalize (belowP c1 4).2 = c2
    generalize ((belowP c1 4).1 == 0) = o
    cases o with
    | false =>
      simp only [Bool.false_eq_true, if_false]
      conv => whnf
      refine ⟨rfl, ?_⟩
      conv => whnf
      exact ⟨rfl, curC_ne _, rfl⟩
    | true =>
      simp only [if_true]
      conv => whnf
      refine ⟨List.range 11, by kernel_rfl, ?_⟩
      conv => whnf
      refine ⟨by omega, ?_⟩
      conv => whnf
      refine ⟨_, rfl, ?_⟩
      conv => whnf
      refine ⟨_, rfl, .inl ⟨flat1 rfl, ?_⟩⟩
      conv => whnf
      refine ⟨by omega, rfl, _, rfl, ?_⟩
      rw [hw]
      conv => whnf
      refine ⟨rfl, ?_⟩
      conv => whnf
      exact ⟨rfl, curC_ne _, rfl⟩
def keysGo (s : List Int) : Nat → List (Int × List Int) → Cur → List (Int × List Int) × Cur
  | 0, ks, c => (ks, c)
  | n + 1, ks, c => keysGo s n (ks ++ [(keyP s c).1]) (keyP s c).2
def keysP (s : List Int) (c : Cur) : List (Int × List Int) × Cur := keysGo s (belowP c 3).1.toNat [] (belowP c 3).2
def short2 (ks : List (Int × List Int)) : Prop := ∀ x ∈ ks, x.2.length ≤ 3
theorem keysGo_ok {s : List Int} (hs : sOk s) : ∀ (n : Nat) (ks : List (Int × List Int)) (c : Cur), goodC c → short2 ks → goodC (keysGo s n ks c).2 ∧ short2 (keysGo s n ks c).1 ∧ (keysGo s n ks c).1.length = ks.length + n
  | 0, ks, c, hc, hd => ⟨hc, hd, rfl⟩
  | n + 1, ks, c, hc, hd => by
    obtain ⟨f1, f2⟩ := keyP_ok hs hc
    obtain ⟨h1, h2, h3⟩ := keysGo_ok hs n (ks ++ [(keyP s c).1]) (keyP s c).2 f1 (fun x hx => by
      rcases List.mem_append.1 hx with hx | hx
      · exact hd x hx
      · have : x = (keyP s c).1 := by simpa using hx
        rw [this]; omega)
    refine ⟨h1, h2, ?_⟩
    simp only [keysGo, h3, List.length_append, List.length_cons, List.length_nil]
    omega
theorem solid_tKey (k : Int × List Int) : ∀ c ∈ tKey k, solid c = true := by
  intro c hc
  simp only [tKey, List.mem_cons, List.not_mem_nil, or_false] at hc
  rcases hc with rfl | rfl <;> rfl
theorem keysP_ok {s : List Int} (hs : sOk s) {c : Cur} (hc : goodC c) : goodC (keysP s c).2 ∧ cKeyS (keysP s c).1 ≤ 1048576 := by
  have hb := belowP_bd c (n := 3) (by omega) (by omega)
  obtain ⟨h1, h2, h3⟩ := keysGo_ok hs (belowP c 3).1.toNat [] (belowP c 3).2 (belowP_good hc 3) (fun x hx => by cases hx)
  have h4 := sumB_cap' cKey 3 _ h2
  refine ⟨h1, ?_⟩
  show (keysGo s (belowP c 3).1.toNat [] (belowP c 3).2).1.length + sumB cKey (keysGo s (belowP c 3).1.toNat [] (belowP c 3).2).1 ≤ _
  simp only [List.length_nil] at h3
  omega
theorem short2_size {ks : List (Int × List Int)} (h : short2 ks) (hl : ks.length ≤ 100) : cKeyS ks ≤ 1048576 := by
  have h1 := sumB_cap' cKey 3 ks h
  show ks.length + sumB cKey ks ≤ _
  omega
set_option maxHeartbeats 2000000 in
theorem l12Keys_spec (s : List Int) (c : Cur) (hs : sOk s) (h : goodC c) : SpecR Try.prog 86 [vCur c, vSchema s] (wKeyS (keysP s c).1) [vCur (keysP s c).2, vSchema s] := by
  refine SpecL_of mx Γ_ok 2 Try.func86 rfl rfl (by omega) ?_
  conv => whnf
  refine .inr (.inl ?_)
  conv => whnf
  refine ⟨curC_ne c, ?_⟩
  conv => whnf
  refine ⟨_, _, _, l1Below_spec c 3 h (by omega), ?_⟩
  conv => whnf
  refine .inl ?_
  conv => whnf
  have hb := belowP_bd c (n := 3) (by omega) (by omega)
  unfold keysP
  have hc := belowP_good h 3
  generalize (belowP c 3).2 = c0 at hc ⊢
  obtain ⟨n0, hn0⟩ : ∃ n : Nat, (belowP c 3).1 = n := ⟨(belowP c 3).1.toNat, by omega⟩
  rw [hn0] at hb ⊢
  rw [Int.toNat_natCast]
  refine ⟨[(0,0),(3,0),(4,0),(5,0),(6,0)], fun m st => ∃ (n : Nat) (e : Int) (ks : List (Int × List Int)) (c1 : Cur) (k : Nat) (cc r : List V), e = n ∧ m = n ∧ ks.length + n ≤ 2 ∧ goodC c1 ∧ short2 ks ∧ keysGo s n0 [] c0 = keysGo s n ks c1 ∧ k = ks.length ∧ cc = curC c1 ∧ r = rows tKey ks ∧
    st = ⟨23, [(0, .ptr 0 0), (3, .ptr 2 0), (4, cnil), (5, .own 3 2 0 k k none), (6, ci e)], [some ⟨false, cc⟩, none, some ⟨true, [ints s]⟩, some ⟨false, r⟩]⟩, n0, ⟨n0, n0, [], c0, 0, _, _, rfl, rfl, by simp; omega, hc, (fun x hx => by cases hx), rfl, rfl, rfl, rfl, by kernel_rfl⟩, ?_⟩
  rintro m st ⟨n, _, ks, c1, k, _, _, rfl, hm, hdn, hc1, hsh, hgo, hk, rfl, rfl, rfl⟩
  conv => whnf
  split <;> rename_i h1
  all_goals simp only [decide_eq_true_eq, decide_eq_false_iff_not] at h1
  · obtain ⟨n', rfl⟩ : ∃ n', n = n' + 1 := ⟨n - 1, by omega⟩
    obtain ⟨f1, f2⟩ := keyP_ok hs hc1
    conv => whnf
    refine .inr (.inl ?_)
    conv => whnf
    refine ⟨curC_ne c1, ?_⟩
    conv => whnf
    refine ⟨_, _, _, l12Key_spec s c1 hs hc1, ?_⟩
    conv => whnf
    refine .inr ?_
    conv => whnf
    refine ⟨by rw [rows_len ciL_len], ?_⟩
    conv => whnf
    refine ⟨_, rfl, .inr ⟨solid_tKey (keyP s c1).1, ?_⟩⟩
    conv => whnf
    refine ⟨by omega, by rw [rows_len tKey_len, hk], _, snoc_rows tKey _ (keyP s c1).1, ?_⟩
    conv => whnf
    refine ⟨m - 1, by omega, n', _, ks ++ [(keyP s c1).1], (keyP s c1).2, k + 1, _, _, wrap_pred n', by omega, by simp; omega, f1, fun x hx => ?_, hgo, by simp [hk], rfl, rfl, by kernel_rfl⟩
    rcases List.mem_append.1 hx with hx | hx
    · exact hsh x hx
    · have : x = (keyP s c1).1 := by simpa using hx
      rw [this]; omega
  · have h0 : n = 0 := by omega
    subst h0
    conv => whnf
    simp only [keysGo] at hgo
    rw [hgo]
    refine ⟨by rw [rows_len tKey_len, hk], ?_⟩
    conv => whnf
    refine ⟨?_, curC_ne c1, rfl⟩
    rw [hk]; rfl
/-! Any key. -/
theorem sOk_schema {s : List Int} (h : sOk s) : isSchema s = true := by
  simp only [isSchema, Bool.and_eq_true]
  refine ⟨List.all_eq_true.2 fun x hx => ?_, ?_⟩
  · have := h.1 x hx
    simp only [inR, Bool.and_eq_true, decide_eq_true_eq]
    exact this
  · have h1 := h.2.1
    have h2 := h.2.2
    simp only [inR, Bool.and_eq_true, decide_eq_true_eq]
    omega
theorem l4Safe_spec (s : List Int) (hs : sOk s) : Spec Try.prog 145 [vSchema s] (vSchema s) := by
  have h2 := hs.2.2
  refine Spec_of mx Γ_ok Try.func145 rfl ?_
  conv => whnf
  refine ⟨_, specIsSchema_spec s (by omega), .inl rfl, .inl ?_⟩
  rw [sOk_schema hs]
  conv => whnf
  rfl
def anyP (s : List Int) (c : Cur) : (Int × List Int) × Cur :=
  let k := keyP s c
  let r := belowP k.2 8
  if r.1 == 0 then
    let p := belowP r.2 3
    (([-1, 3, 4].getD p.1.toNat 0, k.1.2), p.2)
  else if r.1 == 1 then
    let p := belowP r.2 4
    ((k.1.1, k.1.2 ++ [[0, 2, 3, -1].getD p.1.toNat 0]), p.2)
  else (k.1, r.2)
theorem anyP_ok {s : List Int} (hs : sOk s) {c : Cur} (hc : goodC c) : (anyP s c).1.2.length ≤ 3 := by
  have h := (keyP_ok hs hc).2
  unfold anyP
  simp only
  split
  · simp only; omega
  · split
    · simp only [List.length_append, List.length_cons, List.length_nil]; omega
    · show (keyP s c).1.2.length ≤ 3; omega
theorem ints_roV (s : List Int) : roV (vSchema s) = vSchema s := by
  show V.agg [.ro _ (roVs _)] = _
  rw [roVs_ci]; rfl
set_option maxHeartbeats 4000000 in
theorem l12Any_spec (s : List Int) (c : Cur) (hs : sOk s) (h : goodC c) : SpecR Try.prog 87 [vCur c, vSchema s] (wKey (anyP s c).1) [vCur (anyP s c).2, vSchema s] := by
  refine SpecL_of mx Γ_ok 2 Try.func87 rfl rfl (by omega) ?_
  conv => whnf
  refine ⟨_, l4Safe_spec s hs, .inl rfl, .inl ?_⟩
  rw [ints_roV]
  conv => whnf
  refine .inr (.inl ?_)
  conv => whnf
  refine ⟨curC_ne c, ?_⟩
  conv => whnf
  refine ⟨_, _, _, l12Key_spec s c hs h, ?_⟩
  conv => whnf
  refine .inr ?_
  conv => whnf
  obtain ⟨f1, f2⟩ := keyP_ok hs h
  unfold anyP
  simp only
  generalize (keyP s c).2 = c1 at f1 ⊢
  generalize (keyP s c).1 = K at f2 ⊢
  refine .inr (.inl ?_)
  conv => whnf
  refine ⟨curC_ne c1, ?_⟩
  conv => whnf
  refine ⟨_, _, _, l1Below_spec c1 8 f1 (by omega), ?_⟩
  conv => whnf
  refine .inl ?_
  conv => whnf
  have f3 := belowP_good f1 8
  generalize (belowP c1 8).2 = c2 at f3 ⊢
  generalize (belowP c1 8).1 = r
  generalize hr0 : (r == 0) = r0
  cases r0 with
  | true =>
    simp only [if_true]
    conv => whnf
    refine .inr (.inl ?_)
    conv => whnf
    refine ⟨curC_ne c2, ?_⟩
    conv => whnf
    refine ⟨rfl, ?_⟩
    conv => whnf
    refine ⟨_, _, _, l1PickInt_spec c2 [-1, 3, 4] f3 (by decide) (by decide), ?_⟩
    conv => whnf
    refine .inl ?_
    conv => whnf
    refine ⟨by rw [rows_len ciL_len], ?_⟩
    conv => whnf
    exact ⟨rfl, curC_ne _, rfl⟩
  | false =>
    simp only [Bool.false_eq_true, if_false]
    conv => whnf
    generalize hr1 : (r == 1) = r1
    cases r1 with
    | true =>
      simp only [if_true]
      conv => whnf
      refine ⟨[1001, 0, 1, 2, 3, 4, 5, 6, 7, 8, 1000, 1000], by kernel_rfl, ?_⟩
      conv => whnf
      refine .inr (.inl ?_)
      conv => whnf
      refine ⟨curC_ne c2, ?_⟩
      conv => whnf
      refine ⟨rfl, ?_⟩
      conv => whnf
      refine ⟨fun k => noSubT_lk (by kernel_rfl) k, rfl, _, _, _, l1PickInt_spec c2 [0, 2, 3, -1] f3 (by decide) (by decide), ?_⟩
      conv => whnf
      refine .inl ?_
      conv => whnf
      refine ⟨_, rfl, .inl ⟨flat1 rfl, ?_⟩⟩
      conv => whnf
      refine ⟨by omega, by rw [rows_len ciL_len], _, snoc_ci _ _, ?_⟩
      conv => whnf
      refine ⟨by rw [rows_len ciL_len, List.length_append]; rfl, ?_⟩
      conv => whnf
      refine ⟨?_, curC_ne _, rfl⟩
      simp only [wKey, tKey, intsT, List.length_append]
      rfl
    | false =>
      simp only [Bool.false_eq_true, if_false]
      conv => whnf
      refine ⟨by rw [rows_len ciL_len], ?_⟩
      conv => whnf
      exact ⟨rfl, curC_ne _, rfl⟩
end Go.Proofs.YtphphphnnnaagaaD
