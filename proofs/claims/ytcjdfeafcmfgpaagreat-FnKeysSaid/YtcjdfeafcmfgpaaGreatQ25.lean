/- Contracts of functions and plain laws that a proof of this seat rests on; no condition. -/
import Derived.Test.YtcjdfeafcmfgpaaGreatQ24
set_option linter.unusedVariables false
set_option linter.unusedSimpArgs false
set_option maxRecDepth 100000
namespace Go.Proofs.YtcjdfeafcmfgpaaGreatD
open Go Go.Proofs
def safeS (s : List Int) : List Int := if isSchema s then s else [2, 1]
theorem safeS_ok (s : List Int) : sOk (safeS s) := by
  unfold safeS
  split
  · rename_i h
    simp only [isSchema, Bool.and_eq_true] at h
    obtain ⟨h1, h2⟩ := h
    have h3 : 1 ≤ (s.length : Int) ∧ (s.length : Int) ≤ 4 := by simpa [inR] using h2
    refine ⟨fun x hx => ?_, by omega, by omega⟩
    have := List.all_eq_true.1 h1 x hx
    simpa [inR] using this
  · exact ⟨by decide, by decide, by decide⟩
theorem l4SafeG_spec (s : List Int) (hs : s.length ≤ 1099511627776) : ∃ r, Spec Tryz.prog 219 [vSchema s] r ∧ roV r = vSchema (safeS s) := by
  cases h : isSchema s with
  | true =>
    refine ⟨vSchema s, ?_, by unfold safeS; rw [h, ints_roV]; rfl⟩
    refine Spec_of mx Γ_ok Tryz.func219 rfl ?_
    conv => whnf
    refine ⟨_, specIsSchema_spec s hs, .inl rfl, .inl ?_⟩
    rw [h]
    conv => whnf
    rfl
  | false =>
    refine ⟨wSchema [2, 1], ?_, by unfold safeS; rw [h, wSchema_ro]; rfl⟩
    refine Spec_of mx Γ_ok Tryz.func219 rfl ?_
    conv => whnf
    refine ⟨_, specIsSchema_spec s hs, .inl rfl, .inl ?_⟩
    rw [h]
    conv => whnf
    exact ⟨rfl, rfl⟩
set_option maxHeartbeats 4000000 in
theorem l12Any_g (s : List Int) (c : Cur) (hs : s.length ≤ 1099511627776) (h : goodC c) : SpecG Tryz.prog 255 [.ptr 0 0, vSchema s] (gC c) fun r g2 => ∃ (k : Int × List Int) (c' : Cur), r = wKey k ∧ k.2.length ≤ 3 ∧ goodC c' ∧ g2 = gC c' := by
  unfold gC
  have hsO := safeS_ok s
  obtain ⟨r0, hr1, hr2⟩ := l4SafeG_spec s hs
  generalize safeS s = z at hsO hr2
  refine SpecG_of mx Γ_ok 1 Tryz.func255 rfl rfl (by decide) ?_
  conv => whnf
  refine ⟨_, hr1, .inl rfl, .inl ?_⟩
  rw [hr2]
  conv => whnf
  refine .inr (.inl ?_)
  conv => whnf
  refine ⟨curC_ne c, ?_⟩
  conv => whnf
  refine ⟨_, _, _, l12Key_spec z c hsO h, ?_⟩
  conv => whnf
  refine .inr ?_
  conv => whnf
  obtain ⟨f1, f2⟩ := keyP_ok hsO h
  generalize (keyP z c).2 = c1 at f1 ⊢
  generalize (keyP z c).1 = K at f2 ⊢
  refine .inr (.inl ?_)
  conv => whnf
  refine ⟨curC_ne c1, ?_⟩
  conv => whnf
  refine ⟨_, _, _, l1Below_spec c1 8 f1 (by omega), ?_⟩
  conv => whnf
  refine .inl ?_
  conv => whnf
  have f3 := belowP_good f1 8
  generalize (belowP c1 8).2 = c2 at f3 ⊢
  generalize (belowP c1 8).1 = v
  generalize (v == 0) = r0'
  cases r0' with
  | true =>
    conv => whnf
    refine .inr (.inl ?_)
    conv => whnf
    refine ⟨curC_ne c2, ?_⟩
    conv => whnf
    refine ⟨rfl, ?_⟩
    conv => whnf
    refine ⟨_, _, _, l1PickInt_spec c2 [-1, 3, 4] f3 (by decide) (by decide), ?_⟩
    conv => whnf
    refine .inl ?_
    have g3 := belowP_good f3 3
    have e4 : (([-1, 3, 4] : List Int).length : Int) = 3 := rfl
    rw [e4]
    generalize (belowP c2 3).2 = c3 at g3 ⊢
    generalize ([-1, 3, 4] : List Int).getD (belowP c2 3).1.toNat 0 = t
    conv => whnf
    refine ⟨[], ?_⟩
    conv => whnf
    refine ⟨by rw [rows_len ciL_len], ?_⟩
    exact ⟨(t, K.2), c3, rfl, by show K.2.length ≤ 3; omega, g3, rfl⟩
  | false =>
    conv => whnf
    generalize (v == 1) = r1
    cases r1 with
    | true =>
      conv => whnf
      refine ⟨[1001, 0, 1, 2, 3, 4, 5, 6, 7, 8, 1000, 1000], by kernel_rfl, ?_⟩
      conv => whnf
      refine .inr (.inl ?_)
      conv => whnf
      refine ⟨curC_ne c2, ?_⟩
      conv => whnf
      refine ⟨rfl, ?_⟩
      conv => whnf
      refine ⟨fun k => noSubT_lk (by kernel_rfl) k, rfl, _, _, _, l1PickInt_spec c2 [0, 2, 3, -1] f3 (by decide) (by decide), ?_⟩
      conv => whnf
      refine .inl ?_
      have g3 := belowP_good f3 4
      have e4 : (([0, 2, 3, -1] : List Int).length : Int) = 4 := rfl
      rw [e4]
      generalize (belowP c2 4).2 = c3 at g3 ⊢
      generalize ([0, 2, 3, -1] : List Int).getD (belowP c2 4).1.toNat 0 = t
      conv => whnf
      refine ⟨_, rfl, .inl ⟨flat1 rfl, ?_⟩⟩
      conv => whnf
      refine ⟨by omega, by rw [rows_len ciL_len], _, snoc_ci _ _, ?_⟩
      conv => whnf
      refine ⟨[], ?_⟩
      conv => whnf
      refine ⟨by rw [rows_len ciL_len, List.length_append]; rfl, ?_⟩
      refine ⟨(K.1, K.2 ++ [t]), c3, ?_, by simp only [List.length_append, List.length_cons, List.length_nil]; omega, g3, rfl⟩
      simp only [wKey, tKey, intsT, List.length_append]
      rfl
    | false =>
      conv => whnf
      refine ⟨[], ?_⟩
      conv => whnf
      refine ⟨by rw [rows_len ciL_len], ?_⟩
      exact ⟨K, c2, rfl, by omega, f3, rfl⟩
theorem rKey_roD (x : Int × List Int) : roVs (rKey x) = rKey x := by simp only [rKey, roVs, roV, ints, roVs_ci, ci_ro]
theorem vKeyS_roD (ks : List (Int × List Int)) : roV (vKeyS ks) = vKeyS ks := congrArg (V.ro ks.length) (roVs_rows rKey_roD ks)
theorem solid_tKeyD (k : Int × List Int) : ∀ c ∈ tKey k, solid c = true := by
  intro c hc
  simp only [tKey, List.mem_cons, List.not_mem_nil, or_false] at hc
  rcases hc with rfl | rfl <;> rfl
theorem keysP_short {s : List Int} (hs : sOk s) {c : Cur} (hc : goodC c) : goodC (keysP s c).2 ∧ short2 (keysP s c).1 ∧ (keysP s c).1.length ≤ 2 := by
  have hb := belowP_bd c (n := 3) (by omega) (by omega)
  obtain ⟨h1, h2, h3⟩ := keysGo_ok hs (belowP c 3).1.toNat [] (belowP c 3).2 (belowP_good hc 3) (fun x hx => by cases hx)
  refine ⟨h1, h2, ?_⟩
  show (keysGo s (belowP c 3).1.toNat [] (belowP c 3).2).1.length ≤ 2
  simp only [List.length_nil] at h3
  omega
theorem sqqk_ro (s : List Int) (a b : QueryW) (ks : List (Int × List Int)) : roV (.tup [vSchema s, vQuery a, vQuery b, wKeyS ks]) = .tup [vSchema s, vQuery a, vQuery b, vKeyS ks] := by
  show V.tup [roV (vSchema s), roV (vQuery a), roV (vQuery b), roV (wKeyS ks)] = _
  rw [ints_roV, vQ_ro, vQ_ro, wKeyS_ro]
set_option maxHeartbeats 4000000 in
theorem l13Draw_g (xs : List Int) (h : xs.length ≤ 1099511627776) : SpecG Tryz.prog 168 [bytesR xs] [] fun r g2 => ∃ (s : List Int) (a b : QueryW) (ks : List (Int × List Int)), roV r = .tup [vSchema s, vQuery a, vQuery b, vKeyS ks] ∧ s.length ≤ 8 ∧ cQuery a ≤ 1048576 ∧ cQuery b ≤ 1048576 ∧ cKeyS ks ≤ 1048576 ∧ g2 = [] := by
  refine SpecG_of mx Γ_ok 0 Tryz.func168 rfl rfl (by decide) ?_
  conv => whnf
  refine ⟨_, l1New_spec xs h, .inl rfl, .inr ?_⟩
  conv => whnf
  have g0 := good_new h
  generalize newCur xs = c0 at g0 ⊢
  refine .inr (.inr ⟨[3], [], ?_⟩)
  conv => whnf
  refine ⟨_, l7Pair_g c0 g0, fun r g2 hP => ?_⟩
  obtain ⟨s, a, b, c1, hr, hs, ha, hb, g1, rfl⟩ := hP
  refine .inl ?_
  rw [hr]
  conv => whnf
  have hsO := safeS_ok s
  obtain ⟨r0, hr1, hr2⟩ := l4SafeG_spec s (by omega)
  generalize safeS s = z at hsO hr2
  refine ⟨_, hr1, .inl rfl, .inl ?_⟩
  rw [hr2]
  conv => whnf
  refine .inr (.inl ?_)
  conv => whnf
  refine ⟨curC_ne c1, ?_⟩
  conv => whnf
  refine ⟨_, _, _, l12Keys_spec z c1 hsO g1, ?_⟩
  conv => whnf
  refine .inr ?_
  obtain ⟨k1, k2, k3⟩ := keysP_short hsO g1
  generalize (keysP z c1).2 = c2 at k1 ⊢
  generalize (keysP z c1).1 = ks at k2 k3 ⊢
  conv => whnf
  refine .inr (.inl ?_)
  conv => whnf
  refine ⟨curC_ne c2, ?_⟩
  conv => whnf
  refine ⟨_, _, _, l1Once_spec c2 14 k1 (by omega), ?_⟩
  conv => whnf
  refine .inl ?_
  have k4 := belowP_good k1 14
  generalize (belowP c2 14).2 = c3 at k4 ⊢
  generalize ((belowP c2 14).1 == 0) = o
  cases o with
  | false =>
    conv => whnf
    refine ⟨[2000, 2001, 0, 1, 2, 3, 4, 5, 6, 7], by kernel_rfl, ?_⟩
    conv => whnf
    refine ⟨rfl, ?_⟩
    conv => whnf
    refine ⟨rfl, ?_⟩
    conv => whnf
    refine ⟨[], ?_⟩
    conv => whnf
    refine ⟨by rw [rows_len tKey_len], ?_⟩
    exact ⟨s, a, b, ks, sqqk_ro s a b ks, hs, ha, hb, short2_size k2 (by omega), rfl⟩
  | true =>
    conv => whnf
    refine .inr (.inr ⟨[3], [], ?_⟩)
    conv => whnf
    refine ⟨_, l12Any_g s c3 (by omega) k4, fun r g2 hP => ?_⟩
    obtain ⟨k, c4, rfl, hk, k5, rfl⟩ := hP
    refine .inr ?_
    conv => whnf
    refine ⟨by rw [rows_len ciL_len], ?_⟩
    conv => whnf
    refine ⟨_, rfl, .inr ⟨solid_tKeyD k, ?_⟩⟩
    conv => whnf
    refine ⟨by omega, by rw [rows_len tKey_len], _, snoc_rowsD tKey _ k, ?_⟩
    conv => whnf
    refine ⟨[2000, 2001, 0, 1, 2, 3, 4, 5, 6, 7], by kernel_rfl, ?_⟩
    conv => whnf
    refine ⟨rfl, ?_⟩
    conv => whnf
    refine ⟨rfl, ?_⟩
    conv => whnf
    refine ⟨[], ?_⟩
    conv => whnf
    refine ⟨by rw [rows_len tKey_len, List.length_append]; rfl, ?_⟩
    refine ⟨s, a, b, ks ++ [k], ?_, hs, ha, hb, short2_size (fun x hx => ?_) (by simp; omega), rfl⟩
    · rw [← sqqk_ro s a b (ks ++ [k])]
      show _ = roV (V.tup [_, _, _, .tr 2 (ks ++ [k]).length _])
      rw [List.length_append]
      rfl
    · rcases List.mem_append.1 hx with hx | hx
      · exact k2 x hx
      · rw [List.mem_singleton.1 hx]; exact hk
theorem drawContainedUnder_g (xs : List Int) (h : xs.length ≤ 1099511627776) : SpecG Tryz.prog 55 [bytesR xs] [] fun r g2 => ∃ (s : List Int) (a b : QueryW) (ks : List (Int × List Int)), roV r = .tup [vSchema s, vQuery a, vQuery b, vKeyS ks] ∧ s.length ≤ 8 ∧ cQuery a ≤ 1048576 ∧ cQuery b ≤ 1048576 ∧ cKeyS ks ≤ 1048576 ∧ g2 = [] := by
  refine SpecG_ofE (ex := { ex := fun k => Nat.beq k 168, hid := fun _ => false }) mx Γ_ok 0 Tryz.func55 rfl rfl (by decide) ?_
  conv => whnf
  refine .inr (.inr ⟨[], [], ?_⟩)
  conv => whnf
  refine ⟨_, l13Draw_g xs h, fun r g2 hP => ?_⟩
  obtain ⟨s, a, b, ks, hr, hs, ha, hb, hk, rfl⟩ := hP
  refine .inl ?_
  rw [hr]
  conv => whnf
  refine ⟨[2000, 2001, 0, 1, 2, 3, 4, 5, 6, 7], by kernel_rfl, ?_⟩
  conv => whnf
  refine ⟨rfl, ?_⟩
  conv => whnf
  refine ⟨rfl, ?_⟩
  conv => whnf
  refine ⟨[], ?_⟩
  conv => whnf
  refine ⟨s, a, b, ks, ?_, hs, ha, hb, hk, rfl⟩
  show V.tup [roV (vSchema s), roV (vQuery a), roV (vQuery b), roV (vKeyS ks)] = _
  rw [ints_roV, vQ_ro, vQ_ro, vKeyS_roD]
end Go.Proofs.YtcjdfeafcmfgpaaGreatD
