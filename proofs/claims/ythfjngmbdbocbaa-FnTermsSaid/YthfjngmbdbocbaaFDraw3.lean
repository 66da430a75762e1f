/- Drawn keys. -/
import Derived.Test.YthfjngmbdbocbaaFDraw2
set_option linter.unusedVariables false
set_option linter.unusedSimpArgs false
set_option maxRecDepth 100000
namespace Go.Proofs.YthfjngmbdbocbaaD
open Go Go.Proofs

theorem l1Once_spec (c : Cur) (n : Int) (h : goodC c) (hn : n ≤ 256) : SpecR Try.prog 99 [vCur c, ci n] (cb ((belowP c n).1 == 0)) [vCur (belowP c n).2, ci n] := by
  refine SpecL_of mx Γ_ok 2 Try.func99 rfl rfl (by omega) ?_
  conv => whnf
  refine .inr (.inl ?_)
  conv => whnf
  refine ⟨curC_ne c, ?_⟩
  conv => whnf
  refine ⟨_, _, _, l1Below_spec c n h hn, ?_⟩
  conv => whnf
  refine .inl ?_
  conv => whnf
  exact ⟨rfl, curC_ne _, rfl⟩
theorem l1PickInt_spec (c : Cur) (xs : List Int) (h : goodC c) (h1 : 1 ≤ xs.length) (h2 : xs.length ≤ 200) : SpecR Try.prog 89 [vCur c, intsT xs] (ci (xs.getD (belowP c xs.length).1.toNat 0)) [vCur (belowP c xs.length).2, intsT xs] := by
  refine SpecL_of mx Γ_ok 2 Try.func89 rfl rfl (by omega) ?_
  conv => whnf
  refine .inr (.inl ?_)
  conv => whnf
  refine ⟨curC_ne c, ?_⟩
  conv => whnf
  refine ⟨_, _, _, l1Below_spec c xs.length h (by omega), ?_⟩
  conv => whnf
  refine .inl ?_
  conv => whnf
  have hb := belowP_bd c (n := xs.length) (by omega) (by omega)
  generalize (belowP c xs.length).2 = c1
  obtain ⟨k, hk⟩ : ∃ k : Nat, (belowP c xs.length).1 = k := ⟨(belowP c xs.length).1.toNat, by omega⟩
  rw [hk] at hb ⊢
  have hkl : k < xs.length := by omega
  rw [Int.toNat_natCast, getD_at hkl]
  refine ⟨by omega, ?_⟩
  conv => whnf
  refine ⟨_, takeN_own (k := k) (d := 0) (m := 1) (xs := xs) ciL_len (Nat.zero_add _) hkl (by omega) rfl, ?_⟩
  conv => whnf
  refine ⟨rfl, curC_ne _, by rw [rows_len ciL_len], rfl⟩
/-! A key of one or two places. -/
def keyP (s : List Int) (c : Cur) : (Int × List Int) × Cur :=
  let r := belowP c s.length
  let n := s.getD r.1.toNat 0
  let a := belowP r.2 n
  if a.1 + 1 < n then
    let o := belowP a.2 4
    ((r.1, if o.1 == 0 then [a.1, a.1 + 1] else [a.1]), o.2)
  else ((r.1, [a.1]), a.2)
theorem keyP_ok {s : List Int} (hs : sOk s) {c : Cur} (hc : goodC c) : goodC (keyP s c).2 ∧ (keyP s c).1.2.length ≤ 2 := by
  unfold keyP
  simp only
  split
  · refine ⟨belowP_good (belowP_good (belowP_good hc _) _) _, ?_⟩
    split <;> simp
  · exact ⟨belowP_good (belowP_good hc _) _, by simp⟩
def keysGo (s : List Int) : Nat → List (Int × List Int) → Cur → List (Int × List Int) × Cur
  | 0, ks, c => (ks, c)
  | n + 1, ks, c => keysGo s n (ks ++ [(keyP s c).1]) (keyP s c).2
def keysP (s : List Int) (c : Cur) : List (Int × List Int) × Cur := keysGo s (belowP c 3).1.toNat [] (belowP c 3).2
def short2 (ks : List (Int × List Int)) : Prop := ∀ x ∈ ks, x.2.length ≤ 3
theorem keysGo_ok {s : List Int} (hs : sOk s) : ∀ (n : Nat) (ks : List (Int × List Int)) (c : Cur), goodC c → short2 ks → goodC (keysGo s n ks c).2 ∧ short2 (keysGo s n ks c).1 ∧ (keysGo s n ks c).1.length = ks.length + n
  | 0, ks, c, hc, hd => ⟨hc, hd, rfl⟩
  | n + 1, ks, c, hc, hd => by
    obtain ⟨f1, f2⟩ := keyP_ok hs hc
    obtain ⟨h1, h2, h3⟩ := keysGo_ok hs n (ks ++ [(keyP s c).1]) (keyP s c).2 f1 (fun x hx => by
      rcases List.mem_append.1 hx with hx | hx
      · exact hd x hx
      · have : x = (keyP s c).1 := by simpa using hx
        rw [this]; omega)
    refine ⟨h1, h2, ?_⟩
    simp only [keysGo, h3, List.length_append, List.length_cons, List.length_nil]
    omega
theorem solid_tKey (k : Int × List Int) : ∀ c ∈ tKey k, solid c = true := by
  intro c hc
  simp only [tKey, List.mem_cons, List.not_mem_nil, or_false] at hc
  rcases hc with rfl | rfl <;> rfl
theorem keysP_ok {s : List Int} (hs : sOk s) {c : Cur} (hc : goodC c) : goodC (keysP s c).2 ∧ cKeyS (keysP s c).1 ≤ 1048576 := by
  have hb := belowP_bd c (n := 3) (by omega) (by omega)
  obtain ⟨h1, h2, h3⟩ := keysGo_ok hs (belowP c 3).1.toNat [] (belowP c 3).2 (belowP_good hc 3) (fun x hx => by cases hx)
  have h4 := sumB_cap' cKey 3 _ h2
  refine ⟨h1, ?_⟩
  show (keysGo s (belowP c 3).1.toNat [] (belowP c 3).2).1.length + sumB cKey (keysGo s (belowP c 3).1.toNat [] (belowP c 3).2).1 ≤ _
  simp only [List.length_nil] at h3
  omega
theorem short2_size {ks : List (Int × List Int)} (h : short2 ks) (hl : ks.length ≤ 100) : cKeyS ks ≤ 1048576 := by
  have h1 := sumB_cap' cKey 3 ks h
  show ks.length + sumB cKey ks ≤ _
  omega
theorem sOk_schema {s : List Int} (h : sOk s) : isSchema s = true := by
  simp only [isSchema, Bool.and_eq_true]
  refine ⟨List.all_eq_true.2 fun x hx => ?_, ?_⟩
  · have := h.1 x hx
    simp only [inR, Bool.and_eq_true, decide_eq_true_eq]
    exact this
  · have h1 := h.2.1
    have h2 := h.2.2
    simp only [inR, Bool.and_eq_true, decide_eq_true_eq]
    omega
def anyP (s : List Int) (c : Cur) : (Int × List Int) × Cur :=
  let k := keyP s c
  let r := belowP k.2 8
  if r.1 == 0 then
    let p := belowP r.2 3
    (([-1, 3, 4].getD p.1.toNat 0, k.1.2), p.2)
  else if r.1 == 1 then
    let p := belowP r.2 4
    ((k.1.1, k.1.2 ++ [[0, 2, 3, -1].getD p.1.toNat 0]), p.2)
  else (k.1, r.2)
theorem anyP_ok {s : List Int} (hs : sOk s) {c : Cur} (hc : goodC c) : (anyP s c).1.2.length ≤ 3 := by
  have h := (keyP_ok hs hc).2
  unfold anyP
  simp only
  split
  · simp only; omega
  · split
    · simp only [List.length_append, List.length_cons, List.length_nil]; omega
    · show (keyP s c).1.2.length ≤ 3; omega
theorem ints_roV (s : List Int) : roV (vSchema s) = vSchema s := by
  show V.agg [.ro _ (roVs _)] = _
  rw [roVs_ci]; rfl
end Go.Proofs.YthfjngmbdbocbaaD
