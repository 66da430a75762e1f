/- Contracts and plain laws of this seat; no condition. -/
import Derived.Test.YtcjdfeafcmfgpaaGreatQ26
import Derived.Test.YtcjdfeafcmfgpaaGreatQ30
import Derived.Test.YtcjdfeafcmfgpaaGreatQ22
set_option linter.unusedVariables false
set_option linter.unusedSimpArgs false
set_option maxRecDepth 100000
namespace Go.Proofs.YtcjdfeafcmfgpaaGreatD
open Go Go.Proofs
theorem solid_tQueryD (q : QueryW) : ∀ c ∈ tQuery q, solid c = true := by
 intro c hc
 simp only [tQuery, List.mem_cons, List.not_mem_nil, or_false] at hc
 rcases hc with rfl | rfl <;> rfl
theorem SpecG_mono {P : Program} {f : Nat} {vs : List V} {g : List (Option Obj)} {Post Post' : V → List (Option Obj) → Prop} (h : SpecG P f vs g Post) (hp : ∀ r g2, Post r g2 → Post' r g2) : SpecG P f vs g Post' :=
 ⟨h.1, fun E0 xs h1 h2 => Calls.mono (h.2 E0 xs h1 h2) fun e w' he => by
  cases e with
  | returned x =>
   obtain ⟨r, g2, E2, hP, rest⟩ := he
   exact ⟨r, g2, E2, hp _ _ hP, rest⟩
  | _ => exact he.elim⟩
set_option maxHeartbeats 4000000 in
theorem l15Views_h (s : List Int) (c : Cur) (hs : sOk s) (h : goodC c) : SpecG Tryz.prog 270 [.ptr 0 0, vSchema s] (gC c) fun r g2 => ∃ (vs : List QueryW) (c' : Cur), r = wQueryS vs ∧ 1 ≤ vs.length ∧ vs.length ≤ 3 ∧ (∀ v ∈ vs, smQ v ∧ 1 ≤ v.1.length) ∧ goodC c' ∧ g2 = gC c' := by
 unfold gC
 refine SpecG_of mx Γ_ok 1 Tryz.func270 rfl rfl (by decide) ?_
 conv => whnf
 refine .inr (.inl ?_)
 conv => whnf
 refine ⟨curC_ne c, ?_⟩
 conv => whnf
 refine ⟨_, _, _, l1Below_spec c 3 h (by omega), ?_⟩
 conv => whnf
 refine .inl ?_
 conv => whnf
 have hb := belowP_bd c (n := 3) (by omega) (by omega)
 have hc := belowP_good h 3
 generalize (belowP c 3).2 = c0 at hc ⊢
 obtain ⟨n0, hn0⟩ : ∃ n : Nat, (belowP c 3).1 = n := ⟨(belowP c 3).1.toNat, by omega⟩
 rw [hn0] at hb ⊢
 have hw : IntKind.i64.wrap (1 + (n0 : Int)) = ((n0 + 1 : Nat) : Int) := by rw [wrap_id (by omega) (by omega)]; omega
 rw [hw]
 refine ⟨[(0,0),(3,0),(4,0),(5,0),(6,0)], fun m st => ∃ (n : Nat) (e : Int) (vs : List QueryW) (c1 : Cur) (k : Nat) (cc r : List V), e = n ∧ m = n ∧ vs.length + n = n0 + 1 ∧ goodC c1 ∧ (∀ v ∈ vs, smQ v ∧ 1 ≤ v.1.length) ∧ k = vs.length ∧ cc = curC c1 ∧ r = rows tQuery vs ∧
  st = ⟨40, [(0, .ptr 0 0), (3, .ptr 1 0), (4, cnil), (5, .own 2 2 0 k k none), (6, ci e)], [some ⟨false, cc⟩, some ⟨true, [ints s]⟩, some ⟨false, r⟩]⟩, n0 + 1, ⟨n0 + 1, (n0 + 1 : Nat), [], c0, 0, _, _, rfl, rfl, by simp, hc, (fun x hx => by cases hx), rfl, rfl, rfl, by kernel_rfl⟩, ?_⟩
 rintro m st ⟨n, _, vs, c1, k, _, _, rfl, hm, hdn, hc1, hsh, hk, rfl, rfl, rfl⟩
 conv => whnf
 split <;> rename_i h1
 all_goals simp only [decide_eq_true_eq, decide_eq_false_iff_not] at h1
 ·obtain ⟨n', rfl⟩ : ∃ n', n = n' + 1 := ⟨n - 1, by omega⟩
  conv => whnf
  refine .inr (.inr ⟨[0], [], ?_⟩)
  conv => whnf
  refine ⟨_, l4Query_s s c1 hs hc1, fun r g2 hP => ?_⟩
  obtain ⟨q, c2, rfl, hq, hc2, rfl⟩ := hP
  obtain ⟨q1, q2, q3, q4, q5⟩ := hq
  refine .inr ?_
  conv => whnf
  generalize hz : ((q.1.length : Int) == 0) = z
  cases z with
  | false =>
   conv => whnf
   refine ⟨by rw [rows_len ciL_len], by rw [rows_len tAtom_len], ?_⟩
   conv => whnf
   refine ⟨_, rfl, .inr ⟨solid_tQueryD q, ?_⟩⟩
   conv => whnf
   refine ⟨by omega, by rw [rows_len tQuery_len, hk], _, snoc_rowsD tQuery _ q, ?_⟩
   conv => whnf
   refine ⟨m - 1, by omega, n', IntKind.i64.wrap (((n' + 1 : Nat) : Int) - 1), vs ++ [q], c2, k + 1, curC c2, rows tQuery (vs ++ [q]), wrap_pred n', by omega, by simp; omega, hc2, fun y hy => ?_, by simp [hk], rfl, rfl, by kernel_rfl⟩
   rcases List.mem_append.1 hy with hy | hy
   ·exact hsh y hy
   ·rw [List.mem_singleton.1 hy]; exact ⟨⟨q1, q2, q3, q4, q5⟩, by have : ¬ (q.1.length : Int) = 0 := (by simpa using hz); omega⟩
  | true =>
   have hz' : q.1.length = 0 := by
    have : (q.1.length : Int) = 0 := by simpa using hz
    omega
   obtain ⟨qh, qb⟩ := q
   obtain rfl : qh = [] := List.length_eq_zero_iff.1 hz'
   cases qb with
   | nil => simp at q3
   | cons a0 ar =>
   obtain ⟨r0, ah⟩ := a0
   have ha := q5 (r0, ah) (by simp)
   cases ah with
   | nil => have := ha.1; simp at this
   | cons t0 tr =>
   conv => whnf
   refine ⟨List.range 13, by kernel_rfl, ?_⟩
   conv => whnf
   refine ⟨⟨by omega, by show (0 : Int) < ((ar.length + 1 : Nat) : Int); omega⟩, ?_⟩
   conv => whnf
   refine ⟨_, takeN_own (f := tAtom) (k := 0) (d := 1) (m := 1) (xs := (r0, t0 :: tr) :: ar) (r := [intsT (t0 :: tr)]) tAtom_len rfl (by simp) (by omega) rfl, ?_⟩
   conv => whnf
   refine ⟨(t0 :: tr).length, rows ciL (t0 :: tr), rfl, ⟨by omega, by show (0 : Int) < ((tr.length + 1 : Nat) : Int); omega⟩, ?_⟩
   conv => whnf
   refine ⟨_, _, _, [ci t0], rfl, rfl, flat1 rfl, ?_⟩
   conv => whnf
   refine ⟨_, rfl, .inl ⟨flat1 rfl, ?_⟩⟩
   conv => whnf
   refine ⟨by show 0 + 1 ≤ _; omega, rfl, _, (show rows ciL [] ++ [ci t0] = rows ciL [t0] from rfl), ?_⟩
   conv => whnf
   refine ⟨rfl, by rw [rows_len tAtom_len], ?_⟩
   conv => whnf
   refine ⟨_, rfl, .inr ⟨solid_tQueryD ([t0], (r0, t0 :: tr) :: ar), ?_⟩⟩
   conv => whnf
   refine ⟨by omega, by rw [rows_len tQuery_len, hk], _, snoc_rowsD tQuery _ ([t0], (r0, t0 :: tr) :: ar), ?_⟩
   conv => whnf
   refine ⟨m - 1, by omega, n', IntKind.i64.wrap (((n' + 1 : Nat) : Int) - 1), vs ++ [([t0], (r0, t0 :: tr) :: ar)], c2, k + 1, curC c2, rows tQuery (vs ++ [([t0], (r0, t0 :: tr) :: ar)]), wrap_pred n', by omega, by simp; omega, hc2, fun y hy => ?_, by simp [hk], rfl, rfl, by kernel_rfl⟩
   rcases List.mem_append.1 hy with hy | hy
   ·exact hsh y hy
   ·rw [List.mem_singleton.1 hy]
    exact ⟨⟨by simp, fun t ht => by rw [List.mem_singleton.1 ht]; exact ha.2.2 t0 (by simp), q3, q4, q5⟩, by simp⟩
 ·have h0 : n = 0 := by omega
  subst h0
  subst hk
  conv => whnf
  refine ⟨[], ?_⟩
  conv => whnf
  refine ⟨by rw [rows_len tQuery_len], ?_⟩
  exact ⟨vs, c1, rfl, by omega, by omega, hsh, hc1, rfl⟩
theorem l15Views_g (s : List Int) (c : Cur) (hs : sOk s) (h : goodC c) : SpecG Tryz.prog 270 [.ptr 0 0, vSchema s] (gC c) fun r g2 => ∃ (vs : List QueryW) (c' : Cur), r = wQueryS vs ∧ 1 ≤ vs.length ∧ vs.length ≤ 3 ∧ (∀ v ∈ vs, smQ v) ∧ goodC c' ∧ g2 = gC c' :=
 SpecG_mono (l15Views_h s c hs h) fun r g2 ⟨vs, c', h1, h2, h3, h4, h5⟩ => ⟨vs, c', h1, h2, h3, fun v hv => (h4 v hv).1, h5⟩
def okVs (vs : List QueryW) : Prop := vs.length ≤ 4 ∧ ∀ v ∈ vs, qSm v ∧ (v.1 = [] ∨ smQ v)
set_option maxHeartbeats 4000000 in
theorem l15Any_g (s : List Int) (c : Cur) (hs : sOk s) (h : goodC c) : SpecG Tryz.prog 239 [.ptr 0 0, vSchema s] (gC c) fun r g2 => ∃ (vs : List QueryW) (c' : Cur), r = wQueryS vs ∧ okVs vs ∧ goodC c' ∧ g2 = gC c' := by
 unfold gC
 refine SpecG_of mx Γ_ok 1 Tryz.func239 rfl rfl (by decide) ?_
 conv => whnf
 refine .inr (.inr ⟨[0], [], ?_⟩)
 conv => whnf
 refine ⟨_, l15Views_g s c hs h, fun r g2 hP => ?_⟩
 obtain ⟨vs, c1, rfl, v1, v2, v3, h1, rfl⟩ := hP
 refine .inr ?_
 conv => whnf
 refine .inr (.inl ?_)
 conv => whnf
 refine ⟨curC_ne c1, ?_⟩
 conv => whnf
 refine ⟨_, _, _, l1Below_spec c1 14 h1 (by omega), ?_⟩
 conv => whnf
 refine .inl ?_
 conv => whnf
 have h3 := belowP_good h1 14
 generalize (belowP c1 14).2 = c2 at h3 ⊢
 generalize (belowP c1 14).1 = v
 have hok : okVs vs := ⟨by omega, fun v hv => ⟨smQ_sm (v3 v hv), .inr (v3 v hv)⟩⟩
 generalize (v == 0) = b0
 cases b0 with
 | true =>
  conv => whnf
  refine .inr (.inr ⟨[0], [], ?_⟩)
  conv => whnf
  refine ⟨_, l3AnyAtom_g c2 h3, fun r g2 hP => ?_⟩
  obtain ⟨a, c3, rfl, ha, h4, rfl⟩ := hP
  refine .inr ?_
  conv => whnf
  refine ⟨by rw [rows_len ciL_len], ?_⟩
  conv => whnf
  refine .inr ⟨1, ?_⟩
  conv => whnf
  refine ⟨rfl, ?_⟩
  conv => whnf
  refine ⟨_, rfl, .inr ⟨solid_tQueryD ([], [a]), ?_⟩⟩
  conv => whnf
  refine ⟨by omega, by rw [rows_len tQuery_len], _, snoc_rowsD tQuery _ ([], [a]), ?_⟩
  conv => whnf
  refine ⟨[], ?_⟩
  conv => whnf
  refine ⟨by rw [rows_len tQuery_len, List.length_append]; rfl, ?_⟩
  refine ⟨vs ++ [([], [a])], c3, ?_, ⟨by simp; omega, fun v hv => ?_⟩, h4, rfl⟩
  ·show _ = V.tr 2 (vs ++ [([], [a])]).length _
   rw [List.length_append]
   rfl
  ·rcases List.mem_append.1 hv with hv | hv
   ·exact hok.2 v hv
   ·rw [List.mem_singleton.1 hv]
    exact ⟨⟨by simp, by simp, fun x hx => by rw [List.mem_singleton.1 hx]; omega⟩, .inl rfl⟩
 | false =>
  conv => whnf
  generalize (v == 1) = b1
  cases b1 with
  | true =>
   conv => whnf
   refine ⟨[], ?_⟩
   conv => whnf
   refine ⟨rfl, ?_⟩
   exact ⟨[], c2, rfl, ⟨by simp, fun v hv => by cases hv⟩, h3, rfl⟩
  | false =>
   conv => whnf
   refine ⟨[], ?_⟩
   conv => whnf
   refine ⟨by rw [rows_len tQuery_len], ?_⟩
   exact ⟨vs, c2, rfl, hok, h3, rfl⟩
theorem okVs_size {vs : List QueryW} (h : okVs vs) : cQueryS vs ≤ 1048576 := by
 have h1 := sumB_cap' cQuery 100 vs fun v hv => by
  obtain ⟨⟨a, b, c⟩, _⟩ := h.2 v hv
  have := sm_sum c
  show v.1.length + (v.2.length + sumB cAtom v.2) ≤ 100
  omega
 have h2 := h.1
 show vs.length + sumB cQuery vs ≤ _
 omega
def smOver (q : QueryW) : Prop := q.1.length ≤ 3 ∧ 1 ≤ q.2.length ∧ q.2.length ≤ 3 ∧ ∀ a ∈ q.2, smAt a
theorem smOver_sm {q : QueryW} (h : smOver q) : qSm q := ⟨by have := h.1; omega, by have := h.2.2.1; omega, fun a ha => by have := (h.2.2.2 a ha).2.1; omega⟩
theorem smQ_over {q : QueryW} (h : smQ q) : smOver q := ⟨by have := h.1; omega, h.2.2.1, h.2.2.2.1, h.2.2.2.2⟩
set_option maxHeartbeats 4000000 in
theorem l15Draw_g (c : Cur) (h : goodC c) : SpecG Tryz.prog 142 [.ptr 0 0] (gC c) fun r g2 => ∃ (s : List Int) (vs : List QueryW) (q : QueryW) (c' : Cur), r = .tup [vSchema s, wQueryS vs, wQuery q] ∧ s.length ≤ 8 ∧ okVs vs ∧ smOver q ∧ goodC c' ∧ g2 = gC c' := by
 unfold gC
 refine SpecG_of mx Γ_ok 1 Tryz.func142 rfl rfl (by decide) ?_
 conv => whnf
 refine .inr (.inl ?_)
 conv => whnf
 refine ⟨curC_ne c, ?_⟩
 conv => whnf
 refine ⟨_, _, _, l3Schema_spec c h, ?_⟩
 conv => whnf
 refine .inl ?_
 rw [wSchema_ro]
 conv => whnf
 obtain ⟨h1, s1, s2, s3⟩ := schP_ok h
 have hs : sOk (schP c).1 := ⟨s1, s2, by omega⟩
 generalize (schP c).2 = c1 at h1 ⊢
 generalize (schP c).1 = s at hs s3 ⊢
 refine .inr (.inr ⟨[0], [], ?_⟩)
 conv => whnf
 refine ⟨_, l15Any_g s c1 hs h1, fun r g2 hP => ?_⟩
 obtain ⟨vs, c2, rfl, hvs, h2, rfl⟩ := hP
 have hvz := okVs_size hvs
 refine .inr ?_
 conv => whnf
 refine .inl ?_
 conv => whnf
 refine ⟨_, _, takeN_all (by rw [rows_len tQuery_len]), roVs_rows tQuery_ro _, ?_⟩
 conv => whnf
 refine ⟨_, specViewSchema_spec vs hvz, .inr (closed_wSchema _), .inl ?_⟩
 rw [wSchema_ro]
 conv => whnf
 obtain ⟨r0, hr1, hr2⟩ := l4SafeG_spec (pViewSchema vs) (by unfold pViewSchema; rw [List.length_map]; have := hvs.1; omega)
 have hsO := safeS_ok (pViewSchema vs)
 generalize safeS (pViewSchema vs) = z at hsO hr2
 refine ⟨_, hr1, .inl rfl, .inl ?_⟩
 rw [hr2]
 conv => whnf
 refine .inr (.inr ⟨[0], [], ?_⟩)
 conv => whnf
 refine ⟨_, l4Query_s z c2 hsO h2, fun r g2 hP => ?_⟩
 obtain ⟨q, c3, rfl, hq, h3, rfl⟩ := hP
 have hqo := smQ_over hq
 refine .inr ?_
 conv => whnf
 refine .inr (.inl ?_)
 conv => whnf
 refine ⟨curC_ne c3, ?_⟩
 conv => whnf
 refine ⟨_, _, _, l1Once_spec c3 14 h3 (by omega), ?_⟩
 conv => whnf
 refine .inl ?_
 have h4 := belowP_good h3 14
 generalize (belowP c3 14).2 = c4 at h4 ⊢
 generalize ((belowP c3 14).1 == 0) = o
 cases o with
 | false =>
  conv => whnf
  refine ⟨[2001, 0, 1, 2, 3, 4, 5], by kernel_rfl, ?_⟩
  conv => whnf
  refine ⟨rfl, ?_⟩
  conv => whnf
  refine ⟨[], ?_⟩
  conv => whnf
  refine ⟨by rw [rows_len tQuery_len], by rw [rows_len ciL_len], by rw [rows_len tAtom_len], ?_⟩
  exact ⟨s, vs, q, c4, rfl, by omega, hvs, hqo, h4, rfl⟩
 | true =>
  conv => whnf
  refine ⟨[1001, 0, 1, 2, 3, 4, 5, 6, 7, 1000, 1000], by kernel_rfl, ?_⟩
  conv => whnf
  refine .inr (.inr ⟨[0], fun k => noSubT_lk (by kernel_rfl) k, rfl, ?_⟩)
  conv => whnf
  refine ⟨_, l2Any_g c4 h4, fun r g2 hP => ?_⟩
  obtain ⟨t, c5, rfl, h5, rfl⟩ := hP
  refine .inl ?_
  conv => whnf
  refine ⟨_, rfl, .inl ⟨flat1 rfl, ?_⟩⟩
  conv => whnf
  refine ⟨by have := hq.1; omega, by rw [rows_len ciL_len], _, snoc_ci _ _, ?_⟩
  conv => whnf
  refine ⟨[2001, 0, 1, 2, 3, 4, 5], by kernel_rfl, ?_⟩
  conv => whnf
  refine ⟨rfl, ?_⟩
  conv => whnf
  refine ⟨[], ?_⟩
  conv => whnf
  refine ⟨by rw [rows_len tQuery_len], by rw [rows_len ciL_len, List.length_append]; rfl, by rw [rows_len tAtom_len], ?_⟩
  refine ⟨s, vs, (q.1 ++ [t], q.2), c5, ?_, by omega, hvs, ⟨by have := hq.1; simp; omega, hqo.2⟩, h5, rfl⟩
  show _ = V.tup [_, _, .agg [.tr 1 (q.1 ++ [t]).length _, _]]
  rw [List.length_append]
  rfl
set_option maxHeartbeats 1000000 in
theorem drawUnfoldQuery_g (xs : List Int) (h : xs.length ≤ 1099511627776) : SpecG Tryz.prog 36 [bytesR xs] [] fun r g2 => ∃ (s : List Int) (vs : List QueryW) (q : QueryW), r = .tup [vSchema s, wQueryS vs, wQuery q] ∧ s.length ≤ 8 ∧ okVs vs ∧ smOver q ∧ g2 = [] := by
 refine SpecG_of mx Γ_ok 0 Tryz.func36 rfl rfl (by decide) ?_
 conv => whnf
 refine ⟨_, l1New_spec xs h, .inl rfl, .inr ?_⟩
 conv => whnf
 have g0 := good_new h
 generalize newCur xs = c0 at g0 ⊢
 refine .inr (.inr ⟨[2], [], ?_⟩)
 conv => whnf
 refine ⟨_, l15Draw_g c0 g0, fun r g2 hP => ?_⟩
 obtain ⟨s, vs, q, c1, rfl, hs, hv, hq, g1, rfl⟩ := hP
 refine .inr ?_
 conv => whnf
 refine ⟨[2000, 0, 1, 2, 3, 4, 5], by kernel_rfl, ?_⟩
 conv => whnf
 refine ⟨rfl, ?_⟩
 conv => whnf
 refine ⟨[], ?_⟩
 conv => whnf
 refine ⟨by rw [rows_len tQuery_len], by rw [rows_len ciL_len], by rw [rows_len tAtom_len], ?_⟩
 exact ⟨s, vs, q, rfl, hs, hv, hq, rfl⟩
def SV : List Int := [0, 1, 2, 3, 99, 100, -1]
def smF (n : Nat) (f : FactC) : Prop := f.2.length ≤ n ∧ ∀ x ∈ f.2, x ∈ SV
def smDb (n m : Nat) (db : List FactC) : Prop := db.length ≤ n ∧ ∀ f ∈ db, smF m f
theorem below4_sv (c : Cur) : (belowP c 4).1 ∈ SV := by
 have hb := belowP_bd c (n := 4) (by omega) (by omega)
 have : (belowP c 4).1 = 0 ∨ (belowP c 4).1 = 1 ∨ (belowP c 4).1 = 2 ∨ (belowP c 4).1 = 3 := by omega
 rcases this with h | h | h | h <;> rw [h] <;> decide
theorem argGo_sv : ∀ (n : Nat) (a : List Int) (c : Cur), (∀ x ∈ a, x ∈ SV) → ∀ x ∈ (argGo n a c).1, x ∈ SV
 | 0, a, c, h => h
 | n + 1, a, c, h => argGo_sv n _ _ fun x hx => by
  rcases List.mem_append.1 hx with hx | hx
  ·exact h x hx
  ·rw [List.mem_singleton.1 hx]; exact below4_sv c
theorem factP_sv {s : List Int} (hs : sOk s) {c : Cur} (hc : goodC c) : smF 3 (factP s c).1 ∧ 1 ≤ (factP s c).1.2.length := by
 obtain ⟨k, h1, h2⟩ := below_idx hs c
 have h3 := sOk_at hs h2
 refine ⟨⟨(factP_ok hs hc).2, ?_⟩, ?_⟩
 ·exact argGo_sv _ _ _ fun x hx => by cases hx
 ·obtain ⟨g1, g2⟩ := argGo_ok (s.getD k 0).toNat [] (belowP c s.length).2 (belowP_good hc _)
  unfold factP
  simp only [h1, Int.toNat_natCast]
  rw [g2, getD_at h2]
  simp only [List.length_nil]
  omega
theorem dbDr_sv {s : List Int} (hs : sOk s) : ∀ (n : Nat) (db : List FactC) (c : Cur), goodC c → (∀ f ∈ db, smF 3 f) → ∀ f ∈ (dbDr s n db c).1, smF 3 f
 | 0, db, c, _, h => h
 | n + 1, db, c, hc, h => dbDr_sv hs n _ _ (factP_ok hs hc).1 fun f hf => by
  rcases mem_putGo' _ f db false hf with rfl | hf
  ·exact (factP_sv hs hc).1
  ·exact h f hf
theorem dbP_sv {s : List Int} (hs : sOk s) {c : Cur} (hc : goodC c) : goodC (dbP s c).2 ∧ smDb 8 3 (dbP s c).1 := by
 obtain ⟨h1, h2, h3⟩ := dbP_ok hs hc
 exact ⟨h1, h3, dbDr_sv hs _ _ _ (belowP_good hc 9) fun f hf => by cases hf⟩
theorem smDb_size {n m : Nat} {db : List FactC} (h : smDb n m db) (hn : n ≤ 100) (hm : m ≤ 100) : cFactS db ≤ 1048576 := by
 have h1 := sumB_cap' cFact m db fun x hx => (h.2 x hx).1
 have h2 := h.1
 have h3 : m * db.length ≤ 100 * 100 := Nat.mul_le_mul hm (by omega)
 show db.length + sumB cFact db ≤ _
 omega
theorem set0_ci (xs : List Int) (t : Int) (h : 0 < xs.length) : setC (rows ciL xs) (0 + 0 * 1) [ci t] = rows ciL (xs.set 0 t) := (congrArg (fun o => setC (rows ciL xs) o (ciL t)) (Nat.zero_add _)).trans (setC_rows ciL_len (by omega) h _)
set_option maxHeartbeats 4000000 in
theorem l5AnyFact_g (s : List Int) (c : Cur) (hs : sOk s) (h : goodC c) : SpecG Tryz.prog 212 [.ptr 0 0, vSchema s] (gC c) fun r g2 => ∃ (f : FactC) (c' : Cur), r = wFact f ∧ smF 4 f ∧ goodC c' ∧ g2 = gC c' := by
 unfold gC
 refine SpecG_of mx Γ_ok 1 Tryz.func212 rfl rfl (by decide) ?_
 conv => whnf
 refine ⟨_, l4Safe_spec s hs, .inl rfl, .inl ?_⟩
 rw [ints_roV]
 conv => whnf
 refine .inr (.inl ?_)
 conv => whnf
 refine ⟨curC_ne c, ?_⟩
 conv => whnf
 refine ⟨_, _, _, l5Fact_spec s c hs h, ?_⟩
 conv => whnf
 refine .inr ?_
 conv => whnf
 obtain ⟨⟨f1, f2⟩, f3⟩ := factP_sv hs h
 have g1 := (factP_ok hs h).1
 generalize (factP s c).2 = c1 at g1 ⊢
 generalize (factP s c).1 = F at f1 f2 f3 ⊢
 refine .inr (.inl ?_)
 conv => whnf
 refine ⟨curC_ne c1, ?_⟩
 conv => whnf
 refine ⟨_, _, _, l1Below_spec c1 10 g1 (by omega), ?_⟩
 conv => whnf
 refine .inl ?_
 conv => whnf
 have g2 := belowP_good g1 10
 generalize (belowP c1 10).2 = c2 at g2 ⊢
 generalize (belowP c1 10).1 = v
 have pick : ∀ (xs : List Int) (c : Cur), (∀ x ∈ xs, x ∈ SV) → 1 ≤ xs.length → xs.length ≤ 200 → xs.getD (belowP c xs.length).1.toNat 0 ∈ SV := fun xs c hx h1 h2 => by
  have hb := belowP_bd c (n := xs.length) (by omega) (by omega)
  have hk : (belowP c xs.length).1.toNat < xs.length := by omega
  rw [getD_at0 hk]
  exact hx _ (List.getElem_mem hk)
 generalize (v == 0) = b0
 cases b0 with
 | true =>
  conv => whnf
  refine ⟨[1001, 0, 1, 2, 3, 4, 5, 6, 7, 8, 1000, 1000], by kernel_rfl, ?_⟩
  conv => whnf
  refine .inr (.inl ?_)
  conv => whnf
  refine ⟨curC_ne c2, ?_⟩
  conv => whnf
  refine ⟨rfl, ?_⟩
  conv => whnf
  refine ⟨fun k => noSubT_lk (by kernel_rfl) k, rfl, _, _, _, l1PickInt_spec c2 [0, 99, 100, -1] g2 (by decide) (by decide), ?_⟩
  conv => whnf
  refine .inl ?_
  have hp := pick [0, 99, 100, -1] c2 (by decide) (by decide) (by decide)
  have g3 := belowP_good g2 4
  have e4 : (([0, 99, 100, -1] : List Int).length : Int) = 4 := rfl
  rw [e4] at hp ⊢
  generalize (belowP c2 4).2 = c3 at g3 ⊢
  generalize ([0, 99, 100, -1] : List Int).getD (belowP c2 4).1.toNat 0 = t at hp ⊢
  conv => whnf
  refine ⟨_, rfl, .inl ⟨flat1 rfl, ?_⟩⟩
  conv => whnf
  refine ⟨by omega, by rw [rows_len ciL_len], _, snoc_ci _ _, ?_⟩
  conv => whnf
  refine ⟨[], ?_⟩
  conv => whnf
  refine ⟨by rw [rows_len ciL_len, List.length_append]; rfl, ?_⟩
  refine ⟨(F.1, F.2 ++ [t]), c3, ?_, ⟨by simp only [List.length_append, List.length_cons, List.length_nil]; omega, fun x hx => ?_⟩, g3, rfl⟩
  ·simp only [wFact, tFact, intsT, List.length_append]
   rfl
  ·rcases List.mem_append.1 hx with hx | hx
   ·exact f2 x hx
   ·rw [List.mem_singleton.1 hx]; exact hp
 | false =>
  conv => whnf
  generalize (v == 1) = b1
  cases b1 with
  | true =>
   conv => whnf
   refine .inr (.inl ?_)
   conv => whnf
   refine ⟨curC_ne c2, ?_⟩
   conv => whnf
   refine ⟨rfl, ?_⟩
   conv => whnf
   refine ⟨_, _, _, l1PickInt_spec c2 [-1, 3, 4] g2 (by decide) (by decide), ?_⟩
   conv => whnf
   refine .inl ?_
   have g3 := belowP_good g2 3
   have e4 : (([-1, 3, 4] : List Int).length : Int) = 3 := rfl
   rw [e4]
   generalize (belowP c2 3).2 = c3 at g3 ⊢
   generalize ([-1, 3, 4] : List Int).getD (belowP c2 3).1.toNat 0 = t
   conv => whnf
   refine ⟨[], ?_⟩
   conv => whnf
   refine ⟨by rw [rows_len ciL_len], ?_⟩
   exact ⟨(t, F.2), c3, rfl, ⟨by show F.2.length ≤ 4; omega, f2⟩, g3, rfl⟩
  | false =>
   conv => whnf
   generalize (v == 2) = b2
   cases b2 with
   | true =>
    conv => whnf
    refine ⟨[1001, 0, 1, 2, 3, 4, 5, 6, 1000, 1000], by kernel_rfl, ?_⟩
    conv => whnf
    refine .inr (.inl ?_)
    conv => whnf
    refine ⟨curC_ne c2, ?_⟩
    conv => whnf
    refine ⟨rfl, ?_⟩
    conv => whnf
    refine ⟨fun k => noSubT_lk (by kernel_rfl) k, rfl, _, _, _, l1PickInt_spec c2 [99, 100, -1] g2 (by decide) (by decide), ?_⟩
    conv => whnf
    refine .inl ?_
    have hp := pick [99, 100, -1] c2 (by decide) (by decide) (by decide)
    have g3 := belowP_good g2 3
    have e4 : (([99, 100, -1] : List Int).length : Int) = 3 := rfl
    rw [e4] at hp ⊢
    generalize (belowP c2 3).2 = c3 at g3 ⊢
    generalize ([99, 100, -1] : List Int).getD (belowP c2 3).1.toNat 0 = t at hp ⊢
    conv => whnf
    refine ⟨by omega, ?_⟩
    conv => whnf
    refine ⟨_, takeN_own (k := 0) (d := 0) (m := 1) (xs := F.2) ciL_len (Nat.zero_add _) (by omega) (by omega) rfl, _, set0_ci F.2 t (by omega), ?_⟩
    conv => whnf
    refine ⟨[], ?_⟩
    conv => whnf
    refine ⟨by rw [rows_len ciL_len, List.length_set], ?_⟩
    refine ⟨(F.1, F.2.set 0 t), c3, ?_, ⟨by simp only [List.length_set]; omega, fun x hx => ?_⟩, g3, rfl⟩
    ·simp only [wFact, tFact, intsT, List.length_set]
     rfl
    ·rcases List.mem_or_eq_of_mem_set hx with hx | hx
     ·exact f2 x hx
     ·rw [hx]; exact hp
   | false =>
    conv => whnf
    refine ⟨[], ?_⟩
    conv => whnf
    refine ⟨by rw [rows_len ciL_len], ?_⟩
    exact ⟨F, c2, rfl, ⟨by omega, f2⟩, g2, rfl⟩
end Go.Proofs.YtcjdfeafcmfgpaaGreatD
