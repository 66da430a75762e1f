/- Contracts and plain laws of this seat; no condition. -/
import Derived.Test.YtboolngaahifdaaGreatQ24
import Derived.Test.YtboolngaahifdaaGreatQ28
import Derived.Test.YtboolngaahifdaaGreatQ21
import Derived.Test.YtboolngaahifdaaGreatQ23
import Derived.Test.YtboolngaahifdaaGreatQ19
import Derived.Test.YtboolngaahifdaaGreatQ22
import Derived.Test.YtboolngaahifdaaGreatQ11
import Derived.Test.YtboolngaahifdaaGreatQ9
import Derived.WalkKit
import Derived.WalkSpells
set_option linter.unusedVariables false
set_option linter.unusedSimpArgs false
set_option maxRecDepth 100000
namespace Go.Proofs.YtboolngaahifdaaGreatD
open Go Go.Proofs
theorem solid_tQueryD (q : QueryW) : ∀ c ∈ tQuery q, solid c = true := by
 intro c hc
 simp only [tQuery, List.mem_cons, List.not_mem_nil, or_false] at hc
 rcases hc with rfl | rfl <;> rfl
theorem SpecG_mono {P : Program} {f : Nat} {vs : List V} {g : List (Option Obj)} {Post Post' : V → List (Option Obj) → Prop} (h : SpecG P f vs g Post) (hp : ∀ r g2, Post r g2 → Post' r g2) : SpecG P f vs g Post' :=
 ⟨h.1, fun E0 xs h1 h2 => Calls.mono (h.2 E0 xs h1 h2) fun e w' he => by
  cases e with
  | returned x =>
   obtain ⟨r, g2, E2, hP, rest⟩ := he
   exact ⟨r, g2, E2, hp _ _ hP, rest⟩
  | _ => exact he.elim⟩
set_option maxHeartbeats 4000000 in
theorem l15Views_h (s : List Int) (c : Cur) (hs : sOk s) (h : goodC c) : SpecG Tryz.prog 180 [.ptr 0 0, vSchema s] (gC c) fun r g2 => ∃ (vs : List QueryW) (c' : Cur), r = wQueryS vs ∧ 1 ≤ vs.length ∧ vs.length ≤ 3 ∧ (∀ v ∈ vs, smQ v ∧ 1 ≤ v.1.length) ∧ goodC c' ∧ g2 = gC c' := by
 unfold gC
 refine SpecG_of mx Γ_ok 1 Tryz.func180 rfl rfl (by decide) ?_
 conv => whnf
 refine .inr (.inl ?_)
 conv => whnf
 refine ⟨curC_ne c, ?_⟩
 conv => whnf
 refine ⟨_, _, _, l1Below_spec c 3 h (by omega), ?_⟩
 conv => whnf
 refine .inl ?_
 conv => whnf
 have hb := belowP_bd c (n := 3) (by omega) (by omega)
 have hc := belowP_good h 3
 generalize (belowP c 3).2 = c0 at hc ⊢
 obtain ⟨n0, hn0⟩ : ∃ n : Nat, (belowP c 3).1 = n := ⟨(belowP c 3).1.toNat, by omega⟩
 rw [hn0] at hb ⊢
 have hw : IntKind.i64.wrap (1 + (n0 : Int)) = ((n0 + 1 : Nat) : Int) := by rw [wrap_id (by omega) (by omega)]; omega
 rw [hw]
 refine ⟨[(0,0),(3,0),(4,0),(5,0),(6,0)], fun m st => ∃ (n : Nat) (e : Int) (vs : List QueryW) (c1 : Cur) (k : Nat) (cc r : List V), e = n ∧ m = n ∧ vs.length + n = n0 + 1 ∧ goodC c1 ∧ (∀ v ∈ vs, smQ v ∧ 1 ≤ v.1.length) ∧ k = vs.length ∧ cc = curC c1 ∧ r = rows tQuery vs ∧
  st = ⟨40, [(0, .ptr 0 0), (3, .ptr 1 0), (4, cnil), (5, .own 2 2 0 k k none), (6, ci e)], [some ⟨false, cc⟩, some ⟨true, [ints s]⟩, some ⟨false, r⟩]⟩, n0 + 1, ⟨n0 + 1, (n0 + 1 : Nat), [], c0, 0, _, _, rfl, rfl, by simp, hc, (fun x hx => by cases hx), rfl, rfl, rfl, by kernel_rfl⟩, ?_⟩
 rintro m st ⟨n, _, vs, c1, k, _, _, rfl, hm, hdn, hc1, hsh, hk, rfl, rfl, rfl⟩
 conv => whnf
 split <;> rename_i h1
 all_goals simp only [decide_eq_true_eq, decide_eq_false_iff_not] at h1
 ·obtain ⟨n', rfl⟩ : ∃ n', n = n' + 1 := ⟨n - 1, by omega⟩
  conv => whnf
  refine .inr (.inr ⟨[0], [], ?_⟩)
  conv => whnf
  refine ⟨_, l4Query_s s c1 hs hc1, fun r g2 hP => ?_⟩
  obtain ⟨q, c2, rfl, hq, hc2, rfl⟩ := hP
  obtain ⟨q1, q2, q3, q4, q5⟩ := hq
  refine .inr ?_
  conv => whnf
  generalize hz : ((q.1.length : Int) == 0) = z
  cases z with
  | false =>
   conv => whnf
   refine ⟨by rw [rows_len ciL_len], by rw [rows_len tAtom_len], ?_⟩
   conv => whnf
   refine ⟨_, rfl, .inr ⟨solid_tQueryD q, ?_⟩⟩
   conv => whnf
   refine ⟨by omega, by rw [rows_len tQuery_len, hk], _, snoc_rowsD tQuery _ q, ?_⟩
   conv => whnf
   refine ⟨m - 1, by omega, n', IntKind.i64.wrap (((n' + 1 : Nat) : Int) - 1), vs ++ [q], c2, k + 1, curC c2, rows tQuery (vs ++ [q]), wrap_pred n', by omega, by simp; omega, hc2, fun y hy => ?_, by simp [hk], rfl, rfl, by kernel_rfl⟩
   rcases List.mem_append.1 hy with hy | hy
   ·exact hsh y hy
   ·rw [List.mem_singleton.1 hy]; exact ⟨⟨q1, q2, q3, q4, q5⟩, by have : ¬ (q.1.length : Int) = 0 := (by simpa using hz); omega⟩
  | true =>
   have hz' : q.1.length = 0 := by
    have : (q.1.length : Int) = 0 := by simpa using hz
    omega
   obtain ⟨qh, qb⟩ := q
   obtain rfl : qh = [] := List.length_eq_zero_iff.1 hz'
   cases qb with
   | nil => simp at q3
   | cons a0 ar =>
   obtain ⟨r0, ah⟩ := a0
   have ha := q5 (r0, ah) (by simp)
   cases ah with
   | nil => have := ha.1; simp at this
   | cons t0 tr =>
   conv => whnf
   refine ⟨List.range 13, by kernel_rfl, ?_⟩
   conv => whnf
   refine ⟨⟨by omega, by show (0 : Int) < ((ar.length + 1 : Nat) : Int); omega⟩, ?_⟩
   conv => whnf
   refine ⟨_, takeN_own (f := tAtom) (k := 0) (d := 1) (m := 1) (xs := (r0, t0 :: tr) :: ar) (r := [intsT (t0 :: tr)]) tAtom_len rfl (by simp) (by omega) rfl, ?_⟩
   conv => whnf
   refine ⟨(t0 :: tr).length, rows ciL (t0 :: tr), rfl, ⟨by omega, by show (0 : Int) < ((tr.length + 1 : Nat) : Int); omega⟩, ?_⟩
   conv => whnf
   refine ⟨_, _, _, [ci t0], rfl, rfl, flat1 rfl, ?_⟩
   conv => whnf
   refine ⟨_, rfl, .inl ⟨flat1 rfl, ?_⟩⟩
   conv => whnf
   refine ⟨by show 0 + 1 ≤ _; omega, rfl, _, (show rows ciL [] ++ [ci t0] = rows ciL [t0] from rfl), ?_⟩
   conv => whnf
   refine ⟨rfl, by rw [rows_len tAtom_len], ?_⟩
   conv => whnf
   refine ⟨_, rfl, .inr ⟨solid_tQueryD ([t0], (r0, t0 :: tr) :: ar), ?_⟩⟩
   conv => whnf
   refine ⟨by omega, by rw [rows_len tQuery_len, hk], _, snoc_rowsD tQuery _ ([t0], (r0, t0 :: tr) :: ar), ?_⟩
   conv => whnf
   refine ⟨m - 1, by omega, n', IntKind.i64.wrap (((n' + 1 : Nat) : Int) - 1), vs ++ [([t0], (r0, t0 :: tr) :: ar)], c2, k + 1, curC c2, rows tQuery (vs ++ [([t0], (r0, t0 :: tr) :: ar)]), wrap_pred n', by omega, by simp; omega, hc2, fun y hy => ?_, by simp [hk], rfl, rfl, by kernel_rfl⟩
   rcases List.mem_append.1 hy with hy | hy
   ·exact hsh y hy
   ·rw [List.mem_singleton.1 hy]
    exact ⟨⟨by simp, fun t ht => by rw [List.mem_singleton.1 ht]; exact ha.2.2 t0 (by simp), q3, q4, q5⟩, by simp⟩
 ·have h0 : n = 0 := by omega
  subst h0
  subst hk
  conv => whnf
  refine ⟨[], ?_⟩
  conv => whnf
  refine ⟨by rw [rows_len tQuery_len], ?_⟩
  exact ⟨vs, c1, rfl, by omega, by omega, hsh, hc1, rfl⟩
theorem l15Views_g (s : List Int) (c : Cur) (hs : sOk s) (h : goodC c) : SpecG Tryz.prog 180 [.ptr 0 0, vSchema s] (gC c) fun r g2 => ∃ (vs : List QueryW) (c' : Cur), r = wQueryS vs ∧ 1 ≤ vs.length ∧ vs.length ≤ 3 ∧ (∀ v ∈ vs, smQ v) ∧ goodC c' ∧ g2 = gC c' :=
 SpecG_mono (l15Views_h s c hs h) fun r g2 ⟨vs, c', h1, h2, h3, h4, h5⟩ => ⟨vs, c', h1, h2, h3, fun v hv => (h4 v hv).1, h5⟩
def okVs (vs : List QueryW) : Prop := vs.length ≤ 4 ∧ ∀ v ∈ vs, qSm v ∧ (v.1 = [] ∨ smQ v)
set_option maxHeartbeats 4000000 in
theorem l15Any_g (s : List Int) (c : Cur) (hs : sOk s) (h : goodC c) : SpecG Tryz.prog 182 [.ptr 0 0, vSchema s] (gC c) fun r g2 => ∃ (vs : List QueryW) (c' : Cur), r = wQueryS vs ∧ okVs vs ∧ goodC c' ∧ g2 = gC c' := by
 unfold gC
 refine SpecG_of mx Γ_ok 1 Tryz.func182 rfl rfl (by decide) ?_
 conv => whnf
 refine .inr (.inr ⟨[0], [], ?_⟩)
 conv => whnf
 refine ⟨_, l15Views_g s c hs h, fun r g2 hP => ?_⟩
 obtain ⟨vs, c1, rfl, v1, v2, v3, h1, rfl⟩ := hP
 refine .inr ?_
 conv => whnf
 refine .inr (.inl ?_)
 conv => whnf
 refine ⟨curC_ne c1, ?_⟩
 conv => whnf
 refine ⟨_, _, _, l1Below_spec c1 14 h1 (by omega), ?_⟩
 conv => whnf
 refine .inl ?_
 conv => whnf
 have h3 := belowP_good h1 14
 generalize (belowP c1 14).2 = c2 at h3 ⊢
 generalize (belowP c1 14).1 = v
 have hok : okVs vs := ⟨by omega, fun v hv => ⟨smQ_sm (v3 v hv), .inr (v3 v hv)⟩⟩
 generalize (v == 0) = b0
 cases b0 with
 | true =>
  conv => whnf
  refine .inr (.inr ⟨[0], [], ?_⟩)
  conv => whnf
  refine ⟨_, l3AnyAtom_g c2 h3, fun r g2 hP => ?_⟩
  obtain ⟨a, c3, rfl, ha, h4, rfl⟩ := hP
  refine .inr ?_
  conv => whnf
  refine ⟨by rw [rows_len ciL_len], ?_⟩
  conv => whnf
  refine .inr ⟨1, ?_⟩
  conv => whnf
  refine ⟨rfl, ?_⟩
  conv => whnf
  refine ⟨_, rfl, .inr ⟨solid_tQueryD ([], [a]), ?_⟩⟩
  conv => whnf
  refine ⟨by omega, by rw [rows_len tQuery_len], _, snoc_rowsD tQuery _ ([], [a]), ?_⟩
  conv => whnf
  refine ⟨[], ?_⟩
  conv => whnf
  refine ⟨by rw [rows_len tQuery_len, List.length_append]; rfl, ?_⟩
  refine ⟨vs ++ [([], [a])], c3, ?_, ⟨by simp; omega, fun v hv => ?_⟩, h4, rfl⟩
  ·show _ = V.tr 2 (vs ++ [([], [a])]).length _
   rw [List.length_append]
   rfl
  ·rcases List.mem_append.1 hv with hv | hv
   ·exact hok.2 v hv
   ·rw [List.mem_singleton.1 hv]
    exact ⟨⟨by simp, by simp, fun x hx => by rw [List.mem_singleton.1 hx]; omega⟩, .inl rfl⟩
 | false =>
  conv => whnf
  generalize (v == 1) = b1
  cases b1 with
  | true =>
   conv => whnf
   refine ⟨[], ?_⟩
   conv => whnf
   refine ⟨rfl, ?_⟩
   exact ⟨[], c2, rfl, ⟨by simp, fun v hv => by cases hv⟩, h3, rfl⟩
  | false =>
   conv => whnf
   refine ⟨[], ?_⟩
   conv => whnf
   refine ⟨by rw [rows_len tQuery_len], ?_⟩
   exact ⟨vs, c2, rfl, hok, h3, rfl⟩
theorem okVs_size {vs : List QueryW} (h : okVs vs) : cQueryS vs ≤ 1048576 := by
 have h1 := sumB_cap' cQuery 100 vs fun v hv => by
  obtain ⟨⟨a, b, c⟩, _⟩ := h.2 v hv
  have := sm_sum c
  show v.1.length + (v.2.length + sumB cAtom v.2) ≤ 100
  omega
 have h2 := h.1
 show vs.length + sumB cQuery vs ≤ _
 omega
def safeQ (q : QueryE) : Prop := okT q ∧ ∀ t ∈ q.1, isVar t = true → occurs q t = true
theorem safe_bnd {q : QueryE} {db : List FactC} (h : safeQ q) {b : Bnd} (hb : b ∈ visitL db q.2 bNone) : ∀ t ∈ q.1, 0 ≤ t → (b t.toNat).isSome = true := by
 intro t ht h0
 have hr := term_rng (List.all_eq_true.1 h.1.1 t ht)
 obtain ⟨a, ha, hta⟩ := occurs_mem.1 (h.2 t ht (by simp [isVar, inR]; omega))
 exact (visitL_ok db q.2 bNone b hb).2 a ha t hta h0
theorem tS_val {b : Bnd} {t : Int} (ht : isTerm t = true) (hb : 0 ≤ t → (b t.toNat).isSome = true) : tS (sV b) t = val (fnOf b) t := by
 rw [tS_valOf b t ht hb]
 exact valOf_val b ht
theorem raw_iff {q : QueryE} {db : List FactC} (h : safeQ q) (x : List Int) : x ∈ sortL true ((rawP q db).map fun v => q.1.map (tS v)) ↔ ∃ v : Int → Int, Sat v db q.2 ∧ x = q.1.map (val v) := by
 have t1 := h.1.1
 have t2 := h.1.2
 rw [(sortL_ok _).2 x]
 simp only [List.mem_map]
 constructor
 ·rintro ⟨w, hw, rfl⟩
  obtain ⟨b, hb, rfl⟩ := (rawP_ok q db).1 w hw
  exact ⟨fnOf b, (visitL_sound db q.2 bNone b t2 hb).2.1, List.map_congr_left fun t ht => tS_val (List.all_eq_true.1 t1 t ht) (safe_bnd h hb t ht)⟩
 ·rintro ⟨v, hv, rfl⟩
  obtain ⟨b, hb, hu⟩ := visitL_complete db q.2 bNone t2 (under_none v) hv
  refine ⟨sV b, (sortL_ok _).2 _ |>.2 (List.mem_map.2 ⟨b, hb, rfl⟩), ?_⟩
  refine List.map_congr_left fun t ht => ?_
  rw [tS_val (List.all_eq_true.1 t1 t ht) (safe_bnd h hb t ht)]
  exact under_val hu fun hv => safe_bnd h hb t ht ((var_iff (List.all_eq_true.1 t1 t ht)).1 hv)
theorem overK_of {q : QueryE} {n : Nat} (h : safeQ q) (h1 : q.1.length ≤ 3) (h2 : 1 ≤ q.2.length) (h3 : q.2.length ≤ 16) (h4 : ∀ a ∈ q.2, a.2.length ≤ 3) (hn : n ≤ 400) : overK q n = true := by
 simp only [overK, terms3, Bool.and_eq_true, decide_eq_true_eq, Bool.not_eq_true', decide_eq_false_iff_not, List.all_eq_true, inR]
 refine ⟨⟨⟨⟨⟨List.all_eq_true.1 h.1.1, h1⟩, by omega, by omega⟩, by omega⟩, fun a ha => ⟨List.all_eq_true.1 (h.1.2 a ha), h4 a ha⟩⟩, fun t ht => ?_⟩
 unfold safeH
 by_cases h0 : t ≥ 0
 ·have hr := term_rng (List.all_eq_true.1 h.1.1 t ht)
  have hv : isVar t = true := by simp [isVar, inR]; omega
  rw [has_bodyVars q t hv, h.2 t ht hv]
  simp
 ·rw [decide_eq_false h0]
  rfl
theorem over_iff {q : QueryE} {db : List FactC} (h : safeQ q) (hk : overK q db.length = true) (x : List Int) : x ∈ overS q db ↔ ∃ v : Int → Int, Sat v db q.2 ∧ x = q.1.map (val v) := by
 unfold overS
 rw [if_pos hk]
 exact raw_iff h x
theorem isQuery_safeQ {s : List Int} {q : QueryT} (h : isQuery s q = true) : safeQ q := ⟨isQuery_okT h, ((isQuery_iff s q).1 h).2.2.2.2⟩
theorem view_q {s : List Int} {vs : List QueryT} (h : pAreViews s vs = true) : ∀ v ∈ vs, isQuery s v = true ∧ v.1 ≠ [] := fun v hv => by
 simp only [pAreViews, Bool.and_eq_true, List.all_eq_true] at h
 have := h.1 v hv
 simp only [viewOk, Bool.and_eq_true, Bool.not_eq_true'] at this
 exact ⟨this.1, fun e => by rw [e] at this; simp at this⟩
theorem viewAt_mem {vs : List QueryT} {j : Nat} (hj : j < vs.length) (f : FactC) (hf : f.1 = (j : Int)) : viewAt vs f = vs[j] := by
 unfold viewAt
 rw [hf, Int.toNat_natCast, List.getD_eq_getElem?_getD, List.getElem?_eq_getElem hj]
 rfl
theorem uAll_mono {vs : List QueryT} (hl : ∀ a : AtomC, ∀ c ∈ (viewAt vs a).2, c.2.length ≤ 3) : ∀ (l : List AtomC) {st st' : U4}, (∀ c ∈ st.2.2.2, c.2.length ≤ 3) → uAll vs l st = some st' → (∀ c ∈ st'.2.2.2, c.2.length ≤ 3) ∧ st.2.2.2.length ≤ st'.2.2.2.length
 | [], st, st', h1, h => by
  cases h
  exact ⟨h1, Nat.le_refl _⟩
 | a :: r, st, st', h1, h => by
  rw [uAll_cons] at h
  split at h
  ·obtain ⟨i1, i2⟩ := uAll_mono hl r (st := uNext vs st a) (fun c hc => by
    rcases List.mem_append.1 hc with hc | hc
    ·exact h1 c hc
    ·obtain ⟨d, hd, rfl⟩ := List.mem_map.1 hc
     show (d.2.map _).length ≤ 3
     rw [List.length_map]
     exact hl a d hd) h
   refine ⟨i1, ?_⟩
   have : (uNext vs st a).2.2.2.length = st.2.2.2.length + (viewAt vs a).2.length := by simp [uNext, renQ]
   omega
  ·cases h
theorem unf_atoms {vs : List QueryT} {q y : QueryT} (h : UnfOk vs q) (hl : ∀ a : AtomC, ∀ c ∈ (viewAt vs a).2, c.2.length ≤ 3) (hne : ∃ a r, q.2 = a :: r ∧ 1 ≤ (viewAt vs a).2.length) (hp : pUnf vs q = some y) : (∀ c ∈ y.2, c.2.length ≤ 3) ∧ 1 ≤ y.2.length := by
 obtain ⟨st, f, hu, hf, rfl, heq⟩ := unf_some h hp
 obtain ⟨h1, _⟩ := uAll_mono hl q.2 (st := (varsOf q, [], [], [])) (fun c hc => by cases hc) hu
 have h2 : 1 ≤ st.2.2.2.length := by
  obtain ⟨a, r, he, ha⟩ := hne
  rw [he, uAll_cons] at hu
  split at hu
  ·have := (uAll_mono hl r (st := uNext vs (varsOf q, [], [], []) a) (fun c hc => by
    rcases List.mem_append.1 hc with hc | hc
    ·cases hc
    ·obtain ⟨d, hd, rfl⟩ := List.mem_map.1 hc
     show (d.2.map _).length ≤ 3
     rw [List.length_map]
     exact hl a d hd) hu).2
   have e : (uNext vs (varsOf q, [], [], []) a).2.2.2.length = (viewAt vs a).2.length := by simp [uNext, renQ]
   omega
  ·cases hu
 refine ⟨fun c hc => ?_, dedup_pos (by rw [List.length_map]; exact h2)⟩
 obtain ⟨d, hd, rfl⟩ := List.mem_map.1 ((mem_dedup c _).1 hc)
 show (d.2.map _).length ≤ 3
 rw [List.length_map]
 exact h1 d hd
theorem takes_le3 {s : List Int} {r n : Int} (h : takesS s r n = true) : n ≤ 3 := by
 simp only [takesS, Bool.and_eq_true, decide_eq_true_eq] at h
 obtain ⟨h1, h2, h3⟩ := h
 have := isSchema_le h1 (i := r.toNat)
 omega
theorem views_unf {s : List Int} {vs : List QueryT} (hv : pAreViews s vs = true) : (∀ a : AtomC, okT (viewAt vs a) ∧ ∀ t ∈ (viewAt vs a).1, isVar t = true → occurs (viewAt vs a) t = true) ∧ ∀ a : AtomC, ∀ c ∈ (viewAt vs a).2, c.2.length ≤ 3 := by
 have key : ∀ a : AtomC, viewAt vs a ∈ vs ∨ viewAt vs a = ([], []) := fun a => by
  unfold viewAt
  rw [List.getD_eq_getElem?_getD]
  cases h : vs[a.1.toNat]? with
  | none => exact .inr rfl
  | some v => exact .inl (List.mem_of_getElem? h)
 refine ⟨fun a => ?_, fun a c hc => ?_⟩
 ·rcases key a with h | h
  ·exact isQuery_safeQ (view_q hv _ h).1
  ·rw [h]
   exact ⟨⟨rfl, fun a ha => by cases ha⟩, fun t ht => by cases ht⟩
 ·rcases key a with h | h
  ·have := ((isQuery_iff s _).1 (view_q hv _ h).1).2.2.2.1 c hc
   have := takes_le3 this.1
   omega
  ·rw [h] at hc; cases hc
end Go.Proofs.YtboolngaahifdaaGreatD
namespace Go.Proofs.YtboolngaahifdaaGreatD
open Go Go.Proofs Go.RowKit Go.Shelf Go.Sort Go.Lib
set_option maxHeartbeats 4000000 in
set_option maxRecDepth 1000000 in
theorem compact_walkK {α : Type} [Inhabited α] (ea eb : α → Value) (ef : α → α → Bool) (g blk off cap : Nat) (d : Array α) (w : World)
  (eg : ∀ args w, (callFunc g args).run Tryz.prog w = .ok (.enter g args) w) (hcmp : EqLays Tryz.prog g (fun x => .agg #[ea x, eb x]) (fun x => [ea x, eb x]) 2 ef w blk off d.size) (h1 : ∀ x, (ea x).oneCell' = true ∧ (eb x).oneCell' = true) (hH : HoldsK (fun x => [ea x, eb x]) 2 w blk off d) (hblk : blk < w.heap.size) (hF : ∀ c e, w.heap[blk]? = some (.cells c e (0, 0)) → off + d.size * 2 ≤ c.size) (hsz : d.size < 4611686018427387904) (hcap : d.size ≤ cap) :
  Calls Tryz.prog 173 #[.slice (some ⟨blk, off, none⟩) d.size cap, .func (.func g) #[] #[]] w fun e w' =>
   ∃ m : Nat, CompOut (fun x => [ea x, eb x]) 2 ef d w w' blk off m ∧ e = .returned (.slice (some ⟨blk, off, none⟩) m cap) := by
 have mixed : Tryz.prog.follows .mixedOrders = true := by kernel_rfl
 have hS0 : SWK (fun x => [ea x, eb x]) 2 w blk off d w := SWK.start hH
 have same : ∀ W, SWK (fun x => [ea x, eb x]) 2 w blk off d W → (∀ j, j < d.size → keepsB ef d j = true) → CompOut (fun x => [ea x, eb x]) 2 ef d w W blk off d.size := fun W hW hall => CompOut.all hblk hF hW hall
 have cut : ∀ (dk : Array α) (m : Nat) W l, SWK (fun x => [ea x, eb x]) 2 w blk off dk W → CInv ef d d.size m dk → CompOut (fun x => [ea x, eb x]) 2 ef d w (W.setCells blk (off + m * 2) l) blk off m := fun dk m W l hW hI => CompOut.cut hblk hF hW hI l
 have HT : Aside _ := cut
 have HS : Aside _ := same
 have HC : Aside _ := hcmp
 have HH : Aside _ := hH
 have S0 : Aside _ := hS0
 have H1 : Aside _ := h1
 have HF : Aside _ := hF
 clear same cut hcmp hH hS0 h1 hF
 by_cases h2 : d.size < 2
 ·go_enter Tryz.func173, Tryz.ntmps173
  go_wp2
  go_ret
  have := HS.out w S0.out (fun j hj => by
   rcases Nat.eq_zero_or_pos j with h | h
   ·subst h; exact keepsB_lt_one d 0 Nat.one_pos
   ·omega)
  first | exact this | exact ⟨_, this, rfl⟩
 ·go_enter Tryz.func173, Tryz.ntmps173
  go_wp2
  go_loopg [5] d.size (fun g5 s5 wr => ∃ k : Nat, 1 ≤ k ∧ k ≤ d.size ∧ d.size - k ≤ g5 ∧ s5 = .int .i64 k ∧ SWK (fun x => [ea x, eb x]) 2 w blk off d wr ∧ ∀ j, j < k → keepsB ef d j = true)
  case atStart => exact ⟨1, Nat.le_refl _, by omega, by omega, rfl, S0.out, keepsB_lt_one d⟩
  case round =>
   obtain ⟨k, hk1, hkd, hg, rfl, hW, hall⟩ := hrel
   by_cases hlt : k < d.size
   ·obtain ⟨kp, rfl⟩ : ∃ kp, k = kp + 1 := ⟨k - 1, by omega⟩
    obtain ⟨xj, hxj⟩ : ∃ x, d[kp + 1]! = x := ⟨_, rfl⟩
    obtain ⟨xp, hxp⟩ : ∃ x, d[kp]! = x := ⟨_, rfl⟩
    have hHc : ∀ n' os', HoldsK (fun x => [ea x, eb x]) 2 (grow (wr.drewN n') os') blk off d := fun n' os' => (SWK_grown hW n' os').holds hblk HH.out rfl
    have lj0 : ∀ n' os', (grow (wr.drewN n') os').cell? ⟨blk, off + (kp + 1) * 2, none⟩ = some (ea xj) := fun n' os' => by
     rw [← hxj]; exact ((hHc n' os').cell (i := kp + 1) (c := 0) hlt (by omega)).1
    have lj1 : ∀ n' os', (grow (wr.drewN n') os').cell? ⟨blk, off + (kp + 1) * 2 + 1, none⟩ = some (eb xj) := fun n' os' => by
     rw [← hxj]; exact ((hHc n' os').cell (i := kp + 1) (c := 1) hlt (by omega)).1
    have lp0 : ∀ n' os', (grow (wr.drewN n') os').cell? ⟨blk, off + kp * 2, none⟩ = some (ea xp) := fun n' os' => by
     rw [← hxp]; exact ((hHc n' os').cell (i := kp) (c := 0) (by omega) (by omega)).1
    have lp1 : ∀ n' os', (grow (wr.drewN n') os').cell? ⟨blk, off + kp * 2 + 1, none⟩ = some (eb xp) := fun n' os' => by
     rw [← hxp]; exact ((hHc n' os').cell (i := kp) (c := 1) (by omega) (by omega)).1
    have hcg : ∀ n' os', Calls Tryz.prog g #[.agg #[ea xj, eb xj], .agg #[ea xp, eb xp]] (grow (wr.drewN n') os') fun e w' => e = .returned (.bool (ef xj xp)) ∧ ∃ q os'', w' = grow ((grow (wr.drewN n') os').drewN q) os'' := fun n' os' =>
     HC.out d _ rfl (SWK_grown hW n' os') xj xp
    have hwp : IntKind.i64.wrap (kp : Int) = (kp : Int) := by rw [IntKind.wrap_i64]; omega
    have jz : (kp : Int) + 1 < (d.size : Int) := by omega
    have jz1 : (kp : Int) < (d.size : Int) := by omega
    have p0 : (0 : Int) ≤ (kp : Int) + 1 := by omega
    have e0 : ((kp : Int) + 1).toNat = kp + 1 := by omega
    have HW : Aside _ := hW
    have HA : Aside _ := hall
    have HX : Aside (d[kp + 1]! = xj ∧ d[kp]! = xp) := ⟨hxj, hxp⟩
    clear hW hall hHc hxj hxp
    cases hef : ef xj xp
    ·rw [hef] at hcg
     go_wp2_with fail
     go_quiet_grown (first | (go_at_fn g; refine Calls.grown_of (hcg _ _)))
     go_wp2
     go_roundg (d.size - (kp + 1 + 1))
     case measure => omega
     case rel =>
      refine ⟨kp + 1 + 1, by omega, by omega, Nat.le_refl _, by go_num, SWK_grown HW.out _ _, fun j hj => ?_⟩
      by_cases e : j = kp + 1
      ·subst e
       exact keepsB_pos (by rw [Nat.add_sub_cancel, HX.out.1, HX.out.2]; exact hef)
      ·exact HA.out j (by omega)
    ·rw [hef] at hcg
     go_wp2_with fail
     go_quiet_grown (first | (go_at_fn g; refine Calls.grown_of (hcg _ _)))
     go_wp2
     clear lj0 lj1 lp0 lp1 hcg
     go_loopg [5, 7] d.size (fun g5 s5 s7 wr2 => ∃ (kk k2 : Nat) (dk : Array α), s5 = .int .i64 kk ∧ s7 = .int .i64 k2 ∧ 1 ≤ k2 ∧ kp + 1 + k2 ≤ d.size ∧ d.size - (kp + 1 + k2) ≤ g5 ∧ SWK (fun x => [ea x, eb x]) 2 w blk off dk wr2 ∧ CInv ef d (kp + 1 + k2) kk dk)
     case atStart => exact ⟨kp + 1, 1, d, by go_num, rfl, Nat.le_refl _, by omega, by omega, SWK_grown HW.out _ _, CInv.start HA.out (keepsB_neg (by omega) (by rw [Nat.add_sub_cancel, HX.out.1, HX.out.2]; exact hef))⟩
     case round =>
      obtain ⟨kk, k2, dk, rfl, rfl, hk2, hle, hg2, hW2, hI⟩ := hrel
      have hkk := hI.lt
      have hds := hI.size
      by_cases hlt2 : kp + 1 + k2 < d.size
      ·obtain ⟨kq, rfl⟩ : ∃ kq, k2 = kq + 1 := ⟨k2 - 1, by omega⟩
       obtain ⟨u, hu⟩ : ∃ x, d[kp + 1 + (kq + 1)]! = x := ⟨_, rfl⟩
       obtain ⟨v, hv⟩ : ∃ x, d[kp + 1 + kq]! = x := ⟨_, rfl⟩
       have eu : dk[kp + 1 + (kq + 1)]! = u := by rw [hI.high _ (by omega)]; exact hu
       have ev : dk[kp + 1 + kq]! = v := by rw [hI.high _ (by omega)]; exact hv
       have hHc : ∀ n' os', HoldsK (fun x => [ea x, eb x]) 2 (grow (wr.drewN n') os') blk off dk := fun n' os' => (SWK_grown hW2 n' os').holds hblk HH.out hds
       have lj0 : ∀ n' os', (grow (wr.drewN n') os').cell? ⟨blk, off + (kp + 1) * 2 + (kq + 1) * 2, none⟩ = some (ea u) := fun n' os' => by
        rw [← eu, Nat.add_assoc, ← Nat.add_mul]; exact ((hHc n' os').cell (i := kp + 1 + (kq + 1)) (c := 0) (by omega) (by omega)).1
       have lj1 : ∀ n' os', (grow (wr.drewN n') os').cell? ⟨blk, off + (kp + 1) * 2 + (kq + 1) * 2 + 1, none⟩ = some (eb u) := fun n' os' => by
        rw [← eu, Nat.add_assoc off, ← Nat.add_mul]; exact ((hHc n' os').cell (i := kp + 1 + (kq + 1)) (c := 1) (by omega) (by omega)).1
       have lp0 : ∀ n' os', (grow (wr.drewN n') os').cell? ⟨blk, off + (kp + 1) * 2 + kq * 2, none⟩ = some (ea v) := fun n' os' => by
        rw [← ev, Nat.add_assoc, ← Nat.add_mul]; exact ((hHc n' os').cell (i := kp + 1 + kq) (c := 0) (by omega) (by omega)).1
       have lp1 : ∀ n' os', (grow (wr.drewN n') os').cell? ⟨blk, off + (kp + 1) * 2 + kq * 2 + 1, none⟩ = some (eb v) := fun n' os' => by
        rw [← ev, Nat.add_assoc off, ← Nat.add_mul]; exact ((hHc n' os').cell (i := kp + 1 + kq) (c := 1) (by omega) (by omega)).1
       have hcg : ∀ n' os', Calls Tryz.prog g #[.agg #[ea u, eb u], .agg #[ea v, eb v]] (grow (wr.drewN n') os') fun e w' => e = .returned (.bool (ef u v)) ∧ ∃ q os'', w' = grow ((grow (wr.drewN n') os').drewN q) os'' := fun n' os' =>
        HC.out dk _ hds (SWK_grown hW2 n' os') u v
       have kc0 : ∀ n' os', (grow (wr.drewN n') os').cell? ⟨blk, off + kk * 2, none⟩ = some (ea dk[kk]!) := fun n' os' => ((hHc n' os').cell (i := kk) (c := 0) (by omega) (by omega)).1
       have kc1 : ∀ n' os', (grow (wr.drewN n') os').cell? ⟨blk, off + kk * 2 + 1, none⟩ = some (eb dk[kk]!) := fun n' os' => ((hHc n' os').cell (i := kk) (c := 1) (by omega) (by omega)).1
       have kf0 : ∀ n' os', (grow (wr.drewN n') os').frozen? ⟨blk, off + kk * 2, none⟩ = false := fun n' os' => ((hHc n' os').cell (i := kk) (c := 0) (by omega) (by omega)).2
       have kf1 : ∀ n' os', (grow (wr.drewN n') os').frozen? ⟨blk, off + kk * 2 + 1, none⟩ = false := fun n' os' => ((hHc n' os').cell (i := kk) (c := 1) (by omega) (by omega)).2
       have sa : ∀ (a : Addr) (m : Mode) (w : World), Sem.run Tryz.prog (store a (ea u) m) w = stored Tryz.prog w a (ea u) m := fun a m w => run_store Tryz.prog w a _ m (H1.out u).1
       have sb : ∀ (a : Addr) (m : Mode) (w : World), Sem.run Tryz.prog (store a (eb u) m) w = stored Tryz.prog w a (eb u) m := fun a m w => run_store Tryz.prog w a _ m (H1.out u).2
       generalize dk[kk]! = old at kc0 kc1
       have hwq : IntKind.i64.wrap (kq : Int) = (kq : Int) := by rw [IntKind.wrap_i64]; omega
       have j0 : (kq : Int) + 1 < (d.size - (kp + 1) : Nat) := by omega
       have j1 : (kq : Int) < (d.size - (kp + 1) : Nat) := by omega
       have j2 : (kk : Int) < (d.size : Int) := by omega
       have q0 : (0 : Int) ≤ (kq : Int) + 1 := by omega
       have e0' : ((kq : Int) + 1).toNat = kq + 1 := by omega
       have HW2 : Aside _ := hW2
       have HI : Aside _ := hI
       have HX2 : Aside (d[kp + 1 + (kq + 1)]! = u ∧ d[kp + 1 + kq]! = v) := ⟨hu, hv⟩
       clear hW2 hI hHc hu hv eu ev
       cases hef2 : ef u v
       ·rw [hef2] at hcg
        go_wp2_with fail
        go_quiet_grown (first | (go_at_fn g; refine Calls.grown_of (hcg _ _)))
        go_wp2
        go_roundg (d.size - (kp + 1 + (kq + 1 + 1)))
        case measure => omega
        case rel => exact ⟨kk + 1, kq + 1 + 1, dk.setIfInBounds kk u, by go_num, by go_num, by omega, by omega, Nat.le_refl _, SWK_store (SWK_grown HW2.out nq osq) (fun _ => rfl) hblk (by omega) u, by
         have := HI.out.keep hlt2 (keepsB_pos (by rw [show kp + 1 + (kq + 1) - 1 = kp + 1 + kq from by omega, HX2.out.1, HX2.out.2]; exact hef2))
         rwa [HX2.out.1] at this⟩
       ·rw [hef2] at hcg
        clear sa sb kc0 kc1 kf0 kf1
        go_wp2_with fail
        go_quiet_grown (first | (go_at_fn g; refine Calls.grown_of (hcg _ _)))
        go_wp2
        go_roundg (d.size - (kp + 1 + (kq + 1 + 1)))
        case measure => omega
        case rel => exact ⟨kk, kq + 1 + 1, dk, rfl, by go_num, by omega, by omega, Nat.le_refl _, SWK_grown HW2.out _ _, HI.out.skip (keepsB_neg (by omega) (by rw [show kp + 1 + (kq + 1) - 1 = kp + 1 + kq from by omega, HX2.out.1, HX2.out.2]; exact hef2))⟩
      ·have hend : kp + 1 + k2 = d.size := by omega
       have hHc := hW2.holds hblk HH.out hds
       obtain ⟨l, hcl⟩ := run_clear_cells (P := Tryz.prog) wr 30 121 (.agg #[.int .i64 0, .slice none 0 0]) [.int .i64 0, .slice none 0 0] (by kernel_rfl) (fun w => by go_simp) rfl (by decide) (by simp [Value.oneCell']) blk (off + kk * 2) (d.size - kk) (cap - kk) (by omega)
        (fun j hj => by
         have hj' : j < (d.size - kk) * 2 := hj
         have := (hHc (kk * 2 + j) (by rw [size_flatK]; omega)).1
         rw [Nat.add_assoc, this]; rfl)
        (fun j hj => by
         have hj' : j < (d.size - kk) * 2 := hj
         rw [Nat.add_assoc]; exact (hHc (kk * 2 + j) (by rw [size_flatK]; omega)).2)
       clear hHc
       have HW2 : Aside _ := hW2
       have HI : Aside _ := hI
       clear hW2 hI
       go_wp2
       go_ret
       have := HT.out dk kk wr l HW2.out (by have := HI.out; rwa [hend] at this)
       first | exact this | exact ⟨_, this, rfl⟩
   ·have : k = d.size := by omega
    subst this
    have HW : Aside _ := hW
    have HA : Aside _ := hall
    clear hW hall
    go_wp2
    go_ret
    have := HS.out _ HW.out HA.out
    first | exact this | exact ⟨_, this, rfl⟩
end Go.Proofs.YtboolngaahifdaaGreatD
