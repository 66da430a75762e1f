/- Contracts and plain laws of this seat; no condition. -/
import Derived.Test.YtcjdfeafcmfgpaaGreatQ12
import Derived.Test.YtcjdfeafcmfgpaaGreatQ17
import Derived.Test.YtcjdfeafcmfgpaaGreatQ11
import Derived.Test.YtcjdfeafcmfgpaaGreatQ16
set_option linter.unusedVariables false
set_option linter.unusedSimpArgs false
set_option maxRecDepth 100000
namespace Go.Proofs.YtcjdfeafcmfgpaaGreatD
open Go Go.Proofs
def val (v : Int → Int) (t : Int) : Int := if isVar t then v t else -1 - t
def valA (v : Int → Int) (a : FactC) : FactC := (a.1, a.2.map (val v))
def Sat (v : Int → Int) (db body : List FactC) : Prop := ∀ a ∈ body, valA v a ∈ db
def Under (b : Bnd) (v : Int → Int) : Prop := ∀ (k : Nat) (u : Int), b k = some u → v (k : Int) = u
def fnOf (b : Bnd) (t : Int) : Int := ba b t.toNat
def ExtB (b b2 : Bnd) : Prop := ∀ (k : Nat) (u : Int), b k = some u → b2 k = some u
theorem term_rng {t : Int} (h : isTerm t = true) : -80 ≤ t ∧ t ≤ 19 := by simpa [isTerm, inR] using h
theorem var_iff {t : Int} (h : isTerm t = true) : isVar t = true ↔ 0 ≤ t := by
 have := term_rng h
 simp only [isVar, inR, Bool.and_eq_true, decide_eq_true_eq]
 omega
theorem val_neg {v : Int → Int} {t : Int} (h : t < 0) : val v t = -1 - t := by
 unfold val
 rw [if_neg (by simp [isVar, inR]; omega)]
theorem val_pos {v : Int → Int} {t : Int} (ht : isTerm t = true) (h : ¬ t < 0) : val v t = v t := by
 unfold val
 rw [if_pos ((var_iff ht).2 (by omega))]
theorem bindGo_ext : ∀ (ts vs : List Int) (b b2 : Bnd), bindGo ts vs b = (b2, true) → ExtB b b2
 | [], vs, b, b2, h => by
  have : b = b2 := by cases vs <;> simpa [bindGo] using h
  subst this
  exact fun _ _ h => h
 | t :: ts, [], b, b2, h => by
  have : b = b2 := by simpa [bindGo] using h
  subst this
  exact fun _ _ h => h
 | t :: ts, x :: vs, b, b2, h => by
  simp only [bindGo] at h
  split at h
  ·split at h
   ·exact bindGo_ext ts vs b b2 h
   ·cases h
  ·split at h
   ·rename_i hb
    have ih := bindGo_ext ts vs _ b2 h
    intro k u hk
    refine ih k u ?_
    simp only [bset]
    split
    ·rename_i he; subst he; rw [hb] at hk; cases hk
    ·exact hk
   ·split at h
    ·exact bindGo_ext ts vs b b2 h
    ·cases h
theorem bindGo_sound : ∀ (ts vs : List Int) (b b2 : Bnd), ts.length = vs.length → ts.all isTerm = true → bindGo ts vs b = (b2, true) → ts.map (val (fnOf b2)) = vs ∧ ∀ t ∈ ts, 0 ≤ t → (b2 t.toNat).isSome = true
 | [], vs, b, b2, hl, _, h => by
  have : vs = [] := List.length_eq_zero_iff.1 (by simpa using hl.symm)
  subst this
  exact ⟨rfl, fun t ht => by cases ht⟩
 | t :: ts, [], b, b2, hl, _, h => by simp at hl
 | t :: ts, x :: vs, b, b2, hl, ha, h => by
  have hl' : ts.length = vs.length := by simpa using hl
  simp only [List.all_cons, Bool.and_eq_true] at ha
  simp only [bindGo] at h
  split at h
  ·rename_i hneg
   split at h
   ·rename_i he
    obtain ⟨i1, i2⟩ := bindGo_sound ts vs b b2 hl' ha.2 h
    refine ⟨by rw [List.map_cons, i1, val_neg hneg, he], fun u hu h0 => ?_⟩
    rcases List.mem_cons.1 hu with rfl | hu
    ·omega
    ·exact i2 u hu h0
   ·cases h
  ·rename_i hneg
   have key : ∀ b1 : Bnd, b1 t.toNat = some x → bindGo ts vs b1 = (b2, true) → (t :: ts).map (val (fnOf b2)) = x :: vs ∧ ∀ u ∈ t :: ts, 0 ≤ u → (b2 u.toNat).isSome = true := by
    intro b1 hb1 hb
    obtain ⟨i1, i2⟩ := bindGo_sound ts vs b1 b2 hl' ha.2 hb
    have h2 := bindGo_ext ts vs b1 b2 hb _ _ hb1
    refine ⟨?_, fun u hu h0 => ?_⟩
    ·rw [List.map_cons, i1, val_pos ha.1 hneg]
     unfold fnOf ba
     rw [h2]
     rfl
    ·rcases List.mem_cons.1 hu with rfl | hu
     ·rw [h2]; rfl
     ·exact i2 u hu h0
   split at h
   ·rename_i hb
    exact key _ (by simp [bset]) h
   ·rename_i u hb
    split at h
    ·rename_i he
     subst he
     exact key b hb h
    ·cases h
theorem bindGo_complete {v : Int → Int} : ∀ (ts vs : List Int) (b : Bnd), Under b v → ts.all isTerm = true → ts.map (val v) = vs → (bindGo ts vs b).2 = true ∧ Under (bindGo ts vs b).1 v
 | [], vs, b, hu, _, h => by
  subst h
  exact ⟨rfl, hu⟩
 | t :: ts, vs, b, hu, ha, h => by
  subst h
  simp only [List.all_cons, Bool.and_eq_true] at ha
  simp only [List.map_cons, bindGo]
  split
  ·rename_i hneg
   rw [if_pos (val_neg hneg).symm]
   exact bindGo_complete ts _ b hu ha.2 rfl
  ·rename_i hneg
   have hr := term_rng ha.1
   have ht : ((t.toNat : Nat) : Int) = t := by omega
   rw [val_pos ha.1 hneg]
   cases hb : b t.toNat with
   | none =>
    refine bindGo_complete ts _ _ (fun k u hk => ?_) ha.2 rfl
    simp only [bset] at hk
    split at hk
    ·rename_i he
     subst he
     cases hk
     rw [ht]
    ·exact hu k u hk
   | some u =>
    have := hu _ _ hb
    rw [ht] at this
    simp only
    rw [if_pos this.symm]
    exact bindGo_complete ts _ b hu ha.2 rfl
theorem val_ext {b b2 : Bnd} (h : ExtB b b2) {t : Int} (hb : 0 ≤ t → (b t.toNat).isSome = true) : val (fnOf b2) t = val (fnOf b) t := by
 unfold val
 cases hv : isVar t with
 | false => rfl
 | true =>
  have h0 : 0 ≤ t := by
   simp only [isVar, inR, Bool.and_eq_true, decide_eq_true_eq] at hv
   exact hv.1
  obtain ⟨u, hu⟩ := Option.isSome_iff_exists.1 (hb h0)
  simp only [if_true]
  unfold fnOf ba
  rw [hu, h _ _ hu]
theorem visitL_sound (db : List FactC) : ∀ (body : List FactC) (b b2 : Bnd), (∀ a ∈ body, a.2.all isTerm = true) → b2 ∈ visitL db body b → ExtB b b2 ∧ Sat (fnOf b2) db body ∧ ∀ a ∈ body, ∀ t ∈ a.2, 0 ≤ t → (b2 t.toNat).isSome = true
 | [], b, b2, _, h => by
  have : b2 = b := by simpa [visitL] using h
  subst this
  exact ⟨fun _ _ h => h, (fun a ha => by cases ha), (fun a ha => by cases ha)⟩
 | a :: r, b, b2, ht, h => by
  simp only [visitL, List.mem_flatMap] at h
  obtain ⟨f, hf, h⟩ := h
  split at h
  ·rename_i hm
   obtain ⟨i1, i2, i3⟩ := visitL_sound db r _ b2 (fun c hc => ht c (by simp [hc])) h
   unfold mch at hm h i1
   by_cases hc : a.1 = f.1 ∧ a.2.length = f.2.length
   ·rw [if_pos hc] at hm i1
    have hb : bindGo a.2 f.2 b = ((bindGo a.2 f.2 b).1, true) := Prod.ext rfl hm
    have e1 := bindGo_ext _ _ _ _ hb
    obtain ⟨s1, s2⟩ := bindGo_sound _ _ _ _ hc.2 (ht a (by simp)) hb
    refine ⟨fun k u hk => i1 k u (e1 k u hk), fun c hcm => ?_, fun c hcm t hct h0 => ?_⟩
    ·rcases List.mem_cons.1 hcm with rfl | hcm
     ·have : valA (fnOf b2) c = f := by
       refine Prod.ext hc.1 ?_
       show c.2.map (val (fnOf b2)) = f.2
       rw [← s1]
       exact List.map_congr_left fun t ht' => val_ext i1 (s2 t ht')
      rw [this]
      exact hf
     ·exact i2 c hcm
    ·rcases List.mem_cons.1 hcm with rfl | hcm
     ·obtain ⟨u, hu⟩ := Option.isSome_iff_exists.1 (s2 t hct h0)
      rw [i1 _ _ hu]
      rfl
     ·exact i3 c hcm t hct h0
   ·rw [if_neg hc] at hm
    cases hm
  ·cases h
theorem visitL_complete {v : Int → Int} (db : List FactC) : ∀ (body : List FactC) (b : Bnd), (∀ a ∈ body, a.2.all isTerm = true) → Under b v → Sat v db body → ∃ b2 ∈ visitL db body b, Under b2 v
 | [], b, _, hu, _ => ⟨b, by simp [visitL], hu⟩
 | a :: r, b, ht, hu, hs => by
  obtain ⟨c1, c2⟩ := bindGo_complete a.2 (a.2.map (val v)) b hu (ht a (by simp)) rfl
  have hm : mch b a (valA v a) = bindGo a.2 (a.2.map (val v)) b := by
   unfold mch valA
   rw [if_pos ⟨rfl, by simp⟩]
  obtain ⟨b2, h1, h2⟩ := visitL_complete db r (bindGo a.2 (a.2.map (val v)) b).1 (fun c hc => ht c (by simp [hc])) c2 (fun c hc => hs c (by simp [hc]))
  refine ⟨b2, ?_, h2⟩
  simp only [visitL, List.mem_flatMap]
  refine ⟨valA v a, hs a (by simp), ?_⟩
  rw [hm, if_pos c1]
  exact h1
theorem under_val {b : Bnd} {v : Int → Int} (hu : Under b v) {t : Int} (hb : isVar t = true → (b t.toNat).isSome = true) : val (fnOf b) t = val v t := by
 unfold val
 cases hv : isVar t with
 | false => rfl
 | true =>
  obtain ⟨u, h⟩ := Option.isSome_iff_exists.1 (hb hv)
  have h0 : 0 ≤ t := by
   simp only [isVar, inR, Bool.and_eq_true, decide_eq_true_eq] at hv
   exact hv.1
  have := hu _ _ h
  simp only [if_true]
  unfold fnOf ba
  rw [h]
  have ht : ((t.toNat : Nat) : Int) = t := by omega
  rw [ht] at this
  exact this.symm
theorem valOf_val (b : Bnd) {t : Int} (ht : isTerm t = true) : valOf b t = val (fnOf b) t := by
 have hr := term_rng ht
 unfold valOf val fnOf
 cases hv : isVar t with
 | true => rfl
 | false =>
  have h0 : ¬ 0 ≤ t := fun h => by rw [(var_iff ht).2 h] at hv; cases hv
  simp only [Bool.false_eq_true, if_false]
  unfold constOf
  rw [if_pos (by simp [inR]; omega)]
theorem head_bound {s : List Int} {q : QueryE} {db : List FactC} (h : isQuery s q = true) {b : Bnd} (hb : b ∈ visitL db q.2 bNone) : ∀ t ∈ q.1, isVar t = true → (b t.toNat).isSome = true := by
 intro t ht hv
 obtain ⟨t1, t2, t3⟩ := isQuery_terms h
 simp only [isQuery, fineQ, Bool.and_eq_true] at h
 have hs := List.all_eq_true.1 h.2.2.2.2 t ht
 have hoc : occurs q t = true := by simpa [safeV, hv] using hs
 obtain ⟨a, ha, hx⟩ := List.any_eq_true.1 hoc
 obtain ⟨u, hu, he⟩ := List.any_eq_true.1 hx
 have hut : u = t := by
  have := he
  simp [eqV] at this
  first | exact this.symm | exact this
 subst hut
 exact (visitL_ok db q.2 bNone b hb).2 a ha u hu ((var_iff (List.all_eq_true.1 t1 u ht)).1 hv)
theorem under_none (v : Int → Int) : Under bNone v := fun k u h => by cases h
theorem ans_iff {s : List Int} {q : QueryE} {db : List FactC} (hq : isQuery s q = true) (hd : isDb s db = true) (x : List Int) : x ∈ answersS s q db ↔ ∃ v : Int → Int, Sat v db q.2 ∧ x = q.1.map (val v) := by
 obtain ⟨t1, t2, t3⟩ := isQuery_terms hq
 unfold answersS
 rw [hq, hd, Bool.and_self, if_pos rfl, (sortL_ok _).2 x]
 simp only [List.mem_map]
 constructor
 ·rintro ⟨w, hw, rfl⟩
  obtain ⟨b, hb, rfl⟩ := (rawP_ok q db).1 w hw
  refine ⟨fnOf b, (visitL_sound db q.2 bNone b t2 hb).2.1, ?_⟩
  rw [safe_bound hq hb]
  exact List.map_congr_left fun t ht => valOf_val b (List.all_eq_true.1 t1 t ht)
 ·rintro ⟨v, hv, rfl⟩
  obtain ⟨b, hb, hu⟩ := visitL_complete db q.2 bNone t2 (under_none v) hv
  refine ⟨sV b, (sortL_ok _).2 _ |>.2 (List.mem_map.2 ⟨b, hb, rfl⟩), ?_⟩
  rw [safe_bound hq hb]
  refine List.map_congr_left fun t ht => ?_
  rw [valOf_val b (List.all_eq_true.1 t1 t ht)]
  exact under_val hu (head_bound hq hb t ht)
theorem copyQuery_spec (q : List Int × List AtomC) (h : cQuery q ≤ 1099511627776) : Spec Tryz.prog 229 [vQuery q] (wQuery q) := by
 unfold cQuery at h
 refine Spec_of mx Γ_ok Tryz.func229 rfl ?_
 conv => whnf
 refine ⟨[0,1,3,4,2,5,6,7], by kernel_rfl, ?_⟩
 conv => whnf
 refine ⟨_, copyInts_spec q.1 (by omega), .inl rfl, .inr ?_⟩
 conv => whnf
 refine ⟨_, copyAtoms_spec q.2 (by omega), .inl rfl, .inr ?_⟩
 conv => whnf
 refine ⟨by rw [rows_len ciL_len], by rw [rows_len tAtom_len], rfl⟩
def unm : Int := -1000
def sendP (m : List Int) (t u : Int) : List Int × Bool :=
 if isVar t then (let m' := if m.getD t.toNat 0 == unm then m.set t.toNat u else m; (m', m'.getD t.toNat 0 == u)) else (m, t == u)
def uniK (m xs ys : List Int) : Nat → List Int × Bool
 | 0 => (m, true)
 | k + 1 => let r := uniK m xs ys k; if r.2 then sendP r.1 (xs.getD k 0) (ys.getD k 0) else r
theorem sendP_len (m : List Int) (t u : Int) : (sendP m t u).1.length = m.length := by
 unfold sendP
 split
 ·dsimp only
  split <;> simp
 ·rfl
theorem uniK_len (m xs ys : List Int) : ∀ k, (uniK m xs ys k).1.length = m.length
 | 0 => rfl
 | k + 1 => by
  simp only [uniK]
  split
  ·rw [sendP_len, uniK_len m xs ys k]
  ·exact uniK_len m xs ys k
theorem uniK_false {m xs ys : List Int} {k : Nat} (h : (uniK m xs ys k).2 = false) : ∀ j, k ≤ j → uniK m xs ys j = uniK m xs ys k
 | j, hj => by
  induction j with
  | zero => rw [show k = 0 from by omega]
  | succ j ih =>
   rcases Nat.lt_or_ge j k with h1 | h1
   ·rw [show j + 1 = k from by omega]
   ·simp only [uniK]
    rw [ih h1, if_neg (by rw [h]; simp)]
theorem uniK_succ {m xs ys : List Int} {k : Nat} (h : (uniK m xs ys k).2 = true) : uniK m xs ys (k + 1) = sendP (uniK m xs ys k).1 (xs.getD k 0) (ys.getD k 0) := by
 simp only [uniK]
 rw [if_pos h]
theorem getD_int {l : List Int} {k : Nat} (hk : k < l.length) : l.getD k 0 = l[k] := by simp [List.getD_eq_getElem?_getD, hk]
theorem isVar_nat {t : Int} (h : isVar t = true) : ∃ q : Nat, t = q ∧ q < 20 := by
 have : 0 ≤ t ∧ t ≤ 19 := by simpa [isVar, inR] using h
 exact ⟨t.toNat, by omega, by omega⟩
theorem set_ciL {m : List Int} {q : Nat} (hq : q < m.length) (u : Int) : setC (rows ciL m) (0 + q * 1) [ci u] = rows ciL (m.set q u) :=
 (congrArg (fun o => setC (rows ciL m) o (ciL u)) (Nat.zero_add _)).trans (setC_rows ciL_len (by omega) hq _)
set_option maxHeartbeats 1000000 in
theorem send_spec (m : List Int) (t u : Int) (hm : m.length = 20) : SpecR Tryz.prog 224 [intsT m, ci t, ci u] (cb (sendP m t u).2) [intsT (sendP m t u).1, ci t, ci u] := by
 refine SpecL_of mx Γ_ok 3 Tryz.func224 rfl rfl (by omega) ?_
 conv => whnf
 refine ⟨_, implIsVar_spec t, .inl rfl, .inl ?_⟩
 conv => whnf
 unfold sendP
 generalize hv : isVar t = b1
 cases b1 with
 | false =>
  conv => whnf
  refine ⟨rfl, by rw [rows_len ciL_len], ?_⟩
  rfl
 | true =>
 obtain ⟨q, rfl, hq⟩ := isVar_nat hv
 have hql : q < m.length := by omega
 conv => whnf
 refine ⟨by omega, ?_⟩
 conv => whnf
 refine ⟨_, takeN_own (k := q) (d := 0) (xs := m) ciL_len (Nat.zero_add _) hql (Nat.le_refl _) rfl, ?_⟩
 conv => whnf
 rw [if_pos rfl]
 simp only [Int.toNat_natCast, getD_int hql]
 rw [show unm = -1000 from rfl]
 generalize hb2 : (m[q] == (-1000 : Int)) = b2
 cases b2 with
 | true =>
  conv => whnf
  refine ⟨by omega, ?_⟩
  conv => whnf
  refine ⟨_, takeN_own (k := q) (d := 0) (xs := m) ciL_len (Nat.zero_add _) hql (Nat.le_refl _) rfl, _, set_ciL hql u, ?_⟩
  conv => whnf
  refine ⟨by omega, ?_⟩
  conv => whnf
  have hql2 : q < (m.set q u).length := by simpa using hql
  refine ⟨_, takeN_own (k := q) (d := 0) (xs := m.set q u) ciL_len (Nat.zero_add _) hql2 (Nat.le_refl _) rfl, ?_⟩
  conv => whnf
  simp only [if_true, getD_int hql2]
  refine ⟨rfl, by rw [rows_len ciL_len, List.length_set], ?_⟩
  unfold intsT
  rw [List.length_set]
  rfl
 | false =>
  conv => whnf
  refine ⟨by omega, ?_⟩
  conv => whnf
  refine ⟨_, takeN_own (k := q) (d := 0) (xs := m) ciL_len (Nat.zero_add _) hql (Nat.le_refl _) rfl, ?_⟩
  conv => whnf
  simp only [if_neg (show ¬ (false = true) from by simp), getD_int hql]
  refine ⟨rfl, by rw [rows_len ciL_len], ?_⟩
  rfl
def fineT (l : List Int) : Prop := ∀ t ∈ l, t < 20
set_option maxHeartbeats 2000000 in
theorem l7Unify_spec (xs ys m : List Int) (hm : m.length = 20) (hl : xs.length = ys.length) (hs : xs.length ≤ 1048576) (hf : fineT xs) : Spec Tryz.prog 226 [ints xs, ints ys, ints m] (.tup [intsT (uniK m xs ys xs.length).1, cb (uniK m xs ys xs.length).2]) := by
 refine Spec_of mx Γ_ok Tryz.func226 rfl ?_
 conv => whnf
 refine ⟨rows_len ciL_len _, solid_ci _, ?_⟩
 conv => whnf
 refine ⟨by omega, rfl, _, app_ci [] m, ?_⟩
 conv => whnf
 refine ⟨[(0,0),(1,0),(6,0),(7,0),(8,0),(9,0)], fun j s => ∃ (k n : Nat) (e : Int) (M : List Int) (r : List V), e = k ∧ j + k = xs.length ∧ n = 20 ∧ uniK m xs ys k = (M, true) ∧ r = rows ciL M ∧
  s = ⟨59, [(0, ints xs), (1, ints ys), (6, cnil), (7, cb false), (8, .own 0 1 0 n n none), (9, ci e)], [some ⟨false, r⟩]⟩, xs.length, ⟨0, 0 + m.length, 0, m, _, rfl, rfl, by omega, rfl, by rw [List.nil_append], rfl⟩, ?_⟩
 rintro j s ⟨k, n, _, M, _, rfl, hj, rfl, hu, rfl, rfl⟩
 have hM : M.length = 20 := by have := uniK_len m xs ys k; rw [hu] at this; simpa [hm] using this
 conv => whnf
 split <;> rename_i h3
 all_goals simp only [decide_eq_true_eq, decide_eq_false_iff_not] at h3
 ·conv => whnf
  have hk : k < xs.length := by omega
  have hkb : k < ys.length := by omega
  have hlt := hf xs[k] (List.getElem_mem hk)
  have hnx := uniK_succ (m := m) (xs := xs) (ys := ys) (k := k) (by rw [hu])
  rw [hu, getD_int hk, getD_int hkb] at hnx
  simp only at hnx
  refine ⟨by omega, rows_len ciL_len _, ?_⟩
  conv => whnf
  refine ⟨_, takeN_rp (k := k) ciL_len hk, ?_⟩
  conv => whnf
  split <;> rename_i h4
  all_goals simp only [decide_eq_true_eq, decide_eq_false_iff_not] at h4
  ·
   conv => whnf
   have hnv : isVar xs[k] = false := by
    cases hq : isVar xs[k] with
    | false => rfl
    | true =>
     obtain ⟨q, h5, _⟩ := isVar_nat hq
     omega
   rw [sendP, hnv, if_neg (by simp)] at hnx
   refine ⟨by omega, rows_len ciL_len _, ?_⟩
   conv => whnf
   refine ⟨_, takeN_rp (k := k) ciL_len hkb, ?_⟩
   conv => whnf
   generalize hb : (xs[k] != ys[k]) = b
   have hb' : (xs[k] == ys[k]) = !b := by rw [← hb]; simp [bne]
   rw [hb'] at hnx
   cases b with
   | true =>
    conv => whnf
    have := uniK_false (m := m) (xs := xs) (ys := ys) (k := k + 1) (by rw [hnx]; rfl) xs.length (by omega)
    rw [this, hnx]
    refine ⟨by rw [rows_len ciL_len, hM], ?_⟩
    unfold intsT
    rw [hM]
    rfl
   | false =>
    conv => whnf
    exact ⟨j - 1, by omega, k + 1, 20, _, M, _, wrap_id (by omega) (by omega), by omega, rfl, by rw [hnx]; rfl, rfl, rfl⟩
  ·
   have hv : isVar xs[k] = true := by
    simp only [isVar, inR, Bool.and_eq_true, decide_eq_true_eq]
    omega
   obtain ⟨q, hqe, hq⟩ := isVar_nat hv
   have hql : q < M.length := by omega
   rw [hqe] at hnx ⊢
   rw [hqe] at hv
   rw [sendP, if_pos hv] at hnx
   simp only [Int.toNat_natCast, getD_int hql] at hnx
   conv => whnf
   refine ⟨by omega, ?_⟩
   conv => whnf
   refine ⟨_, takeN_own (k := q) (d := 0) (xs := M) ciL_len (Nat.zero_add _) hql (Nat.le_refl _) rfl, ?_⟩
   conv => whnf
   rw [show unm = -1000 from rfl] at hnx
   generalize hb2 : (M[q] == (-1000 : Int)) = b2
   rw [hb2] at hnx
   cases b2 with
   | true =>
    conv => whnf
    refine ⟨by omega, rows_len ciL_len _, ?_⟩
    conv => whnf
    refine ⟨_, takeN_rp (k := k) ciL_len hkb, ?_⟩
    conv => whnf
    refine ⟨by omega, ?_⟩
    conv => whnf
    refine ⟨_, takeN_own (k := q) (d := 0) (xs := M) ciL_len (Nat.zero_add _) hql (Nat.le_refl _) rfl, _, set_ciL hql ys[k], ?_⟩
    conv => whnf
    have hql2 : q < (M.set q ys[k]).length := by simpa using hql
    simp only [if_true, getD_int hql2, List.getElem_set_self, beq_self_eq_true] at hnx
    exact ⟨j - 1, by omega, k + 1, 20, _, _, _, wrap_id (by omega) (by omega), by omega, rfl, hnx, rfl, rfl⟩
   | false =>
    conv => whnf
    refine ⟨List.range 10, by kernel_rfl, ?_⟩
    conv => whnf
    refine ⟨by omega, ?_⟩
    conv => whnf
    refine ⟨_, takeN_own (k := q) (d := 0) (xs := M) ciL_len (Nat.zero_add _) hql (Nat.le_refl _) rfl, ?_⟩
    conv => whnf
    refine ⟨by omega, rows_len ciL_len _, ?_⟩
    conv => whnf
    refine ⟨_, takeN_rp (k := k) ciL_len hkb, ?_⟩
    conv => whnf
    simp only [if_neg (show ¬ (false = true) from by simp), getD_int hql] at hnx
    generalize hb : (M[q] != ys[k]) = b
    have hb' : (M[q] == ys[k]) = !b := by rw [← hb]; simp [bne]
    rw [hb'] at hnx
    cases b with
    | true =>
     conv => whnf
     have := uniK_false (m := m) (xs := xs) (ys := ys) (k := k + 1) (by rw [hnx]; rfl) xs.length (by omega)
     rw [this, hnx]
     refine ⟨by rw [rows_len ciL_len, hM], ?_⟩
     unfold intsT
     rw [hM]
     rfl
    | false =>
     conv => whnf
     exact ⟨j - 1, by omega, k + 1, 20, _, M, _, wrap_id (by omega) (by omega), by omega, rfl, by rw [hnx]; rfl, rfl, rfl⟩
 ·conv => whnf
  have hkk : k = xs.length := by omega
  subst hkk
  rw [hu]
  refine ⟨by rw [rows_len ciL_len, hM], ?_⟩
  unfold intsT
  rw [hM]
  rfl
def stepM (a b : AtomC) (m : List Int) : Option (List Int) :=
 if a.1 != b.1 then none else if (a.2.length : Int) != b.2.length then none else if (uniK m a.2 b.2 a.2.length).2 then some (uniK m a.2 b.2 a.2.length).1 else none
def srch (ts : List AtomC) : List AtomC → List Int → Option (List Int)
 | [], m => some m
 | a :: fs, m => ts.findSome? fun b => (stepM a b m).bind fun x => srch ts fs x
theorem srch_drop {ts fs : List AtomC} {i : Nat} (hi : i < fs.length) (m : List Int) : srch ts (fs.drop i) m = ts.findSome? fun b => (stepM fs[i] b m).bind fun x => srch ts (fs.drop (i + 1)) x := by
 rw [List.drop_eq_getElem_cons hi]
 rfl
theorem first_take {α β : Type} {f : α → Option β} {ts : List α} {k : Nat} (hk : k < ts.length) (h : (ts.take k).findSome? f = none) : (ts.take (k + 1)).findSome? f = f ts[k] := by
 rw [List.take_succ_eq_append_getElem hk, List.findSome?_append, h]
 simp [List.findSome?]
 cases f ts[k] <;> rfl
theorem first_some {α β : Type} {f : α → Option β} {ts : List α} {k : Nat} {y : β} (h : (ts.take k).findSome? f = some y) : ts.findSome? f = some y := by
 have : ts = ts.take k ++ ts.drop k := (List.take_append_drop k ts).symm
 rw [this, List.findSome?_append, h]
 rfl
def fineA (fs : List AtomC) : Prop := ∀ a ∈ fs, fineT a.2
def wS (m : List Int) : Option (List Int) → V
 | some y => .tup [ints y, cb true]
 | none => .tup [ints m, cb false]
theorem ints_ro (xs : List Int) : roV (ints xs) = ints xs := by
 show V.ro _ (roVs (rows ciL xs)) = _
 rw [roVs_ci]
 rfl
theorem srch_len {ts : List AtomC} : ∀ {fs : List AtomC} {m y : List Int}, srch ts fs m = some y → y.length = m.length
 | [], m, y, h => by simp only [srch, Option.some.injEq] at h; rw [h]
 | a :: fs, m, y, h => by
  simp only [srch] at h
  obtain ⟨b, _, h⟩ := List.exists_of_findSome?_eq_some h
  cases hs : stepM a b m with
  | none => rw [hs] at h; cases h
  | some x =>
   rw [hs] at h
   rw [srch_len (m := x) h]
   unfold stepM at hs
   split at hs
   ·cases hs
   ·split at hs
    ·cases hs
    ·split at hs
     ·cases hs
      exact uniK_len _ _ _ _
     ·cases hs
set_option maxHeartbeats 8000000 in
theorem l7Search_spec (f t : QueryT) (hf : cQuery f ≤ 1048576) (ht : cQuery t ≤ 1048576) (hfa : fineA f.2) : ∀ (n i : Nat) (m : List Int), i + n = f.2.length → m.length = 20 → Spec Tryz.prog 228 [vQuery f, vQuery t, ci i, ints m] (wS m (srch t.2 (f.2.drop i) m)) := by
 have hf' := hf
 have ht' := ht
 unfold cQuery cAtomS at hf' ht'
 intro n
 induction n with
 | zero =>
  intro i m hi hm
  obtain rfl : i = f.2.length := by omega
  rw [List.drop_of_length_le (Nat.le_refl _)]
  refine Spec_of mx Γ_ok Tryz.func228 rfl ?_
  conv => whnf
  rw [beq_self_eq_true]
  conv => whnf
  rfl
 | succ n ih =>
  intro i m hi hm
  have hil : i < f.2.length := by omega
  have hb1 := sumB_one (f := cAtom) hil
  have hcb1 : cAtom f.2[i] = f.2[i].2.length := rfl
  have hfi : fineT f.2[i].2 := hfa _ (List.getElem_mem hil)
  rw [srch_drop hil]
  generalize ha : f.2[i] = a at hb1 hcb1 hfi
  refine Spec_of mx Γ_ok Tryz.func228 rfl ?_
  conv => whnf
  rw [show ((i : Int) == (f.2.length : Int)) = false from by simp; omega]
  conv => whnf
  refine ⟨by omega, rows_len rAtom_len _, ?_⟩
  conv => whnf
  refine ⟨_, takeN_rp (k := i) rAtom_len hil, ?_⟩
  rw [ha]
  conv => whnf
  refine ⟨[(2,0),(3,0),(4,0),(5,0),(8,0),(9,0),(10,0),(11,0)], fun j s => ∃ (k : Nat) (e : Int), e = k ∧ j + k = t.2.length ∧ ((t.2.take k).findSome? fun b => (stepM a b m).bind fun x => srch t.2 (f.2.drop (i + 1)) x) = none ∧
   s = ⟨77, [(2, ci i), (3, ints m), (4, .ptr 0 0), (5, .ptr 1 0), (8, cnil), (9, cb false), (10, .ptr 2 0), (11, ci e)], [some ⟨true, rQuery f⟩, some ⟨true, rQuery t⟩, some ⟨true, rAtom a⟩]⟩, t.2.length, ⟨0, 0, rfl, rfl, rfl, rfl⟩, ?_⟩
  rintro j s ⟨k, _, rfl, hj, hnone, rfl⟩
  conv => whnf
  split <;> rename_i h3
  all_goals simp only [decide_eq_true_eq, decide_eq_false_iff_not] at h3
  ·conv => whnf
   have hk : k < t.2.length := by omega
   have hb2 := sumB_one (f := cAtom) hk
   have hcb2 : cAtom t.2[k] = t.2[k].2.length := rfl
   have hnx := first_take hk hnone
   generalize hbb : t.2[k] = b at hb2 hcb2 hnx
   refine ⟨by omega, rows_len rAtom_len _, ?_⟩
   conv => whnf
   refine ⟨_, takeN_rp (k := k) rAtom_len hk, ?_⟩
   rw [hbb]
   conv => whnf
   have hskip : stepM a b m = none → ∃ m', m' < j ∧ ∃ (k' : Nat) (e : Int), e = k' ∧ m' + k' = t.2.length ∧ ((t.2.take k').findSome? fun b => (stepM a b m).bind fun x => srch t.2 (f.2.drop (i + 1)) x) = none ∧ (⟨77, [(2, ci i), (3, ints m), (4, .ptr 0 0), (5, .ptr 1 0), (8, cnil), (9, cb false), (10, .ptr 2 0), (11, ci (IntKind.i64.wrap ((k : Int) + 1)))], [some ⟨true, rQuery f⟩, some ⟨true, rQuery t⟩, some ⟨true, rAtom a⟩]⟩ : St) = ⟨77, [(2, ci i), (3, ints m), (4, .ptr 0 0), (5, .ptr 1 0), (8, cnil), (9, cb false), (10, .ptr 2 0), (11, ci e)], [some ⟨true, rQuery f⟩, some ⟨true, rQuery t⟩, some ⟨true, rAtom a⟩]⟩ := by
    intro hs
    rw [hs] at hnx
    exact ⟨j - 1, by omega, k + 1, _, wrap_id (by omega) (by omega), by omega, hnx, rfl⟩
   generalize hb3 : (a.1 != b.1) = b3
   cases b3 with
   | true =>
    conv => whnf
    exact hskip (by rw [stepM, hb3]; rfl)
   | false =>
   conv => whnf
   generalize hb4 : ((a.2.length : Int) != (b.2.length : Int)) = b4
   cases b4 with
   | true =>
    conv => whnf
    exact hskip (by rw [stepM, hb3, hb4]; rfl)
   | false =>
   conv => whnf
   have hlen : a.2.length = b.2.length := by
    have h9 : (a.2.length : Int) = b.2.length := (by simpa using hb4)
    omega
   refine ⟨_, l7Unify_spec a.2 b.2 m hm hlen (by omega) hfi, .inl rfl, .inl ?_⟩
   generalize hu : uniK m a.2 b.2 a.2.length = r
   have hul : r.1.length = 20 := by rw [← hu, uniK_len, hm]
   obtain ⟨x, ok⟩ := r
   have hst : stepM a b m = if ok then some x else none := by rw [stepM, hb3, hb4, hu]; rfl
   simp only [roV, roVs, intsT_ro, ci_ro]
   cases ok with
   | false =>
    conv => whnf
    exact hskip (by rw [hst]; rfl)
   | true =>
   conv => whnf
   rw [show IntKind.i64.wrap ((i : Int) + 1) = ((i + 1 : Nat) : Int) from wrap_id (by omega) (by omega)]
   refine ⟨_, ih (i + 1) x (by omega) hul, .inl rfl, .inl ?_⟩
   rw [hst, if_pos rfl] at hnx
   simp only [Option.bind_some] at hnx
   generalize srch t.2 (f.2.drop (i + 1)) x = o at hnx
   cases o with
   | some y =>
    simp only [wS, roV, roVs, ints_ro, ci_ro]
    conv => whnf
    rw [first_some hnx]
    rfl
   | none =>
    simp only [wS, roV, roVs, ints_ro, ci_ro]
    conv => whnf
    exact ⟨j - 1, by omega, k + 1, _, wrap_id (by omega) (by omega), by omega, hnx, rfl⟩
  ·conv => whnf
   have hkk : k = t.2.length := by omega
   rw [hkk, List.take_length] at hnone
   rw [hnone]
   rfl
end Go.Proofs.YtcjdfeafcmfgpaaGreatD
