/- Contracts of functions and plain laws that a proof of this seat rests on; no condition. -/
import Derived.Test.YtcjdfeafcmfgpaaGreatQ15
import Derived.Test.YtcjdfeafcmfgpaaGreatQ19
import Derived.Test.YtcjdfeafcmfgpaaGreatQ28
set_option linter.unusedVariables false
set_option linter.unusedSimpArgs false
set_option maxRecDepth 100000
namespace Go.Proofs.YtcjdfeafcmfgpaaGreatD
open Go Go.Proofs
def val (v : Int → Int) (t : Int) : Int := if isVar t then v t else -1 - t
def valA (v : Int → Int) (a : FactC) : FactC := (a.1, a.2.map (val v))
def Sat (v : Int → Int) (db body : List FactC) : Prop := ∀ a ∈ body, valA v a ∈ db
def Under (b : Bnd) (v : Int → Int) : Prop := ∀ (k : Nat) (u : Int), b k = some u → v (k : Int) = u
def fnOf (b : Bnd) (t : Int) : Int := ba b t.toNat
def ExtB (b b2 : Bnd) : Prop := ∀ (k : Nat) (u : Int), b k = some u → b2 k = some u
theorem term_rng {t : Int} (h : isTerm t = true) : -80 ≤ t ∧ t ≤ 19 := by simpa [isTerm, inR] using h
theorem var_iff {t : Int} (h : isTerm t = true) : isVar t = true ↔ 0 ≤ t := by
  have := term_rng h
  simp only [isVar, inR, Bool.and_eq_true, decide_eq_true_eq]
  omega
theorem val_neg {v : Int → Int} {t : Int} (h : t < 0) : val v t = -1 - t := by
  unfold val
  rw [if_neg (by simp [isVar, inR]; omega)]
theorem val_pos {v : Int → Int} {t : Int} (ht : isTerm t = true) (h : ¬ t < 0) : val v t = v t := by
  unfold val
  rw [if_pos ((var_iff ht).2 (by omega))]
theorem bindGo_ext : ∀ (ts vs : List Int) (b b2 : Bnd), bindGo ts vs b = (b2, true) → ExtB b b2
  | [], vs, b, b2, h => by
    have : b = b2 := by cases vs <;> simpa [bindGo] using h
    subst this
    exact fun _ _ h => h
  | t :: ts, [], b, b2, h => by
    have : b = b2 := by simpa [bindGo] using h
    subst this
    exact fun _ _ h => h
  | t :: ts, x :: vs, b, b2, h => by
    simp only [bindGo] at h
    split at h
    · split at h
      · exact bindGo_ext ts vs b b2 h
      · cases h
    · split at h
      · rename_i hb
        have ih := bindGo_ext ts vs _ b2 h
        intro k u hk
        refine ih k u ?_
        simp only [bset]
        split
        · rename_i he; subst he; rw [hb] at hk; cases hk
        · exact hk
      · split at h
        · exact bindGo_ext ts vs b b2 h
        · cases h
theorem bindGo_sound : ∀ (ts vs : List Int) (b b2 : Bnd), ts.length = vs.length → ts.all isTerm = true → bindGo ts vs b = (b2, true) → ts.map (val (fnOf b2)) = vs ∧ ∀ t ∈ ts, 0 ≤ t → (b2 t.toNat).isSome = true
  | [], vs, b, b2, hl, _, h => by
    have : vs = [] := List.length_eq_zero_iff.1 (by simpa using hl.symm)
    subst this
    exact ⟨rfl, fun t ht => by cases ht⟩
  | t :: ts, [], b, b2, hl, _, h => by simp at hl
  | t :: ts, x :: vs, b, b2, hl, ha, h => by
    have hl' : ts.length = vs.length := by simpa using hl
    simp only [List.all_cons, Bool.and_eq_true] at ha
    simp only [bindGo] at h
    split at h
    · rename_i hneg
      split at h
      · rename_i he
        obtain ⟨i1, i2⟩ := bindGo_sound ts vs b b2 hl' ha.2 h
        refine ⟨by rw [List.map_cons, i1, val_neg hneg, he], fun u hu h0 => ?_⟩
        rcases List.mem_cons.1 hu with rfl | hu
        · omega
        · exact i2 u hu h0
      · cases h
    · rename_i hneg
      have key : ∀ b1 : Bnd, b1 t.toNat = some x → bindGo ts vs b1 = (b2, true) → (t :: ts).map (val (fnOf b2)) = x :: vs ∧ ∀ u ∈ t :: ts, 0 ≤ u → (b2 u.toNat).isSome = true := by
        intro b1 hb1 hb
        obtain ⟨i1, i2⟩ := bindGo_sound ts vs b1 b2 hl' ha.2 hb
        have h2 := bindGo_ext ts vs b1 b2 hb _ _ hb1
        refine ⟨?_, fun u hu h0 => ?_⟩
        · rw [List.map_cons, i1, val_pos ha.1 hneg]
          unfold fnOf ba
          rw [h2]
          rfl
        · rcases List.mem_cons.1 hu with rfl | hu
          · rw [h2]; rfl
          · exact i2 u hu h0
      split at h
      · rename_i hb
        exact key _ (by simp [bset]) h
      · rename_i u hb
        split at h
        · rename_i he
          subst he
          exact key b hb h
        · cases h
theorem bindGo_complete {v : Int → Int} : ∀ (ts vs : List Int) (b : Bnd), Under b v → ts.all isTerm = true → ts.map (val v) = vs → (bindGo ts vs b).2 = true ∧ Under (bindGo ts vs b).1 v
  | [], vs, b, hu, _, h => by
    subst h
    exact ⟨rfl, hu⟩
  | t :: ts, vs, b, hu, ha, h => by
    subst h
    simp only [List.all_cons, Bool.and_eq_true] at ha
    simp only [List.map_cons, bindGo]
    split
    · rename_i hneg
      rw [if_pos (val_neg hneg).symm]
      exact bindGo_complete ts _ b hu ha.2 rfl
    · rename_i hneg
      have hr := term_rng ha.1
      have ht : ((t.toNat : Nat) : Int) = t := by omega
      rw [val_pos ha.1 hneg]
      cases hb : b t.toNat with
      | none =>
        refine bindGo_complete ts _ _ (fun k u hk => ?_) ha.2 rfl
        simp only [bset] at hk
        split at hk
        · rename_i he
          subst he
          cases hk
          rw [ht]
        · exact hu k u hk
      | some u =>
        have := hu _ _ hb
        rw [ht] at this
        simp only
        rw [if_pos this.symm]
        exact bindGo_complete ts _ b hu ha.2 rfl
theorem val_ext {b b2 : Bnd} (h : ExtB b b2) {t : Int} (hb : 0 ≤ t → (b t.toNat).isSome = true) : val (fnOf b2) t = val (fnOf b) t := by
  unfold val
  cases hv : isVar t with
  | false => rfl
  | true =>
    have h0 : 0 ≤ t := by
      simp only [isVar, inR, Bool.and_eq_true, decide_eq_true_eq] at hv
      exact hv.1
    obtain ⟨u, hu⟩ := Option.isSome_iff_exists.1 (hb h0)
    simp only [if_true]
    unfold fnOf ba
    rw [hu, h _ _ hu]
theorem visitL_sound (db : List FactC) : ∀ (body : List FactC) (b b2 : Bnd), (∀ a ∈ body, a.2.all isTerm = true) → b2 ∈ visitL db body b → ExtB b b2 ∧ Sat (fnOf b2) db body ∧ ∀ a ∈ body, ∀ t ∈ a.2, 0 ≤ t → (b2 t.toNat).isSome = true
  | [], b, b2, _, h => by
    have : b2 = b := by simpa [visitL] using h
    subst this
    exact ⟨fun _ _ h => h, (fun a ha => by cases ha), (fun a ha => by cases ha)⟩
  | a :: r, b, b2, ht, h => by
    simp only [visitL, List.mem_flatMap] at h
    obtain ⟨f, hf, h⟩ := h
    split at h
    · rename_i hm
      obtain ⟨i1, i2, i3⟩ := visitL_sound db r _ b2 (fun c hc => ht c (by simp [hc])) h
      unfold mch at hm h i1
      by_cases hc : a.1 = f.1 ∧ a.2.length = f.2.length
      · rw [if_pos hc] at hm i1
        have hb : bindGo a.2 f.2 b = ((bindGo a.2 f.2 b).1, true) := Prod.ext rfl hm
        have e1 := bindGo_ext _ _ _ _ hb
        obtain ⟨s1, s2⟩ := bindGo_sound _ _ _ _ hc.2 (ht a (by simp)) hb
        refine ⟨fun k u hk => i1 k u (e1 k u hk), fun c hcm => ?_, fun c hcm t hct h0 => ?_⟩
        · rcases List.mem_cons.1 hcm with rfl | hcm
          · have : valA (fnOf b2) c = f := by
              refine Prod.ext hc.1 ?_
              show c.2.map (val (fnOf b2)) = f.2
              rw [← s1]
              exact List.map_congr_left fun t ht' => val_ext i1 (s2 t ht')
            rw [this]
            exact hf
          · exact i2 c hcm
        · rcases List.mem_cons.1 hcm with rfl | hcm
          · obtain ⟨u, hu⟩ := Option.isSome_iff_exists.1 (s2 t hct h0)
            rw [i1 _ _ hu]
            rfl
          · exact i3 c hcm t hct h0
      · rw [if_neg hc] at hm
        cases hm
    · cases h
theorem visitL_complete {v : Int → Int} (db : List FactC) : ∀ (body : List FactC) (b : Bnd), (∀ a ∈ body, a.2.all isTerm = true) → Under b v → Sat v db body → ∃ b2 ∈ visitL db body b, Under b2 v
  | [], b, _, hu, _ => ⟨b, by simp [visitL], hu⟩
  | a :: r, b, ht, hu, hs => by
    obtain ⟨c1, c2⟩ := bindGo_complete a.2 (a.2.map (val v)) b hu (ht a (by simp)) rfl
    have hm : mch b a (valA v a) = bindGo a.2 (a.2.map (val v)) b := by
      unfold mch valA
      rw [if_pos ⟨rfl, by simp⟩]
    obtain ⟨b2, h1, h2⟩ := visitL_complete db r (bindGo a.2 (a.2.map (val v)) b).1 (fun c hc => ht c (by simp [hc])) c2 (fun c hc => hs c (by simp [hc]))
    refine ⟨b2, ?_, h2⟩
    simp only [visitL, List.mem_flatMap]
    refine ⟨valA v a, hs a (by simp), ?_⟩
    rw [hm, if_pos c1]
    exact h1
theorem under_val {b : Bnd} {v : Int → Int} (hu : Under b v) {t : Int} (hb : isVar t = true → (b t.toNat).isSome = true) : val (fnOf b) t = val v t := by
  unfold val
  cases hv : isVar t with
  | false => rfl
  | true =>
    obtain ⟨u, h⟩ := Option.isSome_iff_exists.1 (hb hv)
    have h0 : 0 ≤ t := by
      simp only [isVar, inR, Bool.and_eq_true, decide_eq_true_eq] at hv
      exact hv.1
    have := hu _ _ h
    simp only [if_true]
    unfold fnOf ba
    rw [h]
    have ht : ((t.toNat : Nat) : Int) = t := by omega
    rw [ht] at this
    exact this.symm
end Go.Proofs.YtcjdfeafcmfgpaaGreatD
set_option linter.unusedVariables false
set_option linter.unusedSimpArgs false
set_option maxRecDepth 100000
namespace Go.Proofs.YtcjdfeafcmfgpaaGreatD
open Go Go.Proofs
theorem valOf_val (b : Bnd) {t : Int} (ht : isTerm t = true) : valOf b t = val (fnOf b) t := by
  have hr := term_rng ht
  unfold valOf val fnOf
  cases hv : isVar t with
  | true => rfl
  | false =>
    have h0 : ¬ 0 ≤ t := fun h => by rw [(var_iff ht).2 h] at hv; cases hv
    simp only [Bool.false_eq_true, if_false]
    unfold constOf
    rw [if_pos (by simp [inR]; omega)]
theorem head_bound {s : List Int} {q : QueryE} {db : List FactC} (h : isQuery s q = true) {b : Bnd} (hb : b ∈ visitL db q.2 bNone) : ∀ t ∈ q.1, isVar t = true → (b t.toNat).isSome = true := by
  intro t ht hv
  obtain ⟨t1, t2, t3⟩ := isQuery_terms h
  simp only [isQuery, fineQ, Bool.and_eq_true] at h
  have hs := List.all_eq_true.1 h.2.2.2.2 t ht
  have hoc : occurs q t = true := by simpa [safeV, hv] using hs
  obtain ⟨a, ha, hx⟩ := List.any_eq_true.1 hoc
  obtain ⟨u, hu, he⟩ := List.any_eq_true.1 hx
  have hut : u = t := by
    have := he
    simp [eqV] at this
    first | exact this.symm | exact this
  subst hut
  exact (visitL_ok db q.2 bNone b hb).2 a ha u hu ((var_iff (List.all_eq_true.1 t1 u ht)).1 hv)
theorem under_none (v : Int → Int) : Under bNone v := fun k u h => by cases h
theorem ans_iff {s : List Int} {q : QueryE} {db : List FactC} (hq : isQuery s q = true) (hd : isDb s db = true) (x : List Int) : x ∈ answersS s q db ↔ ∃ v : Int → Int, Sat v db q.2 ∧ x = q.1.map (val v) := by
  obtain ⟨t1, t2, t3⟩ := isQuery_terms hq
  unfold answersS
  rw [hq, hd, Bool.and_self, if_pos rfl, (sortL_ok _).2 x]
  simp only [List.mem_map]
  constructor
  · rintro ⟨w, hw, rfl⟩
    obtain ⟨b, hb, rfl⟩ := (rawP_ok q db).1 w hw
    refine ⟨fnOf b, (visitL_sound db q.2 bNone b t2 hb).2.1, ?_⟩
    rw [safe_bound hq hb]
    exact List.map_congr_left fun t ht => valOf_val b (List.all_eq_true.1 t1 t ht)
  · rintro ⟨v, hv, rfl⟩
    obtain ⟨b, hb, hu⟩ := visitL_complete db q.2 bNone t2 (under_none v) hv
    refine ⟨sV b, (sortL_ok _).2 _ |>.2 (List.mem_map.2 ⟨b, hb, rfl⟩), ?_⟩
    rw [safe_bound hq hb]
    refine List.map_congr_left fun t ht => ?_
    rw [valOf_val b (List.all_eq_true.1 t1 t ht)]
    exact under_val hu (head_bound hq hb t ht)
end Go.Proofs.YtcjdfeafcmfgpaaGreatD
set_option linter.unusedVariables false
set_option linter.unusedSimpArgs false
set_option maxRecDepth 100000
namespace Go.Proofs.YtcjdfeafcmfgpaaGreatD
open Go Go.Proofs
def app (h : Int → Int) (t : Int) : Int := if isVar t then h t else t
def appA (h : Int → Int) (a : AtomC) : AtomC := (a.1, a.2.map (app h))
def IsHom (h : Int → Int) (f t : QueryT) : Prop := f.1.map (app h) = t.1 ∧ ∀ a ∈ f.2, appA h a ∈ t.2
def mFun (m : List Int) (t : Int) : Int := m.getD t.toNat 0
def SubM (m : List Int) (h : Int → Int) : Prop := ∀ k : Nat, k < 20 → m.getD k 0 ≠ unm → m.getD k 0 = h k
def ExtM (m m' : List Int) : Prop := ∀ k : Nat, k < 20 → m.getD k 0 ≠ unm → m'.getD k 0 = m.getD k 0
theorem getD_setH {m : List Int} {q : Nat} (hq : q < m.length) (u : Int) (k : Nat) : (m.set q u).getD k 0 = if k = q then u else m.getD k 0 := by
  simp only [List.getD_eq_getElem?_getD, List.getElem?_set]
  by_cases h : q = k
  · subst h; simp [hq]
  · rw [if_neg h, if_neg (fun e => h e.symm)]
theorem sendP_sound {m : List Int} (hm : m.length = 20) {t u : Int} (h : (sendP m t u).2 = true) : ExtM m (sendP m t u).1 ∧ app (mFun (sendP m t u).1) t = u := by
  unfold sendP at h ⊢
  by_cases hv : isVar t = true
  · rw [if_pos hv] at h ⊢
    obtain ⟨q, rfl, hq⟩ := isVar_nat hv
    simp only [Int.toNat_natCast] at h ⊢
    by_cases hx : (m.getD q 0 == unm) = true
    · rw [if_pos hx] at h ⊢
      have hx' : m.getD q 0 = unm := by simpa using hx
      refine ⟨fun k hk hne => ?_, ?_⟩
      · rw [getD_setH (by omega)]
        by_cases hkq : k = q
        · subst hkq; exact absurd hx' hne
        · rw [if_neg hkq]
      · unfold app mFun
        rw [if_pos hv, Int.toNat_natCast]
        simpa using h
    · rw [if_neg hx] at h ⊢
      refine ⟨fun k hk hne => rfl, ?_⟩
      unfold app mFun
      rw [if_pos hv, Int.toNat_natCast]
      simpa using h
  · rw [if_neg hv] at h ⊢
    refine ⟨fun k hk hne => rfl, ?_⟩
    unfold app
    rw [if_neg hv]
    simpa using h
theorem sendP_complete {m : List Int} (hm : m.length = 20) {h : Int → Int} (hs : SubM m h) {t u : Int} (ht : app h t = u) : (sendP m t u).2 = true ∧ SubM (sendP m t u).1 h := by
  unfold sendP
  unfold app at ht
  by_cases hv : isVar t = true
  · rw [if_pos hv] at ht ⊢
    obtain ⟨q, rfl, hq⟩ := isVar_nat hv
    simp only [Int.toNat_natCast]
    by_cases hx : (m.getD q 0 == unm) = true
    · rw [if_pos hx]
      refine ⟨?_, fun k hk hne => ?_⟩
      · rw [getD_setH (by omega), if_pos rfl]; simp
      · rw [getD_setH (by omega)] at hne ⊢
        by_cases hkq : k = q
        · subst hkq; rw [if_pos rfl]; exact ht.symm
        · rw [if_neg hkq] at hne ⊢
          exact hs k hk hne
    · rw [if_neg hx]
      have := hs q hq (by simpa using hx)
      refine ⟨?_, hs⟩
      rw [this, ht]; simp
  · rw [if_neg hv] at ht ⊢
    exact ⟨by simp [ht], hs⟩
theorem app_ext {m m' : List Int} (he : ExtM m m') {t u : Int} (hu : u ≠ unm) (h : app (mFun m) t = u) : app (mFun m') t = u := by
  unfold app mFun at h ⊢
  by_cases hv : isVar t = true
  · rw [if_pos hv] at h ⊢
    obtain ⟨q, rfl, hq⟩ := isVar_nat hv
    rw [Int.toNat_natCast] at h ⊢
    rw [he q hq (by rw [h]; exact hu), h]
  · rw [if_neg hv] at h ⊢
    exact h
theorem ext_trans {a b c : List Int} (h1 : ExtM a b) (h2 : ExtM b c) : ExtM a c := fun k hk hne => by
  have := h1 k hk hne
  rw [h2 k hk (by rw [this]; exact hne), this]
theorem uniK_sound {m xs ys : List Int} (hm : m.length = 20) (hl : xs.length = ys.length) (hy : ∀ y ∈ ys, y ≠ unm) : ∀ k, k ≤ xs.length → (uniK m xs ys k).2 = true → ExtM m (uniK m xs ys k).1 ∧ ∀ j, j < k → app (mFun (uniK m xs ys k).1) (xs.getD j 0) = ys.getD j 0
  | 0, _, _ => ⟨fun k hk hne => rfl, fun j hj => absurd hj (Nat.not_lt_zero _)⟩
  | k + 1, hk, h => by
    have h0 : (uniK m xs ys k).2 = true := by
      cases hc : (uniK m xs ys k).2 with
      | true => rfl
      | false =>
        have := uniK_false hc (k + 1) (by omega)
        rw [this, hc] at h
        cases h
    obtain ⟨i1, i2⟩ := uniK_sound hm hl hy k (by omega) h0
    rw [uniK_succ h0] at h ⊢
    obtain ⟨s1, s2⟩ := sendP_sound (by rw [uniK_len, hm]) h
    refine ⟨ext_trans i1 s1, fun j hj => ?_⟩
    rcases Nat.lt_or_ge j k with h1 | h1
    · have hyj : ys.getD j 0 ≠ unm := by
        have hjl : j < ys.length := by omega
        rw [getD_int hjl]
        exact hy _ (List.getElem_mem hjl)
      exact app_ext s1 hyj (i2 j h1)
    · rw [show j = k from by omega]
      exact s2
theorem map_of_getD {xs ys : List Int} {f : Int → Int} (hl : xs.length = ys.length) (h : ∀ j, j < xs.length → f (xs.getD j 0) = ys.getD j 0) : xs.map f = ys := by
  apply List.ext_getElem
  · simp [hl]
  · intro i h1 h2
    rw [List.getElem_map]
    have h3 : i < xs.length := by simpa using h1
    have := h i h3
    rwa [getD_int h3, getD_int h2] at this
theorem uniK_complete {m xs ys : List Int} (hm : m.length = 20) {h : Int → Int} (hs : SubM m h) (he : xs.map (app h) = ys) : ∀ k, k ≤ xs.length → (uniK m xs ys k).2 = true ∧ SubM (uniK m xs ys k).1 h
  | 0, _ => ⟨rfl, hs⟩
  | k + 1, hk => by
    obtain ⟨i1, i2⟩ := uniK_complete hm hs he k (by omega)
    rw [uniK_succ i1]
    refine sendP_complete (by rw [uniK_len, hm]) i2 ?_
    have h1 : k < xs.length := by omega
    have h2 : k < ys.length := by rw [← he]; simpa using h1
    rw [getD_int h1, getD_int h2]
    subst he
    simp
def fineTo (ts : List AtomC) : Prop := ∀ b ∈ ts, ∀ y ∈ b.2, y ≠ unm
theorem stepM_sound {a b : AtomC} {m x : List Int} (hm : m.length = 20) (hb : ∀ y ∈ b.2, y ≠ unm) (h : stepM a b m = some x) : ExtM m x ∧ appA (mFun x) a = b ∧ x.length = 20 := by
  unfold stepM at h
  split at h
  · cases h
  · rename_i h1
    split at h
    · cases h
    · rename_i h2
      split at h
      · rename_i h3
        cases h
        have hl : a.2.length = b.2.length := by
          have : ((a.2.length : Int) == b.2.length) = true := by
            cases hc : ((a.2.length : Int) == b.2.length) with
            | true => rfl
            | false => exact absurd (by simp [bne, hc]) h2
          have : (a.2.length : Int) = b.2.length := by simpa using this
          omega
        obtain ⟨s1, s2⟩ := uniK_sound hm hl hb _ (Nat.le_refl _) h3
        refine ⟨s1, ?_, by rw [uniK_len, hm]⟩
        have h4 : a.1 = b.1 := by simpa using h1
        unfold appA
        rw [h4, map_of_getD hl s2]
      · cases h
theorem stepM_complete {a b : AtomC} {m : List Int} (hm : m.length = 20) {h : Int → Int} (hs : SubM m h) (he : appA h a = b) : ∃ x, stepM a b m = some x ∧ SubM x h ∧ x.length = 20 := by
  subst he
  obtain ⟨u1, u2⟩ := uniK_complete (xs := a.2) hm hs rfl _ (Nat.le_refl _)
  refine ⟨(uniK m a.2 (a.2.map (app h)) a.2.length).1, ?_, u2, by rw [uniK_len, hm]⟩
  unfold stepM appA
  simp only
  rw [if_neg (by simp), if_neg (by simp), if_pos u1]
theorem srch_sound {ts : List AtomC} (hts : fineTo ts) : ∀ {fs : List AtomC} {m y : List Int}, m.length = 20 → srch ts fs m = some y → ExtM m y ∧ (∀ a ∈ fs, appA (mFun y) a ∈ ts) ∧ y.length = 20
  | [], m, y, hm, h => by
    simp only [srch, Option.some.injEq] at h
    subst h
    exact ⟨fun k hk hne => rfl, (fun a ha => by cases ha), hm⟩
  | a :: fs, m, y, hm, h => by
    simp only [srch] at h
    obtain ⟨b, hb, h⟩ := List.exists_of_findSome?_eq_some h
    cases hs : stepM a b m with
    | none => rw [hs] at h; cases h
    | some x =>
      rw [hs] at h
      obtain ⟨e1, e2, e3⟩ := stepM_sound hm (hts b hb) hs
      obtain ⟨i1, i2, i3⟩ := srch_sound hts (m := x) e3 h
      refine ⟨ext_trans e1 i1, fun c hc => ?_, i3⟩
      rcases List.mem_cons.1 hc with rfl | hc
      · have : appA (mFun y) c = b := by
          have h1 : c.1 = b.1 := congrArg (·.1) e2
          have h2 : c.2.map (app (mFun x)) = b.2 := congrArg (·.2) e2
          unfold appA
          rw [h1]
          have h3 : c.2.map (app (mFun y)) = b.2 := by
            rw [← h2]
            apply List.map_congr_left
            intro t ht
            refine app_ext i1 ?_ rfl
            have : app (mFun x) t ∈ b.2 := by rw [← h2]; exact List.mem_map.2 ⟨t, ht, rfl⟩
            exact hts b hb _ this
          rw [h3]
        rw [this]
        exact hb
      · exact i2 c hc
theorem srch_complete {ts : List AtomC} {h : Int → Int} : ∀ {fs : List AtomC} {m : List Int}, m.length = 20 → SubM m h → (∀ a ∈ fs, appA h a ∈ ts) → (srch ts fs m).isSome = true
  | [], m, _, _, _ => rfl
  | a :: fs, m, hm, hs, ha => by
    simp only [srch]
    rw [List.findSome?_isSome_iff]
    refine ⟨appA h a, ha a (by simp), ?_⟩
    obtain ⟨x, h1, h2, h3⟩ := stepM_complete hm hs (a := a) rfl
    rw [h1]
    exact srch_complete (m := x) h3 h2 fun c hc => ha c (by simp [hc])
theorem emptyM_sub (h : Int → Int) : SubM emptyM h := fun k hk hne => by
  exfalso
  apply hne
  unfold emptyM
  rw [List.getD_eq_getElem?_getD, List.getElem?_replicate, if_pos hk]
  rfl
def fineQT (t : QueryT) : Prop := (∀ y ∈ t.1, y ≠ unm) ∧ fineTo t.2
theorem mapP_sound {f t : QueryT} (ht : fineQT t) {y : List Int} (h : mapP f t = some y) : IsHom (mFun y) f t := by
  unfold mapP at h
  split at h
  · cases h
  · rename_i h1
    split at h
    · rename_i h2
      have hl : f.1.length = t.1.length := by
        have : (f.1.length : Int) = t.1.length := by simpa using h1
        omega
      have he : emptyM.length = 20 := by simp [emptyM]
      obtain ⟨s1, s2⟩ := uniK_sound he hl ht.1 _ (Nat.le_refl _) h2
      obtain ⟨i1, i2, i3⟩ := srch_sound ht.2 (by rw [uniK_len, he]) h
      refine ⟨map_of_getD hl fun j hj => ?_, i2⟩
      have hjl : j < t.1.length := by omega
      exact app_ext i1 (by rw [getD_int hjl]; exact ht.1 _ (List.getElem_mem hjl)) (s2 j hj)
    · cases h
theorem mapP_iff {f t : QueryT} (ht : fineQT t) : (mapP f t).isSome = true ↔ ∃ h, IsHom h f t := by
  constructor
  · intro h
    obtain ⟨y, hy⟩ := Option.isSome_iff_exists.1 h
    exact ⟨_, mapP_sound ht hy⟩
  · rintro ⟨h, h1, h2⟩
    have he : emptyM.length = 20 := by simp [emptyM]
    obtain ⟨u1, u2⟩ := uniK_complete he (emptyM_sub h) h1 _ (Nat.le_refl _)
    unfold mapP
    have hl : f.1.length = t.1.length := by rw [← h1]; simp
    rw [if_neg (by simp [hl]), if_pos u1]
    exact srch_complete (by rw [uniK_len, he]) u2 h2
theorem isQuery_fineQT {s : List Int} {q : QueryT} (h : isQuery s q = true) : fineQT q := by
  simp only [isQuery, fineQ, terms3, Bool.and_eq_true, List.all_eq_true] at h
  obtain ⟨_, ⟨h1, _⟩, _, h2, _⟩ := h
  have ht : ∀ t, isTerm t = true → t ≠ unm := fun t ht => by
    simp only [isTerm, inR, Bool.and_eq_true, decide_eq_true_eq] at ht
    unfold unm
    omega
  refine ⟨fun t hm => ht t (h1 t hm), fun a ha t hm => ht t ?_⟩
  have := h2 a ha
  simp only [isAtom, Bool.and_eq_true, List.all_eq_true] at this
  exact this.2 t hm
theorem contP_iff (s : List Int) (a b : QueryT) : contP s a b = true ↔ isQuery s a = true ∧ isQuery s b = true ∧ ∃ h, IsHom h b a := by
  unfold contP
  simp only [Bool.and_eq_true]
  constructor
  · rintro ⟨⟨hb, ha⟩, hm⟩
    exact ⟨ha, hb, (mapP_iff (isQuery_fineQT ha)).1 hm⟩
  · rintro ⟨ha, hb, hm⟩
    exact ⟨⟨hb, ha⟩, (mapP_iff (isQuery_fineQT ha)).2 hm⟩
end Go.Proofs.YtcjdfeafcmfgpaaGreatD
set_option linter.unusedVariables false
set_option linter.unusedSimpArgs false
set_option maxRecDepth 100000
namespace Go.Proofs.YtcjdfeafcmfgpaaGreatD
open Go Go.Proofs
theorem val_app (v h : Int → Int) (t : Int) : val (fun k => val v (h k)) t = val v (app h t) := by
  unfold app
  cases hv : isVar t with
  | true =>
    rw [if_pos rfl]
    show (if isVar t = true then val v (h t) else -1 - t) = _
    rw [if_pos hv]
  | false =>
    rw [if_neg (by simp)]
    unfold val
    simp only [hv, Bool.false_eq_true, if_false]
theorem sat_hom {h v : Int → Int} {f t : QueryT} {db : List FactC} (hh : IsHom h f t) (hs : Sat v db t.2) : Sat (fun k => val v (h k)) db f.2 ∧ f.1.map (val fun k => val v (h k)) = t.1.map (val v) := by
  obtain ⟨h1, h2⟩ := hh
  refine ⟨fun a ha => ?_, ?_⟩
  · have := hs _ (h2 a ha)
    have e : valA (fun k => val v (h k)) a = valA v (appA h a) := by
      refine Prod.ext rfl ?_
      show a.2.map _ = (a.2.map (app h)).map (val v)
      rw [List.map_map]
      exact List.map_congr_left fun t _ => val_app v h t
    rw [e]
    exact this
  · rw [← h1, List.map_map]
    exact List.map_congr_left fun t _ => val_app v h t
theorem ans_empty {s : List Int} {q : QueryE} {db : List FactC} {x : List Int} (h : x ∈ answersS s q db) : isQuery s q = true ∧ isDb s db = true := by
  unfold answersS at h
  split at h
  · rename_i hc
    exact Bool.and_eq_true_iff.1 hc
  · cases h
theorem cont_sound {s : List Int} {a b : QueryT} (hc : contP s a b = true) (db : List FactC) {x : List Int} (hx : x ∈ answersS s a db) : x ∈ answersS s b db := by
  obtain ⟨ha, hb, h, hh⟩ := (contP_iff s a b).1 hc
  obtain ⟨_, hd⟩ := ans_empty hx
  obtain ⟨v, hv, rfl⟩ := (ans_iff ha hd x).1 hx
  obtain ⟨h1, h2⟩ := sat_hom hh hv
  exact (ans_iff hb hd _).2 ⟨_, h1, h2.symm⟩
end Go.Proofs.YtcjdfeafcmfgpaaGreatD
