/- Contracts and plain laws of this seat; no condition. -/
import Derived.Test.YtcjdfeafcmfgpaaGreatQ27
import Derived.Test.YtcjdfeafcmfgpaaGreatQ26
import Derived.Test.YtcjdfeafcmfgpaaGreatQ11
set_option linter.unusedVariables false
set_option linter.unusedSimpArgs false
set_option maxRecDepth 100000
namespace Go.Proofs.YtcjdfeafcmfgpaaGreatD
open Go Go.Proofs
def app (h : Int → Int) (t : Int) : Int := if isVar t then h t else t
def appA (h : Int → Int) (a : AtomC) : AtomC := (a.1, a.2.map (app h))
def IsHom (h : Int → Int) (f t : QueryT) : Prop := f.1.map (app h) = t.1 ∧ ∀ a ∈ f.2, appA h a ∈ t.2
def mFun (m : List Int) (t : Int) : Int := m.getD t.toNat 0
def SubM (m : List Int) (h : Int → Int) : Prop := ∀ k : Nat, k < 20 → m.getD k 0 ≠ unm → m.getD k 0 = h k
def ExtM (m m' : List Int) : Prop := ∀ k : Nat, k < 20 → m.getD k 0 ≠ unm → m'.getD k 0 = m.getD k 0
theorem getD_setH {m : List Int} {q : Nat} (hq : q < m.length) (u : Int) (k : Nat) : (m.set q u).getD k 0 = if k = q then u else m.getD k 0 := by
 simp only [List.getD_eq_getElem?_getD, List.getElem?_set]
 by_cases h : q = k
 ·subst h; simp [hq]
 ·rw [if_neg h, if_neg (fun e => h e.symm)]
theorem sendP_sound {m : List Int} (hm : m.length = 20) {t u : Int} (h : (sendP m t u).2 = true) : ExtM m (sendP m t u).1 ∧ app (mFun (sendP m t u).1) t = u := by
 unfold sendP at h ⊢
 by_cases hv : isVar t = true
 ·rw [if_pos hv] at h ⊢
  obtain ⟨q, rfl, hq⟩ := isVar_nat hv
  simp only [Int.toNat_natCast] at h ⊢
  by_cases hx : (m.getD q 0 == unm) = true
  ·rw [if_pos hx] at h ⊢
   have hx' : m.getD q 0 = unm := by simpa using hx
   refine ⟨fun k hk hne => ?_, ?_⟩
   ·rw [getD_setH (by omega)]
    by_cases hkq : k = q
    ·subst hkq; exact absurd hx' hne
    ·rw [if_neg hkq]
   ·unfold app mFun
    rw [if_pos hv, Int.toNat_natCast]
    simpa using h
  ·rw [if_neg hx] at h ⊢
   refine ⟨fun k hk hne => rfl, ?_⟩
   unfold app mFun
   rw [if_pos hv, Int.toNat_natCast]
   simpa using h
 ·rw [if_neg hv] at h ⊢
  refine ⟨fun k hk hne => rfl, ?_⟩
  unfold app
  rw [if_neg hv]
  simpa using h
theorem sendP_complete {m : List Int} (hm : m.length = 20) {h : Int → Int} (hs : SubM m h) {t u : Int} (ht : app h t = u) : (sendP m t u).2 = true ∧ SubM (sendP m t u).1 h := by
 unfold sendP
 unfold app at ht
 by_cases hv : isVar t = true
 ·rw [if_pos hv] at ht ⊢
  obtain ⟨q, rfl, hq⟩ := isVar_nat hv
  simp only [Int.toNat_natCast]
  by_cases hx : (m.getD q 0 == unm) = true
  ·rw [if_pos hx]
   refine ⟨?_, fun k hk hne => ?_⟩
   ·rw [getD_setH (by omega), if_pos rfl]; simp
   ·rw [getD_setH (by omega)] at hne ⊢
    by_cases hkq : k = q
    ·subst hkq; rw [if_pos rfl]; exact ht.symm
    ·rw [if_neg hkq] at hne ⊢
     exact hs k hk hne
  ·rw [if_neg hx]
   have := hs q hq (by simpa using hx)
   refine ⟨?_, hs⟩
   rw [this, ht]; simp
 ·rw [if_neg hv] at ht ⊢
  exact ⟨by simp [ht], hs⟩
theorem app_ext {m m' : List Int} (he : ExtM m m') {t u : Int} (hu : u ≠ unm) (h : app (mFun m) t = u) : app (mFun m') t = u := by
 unfold app mFun at h ⊢
 by_cases hv : isVar t = true
 ·rw [if_pos hv] at h ⊢
  obtain ⟨q, rfl, hq⟩ := isVar_nat hv
  rw [Int.toNat_natCast] at h ⊢
  rw [he q hq (by rw [h]; exact hu), h]
 ·rw [if_neg hv] at h ⊢
  exact h
theorem ext_trans {a b c : List Int} (h1 : ExtM a b) (h2 : ExtM b c) : ExtM a c := fun k hk hne => by
 have := h1 k hk hne
 rw [h2 k hk (by rw [this]; exact hne), this]
theorem uniK_sound {m xs ys : List Int} (hm : m.length = 20) (hl : xs.length = ys.length) (hy : ∀ y ∈ ys, y ≠ unm) : ∀ k, k ≤ xs.length → (uniK m xs ys k).2 = true → ExtM m (uniK m xs ys k).1 ∧ ∀ j, j < k → app (mFun (uniK m xs ys k).1) (xs.getD j 0) = ys.getD j 0
 | 0, _, _ => ⟨fun k hk hne => rfl, fun j hj => absurd hj (Nat.not_lt_zero _)⟩
 | k + 1, hk, h => by
  have h0 : (uniK m xs ys k).2 = true := by
   cases hc : (uniK m xs ys k).2 with
   | true => rfl
   | false =>
    have := uniK_false hc (k + 1) (by omega)
    rw [this, hc] at h
    cases h
  obtain ⟨i1, i2⟩ := uniK_sound hm hl hy k (by omega) h0
  rw [uniK_succ h0] at h ⊢
  obtain ⟨s1, s2⟩ := sendP_sound (by rw [uniK_len, hm]) h
  refine ⟨ext_trans i1 s1, fun j hj => ?_⟩
  rcases Nat.lt_or_ge j k with h1 | h1
  ·have hyj : ys.getD j 0 ≠ unm := by
    have hjl : j < ys.length := by omega
    rw [getD_int hjl]
    exact hy _ (List.getElem_mem hjl)
   exact app_ext s1 hyj (i2 j h1)
  ·rw [show j = k from by omega]
   exact s2
theorem map_of_getD {xs ys : List Int} {f : Int → Int} (hl : xs.length = ys.length) (h : ∀ j, j < xs.length → f (xs.getD j 0) = ys.getD j 0) : xs.map f = ys := by
 apply List.ext_getElem
 ·simp [hl]
 ·intro i h1 h2
  rw [List.getElem_map]
  have h3 : i < xs.length := by simpa using h1
  have := h i h3
  rwa [getD_int h3, getD_int h2] at this
theorem uniK_complete {m xs ys : List Int} (hm : m.length = 20) {h : Int → Int} (hs : SubM m h) (he : xs.map (app h) = ys) : ∀ k, k ≤ xs.length → (uniK m xs ys k).2 = true ∧ SubM (uniK m xs ys k).1 h
 | 0, _ => ⟨rfl, hs⟩
 | k + 1, hk => by
  obtain ⟨i1, i2⟩ := uniK_complete hm hs he k (by omega)
  rw [uniK_succ i1]
  refine sendP_complete (by rw [uniK_len, hm]) i2 ?_
  have h1 : k < xs.length := by omega
  have h2 : k < ys.length := by rw [← he]; simpa using h1
  rw [getD_int h1, getD_int h2]
  subst he
  simp
def fineTo (ts : List AtomC) : Prop := ∀ b ∈ ts, ∀ y ∈ b.2, y ≠ unm
theorem stepM_sound {a b : AtomC} {m x : List Int} (hm : m.length = 20) (hb : ∀ y ∈ b.2, y ≠ unm) (h : stepM a b m = some x) : ExtM m x ∧ appA (mFun x) a = b ∧ x.length = 20 := by
 unfold stepM at h
 split at h
 ·cases h
 ·rename_i h1
  split at h
  ·cases h
  ·rename_i h2
   split at h
   ·rename_i h3
    cases h
    have hl : a.2.length = b.2.length := by
     have : ((a.2.length : Int) == b.2.length) = true := by
      cases hc : ((a.2.length : Int) == b.2.length) with
      | true => rfl
      | false => exact absurd (by simp [bne, hc]) h2
     have : (a.2.length : Int) = b.2.length := by simpa using this
     omega
    obtain ⟨s1, s2⟩ := uniK_sound hm hl hb _ (Nat.le_refl _) h3
    refine ⟨s1, ?_, by rw [uniK_len, hm]⟩
    have h4 : a.1 = b.1 := by simpa using h1
    unfold appA
    rw [h4, map_of_getD hl s2]
   ·cases h
theorem stepM_complete {a b : AtomC} {m : List Int} (hm : m.length = 20) {h : Int → Int} (hs : SubM m h) (he : appA h a = b) : ∃ x, stepM a b m = some x ∧ SubM x h ∧ x.length = 20 := by
 subst he
 obtain ⟨u1, u2⟩ := uniK_complete (xs := a.2) hm hs rfl _ (Nat.le_refl _)
 refine ⟨(uniK m a.2 (a.2.map (app h)) a.2.length).1, ?_, u2, by rw [uniK_len, hm]⟩
 unfold stepM appA
 simp only
 rw [if_neg (by simp), if_neg (by simp), if_pos u1]
theorem srch_sound {ts : List AtomC} (hts : fineTo ts) : ∀ {fs : List AtomC} {m y : List Int}, m.length = 20 → srch ts fs m = some y → ExtM m y ∧ (∀ a ∈ fs, appA (mFun y) a ∈ ts) ∧ y.length = 20
 | [], m, y, hm, h => by
  simp only [srch, Option.some.injEq] at h
  subst h
  exact ⟨fun k hk hne => rfl, (fun a ha => by cases ha), hm⟩
 | a :: fs, m, y, hm, h => by
  simp only [srch] at h
  obtain ⟨b, hb, h⟩ := List.exists_of_findSome?_eq_some h
  cases hs : stepM a b m with
  | none => rw [hs] at h; cases h
  | some x =>
   rw [hs] at h
   obtain ⟨e1, e2, e3⟩ := stepM_sound hm (hts b hb) hs
   obtain ⟨i1, i2, i3⟩ := srch_sound hts (m := x) e3 h
   refine ⟨ext_trans e1 i1, fun c hc => ?_, i3⟩
   rcases List.mem_cons.1 hc with rfl | hc
   ·have : appA (mFun y) c = b := by
     have h1 : c.1 = b.1 := congrArg (·.1) e2
     have h2 : c.2.map (app (mFun x)) = b.2 := congrArg (·.2) e2
     unfold appA
     rw [h1]
     have h3 : c.2.map (app (mFun y)) = b.2 := by
      rw [← h2]
      apply List.map_congr_left
      intro t ht
      refine app_ext i1 ?_ rfl
      have : app (mFun x) t ∈ b.2 := by rw [← h2]; exact List.mem_map.2 ⟨t, ht, rfl⟩
      exact hts b hb _ this
     rw [h3]
    rw [this]
    exact hb
   ·exact i2 c hc
theorem srch_complete {ts : List AtomC} {h : Int → Int} : ∀ {fs : List AtomC} {m : List Int}, m.length = 20 → SubM m h → (∀ a ∈ fs, appA h a ∈ ts) → (srch ts fs m).isSome = true
 | [], m, _, _, _ => rfl
 | a :: fs, m, hm, hs, ha => by
  simp only [srch]
  rw [List.findSome?_isSome_iff]
  refine ⟨appA h a, ha a (by simp), ?_⟩
  obtain ⟨x, h1, h2, h3⟩ := stepM_complete hm hs (a := a) rfl
  rw [h1]
  exact srch_complete (m := x) h3 h2 fun c hc => ha c (by simp [hc])
theorem emptyM_sub (h : Int → Int) : SubM emptyM h := fun k hk hne => by
 exfalso
 apply hne
 unfold emptyM
 rw [List.getD_eq_getElem?_getD, List.getElem?_replicate, if_pos hk]
 rfl
def fineQT (t : QueryT) : Prop := (∀ y ∈ t.1, y ≠ unm) ∧ fineTo t.2
theorem mapP_sound {f t : QueryT} (ht : fineQT t) {y : List Int} (h : mapP f t = some y) : IsHom (mFun y) f t := by
 unfold mapP at h
 split at h
 ·cases h
 ·rename_i h1
  split at h
  ·rename_i h2
   have hl : f.1.length = t.1.length := by
    have : (f.1.length : Int) = t.1.length := by simpa using h1
    omega
   have he : emptyM.length = 20 := by simp [emptyM]
   obtain ⟨s1, s2⟩ := uniK_sound he hl ht.1 _ (Nat.le_refl _) h2
   obtain ⟨i1, i2, i3⟩ := srch_sound ht.2 (by rw [uniK_len, he]) h
   refine ⟨map_of_getD hl fun j hj => ?_, i2⟩
   have hjl : j < t.1.length := by omega
   exact app_ext i1 (by rw [getD_int hjl]; exact ht.1 _ (List.getElem_mem hjl)) (s2 j hj)
  ·cases h
theorem mapP_iff {f t : QueryT} (ht : fineQT t) : (mapP f t).isSome = true ↔ ∃ h, IsHom h f t := by
 constructor
 ·intro h
  obtain ⟨y, hy⟩ := Option.isSome_iff_exists.1 h
  exact ⟨_, mapP_sound ht hy⟩
 ·rintro ⟨h, h1, h2⟩
  have he : emptyM.length = 20 := by simp [emptyM]
  obtain ⟨u1, u2⟩ := uniK_complete he (emptyM_sub h) h1 _ (Nat.le_refl _)
  unfold mapP
  have hl : f.1.length = t.1.length := by rw [← h1]; simp
  rw [if_neg (by simp [hl]), if_pos u1]
  exact srch_complete (by rw [uniK_len, he]) u2 h2
theorem app_app (h k : Int → Int) (x : Int) : app k (app h x) = app (fun y => app k (h y)) x := by
 unfold app
 by_cases hv : isVar x = true
 ·simp only [if_pos hv]
 ·simp only [if_neg hv]
theorem hom_comp {h k : Int → Int} {f g t : QueryT} (h1 : IsHom h f g) (h2 : IsHom k g t) : IsHom (fun y => app k (h y)) f t := by
 refine ⟨?_, fun a ha => ?_⟩
 ·rw [← h2.1, ← h1.1, List.map_map]
  apply List.map_congr_left
  intro x _
  exact (app_app h k x).symm
 ·have := h2.2 _ (h1.2 a ha)
  have e : appA k (appA h a) = appA (fun y => app k (h y)) a := by
   unfold appA
   simp only [List.map_map]
   congr 1
   apply List.map_congr_left
   intro x _
   exact app_app h k x
  rwa [e] at this
theorem app_id (x : Int) : app id x = x := by
 unfold app
 split <;> rfl
theorem hom_id (q : QueryT) : IsHom id q q := by
 have e : ∀ xs : List Int, xs.map (app id) = xs := fun xs => by
  rw [List.map_congr_left (g := id) (fun x _ => app_id x), List.map_id]
 refine ⟨e _, fun a ha => ?_⟩
 unfold appA
 rw [e]
 exact ha
theorem val_app (v h : Int → Int) (t : Int) : val (fun k => val v (h k)) t = val v (app h t) := by
 unfold app
 cases hv : isVar t with
 | true =>
  rw [if_pos rfl]
  show (if isVar t = true then val v (h t) else -1 - t) = _
  rw [if_pos hv]
 | false =>
  rw [if_neg (by simp)]
  unfold val
  simp only [hv, Bool.false_eq_true, if_false]
theorem sat_hom {h v : Int → Int} {f t : QueryT} {db : List FactC} (hh : IsHom h f t) (hs : Sat v db t.2) : Sat (fun k => val v (h k)) db f.2 ∧ f.1.map (val fun k => val v (h k)) = t.1.map (val v) := by
 obtain ⟨h1, h2⟩ := hh
 refine ⟨fun a ha => ?_, ?_⟩
 ·have := hs _ (h2 a ha)
  have e : valA (fun k => val v (h k)) a = valA v (appA h a) := by
   refine Prod.ext rfl ?_
   show a.2.map _ = (a.2.map (app h)).map (val v)
   rw [List.map_map]
   exact List.map_congr_left fun t _ => val_app v h t
  rw [e]
  exact this
 ·rw [← h1, List.map_map]
  exact List.map_congr_left fun t _ => val_app v h t
theorem ans_empty {s : List Int} {q : QueryE} {db : List FactC} {x : List Int} (h : x ∈ answersS s q db) : isQuery s q = true ∧ isDb s db = true := by
 unfold answersS at h
 split at h
 ·rename_i hc
  exact Bool.and_eq_true_iff.1 hc
 ·cases h
abbrev QueryC := List Int × List AtomC
def rep1 (a b x : Int) : Int := if x == a then b else x
def repA (a b : Int) (x : AtomC) : AtomC := (x.1, x.2.map (rep1 a b))
def pReplaceTerm (q : QueryC) (a b : Int) : QueryC := (q.1.map (rep1 a b), q.2.map (repA a b))
theorem sumB_map {α β : Type} {c : β → Nat} {d : α → Nat} {f : α → β} (h : ∀ x, c (f x) = d x) : ∀ xs : List α, sumB c (xs.map f) = sumB d xs
 | [] => rfl
 | x :: xs => by simp only [List.map_cons, sumB, h, sumB_map h xs]
def chg {α : Type} (f : α → α) (xs : List α) (k : Nat) : List α := (xs.take k).map f ++ xs.drop k
theorem chg_len {α : Type} (f : α → α) (xs : List α) (k : Nat) : (chg f xs k).length = xs.length := by
 simp only [chg, List.length_append, List.length_map, List.length_take, List.length_drop]; omega
theorem chg_zero {α : Type} (f : α → α) (xs : List α) : chg f xs 0 = xs := by simp [chg]
theorem chg_all {α : Type} (f : α → α) {xs : List α} {k : Nat} (h : xs.length ≤ k) : chg f xs k = xs.map f := by
 rw [chg, List.take_of_length_le h, List.drop_eq_nil_of_le h, List.append_nil]
theorem chg_at {α : Type} (f : α → α) {xs : List α} {k : Nat} (hk : k < xs.length) (h : k < (chg f xs k).length) : (chg f xs k)[k] = xs[k] := by
 have hl : ((xs.take k).map f).length = k := by rw [List.length_map, List.length_take]; omega
 have : (chg f xs k)[k]? = some xs[k] := by
  rw [chg, List.getElem?_append_right (by omega), hl, Nat.sub_self, List.getElem?_drop, Nat.add_zero, List.getElem?_eq_getElem hk]
 rw [List.getElem?_eq_getElem h] at this
 exact Option.some.inj this
theorem chg_set {α : Type} (f : α → α) {xs : List α} {k : Nat} (hk : k < xs.length) : (chg f xs k).set k (f xs[k]) = chg f xs (k + 1) := by
 have hl : ((xs.take k).map f).length = k := by rw [List.length_map, List.length_take]; omega
 unfold chg
 rw [List.set_append_right _ _ (by omega), hl, Nat.sub_self, List.drop_eq_getElem_cons hk, List.set_cons_zero, List.take_succ_eq_append_getElem hk, List.map_append, List.append_assoc]
 rfl
theorem chg_same {α : Type} (f : α → α) {xs : List α} {k : Nat} (hk : k < xs.length) (h : f xs[k] = xs[k]) : chg f xs (k + 1) = chg f xs k := by
 have hk' : k < (chg f xs k).length := by rw [chg_len]; exact hk
 rw [← chg_set f hk, h, ← chg_at f hk hk', List.set_getElem_self]
theorem l13Swap_spec (xs : List Int) (a b : Int) (h : xs.length ≤ 1099511627776) : Spec Tryz.prog 315 [ints xs, ci a, ci b] (intsT (xs.map (rep1 a b))) := by
 refine Spec_of mx Γ_ok Tryz.func315 rfl ?_
 conv => whnf
 refine ⟨rows_len ciL_len _, solid_ci _, ?_⟩
 conv => whnf
 refine ⟨by omega, rfl, _, app_ci [] xs, ?_⟩
 conv => whnf
 refine ⟨[(1,0),(2,0),(6,0),(7,0),(8,0)], fun m s => ∃ (k : Nat) (e : Int) (n : Nat) (r : List V), e = k ∧ m + k = xs.length ∧ n = xs.length ∧ r = rows ciL (chg (rep1 a b) xs k) ∧
  s = ⟨29, [(1, ci a), (2, ci b), (6, cnil), (7, .own 0 1 0 n n none), (8, ci e)], [some ⟨false, r⟩]⟩, xs.length, ⟨0, 0, 0 + xs.length, _, rfl, rfl, Nat.zero_add _, by rw [chg_zero, List.nil_append], rfl⟩, ?_⟩
 rintro m s ⟨k, _, n, _, rfl, hm, hn, rfl, rfl⟩
 conv => whnf
 split <;> rename_i h1
 all_goals simp only [decide_eq_true_eq, decide_eq_false_iff_not] at h1
 ·conv => whnf
  have hk : k < xs.length := by omega
  have hk' : k < (chg (rep1 a b) xs k).length := by rw [chg_len]; exact hk
  refine ⟨by omega, ?_⟩
  conv => whnf
  refine ⟨_, takeN_own (k := k) (d := 0) (m := 1) (xs := chg (rep1 a b) xs k) ciL_len (Nat.zero_add _) hk' (by omega) rfl, ?_⟩
  rw [chg_at _ hk hk']
  conv => whnf
  generalize hb1 : (xs[k] == a) = b1
  have hf : rep1 a b xs[k] = if b1 then b else xs[k] := by rw [rep1, hb1]
  cases b1 with
  | true =>
   conv => whnf
   refine ⟨by omega, ?_⟩
   conv => whnf
   refine ⟨_, takeN_own (k := k) (d := 0) (m := 1) (xs := chg (rep1 a b) xs k) ciL_len (Nat.zero_add _) hk' (by omega) rfl, _, (congrArg (fun o => setC (rows ciL (chg (rep1 a b) xs k)) o (ciL b)) (Nat.zero_add _)).trans (setC_rows ciL_len (by omega) hk' _), ?_⟩
   conv => whnf
   refine ⟨m - 1, by omega, k + 1, _, n, _, wrap_id (by omega) (by omega), by omega, hn, ?_, rfl⟩
   rw [← chg_set _ hk, hf]
   rfl
  | false =>
   conv => whnf
   refine ⟨m - 1, by omega, k + 1, _, n, _, wrap_id (by omega) (by omega), by omega, hn, ?_, rfl⟩
   rw [chg_same _ hk hf]
 ·conv => whnf
  rw [chg_all _ (by omega)]
  refine ⟨by rw [rows_len ciL_len, List.length_map, hn], ?_⟩
  rw [hn]
  simp only [intsT, List.length_map]
  rfl
set_option maxHeartbeats 4000000 in
theorem specReplaceTerm_spec (x0 : QueryC) (x1 x2 : Int) (h0 : cQuery x0 ≤ 1048576) : Spec Tryz.prog 283 [vQuery x0, ci x1, ci x2] (wQuery (pReplaceTerm x0 x1 x2)) := by
 unfold cQuery cAtomS at h0
 refine Spec_of mx Γ_ok Tryz.func283 rfl ?_
 conv => whnf
 refine ⟨_, l13Swap_spec x0.1 x1 x2 (by omega), .inl rfl, .inr ?_⟩
 conv => whnf
 refine ⟨[(1,0),(2,0),(3,0),(6,0),(7,202),(8,0)], fun m s => ∃ (k : Nat) (e : Int) (n1 n : Nat) (r1 r : List V), e = k ∧ m + k = x0.2.length ∧ n1 = (x0.1.map (rep1 x1 x2)).length ∧ n = k ∧ r1 = rows ciL (x0.1.map (rep1 x1 x2)) ∧ r = rows tAtom ((x0.2.take k).map (repA x1 x2)) ∧
  s = ⟨44, [(1, ci x1), (2, ci x2), (3, .ptr 0 0), (6, .ptr 1 0), (7, .ptr 2 0), (8, ci e)], [some ⟨true, rQuery x0⟩, some ⟨true, [cnil, cnil]⟩, some ⟨true, [.own 3 1 0 n1 n1 none, .own 4 2 0 n n none]⟩, some ⟨false, r1⟩, some ⟨false, r⟩]⟩, x0.2.length, ⟨0, 0, _, 0, _, _, rfl, rfl, rfl, rfl, rfl, rfl, rfl⟩, ?_⟩
 rintro m s ⟨k, _, n1, n, _, _, rfl, hm, hn1, rfl, rfl, rfl, rfl⟩
 conv => whnf
 split <;> rename_i h1
 all_goals simp only [decide_eq_true_eq, decide_eq_false_iff_not] at h1
 ·conv => whnf
  have hk : n < x0.2.length := by omega
  have hb := sumB_one (f := cAtom) hk
  have hcb : cAtom x0.2[n] = x0.2[n].2.length := rfl
  refine ⟨List.range 22, by kernel_rfl, ?_⟩
  conv => whnf
  refine ⟨by omega, rows_len rAtom_len _, ?_⟩
  conv => whnf
  refine ⟨_, takeN_rp_field (k := n) (d := 0) (m := 1) (r := [ci x0.2[n].1]) rAtom_len hk (by omega) rfl, ?_⟩
  conv => whnf
  refine ⟨by omega, rows_len rAtom_len _, ?_⟩
  conv => whnf
  refine ⟨_, takeN_rp_field (k := n) (d := 1) (m := 1) (r := [ints x0.2[n].2]) rAtom_len hk (by omega) rfl, ?_⟩
  conv => whnf
  refine ⟨_, l13Swap_spec x0.2[n].2 x1 x2 (by omega), .inl rfl, .inr ?_⟩
  conv => whnf
  refine ⟨by rw [rows_len ciL_len], ?_⟩
  conv => whnf
  refine ⟨_, rfl, .inr ⟨solid_tAtom (repA x1 x2 x0.2[n]), ?_⟩⟩
  conv => whnf
  refine ⟨by omega, by rw [rows_len tAtom_len, List.length_map, List.length_take, Nat.min_eq_left (by omega)], _, snoc_rows tAtom _ (repA x1 x2 x0.2[n]), ?_⟩
  conv => whnf
  refine ⟨m - 1, by omega, n + 1, _, n1, _, _, _, wrap_id (by omega) (by omega), by omega, hn1, rfl, rfl, ?_, rfl⟩
  rw [List.take_succ_eq_append_getElem hk, List.map_append]
  rfl
 ·conv => whnf
  have hkk : n = x0.2.length := by omega
  rw [hkk, List.take_length]
  subst hn1
  refine ⟨by rw [rows_len ciL_len], by rw [rows_len tAtom_len, List.length_map], ?_⟩
  have e : wQuery (pReplaceTerm x0 x1 x2) = .agg [.tr 1 (x0.1.map (rep1 x1 x2)).length (rows ciL (x0.1.map (rep1 x1 x2))), .tr 2 x0.2.length (rows tAtom (x0.2.map (repA x1 x2)))] := by
   simp only [wQuery, tQuery, pReplaceTerm, wAtomS, intsT, List.length_map]
  rw [e]
  rfl
theorem repC_spec (x a b : Int) : Spec Tryz.prog 286 [ci x, .rp [ci a], .rp [ci b]] (ci (rep1 a b x)) := by
 refine Spec_of mx Γ_ok Tryz.func286 rfl ?_
 conv => whnf
 refine ⟨_, rfl, ?_⟩
 conv => whnf
 generalize hb1 : (x == a) = b1
 have hf : rep1 a b x = if b1 then b else x := by rw [rep1, hb1]
 rw [hf]
 cases b1 with
 | true =>
  conv => whnf
  refine ⟨_, rfl, ?_⟩
  conv => whnf
  rfl
 | false =>
  conv => whnf
  rfl
def fnR (a b : Int) : V := .fn 286 [.rp [ci a], .rp [ci b]]
def bodyR (a b : Int) (xs : List AtomC) (k : Nat) (x : AtomC) (j : Nat) : List AtomC := (chg (repA a b) xs k).set k (x.1, chg (rep1 a b) x.2 j)
theorem bodyR_len (a b : Int) (xs : List AtomC) (k : Nat) (x : AtomC) (j : Nat) : (bodyR a b xs k x j).length = xs.length := by rw [bodyR, List.length_set, chg_len]
theorem bodyR_zero (a b : Int) {xs : List AtomC} {k : Nat} (hk : k < xs.length) : bodyR a b xs k xs[k] 0 = chg (repA a b) xs k := by
 rw [bodyR, chg_zero]
 have hk' : k < (chg (repA a b) xs k).length := by rw [chg_len]; exact hk
 have := chg_at (repA a b) hk hk'
 rw [show (xs[k].1, xs[k].2) = xs[k] from rfl, ← this, List.set_getElem_self]
theorem bodyR_all (a b : Int) {xs : List AtomC} {k j : Nat} (hk : k < xs.length) (hj : xs[k].2.length ≤ j) : bodyR a b xs k xs[k] j = chg (repA a b) xs (k + 1) := by
 rw [bodyR, chg_all _ hj, ← chg_set _ hk]
 rfl
theorem bodyR_at (a b : Int) {xs : List AtomC} {k j : Nat} (x : AtomC) (hk : k < xs.length) (h : k < (bodyR a b xs k x j).length) : (bodyR a b xs k x j)[k] = (x.1, chg (rep1 a b) x.2 j) := by
 simp only [bodyR, List.getElem_set_self]
theorem bodyR_set (a b : Int) (xs : List AtomC) (k : Nat) (x : AtomC) (j i : Nat) : (bodyR a b xs k x j).set k (x.1, chg (rep1 a b) x.2 i) = bodyR a b xs k x i := by
 rw [bodyR, List.set_set]
 rfl
set_option maxHeartbeats 4000000 in
theorem changed_spec (x0 : QueryC) (a b : Int) (h0 : cQuery x0 ≤ 1048576) : Spec Tryz.prog 242 [vQuery x0, fnR a b] (wQuery (pReplaceTerm x0 a b)) := by
 have h0' := h0
 unfold cQuery cAtomS at h0'
 refine Spec_of mx Γ_ok Tryz.func242 rfl ?_
 conv => whnf
 refine ⟨_, copyQuery_spec x0 (by omega), .inl rfl, .inr ?_⟩
 conv => whnf
 refine ⟨[(1,0),(4,0),(5,0),(15,0),(16,0),(17,0)], fun m s => ∃ (k : Nat) (e : Int) (r : List V), e = k ∧ m + k = x0.1.length ∧ r = rows ciL (chg (rep1 a b) x0.1 k) ∧
  s = ⟨55, [(1, fnR a b), (4, .ptr 0 0), (5, .ptr 1 0), (15, .own 2 1 0 x0.1.length x0.1.length none), (16, ci x0.1.length), (17, ci e)], [some ⟨true, [cnil, cnil]⟩, some ⟨true, [.own 2 1 0 x0.1.length x0.1.length none, .own 3 2 0 x0.2.length x0.2.length none]⟩, some ⟨false, r⟩, some ⟨false, rows tAtom x0.2⟩]⟩, x0.1.length, ⟨0, 0, _, rfl, rfl, by rw [chg_zero], rfl⟩, ?_⟩
 rintro m s ⟨k, _, _, rfl, hm, rfl, rfl⟩
 conv => whnf
 split <;> rename_i h1
 all_goals simp only [decide_eq_true_eq, decide_eq_false_iff_not] at h1
 ·conv => whnf
  have hk : k < x0.1.length := by omega
  have hk' : k < (chg (rep1 a b) x0.1 k).length := by rw [chg_len]; exact hk
  refine ⟨by omega, ?_⟩
  conv => whnf
  refine ⟨_, takeN_own (k := k) (d := 0) (m := 1) (xs := chg (rep1 a b) x0.1 k) ciL_len (Nat.zero_add _) hk' (by omega) rfl, ?_⟩
  rw [chg_at _ hk hk']
  conv => whnf
  refine ⟨List.range 8, by kernel_rfl, ?_⟩
  conv => whnf
  refine ⟨_, repC_spec x0.1[k] a b, .inl rfl, .inl ?_⟩
  conv => whnf
  refine ⟨by omega, ?_⟩
  conv => whnf
  refine ⟨_, takeN_own (k := k) (d := 0) (m := 1) (xs := chg (rep1 a b) x0.1 k) ciL_len (Nat.zero_add _) hk' (by omega) rfl, _, (congrArg (fun o => setC (rows ciL (chg (rep1 a b) x0.1 k)) o (ciL (rep1 a b x0.1[k]))) (Nat.zero_add _)).trans (setC_rows ciL_len (by omega) hk' _), ?_⟩
  conv => whnf
  refine ⟨m - 1, by omega, k + 1, _, _, wrap_id (by omega) (by omega), by omega, ?_, rfl⟩
  rw [chg_set _ hk]
 ·conv => whnf
  rw [chg_all _ (by omega)]
  refine ⟨[(1,0),(4,0),(5,0),(31,0),(32,0),(33,0)], fun m s => ∃ (k : Nat) (e : Int) (r : List V), e = k ∧ m + k = x0.2.length ∧ r = rows tAtom (chg (repA a b) x0.2 k) ∧
   s = ⟨55, [(1, fnR a b), (4, .ptr 0 0), (5, .ptr 1 0), (31, .own 2 2 0 x0.2.length x0.2.length none), (32, ci x0.2.length), (33, ci e)], [some ⟨true, [cnil, cnil]⟩, some ⟨true, [.own 3 1 0 x0.1.length x0.1.length none, .own 2 2 0 x0.2.length x0.2.length none]⟩, some ⟨false, r⟩, some ⟨false, rows ciL (x0.1.map (rep1 a b))⟩]⟩, x0.2.length, ⟨0, 0, _, rfl, rfl, by rw [chg_zero], rfl⟩, ?_⟩
  rintro m1 s ⟨k, _, _, rfl, hm1, rfl, rfl⟩
  conv => whnf
  split <;> rename_i h2
  all_goals simp only [decide_eq_true_eq, decide_eq_false_iff_not] at h2
  ·conv => whnf
   have hk : k < x0.2.length := by omega
   have hk' : k < (chg (repA a b) x0.2 k).length := by rw [chg_len]; exact hk
   have hb := sumB_one (f := cAtom) hk
   have hcb : cAtom x0.2[k] = x0.2[k].2.length := rfl
   refine ⟨by omega, ?_⟩
   conv => whnf
   refine ⟨_, takeN_own (k := k) (d := 0) (m := 2) (xs := chg (repA a b) x0.2 k) tAtom_len (Nat.zero_add _) hk' (by omega) rfl, ?_⟩
   rw [chg_at _ hk hk']
   conv => whnf
   have hc0 : (rows tAtom (chg (repA a b) x0.2 k))[0 + k * 2 + 1]? = some (intsT x0.2[k].2) := rows_cell tAtom_len (k := k) (d := 1) (by omega) hk' (by rw [chg_at _ hk hk']; rfl)
   have hlen : ∀ (st : St) (v : V), st.ob 2 = some ⟨false, rows tAtom (chg (repA a b) x0.2 k)⟩ → v = .sub 2 (0 + k * 2 + 1) → lenV st v = some x0.2[k].2.length := by
    rintro st v h rfl
    simp only [lenV, h, hc0, intsT]
   rw [hlen]
   rotate_left
   ·rfl
   ·rfl
   conv => whnf
   refine ⟨[(1,0),(4,0),(5,0),(9,0),(31,0),(32,0),(33,0),(38,0),(39,0),(40,0)], fun m s => ∃ (j : Nat) (e : Int) (o : Nat) (r : List V), e = j ∧ m + j = x0.2[k].2.length ∧ o = k * 2 + 1 ∧ r = rows tAtom (bodyR a b x0.2 k x0.2[k] j) ∧
    s = ⟨55, [(1, fnR a b), (4, .ptr 0 0), (5, .ptr 1 0), (9, .ptr 2 0), (31, .own 3 2 0 x0.2.length x0.2.length none), (32, ci x0.2.length), (33, ci k), (38, .sub 3 o), (39, ci x0.2[k].2.length), (40, ci e)], [some ⟨true, [cnil, cnil]⟩, some ⟨true, [.own 4 1 0 x0.1.length x0.1.length none, .own 3 2 0 x0.2.length x0.2.length none]⟩, some ⟨true, [ci x0.2[k].1, .sub 3 o]⟩, some ⟨false, r⟩, some ⟨false, rows ciL (x0.1.map (rep1 a b))⟩]⟩, x0.2[k].2.length, ⟨0, 0, 0 + k * 2 + 1, _, rfl, rfl, by omega, by rw [bodyR_zero a b hk], rfl⟩, ?_⟩
   rintro m2 s ⟨j, _, o, _, rfl, hm2, ho, rfl, rfl⟩
   have hkb : k < (bodyR a b x0.2 k x0.2[k] j).length := by rw [bodyR_len]; exact hk
   have hcell : (rows tAtom (bodyR a b x0.2 k x0.2[k] j))[o]? = some (V.tr 1 (chg (rep1 a b) x0.2[k].2 j).length (rows ciL (chg (rep1 a b) x0.2[k].2 j))) := rows_cell tAtom_len (k := k) (d := 1) (by omega) hkb (by rw [bodyR_at a b _ hk hkb]; rfl)
   conv => whnf
   split <;> rename_i h3
   all_goals simp only [decide_eq_true_eq, decide_eq_false_iff_not] at h3
   ·conv => whnf
    have hj : j < x0.2[k].2.length := by omega
    have hj' : j < (chg (rep1 a b) x0.2[k].2 j).length := by rw [chg_len]; exact hj
    refine ⟨_, _, hcell, ⟨by omega, by omega⟩, ?_⟩
    conv => whnf
    refine ⟨_, _, _, _, hcell, takeN_own (k := j) (d := 0) (m := 1) (xs := chg (rep1 a b) x0.2[k].2 j) ciL_len rfl hj' (by omega) rfl, flat1 rfl, ?_⟩
    rw [chg_at _ hj hj']
    conv => whnf
    refine ⟨List.range 8, by kernel_rfl, ?_⟩
    conv => whnf
    refine ⟨_, repC_spec x0.2[k].2[j] a b, .inl rfl, .inl ?_⟩
    conv => whnf
    refine ⟨_, _, hcell, ⟨by omega, by omega⟩, ?_⟩
    conv => whnf
    have hset : (rows tAtom (bodyR a b x0.2 k x0.2[k] j)).set o (V.tr 1 (chg (rep1 a b) x0.2[k].2 j).length (setC (rows ciL (chg (rep1 a b) x0.2[k].2 j)) (j * 1) [ci (rep1 a b x0.2[k].2[j])])) = rows tAtom (bodyR a b x0.2 k x0.2[k] (j + 1)) := by
     have h5 : setC (rows ciL (chg (rep1 a b) x0.2[k].2 j)) (j * 1) [ci (rep1 a b x0.2[k].2[j])] = rows ciL (chg (rep1 a b) x0.2[k].2 (j + 1)) := by
      rw [← chg_set _ hj]
      exact setC_rows ciL_len (by omega) hj' _
     rw [h5, rows_setCell (y := (x0.2[k].1, chg (rep1 a b) x0.2[k].2 (j + 1))) tAtom_len (k := k) (d := 1) (by omega) hkb ?_ (by omega), bodyR_set]
     rw [bodyR_at a b _ hk hkb]
     simp only [tAtom, intsT, chg_len]
     rfl
    refine ⟨_, _, _, _, hcell, takeN_own (k := j) (d := 0) (m := 1) (xs := chg (rep1 a b) x0.2[k].2 j) ciL_len rfl hj' (by omega) rfl, _, hset, ?_⟩
    conv => whnf
    exact ⟨m2 - 1, by omega, j + 1, _, o, _, wrap_id (by omega) (by omega), by omega, ho, rfl, rfl⟩
   ·conv => whnf
    refine ⟨m1 - 1, by omega, k + 1, _, _, wrap_id (by omega) (by omega), by omega, ?_, rfl⟩
    rw [bodyR_all a b hk (by omega)]
  ·conv => whnf
   rw [chg_all _ (by omega)]
   refine ⟨by rw [rows_len ciL_len, List.length_map], by rw [rows_len tAtom_len, List.length_map], ?_⟩
   have e : wQuery (pReplaceTerm x0 a b) = .agg [.tr 1 x0.1.length (rows ciL (x0.1.map (rep1 a b))), .tr 2 x0.2.length (rows tAtom (x0.2.map (repA a b)))] := by
    simp only [wQuery, tQuery, pReplaceTerm, wAtomS, intsT, List.length_map]
   rw [e]
   rfl
theorem implReplaceTerm_spec (x0 : QueryC) (x1 x2 : Int) (h0 : cQuery x0 ≤ 1048576) : Spec Tryz.prog 245 [vQuery x0, ci x1, ci x2] (wQuery (pReplaceTerm x0 x1 x2)) := by
 refine Spec_of mx Γ_ok Tryz.func245 rfl ?_
 conv => whnf
 refine .inl ?_
 conv => whnf
 refine ⟨_, rfl, ?_⟩
 conv => whnf
 refine ⟨_, rfl, ?_⟩
 conv => whnf
 refine ⟨_, changed_spec x0 x1 x2 h0, .inr (closed_wQuery _), .inr ?_⟩
 conv => whnf
 refine ⟨by rw [rows_len ciL_len], by rw [rows_len tAtom_len], rfl⟩
end Go.Proofs.YtcjdfeafcmfgpaaGreatD
