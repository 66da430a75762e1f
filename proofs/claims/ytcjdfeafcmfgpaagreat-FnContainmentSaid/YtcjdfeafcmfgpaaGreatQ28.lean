/- Part 28 of the proof of the statement FnContainment: contracts of functions and plain laws; no condition. -/
import Derived.Test.YtcjdfeafcmfgpaaGreatQ27
import Derived.Test.YtcjdfeafcmfgpaaGreatQ25
import Derived.Test.YtcjdfeafcmfgpaaGreatQ13
import Derived.Test.YtcjdfeafcmfgpaaGreatQ20
import Derived.Test.YtcjdfeafcmfgpaaGreatQ22
import Derived.Test.YtcjdfeafcmfgpaaGreatQ24
set_option linter.unusedVariables false
set_option linter.unusedSimpArgs false
set_option maxRecDepth 100000
namespace Go.Proofs.YtcjdfeafcmfgpaaGreatD
open Go Go.Proofs
def app (h : Int → Int) (t : Int) : Int := if isVar t then h t else t
def appA (h : Int → Int) (a : AtomC) : AtomC := (a.1, a.2.map (app h))
def IsHom (h : Int → Int) (f t : QueryT) : Prop := f.1.map (app h) = t.1 ∧ ∀ a ∈ f.2, appA h a ∈ t.2
def mFun (m : List Int) (t : Int) : Int := m.getD t.toNat 0
def SubM (m : List Int) (h : Int → Int) : Prop := ∀ k : Nat, k < 20 → m.getD k 0 ≠ unm → m.getD k 0 = h k
def ExtM (m m' : List Int) : Prop := ∀ k : Nat, k < 20 → m.getD k 0 ≠ unm → m'.getD k 0 = m.getD k 0
theorem getD_setH {m : List Int} {q : Nat} (hq : q < m.length) (u : Int) (k : Nat) : (m.set q u).getD k 0 = if k = q then u else m.getD k 0 := by
  simp only [List.getD_eq_getElem?_getD, List.getElem?_set]
  by_cases h : q = k
  · subst h; simp [hq]
  · rw [if_neg h, if_neg (fun e => h e.symm)]
theorem sendP_sound {m : List Int} (hm : m.length = 20) {t u : Int} (h : (sendP m t u).2 = true) : ExtM m (sendP m t u).1 ∧ app (mFun (sendP m t u).1) t = u := by
  unfold sendP at h ⊢
  by_cases hv : isVar t = true
  · rw [if_pos hv] at h ⊢
    obtain ⟨q, rfl, hq⟩ := isVar_nat hv
    simp only [Int.toNat_natCast] at h ⊢
    by_cases hx : (m.getD q 0 == unm) = true
    · rw [if_pos hx] at h ⊢
      have hx' : m.getD q 0 = unm := by simpa using hx
      refine ⟨fun k hk hne => ?_, ?_⟩
      · rw [getD_setH (by omega)]
        by_cases hkq : k = q
        · subst hkq; exact absurd hx' hne
        · rw [if_neg hkq]
      · unfold app mFun
        rw [if_pos hv, Int.toNat_natCast]
        simpa using h
    · rw [if_neg hx] at h ⊢
      refine ⟨fun k hk hne => rfl, ?_⟩
      unfold app mFun
      rw [if_pos hv, Int.toNat_natCast]
      simpa using h
  · rw [if_neg hv] at h ⊢
    refine ⟨fun k hk hne => rfl, ?_⟩
    unfold app
    rw [if_neg hv]
    simpa using h
theorem sendP_complete {m : List Int} (hm : m.length = 20) {h : Int → Int} (hs : SubM m h) {t u : Int} (ht : app h t = u) : (sendP m t u).2 = true ∧ SubM (sendP m t u).1 h := by
  unfold sendP
  unfold app at ht
  by_cases hv : isVar t = true
  · rw [if_pos hv] at ht ⊢
    obtain ⟨q, rfl, hq⟩ := isVar_nat hv
    simp only [Int.toNat_natCast]
    by_cases hx : (m.getD q 0 == unm) = true
    · rw [if_pos hx]
      refine ⟨?_, fun k hk hne => ?_⟩
      · rw [getD_setH (by omega), if_pos rfl]; simp
      · rw [getD_setH (by omega)] at hne ⊢
        by_cases hkq : k = q
        · subst hkq; rw [if_pos rfl]; exact ht.symm
        · rw [if_neg hkq] at hne ⊢
          exact hs k hk hne
    · rw [if_neg hx]
      have := hs q hq (by simpa using hx)
      refine ⟨?_, hs⟩
      rw [this, ht]; simp
  · rw [if_neg hv] at ht ⊢
    exact ⟨by simp [ht], hs⟩
theorem app_ext {m m' : List Int} (he : ExtM m m') {t u : Int} (hu : u ≠ unm) (h : app (mFun m) t = u) : app (mFun m') t = u := by
  unfold app mFun at h ⊢
  by_cases hv : isVar t = true
  · rw [if_pos hv] at h ⊢
    obtain ⟨q, rfl, hq⟩ := isVar_nat hv
    rw [Int.toNat_natCast] at h ⊢
    rw [he q hq (by rw [h]; exact hu), h]
  · rw [if_neg hv] at h ⊢
    exact h
theorem ext_trans {a b c : List Int} (h1 : ExtM a b) (h2 : ExtM b c) : ExtM a c := fun k hk hne => by
  have := h1 k hk hne
  rw [h2 k hk (by rw [this]; exact hne), this]
theorem uniK_sound {m xs ys : List Int} (hm : m.length = 20) (hl : xs.length = ys.length) (hy : ∀ y ∈ ys, y ≠ unm) : ∀ k, k ≤ xs.length → (uniK m xs ys k).2 = true → ExtM m (uniK m xs ys k).1 ∧ ∀ j, j < k → app (mFun (uniK m xs ys k).1) (xs.getD j 0) = ys.getD j 0
  | 0, _, _ => ⟨fun k hk hne => rfl, fun j hj => absurd hj (Nat.not_lt_zero _)⟩
  | k + 1, hk, h => by
    have h0 : (uniK m xs ys k).2 = true := by
      cases hc : (uniK m xs ys k).2 with
      | true => rfl
      | false =>
        have := uniK_false hc (k + 1) (by omega)
        rw [this, hc] at h
        cases h
    obtain ⟨i1, i2⟩ := uniK_sound hm hl hy k (by omega) h0
    rw [uniK_succ h0] at h ⊢
    obtain ⟨s1, s2⟩ := sendP_sound (by rw [uniK_len, hm]) h
    refine ⟨ext_trans i1 s1, fun j hj => ?_⟩
    rcases Nat.lt_or_ge j k with h1 | h1
    · have hyj : ys.getD j 0 ≠ unm := by
        have hjl : j < ys.length := by omega
        rw [getD_int hjl]
        exact hy _ (List.getElem_mem hjl)
      exact app_ext s1 hyj (i2 j h1)
    · rw [show j = k from by omega]
      exact s2
theorem map_of_getD {xs ys : List Int} {f : Int → Int} (hl : xs.length = ys.length) (h : ∀ j, j < xs.length → f (xs.getD j 0) = ys.getD j 0) : xs.map f = ys := by
  apply List.ext_getElem
  · simp [hl]
  · intro i h1 h2
    rw [List.getElem_map]
    have h3 : i < xs.length := by simpa using h1
    have := h i h3
    rwa [getD_int h3, getD_int h2] at this
theorem uniK_complete {m xs ys : List Int} (hm : m.length = 20) {h : Int → Int} (hs : SubM m h) (he : xs.map (app h) = ys) : ∀ k, k ≤ xs.length → (uniK m xs ys k).2 = true ∧ SubM (uniK m xs ys k).1 h
  | 0, _ => ⟨rfl, hs⟩
  | k + 1, hk => by
    obtain ⟨i1, i2⟩ := uniK_complete hm hs he k (by omega)
    rw [uniK_succ i1]
    refine sendP_complete (by rw [uniK_len, hm]) i2 ?_
    have h1 : k < xs.length := by omega
    have h2 : k < ys.length := by rw [← he]; simpa using h1
    rw [getD_int h1, getD_int h2]
    subst he
    simp
def fineTo (ts : List AtomC) : Prop := ∀ b ∈ ts, ∀ y ∈ b.2, y ≠ unm
theorem stepM_sound {a b : AtomC} {m x : List Int} (hm : m.length = 20) (hb : ∀ y ∈ b.2, y ≠ unm) (h : stepM a b m = some x) : ExtM m x ∧ appA (mFun x) a = b ∧ x.length = 20 := by
  unfold stepM at h
  split at h
  · cases h
  · rename_i h1
    split at h
    · cases h
    · rename_i h2
      split at h
      · rename_i h3
        cases h
        have hl : a.2.length = b.2.length := by
          have : ((a.2.length : Int) == b.2.length) = true := by
            cases hc : ((a.2.length : Int) == b.2.length) with
            | true => rfl
            | false => exact absurd (by simp [bne, hc]) h2
          have : (a.2.length : Int) = b.2.length := by simpa using this
          omega
        obtain ⟨s1, s2⟩ := uniK_sound hm hl hb _ (Nat.le_refl _) h3
        refine ⟨s1, ?_, by rw [uniK_len, hm]⟩
        have h4 : a.1 = b.1 := by simpa using h1
        unfold appA
        rw [h4, map_of_getD hl s2]
      · cases h
theorem stepM_complete {a b : AtomC} {m : List Int} (hm : m.length = 20) {h : Int → Int} (hs : SubM m h) (he : appA h a = b) : ∃ x, stepM a b m = some x ∧ SubM x h ∧ x.length = 20 := by
  subst he
  obtain ⟨u1, u2⟩ := uniK_complete (xs := a.2) hm hs rfl _ (Nat.le_refl _)
  refine ⟨(uniK m a.2 (a.2.map (app h)) a.2.length).1, ?_, u2, by rw [uniK_len, hm]⟩
  unfold stepM appA
  simp only
  rw [if_neg (by simp), if_neg (by simp), if_pos u1]
theorem srch_sound {ts : List AtomC} (hts : fineTo ts) : ∀ {fs : List AtomC} {m y : List Int}, m.length = 20 → srch ts fs m = some y → ExtM m y ∧ (∀ a ∈ fs, appA (mFun y) a ∈ ts) ∧ y.length = 20
  | [], m, y, hm, h => by
    simp only [srch, Option.some.injEq] at h
    subst h
    exact ⟨fun k hk hne => rfl, (fun a ha => by cases ha), hm⟩
  | a :: fs, m, y, hm, h => by
    simp only [srch] at h
    obtain ⟨b, hb, h⟩ := List.exists_of_findSome?_eq_some h
    cases hs : stepM a b m with
    | none => rw [hs] at h; cases h
    | some x =>
      rw [hs] at h
      obtain ⟨e1, e2, e3⟩ := stepM_sound hm (hts b hb) hs
      obtain ⟨i1, i2, i3⟩ := srch_sound hts (m := x) e3 h
      refine ⟨ext_trans e1 i1, fun c hc => ?_, i3⟩
      rcases List.mem_cons.1 hc with rfl | hc
      · have : appA (mFun y) c = b := by
          have h1 : c.1 = b.1 := congrArg (·.1) e2
          have h2 : c.2.map (app (mFun x)) = b.2 := congrArg (·.2) e2
          unfold appA
          rw [h1]
          have h3 : c.2.map (app (mFun y)) = b.2 := by
            rw [← h2]
            apply List.map_congr_left
            intro t ht
            refine app_ext i1 ?_ rfl
            have : app (mFun x) t ∈ b.2 := by rw [← h2]; exact List.mem_map.2 ⟨t, ht, rfl⟩
            exact hts b hb _ this
          rw [h3]
        rw [this]
        exact hb
      · exact i2 c hc
theorem srch_complete {ts : List AtomC} {h : Int → Int} : ∀ {fs : List AtomC} {m : List Int}, m.length = 20 → SubM m h → (∀ a ∈ fs, appA h a ∈ ts) → (srch ts fs m).isSome = true
  | [], m, _, _, _ => rfl
  | a :: fs, m, hm, hs, ha => by
    simp only [srch]
    rw [List.findSome?_isSome_iff]
    refine ⟨appA h a, ha a (by simp), ?_⟩
    obtain ⟨x, h1, h2, h3⟩ := stepM_complete hm hs (a := a) rfl
    rw [h1]
    exact srch_complete (m := x) h3 h2 fun c hc => ha c (by simp [hc])
theorem emptyM_sub (h : Int → Int) : SubM emptyM h := fun k hk hne => by
  exfalso
  apply hne
  unfold emptyM
  rw [List.getD_eq_getElem?_getD, List.getElem?_replicate, if_pos hk]
  rfl
def fineQT (t : QueryT) : Prop := (∀ y ∈ t.1, y ≠ unm) ∧ fineTo t.2
theorem mapP_sound {f t : QueryT} (ht : fineQT t) {y : List Int} (h : mapP f t = some y) : IsHom (mFun y) f t := by
  unfold mapP at h
  split at h
  · cases h
  · rename_i h1
    split at h
    · rename_i h2
      have hl : f.1.length = t.1.length := by
        have : (f.1.length : Int) = t.1.length := by simpa using h1
        omega
      have he : emptyM.length = 20 := by simp [emptyM]
      obtain ⟨s1, s2⟩ := uniK_sound he hl ht.1 _ (Nat.le_refl _) h2
      obtain ⟨i1, i2, i3⟩ := srch_sound ht.2 (by rw [uniK_len, he]) h
      refine ⟨map_of_getD hl fun j hj => ?_, i2⟩
      have hjl : j < t.1.length := by omega
      exact app_ext i1 (by rw [getD_int hjl]; exact ht.1 _ (List.getElem_mem hjl)) (s2 j hj)
    · cases h
theorem mapP_iff {f t : QueryT} (ht : fineQT t) : (mapP f t).isSome = true ↔ ∃ h, IsHom h f t := by
  constructor
  · intro h
    obtain ⟨y, hy⟩ := Option.isSome_iff_exists.1 h
    exact ⟨_, mapP_sound ht hy⟩
  · rintro ⟨h, h1, h2⟩
    have he : emptyM.length = 20 := by simp [emptyM]
    obtain ⟨u1, u2⟩ := uniK_complete he (emptyM_sub h) h1 _ (Nat.le_refl _)
    unfold mapP
    have hl : f.1.length = t.1.length := by rw [← h1]; simp
    rw [if_neg (by simp [hl]), if_pos u1]
    exact srch_complete (by rw [uniK_len, he]) u2 h2
theorem isQuery_fineQT {s : List Int} {q : QueryT} (h : isQuery s q = true) : fineQT q := by
  simp only [isQuery, fineQ, terms3, Bool.and_eq_true, List.all_eq_true] at h
  obtain ⟨_, ⟨h1, _⟩, _, h2, _⟩ := h
  have ht : ∀ t, isTerm t = true → t ≠ unm := fun t ht => by
    simp only [isTerm, inR, Bool.and_eq_true, decide_eq_true_eq] at ht
    unfold unm
    omega
  refine ⟨fun t hm => ht t (h1 t hm), fun a ha t hm => ht t ?_⟩
  have := h2 a ha
  simp only [isAtom, Bool.and_eq_true, List.all_eq_true] at this
  exact this.2 t hm
theorem contP_iff (s : List Int) (a b : QueryT) : contP s a b = true ↔ isQuery s a = true ∧ isQuery s b = true ∧ ∃ h, IsHom h b a := by
  unfold contP
  simp only [Bool.and_eq_true]
  constructor
  · rintro ⟨⟨hb, ha⟩, hm⟩
    exact ⟨ha, hb, (mapP_iff (isQuery_fineQT ha)).1 hm⟩
  · rintro ⟨ha, hb, hm⟩
    exact ⟨⟨hb, ha⟩, (mapP_iff (isQuery_fineQT ha)).2 hm⟩
end Go.Proofs.YtcjdfeafcmfgpaaGreatD
set_option linter.unusedVariables false
set_option linter.unusedSimpArgs false
set_option maxRecDepth 100000
namespace Go.Proofs.YtcjdfeafcmfgpaaGreatD
open Go Go.Proofs
theorem val_app (v h : Int → Int) (t : Int) : val (fun k => val v (h k)) t = val v (app h t) := by
  unfold app
  cases hv : isVar t with
  | true =>
    rw [if_pos rfl]
    show (if isVar t = true then val v (h t) else -1 - t) = _
    rw [if_pos hv]
  | false =>
    rw [if_neg (by simp)]
    unfold val
    simp only [hv, Bool.false_eq_true, if_false]
theorem sat_hom {h v : Int → Int} {f t : QueryT} {db : List FactC} (hh : IsHom h f t) (hs : Sat v db t.2) : Sat (fun k => val v (h k)) db f.2 ∧ f.1.map (val fun k => val v (h k)) = t.1.map (val v) := by
  obtain ⟨h1, h2⟩ := hh
  refine ⟨fun a ha => ?_, ?_⟩
  · have := hs _ (h2 a ha)
    have e : valA (fun k => val v (h k)) a = valA v (appA h a) := by
      refine Prod.ext rfl ?_
      show a.2.map _ = (a.2.map (app h)).map (val v)
      rw [List.map_map]
      exact List.map_congr_left fun t _ => val_app v h t
    rw [e]
    exact this
  · rw [← h1, List.map_map]
    exact List.map_congr_left fun t _ => val_app v h t
theorem ans_empty {s : List Int} {q : QueryE} {db : List FactC} {x : List Int} (h : x ∈ answersS s q db) : isQuery s q = true ∧ isDb s db = true := by
  unfold answersS at h
  split at h
  · rename_i hc
    exact Bool.and_eq_true_iff.1 hc
  · cases h
theorem cont_sound {s : List Int} {a b : QueryT} (hc : contP s a b = true) (db : List FactC) {x : List Int} (hx : x ∈ answersS s a db) : x ∈ answersS s b db := by
  obtain ⟨ha, hb, h, hh⟩ := (contP_iff s a b).1 hc
  obtain ⟨_, hd⟩ := ans_empty hx
  obtain ⟨v, hv, rfl⟩ := (ans_iff ha hd x).1 hx
  obtain ⟨h1, h2⟩ := sat_hom hh hv
  exact (ans_iff hb hd _).2 ⟨_, h1, h2.symm⟩
end Go.Proofs.YtcjdfeafcmfgpaaGreatD
set_option linter.unusedVariables false
set_option linter.unusedSimpArgs false
set_option maxRecDepth 100000
namespace Go.Proofs.YtcjdfeafcmfgpaaGreatD
open Go Go.Proofs
theorem inR_bd {x lo hi : Int} (h : inR x lo hi = true) : lo ≤ x ∧ x ≤ hi := by simpa [inR] using h
def fzv (x : Int) : Int := 80 + x
theorem fz_val {t : Int} (h : isTerm t = true) : fz t = val fzv t := by
  have := term_rng h
  unfold fz val fzv
  cases hv : isVar t with
  | true =>
    have h0 := (var_iff h).1 hv
    rw [if_neg (by omega), if_pos rfl]
  | false =>
    have h0 : ¬ 0 ≤ t := fun h0 => by rw [(var_iff h).2 h0] at hv; cases hv
    rw [if_pos (by omega)]
    simp
theorem isQ_facts {s : List Int} {q : QueryT} (h : isQuery s q = true) : isSchema s = true ∧ q.1.all isTerm = true ∧ q.1.length ≤ 3 ∧ q.2.length ≤ 4 ∧ ∀ a ∈ q.2, takesS s a.1 a.2.length = true ∧ a.2.all isTerm = true := by
  simp only [isQuery, fineQ, terms3, Bool.and_eq_true, decide_eq_true_eq] at h
  obtain ⟨h1, ⟨h2, h3⟩, h4, h5, h6⟩ := h
  refine ⟨h1, h2, h3, by have := inR_bd h4; omega, fun a ha => ?_⟩
  have := List.all_eq_true.1 h5 a ha
  simp only [isAtom, Bool.and_eq_true] at this
  exact this
theorem takes_len {s : List Int} {r n : Int} (h : takesS s r n = true) : n ≤ 3 := by
  simp only [takesS, Bool.and_eq_true, decide_eq_true_eq] at h
  obtain ⟨h1, h2, h3⟩ := h
  have h4 := inR_bd h2
  obtain ⟨k, rfl⟩ : ∃ k : Nat, r = k := ⟨r.toNat, by omega⟩
  have hk : k < s.length := by omega
  rw [Int.toNat_natCast] at h3
  have : s.getD k 0 = s[k] := by simp [List.getD_eq_getElem?_getD, hk]
  rw [this] at h3
  unfold isSchema at h1
  simp only [Bool.and_eq_true, List.all_eq_true] at h1
  have h5 := inR_bd (h1.1 s[k] (List.getElem_mem hk))
  omega
theorem frz_ok {s : List Int} {q : QueryT} (h : isQuery s q = true) : frzOk q = true := by
  obtain ⟨h1, h2, h3, h4, h5⟩ := isQ_facts h
  simp only [frzOk, terms3, Bool.and_eq_true, decide_eq_true_eq, List.all_eq_true]
  refine ⟨⟨⟨List.all_eq_true.1 h2, h3⟩, by omega⟩, fun a ha => ⟨List.all_eq_true.1 (h5 a ha).2, ?_⟩⟩
  have := takes_len (h5 a ha).1
  omega
theorem strict_go {s : List Int} : ∀ (db : List FactC) (p : Option FactC), Strict ltF db → (∀ f ∈ db, isFact s f = true) → (∀ y, p = some y → ∀ f ∈ db, ltF y f = true) → dbGo s p db = true
  | [], p, _, _, _ => by cases p <;> rfl
  | x :: r, p, hs, hf, hp => by
    obtain ⟨h1, h2⟩ := List.pairwise_cons.1 hs
    simp only [dbGo, Bool.and_eq_true]
    refine ⟨⟨hf x (by simp), ?_⟩, strict_go r (some x) h2 (fun f hf' => hf f (by simp [hf'])) fun y hy f hf' => by cases hy; exact h1 f hf'⟩
    cases p with
    | none => rfl
    | some y => exact hp y rfl x (by simp)
theorem fz_rng {t : Int} (h : isTerm t = true) : 0 ≤ fz t ∧ fz t ≤ 99 := by
  have := term_rng h
  unfold fz
  split <;> omega
theorem frz_mem (q : QueryT) (a : FactC) : a ∈ (q.2.map fzF).foldl putF [] ↔ ∃ c ∈ q.2, fzF c = a := by
  rw [(putAll (q.2.map fzF) [] List.Pairwise.nil).2 a]
  simp
theorem frz_db {s : List Int} {q : QueryT} (h : isQuery s q = true) : isDb s (pFreeze q).1 = true := by
  obtain ⟨h1, h2, h3, h4, h5⟩ := isQ_facts h
  unfold pFreeze
  rw [if_pos (frz_ok h)]
  have hst := (putAll (q.2.map fzF) [] List.Pairwise.nil).1
  simp only [isDb, Bool.and_eq_true, decide_eq_true_eq]
  refine ⟨strict_go _ none hst (fun f hf => ?_) (fun y hy => by cases hy), h1, ?_⟩
  · obtain ⟨c, hc, rfl⟩ := (frz_mem q f).1 hf
    obtain ⟨t1, t2⟩ := h5 c hc
    simp only [isFact, isVals, fzF, Bool.and_eq_true, List.length_map, List.all_eq_true, List.mem_map]
    refine ⟨t1, ?_⟩
    rintro y ⟨t, ht, rfl⟩
    have := fz_rng (List.all_eq_true.1 t2 t ht)
    simp [inR, this.1, this.2]
  · have h6 := (short_fold (q.2.map fzF) [] (fun x hx => by
      obtain ⟨c, hc, rfl⟩ := List.mem_map.1 hx
      have := takes_len (h5 c hc).1
      simp only [fzF, List.length_map]
      omega) (fun x hx => by cases hx)).2
    simp only [List.length_map, List.length_nil] at h6
    omega
theorem frz_ans {s : List Int} {q : QueryT} (h : isQuery s q = true) : (pFreeze q).2 ∈ answersS s q (pFreeze q).1 := by
  obtain ⟨h1, h2, h3, h4, h5⟩ := isQ_facts h
  refine (ans_iff h (frz_db h) _).2 ⟨fzv, ?_, ?_⟩
  all_goals
    unfold pFreeze
    rw [if_pos (frz_ok h)]
  · intro a ha
    refine (frz_mem q _).2 ⟨a, ha, Prod.ext rfl ?_⟩
    exact List.map_congr_left fun t ht => fz_val (List.all_eq_true.1 (h5 a ha).2 t ht)
  · exact List.map_congr_left fun t ht => fz_val (List.all_eq_true.1 h2 t ht)
def unf (x : Int) : Int := if x < 80 then -1 - x else x - 80
theorem unf_fz {t : Int} (h : isTerm t = true) : unf (fz t) = t := by
  have := term_rng h
  unfold unf fz
  split <;> split <;> omega
theorem unf_val {v : Int → Int} {t : Int} (h : isTerm t = true) : unf (val v t) = app (fun k => unf (v k)) t := by
  have := term_rng h
  unfold val app
  cases hv : isVar t with
  | true => rfl
  | false =>
    have h0 : ¬ 0 ≤ t := fun h0 => by rw [(var_iff h).2 h0] at hv; cases hv
    simp only [Bool.false_eq_true, if_false]
    unfold unf
    rw [if_pos (by omega)]
    omega
theorem unf_list {xs : List Int} (h : xs.all isTerm = true) : (xs.map fz).map unf = xs := by
  rw [List.map_map]
  refine (List.map_congr_left fun t ht => ?_).trans (List.map_id xs)
  exact unf_fz (List.all_eq_true.1 h t ht)
theorem frz_cex {s : List Int} {a b : QueryT} (ha : isQuery s a = true) (hb : isQuery s b = true) (hx : (pFreeze a).2 ∈ answersS s b (pFreeze a).1) : contP s a b = true := by
  obtain ⟨_, a2, _, _, a5⟩ := isQ_facts ha
  obtain ⟨_, b2, _, _, b5⟩ := isQ_facts hb
  obtain ⟨v, hv, he⟩ := (ans_iff hb (frz_db ha) _).1 hx
  unfold pFreeze at hv he
  rw [if_pos (frz_ok ha)] at hv he
  refine (contP_iff s a b).2 ⟨ha, hb, fun k => unf (v k), ?_, fun c hc => ?_⟩
  · have : a.1.map fz = b.1.map (val v) := he
    rw [← unf_list a2, this, List.map_map]
    exact List.map_congr_left fun t ht => (unf_val (List.all_eq_true.1 b2 t ht)).symm
  · obtain ⟨d, hd, hde⟩ := (frz_mem a _).1 (hv c hc)
    have h1 : d.1 = c.1 := by have e := congrArg Prod.fst hde; exact e
    have h2 : d.2.map fz = c.2.map (val v) := by have e := congrArg Prod.snd hde; exact e
    have : appA (fun k => unf (v k)) c = d := by
      refine Prod.ext h1.symm ?_
      show c.2.map _ = d.2
      rw [← unf_list (a5 d hd).2, h2, List.map_map]
      exact List.map_congr_left fun t ht => (unf_val (List.all_eq_true.1 (b5 c hc).2 t ht)).symm
    rw [this]
    exact hd
end Go.Proofs.YtcjdfeafcmfgpaaGreatD
set_option linter.unusedVariables false
set_option linter.unusedSimpArgs false
set_option maxRecDepth 100000
namespace Go.Proofs.YtcjdfeafcmfgpaaGreatD
open Go Go.Proofs
def exCon : Exs := { ex := fun f => Nat.beq f 13 || Nat.beq f 17, hid := fun _ => false }
theorem cexV_ro (x : List FactC × List Int × Bool) : roV (.tup [wFactS x.1, intsT x.2.1, cb x.2.2]) = .tup [vFactS x.1, ints x.2.1, cb x.2.2] := by
  show V.tup [roV (wFactS _), roV (intsT _), _] = _
  rw [wFactS_ro, intsT_ro]
  rfl
theorem sdb_ro (s : List Int) (q : QueryW) (db : List FactC) : roV (.tup [vSchema s, wQuery q, wFactS db]) = .tup [vSchema s, vQuery q, vFactS db] := by
  show V.tup [roV _, roV _, roV _] = _
  rw [wQuery_ro, ints_roV, wFactS_ro]
theorem cont_len {s : List Int} {a b : QueryT} (h : contP s a b = true) : isQuery s a = true ∧ isQuery s b = true ∧ a.1.length = b.1.length := by
  obtain ⟨h1, h2, f, hf⟩ := (contP_iff s a b).1 h
  exact ⟨h1, h2, by rw [← hf.1, List.length_map]⟩
set_option maxHeartbeats 16000000 in
theorem law_FnContainment (x0 : List Int) (q0 : x0.length ≤ maxLen ∧ ∀ x ∈ x0, (Lit.int .u8 x).wf = true) : Spec Tryz.prog 3 [.ro x0.length (rows (fun x => [.sc (.int .u8 x)]) x0)] (cb true) := by
  show Spec Tryz.prog 3 [.ro x0.length (rows cu8 x0)] (cb true)
  refine Spec_ofE (ex := exCon) mx Γ_ok Tryz.func3 rfl ?_
  conv => whnf
  refine ⟨_, big_spec x0, .inl rfl, .inl ?_⟩
  conv => whnf
  generalize hb : decide ((x0.length : Int) > 1048576) = b
  cases b with
  | true =>
    conv => whnf
    rfl
  | false =>
  have hl : x0.length ≤ 1099511627776 := by have := of_decide_eq_false hb; omega
  conv => whnf
  refine .inr (.inr ⟨[], [], ?_⟩)
  conv => whnf
  refine ⟨_, drawIsContained_g x0 hl, fun r g2 hP => ?_⟩
  obtain ⟨s, a, b, hr, hs, ha, hb, rfl⟩ := hP
  have hss : cSchema s ≤ 1048576 := by show s.length ≤ _; omega
  have hal : a.1.length ≤ 1048576 := by unfold cQuery at ha; omega
  have hbl : b.1.length ≤ 1048576 := by unfold cQuery at hb; omega
  refine .inl ?_
  rw [hr]
  conv => whnf
  refine ⟨_, implIsContained_spec s a b hss ha hb, .inl rfl, .inl ?_⟩
  generalize his : contP s a b = is
  conv => whnf
  refine ⟨_, specIsContained_spec s a b hss ha hb, .inl rfl, .inl ?_⟩
  rw [his]
  conv => whnf
  rw [bne_self_eq_false]
  conv => whnf
  refine ⟨_, implIsEquivalent_spec s a b hss ha hb, .inl rfl, .inl ?_⟩
  rw [his]
  cases is with
  | true =>
    obtain ⟨qa, qb, hlen⟩ := cont_len his
    conv => whnf
    refine ⟨_, implIsContained_spec s b a hss hb ha, .inl rfl, .inl ?_⟩
    rw [Bool.true_and]
    conv => whnf
    rw [bne_self_eq_false]
    conv => whnf
    refine .inr (.inr ⟨[], [], ?_⟩)
    conv => whnf
    refine ⟨_, drawAnswers_g x0 hl, fun r g2 hP => ?_⟩
    obtain ⟨s', q', db, rfl, _, _, _, hdb, rfl⟩ := hP
    have hds := smDb_size hdb (by omega) (by omega)
    refine .inl ?_
    rw [sdb_ro]
    conv => whnf
    refine ⟨[0, 1, 2, 3, 4, 6, 7, 8, 5, 9, 10, 11, 12], by kernel_rfl, ?_⟩
    conv => whnf
    refine ⟨_, specAnswers_spec s a db hss ha hds, .inl rfl, .inl ?_⟩
    rw [wLists_ro]
    conv => whnf
    refine ⟨_, specAnswers_spec s b db hss hb hds, .inl rfl, .inl ?_⟩
    rw [wLists_ro]
    conv => whnf
    obtain ⟨a1, a2⟩ := answersS_size s a db
    obtain ⟨b1, b2⟩ := answersS_size s b db
    refine ⟨_, lawWithin_spec (answersS s a db) (answersS s b db) (by omega) (fun y hy => by rw [a2 y hy]; omega) (by omega) (fun y hy => by rw [b2 y hy]; omega), .inl rfl, .inl ?_⟩
    rw [(withinL_iff _ _).2 fun x hx => cont_sound his db hx]
    conv => whnf
    have hcex : pCounterExample s a b = ([], [], false) := by simp [pCounterExample, cexOk, his]
    refine ⟨_, implCounterExample_spec s a b hss ha hb, .inl rfl, .inl ?_⟩
    rw [cexV_ro, hcex]
    conv => whnf
    refine ⟨_, specIsQuery_spec s a hss ha, .inl rfl, .inl ?_⟩
    rw [qa]
    conv => whnf
    refine ⟨_, specIsQuery_spec s b hss hb, .inl rfl, .inl ?_⟩
    rw [qb]
    conv => whnf
    rw [show ((a.1.length : Int) == (b.1.length : Int)) = true from by rw [hlen]; exact beq_self_eq_true _]
    conv => whnf
    rfl
  | false =>
    conv => whnf
    refine .inr (.inr ⟨[], [], ?_⟩)
    conv => whnf
    refine ⟨_, drawAnswers_g x0 hl, fun r g2 hP => ?_⟩
    obtain ⟨s', q', db, rfl, _, _, _, hdb, rfl⟩ := hP
    refine .inl ?_
    rw [sdb_ro]
    conv => whnf
    refine ⟨[0, 1, 2, 3, 4, 6, 7, 8, 5, 9, 10, 11, 12], by kernel_rfl, ?_⟩
    conv => whnf
    refine ⟨_, implCounterExample_spec s a b hss ha hb, .inl rfl, .inl ?_⟩
    rw [cexV_ro]
    generalize hc : cexOk s a b = c
    cases c with
    | false =>
      have hcex : pCounterExample s a b = ([], [], false) := by simp [pCounterExample, hc]
      rw [hcex]
      conv => whnf
      refine ⟨_, specIsQuery_spec s a hss ha, .inl rfl, .inl ?_⟩
      generalize hqa : isQuery s a = qa
      cases qa with
      | false =>
        conv => whnf
        rfl
      | true =>
        conv => whnf
        refine ⟨_, specIsQuery_spec s b hss hb, .inl rfl, .inl ?_⟩
        generalize hqb : isQuery s b = qb
        cases qb with
        | false =>
          conv => whnf
          rfl
        | true =>
          conv => whnf
          have hlen : ((a.1.length : Int) == (b.1.length : Int)) = false := by
            simp only [cexOk, hqa, hqb, his, Bool.true_and, Bool.not_false, Bool.and_true, decide_eq_false_iff_not] at hc
            simp only [beq_eq_false_iff_ne, ne_eq]
            omega
          rw [hlen]
          conv => whnf
          rfl
    | true =>
      have hcex : pCounterExample s a b = ((pFreeze a).1, (pFreeze a).2, true) := by simp [pCounterExample, hc]
      simp only [cexOk, Bool.and_eq_true, decide_eq_true_eq] at hc
      obtain ⟨⟨⟨qa, qb⟩, hlen⟩, _⟩ := hc
      obtain ⟨f1, f2⟩ := small_Freeze a ha
      rw [hcex]
      conv => whnf
      refine ⟨_, specIsQuery_spec s a hss ha, .inl rfl, .inl ?_⟩
      rw [qa]
      conv => whnf
      refine ⟨_, specIsQuery_spec s b hss hb, .inl rfl, .inl ?_⟩
      rw [qb]
      conv => whnf
      rw [show ((a.1.length : Int) == (b.1.length : Int)) = true from by rw [hlen]; exact beq_self_eq_true _]
      conv => whnf
      refine ⟨_, specIsAnswer_spec s a (pFreeze a).1 (pFreeze a).2 hss ha f1 (by omega), .inl rfl, .inl ?_⟩
      rw [(hasL_iff _ _).2 (frz_ans qa)]
      conv => whnf
      refine ⟨_, specIsAnswer_spec s b (pFreeze a).1 (pFreeze a).2 hss hb f1 (by omega), .inl rfl, .inl ?_⟩
      have hno : hasL (answersS s b (pFreeze a).1) (pFreeze a).2 = false := by
        cases h : hasL (answersS s b (pFreeze a).1) (pFreeze a).2 with
        | false => rfl
        | true =>
          have := frz_cex qa qb ((hasL_iff _ _).1 h)
          rw [his] at this
          cases this
      rw [hno]
      conv => whnf
      refine ⟨_, implIsAnswer_spec s a (pFreeze a).1 (pFreeze a).2 hss ha f1 (by omega), .inl rfl, .inl ?_⟩
      rw [(hasL_iff _ _).2 (frz_ans qa)]
      conv => whnf
      rfl
end Go.Proofs.YtcjdfeafcmfgpaaGreatD
