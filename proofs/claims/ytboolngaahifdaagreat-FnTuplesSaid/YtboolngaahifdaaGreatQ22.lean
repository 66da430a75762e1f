/- Contracts and plain laws of this seat; no condition. -/
import Derived.Test.YtboolngaahifdaaGreatQ20
import Derived.Test.YtboolngaahifdaaGreatQ21
import Derived.Test.YtboolngaahifdaaGreatQ18
set_option linter.unusedVariables false
set_option linter.unusedSimpArgs false
set_option maxRecDepth 100000
namespace Go.Proofs.YtboolngaahifdaaGreatD
open Go Go.Proofs
def ViewF (vs : List QueryT) (db : List FactC) (f : FactC) : Prop := ∃ w : Int → Int, Sat w db (viewAt vs f).2 ∧ f.2 = (viewAt vs f).1.map (val w)
theorem val_congr {v w : Int → Int} {t : Int} (h : isVar t = true → v t = w t) : val v t = val w t := by
 unfold val
 cases hv : isVar t with
 | false => rfl
 | true => simpa using h hv
theorem nxtF_free (u : List Int) : ∀ (f v : Nat), top u - v ≤ f → has u (nxtF u f v : Int) = false
 | 0, v, h => by
  cases hh : has u ((nxtF u 0 v : Nat) : Int) with
  | false => rfl
  | true =>
   have hh' : has u (v : Int) = true := hh
   have := top_has hh'
   omega
 | f + 1, v, h => by
  rw [nxtF]
  split
  ·exact nxtF_free u f (v + 1) (by omega)
  ·rename_i hc
   simpa using hc
theorem nx_free (u : List Int) (v : Nat) : has u (nx u v : Int) = false := nxtF_free u _ v (Nat.le_refl _)
theorem has_app1 (xs : List Int) (y x : Int) : has (xs ++ [y]) x = (has xs x || (y == x)) := by rw [has_append, has_one]
theorem getD_sn {l : List Int} {x : Int} {i : Nat} (h : i < l.length) : (l ++ [x]).getD i 0 = l.getD i 0 := by
 simp [List.getD_eq_getElem?_getD, List.getElem?_append_left h]
theorem getD_ls {l : List Int} {x : Int} {i : Nat} (h : i = l.length) : (l ++ [x]).getD i 0 = x := by
 subst h; simp [List.getD_eq_getElem?_getD]
theorem frK_free (vars u : List Int) : ∀ k, (frK vars u k).2.2.length = k ∧ (∀ x, has u x = true → has (frK vars u k).2.1 x = true) ∧
  (∀ i, i < k → has vars (i : Int) = true → has u ((frK vars u k).2.2.getD i 0) = false ∧ has (frK vars u k).2.1 ((frK vars u k).2.2.getD i 0) = true ∧ 0 ≤ (frK vars u k).2.2.getD i 0) ∧
  ∀ i j, i < j → j < k → has vars (i : Int) = true → has vars (j : Int) = true → (frK vars u k).2.2.getD i 0 ≠ (frK vars u k).2.2.getD j 0
 | 0 => ⟨rfl, fun x h => h, fun i h => absurd h (Nat.not_lt_zero _), fun i j _ h => absurd h (Nat.not_lt_zero _)⟩
 | k + 1 => by
  obtain ⟨h0, h1, h2, h3⟩ := frK_free vars u k
  rw [frK_succ, frS]
  generalize frK vars u k = r at h0 h1 h2 h3
  obtain ⟨v, U, T⟩ := r
  simp only at h0 h1 h2 h3 ⊢
  split
  ·rename_i hk
   have hf := nx_free U v
   have hfu : has u (nx U v : Int) = false := by
    cases hh : has u (nx U v : Int) with
    | false => rfl
    | true => rw [h1 _ hh] at hf; cases hf
   refine ⟨by simp [h0], fun x hx => ?_, fun i hi hv => ?_, fun i j hij hj hvi hvj => ?_⟩
   ·show has (U ++ [_]) x = true
    rw [has_app1, h1 x hx]; rfl
   ·show has u ((T ++ [_]).getD i 0) = false ∧ has (U ++ [_]) ((T ++ [_]).getD i 0) = true ∧ 0 ≤ (T ++ [_]).getD i 0
    by_cases hik : i = k
    ·rw [getD_ls (by omega)]
     exact ⟨hfu, by rw [has_app1]; simp, Int.natCast_nonneg _⟩
    ·rw [getD_sn (by omega)]
     obtain ⟨a, b, c⟩ := h2 i (by omega) hv
     exact ⟨a, by rw [has_app1, b]; rfl, c⟩
   ·show (T ++ [_]).getD i 0 ≠ (T ++ [_]).getD j 0
    rw [getD_sn (by omega)]
    by_cases hjk : j = k
    ·rw [getD_ls (by omega)]
     intro e
     have := (h2 i (by omega) hvi).2.1
     rw [e, hf] at this
     cases this
    ·rw [getD_sn (by omega)]
     exact h3 i j hij (by omega) hvi hvj
  ·rename_i hk
   have hk' : has vars (k : Int) = false := by simpa using hk
   refine ⟨by simp [h0], fun x hx => h1 x hx, fun i hi hv => ?_, fun i j hij hj hvi hvj => ?_⟩
   ·have hik : i ≠ k := fun e => by subst e; rw [hk'] at hv; cases hv
    show has u ((T ++ [_]).getD i 0) = false ∧ has U ((T ++ [_]).getD i 0) = true ∧ 0 ≤ (T ++ [_]).getD i 0
    rw [getD_sn (by omega)]
    exact h2 i (by omega) hv
   ·have hjk : j ≠ k := fun e => by subst e; rw [hk'] at hvj; cases hvj
    show (T ++ [_]).getD i 0 ≠ (T ++ [_]).getD j 0
    rw [getD_sn (by omega), getD_sn (by omega)]
    exact h3 i j hij (by omega) hvi hvj
def joinV (vars T : List Int) (w V : Int → Int) (x : Int) : Int := match (List.range 20).find? fun i : Nat => has vars (i : Int) && (T.getD i 0 == x) with
 | some i => w (i : Int)
 | none => V x
structure FreshOk (q : QueryT) (u : List Int) (r : Nat × List Int × List Int) : Prop where
 len : r.2.2.length = 20
 keep : ∀ x, has u x = true → has r.2.1 x = true
 new : ∀ i : Nat, i < 20 → has (varsOf q) (i : Int) = true → has u (r.2.2.getD i 0) = false ∧ has r.2.1 (r.2.2.getD i 0) = true ∧ 0 ≤ r.2.2.getD i 0 ∧ r.2.2.getD i 0 < 20
 inj : ∀ i j : Nat, i < j → j < 20 → has (varsOf q) (i : Int) = true → has (varsOf q) (j : Int) = true → r.2.2.getD i 0 ≠ r.2.2.getD j 0
theorem fresh_ok (q : QueryT) (u : List Int) (h : (fresh q u).1 < 20) : FreshOk q u (fresh q u) := by
 obtain ⟨h0, h1, h2, h3⟩ := frK_free (varsOf q) u 20
 have hf := frK_fine (varsOf q) u 20 (Nat.le_refl _) h
 refine ⟨h0, h1, fun i hi hv => ?_, h3⟩
 obtain ⟨a, b, c⟩ := h2 i hi hv
 refine ⟨a, b, c, hf _ ?_⟩
 show (frK (varsOf q) u 20).2.2.getD i 0 ∈ _
 rw [getD_int (by omega)]
 exact List.getElem_mem _
theorem joinV_new {q : QueryT} {u : List Int} {r : Nat × List Int × List Int} (hr : FreshOk q u r) (w V : Int → Int) {i : Nat} (hi : i < 20) (hv : has (varsOf q) (i : Int) = true) : joinV (varsOf q) r.2.2 w V (r.2.2.getD i 0) = w (i : Int) := by
 unfold joinV
 cases hf : (List.range 20).find? fun j : Nat => has (varsOf q) (j : Int) && (r.2.2.getD j 0 == r.2.2.getD i 0) with
 | none =>
  have := List.find?_eq_none.1 hf i (List.mem_range.2 hi)
  simp [hv] at this
 | some j =>
  have h1 := List.find?_some hf
  have h2 := List.mem_range.1 (List.mem_of_find?_eq_some hf)
  simp only [Bool.and_eq_true, beq_iff_eq] at h1
  simp only
  rcases Nat.lt_trichotomy i j with h | h | h
  ·exact absurd h1.2.symm (hr.inj i j h h2 hv h1.1)
  ·rw [h]
  ·exact absurd h1.2 (hr.inj j i h hi h1.1 hv)
theorem joinV_old {q : QueryT} {u : List Int} {r : Nat × List Int × List Int} (hr : FreshOk q u r) (w V : Int → Int) {x : Int} (hx : has u x = true) : joinV (varsOf q) r.2.2 w V x = V x := by
 unfold joinV
 cases hf : (List.range 20).find? fun j : Nat => has (varsOf q) (j : Int) && (r.2.2.getD j 0 == x) with
 | none => rfl
 | some j =>
  have h1 := List.find?_some hf
  have h2 := List.mem_range.1 (List.mem_of_find?_eq_some hf)
  simp only [Bool.and_eq_true, beq_iff_eq] at h1
  have := (hr.new j h2 h1.1).1
  rw [h1.2, hx] at this
  cases this
theorem ren1_neg {T : List Int} {t : Int} (h : t < 0) : ren1 T t = t := by
 unfold ren1
 rw [if_neg (by simp [inR]; omega)]
theorem ren1_pos {T : List Int} (hT : T.length = 20) {i : Nat} (hi : i < 20) : ren1 T (i : Int) = T.getD i 0 := by
 unfold ren1
 rw [if_pos (by simp [inR, hT]; omega), Int.toNat_natCast]
def InQ (q : QueryT) (t : Int) : Prop := isTerm t = true ∧ (isVar t = true → occurs q t = true ∨ has q.1 t = true)
theorem inQ_var {q : QueryT} {t : Int} (h : InQ q t) (hv : isVar t = true) : ∃ i : Nat, i < 20 ∧ t = (i : Int) ∧ has (varsOf q) (i : Int) = true := by
 have hr := term_rng h.1
 have h0 := (var_iff h.1).1 hv
 refine ⟨t.toNat, by omega, by omega, ?_⟩
 have e : ((t.toNat : Nat) : Int) = t := by omega
 rw [has_varsOf q _ (by omega)]
 unfold pvar
 rw [e]
 rcases h.2 hv with h | h <;> simp [h]
theorem join_val {q : QueryT} {u : List Int} {r : Nat × List Int × List Int} (hr : FreshOk q u r) (w V : Int → Int) {t : Int} (ht : InQ q t) : val (joinV (varsOf q) r.2.2 w V) (ren1 r.2.2 t) = val w t := by
 cases hv : isVar t with
 | false =>
  have := nonvar_neg ht.1 hv
  rw [ren1_neg this, val_neg this, val_neg this]
 | true =>
  obtain ⟨i, hi, rfl, hh⟩ := inQ_var ht hv
  obtain ⟨_, _, a, b⟩ := hr.new i hi hh
  rw [ren1_pos hr.len hi]
  unfold val
  rw [if_pos (show isVar _ = true by simp only [isVar, inR, Bool.and_eq_true, decide_eq_true_eq]; omega), hv, if_pos rfl]
  exact joinV_new hr w V hi hh
theorem ren_term {q : QueryT} {u : List Int} {r : Nat × List Int × List Int} (hr : FreshOk q u r) {t : Int} (ht : InQ q t) : isTerm (ren1 r.2.2 t) = true ∧ (isVar (ren1 r.2.2 t) = true → has r.2.1 (ren1 r.2.2 t) = true) := by
 cases hv : isVar t with
 | false =>
  have := nonvar_neg ht.1 hv
  rw [ren1_neg this, hv]
  exact ⟨ht.1, fun h => by cases h⟩
 | true =>
  obtain ⟨i, hi, rfl, hh⟩ := inQ_var ht hv
  obtain ⟨_, a, b, c⟩ := hr.new i hi hh
  rw [ren1_pos hr.len hi]
  exact ⟨by simp only [isTerm, inR, Bool.and_eq_true, decide_eq_true_eq]; omega, fun _ => a⟩
theorem inQ_body {q : QueryT} (h : okT q) {a : AtomC} (ha : a ∈ q.2) {t : Int} (ht : t ∈ a.2) : InQ q t := ⟨List.all_eq_true.1 (h.2 a ha) t ht, fun _ => .inl (occurs_mem.2 ⟨a, ha, ht⟩)⟩
theorem mem_has {l : List Int} {t : Int} (h : t ∈ l) : has l t = true := by
 simp only [has, List.any_eq_true]
 exact ⟨t, h, by simp [eqV]⟩
theorem inQ_head {q : QueryT} (h : okT q) {t : Int} (ht : t ∈ q.1) : InQ q t := ⟨List.all_eq_true.1 h.1 t ht, fun _ => .inr (mem_has ht)⟩
def UsedL (u l : List Int) : Prop := ∀ t ∈ l, isTerm t = true ∧ (isVar t = true → has u t = true)
def UsedA (u : List Int) (l : List AtomC) : Prop := ∀ a ∈ l, UsedL u a.2
structure UInv (db : List FactC) (V : Int → Int) (st : U4) : Prop where
 eq : st.2.1.map (val V) = st.2.2.1.map (val V)
 sat : Sat V db st.2.2.2
 ul : UsedL st.1 st.2.1
 ur : UsedL st.1 st.2.2.1
 ub : UsedA st.1 st.2.2.2
theorem used_val {u l : List Int} {V W : Int → Int} (h : UsedL u l) (hv : ∀ x, has u x = true → W x = V x) : l.map (val W) = l.map (val V) :=
 List.map_congr_left fun t ht => val_congr fun hi => hv t ((h t ht).2 hi)
theorem used_valA {u : List Int} {a : AtomC} {V W : Int → Int} (h : UsedL u a.2) (hv : ∀ x, has u x = true → W x = V x) : valA W a = valA V a := Prod.ext rfl (used_val h hv)
theorem usedL_mono {u u' l : List Int} (h : UsedL u l) (hu : ∀ x, has u x = true → has u' x = true) : UsedL u' l := fun t ht => ⟨(h t ht).1, fun hv => hu t ((h t ht).2 hv)⟩
theorem usedL_app {u l m : List Int} (h1 : UsedL u l) (h2 : UsedL u m) : UsedL u (l ++ m) := fun t ht => (List.mem_append.1 ht).elim (h1 t) (h2 t)
theorem renQ_used {q : QueryT} {u : List Int} {r : Nat × List Int × List Int} (hr : FreshOk q u r) (hq : okT q) : UsedL r.2.1 (renQ r.2.2 q).1 ∧ UsedA r.2.1 (renQ r.2.2 q).2 := by
 refine ⟨fun t ht => ?_, fun a ha t ht => ?_⟩
 ·obtain ⟨x, hx, rfl⟩ := List.mem_map.1 ht
  exact ren_term hr (inQ_head hq hx)
 ·obtain ⟨c, hc, rfl⟩ := List.mem_map.1 ha
  obtain ⟨x, hx, rfl⟩ := List.mem_map.1 ht
  exact ren_term hr (inQ_body hq hc hx)
theorem uAll_comp {vs : List QueryT} {db : List FactC} (hV : ∀ a : AtomC, okT (viewAt vs a)) : ∀ (l : List AtomC) {st st' : U4} {V : Int → Int}, UInv db V st → UsedA st.1 l → (∀ a ∈ l, ViewF vs db (valA V a)) → uAll vs l st = some st' →
  ∃ V' : Int → Int, (∀ x, has st.1 x = true → V' x = V x) ∧ UInv db V' st'
 | [], st, st', V, hi, _, _, h => by
  cases h
  exact ⟨V, fun _ _ => rfl, hi⟩
 | a :: r, st, st', V, hi, hul, hvf, h => by
  rw [uAll_cons] at h
  split at h
  ·rename_i hfr
   have hr := fresh_ok _ _ hfr
   have hok := hV a
   obtain ⟨w, hw1, hw2⟩ := hvf a (by simp)
   have hw1' : Sat w db (viewAt vs a).2 := hw1
   have hw2' : a.2.map (val V) = (viewAt vs a).1.map (val w) := hw2
   generalize hW : joinV (varsOf (viewAt vs a)) (fresh (viewAt vs a) st.1).2.2 w V = W
   have hold : ∀ x, has st.1 x = true → W x = V x := fun x hx => by rw [← hW]; exact joinV_old hr w V hx
   obtain ⟨n1, n2⟩ := renQ_used hr hok
   have hi1 : UInv db W (uNext vs st a) := by
    refine ⟨?_, ?_, ?_, ?_, ?_⟩
    ·show (st.2.1 ++ a.2).map (val W) = (st.2.2.1 ++ (renQ (fresh (viewAt vs a) st.1).2.2 (viewAt vs a)).1).map (val W)
     rw [List.map_append, List.map_append, used_val hi.ul hold, used_val hi.ur hold, hi.eq, used_val (hul a (by simp)) hold, hw2']
     congr 1
     show _ = ((viewAt vs a).1.map _).map _
     rw [List.map_map]
     exact List.map_congr_left fun t ht => by rw [← hW]; exact (join_val hr w V (inQ_head hok ht)).symm
    ·intro c hc
     rcases List.mem_append.1 hc with hc | hc
     ·rw [used_valA (hi.ub c hc) hold]
      exact hi.sat c hc
     ·obtain ⟨d, hd, rfl⟩ := List.mem_map.1 hc
      have e : valA W (renA (fresh (viewAt vs a) st.1).2.2 d) = valA w d := by
       refine Prod.ext rfl ?_
       show (d.2.map _).map _ = d.2.map _
       rw [List.map_map]
       exact List.map_congr_left fun t ht => by rw [← hW]; exact join_val hr w V (inQ_body hok hd ht)
      rw [e]
      exact hw1' d hd
    ·exact usedL_app (usedL_mono hi.ul hr.keep) (usedL_mono (hul a (by simp)) hr.keep)
    ·exact usedL_app (usedL_mono hi.ur hr.keep) n1
    ·intro c hc
     rcases List.mem_append.1 hc with hc | hc
     ·exact usedL_mono (hi.ub c hc) hr.keep
     ·exact n2 c hc
   obtain ⟨V', hV1, hV2⟩ := uAll_comp hV r hi1 (fun c hc => usedL_mono (hul c (by simp [hc])) hr.keep) (fun c hc => by
    rw [used_valA (hul c (by simp [hc])) hold]
    exact hvf c (by simp [hc])) h
   exact ⟨V', fun x hx => (hV1 x (hr.keep x hx)).trans (hold x hx), hV2⟩
  ·cases h
def mapE (f : Int → Int) (e : U4) : U4 := (e.1.map f, e.2.1.map f, e.2.2.1.map f, e.2.2.2.map fun a => (a.1, a.2.map f))
theorem mapE_map (f g : Int → Int) (e : U4) : mapE g (mapE f e) = mapE (fun x => g (f x)) e := by
 have e : ((fun a : AtomC => (a.1, a.2.map g)) ∘ fun a : AtomC => (a.1, a.2.map f)) = fun a : AtomC => (a.1, a.2.map fun x => g (f x)) := funext fun a => by
  simp only [Function.comp_apply, List.map_map]
  rfl
 simp only [mapE, List.map_map, e]
 rfl
theorem mapE_congr {f g : Int → Int} (h : ∀ x, f x = g x) (e : U4) : mapE f e = mapE g e := by rw [funext h]
theorem mapE_id (e : U4) : mapE (app id) e = e := by
 rw [mapE_congr app_id]
 simp [mapE]
theorem repE_map (a b : Int) (e : U4) : repE a b e = mapE (rep1 a b) e := rfl
def okTE (e : U4) : Prop := e.1.all isTerm = true ∧ e.2.1.all isTerm = true ∧ e.2.2.1.all isTerm = true ∧ ∀ a ∈ e.2.2.2, a.2.all isTerm = true
theorem all_map {l : List Int} {f : Int → Int} (h : l.all isTerm = true) (hf : ∀ t, isTerm t = true → isTerm (f t) = true) : (l.map f).all isTerm = true :=
 List.all_eq_true.2 fun x hx => by
  obtain ⟨t, ht, rfl⟩ := List.mem_map.1 hx
  exact hf t (List.all_eq_true.1 h t ht)
theorem okTE_map {e : U4} {f : Int → Int} (h : okTE e) (hf : ∀ t, isTerm t = true → isTerm (f t) = true) : okTE (mapE f e) := by
 obtain ⟨h1, h2, h3, h4⟩ := h
 refine ⟨all_map h1 hf, all_map h2 hf, all_map h3 hf, fun a ha => ?_⟩
 obtain ⟨c, hc, rfl⟩ := List.mem_map.1 ha
 exact all_map (h4 c hc) hf
theorem eqE_img {e y : U4} {t u : Int} (ht : isTerm t = true) (hu : isTerm u = true) (h : eqE e t u = some y) : ∃ f : Int → Int, y = mapE (app f) e ∧ (∀ x, isTerm x = true → isTerm (app f x) = true) ∧ app f t = app f u := by
 have rt : ∀ a b : Int, isTerm b = true → ∀ x, isTerm x = true → isTerm (rep1 a b x) = true := fun a b hb x hx => by
  unfold rep1
  split
  ·exact hb
  ·exact hx
 unfold eqE at h
 split at h
 ·rename_i he
  cases h
  exact ⟨id, (mapE_id _).symm, fun x hx => by rw [app_id]; exact hx, by rw [show t = u by simpa using he]⟩
 ·split at h
  ·cases h
  ·rename_i hv
   split at h
   ·rename_i hc
    cases h
    have huv : isVar u = true := by
     cases h1 : isVar t <;> cases h2 : isVar u <;> simp_all
    refine ⟨fun x => if x = u then t else x, ?_, fun x hx => by rw [app_rep huv]; exact rt u t ht x hx, ?_⟩
    ·rw [repE_map]
     exact mapE_congr (fun x => (app_rep huv x).symm) e
    ·rw [app_rep huv, app_rep huv]
     unfold rep1
     simp
   ·rename_i hc
    cases h
    have htv : isVar t = true := by
     cases h1 : isVar t <;> simp_all
    refine ⟨fun x => if x = t then u else x, ?_, fun x hx => by rw [app_rep htv]; exact rt t u hu x hx, ?_⟩
    ·rw [repE_map]
     exact mapE_congr (fun x => (app_rep htv x).symm) e
    ·rw [app_rep htv, app_rep htv]
     unfold rep1
     simp
theorem getD_map0 {l : List Int} {f : Int → Int} {j : Nat} (h : j < l.length) : (l.map f).getD j 0 = f (l.getD j 0) := by
 simp [List.getD_eq_getElem?_getD, h]
theorem all_at {l : List Int} (h : l.all isTerm = true) {j : Nat} (hj : j < l.length) : isTerm (l.getD j 0) = true := by
 rw [getD_int hj]
 exact List.all_eq_true.1 h _ (List.getElem_mem hj)
theorem eqs_img : ∀ (m i : Nat) {e y : U4}, okTE e → e.2.1.length = e.2.2.1.length → i + m ≤ e.2.1.length → (∀ j, j < i → e.2.1.getD j 0 = e.2.2.1.getD j 0) → eqs m i e = some y →
  ∃ f : Int → Int, y = mapE (app f) e ∧ (∀ x, isTerm x = true → isTerm (app f x) = true) ∧ ∀ j, j < i + m → y.2.1.getD j 0 = y.2.2.1.getD j 0
 | 0, i, e, y, _, _, _, hj, h => by
  cases h
  exact ⟨id, (mapE_id _).symm, fun x hx => by rw [app_id]; exact hx, hj⟩
 | m + 1, i, e, y, ht, hl, him, hj, h => by
  rw [eqs_succ] at h
  have h1 : i < e.2.1.length := by omega
  have h2 : i < e.2.2.1.length := by omega
  cases he : eqE e (e.2.1.getD i 0) (e.2.2.1.getD i 0) with
  | none => rw [he] at h; cases h
  | some z =>
   rw [he] at h
   obtain ⟨f, rfl, hf2, hf3⟩ := eqE_img (all_at ht.2.1 h1) (all_at ht.2.2.1 h2) he
   obtain ⟨g, g1, g2, g3⟩ := eqs_img m (i + 1) (okTE_map ht hf2) (by simp only [mapE, List.length_map]; exact hl) (by simp only [mapE, List.length_map]; omega) (fun j hjj => by
    show (e.2.1.map _).getD j 0 = (e.2.2.1.map _).getD j 0
    rw [getD_map0 (by omega), getD_map0 (by omega)]
    rcases Nat.lt_or_ge j i with h | h
    ·rw [hj j h]
    ·rw [show j = i from by omega]
     exact hf3) h
   refine ⟨fun x => app g (f x), ?_, fun x hx => ?_, fun j hjj => g3 j (by omega)⟩
   ·rw [g1, mapE_map]
    exact mapE_congr (fun x => app_app f g x) e
   ·rw [← app_app]
    exact g2 _ (hf2 x hx)
theorem eqE_sat {V : Int → Int} {e : U4} {t u : Int} (ht : isTerm t = true) (hu : isTerm u = true) (h : val V t = val V u) : ∃ y, eqE e t u = some y ∧ mapE (val V) y = mapE (val V) e := by
 unfold eqE
 split
 ·exact ⟨e, rfl, rfl⟩
 ·rename_i hne
  split
  ·rename_i hv
   simp only [Bool.and_eq_true, Bool.not_eq_true'] at hv
   have e1 := val_neg (v := V) (nonvar_neg ht hv.1)
   have e2 := val_neg (v := V) (nonvar_neg hu hv.2)
   rw [e1, e2] at h
   exact absurd (show (t == u) = true by simp; omega) hne
  ·split
   ·refine ⟨_, rfl, ?_⟩
    rw [repE_map, mapE_map]
    exact mapE_congr (fun x => val_rep h.symm x) e
   ·refine ⟨_, rfl, ?_⟩
    rw [repE_map, mapE_map]
    exact mapE_congr (fun x => val_rep h x) e
theorem eqs_sat {V : Int → Int} : ∀ (m i : Nat) {e : U4}, okTE e → i + m ≤ e.2.1.length → e.2.1.map (val V) = e.2.2.1.map (val V) → ∃ y, eqs m i e = some y ∧ mapE (val V) y = mapE (val V) e
 | 0, i, e, _, _, _ => ⟨e, rfl, rfl⟩
 | m + 1, i, e, ht, him, hv => by
  have hl : e.2.1.length = e.2.2.1.length := by simpa using congrArg List.length hv
  have h1 : i < e.2.1.length := by omega
  have h2 : i < e.2.2.1.length := by omega
  have t1 := all_at ht.2.1 h1
  have t2 := all_at ht.2.2.1 h2
  have hvi : val V (e.2.1.getD i 0) = val V (e.2.2.1.getD i 0) := by rw [← getD_map0 (f := val V) h1, ← getD_map0 (f := val V) h2, hv]
  obtain ⟨z, hz, hzv⟩ := eqE_sat (e := e) t1 t2 hvi
  obtain ⟨f, hf1, hf2, _⟩ := eqE_img t1 t2 hz
  have hzl : z.2.1.length = e.2.1.length := by rw [hf1]; simp [mapE]
  have hzv' : z.2.1.map (val V) = z.2.2.1.map (val V) := by
   have e1 := congrArg (fun x : U4 => x.2.1) hzv
   have e2 := congrArg (fun x : U4 => x.2.2.1) hzv
   simp only [mapE] at e1 e2
   rw [e1, e2, hv]
  obtain ⟨y, y1, y2⟩ := eqs_sat m (i + 1) (e := z) (by rw [hf1]; exact okTE_map ht hf2) (by omega) hzv'
  refine ⟨y, ?_, y2.trans hzv⟩
  rw [eqs_succ, hz]
  exact y1
theorem uAll_used {vs : List QueryT} (hV : ∀ a : AtomC, okT (viewAt vs a)) : ∀ (l : List AtomC) {st st' : U4}, UsedL st.1 st.2.1 → UsedL st.1 st.2.2.1 → UsedA st.1 st.2.2.2 → UsedA st.1 l → (∀ a ∈ l, a.2.length = (viewAt vs a).1.length) → st.2.1.length = st.2.2.1.length → uAll vs l st = some st' →
  (UsedL st'.1 st'.2.1 ∧ UsedL st'.1 st'.2.2.1 ∧ UsedA st'.1 st'.2.2.2) ∧ st'.2.1.length = st'.2.2.1.length ∧ (∀ t ∈ st.2.1, t ∈ st'.2.1) ∧ (∀ a ∈ l, ∀ t ∈ a.2, t ∈ st'.2.1) ∧ st'.2.2.2.length ≤ st.2.2.2.length + (l.map fun a => (viewAt vs a).2.length).sum ∧ st.2.2.2.length ≤ st'.2.2.2.length
 | [], st, st', h1, h2, h3, _, _, h5, h => by
  cases h
  exact ⟨⟨h1, h2, h3⟩, h5, fun t ht => ht, (fun a ha => by cases ha), by simp, Nat.le_refl _⟩
 | a :: r, st, st', h1, h2, h3, h4, hal, h5, h => by
  rw [uAll_cons] at h
  split at h
  ·rename_i hfr
   have hr := fresh_ok _ _ hfr
   have hok := hV a
   have hal0 := hal a (by simp)
   obtain ⟨n1, n2⟩ := renQ_used hr hok
   obtain ⟨i1, i2, i3, i4, i5, i6⟩ := uAll_used hV r (st := uNext vs st a) (usedL_app (usedL_mono h1 hr.keep) (usedL_mono (h4 a (by simp)) hr.keep)) (usedL_app (usedL_mono h2 hr.keep) n1) (fun c hc => by
     rcases List.mem_append.1 hc with hc | hc
     ·exact usedL_mono (h3 c hc) hr.keep
     ·exact n2 c hc) (fun c hc => usedL_mono (h4 c (by simp [hc])) hr.keep) (fun c hc => hal c (by simp [hc])) (by
    show (st.2.1 ++ a.2).length = (st.2.2.1 ++ (renQ _ (viewAt vs a)).1).length
    simp only [List.length_append, renQ, List.length_map]
    omega) h
   have e1 : (uNext vs st a).2.1 = st.2.1 ++ a.2 := rfl
   have e2 : (uNext vs st a).2.2.2.length = st.2.2.2.length + (viewAt vs a).2.length := by simp [uNext, renQ]
   refine ⟨i1, i2, fun t ht => i3 t (by rw [e1]; simp [ht]), fun c hc t ht => ?_, ?_, by omega⟩
   ·rcases List.mem_cons.1 hc with rfl | hc
    ·exact i3 t (by rw [e1]; simp [ht])
    ·exact i4 c hc t ht
   ·rw [List.map_cons, List.sum_cons]
    omega
  ·cases h
structure UnfOk (vs : List QueryT) (q : QueryT) : Prop where
 views : ∀ a : AtomC, okT (viewAt vs a) ∧ ∀ t ∈ (viewAt vs a).1, isVar t = true → occurs (viewAt vs a) t = true
 trm : okT q
 len : ∀ a ∈ q.2, a.2.length = (viewAt vs a).1.length
 safe : ∀ t ∈ q.1, isVar t = true → occurs q t = true
theorem q_used {q : QueryT} (h : okT q) : UsedA (varsOf q) q.2 ∧ UsedL (varsOf q) q.1 := by
 refine ⟨fun a ha t ht => ?_, fun t ht => ?_⟩
 ·have hq := inQ_body h ha ht
  refine ⟨hq.1, fun hv => ?_⟩
  obtain ⟨i, _, rfl, hh⟩ := inQ_var hq hv
  exact hh
 ·have hq := inQ_head h ht
  refine ⟨hq.1, fun hv => ?_⟩
  obtain ⟨i, _, rfl, hh⟩ := inQ_var hq hv
  exact hh
theorem used_all {u l : List Int} (h : UsedL u l) : l.all isTerm = true := List.all_eq_true.2 fun t ht => (h t ht).1
theorem st_ok {vs : List QueryT} {q : QueryT} {st : U4} (h : UnfOk vs q) (hu : uAll vs q.2 (varsOf q, [], [], []) = some st) : okTE (q.1, st.2.1, st.2.2.1, st.2.2.2) ∧ st.2.1.length = st.2.2.1.length ∧ (∀ a ∈ q.2, ∀ t ∈ a.2, t ∈ st.2.1) ∧ st.2.2.2.length ≤ (q.2.map fun a => (viewAt vs a).2.length).sum := by
 obtain ⟨u1, u2⟩ := q_used h.trm
 have nl : ∀ u : List Int, UsedL u [] := fun u t ht => by cases ht
 obtain ⟨⟨i1, i2, i3⟩, i4, _, i6, i7, _⟩ := uAll_used (fun a => (h.views a).1) q.2 (st := (varsOf q, [], [], [])) (nl _) (nl _) (fun a ha => by cases ha) u1 h.len rfl hu
 exact ⟨⟨h.trm.1, used_all i1, used_all i2, fun a ha => used_all (i3 a ha)⟩, i4, i6, by simpa using i7⟩
theorem unf_comp {vs : List QueryT} {q : QueryT} {db : List FactC} {v : Int → Int} {st : U4} (h : UnfOk vs q) (hu : uAll vs q.2 (varsOf q, [], [], []) = some st) (hs : ∀ a ∈ q.2, ViewF vs db (valA v a)) : ∃ y, pUnf vs q = some y ∧ ∃ V : Int → Int, Sat V db y.2 ∧ y.1.map (val V) = q.1.map (val v) := by
 obtain ⟨u1, u2⟩ := q_used h.trm
 have nl : ∀ u : List Int, UsedL u [] := fun u t ht => by cases ht
 obtain ⟨V, hV1, hV2⟩ := uAll_comp (fun a => (h.views a).1) q.2 (st := (varsOf q, [], [], [])) (V := v) (db := db) ⟨rfl, (fun a ha => by cases ha), nl _, nl _, fun a ha => by cases ha⟩ u1 hs hu
 obtain ⟨o1, o2, _⟩ := st_ok h hu
 obtain ⟨e, e1, e2⟩ := eqs_sat (V := V) st.2.1.length 0 (e := (q.1, st.2.1, st.2.2.1, st.2.2.2)) o1 (by simp) hV2.eq
 refine ⟨pDedupeAtoms (e.1, e.2.2.2), ?_, V, ?_, ?_⟩
 ·unfold pUnf
  rw [hu]
  simp only
  rw [e1]
 ·refine sat_dedup.2 fun a ha => ?_
  have k := congrArg (fun x : U4 => x.2.2.2) e2
  simp only [mapE] at k
  have hm : valA V a ∈ e.2.2.2.map fun a => (a.1, a.2.map (val V)) := List.mem_map.2 ⟨a, ha, rfl⟩
  rw [k] at hm
  obtain ⟨c, hc, hce⟩ := List.mem_map.1 hm
  rw [← hce]
  exact hV2.sat c hc
 ·have k := congrArg (fun x : U4 => x.1) e2
  simp only [mapE] at k
  show e.1.map _ = _
  rw [k]
  exact used_val u2 hV1
theorem unf_some {vs : List QueryT} {q y : QueryT} (h : UnfOk vs q) (hp : pUnf vs q = some y) : ∃ (st : U4) (f : Int → Int), uAll vs q.2 (varsOf q, [], [], []) = some st ∧ (∀ x, isTerm x = true → isTerm (app f x) = true) ∧ y = pDedupeAtoms (q.1.map (app f), st.2.2.2.map (appA f)) ∧ st.2.1.map (app f) = st.2.2.1.map (app f) := by
 unfold pUnf at hp
 cases hu : uAll vs q.2 (varsOf q, [], [], []) with
 | none => rw [hu] at hp; cases hp
 | some st =>
  rw [hu] at hp
  simp only at hp
  obtain ⟨o1, o2, _⟩ := st_ok h hu
  cases he : eqs st.2.1.length 0 (q.1, st.2.1, st.2.2.1, st.2.2.2) with
  | none => rw [he] at hp; cases hp
  | some e =>
   rw [he] at hp
   cases hp
   obtain ⟨f, rfl, hf2, hf3⟩ := eqs_img _ 0 o1 o2 (by simp) (fun j hj => absurd hj (Nat.not_lt_zero _)) he
   refine ⟨st, f, rfl, hf2, rfl, ?_⟩
   have hf3' : ∀ j, j < 0 + st.2.1.length → (st.2.1.map (app f)).getD j 0 = (st.2.2.1.map (app f)).getD j 0 := hf3
   refine List.ext_getElem (by rw [List.length_map, List.length_map, o2]) fun j h1 h2 => ?_
   have := hf3' j (by rw [List.length_map] at h1; omega)
   rw [getD_int h1, getD_int h2] at this
   exact this
theorem uAll_safe {vs : List QueryT} (hV : ∀ a : AtomC, okT (viewAt vs a) ∧ ∀ t ∈ (viewAt vs a).1, isVar t = true → occurs (viewAt vs a) t = true) : ∀ (l : List AtomC) {st st' : U4}, (∀ t ∈ st.2.2.1, isVar t = true → ∃ a ∈ st.2.2.2, t ∈ a.2) → uAll vs l st = some st' → ∀ t ∈ st'.2.2.1, isVar t = true → ∃ a ∈ st'.2.2.2, t ∈ a.2
 | [], st, st', h1, h => by
  cases h
  exact h1
 | a :: r, st, st', h1, h => by
  rw [uAll_cons] at h
  split at h
  ·refine uAll_safe hV r (st := uNext vs st a) (fun t ht hv => ?_) h
   rcases List.mem_append.1 ht with ht | ht
   ·obtain ⟨c, hc, htc⟩ := h1 t ht hv
    exact ⟨c, List.mem_append.2 (.inl hc), htc⟩
   ·obtain ⟨x, hx, rfl⟩ := List.mem_map.1 ht
    have hxv : isVar x = true := by
     cases h0 : isVar x with
     | true => rfl
     | false =>
      rw [ren1_neg (nonvar_neg (List.all_eq_true.1 (hV a).1.1 x hx) h0), h0] at hv
      cases hv
    obtain ⟨c, hc, hxc⟩ := occurs_mem.1 ((hV a).2 x hx hxv)
    exact ⟨_, List.mem_append.2 (.inr (List.mem_map.2 ⟨c, hc, rfl⟩)), List.mem_map.2 ⟨x, hxc, rfl⟩⟩
  ·cases h
theorem unf_form {vs : List QueryT} {q y : QueryT} (h : UnfOk vs q) (hp : pUnf vs q = some y) : okT y ∧ (∀ t ∈ y.1, isVar t = true → occurs y t = true) ∧ y.1.length = q.1.length ∧ y.2.length ≤ (q.2.map fun a => (viewAt vs a).2.length).sum := by
 obtain ⟨st, f, hu, hf, rfl, heq⟩ := unf_some h hp
 obtain ⟨o1, o2, o3, o4⟩ := st_ok h hu
 have hm : ∀ a, a ∈ (pDedupeAtoms (q.1.map (app f), st.2.2.2.map (appA f))).2 ↔ a ∈ st.2.2.2.map (appA f) := fun a => mem_dedup a _
 refine ⟨⟨all_map o1.1 hf, fun a ha => ?_⟩, fun t ht hv => ?_, by simp [pDedupeAtoms], ?_⟩
 ·obtain ⟨c, hc, rfl⟩ := List.mem_map.1 ((hm a).1 ha)
  exact all_map (o1.2.2.2 c hc) hf
 ·obtain ⟨x, hx, rfl⟩ := List.mem_map.1 (show t ∈ q.1.map (app f) from ht)
  have hxv : isVar x = true := by
   cases h0 : isVar x with
   | true => rfl
   | false => rw [app_neg h0, h0] at hv; cases hv
  obtain ⟨a, ha, hxa⟩ := occurs_mem.1 (h.safe x hx hxv)
  obtain ⟨j, hj, hje⟩ := List.getElem_of_mem (o3 a ha x hxa)
  have hj2 : j < st.2.2.1.length := by omega
  have he : app f x = app f st.2.2.1[j] := by
   have k : (st.2.1.map (app f))[j]? = (st.2.2.1.map (app f))[j]? := by rw [heq]
   rw [List.getElem?_map, List.getElem?_map, List.getElem?_eq_getElem hj, List.getElem?_eq_getElem hj2, hje] at k
   simpa using k
  have hr := List.getElem_mem hj2
  generalize st.2.2.1[j] = z at he hr
  have hzv : isVar z = true := by
   cases h0 : isVar z with
   | true => rfl
   | false => rw [he, app_neg h0, h0] at hv; cases hv
  obtain ⟨c, hc, hzc⟩ := uAll_safe h.views q.2 (st := (varsOf q, [], [], [])) (fun t ht => by cases ht) hu z hr hzv
  refine occurs_mem.2 ⟨appA f c, (hm _).2 (List.mem_map.2 ⟨c, hc, rfl⟩), ?_⟩
  rw [he]
  exact List.mem_map.2 ⟨z, hzc, rfl⟩
 ·have h1 := (dedup_bound cAtom (st.2.2.2.map (appA f))).1
  rw [List.length_map] at h1
  show (dedup (st.2.2.2.map (appA f))).length ≤ _
  omega
end Go.Proofs.YtboolngaahifdaaGreatD
