/- Contracts and plain laws of this seat; no condition. -/
import Derived.Test.YtcjdfeafcmfgpaaGreatQ40
import Derived.Test.YtcjdfeafcmfgpaaGreatQ33
import Derived.Test.YtcjdfeafcmfgpaaGreatQ35
set_option linter.unusedVariables false
set_option linter.unusedSimpArgs false
set_option maxRecDepth 100000
namespace Go.Proofs.YtcjdfeafcmfgpaaGreatD
open Go Go.Proofs
theorem both_size {s : List Int} {ks : List FactK} {l : List InclL} (hl : areIncls s l = true) : ∀ (n : Nat) {x : QueryT}, okB8 s x → cQuery (bothGo s ks l n x).1 ≤ 1048576 := by
 intro n
 induction n with
 | zero =>
  intro x hx
  cases hc : chZ ks x with
  | none => rw [both_fail 0 hc]; decide
  | some y =>
   have hy := okB8_size (okB8_chase hx hc)
   cases hm : missGo y.2 0 l with
   | none => rw [both_done 0 hc hm]; exact hy
   | some p =>
    obtain ⟨k, i⟩ := p
    cases ha : addP s y (l.getD k (0, [], 0, [])) (y.2.getD i (0, [])) with
    | none => rw [both_none 0 hc hm ha]; exact hy
    | some a => rw [both_out hc hm ha]; exact hy
 | succ n ih =>
  intro x hx
  cases hc : chZ ks x with
  | none => rw [both_fail (n + 1) hc]; decide
  | some y =>
   have hok := okB8_chase hx hc
   have hy := okB8_size hok
   cases hm : missGo y.2 0 l with
   | none => rw [both_done (n + 1) hc hm]; exact hy
   | some p =>
    obtain ⟨k, i⟩ := p
    cases ha : addP s y (l.getD k (0, [], 0, [])) (y.2.getD i (0, [])) with
    | none => rw [both_none (n + 1) hc hm ha]; exact hy
    | some a =>
     by_cases h8 : y.2.length = 8
     ·rw [both_full (n + 1) hc hm ha h8]; exact hy
     ·rw [both_next n hc hm ha h8]
      obtain ⟨hkl, hil, hrel, hincl, hgk, hgi⟩ := miss_facts hl hm
      rw [hgk, hgi] at ha
      exact ih (okB8_add hok h8 hincl hrel (hok.2.1 _ (List.getElem_mem hil)) ha)
theorem pBoth_size (s : List Int) (q : QueryT) (ks : List FactK) (l : List InclL) : cQuery (pChaseBoth s q ks l).1 ≤ 1048576 := by
 unfold pChaseBoth
 split
 ·rename_i h
  simp only [Bool.and_eq_true] at h
  exact both_size h.2.2 40 (isQuery_allA h.1)
 ·decide
theorem wBoth_ro (r : QueryT × Int) : roV (wBoth r) = .tup [vQuery r.1, ci r.2] := by
 show V.tup [roV (wQuery r.1), roV (ci r.2)] = _
 rw [wQuery_ro]
 rfl
def conW (r : QueryT × Int) (b : QueryT) : Int := if (r.2 == 1) = true then 1 else if (mapP b r.1).isSome = true then 1 else if (r.2 == 2) = true then 3 else 2
def pContainedWith (s : List Int) (a b : QueryT) (ks : List FactK) (l : List InclL) : Int := if (isQuery s a && (isQuery s b && (pAreKeys s ks && (areIncls s l && !((a.1.length : Int) != b.1.length))))) = true then conW (pChaseBoth s a ks l) b else 2
theorem specContainedWith_gen (x0 : List Int) (x1 x2 : QueryT) (x3 : List FactK) (x4 : List InclL) (h0 : cSchema x0 ≤ 1048576) (h1 : cQuery x1 ≤ 1048576) (h2 : cQuery x2 ≤ 1048576) (h3 : cKeyS x3 ≤ 1048576) (h4 : cInclusionS x4 ≤ 1048576) : Spec Tryz.prog 26 [vSchema x0, vQuery x1, vQuery x2, vKeyS x3, vInclusionS x4] (ci (pContainedWith x0 x1 x2 x3 x4)) := by
 have hsl : x0.length ≤ 1099511627776 := Nat.le_trans h0 (by decide)
 unfold pContainedWith
 refine Spec_of mx Γ_ok Tryz.func26 rfl ?_
 conv => whnf
 refine ⟨_, specIsQuery_spec x0 x1 h0 h1, .inl rfl, .inl ?_⟩
 conv => whnf
 generalize isQuery x0 x1 = b1
 cases b1 with
 | false =>
  conv => whnf
  rfl
 | true =>
 conv => whnf
 refine ⟨_, specIsQuery_spec x0 x2 h0 h2, .inl rfl, .inl ?_⟩
 conv => whnf
 generalize hb2 : isQuery x0 x2 = b2
 cases b2 with
 | false =>
  conv => whnf
  rfl
 | true =>
 conv => whnf
 refine ⟨_, specAreKeys_gen x0 x3 h0 h3, .inl rfl, .inl ?_⟩
 conv => whnf
 generalize pAreKeys x0 x3 = b3
 cases b3 with
 | false =>
  conv => whnf
  rfl
 | true =>
 conv => whnf
 refine ⟨_, l14Are_spec x0 x4 hsl h4, .inl rfl, .inl ?_⟩
 conv => whnf
 generalize areIncls x0 x4 = b4
 cases b4 with
 | false =>
  conv => whnf
  rfl
 | true =>
 conv => whnf
 generalize ((x1.1.length : Int) != (x2.1.length : Int)) = b5
 cases b5 with
 | true =>
  conv => whnf
  rfl
 | false =>
 obtain ⟨f1, f2⟩ := isQuery_fine hb2
 have hsz := pBoth_size x0 x1 x3 x4
 conv => whnf
 refine ⟨_, specChaseBoth_gen x0 x1 x3 x4 h0 h1 h3 h4, .inl rfl, .inl ?_⟩
 rw [wBoth_ro]
 rw [show (true && (true && (true && (true && !false)))) = true from rfl, if_pos rfl]
 generalize pChaseBoth x0 x1 x3 x4 = r at hsz
 obtain ⟨y, c⟩ := r
 simp only at hsz
 unfold conW
 simp only
 conv => whnf
 generalize (c == 1) = c1
 cases c1 with
 | true =>
  conv => whnf
  rfl
 | false =>
 rw [if_neg (by simp)]
 conv => whnf
 refine ⟨_, l7Find_spec x2 y h2 hsz f1 f2, .inl rfl, .inl ?_⟩
 generalize mapP x2 y = o
 cases o with
 | some z =>
  conv => whnf
  rfl
 | none =>
 conv => whnf
 rw [if_neg (by simp)]
 generalize (c == 2) = c2
 cases c2 with
 | true =>
  conv => whnf
  rfl
 | false =>
  conv => whnf
  rfl
theorem implContainedWith_gen (x0 : List Int) (x1 x2 : QueryT) (x3 : List FactK) (x4 : List InclL) (h0 : cSchema x0 ≤ 1048576) (h1 : cQuery x1 ≤ 1048576) (h2 : cQuery x2 ≤ 1048576) (h3 : cKeyS x3 ≤ 1048576) (h4 : cInclusionS x4 ≤ 1048576) : Spec Tryz.prog 25 [vSchema x0, vQuery x1, vQuery x2, vKeyS x3, vInclusionS x4] (ci (pContainedWith x0 x1 x2 x3 x4)) := by
 have hsl : x0.length ≤ 1099511627776 := Nat.le_trans h0 (by decide)
 unfold pContainedWith
 refine Spec_of mx Γ_ok Tryz.func25 rfl ?_
 conv => whnf
 refine ⟨_, implIsQuery_spec x0 x1 h0 h1, .inl rfl, .inl ?_⟩
 conv => whnf
 generalize isQuery x0 x1 = b1
 cases b1 with
 | false =>
  conv => whnf
  rfl
 | true =>
 conv => whnf
 refine ⟨_, implIsQuery_spec x0 x2 h0 h2, .inl rfl, .inl ?_⟩
 conv => whnf
 generalize hb2 : isQuery x0 x2 = b2
 cases b2 with
 | false =>
  conv => whnf
  rfl
 | true =>
 conv => whnf
 refine ⟨_, implAreKeys_gen x0 x3 h0 h3, .inl rfl, .inl ?_⟩
 conv => whnf
 generalize pAreKeys x0 x3 = b3
 cases b3 with
 | false =>
  conv => whnf
  rfl
 | true =>
 conv => whnf
 refine ⟨_, areInclusions_spec x0 x4 hsl h4, .inl rfl, .inl ?_⟩
 conv => whnf
 generalize areIncls x0 x4 = b4
 cases b4 with
 | false =>
  conv => whnf
  rfl
 | true =>
 conv => whnf
 generalize ((x1.1.length : Int) != (x2.1.length : Int)) = b5
 cases b5 with
 | true =>
  conv => whnf
  rfl
 | false =>
 obtain ⟨f1, f2⟩ := isQuery_fine hb2
 have hsz := pBoth_size x0 x1 x3 x4
 conv => whnf
 refine ⟨_, implChaseBoth_gen x0 x1 x3 x4 h0 h1 h3 h4, .inl rfl, .inl ?_⟩
 rw [wBoth_ro]
 rw [show (true && (true && (true && (true && !false)))) = true from rfl, if_pos rfl]
 generalize pChaseBoth x0 x1 x3 x4 = r at hsz
 obtain ⟨y, c⟩ := r
 simp only at hsz
 unfold conW
 simp only
 conv => whnf
 generalize (c == 1) = c1
 cases c1 with
 | true =>
  conv => whnf
  rfl
 | false =>
 rw [if_neg (by simp)]
 conv => whnf
 refine ⟨_, mapping_spec x2 y h2 hsz f1 f2, .inl rfl, .inl ?_⟩
 generalize mapP x2 y = o
 cases o with
 | some z =>
  conv => whnf
  rfl
 | none =>
 conv => whnf
 rw [if_neg (by simp)]
 generalize (c == 2) = c2
 cases c2 with
 | true =>
  conv => whnf
  rfl
 | false =>
  conv => whnf
  rfl
def HoldsI (db : List FactC) (l : List InclL) : Prop := ∀ x ∈ l, ∀ f ∈ db, f.1 = x.1 → ∃ g ∈ db, g.1 = x.2.2.1 ∧ agreeI f.2 x.2.1 g.2 x.2.2.2 = true
theorem fill_sat (u : Nat → Bool) (hu20 : ∀ w, 20 ≤ w → u w = false) : ∀ (os : List (Option Int)) (gs : List Int) (n : Nat) (v : Int → Int), n ≤ 20 → (fillP u os n).2 ≤ 20 → os.length = gs.length →
  (∀ (p : Nat) (t : Int), os[p]? = some (some t) → isTerm t = true ∧ (isVar t = true → u t.toNat = true) ∧ gs[p]? = some (val v t)) →
  ∃ w : Int → Int, (∀ k : Nat, (u k = true ∨ k < n) → w (k : Int) = v (k : Int)) ∧ (fillP u os n).1.map (val w) = gs
 | [], gs, n, v, _, _, hl, _ => by
  have : gs = [] := List.length_eq_zero_iff.1 (by simpa using hl.symm)
  subst this
  exact ⟨v, fun _ _ => rfl, rfl⟩
 | o :: r, [], n, v, _, _, hl, _ => by simp at hl
 | some t :: r, g :: gs, n, v, hn, hf, hl, hp => by
  obtain ⟨h1, h2, h3⟩ := hp 0 t rfl
  have h3' : g = val v t := by simpa using h3
  obtain ⟨w, w1, w2⟩ := fill_sat u hu20 r gs n v hn hf (by simpa using hl) fun p t' hpt => by
   have := hp (p + 1) t' (by simpa using hpt)
   simpa using this
  refine ⟨w, w1, ?_⟩
  simp only [fillP, List.map_cons]
  rw [w2, h3']
  congr 1
  unfold val
  cases hv : isVar t with
  | false => rfl
  | true =>
   have h0 := (var_iff h1).1 hv
   have := w1 t.toNat (.inl (h2 hv))
   rw [show ((t.toNat : Nat) : Int) = t by omega] at this
   simpa using this
 | none :: r, g :: gs, n, v, hn, hf, hl, hp => by
  simp only [fillP] at hf ⊢
  have hge := fillP_ge u r (nextW u (20 - n) n + 1)
  have hng := nextW_ge u (20 - n) n
  have hfree := nextW_free u hu20 (20 - n) n (.inl (by omega))
  generalize nextW u (20 - n) n = m at *
  obtain ⟨w, w1, w2⟩ := fill_sat u hu20 r gs (m + 1) (fun x => if x = (m : Int) then g else v x) (by omega) hf (by simpa using hl) fun p t' hpt => by
   obtain ⟨a1, a2, a3⟩ := hp (p + 1) t' (by simpa using hpt)
   refine ⟨a1, a2, ?_⟩
   have a3' : gs[p]? = some (val v t') := by simpa using a3
   rw [a3']
   congr 1
   unfold val
   cases hv : isVar t' with
   | false => rfl
   | true =>
    have h0 := (var_iff a1).1 hv
    have hne : t' ≠ (m : Int) := fun e => by
     have := a2 hv
     rw [e, Int.toNat_natCast, hfree] at this
     cases this
    simp [hne]
  refine ⟨w, fun k hk => ?_, ?_⟩
  ·have hkm : k ≠ m := fun e => by
    subst e
    rcases hk with h | h
    ·rw [hfree] at h; cases h
    ·omega
   rw [w1 k (hk.imp id fun h => by omega), if_neg (by omega)]
  ·simp only [List.map_cons]
   rw [w2]
   congr 1
   have := w1 m (.inr (by omega))
   rw [if_pos rfl] at this
   unfold val
   rw [if_pos (by simp [isVar, inR]; omega)]
   exact this
theorem srcTo_some (x : InclL) (a : List Int) : ∀ (k p : Nat) (t : Int), srcTo x a k p = some t → ∃ j, j < k ∧ x.2.2.2.getD j 0 = (p : Int) ∧ t = getI a (x.2.1.getD j 0)
 | 0, p, t, h => by cases h
 | k + 1, p, t, h => by
  unfold srcTo at h
  split at h
  ·rename_i he
   cases h
   exact ⟨k, by omega, he, rfl⟩
  ·obtain ⟨j, h1, h2, h3⟩ := srcTo_some x a k p t h
   exact ⟨j, by omega, h2, h3⟩
theorem getI_mem {a : List Int} {x : Int} (h : inR x 0 (a.length - 1) = true) : getI a x ∈ a ∧ ∀ f : Int → Int, getI (a.map f) x = f (getI a x) := by
 have h1 := inR_bd h
 obtain ⟨n, rfl⟩ : ∃ n : Nat, x = n := ⟨x.toNat, by omega⟩
 have hn : n < a.length := by omega
 refine ⟨by rw [getI_at hn]; exact List.getElem_mem hn, fun f => ?_⟩
 rw [getI_at hn, getI_at (show n < (a.map f).length by rw [List.length_map]; exact hn)]
 simp
theorem add_sat {s : List Int} {y : QueryT} {x : InclL} {a b : AtomC} {v : Int → Int} {db : List FactC} {g : FactC} (hy : okT y) (ha : a ∈ y.2) (hb : addP s y x a = some b) (hs : Sat v db y.2) (hg : g ∈ db) (hg1 : g.1 = x.2.2.1) (hag : agreeI (a.2.map (val v)) x.2.1 g.2 x.2.2.2 = true) (hgl : (g.2.length : Int) = s.getD x.2.2.1.toNat 0) :
  ∃ w : Int → Int, Sat w db (y.2 ++ [b]) ∧ y.1.map (val w) = y.1.map (val v) := by
 unfold addP at hb
 split at hb
 ·rename_i h20
  cases hb
  have hag' := hag
  simp only [agreeI, Bool.and_eq_true, decide_eq_true_eq, List.all_eq_true] at hag'
  obtain ⟨hlen, hall⟩ := hag'
  have hn : (s.getD x.2.2.1.toNat 0).toNat = g.2.length := by omega
  have hat := List.all_eq_true.1 (hy.2 a ha)
  have hvq : ∀ c ∈ y.2, ∀ t ∈ c.2, isVar t = true → has (varsOf y) ((t.toNat : Nat) : Int) = true := fun c hc t ht hv => by
   have hr := term_rng (List.all_eq_true.1 (hy.2 c hc) t ht)
   have h0 := (var_iff (List.all_eq_true.1 (hy.2 c hc) t ht)).1 hv
   rw [has_varsOf y _ (by omega)]
   unfold pvar
   rw [show ((t.toNat : Nat) : Int) = t by omega, occurs_mem.2 ⟨c, hc, ht⟩]
   rfl
  have hvh : ∀ t ∈ y.1, isVar t = true → has (varsOf y) ((t.toNat : Nat) : Int) = true := fun t ht hv => by
   have hr := term_rng (List.all_eq_true.1 hy.1 t ht)
   have h0 := (var_iff (List.all_eq_true.1 hy.1 t ht)).1 hv
   rw [has_varsOf y _ (by omega)]
   unfold pvar
   rw [show ((t.toNat : Nat) : Int) = t by omega, show has y.1 t = true by simp only [has, List.any_eq_true]; exact ⟨t, ht, by simp [eqV]⟩]
   simp
  obtain ⟨w, w1, w2⟩ := fill_sat (fun k : Nat => has (varsOf y) (k : Int)) (uOf_20 y) (slots x a.2 (s.getD x.2.2.1.toNat 0).toNat x.2.2.2.length) g.2 0 v (by omega) h20 (by rw [slots_len, hn]) fun p t hp => by
   simp only [slots, List.getElem?_map] at hp
   have hpn : p < g.2.length := by
    by_cases h : p < (s.getD x.2.2.1.toNat 0).toNat
    ·omega
    ·rw [List.getElem?_eq_none (by rw [List.length_range]; omega)] at hp; cases hp
   rw [List.getElem?_range (by omega)] at hp
   simp only [Option.map_some, Option.some.injEq] at hp
   obtain ⟨j, j1, j2, rfl⟩ := srcTo_some x a.2 _ p t hp
   have hj := hall j (ran_mem'.2 ⟨Nat.zero_le _, by omega⟩)
   simp only [agreeA, agree1, Bool.and_eq_true, decide_eq_true_eq, List.length_map] at hj
   obtain ⟨k1, k2, k3⟩ := hj
   obtain ⟨m1, m2⟩ := getI_mem k1
   rw [m2, j2, getI_at hpn] at k3
   refine ⟨hat _ m1, fun hv => hvq a ha _ m1 hv, ?_⟩
   rw [List.getElem?_eq_getElem hpn, k3]
  have hold : ∀ c ∈ y.2, valA w c = valA v c := fun c hc => Prod.ext rfl (List.map_congr_left fun t ht => by
   unfold val
   cases hv : isVar t with
   | false => rfl
   | true =>
    have h0 := (var_iff (List.all_eq_true.1 (hy.2 c hc) t ht)).1 hv
    have := w1 t.toNat (.inl (hvq c hc t ht hv))
    rw [show ((t.toNat : Nat) : Int) = t by omega] at this
    simpa using this)
  refine ⟨w, fun c hc => ?_, List.map_congr_left fun t ht => ?_⟩
  ·rcases List.mem_append.1 hc with hc | hc
   ·rw [hold c hc]; exact hs c hc
   ·rw [List.mem_singleton.1 hc]
    have e : valA w (x.2.2.1, (addArgs y x a.2 (s.getD x.2.2.1.toNat 0).toNat).1) = g := Prod.ext hg1.symm w2
    rw [e]
    exact hg
  ·unfold val
   cases hv : isVar t with
   | false => rfl
   | true =>
    have h0 := (var_iff (List.all_eq_true.1 hy.1 t ht)).1 hv
    have := w1 t.toNat (.inl (hvh t ht hv))
    rw [show ((t.toNat : Nat) : Int) = t by omega] at this
    simpa using this
 ·cases hb
theorem isDb_fact {s : List Int} {db : List FactC} (h : isDb s db = true) : ∀ f ∈ db, isFact s f = true := by
 have hg : ∀ (db : List FactC) (p : Option FactC), dbGo s p db = true → ∀ f ∈ db, isFact s f = true := by
  intro db
  induction db with
  | nil => intro p _ f hf; cases hf
  | cons x r ih =>
   intro p h f hf
   simp only [dbGo, Bool.and_eq_true] at h
   rcases List.mem_cons.1 hf with rfl | hf
   ·exact h.1.1
   ·exact ih (some x) h.2 f hf
 simp only [isDb, Bool.and_eq_true] at h
 exact hg db none h.1
theorem fact_len {s : List Int} {f : FactC} (h : isFact s f = true) : (f.2.length : Int) = s.getD f.1.toNat 0 := by
 simp only [isFact, takesS, Bool.and_eq_true, decide_eq_true_eq] at h
 exact h.1.2.2.symm
def okC (s : List Int) (x : QueryT) : Prop := okB8 s x ∧ okT x ∧ 1 ≤ x.2.length
theorem okC_chase {s : List Int} {ks : List FactK} {x y : QueryT} (h : okC s x) (hc : chZ ks x = some y) : okC s y ∧ ∃ f, IsImg f x y := by
 obtain ⟨h1, h2, h3⟩ := h
 obtain ⟨f, f1, f2, f3⟩ := chz_img _ h2 (allA_ok h1.2.1) h3 hc
 exact ⟨⟨okB8_chase h1 hc, img_okT f1 h2, f2⟩, f, f1⟩
theorem okC_add {s : List Int} {y : QueryT} {x : InclL} {a b : AtomC} (hy : okC s y) (h8 : y.2.length ≠ 8) (hx : pIsInclusion s x = true) (hf : a.1 = x.1) (ha : isAtom s a = true) (h : addP s y x a = some b) : okC s (y.1, y.2 ++ [b]) := by
 obtain ⟨h1, h2, h3⟩ := hy
 have hk := okB8_add h1 h8 hx hf ha h
 refine ⟨hk, ⟨h2.1, fun c hc => ?_⟩, by simp⟩
 have := hk.2.1 c hc
 simp only [isAtom, Bool.and_eq_true] at this
 exact this.2
theorem both_steps {s : List Int} {ks : List FactK} {l : List InclL} (P : QueryT → QueryT × Int → Prop)
  (hfail : ∀ x, okC s x → chZ ks x = none → P x (([], []), 1))
  (hdone : ∀ x y, okC s x → okC s y → chZ ks x = some y → missGo y.2 0 l = none → P x (y, 0))
  (hopen : ∀ x y, okC s x → okC s y → chZ ks x = some y → P x (y, 2))
  (hnext : ∀ x y k i b r, (hk : k < l.length) → (hi : i < y.2.length) → okC s x → okC s y → chZ ks x = some y → missGo y.2 0 l = some (k, i) → y.2[i].1 = l[k].1 → pIsInclusion s l[k] = true → addP s y l[k] y.2[i] = some b → okC s (y.1, y.2 ++ [b]) → P (y.1, y.2 ++ [b]) r → P x r)
  (hl : areIncls s l = true) : ∀ (n : Nat) {x : QueryT}, okC s x → P x (bothGo s ks l n x) := by
 intro n
 induction n with
 | zero =>
  intro x hx
  cases hc : chZ ks x with
  | none => rw [both_fail 0 hc]; exact hfail x hx hc
  | some y =>
   have hy := (okC_chase hx hc).1
   cases hm : missGo y.2 0 l with
   | none => rw [both_done 0 hc hm]; exact hdone x y hx hy hc hm
   | some p =>
    obtain ⟨k, i⟩ := p
    cases ha : addP s y (l.getD k (0, [], 0, [])) (y.2.getD i (0, [])) with
    | none => rw [both_none 0 hc hm ha]; exact hopen x y hx hy hc
    | some a => rw [both_out hc hm ha]; exact hopen x y hx hy hc
 | succ n ih =>
  intro x hx
  cases hc : chZ ks x with
  | none => rw [both_fail (n + 1) hc]; exact hfail x hx hc
  | some y =>
   have hy := (okC_chase hx hc).1
   cases hm : missGo y.2 0 l with
   | none => rw [both_done (n + 1) hc hm]; exact hdone x y hx hy hc hm
   | some p =>
    obtain ⟨k, i⟩ := p
    cases ha : addP s y (l.getD k (0, [], 0, [])) (y.2.getD i (0, [])) with
    | none => rw [both_none (n + 1) hc hm ha]; exact hopen x y hx hy hc
    | some a =>
     by_cases h8 : y.2.length = 8
     ·rw [both_full (n + 1) hc hm ha h8]; exact hopen x y hx hy hc
     ·rw [both_next n hc hm ha h8]
      obtain ⟨hkl, hil, hrel, hincl, hgk, hgi⟩ := miss_facts hl hm
      rw [hgk, hgi] at ha
      have hk := okC_add hy h8 hincl hrel (hy.1.2.1 _ (List.getElem_mem hil)) ha
      exact hnext x y k i a _ hkl hil hx hy hc hm hrel hincl ha hk (ih hk)
theorem both_sat {s : List Int} {ks : List FactK} {l : List InclL} {db : List FactC} (hk : Holds db ks) (hI : HoldsI db l) (hd : isDb s db = true) (hl : areIncls s l = true) (n : Nat) {x : QueryT} (hx : okC s x) {v : Int → Int} (hv : Sat v db x.2) :
  (bothGo s ks l n x).2 ≠ 1 ∧ ∃ w : Int → Int, Sat w db (bothGo s ks l n x).1.2 ∧ (bothGo s ks l n x).1.1.map (val w) = x.1.map (val v) := by
 have step : ∀ {x y : QueryT} {v : Int → Int}, okC s x → chZ ks x = some y → Sat v db x.2 → Sat v db y.2 ∧ y.1.map (val v) = x.1.map (val v) := fun {x y v} hx hc hv => by
  obtain ⟨z, z1, z2, z3⟩ := chz_sat hk _ hx.2.1 (allA_ok hx.1.2.1) (Nat.lt_succ_self _) hv
  have e : some z = some y := z1.symm.trans hc
  cases e
  exact ⟨z2, z3⟩
 refine both_steps (s := s) (ks := ks) (l := l) (fun x r => ∀ v : Int → Int, Sat v db x.2 → r.2 ≠ 1 ∧ ∃ w : Int → Int, Sat w db r.1.2 ∧ r.1.1.map (val w) = x.1.map (val v)) ?_ ?_ ?_ ?_ hl n hx v hv
 ·intro x hx hc v hv
  obtain ⟨z, z1, _⟩ := chz_sat hk _ hx.2.1 (allA_ok hx.1.2.1) (Nat.lt_succ_self _) hv
  have e : some z = none := z1.symm.trans hc
  cases e
 ·intro x y hx hy hc hm v hv
  obtain ⟨h1, h2⟩ := step hx hc hv
  exact ⟨by simp, v, h1, h2⟩
 ·intro x y hx hy hc v hv
  obtain ⟨h1, h2⟩ := step hx hc hv
  exact ⟨by simp, v, h1, h2⟩
 ·intro x y k i b r hk' hi hx hy hc hm hrel hincl ha hok ih v hv
  obtain ⟨h1, h2⟩ := step hx hc hv
  have hmem := List.getElem_mem hi
  obtain ⟨g, g1, g2, g3⟩ := hI l[k] (List.getElem_mem hk') _ (h1 _ hmem) (show (valA v y.2[i]).1 = _ from hrel)
  obtain ⟨w, w1, w2⟩ := add_sat hy.2.1 hmem ha h1 g1 g2 g3 (by rw [fact_len (isDb_fact hd g g1), g2])
  obtain ⟨i1, u, u1, u2⟩ := ih w w1
  exact ⟨i1, u, u1, u2.trans (w2.trans h2)⟩
theorem both_form {s : List Int} {ks : List FactK} {l : List InclL} (hl : areIncls s l = true) (n : Nat) {x : QueryT} (hx : okC s x) : (bothGo s ks l n x).2 ≠ 1 → okC s (bothGo s ks l n x).1 ∧ (∃ h, IsHom h x (bothGo s ks l n x).1) ∧ ((bothGo s ks l n x).2 = 0 → missGo (bothGo s ks l n x).1.2 0 l = none ∧ viol (bothGo s ks l n x).1 ks = none) := by
 have hfin : ∀ (n : Nat) {x y : QueryT}, chz ks n x = some y → viol y ks = none := by
  intro n
  induction n with
  | zero => intro x y h; cases h
  | succ n ih =>
   intro x y h
   simp only [chz] at h
   cases hv : viol x ks with
   | none =>
    rw [hv] at h
    cases h
    exact viol_dedup hv
   | some r =>
    obtain ⟨k, i, j⟩ := r
    rw [hv] at h
    simp only at h
    cases he : eqP x (tA x i j) (tB x i j) with
    | none => rw [he] at h; cases h
    | some z => rw [he] at h; exact ih h
 refine both_steps (s := s) (ks := ks) (l := l) (fun x r => r.2 ≠ 1 → okC s r.1 ∧ (∃ h, IsHom h x r.1) ∧ (r.2 = 0 → missGo r.1.2 0 l = none ∧ viol r.1 ks = none)) ?_ ?_ ?_ ?_ hl n hx
 ·intro x hx hc h
  exact absurd rfl h
 ·intro x y hx hy hc hm _
  obtain ⟨f, hf⟩ := (okC_chase hx hc).2
  exact ⟨hy, ⟨f, hf.hom⟩, fun _ => ⟨hm, hfin _ hc⟩⟩
 ·intro x y hx hy hc _
  obtain ⟨f, hf⟩ := (okC_chase hx hc).2
  exact ⟨hy, ⟨f, hf.hom⟩, fun h => by cases h⟩
 ·intro x y k i b r hk' hi hx hy hc hm hrel hincl ha hok ih h
  obtain ⟨i1, ⟨g, hg⟩, i3⟩ := ih h
  obtain ⟨f, hf⟩ := (okC_chase hx hc).2
  have hid : IsHom id y (y.1, y.2 ++ [b]) := ⟨(List.map_congr_left fun t _ => app_id t).trans (List.map_id _), fun a ha => by rw [appA_id]; exact List.mem_append.2 (.inl ha)⟩
  exact ⟨i1, ⟨_, hom_comp (hom_comp hf.hom hid) hg⟩, i3⟩
theorem frzC_ok {s : List Int} {y : QueryT} (h : okC s y) : frzOk y = true := by
 obtain ⟨⟨h1, h2, h3⟩, h4, h5⟩ := h
 simp only [frzOk, terms3, Bool.and_eq_true, decide_eq_true_eq, List.all_eq_true]
 refine ⟨⟨⟨List.all_eq_true.1 h4.1, by omega⟩, by omega⟩, fun a ha => ⟨List.all_eq_true.1 (h4.2 a ha), ?_⟩⟩
 have := (atom_fine (h2 a ha)).1
 omega
theorem frzC_mem {s : List Int} {y : QueryT} (h : okC s y) (f : FactC) : f ∈ (pFreeze y).1 ↔ ∃ c ∈ y.2, fzF c = f := by
 unfold pFreeze
 rw [if_pos (frzC_ok h)]
 exact frz_mem y f
theorem frzC_head {s : List Int} {y : QueryT} (h : okC s y) : (pFreeze y).2 = y.1.map fz := by
 unfold pFreeze
 rw [if_pos (frzC_ok h)]
theorem frzC_db {s : List Int} {y : QueryT} (hs : isSchema s = true) (h : okC s y) : isDb s (pFreeze y).1 = true := by
 have hmem := frzC_mem h
 have hst : Strict ltF (pFreeze y).1 := by
  unfold pFreeze
  rw [if_pos (frzC_ok h)]
  exact (putAll _ [] List.Pairwise.nil).1
 have hlen : (pFreeze y).1.length ≤ 8 := by
  unfold pFreeze
  rw [if_pos (frzC_ok h)]
  have h6 := (short_fold (y.2.map fzF) [] (fun x hx => by
   obtain ⟨c, hc, rfl⟩ := List.mem_map.1 hx
   have := (atom_fine (h.1.2.1 c hc)).1
   simp only [fzF, List.length_map]
   omega) (fun x hx => by cases hx)).2
  simp only [List.length_map, List.length_nil] at h6
  have := h.1.2.2
  show ((y.2.map fzF).foldl putF []).length ≤ 8
  omega
 simp only [isDb, Bool.and_eq_true, decide_eq_true_eq]
 refine ⟨strict_go _ none hst (fun f hf => ?_) (fun y hy => by cases hy), hs, by omega⟩
 obtain ⟨c, hc, rfl⟩ := (hmem f).1 hf
 have hat := h.1.2.1 c hc
 simp only [isAtom, Bool.and_eq_true] at hat
 simp only [isFact, isVals, fzF, Bool.and_eq_true, List.length_map, List.all_eq_true, List.mem_map]
 refine ⟨hat.1, ?_⟩
 rintro z ⟨t, ht, rfl⟩
 have := fz_rng (List.all_eq_true.1 hat.2 t ht)
 simp [inR, this.1, this.2]
theorem frzC_sat {s : List Int} {y : QueryT} (h : okC s y) : Sat fzv (pFreeze y).1 y.2 ∧ y.1.map fz = y.1.map (val fzv) := by
 refine ⟨fun a ha => (frzC_mem h _).2 ⟨a, ha, Prod.ext rfl ?_⟩, List.map_congr_left fun t ht => fz_val (List.all_eq_true.1 h.2.1.1 t ht)⟩
 exact List.map_congr_left fun t ht => fz_val (List.all_eq_true.1 (h.2.1.2 a ha) t ht)
theorem agree_fz {f g p r : List Int} (hf : f.all isTerm = true) (hg : g.all isTerm = true) : agreeI (f.map fz) p (g.map fz) r = agreeI f p g r := by
 have key : ∀ x y : Int, agree1 (f.map fz) (g.map fz) x y = agree1 f g x y := fun x y => by
  unfold agree1
  rw [List.length_map, List.length_map]
  cases h1 : inR x 0 (f.length - 1) with
  | false => rfl
  | true =>
   cases h2 : inR y 0 (g.length - 1) with
   | false => rfl
   | true =>
    obtain ⟨m1, m2⟩ := getI_mem h1
    obtain ⟨n1, n2⟩ := getI_mem h2
    rw [m2, n2]
    simp only [Bool.true_and]
    rw [decide_eq_decide]
    refine ⟨fun h => ?_, fun h => by rw [h]⟩
    rw [← unf_fz (List.all_eq_true.1 hf _ m1), ← unf_fz (List.all_eq_true.1 hg _ n1), h]
 unfold agreeI agreeA
 simp only [key]
theorem frzC_keys {s : List Int} {y : QueryT} {ks : List FactK} (h : okC s y) (hv : viol y ks = none) : Holds (pFreeze y).1 ks := by
 refine tripK_none.2 fun k hk => tripI_none.2 fun i hi j hj => ?_
 have hk' := (ran_mem'.1 hk).2
 have hi' := (ran_mem'.1 hi).2
 have hj' := (ran_mem'.1 hj).2
 rw [getF_at hi', getF_at hj']
 obtain ⟨c, hc, hce⟩ := (frzC_mem h _).1 (List.getElem_mem hi')
 obtain ⟨d, hd, hde⟩ := (frzC_mem h _).1 (List.getElem_mem hj')
 rw [← hce, ← hde]
 cases hvp : violP (getF ks k) (fzF c) (fzF d) with
 | false => rfl
 | true =>
  exfalso
  simp only [violP, Bool.and_eq_true, decide_eq_true_eq, Bool.not_eq_true', decide_eq_false_iff_not] at hvp
  obtain ⟨v1, v2, v3, v4⟩ := hvp
  have v3' : agreeI (c.2.map fz) (getF ks k).2 (d.2.map fz) (getF ks k).2 = true := v3
  rw [agree_fz (h.2.1.2 c hc) (h.2.1.2 d hd)] at v3'
  have := holds_eq (db := y.2) hv hk' hc hd (show c.1 = _ from v1) (show d.1 = _ from v2) v3'
  exact v4 (show c.2.map fz = d.2.map fz by rw [this])
theorem missGo_none {at0 : List AtomC} : ∀ {l : List InclL} {n : Nat}, missGo at0 n l = none → ∀ x ∈ l, ¬ 0 ≤ lackI at0 x
 | [], n, _, x, hx => by cases hx
 | x :: r, n, h, y, hy => by
  simp only [missGo] at h
  split at h
  ·cases h
  ·rename_i h0
   rcases List.mem_cons.1 hy with rfl | hy
   ·exact h0
   ·exact missGo_none h y hy
theorem lackI_none {at0 : List AtomC} {x : InclL} (h : ¬ 0 ≤ lackI at0 x) : ∀ f ∈ at0, okF at0 x f = true := by
 intro f hf
 obtain ⟨i, hi, rfl⟩ := List.getElem_of_mem hf
 have h1 : decide (lackI at0 x < 0) = true := decide_eq_true (by omega)
 unfold lackI at h1
 rw [firstI_neg] at h1
 have := List.all_eq_true.1 h1 i (ran_mem'.2 ⟨Nat.zero_le _, hi⟩)
 simp only [okK, Bool.not_not] at this
 rw [getD_fact hi] at this
 exact this
theorem frzC_incl {s : List Int} {y : QueryT} {l : List InclL} (h : okC s y) (hm : missGo y.2 0 l = none) : ∀ x ∈ l, pHoldsInclusion (pFreeze y).1 x = true := by
 intro x hx
 have h0 := lackI_none (missGo_none hm x hx)
 unfold pHoldsInclusion
 refine List.all_eq_true.2 fun k hk => ?_
 have hk' := (ran_mem'.1 hk).2
 unfold okK
 rw [getD_fact hk']
 obtain ⟨c, hc, hce⟩ := (frzC_mem h _).1 (List.getElem_mem hk')
 rw [← hce]
 have h1 := h0 c hc
 simp only [okF, Bool.or_eq_true, Bool.not_eq_true', decide_eq_false_iff_not, List.any_eq_true] at h1 ⊢
 rcases h1 with h1 | ⟨d, hd, h2⟩
 ·exact .inl h1
 ·refine .inr ⟨fzF d, (frzC_mem h _).2 ⟨d, hd, rfl⟩, ?_⟩
  simp only [lackP, Bool.and_eq_true, decide_eq_true_eq] at h2 ⊢
  refine ⟨h2.1, ?_⟩
  show agreeI (c.2.map fz) _ (d.2.map fz) _ = true
  rw [agree_fz (h.2.1.2 c hc) (h.2.1.2 d hd)]
  exact h2.2
theorem frzC_ans {s : List Int} {y b : QueryT} (hb : isQuery s b = true) (h : okC s y) : (pFreeze y).2 ∈ answersS s b (pFreeze y).1 ↔ ∃ f, IsHom f b y := by
 have hs := (isQ_facts hb).1
 obtain ⟨_, b2, _, _, b5⟩ := isQ_facts hb
 rw [ans_iff hb (frzC_db hs h), frzC_head h]
 constructor
 ·rintro ⟨v, hv, he⟩
  refine ⟨fun k => unf (v k), ?_, fun c hc => ?_⟩
  ·rw [← unf_list h.2.1.1, he, List.map_map]
   exact List.map_congr_left fun t ht => (unf_val (List.all_eq_true.1 b2 t ht)).symm
  ·obtain ⟨d, hd, hde⟩ := (frzC_mem h _).1 (hv c hc)
   have h1 : d.1 = c.1 := by have e := congrArg Prod.fst hde; exact e
   have h2 : d.2.map fz = c.2.map (val v) := by have e := congrArg Prod.snd hde; exact e
   have : appA (fun k => unf (v k)) c = d := by
    refine Prod.ext h1.symm ?_
    show c.2.map _ = d.2
    rw [← unf_list (h.2.1.2 d hd), h2, List.map_map]
    exact List.map_congr_left fun t ht => (unf_val (List.all_eq_true.1 (b5 c hc).2 t ht)).symm
   rw [this]
   exact hd
 ·rintro ⟨f, hf⟩
  obtain ⟨k1, k2⟩ := frzC_sat h
  obtain ⟨m1, m2⟩ := sat_hom hf k1
  exact ⟨_, m1, k2.trans m2.symm⟩
end Go.Proofs.YtcjdfeafcmfgpaaGreatD
