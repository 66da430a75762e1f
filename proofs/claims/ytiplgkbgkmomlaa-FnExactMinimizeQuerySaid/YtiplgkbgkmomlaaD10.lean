/- Slices that go into rows; literals. -/
import Derived.Test.YtiplgkbgkmomlaaD9
set_option linter.unusedVariables false
set_option linter.unusedSimpArgs false
namespace Go.Proofs.YtiplgkbgkmomlaaD
open Go

section
variable {P : Program} {Γ : Tab} {C : Ctx} {E : Env} {s : St} {a : Act} {o : Oper} {K : V → St → Prop}

def relab (i : Nat) (p : List Nat) : Option (List Nat) → Option (List Nat)
  | some (h :: r) => if h = i then some (p ++ r) else some (h :: r)
  | x => x
def Env.mv (E : Env) (i : Nat) (p : List Nat) : Env :=
  { E with o := fun b => relab i p (E.o b), g := fun j => if j = i then none else E.g j, okb := fun b => relab i p (E.o b) = none }
theorem relab_none {i : Nat} {p : List Nat} {x : Option (List Nat)} : relab i p x = none ↔ x = none := by
  unfold relab
  split
  · split <;> simp
  · rfl
theorem relab_other {i : Nat} {p r : List Nat} {j : Nat} (h : j ≠ i) : relab i p (some (j :: r)) = some (j :: r) := by simp [relab, h]
theorem mv_mono (hR : Rel C E s a) (i : Nat) (p : List Nat) : Mono E (E.mv i p) := by
  refine ⟨Nat.le_refl _, fun b _ hok => ⟨?_, rfl⟩, Nat.le_refl _, fun j hj hl => ?_, fun j k hj ht => ?_⟩
  · show relab i p (E.o b) = none
    rw [hR.okb] at hok
    exact relab_none.2 hok
  · have hji : j ≠ i := by
      intro h
      simp [Env.mv, h] at hl
    refine ⟨by simpa [Env.mv, hji] using hl, rfl, fun ho => ?_, fun c e h => ⟨c, h, rfl⟩⟩
    show relab i p (E.o (E.ρ j).1) = some [j]
    rw [ho, relab_other hji]
  · obtain ⟨cs, sz, n, r, hg, hk⟩ := ht
    have hji : j ≠ i := by
      intro h
      simp [Env.mv, h] at hg
    exact ⟨⟨cs, sz, n, r, by simpa [Env.mv, hji] using hg, hk⟩, rfl⟩
theorem mv_kept {i j : Nat} {p q : List Nat} (h : j ≠ i) : Kept E (E.mv i p) (j :: q) := fun b r hb => by
  refine ⟨?_, rfl⟩
  show relab i p (E.o b) = _
  rw [hb]
  exact relab_other h
theorem mv_moved (i : Nat) (p : List Nat) : Moved E (E.mv i p) [i] p := fun b r hb => by
  refine ⟨?_, rfl⟩
  show relab i p (E.o b) = _
  rw [hb]
  simp [relab]
theorem putNone_ob {i : Nat} {ob0 : Obj} (hi : s.ob i = some ob0) (j : Nat) : (s.put i none).ob j = if j = i then none else s.ob j := by
  have hlt : i < s.g.length := obOf_lt hi
  simp only [St.ob, St.put, obOf_set]
  by_cases hj : j = i
  · rw [if_pos ⟨hj, hlt⟩, if_pos hj]
  · rw [if_neg (fun h => hj h.1), if_neg hj]
theorem rel_mv (hR : Rel C E s a) {i : Nat} {ob0 : Obj} (hi : s.ob i = some ob0) (p : List Nat) : Rel C (E.mv i p) (s.put i none) a := by
  have hm := mv_mono hR i p
  refine ⟨hR.size, hR.nd, fun k => (hR.slot k).slot hm, ?_, ?_, fun j x hx => ?_, rfl, fun b q hq => ?_, hR.fr, fun b hb hl => ?_, hR.pin.mono hm⟩
  · funext j
    rw [putNone_ob hi]
    simp only [Env.mv, hR.g]
  · simp [Env.mv, St.put, setOb_length, hR.n]
  · rw [putNone_ob hi] at hx
    by_cases hji : j = i
    · rw [if_pos hji] at hx; cases hx
    · rw [if_neg hji] at hx
      exact ObR.mono hm rfl (mv_kept hji) (hR.ob j x hx)
  · have : E.o b ≠ none := by
      intro h
      simp only [Env.mv, h, relab] at hq
      cases hq
    cases h : E.o b with
    | none => exact absurd h this
    | some q' =>
      obtain ⟨h1, h2⟩ := hR.lab b q' h
      refine ⟨h1, ?_⟩
      rcases h2 with rfl | h2
      · left
        simp only [Env.mv, h, relab, Option.some.injEq] at hq
        exact hq.symm
      · exact .inr h2
  · have h := hR.old b hb hl
    show relab i p (E.o b) = _
    rw [h]
    cases ho : C.o0 b with
    | none => rfl
    | some q => rw [C.dull b q hl ho]; rfl

/-- A slice of the state's own at a place in a new row. -/
theorem tr_of_own (hR : Rel C E s a) {i sz n lo : Nat} {hi : Option Nat} {cs : List V} {x : Value} (hob : s.ob i = some ⟨false, cs⟩) (hl : cs.length = n * sz) (h : Rv E .none (.own i sz 0 n lo hi) x) (p : List Nat) : Rv (E.mv i p).bare (.at p) (.tr sz n cs) x := by
  obtain ⟨hin, A, cap, rfl, hlv⟩ := h
  obtain ⟨hc, hlo, hhi, hr⟩ := hlv (ob_live hR hob)
  refine ⟨A, cap, rfl, hc, hl, ?_⟩
  rcases hr with hr | ⟨c, e, hA, ho, hh, hs⟩
  · exact .inl hr
  · refine .inr ⟨(E.ρ i).1, (E.ρ i).2, p, c, e, by simpa using hA, rfl, ?_, hh, by simpa using hs, ?_⟩
    · have := (mv_moved (E := E) i p (E.ρ i).1 [] (by simpa using ho)).1
      show (E.mv i p).o (E.ρ i).1 = _
      simpa using this
    · rcases hR.ob i _ hob with h0 | ⟨c', e', hh', hl', hrow⟩
      · rw [h0]; trivial
      · exact Rrow.move (mv_mono hR i p).bare (mv_moved i p) rfl hrow

/-- The slice in a cell of a row goes elsewhere. -/
def relabS (i j : Nat) (p : List Nat) : Option (List Nat) → Option (List Nat)
  | some (h :: k :: r) => if h = i ∧ k = j then some (p ++ r) else some (h :: k :: r)
  | x => x
def Env.mvs (E : Env) (i j : Nat) (p : List Nat) (ob : Obj) : Env :=
  { E with o := fun b => relabS i j p (E.o b), g := fun l => if l = i then some ob else E.g l, okb := fun b => relabS i j p (E.o b) = none }
theorem relabS_none {i j : Nat} {p : List Nat} {x : Option (List Nat)} : relabS i j p x = none ↔ x = none := by
  unfold relabS
  split
  · split <;> simp
  · rfl
theorem relabS_other {i j k : Nat} {p r : List Nat} (h : k ≠ i) : relabS i j p (some (k :: r)) = some (k :: r) := by
  cases r <;> simp [relabS, h]
theorem relabS_cell {i j k : Nat} {p r : List Nat} (h : k ≠ j) : relabS i j p (some (i :: k :: r)) = some (i :: k :: r) := by simp [relabS, h]
theorem mvs_tr {i j k : Nat} {p : List Nat} {cs : List V} (hob : s.ob i = some ⟨false, cs⟩) (hg : E.g = s.ob) {l : Nat} (ht : isTr (E.mvs i j p ⟨false, cs.set j .any⟩).g l k) : isTr E.g l k ∧ (l = i → k ≠ j) := by
  obtain ⟨cs', sz, n, r, hg', hk⟩ := ht
  by_cases hl : l = i
  · subst hl
    simp only [Env.mvs, if_true, Option.some.injEq, Go.Proofs.YtiplgkbgkmomlaaD.Obj.mk.injEq, true_and] at hg'
    subst hg'
    rw [List.getElem?_set] at hk
    by_cases hjk : j = k
    · subst hjk
      rw [if_pos rfl] at hk
      split at hk <;> simp at hk
    · rw [if_neg hjk] at hk
      exact ⟨⟨cs, sz, n, r, by rw [hg]; exact hob, hk⟩, fun _ h => hjk h.symm⟩
  · simp only [Env.mvs, if_neg hl] at hg'
    exact ⟨⟨cs', sz, n, r, hg', hk⟩, fun h => absurd h hl⟩
theorem mvs_mono (hR : Rel C E s a) {i j : Nat} {cs : List V} (hob : s.ob i = some ⟨false, cs⟩) (p : List Nat) : Mono E (E.mvs i j p ⟨false, cs.set j .any⟩) := by
  refine ⟨Nat.le_refl _, fun b _ hok => ⟨?_, rfl⟩, Nat.le_refl _, fun l hl hs => ?_, fun l k hl ht => ⟨(mvs_tr hob hR.g ht).1, rfl⟩⟩
  · show relabS i j p (E.o b) = none
    rw [hR.okb] at hok
    exact relabS_none.2 hok
  · refine ⟨?_, rfl, fun ho => ?_, fun c e h => ⟨c, h, rfl⟩⟩
    · by_cases hli : l = i
      · subst hli; exact ob_live hR hob
      · simpa [Env.mvs, hli] using hs
    · show relabS i j p (E.o (E.ρ l).1) = some [l]
      rw [ho]
      rfl
theorem mvs_kept {i j k : Nat} {p q : List Nat} {ob : Obj} (h : k ≠ i) : Kept E (E.mvs i j p ob) (k :: q) := fun b r hb => by
  refine ⟨?_, rfl⟩
  show relabS i j p (E.o b) = _
  rw [hb]
  exact relabS_other h
theorem mvs_kept_cell {i j k : Nat} {p q : List Nat} {ob : Obj} (h : k ≠ j) : Kept E (E.mvs i j p ob) (i :: k :: q) := fun b r hb => by
  refine ⟨?_, rfl⟩
  show relabS i j p (E.o b) = _
  rw [hb]
  exact relabS_cell h
theorem mvs_moved (i j : Nat) (p : List Nat) (ob : Obj) : Moved E (E.mvs i j p ob) [i, j] p := fun b r hb => by
  refine ⟨?_, rfl⟩
  show relabS i j p (E.o b) = _
  rw [hb]
  simp [relabS]
theorem rel_mvs (hR : Rel C E s a) {i j : Nat} {cs : List V} (hob : s.ob i = some ⟨false, cs⟩) (p : List Nat) : Rel C (E.mvs i j p ⟨false, cs.set j .any⟩) (s.put i (some ⟨false, cs.set j .any⟩)) a := by
  have hm := mvs_mono (j := j) hR hob p
  refine ⟨hR.size, hR.nd, fun k => (hR.slot k).slot hm, ?_, ?_, fun l x hx => ?_, rfl, fun b q hq => ?_, hR.fr, fun b hb hl => ?_, hR.pin.mono hm⟩
  · funext l
    rw [put_ob hob]
    simp only [Env.mvs, hR.g]
  · simp [Env.mvs, St.put, setOb_length, hR.n]
  · rw [put_ob hob] at hx
    by_cases hli : l = i
    · rw [if_pos hli] at hx
      cases hx
      subst hli
      rcases hR.ob l _ hob with h0 | ⟨c, e, hh, hlab, hrow⟩
      · left; rw [h0]; rfl
      · refine .inr ⟨c, e, hh, ?_, Rrow_mk fun k v hk => ?_⟩
        · show relabS l j p (E.o (E.ρ l).1) = _
          rw [hlab]
          rfl
        · rw [List.getElem?_set] at hk
          by_cases hjk : j = k
          · subst hjk
            rw [if_pos rfl] at hk
            split at hk
            · cases hk
              rename_i hlt
              obtain ⟨u, hu, _⟩ := Rrow_get hrow j _ (List.getElem?_eq_getElem hlt)
              exact ⟨u, hu, trivial⟩
            · cases hk
          · rw [if_neg hjk] at hk
            obtain ⟨u, hu, hru⟩ := Rrow_get hrow k v hk
            refine ⟨u, hu, Rv.mono hm.bare (fun q hq b r hb => ?_) (fun q j hq _ => by cases hq) hru⟩
            cases hq
            exact mvs_kept_cell (E := E) (ob := ⟨false, cs.set j .any⟩) (q := []) (show 0 + k ≠ j by omega) b r hb
    · rw [if_neg hli] at hx
      exact ObR.mono hm rfl (mvs_kept hli) (hR.ob l x hx)
  · have hne : E.o b ≠ none := by
      intro h
      simp only [Env.mvs, h, relabS] at hq
      cases hq
    cases h : E.o b with
    | none => exact absurd h hne
    | some q' =>
      obtain ⟨h1, h2⟩ := hR.lab b q' h
      refine ⟨h1, ?_⟩
      rcases h2 with rfl | h2
      · left
        simp only [Env.mvs, h, relabS, Option.some.injEq] at hq
        exact hq.symm
      · exact .inr h2
  · have h := hR.old b hb hl
    show relabS i j p (E.o b) = _
    rw [h]
    cases ho : C.o0 b with
    | none => rfl
    | some q => rw [C.dull b q hl ho]; rfl
/-- The tree in a cell, at its new place. -/
theorem tr_of_sub (hR : Rel C E s a) {i j sz n : Nat} {cs r : List V} {x : Value} (hob : s.ob i = some ⟨false, cs⟩) (hj : cs[j]? = some (.tr sz n r)) (h : Rv E .none (.sub i j) x) (p : List Nat) : Rv (E.mvs i j p ⟨false, cs.set j .any⟩).bare (.at p) (.tr sz n r) x := by
  have hcell := h.2.2 (isTr_of hR hob hj)
  rcases hR.ob i _ hob with h0 | ⟨c, e, hh, hlab, hrow⟩
  · rw [h0] at hj; simp at hj
  · obtain ⟨u, hu, hru⟩ := Rrow_get hrow j _ hj
    have hu' : E.w.cell? ⟨(E.ρ i).1, (E.ρ i).2 + j, none⟩ = some u := hu
    rw [hcell] at hu'
    cases hu'
    have hru' : Rv E.bare (.at [i, j]) (.tr sz n r) x := by simpa [Md.child] using hru
    exact Rv.move (mvs_mono (j := j) hR hob p).bare (mvs_moved (E := E) i j p ⟨false, cs.set j .any⟩) hru'
theorem tr_nil {E : Env} {m : Md} (sz : Nat) : Rv E m (.tr sz 0 []) (.slice none 0 0) := ⟨none, 0, rfl, Nat.le_refl _, by simp, .inl rfl⟩

theorem put_len (s : St) (i : Nat) (o : Option Obj) : (s.put i o).g.length = s.g.length := by simp [St.put, setOb_length]
theorem into_ok {v : V} {K : V → St → Prop} {x : Value} {kid j : Nat} (hR : Rel C E s a) (hk : s.g.length ≤ kid) (h : intoK s v K) (hv : Rv E .none v x) :
    ∃ E' v' s', K v' s' ∧ Rel C E' s' a ∧ E'.w = E.w ∧ E'.ρ = E.ρ ∧ Mono E E' ∧ s'.g.length = s.g.length ∧ (∀ q, Kept E E' (kid :: q)) ∧ Rv E'.bare (.at [kid, j]) v' x := by
  have here : ∀ v, flat v = true → Rv E .none v x → K v s → ∃ E' v' s', K v' s' ∧ Rel C E' s' a ∧ E'.w = E.w ∧ E'.ρ = E.ρ ∧ Mono E E' ∧ s'.g.length = s.g.length ∧ (∀ q, Kept E E' (kid :: q)) ∧ Rv E'.bare (.at [kid, j]) v' x :=
    fun v hf hv hK => ⟨E, v, s, hK, hR, rfl, rfl, mono_refl E, rfl, fun q => kept_refl E _, flat_bare hf hv⟩
  cases v <;> simp only [intoK] at h
  case sc v =>
    rcases nilK_cases h with h | ⟨rfl, sz, h⟩
    · exact here _ rfl hv h
    · exact ⟨E, .tr sz 0 [], s, h, hR, rfl, rfl, mono_refl E, rfl, fun q => kept_refl E _, by rw [hv.1]; exact tr_nil sz⟩
  case ro n cs => exact here _ rfl hv h
  case own i sz off n lo hi =>
    cases off with
    | succ off => simp only [intoK] at h
    | zero =>
    simp only [intoK] at h
    cases hob : s.ob i with
    | none => rw [hob] at h; exact h.elim
    | some ob =>
    obtain ⟨bx, cs⟩ := ob
    cases bx with
    | true => rw [hob] at h; exact h.elim
    | false =>
    rw [hob] at h
    obtain ⟨hl, hK⟩ := h
    have hne : kid ≠ i := by have := obOf_lt (g := s.g) hob; omega
    exact ⟨E.mv i [kid, j], _, _, hK, rel_mv hR hob _, rfl, rfl, mv_mono hR _ _, put_len _ _ _, fun q => mv_kept hne, tr_of_own hR hob hl hv _⟩
  case sub i l =>
    cases hob : s.ob i with
    | none => rw [hob] at h; exact h.elim
    | some ob =>
    obtain ⟨bx, cs⟩ := ob
    cases bx with
    | true => rw [hob] at h; exact h.elim
    | false =>
    rw [hob] at h
    obtain ⟨sz, n, r, hj, hK⟩ := h
    have hne : kid ≠ i := by have := obOf_lt (g := s.g) hob; omega
    exact ⟨E.mvs i l [kid, j] ⟨false, cs.set l .any⟩, _, _, hK, rel_mvs hR hob _, rfl, rfl, mvs_mono hR hob _, put_len _ _ _, fun q => mvs_kept hne, tr_of_sub hR hob hj hv _⟩

theorem intos_ok : ∀ {vs : List V} {E : Env} {s : St} {K : List V → St → Prop} {xs : List Value} {kid j : Nat}, Rel C E s a → s.g.length ≤ kid → intosK s vs K → Rvs E .none vs xs →
    ∃ E' vs' s', K vs' s' ∧ Rel C E' s' a ∧ E'.w = E.w ∧ E'.ρ = E.ρ ∧ Mono E E' ∧ s'.g.length = s.g.length ∧ (∀ q, Kept E E' (kid :: q)) ∧ vs'.length = xs.length ∧ ∀ k v, vs'[k]? = some v → ∃ z, xs[k]? = some z ∧ Rv E'.bare (.at [kid, j + k]) v z
  | [], E, s, K, [], kid, j, hR, hk, h, hv => ⟨E, [], s, h, hR, rfl, rfl, mono_refl E, rfl, fun q => kept_refl E _, rfl, fun k v h => by simp at h⟩
  | v :: vs, E, s, K, x :: xs, kid, j, hR, hk, h, hv => by
    obtain ⟨E1, v1, s1, h1, hR1, hw1, hρ1, hm1, hl1, hK1, hr1⟩ := into_ok (j := j) hR hk h hv.1
    have hv2 : Rvs E1 .none vs xs := Rvs.mono hm1 (noneKM _ _) (noneKT _ _) hv.2
    obtain ⟨E2, vs2, s2, h2, hR2, hw2, hρ2, hm2, hl2, hK2, hn2, hr2⟩ := intos_ok (kid := kid) (j := j + 1) hR1 (by rw [hl1]; exact hk) h1 hv2
    refine ⟨E2, v1 :: vs2, s2, h2, hR2, hw2.trans hw1, hρ2.trans hρ1, ⟨by rw [hw2, hw1]; exact Nat.le_refl _, fun b hb hok => ?_, Nat.le_trans hm1.n hm2.n, fun i hi hl => ?_, fun i k hi ht => ?_⟩, hl2.trans hl1, fun q b r hb => ?_, by simp [hn2], fun k u hk => ?_⟩
    · obtain ⟨a1, a2⟩ := hm1.free b hb hok
      obtain ⟨b1, b2⟩ := hm2.free b (by rw [hw1]; exact hb) a1
      exact ⟨b1, b2.trans a2⟩
    · obtain ⟨a1, a2, a3, a4⟩ := hm2.ref i (Nat.lt_of_lt_of_le hi hm1.n) hl
      obtain ⟨b1, b2, b3, b4⟩ := hm1.ref i hi a1
      rw [b2] at a2 a3 a4
      exact ⟨b1, a2, fun ho => a3 (b3 ho), fun c e hc => by obtain ⟨c', h1', h2'⟩ := b4 c e hc; obtain ⟨c'', h3', h4'⟩ := a4 c' e h1'; exact ⟨c'', h3', h4'.trans h2'⟩⟩
    · obtain ⟨a1, a2⟩ := hm2.sub i k (Nat.lt_of_lt_of_le hi hm1.n) ht
      obtain ⟨b1, b2⟩ := hm1.sub i k hi a1
      refine ⟨b1, ?_⟩
      rw [hρ1] at a2
      rw [hw2, hw1]
    · obtain ⟨a1, a2⟩ := hK1 q b r hb
      obtain ⟨b1, b2⟩ := hK2 q b r a1
      exact ⟨b1, b2.trans a2⟩
    · cases k with
      | zero =>
        simp at hk
        subst hk
        exact ⟨x, rfl, Rv.mono hm2.bare (fun q hq => by cases hq; exact hK2 [j]) (fun q j' hq _ => by cases hq) hr1⟩
      | succ k =>
        obtain ⟨z, hz, hr⟩ := hr2 k u (by simpa using hk)
        exact ⟨z, by simpa using hz, by rw [show j + (k + 1) = j + 1 + k from by omega]; exact hr⟩
  | [], _, _, _, _ :: _, _, _, _, _, _, hv => hv.elim
  | _ :: _, _, _, _, [], _, _, _, _, _, hv => hv.elim

/-- What is filled in. -/
theorem Rvs_mk {E : Env} : ∀ {cs : List V} {xs : List Value}, cs.length = xs.length → (∀ (k : Nat) (c : V), cs[k]? = some c → ∃ x, xs[k]? = some x ∧ Rv E .none c x) → Rvs E .none cs xs
  | [], [], _, _ => trivial
  | c :: cs, x :: xs, hl, h => by
    obtain ⟨x', hx, hr⟩ := h 0 c rfl
    simp at hx
    subst hx
    refine ⟨hr, Rvs_mk (by simpa using hl) fun k c' hk => ?_⟩
    obtain ⟨y, hy, hr'⟩ := h (k + 1) c' (by simpa using hk)
    exact ⟨y, by simpa using hy, hr'⟩
  | [], _ :: _, hl, _ => by simp at hl
  | _ :: _, [], hl, _ => by simp at hl
theorem foldl_set (off : Nat) : ∀ (ys : List Value) (c : Array Value) (j : Nat), ((ys.zipIdx j).foldl (fun cs (p : Value × Nat) => cs.setIfInBounds (off + p.2) p.1) c).size = c.size ∧ ∀ k, ((ys.zipIdx j).foldl (fun cs (p : Value × Nat) => cs.setIfInBounds (off + p.2) p.1) c)[k]? = if off + j ≤ k ∧ k < off + j + ys.length ∧ k < c.size then ys[k - (off + j)]? else c[k]?
  | [], c, j => ⟨rfl, fun k => by rw [if_neg (by simp only [List.length_nil]; omega)]; rfl⟩
  | y :: ys, c, j => by
    obtain ⟨h1, h2⟩ := foldl_set off ys (c.setIfInBounds (off + j) y) (j + 1)
    simp only [List.zipIdx_cons, List.foldl_cons]
    refine ⟨by rw [h1]; simp, fun k => ?_⟩
    rw [h2, Array.size_setIfInBounds, Array.getElem?_setIfInBounds]
    by_cases ha : off + (j + 1) ≤ k ∧ k < off + (j + 1) + ys.length ∧ k < c.size
    · rw [if_pos ha, if_pos ⟨by omega, by simp; omega, ha.2.2⟩]
      obtain ⟨d, rfl⟩ : ∃ d, k = off + j + 1 + d := ⟨k - (off + j + 1), by omega⟩
      rw [show off + j + 1 + d - (off + (j + 1)) = d from by omega, show off + j + 1 + d - (off + j) = d + 1 from by omega, List.getElem?_cons_succ]
    · rw [if_neg ha]
      by_cases hk : off + j = k
      · subst hk
        by_cases hs : off + j < c.size
        · rw [if_pos rfl, if_pos hs, if_pos ⟨Nat.le_refl _, by simp, hs⟩]
          simp
        · rw [if_pos rfl, if_neg hs, if_neg (fun h => hs h.2.2)]
          simp [hs]
      · rw [if_neg hk, if_neg (by simp; omega)]
theorem fill_ok (hR : Rel C E s a) {place : Nat → Option (Nat × Nat)} : ∀ {parts : List (Nat × Operand)} {cells : List V} {c : Array Value} {cs : List V}, Rvs E .none cells c.toList → fillV s place cells (partsV s parts) = some cs →
    ∃ c', Instr.fill place c (parts.map fun p => (p.1, a.eval p.2)) = some c' ∧ Rvs E .none cs c'.toList
  | [], cells, c, cs, hc, h => by
    simp only [partsV, fillV, Option.some.injEq] at h
    subst h
    exact ⟨c, rfl, hc⟩
  | (i, x) :: parts, cells, c, cs, hc, h => by
    simp only [partsV, fillV] at h
    cases hp : place i with
    | none => rw [hp] at h; cases h
    | some os =>
    obtain ⟨off, sz⟩ := os
    rw [hp] at h
    cases hv : cellsV s (ev s x) with
    | none => rw [hv] at h; cases h
    | some vs =>
    rw [hv] at h
    simp only at h
    cases hb : (Nat.beq vs.length sz && Nat.ble (off + vs.length) cells.length) with
    | false => rw [hb] at h; cases h
    | true =>
    rw [hb] at h
    simp only [cond_true] at h
    simp only [Bool.and_eq_true] at hb
    have hsz : vs.length = sz := Nat.eq_of_beq_eq_true hb.1
    have hle : off + vs.length ≤ cells.length := Nat.le_of_ble_eq_true hb.2
    have hxv := cellsV_ok hR hv (ev_ok hR x)
    have hxl := Rvs_len hxv
    have hcl := Rvs_len hc
    simp only [Array.length_toList] at hxl hcl
    have hset : Rvs E .none (setC cells off vs) ((a.eval x).cells.zipIdx.foldl (fun cs (p : Value × Nat) => cs.setIfInBounds (off + p.2) p.1) c).toList := by
      obtain ⟨f1, f2⟩ := foldl_set off (a.eval x).cells.toList c 0
      have heq : (a.eval x).cells.zipIdx.foldl (fun cs (p : Value × Nat) => cs.setIfInBounds (off + p.2) p.1) c = ((a.eval x).cells.toList.zipIdx 0).foldl (fun cs (p : Value × Nat) => cs.setIfInBounds (off + p.2) p.1) c := by
        rw [← Array.foldl_toList]
        simp
      rw [heq]
      refine Rvs_mk ((setC_len hle).trans (hcl.trans (f1.symm.trans Array.length_toList.symm))) fun k v hk => ?_
      rw [setC_get hle] at hk
      rw [Array.getElem?_toList, f2]
      by_cases hin : off ≤ k ∧ k < off + vs.length
      · rw [if_pos hin] at hk
        obtain ⟨z, hz, hr⟩ := Rvs_get hxv _ v hk
        exact ⟨z, by rw [if_pos ⟨by omega, by simp; omega, by omega⟩]; simpa using hz, hr⟩
      · rw [if_neg hin] at hk
        obtain ⟨z, hz, hr⟩ := Rvs_get hc _ v hk
        exact ⟨z, by rw [if_neg (by simp; omega)]; simpa using hz, hr⟩
    obtain ⟨c', hc', hr'⟩ := fill_ok hR hset h
    refine ⟨c', ?_, hr'⟩
    simp only [List.map_cons, Instr.fill, hp]
    have e1 : (a.eval x).cells.size = sz := by omega
    have e2 : ¬ (off + sz > c.size) := by omega
    rw [if_neg (by simp only [e1, ne_eq, not_true_eq_false, decide_false, Bool.false_or, decide_eq_true_eq]; exact e2)]
    exact hc'
end
end Go.Proofs.YtiplgkbgkmomlaaD
