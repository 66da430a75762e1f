/- Steps by which addresses into rows go stale; stores of slices into rows, and into rows in rows. -/
import Derived.Test.YtiplgkbgkmomlaaD10
set_option linter.unusedVariables false
set_option linter.unusedSimpArgs false
namespace Go.Proofs.YtiplgkbgkmomlaaD
open Go

/-- As Mono; of addresses into the rows of the objects of X nothing is said. -/
structure MonoX (X : Lents) (E E' : Env) : Prop where
  sz : E.w.heap.size ≤ E'.w.heap.size
  free : ∀ b, b < E.w.heap.size → E.okb b → E'.okb b ∧ E'.w.heap[b]? = E.w.heap[b]?
  n : E.n ≤ E'.n
  ref : ∀ i, i < E.n → (E'.g i).isSome = true → (E.g i).isSome = true ∧ E'.ρ i = E.ρ i ∧ (E.o (E.ρ i).1 = some [i] → E'.o (E.ρ i).1 = some [i] ∨ ∀ j, (E'.g j).isSome = true → (E.ρ j).1 = (E.ρ i).1 → j ≠ i) ∧
    ∀ c e, E.w.heap[(E.ρ i).1]? = some (.cells c e (0, 0)) → ∃ c', E'.w.heap[(E.ρ i).1]? = some (.cells c' e (0, 0)) ∧ c'.size = c.size
  sub : ∀ i j, noWhole X i = true → i < E.n → isTr E'.g i j → isTr E.g i j ∧ E'.w.cell? ⟨(E.ρ i).1, (E.ρ i).2 + j, none⟩ = E.w.cell? ⟨(E.ρ i).1, (E.ρ i).2 + j, none⟩
theorem MonoX.bare {X : Lents} {E E' : Env} (h : MonoX X E E') : Mono E.bare E'.bare := ⟨h.sz, h.free, Nat.le_refl _, fun _ h _ => absurd h (Nat.not_lt_zero _), fun _ _ h _ => absurd h (Nat.not_lt_zero _)⟩
theorem MonoX.lab {X : Lents} {E E' : Env} (h : MonoX X E E') {i : Nat} (hi : i < E.n) (hs : (E'.g i).isSome = true) (ho : E.o (E.ρ i).1 = some [i]) : E'.o (E.ρ i).1 = some [i] := by
  obtain ⟨_, _, h3, _⟩ := h.ref i hi hs
  rcases h3 ho with h4 | h4
  · exact h4
  · exact absurd rfl (h4 i hs rfl)
mutual
theorem Rv.monoX : ∀ {X : Lents} {E E' : Env} (hm : MonoX X E E') {v : V} {x : Value}, noSub X v = true → Rv E .none v x → Rv E' .none v x
  | X, E, E', hm, .sc v, x, _, h => h
  | X, E, E', hm, .ro n cs, x, _, h => by
    obtain ⟨A, cap, rfl, hc, hr⟩ := h
    refine ⟨A, cap, rfl, hc, fun hne => ?_⟩
    obtain ⟨b, off, hA, hok, hb, hrow⟩ := hr hne
    obtain ⟨h1, h2⟩ := hm.free b hb hok
    exact ⟨b, off, hA, h1, Nat.lt_of_lt_of_le hb hm.sz, Rrow.mono hm.bare (m := .none) (fun q hq => by cases hq) h2 hrow⟩
  | X, E, E', hm, .tr sz n cs, x, _, h => by
    obtain ⟨A, cap, rfl, hc, hl, hr⟩ := h
    refine ⟨A, cap, rfl, hc, hl, ?_⟩
    rcases hr with hr | ⟨b, off, q, c, e, hA, hq, _⟩
    · exact .inl hr
    · simp [Md.leaf] at hq
  | X, E, E', hm, .own i sz off n lo hi, x, _, h => by
    obtain ⟨hi', A, cap, hx, h⟩ := h
    refine ⟨Nat.lt_of_lt_of_le hi' hm.n, A, cap, hx, fun hl => ?_⟩
    obtain ⟨h1, h2, _, h4⟩ := hm.ref i hi' hl
    obtain ⟨hc, hlo, hhi, hr⟩ := h h1
    refine ⟨hc, hlo, hhi, ?_⟩
    rcases hr with hr | ⟨c, e, hA, ho, hh, hs⟩
    · exact .inl hr
    · obtain ⟨c', hc', hsz⟩ := h4 c e hh
      exact .inr ⟨c', e, by rw [h2]; exact hA, by rw [h2]; exact hm.lab hi' hl ho, by rw [h2]; exact hc', by rw [h2, hsz]; exact hs⟩
  | X, E, E', hm, .sub i j, x, hn, h => by
    obtain ⟨hi', hsl, h⟩ := h
    refine ⟨Nat.lt_of_lt_of_le hi' hm.n, hsl, fun hl => ?_⟩
    obtain ⟨h1, h2⟩ := hm.sub i j hn hi' hl
    have hs : (E'.g i).isSome = true := by obtain ⟨_, _, _, _, he, _⟩ := hl; rw [he]; rfl
    obtain ⟨_, h3, _⟩ := hm.ref i hi' hs
    rw [h3, h2]
    exact h h1
  | X, E, E', hm, .ptr i off, x, _, h => by
    obtain ⟨hi', ad, hx, h⟩ := h
    refine ⟨Nat.lt_of_lt_of_le hi' hm.n, ad, hx, fun hl => ?_⟩
    obtain ⟨h1, h2, _⟩ := hm.ref i hi' hl
    rw [h2]
    exact h h1
  | X, E, E', hm, .rp cs, x, _, h => by
    obtain ⟨b, off, rfl, hok, hb, hrow⟩ := h
    obtain ⟨h1, h2⟩ := hm.free b hb hok
    exact ⟨b, off, rfl, h1, Nat.lt_of_lt_of_le hb hm.sz, Rrow.mono hm.bare (m := .none) (fun q hq => by cases hq) h2 hrow⟩
  | X, E, E', hm, .bp cs, x, _, h => by
    obtain ⟨b, off, q, c, e, rfl, hq, _⟩ := h
    simp [Md.leaf] at hq
  | X, E, E', hm, .sp i j off, x, hn, h => by
    obtain ⟨hi', ad, hx, h⟩ := h
    refine ⟨Nat.lt_of_lt_of_le hi' hm.n, ad, hx, fun hl => ?_⟩
    obtain ⟨h1, h2⟩ := hm.sub i j hn hi' hl
    have hs : (E'.g i).isSome = true := by obtain ⟨_, _, _, _, he, _⟩ := hl; rw [he]; rfl
    obtain ⟨_, h3, _⟩ := hm.ref i hi' hs
    obtain ⟨A, n, cap, h4, h5⟩ := h h1
    exact ⟨A, n, cap, by rw [h3, h2]; exact h4, h5⟩
  | X, E, E', hm, .agg cs, x, hn, h => by
    obtain ⟨xs, rfl, hr⟩ := h
    exact ⟨xs, rfl, Rvs.monoX hm hn hr⟩
  | X, E, E', hm, .tup cs, x, hn, h => by
    obtain ⟨xs, rfl, hr⟩ := h
    exact ⟨xs, rfl, Rvs.monoX hm hn hr⟩
  | X, E, E', hm, .fn f cs, x, hn, h => by
    obtain ⟨xs, rfl, hr⟩ := h
    exact ⟨xs, rfl, Rvs.monoX hm hn hr⟩
  | X, E, E', hm, .any, x, _, _ => trivial
theorem Rvs.monoX : ∀ {X : Lents} {E E' : Env} (hm : MonoX X E E') {cs : List V} {xs : List Value}, noSubs X cs = true → Rvs E .none cs xs → Rvs E' .none cs xs
  | X, E, E', hm, [], [], _, _ => trivial
  | X, E, E', hm, c :: cs, x :: xs, hn, h => by
    simp only [noSubs, Bool.and_eq_true] at hn
    exact ⟨Rv.monoX hm hn.1 h.1, Rvs.monoX hm hn.2 h.2⟩
  | X, E, E', hm, [], _ :: _, _, h => h.elim
  | X, E, E', hm, _ :: _, [], _, h => h.elim
end
theorem Rrow.monoX {X : Lents} {E E' : Env} (hm : MonoX X E E') : ∀ {b off j : Nat} {cs : List V}, noSubs X cs = true → E'.w.heap[b]? = E.w.heap[b]? → Rrow E .none b off j cs → Rrow E' .none b off j cs
  | b, off, j, [], _, _, _ => trivial
  | b, off, j, c :: cs, hn, hb, ⟨⟨v, hv, hr⟩, hs⟩ => by
    simp only [noSubs, Bool.and_eq_true] at hn
    exact ⟨⟨v, (cell_heap hb).trans hv, Rv.monoX hm hn.1 hr⟩, Rrow.monoX hm hn.2 hb hs⟩
theorem noSubT_lk {X : Lents} : ∀ {t : List (Nat × V)}, noSubT X t = true → ∀ k, noSub X (lk t k) = true
  | [], _, k => rfl
  | (j, v) :: r, h, k => by
    simp only [noSubT, Bool.and_eq_true] at h
    simp only [lk]
    cases Nat.beq j k with
    | true => exact h.1
    | false => exact noSubT_lk h.2 k
theorem noSubG_ob {X : Lents} : ∀ {g : List (Option Obj)} {i : Nat} {cs : List V}, noSubG X g = true → obOf g i = some ⟨true, cs⟩ → noSubs X cs = true
  | [], i, cs, _, h => by simp [obOf] at h
  | some ⟨true, ds⟩ :: r, i, cs, hn, h => by
    simp only [noSubG, Bool.and_eq_true] at hn
    cases i with
    | zero => simp [obOf] at h; subst h; exact hn.1
    | succ i => exact noSubG_ob (g := r) hn.2 h
  | some ⟨false, ds⟩ :: r, i, cs, hn, h => by
    cases i with
    | zero => simp [obOf] at h
    | succ i => exact noSubG_ob (g := r) hn h
  | none :: r, i, cs, hn, h => by
    cases i with
    | zero => simp [obOf] at h
    | succ i => exact noSubG_ob (g := r) hn h

section
variable {P : Program} {Γ : Tab} {C : Ctx} {E : Env} {s : St} {a : Act} {o : Oper} {K : V → St → Prop}

theorem Pin.monoX {X : Lents} {E E' : Env} (h : Pin C E) (hm : MonoX X E E') : Pin C E' := by
  refine ⟨Nat.le_trans h.1 hm.n, fun k hk hs => ?_⟩
  obtain ⟨h1, h2, _⟩ := hm.ref k (Nat.lt_of_lt_of_le hk h.1) hs
  obtain ⟨g1, g2⟩ := h.2 k hk h1
  refine ⟨h2.trans g1, fun ho => ?_⟩
  have h3 := hm.lab (Nat.lt_of_lt_of_le hk h.1) hs (by rw [g1]; exact g2 ho)
  rwa [g1] at h3
/-- A state behind such a step: slots and boxes as they were, rows anew. -/
theorem Rel.ofX {X : Lents} {E' : Env} {s' : St} (hR : Rel C E s a) (hm : MonoX X E E') (hN : s'.N = s.N) (ht : s'.t = s.t) (hns : noSubT X s.t = true) (hnb : noSubG X s.g = true) (hg : E'.g = s'.ob) (hn : E'.n = s'.g.length)
    (hbox : ∀ i cs, s'.ob i = some ⟨true, cs⟩ → s.ob i = some ⟨true, cs⟩ ∧ E'.w.heap[(E.ρ i).1]? = E.w.heap[(E.ρ i).1]?) (hrow : ∀ i cs, s'.ob i = some ⟨false, cs⟩ → ObR E' i ⟨false, cs⟩)
    (hokb : E'.okb = fun b => E'.o b = none) (hlab : ∀ b p, E'.o b = some p → b < E'.w.heap.size ∧ (p = [] ∨ C.w0.heap.size ≤ b ∨ C.lent b)) (hfr : Fr C E'.w) (hold : ∀ b, b < C.w0.heap.size → ¬ C.lent b → E'.o b = C.o0 b) : Rel C E' s' a := by
  refine ⟨by rw [hN]; exact hR.size, hR.nd, fun k => by rw [ht]; exact Rv.monoX hm (noSubT_lk hns k) (hR.slot k), hg, hn, fun i ob hi => ?_, hokb, hlab, hfr, hold, hR.pin.monoX hm⟩
  obtain ⟨bx, cs⟩ := ob
  cases bx with
  | false => exact hrow i cs hi
  | true =>
    obtain ⟨h1, h2⟩ := hbox i cs hi
    obtain ⟨c, e, hh, h0, hl, hr⟩ := hR.ob i _ h1
    have hs : (E'.g i).isSome = true := by rw [hg, hi]; rfl
    obtain ⟨_, h3, _⟩ := hm.ref i (ob_n hR h1) hs
    exact ⟨c, e, by rw [h3, h2]; exact hh, by rw [h3]; exact h0, by rw [h3]; exact hm.lab (ob_n hR h1) hs hl, by rw [h3]; exact Rrow.monoX hm (noSubG_ob hnb h1) h2 hr⟩

/-- Labels under an unused name are given to another. -/
def Env.rl (E : Env) (kid : Nat) (p : List Nat) : Env := { E with o := fun b => relab kid p (E.o b), okb := fun b => relab kid p (E.o b) = none }
theorem rl_mono (hR : Rel C E s a) {kid : Nat} (hk : s.g.length ≤ kid) (p : List Nat) : Mono E (E.rl kid p) := by
  refine ⟨Nat.le_refl _, fun b _ hok => ⟨?_, rfl⟩, Nat.le_refl _, fun j hj hl => ⟨hl, rfl, fun ho => ?_, fun c e h => ⟨c, h, rfl⟩⟩, fun j k hj ht => ⟨ht, rfl⟩⟩
  · show relab kid p (E.o b) = none
    rw [hR.okb] at hok
    exact relab_none.2 hok
  · show relab kid p (E.o (E.ρ j).1) = some [j]
    rw [ho, relab_other (by rw [hR.n] at hj; omega)]
theorem rl_kept {kid j : Nat} {p q : List Nat} (h : j ≠ kid) : Kept E (E.rl kid p) (j :: q) := fun b r hb => by
  refine ⟨?_, rfl⟩
  show relab kid p (E.o b) = _
  rw [hb]
  exact relab_other h
theorem rl_moved (kid : Nat) (p q : List Nat) : Moved E (E.rl kid p) (kid :: q) (p ++ q) := fun b r hb => by
  refine ⟨?_, rfl⟩
  show relab kid p (E.o b) = _
  rw [hb]
  simp [relab]
theorem rel_rl (hR : Rel C E s a) {kid : Nat} (hk : s.g.length ≤ kid) (p : List Nat) : Rel C (E.rl kid p) s a := by
  have hm := rl_mono hR hk p
  refine ⟨hR.size, hR.nd, fun k => (hR.slot k).slot hm, hR.g, hR.n, fun j x hx => ObR.mono hm rfl (rl_kept (by have := obOf_lt (g := s.g) hx; omega)) (hR.ob j x hx), rfl, fun b q hq => ?_, hR.fr, fun b hb hl => ?_, hR.pin.mono hm⟩
  · have hne : E.o b ≠ none := by
      intro h
      simp only [Env.rl, h, relab] at hq
      cases hq
    cases h : E.o b with
    | none => exact absurd h hne
    | some q' =>
      obtain ⟨h1, h2⟩ := hR.lab b q' h
      refine ⟨h1, ?_⟩
      rcases h2 with rfl | h2
      · left
        simp only [Env.rl, h, relab, Option.some.injEq] at hq
        exact hq.symm
      · exact .inr h2
  · have h := hR.old b hb hl
    show relab kid p (E.o b) = _
    rw [h]
    cases ho : C.o0 b with
    | none => rfl
    | some q => rw [C.dull b q hl ho]; rfl

/-- Cells of a row are written; what is written may hold slices of the row's own. -/
theorem wr_nested {w' : World} {i off : Nat} {cs us : List V} {xs : List Value} (hR : Rel C E s a) (hob : s.ob i = some ⟨false, cs⟩) (hlab : E.o (E.ρ i).1 = some [i]) (hh : ∃ c e, E.w.heap[(E.ρ i).1]? = some (.cells c e (0, 0))) (hrow : Rrow E.bare (.at [i]) (E.ρ i).1 (E.ρ i).2 0 cs)
    (hw : Wrote E.w w' (E.ρ i).1 ((E.ρ i).2 + off) xs) (hul : us.length = xs.length) (hle : off + us.length ≤ cs.length) (hus : ∀ k u, us[k]? = some u → ∃ z, xs[k]? = some z ∧ Rv E.bare (.at [i, off + k]) u z)
    (hns : noSubT [(i, none)] s.t = true) (hnb : noSubG [(i, none)] s.g = true) : Rel C (E.wr w' i ⟨false, setC cs off us⟩) (s.put i (some ⟨false, setC cs off us⟩)) a := by
  obtain ⟨c, e, hh⟩ := hh
  have hnw : ∀ l, noWhole [(i, none)] l = true → l ≠ i := by
    intro l h he
    subst he
    simp [noWhole] at h
  have hm : MonoX [(i, none)] E (E.wr w' i ⟨false, setC cs off us⟩) := by
    refine ⟨Nat.le_of_eq hw.size.symm, fun b' hb' hok => ⟨hok, hw.other b' ?_⟩, Nat.le_refl _, fun j hj hl => ⟨?_, rfl, fun h => .inl h, fun c e hc => ?_⟩, fun l k hnl hl ht => ?_⟩
    · intro he
      rw [hR.okb, he, hlab] at hok
      cases hok
    · by_cases hji : j = i
      · rw [hji]; exact ob_live hR hob
      · simpa [Env.wr, hji] using hl
    · by_cases he : (E.ρ j).1 = (E.ρ i).1
      · rw [he] at hc ⊢
        obtain ⟨c', h1, h2, _⟩ := hw.row c e hc
        exact ⟨c', h1, h2⟩
      · exact ⟨c, by rw [← hc]; exact hw.other _ he, rfl⟩
    · have hli := hnw l hnl
      have ht' : isTr E.g l k := by
        obtain ⟨cs', sz, n, r, hg, hk⟩ := ht
        simp only [Env.wr, if_neg hli] at hg
        exact ⟨cs', sz, n, r, hg, hk⟩
      refine ⟨ht', cell_heap (hw.other _ ?_)⟩
      obtain ⟨cs', sz, n, r, hg, hk⟩ := ht'
      rw [hR.g] at hg
      rcases hR.ob l _ hg with h0 | ⟨c, e, _, hl, _⟩
      · rw [h0] at hk; simp at hk
      · intro he
        rw [he, hlab] at hl
        simp at hl
        exact hli hl.symm
  have hgn : (E.wr w' i ⟨false, setC cs off us⟩).g = (s.put i (some ⟨false, setC cs off us⟩)).ob := by
    funext j
    rw [put_ob hob]
    simp only [Env.wr, hR.g]
  have hblk : ∀ j cs', s.ob j = some cs' → j ≠ i → cs'.cs ≠ [] ∨ cs'.box = true → (E.ρ j).1 ≠ (E.ρ i).1 := by
    intro j ob hj hji hne he
    obtain ⟨bx, cs'⟩ := ob
    have := hR.ob j _ hj
    cases bx with
    | true =>
      obtain ⟨_, _, _, _, hl, _⟩ := this
      rw [he, hlab] at hl
      simp at hl
      exact hji hl.symm
    | false =>
      rcases this with h0 | ⟨_, _, _, hl, _⟩
      · subst h0; simp at hne
      · rw [he, hlab] at hl
        simp at hl
        exact hji hl.symm
  refine Rel.ofX hR hm rfl rfl hns hnb hgn (by simp [Env.wr, St.put, setOb_length, hR.n]) (fun j cs' hj => ?_) (fun j cs' hj => ?_) hR.okb (fun b' p hp => ?_) (fr_wrote (i := i) hR.fr hw ((hR.lab _ _ hlab).2.resolve_left (by simp))) hR.old
  · rw [put_ob hob] at hj
    by_cases hji : j = i
    · rw [if_pos hji] at hj; cases hj
    · rw [if_neg hji] at hj
      exact ⟨hj, hw.other _ (hblk j _ hj hji (.inr rfl))⟩
  · rw [put_ob hob] at hj
    by_cases hji : j = i
    · rw [if_pos hji] at hj
      cases hj
      subst hji
      obtain ⟨c', hc', hcsz, hck⟩ := hw.row c e hh
      refine .inr ⟨c', e, hc', hlab, Rrow_mk fun k v hk => ?_⟩
      have hwc := wrote_cell hw hh ((E.ρ j).2 + k)
      rw [setC_get hle] at hk
      by_cases hin : off ≤ k ∧ k < off + us.length
      · rw [if_pos hin] at hk
        obtain ⟨z, hz, hr⟩ := hus (k - off) v hk
        refine ⟨z, ?_, ?_⟩
        · show w'.cell? ⟨(E.ρ j).1, (E.ρ j).2 + k, none⟩ = _
          rw [hwc, if_pos (by omega), show (E.ρ j).2 + k - ((E.ρ j).2 + off) = k - off from by omega]
          exact hz
        · rw [show off + (k - off) = 0 + k from by omega] at hr
          refine Rv.mono hm.bare (fun q hq b r hb => ?_) (fun q j hq _ => by cases hq) hr
          cases hq
          exact wr_kept (E := E) (ob := ⟨false, setC cs off us⟩) hw hlab (q := [j, 0 + k]) (fun r' hr' => by simp at hr') b r hb
      · rw [if_neg hin] at hk
        obtain ⟨z, hz, hr⟩ := Rrow_get hrow k v hk
        refine ⟨z, ?_, Rv.mono hm.bare (fun q hq b r hb => ?_) (fun q j hq _ => by cases hq) hr⟩
        · show w'.cell? ⟨(E.ρ j).1, (E.ρ j).2 + k, none⟩ = _
          rw [hwc, if_neg (by omega)]
          exact hz
        · cases hq
          exact wr_kept (E := E) (ob := ⟨false, setC cs off us⟩) hw hlab (q := [j] ++ [0 + k]) (fun r' hr' => by simp at hr') b r hb
    · rw [if_neg hji] at hj
      rcases hR.ob j _ hj with h0 | ⟨c1, e1, h1, h2, h3⟩
      · exact .inl h0
      · have hne : (E.ρ j).1 ≠ (E.ρ i).1 := by
          intro he
          rw [he, hlab] at h2
          simp at h2
          exact hji h2.symm
        refine .inr ⟨c1, e1, (hw.other _ hne).trans h1, h2, Rrow.mono hm.bare (fun q hq b r hb => ?_) (hw.other _ hne) h3⟩
        cases hq
        exact wr_kept (E := E) (ob := ⟨false, setC cs off us⟩) hw hlab (q := [j]) (fun r' hr' => hji (by simp at hr'; exact hr'.1)) b r hb
  · obtain ⟨h1, h2⟩ := hR.lab b' p hp
    exact ⟨by show b' < w'.heap.size; rw [hw.size]; exact h1, h2⟩
theorem into_own {i sz n lo : Nat} {hi : Option Nat} {K : V → St → Prop} {s : St} : intoK s (.own i sz 0 n lo hi) K ↔ ∃ cs, s.ob i = some ⟨false, cs⟩ ∧ cs.length = n * sz ∧ K (.tr sz n cs) (s.put i none) := by
  simp only [intoK]
  constructor
  · intro h
    split at h
    · rename_i cs hc; exact ⟨cs, hc, h⟩
    · exact h.elim
  · rintro ⟨cs, hc, h⟩
    rw [hc]
    exact h
theorem into_sub {i j : Nat} {K : V → St → Prop} {s : St} : intoK s (.sub i j) K ↔ ∃ cs, s.ob i = some ⟨false, cs⟩ ∧ ∃ sz n r, cs[j]? = some (.tr sz n r) ∧ K (.tr sz n r) (s.put i (some ⟨false, cs.set j .any⟩)) := by
  simp only [intoK]
  constructor
  · intro h
    split at h
    · rename_i cs hc; exact ⟨cs, hc, h⟩
    · exact h.elim
  · rintro ⟨cs, hc, h⟩
    rw [hc]
    exact h
theorem into_keep {v : V} {K : V → St → Prop} (h : intoK s v K) : intoK s v fun u s' => K u s' ∧ s'.t = s.t ∧ s'.N = s.N ∧ ∀ X, noSubG X s.g = true → noSubG X s'.g = true := by
  have hput : ∀ (X : Lents) (g : List (Option Obj)) (i : Nat) (x : Option Obj), (∀ cs, x ≠ some ⟨true, cs⟩) → noSubG X g = true → noSubG X (setOb g i x) = true := by
    intro X g
    induction g with
    | nil => intro i x hx h; exact h
    | cons o g ih =>
      intro i x hx h
      cases i with
      | zero =>
        have hg : noSubG X g = true := by
          cases o with
          | none => exact h
          | some ob => obtain ⟨bx, cs⟩ := ob; cases bx <;> simp_all [noSubG]
        cases x with
        | none => exact hg
        | some ob =>
          obtain ⟨bx, cs⟩ := ob
          cases bx with
          | true => exact absurd rfl (hx cs)
          | false => exact hg
      | succ i =>
        cases o with
        | none => exact ih i x hx h
        | some ob =>
          obtain ⟨bx, cs⟩ := ob
          cases bx with
          | true =>
            simp only [setOb, noSubG, Bool.and_eq_true] at h ⊢
            exact ⟨h.1, ih i x hx h.2⟩
          | false => exact ih i x hx h
  cases v with
  | sc v => exact nilK_imp h (fun h => ⟨h, rfl, rfl, fun _ h => h⟩) (fun ⟨sz, h⟩ => ⟨sz, h, rfl, rfl, fun _ h => h⟩)
  | ro n cs => exact ⟨h, rfl, rfl, fun _ h => h⟩
  | own i sz off n lo hi =>
    cases off with
    | succ off => exact False.elim h
    | zero =>
    obtain ⟨cs, h1, h2, h3⟩ := into_own.1 h
    exact into_own.2 ⟨cs, h1, h2, h3, rfl, rfl, fun X hX => hput X _ _ _ (fun cs => nofun) hX⟩
  | sub i j =>
    obtain ⟨cs, h0, sz, n, r, h1, h2⟩ := into_sub.1 h
    exact into_sub.2 ⟨cs, h0, sz, n, r, h1, h2, rfl, rfl, fun X hX => hput X _ _ _ (fun cs => nofun) hX⟩
  | _ => exact False.elim h
theorem into_imp {v : V} {s : St} {K K' : V → St → Prop} (hK : ∀ u s', K u s' → K' u s') (h : intoK s v K) : intoK s v K' := by
  cases v with
  | sc v => exact nilK_imp h (hK _ _) (fun ⟨sz, h⟩ => ⟨sz, hK _ _ h⟩)
  | ro n cs => exact hK _ _ h
  | own i sz off n lo hi =>
    cases off with
    | succ off => exact False.elim h
    | zero =>
    obtain ⟨cs, h1, h2, h3⟩ := into_own.1 h
    exact into_own.2 ⟨cs, h1, h2, hK _ _ h3⟩
  | sub i j =>
    obtain ⟨cs, h0, sz, n, r, h1, h2⟩ := into_sub.1 h
    exact into_sub.2 ⟨cs, h0, sz, n, r, h1, hK _ _ h2⟩
  | _ => exact False.elim h
theorem intos_imp : ∀ {ws : List V} {s : St} {K K' : List V → St → Prop}, (∀ u s', K u s' → K' u s') → intosK s ws K → intosK s ws K'
  | [], s, K, K', hK, h => hK _ _ h
  | w :: ws, s, K, K', hK, h => into_imp (fun u s1 h => intos_imp (fun us s2 h => hK _ _ h) h) h
theorem intos_keep : ∀ {vs : List V} {s : St} {K : List V → St → Prop}, intosK s vs K → intosK s vs fun u s' => K u s' ∧ s'.t = s.t ∧ s'.N = s.N ∧ ∀ X, noSubG X s.g = true → noSubG X s'.g = true
  | [], s, K, h => ⟨h, rfl, rfl, fun _ h => h⟩
  | v :: vs, s, K, h => by
    refine into_imp (fun u s1 h1 => ?_) (into_keep (s := s) (v := v) h)
    obtain ⟨h1, h2, h3, h4⟩ := h1
    have := intos_keep (vs := vs) h1
    have imps : ∀ {ws : List V} {s : St} {K K' : List V → St → Prop}, (∀ u s', K u s' → K' u s') → intosK s ws K → intosK s ws K' := by
      intro ws
      induction ws with
      | nil => intro s K K' hK h; exact hK _ _ h
      | cons w ws ih => intro s K K' hK h; exact into_imp (fun u s1 h => ih (fun us s2 h => hK _ _ h) h) h
    exact imps (fun us s2 ⟨g1, g2, g3, g4⟩ => ⟨g1, g2.trans h2, g3.trans h3, fun X hX => g4 X (h4 X hX)⟩) this

theorem intos_solid : ∀ {vs : List V} {s : St} {K : List V → St → Prop}, intosK s vs K → ∀ v ∈ vs, solid v = true
  | [], s, K, h, v, hv => by cases hv
  | w :: vs, s, K, h, v, hv => by
    simp only [List.mem_cons] at hv
    have key : ∀ {s : St} {K : V → St → Prop}, intoK s w K → solid w = true ∧ ∃ u s', K u s' := by
      intro s K h
      cases w with
      | sc v => exact ⟨rfl, (nilK_cases h).elim (fun h => ⟨_, _, h⟩) (fun ⟨_, sz, h⟩ => ⟨_, _, h⟩)⟩
      | ro n cs => exact ⟨rfl, _, _, h⟩
      | own i sz off n lo hi =>
        cases off with
        | succ off => exact False.elim h
        | zero =>
        obtain ⟨cs, h1, h2, h3⟩ := into_own.1 h
        exact ⟨rfl, _, _, h3⟩
      | sub i j =>
        obtain ⟨cs, h0, sz, n, r, h1, h2⟩ := into_sub.1 h
        exact ⟨rfl, _, _, h2⟩
      | _ => exact False.elim h
    obtain ⟨h1, u, s', h2⟩ := key h
    rcases hv with rfl | hv
    · exact h1
    · exact intos_solid h2 v hv
theorem op_store_nested {t : TypeId} {ti : TI} {x y : Operand} {i off : Nat} {cs vs r : List V} (ho : o.op = .store t x y) (hR : Rel C E s a) (hT : TIOk P t ti) (hx : ev s x = .ptr i off) (hy : cellsV s (ev s y) = some vs) (hl : vs.length = ti.size) (hob : s.ob i = some ⟨false, cs⟩)
    (hr0 : takeN cs off ti.size = some r) (hz0 : ti.size ≠ 0) (hns : noSubT [(i, none)] s.t = true) (hnb : noSubG [(i, none)] s.g = true)
    (h : intosK s vs fun us s1 => match s1.ob i with
          | some ⟨false, cs1⟩ => off + ti.size ≤ cs1.length ∧ K .any (s1.put i (some ⟨false, setC cs1 off us⟩))
          | _ => False) : OpOk P C E s a o K := by
  have hpx := ev_ptr hR hx hob
  have hvy := cellsV_ok hR hy (ev_ok hR y)
  obtain ⟨hle0, _, _⟩ := takeN_some hr0
  obtain ⟨E1, us, s1, ⟨h1, ht1, hN1, hg1⟩, hR1, hw1, hρ1, hm1, hl1, hk1, hul, hus⟩ := intos_ok (kid := s.g.length) (j := off) hR (Nat.le_refl _) (intos_keep h) hvy
  cases hob1 : s1.ob i with
  | none => rw [hob1] at h1; exact h1.elim
  | some ob =>
  obtain ⟨bx, cs1⟩ := ob
  cases bx with
  | true => rw [hob1] at h1; exact h1.elim
  | false =>
  rw [hob1] at h1
  obtain ⟨hle, hK⟩ := h1
  have hR2 := rel_rl hR1 (kid := s.g.length) (by omega) [i]
  have hne : i ≠ s.g.length := by have := obOf_lt (g := s.g) hob; omega
  have hxl : (a.eval y).cells.toList.length = ti.size := by rw [← hl]; exact (Rvs_len hvy).symm
  rcases hR2.ob i _ hob1 with h0 | ⟨c, e, hh, hlab, hrow⟩
  · rw [h0] at hle; simp at hle; omega
  · have hcs : (E.ρ i).2 + off + ti.size ≤ c.size := by
      have hh' := row_size hrow hh (off + ti.size - 1) (by omega)
      have hρ : ((E1.rl s.g.length [i]).ρ i).2 = (E.ρ i).2 := by show (E1.ρ i).2 = _; rw [hρ1]
      rw [hρ] at hh'
      omega
    have hh2 : E.w.heap[(E.ρ i).1]? = some (.cells c e (0, 0)) := by
      have : (E1.rl s.g.length [i]).w.heap[((E1.rl s.g.length [i]).ρ i).1]? = E.w.heap[(E.ρ i).1]? := by show E1.w.heap[(E1.ρ i).1]? = _; rw [hw1, hρ1]
      rw [← this]; exact hh
    have hone : ∀ z ∈ (a.eval y).cells.toList, z.oneCell' = true := by
      intro z hz
      obtain ⟨k, hk⟩ := List.getElem?_of_mem hz
      have hkl : k < us.length := by rw [hul]; exact (List.getElem?_eq_some_iff.1 hk).1
      obtain ⟨z', hz', hr⟩ := hus k _ (List.getElem?_eq_getElem hkl)
      rw [hk] at hz'
      cases hz'
      obtain ⟨c', hc', hr'⟩ := Rvs_get' hvy k z hk
      exact solid_one (intos_solid h c' (List.mem_of_getElem? hc')) hr'
    obtain ⟨w', hrun, hw⟩ := storeVar_run (P := P) hT (v := a.eval y) (by simpa using hxl) hh2 hcs hone
    have hwE : Wrote (E1.rl s.g.length [i]).w w' ((E1.rl s.g.length [i]).ρ i).1 (((E1.rl s.g.length [i]).ρ i).2 + off) (a.eval y).cells.toList := by
      have e1 : (E1.rl s.g.length [i]).w = E.w := hw1
      have e2 : (E1.rl s.g.length [i]).ρ i = E.ρ i := by show E1.ρ i = _; rw [hρ1]
      rw [e1, e2]
      exact hw
    have hR3 := wr_nested hR2 hob1 hlab ⟨c, e, hh⟩ hrow hwE hul (by rw [hul, hxl]; exact hle) (fun k u hk => by
      obtain ⟨z, hz, hr⟩ := hus k u hk
      refine ⟨z, hz, ?_⟩
      exact Rv.move (rl_mono hR1 (kid := s.g.length) (by omega) [i]).bare (rl_moved (E := E1) s.g.length [i] [off + k]) hr) (by rw [ht1]; exact hns) (hg1 _ hnb)
    intro next Q hn
    have hrun' : (execOp a.eval o).run P E.w = .ok .skip w' := by
      simp only [execOp, ho]
      rw [hpx]
      simp [Instr.storeAt, Instr.sureAddr, hrun]
    rw [hrun']
    exact hn .any _ ((E1.rl s.g.length [i]).wr w' i ⟨false, setC cs1 off us⟩) undef hK hR3 trivial

theorem wrg_kept {w' : World} {i b off : Nat} {p q : List Nat} {xs : List Value} {ob : Obj} (hw : Wrote E.w w' b off xs) (hlab : E.o b = some p) (hq : ∀ r, q ++ r ≠ p) : Kept E (E.wr w' i ob) q := fun b' r hb' => by
  refine ⟨hb', hw.other b' fun he => ?_⟩
  rw [he, hlab] at hb'
  exact hq r (Option.some.inj hb').symm
theorem op_store_sp {t : TypeId} {ti : TI} {x y : Operand} {i j off sz n : Nat} {cs vs r q : List V} (ho : o.op = .store t x y) (hR : Rel C E s a) (hT : TIOk P t ti) (hx : ev s x = .sp i j off) (hy : cellsV s (ev s y) = some vs) (hl : vs.length = ti.size) (hob : s.ob i = some ⟨false, cs⟩)
    (hf : vs.all flat = true) (hj : cs[j]? = some (.tr sz n r)) (hq : takeN r off ti.size = some q) (hz0 : ti.size ≠ 0) (h : K .any (s.put i (some ⟨false, cs.set j (.tr sz n (setC r off vs))⟩))) : OpOk P C E s a o K := by
  obtain ⟨b, d, c, e, hv, hlab, hh, hrl, hrow⟩ := ev_sp hR hx hob hj
  have hvy := cellsV_ok hR hy (ev_ok hR y)
  obtain ⟨hle, _, hql⟩ := takeN_some hq
  have hlen : (a.eval y).cells.size = ti.size := by
    have := Rvs_len hvy
    simp at this
    omega
  have hone : ∀ z ∈ (a.eval y).cells.toList, z.oneCell' = true := by
    intro z hz
    obtain ⟨k, hk⟩ := List.getElem?_of_mem hz
    obtain ⟨c', hc', hr⟩ := Rvs_get' hvy k z hk
    have hfl := List.all_eq_true.1 hf c' (List.mem_of_getElem? hc')
    exact solid_one (by cases c' <;> simp_all [flat, solid]) hr
  have hcs : d + off + ti.size ≤ c.size := by
    have := row_size hrow hh (off + ti.size - 1) (by omega)
    omega
  obtain ⟨w', hrun, hw⟩ := storeVar_run (P := P) hT hlen hh hcs hone
  have hxl : (a.eval y).cells.toList.length = vs.length := (Rvs_len hvy).symm
  have hlt : j < cs.length := (List.getElem?_eq_some_iff.1 hj).1
  have hsetj : ∀ k v, (cs.set j (.tr sz n (setC r off vs)))[k]? = some v → (k = j ∧ v = .tr sz n (setC r off vs)) ∨ (k ≠ j ∧ cs[k]? = some v) := by
    intro k v hk
    rw [List.getElem?_set] at hk
    by_cases hjk : j = k
    · subst hjk
      rw [if_pos rfl, if_pos hlt] at hk
      cases hk
      exact .inl ⟨rfl, rfl⟩
    · rw [if_neg hjk] at hk
      exact .inr ⟨fun h => hjk h.symm, hk⟩
  have hbne : ∀ l k, isTr E.g l k → (E.ρ l).1 ≠ b := by
    intro l k ht he
    obtain ⟨cs', _, _, _, hg, hk⟩ := ht
    rw [hR.g] at hg
    rcases hR.ob l _ hg with h0 | ⟨_, _, _, hl', _⟩
    · rw [h0] at hk; simp at hk
    · rw [he, hlab] at hl'; simp at hl'
  have hm : Mono E (E.wr w' i ⟨false, cs.set j (.tr sz n (setC r off vs))⟩) := by
    refine ⟨Nat.le_of_eq hw.size.symm, fun b' hb' hok => ⟨hok, hw.other b' ?_⟩, Nat.le_refl _, fun l hl' hs => ⟨?_, rfl, id, fun c' e' hc => ?_⟩, fun l k hl' ht => ?_⟩
    · intro he
      rw [hR.okb, he, hlab] at hok
      cases hok
    · by_cases hli : l = i
      · rw [hli]; exact ob_live hR hob
      · simpa [Env.wr, hli] using hs
    · by_cases he : (E.ρ l).1 = b
      · rw [he] at hc ⊢
        obtain ⟨c1, h1, h2, _⟩ := hw.row c' e' hc
        exact ⟨c1, h1, h2⟩
      · exact ⟨c', by rw [← hc]; exact hw.other _ he, rfl⟩
    · have ht' : isTr E.g l k := by
        obtain ⟨cs', sz', n', r', hg, hk⟩ := ht
        by_cases hli : l = i
        · subst hli
          simp only [Env.wr, if_true, Option.some.injEq, Go.Proofs.YtiplgkbgkmomlaaD.Obj.mk.injEq, true_and] at hg
          subst hg
          rcases hsetj k _ hk with ⟨rfl, _⟩ | ⟨_, h1⟩
          · exact isTr_of hR hob hj
          · exact isTr_of hR hob h1
        · simp only [Env.wr, if_neg hli] at hg
          exact ⟨cs', sz', n', r', hg, hk⟩
      exact ⟨ht', cell_heap (hw.other _ (hbne l k ht'))⟩
  intro next Q hn
  have hrun' : (execOp a.eval o).run P E.w = .ok .skip w' := by
    simp only [execOp, ho]
    rw [hv]
    simp [Instr.storeAt, Instr.sureAddr, hrun]
  rw [hrun']
  refine hn .any _ (E.wr w' i ⟨false, cs.set j (.tr sz n (setC r off vs))⟩) undef h ⟨hR.size, hR.nd, fun k => (hR.slot k).slot hm, ?_, ?_, fun l x hl' => ?_, hR.okb, fun b' p hp => ?_, fr_wrote (i := i) hR.fr hw ((hR.lab _ _ hlab).2.resolve_left (by simp)), hR.old, hR.pin.mono hm⟩ trivial
  · funext l
    rw [put_ob hob]
    simp only [Env.wr, hR.g]
  · simp [Env.wr, St.put, setOb_length, hR.n]
  · rw [put_ob hob] at hl'
    by_cases hli : l = i
    · rw [if_pos hli] at hl'
      cases hl'
      subst hli
      rcases hR.ob l _ hob with h0 | ⟨c1, e1, h1, h2, h3⟩
      · rw [h0] at hlt; simp at hlt
      · have hb1 : (E.ρ l).1 ≠ b := hbne l j (isTr_of hR hob hj)
        refine .inr ⟨c1, e1, (hw.other _ hb1).trans h1, h2, Rrow_mk fun k v hk => ?_⟩
        rcases hsetj k v hk with ⟨rfl, rfl⟩ | ⟨hkj, hk'⟩
        · obtain ⟨u, hu, hru⟩ := Rrow_get h3 k _ hj
          refine ⟨u, (cell_heap (hw.other _ hb1)).trans hu, ?_⟩
          obtain ⟨A, cap, rfl, hcap, hrl', hb⟩ := hru
          refine ⟨A, cap, rfl, hcap, by rw [setC_len (by omega)]; exact hrl', ?_⟩
          rcases hb with hb | ⟨b2, d2, p2, c2, e2, hA, hp2, ho2, hh2, hs2, hrow2⟩
          · exact .inl hb
          · simp only [Md.child, Md.leaf, Option.some.injEq, List.cons_append, List.nil_append, Nat.zero_add] at hp2
            subst hp2
            -- the same block
            obtain ⟨A', cap', hcell', _, _, hb'⟩ := sub_row hR hob hj
            have hu' : E.w.cell? ⟨(E.ρ l).1, (E.ρ l).2 + k, none⟩ = some (.slice A n cap) := hu
            have hsp := ev_ok hR x
            rw [hx] at hsp
            obtain ⟨_, ad, hxv, hlv⟩ := hsp
            obtain ⟨A3, n3, cap3, hc3, hp3, had⟩ := hlv (isTr_of hR hob hj)
            rw [hu'] at hc3
            cases hc3
            cases hA
            rw [hv] at hxv
            rw [addr_add] at had
            subst had
            simp only [Value.pointer.injEq, Option.some.injEq, Addr.mk.injEq, and_true] at hxv
            obtain ⟨hbb, hdd⟩ := hxv
            subst hbb
            have hdd' : d = d2 := by omega
            subst hdd'
            obtain ⟨c', hc', hcsz, hck⟩ := hw.row c e hh
            have hcc : c2 = c ∧ e2 = e := by
              have h5 : E.w.heap[b]? = some (.cells c2 e2 (0, 0)) := hh2
              rw [hh] at h5
              simp only [Option.some.injEq, Go.Obj.cells.injEq, and_true] at h5
              exact ⟨h5.1.symm, h5.2.symm⟩
            obtain ⟨rfl, rfl⟩ := hcc
            refine .inr ⟨b, d, [l, k], c', _, rfl, by simp [Md.child, Md.leaf], ho2, hc', by rw [hcsz]; exact hs2, Rrow_mk fun m v hm' => ?_⟩
            have hwc := wrote_cell hw hh (d + m)
            rw [setC_get (by omega)] at hm'
            by_cases hin : off ≤ m ∧ m < off + vs.length
            · rw [if_pos hin] at hm'
              obtain ⟨z, hz, hr⟩ := Rvs_get hvy (m - off) v hm'
              have hfl := List.all_eq_true.1 hf _ (List.mem_of_getElem? hm')
              refine ⟨z, ?_, flat_bare (E := E.wr w' l ⟨false, cs.set k (.tr sz n (setC r off vs))⟩) hfl (hr.slot hm)⟩
              show w'.cell? ⟨b, d + m, none⟩ = _
              rw [hwc, if_pos (by omega), show d + m - (d + off) = m - off from by omega]
              exact hz
            · rw [if_neg hin] at hm'
              obtain ⟨z, hz, hr⟩ := Rrow_get hrow m v hm'
              refine ⟨z, ?_, Rv.mono hm.bare (fun q hq b' r' hb' => ?_) (fun q j hq _ => by cases hq) hr⟩
              · show w'.cell? ⟨b, d + m, none⟩ = _
                rw [hwc, if_neg (by omega)]
                exact hz
              · cases hq
                exact wrg_kept (i := l) (ob := ⟨false, cs.set k (.tr sz n (setC r off vs))⟩) hw hlab (q := [l, k] ++ [0 + m]) (fun r' hr' => by simp at hr') b' r' hb'
        · obtain ⟨u, hu, hru⟩ := Rrow_get h3 k v hk'
          refine ⟨u, (cell_heap (hw.other _ hb1)).trans hu, Rv.mono hm.bare (fun q hq b' r' hb' => ?_) (fun q j hq _ => by cases hq) hru⟩
          cases hq
          exact wrg_kept (i := l) (ob := ⟨false, cs.set j (.tr sz n (setC r off vs))⟩) hw hlab (q := [l] ++ [0 + k]) (fun r' hr' => hkj (by simp at hr'; omega)) b' r' hb'
    · rw [if_neg hli] at hl'
      exact ObR.mono hm rfl (wrg_kept hw hlab (fun r' hr' => hli (by simp at hr'; exact hr'.1))) (hR.ob l x hl')
  · obtain ⟨h1, h2⟩ := hR.lab b' p hp
    exact ⟨by show b' < w'.heap.size; rw [hw.size]; exact h1, h2⟩
end
end Go.Proofs.YtiplgkbgkmomlaaD
