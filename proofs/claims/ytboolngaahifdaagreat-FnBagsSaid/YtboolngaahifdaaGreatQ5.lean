/- Contracts and plain laws of this seat; no condition. -/
import Derived.Test.YtboolngaahifdaaGreatQ4
import Derived.Laws.BytesString
set_option linter.unusedVariables false
set_option linter.unusedSimpArgs false
namespace Go.Proofs.YtboolngaahifdaaGreatD
open Go Go.RowKit
theorem AH (X : bM) : ∀ (t : List (Nat × V)) (k : Nat), (lk (pJ X t) k = lk t k ∧ kB X (lk t k) = true) ∨ lk (pJ X t) k = .any
 | [], k => .inr rfl
 | (j, v) :: r, k => by
  simp only [pJ, lk]
  cases Nat.beq j k with
  | true =>
   simp only [cond_true]
   cases h : kB X v with
   | true => exact .inl ⟨rfl, rfl⟩
   | false => exact .inr rfl
  | false =>
   simp only [cond_false]
   exact AH X r k
theorem LO (X : bM) (t : List (Nat × V)) (k : Nat) : kB X (lk (pJ X t) k) = true := by
 rcases AH X t k with ⟨h1, h2⟩ | h
 ·rw [h1]; exact h2
 ·rw [h]; rfl
theorem a1D {π : List Nat} {i : Nat} (h : gG (wh π) i = true) : ∀ j, cH j π i = none := by
 induction π with
 | nil => intro j; rfl
 | cons p r ih =>
  intro j
  simp only [wh, gG, Bool.and_eq_true, Bool.not_eq_true'] at h
  simp only [cH, h.1, cond_false]
  exact ih h.2 _
theorem BR : ∀ (π : List Nat) (j i : Nat), cH (j + 1) π i = (cH j π i).map (· + 1)
 | [], j, i => rfl
 | p :: r, j, i => by
  simp only [cH]
  cases Nat.beq p i with
  | true => rfl
  | false => exact BR r (j + 1) i
theorem y9 : ∀ {π : List Nat} {j i : Nat}, i ∉ π → cH j π i = none
 | [], j, i, _ => rfl
 | p :: r, j, i, h => by
  simp only [List.mem_cons, not_or] at h
  simp only [cH]
  have : Nat.beq p i = false := by
   cases hb : Nat.beq p i with
   | false => rfl
   | true => exact absurd (Nat.eq_of_beq_eq_true hb).symm h.1
  rw [this]
  exact y9 h.2
theorem SR (σ : Nat → Nat) : ∀ (g : List (Option Obj)) (k : Nat), aX (UV σ g) k = KN σ (aX g k)
 | [], k => rfl
 | x :: r, 0 => rfl
 | x :: r, k + 1 => SR σ r k
theorem xV (σ : Nat → Nat) : ∀ g : List (Option Obj), (UV σ g).length = g.length
 | [] => rfl
 | x :: r => by simp [UV, xV σ r]
theorem IH : ∀ (g h : List (Option Obj)) (i : Nat), aX (g ++ h) i = if i < g.length then aX g i else aX h (i - g.length)
 | [], h, i => by simp
 | x :: r, h, 0 => by simp [aX]
 | x :: r, h, i + 1 => by
  simp only [List.cons_append, aX, IH r h i, List.length_cons]
  by_cases hi : i < r.length
  ·rw [if_pos hi, if_pos (by omega)]
  ·rw [if_neg hi, if_neg (by omega), show i + 1 - (r.length + 1) = i - r.length from by omega]
theorem FQ : ∀ (π : List Nat) (g2 g : List (Option Obj)), π.length ≤ g2.length → (rF π g2 g).length = g.length + (g2.length - π.length)
 | [], g2, g, h => by simp [rF]
 | p :: r, [], g, h => by simp at h
 | p :: r, x :: g2, g, h => by
  simp only [rF]
  rw [FQ r g2 _ (by simpa using h), dB]
  simp
theorem IX : ∀ (π : List Nat) (g2 g : List (Option Obj)), π.length ≤ g2.length → π.Nodup → (∀ i ∈ π, i < g.length) → ∀ i, aX (rF π g2 g) i = if i < g.length then (match cH 0 π i with | some k => aX g2 k | none => aX g i) else aX g2 (π.length + (i - g.length))
 | [], g2, g, h, hn, hlt, i => by
  simp only [rF, IH, cH]
  by_cases hi : i < g.length
  ·rw [if_pos hi, if_pos hi]
  ·rw [if_neg hi, if_neg hi]; simp
 | p :: r, [], g, h, hn, hlt, i => by simp at h
 | p :: r, x :: g2, g, h, hn, hlt, i => by
  obtain ⟨hp, hn'⟩ := List.nodup_cons.1 hn
  have ih := IX r g2 (kD g p x) (by simpa using h) hn' (fun j hj => by rw [dB]; exact hlt j (List.mem_cons_of_mem _ hj)) i
  simp only [rF, ih, dB]
  by_cases hi : i < g.length
  ·rw [if_pos hi, if_pos hi]
   simp only [cH]
   cases hb : Nat.beq p i with
   | true =>
    have hpi := Nat.eq_of_beq_eq_true hb
    subst hpi
    rw [y9 hp]
    simp only [cond_true, i7, aX]
    rw [if_pos ⟨trivial, hi⟩]
   | false =>
    have hne : i ≠ p := fun he => by rw [he] at hb; simp at hb
    simp only [cond_false]
    rw [BR]
    cases hq : cH 0 r i with
    | none =>
     simp only [Option.map_none, i7]
     rw [if_neg (fun hc => hne hc.1)]
    | some k => simp only [Option.map_some, aX]
  ·rw [if_neg hi, if_neg hi]
   simp only [List.length_cons]
   rw [show r.length + 1 + (i - g.length) = (r.length + (i - g.length)) + 1 from by omega]
   rfl
theorem RR : ∀ {π : List Nat} {N k i : Nat}, π[k]? = some i → bk π N k = i
 | [], N, k, i, h => by simp at h
 | p :: r, N, 0, i, h => by simp at h; subst h; rfl
 | p :: r, N, k + 1, i, h => by
  have h' : r[k]? = some i := by simpa using h
  exact RR (π := r) h'
theorem RQ : ∀ {π : List Nat} {N k : Nat}, π.length ≤ k → bk π N k = N + (k - π.length)
 | [], N, k, h => by simp [bk]
 | p :: r, N, 0, h => by simp at h
 | p :: r, N, k + 1, h => by
  simp only [bk, List.length_cons] at h ⊢
  rw [RQ (by omega)]
  omega
theorem AV : ∀ {l : List (Option Obj)} {k : Nat}, CI l = true → k < l.length → ∃ ob, aX l k = some ob
 | [], k, h, hk => by simp at hk
 | some x :: r, 0, h, hk => ⟨x, rfl⟩
 | some x :: r, k + 1, h, hk => AV (l := r) h (by simpa using hk)
 | none :: r, k, h, hk => by simp [CI] at h
theorem UW {σ : Nat → Nat} {x : Option Obj} {ob : Obj} (h : KN σ x = some ob) : (∃ cs, x = some ⟨true, cs⟩ ∧ ob = ⟨true, oU σ cs⟩) ∨ (∃ cs, x = some ⟨false, cs⟩ ∧ ob = ⟨false, cs⟩) := by
 cases x with
 | none => cases h
 | some x =>
  obtain ⟨bx, cs⟩ := x
  cases bx with
  | true => exact .inl ⟨cs, rfl, (Option.some.inj h).symm⟩
  | false => exact .inr ⟨cs, rfl, (Option.some.inj h).symm⟩
theorem IF (σ : Nat → Nat) : ∀ (cs : List V) (k : Nat), (oU σ cs)[k]? = (cs[k]?).map (a2C σ)
 | [], k => by simp [oU]
 | c :: cs, 0 => by simp [oU]
 | c :: cs, k + 1 => by simp [oU, IF σ cs k]
structure BK (E2 E3 : Env) (σ : Nat → Nat) : Prop where
 w : E3.w = E2.w
 okb : ∀ b, E2.okb b → E3.okb b
 lt : ∀ k, k < E2.n → σ k < E3.n
 live : ∀ k, k < E2.n → (E3.g (σ k)).isSome = true → (E2.g k).isSome = true ∧ E3.ρ (σ k) = E2.ρ k
 lab : ∀ b k t, k < E2.n → E2.o b = some (k :: t) → E3.o b = some (σ k :: t)
 tr : ∀ k j, k < E2.n → hZ E3.g (σ k) j → hZ E2.g k j
theorem BK.bare {E2 E3 : Env} {σ : Nat → Nat} (h : BK E2 E3 σ) : Mono E2.bare E3.bare :=
 ⟨by show E2.w.heap.size ≤ E3.w.heap.size; rw [h.w]; exact Nat.le_refl _, fun b _ hok => ⟨h.okb b hok, by show E3.w.heap[b]? = E2.w.heap[b]?; rw [h.w]⟩, Nat.le_refl _, fun _ h _ => absurd h (Nat.not_lt_zero _), fun _ _ h _ => absurd h (Nat.not_lt_zero _)⟩
mutual
theorem Rv.bkm {E2 E3 : Env} {σ : Nat → Nat} (hb : BK E2 E3 σ) : ∀ {v : V} {x : Value}, Rv E2 .none v x → Rv E3 .none (a2C σ v) x
 | .sc v, x, h => h
 | .ro n cs, x, h => by
  obtain ⟨A, cap, rfl, hc, hr⟩ := h
  refine ⟨A, cap, rfl, hc, fun hne => ?_⟩
  obtain ⟨b, off, hA, hok, hlt, hrow⟩ := hr hne
  exact ⟨b, off, hA, hb.okb b hok, by rw [hb.w]; exact hlt, Rrow.mono hb.bare (eM _ _) (by show E3.w.heap[b]? = E2.w.heap[b]?; rw [hb.w]) hrow⟩
 | .tr sz n cs, x, h => by
  obtain ⟨A, cap, rfl, hc, hl, hr⟩ := h
  refine ⟨A, cap, rfl, hc, hl, ?_⟩
  rcases hr with hr | ⟨b, off, q, c, e, hA, hq, _⟩
  ·exact .inl hr
  ·simp [Md.leaf] at hq
 | .own i sz off n lo hi, x, h => by
  obtain ⟨hin, A, cap, rfl, hnc, hlv⟩ := h
  refine ⟨hb.lt i hin, A, cap, rfl, hnc, fun hl => ?_⟩
  obtain ⟨hg, hρ⟩ := hb.live i hin hl
  obtain ⟨hc, hlo, hhi, hr⟩ := hlv hg
  refine ⟨hc, hlo, hhi, ?_⟩
  rcases hr with hr | ⟨c, e, hA, ho, hh, hs⟩
  ·exact .inl hr
  ·exact .inr ⟨c, e, by rw [hρ]; exact hA, by rw [hρ]; exact hb.lab _ i [] hin ho, by rw [hρ, hb.w]; exact hh, by rw [hρ]; exact hs⟩
 | .sub i j, x, h => by
  obtain ⟨hin, hsl, hlv⟩ := h
  refine ⟨hb.lt i hin, hsl, fun hl => ?_⟩
  have hs : (E3.g (σ i)).isSome = true := by obtain ⟨_, _, _, _, he, _⟩ := hl; rw [he]; rfl
  obtain ⟨_, hρ⟩ := hb.live i hin hs
  rw [hρ, hb.w]
  exact hlv (hb.tr i j hin hl)
 | .ptr i off, x, h => by
  obtain ⟨hin, ad, hx, hlv⟩ := h
  refine ⟨hb.lt i hin, ad, hx, fun hl => ?_⟩
  obtain ⟨hg, hρ⟩ := hb.live i hin hl
  rw [hρ]
  exact hlv hg
 | .bp cs, x, h => by
  obtain ⟨b, off, q, c, e, rfl, hq, _⟩ := h
  simp [Md.leaf] at hq
 | .mref i, x, h => by
  obtain ⟨hin, r, hx, hlv⟩ := h
  refine ⟨hb.lt i hin, r, hx, fun hl => ?_⟩
  obtain ⟨hg, hρ⟩ := hb.live i hin hl
  rw [hρ]
  exact hlv hg
 | .sp i j off, x, h => by
  obtain ⟨hin, ad, hx, hlv⟩ := h
  refine ⟨hb.lt i hin, ad, hx, fun hl => ?_⟩
  have hs : (E3.g (σ i)).isSome = true := by obtain ⟨_, _, _, _, he, _⟩ := hl; rw [he]; rfl
  obtain ⟨_, hρ⟩ := hb.live i hin hs
  rw [hρ, hb.w]
  exact hlv (hb.tr i j hin hl)
 | .rp cs, x, h => by
  obtain ⟨b, off, rfl, hok, hlt, hrow⟩ := h
  exact ⟨b, off, rfl, hb.okb b hok, by rw [hb.w]; exact hlt, Rrow.mono hb.bare (eM _ _) (by show E3.w.heap[b]? = E2.w.heap[b]?; rw [hb.w]) hrow⟩
 | .agg cs, x, h => by
  obtain ⟨xs, rfl, hr⟩ := h
  exact ⟨xs, rfl, Rvs.bkm hb hr⟩
 | .tup cs, x, h => by
  obtain ⟨xs, rfl, hr⟩ := h
  exact ⟨xs, rfl, Rvs.bkm hb hr⟩
 | .fn f cs, x, h => by
  obtain ⟨xs, rfl, hr⟩ := h
  exact ⟨xs, rfl, Rvs.bkm hb hr⟩
 | .any, x, h => trivial
theorem Rvs.bkm {E2 E3 : Env} {σ : Nat → Nat} (hb : BK E2 E3 σ) : ∀ {vs : List V} {xs : List Value}, Rvs E2 .none vs xs → Rvs E3 .none (oU σ vs) xs
 | [], [], h => trivial
 | v :: vs, x :: xs, h => ⟨Rv.bkm hb h.1, Rvs.bkm hb h.2⟩
 | [], _ :: _, h => h.elim
 | _ :: _, [], h => h.elim
end
theorem NW {σ : Nat → Nat} : ∀ {cs : List V}, eG cs = false → eG (oU σ cs) = false
 | [], _ => rfl
 | [c], h => by cases c <;> first | rfl | cases h
 | _ :: _ :: _, _ => by simp only [oU]; unfold eG; split <;> simp_all
theorem ObR.bkm {E2 E3 : Env} {σ : Nat → Nat} (hb : BK E2 E3 σ) {k : Nat} (hk : k < E2.n) (hl : (E3.g (σ k)).isSome = true) {ob : Obj} (h : ObR E2 k ob) : ∀ {ob' : Obj}, KN σ (some ob) = some ob' → ObR E3 (σ k) ob' := by
 intro ob' hm
 obtain ⟨_, hρ⟩ := hb.live k hk hl
 obtain ⟨bx, cs⟩ := ob
 cases bx with
 | true =>
  have he : ob' = ⟨true, oU σ cs⟩ := (Option.some.inj hm).symm
  subst he
  rcases h with ⟨hnm, c, e, hh, h0, ho, hr⟩ | ⟨m, es, q, rfl, hh, ho, he⟩
  rotate_left
  ·exact .inr ⟨m, es, q, rfl, by rw [hρ, hb.w]; exact hh, by rw [hρ]; exact hb.lab _ k [] hk ho, he⟩
  refine .inl ⟨NW hnm, c, e, by rw [hρ, hb.w]; exact hh, by rw [hρ]; exact h0, by rw [hρ]; exact hb.lab _ k [] hk ho, ?_⟩
  rw [hρ]
  refine cD fun j v hj => ?_
  rw [IF] at hj
  cases hc : cs[j]? with
  | none => rw [hc] at hj; cases hj
  | some v' =>
   rw [hc] at hj
   cases hj
   obtain ⟨u, hu, hru⟩ := bR hr j v' hc
   exact ⟨u, by rw [hb.w]; exact hu, Rv.bkm hb hru⟩
 | false =>
  have he : ob' = ⟨false, cs⟩ := (Option.some.inj hm).symm
  subst he
  rcases h with h0 | ⟨c, e, hh, ho, hr⟩
  ·exact .inl h0
  ·refine .inr ⟨c, e, by rw [hρ, hb.w]; exact hh, by rw [hρ]; exact hb.lab _ k [] hk ho, ?_⟩
   rw [hρ]
   refine Rrow.move (E := E2.bare) (E' := E3.bare) hb.bare (fun b t hbt => ⟨?_, by show E3.w.heap[b]? = E2.w.heap[b]?; rw [hb.w]⟩) (by show E3.w.heap[_]? = E2.w.heap[_]?; rw [hb.w]) hr
   exact hb.lab b k t hk hbt
section
variable {P : Program} {ex : Exs} {Γ : Tab} {C : Ctx} {E : Env} {s : St} {a : Act} {o : Oper} {K : V → St → Prop}
theorem VB (hR : Rel C E s a) (X : bM) : Rel C E ⟨s.N, pJ X s.t, s.g⟩ a :=
 ⟨hR.size, hR.nd, fun k => by
  rcases AH X s.t k with ⟨h, _⟩ | h
  ·show Rv E .none (lk (pJ X s.t) k) _
   rw [h]; exact hR.slot k
  ·show Rv E .none (lk (pJ X s.t) k) _
   rw [h]; trivial, hR.g, hR.n, hR.ob, hR.okb, hR.lab, hR.fr, hR.old, hR.pin⟩
theorem a2R (hR : Rel C E s a) : Rel { C with np := 0 } E s a :=
 ⟨hR.size, hR.nd, hR.slot, hR.g, hR.n, hR.ob, hR.okb, hR.lab, ⟨hR.fr.os, hR.fr.tape, hR.fr.output, hR.fr.size, hR.fr.block, hR.fr.shape, hR.fr.drawn⟩, hR.old, Nat.zero_le _, fun k hk => absurd hk (Nat.not_lt_zero _)⟩
theorem E8 (hR : Rel C E s a) {π D : List Nat} {o0 : Lab} {E0 : Env} (hS : SeeD E s o0 fun i => dY D i = true) (hl : ∀ v x, Rv E .none v x → Rv E0 .none (AD π v) x) (hs : ∀ u x, Rv (aZ E.w o0) .none u x → Rv E0 .none u x) :
  ∀ {vs : List V} {xs : List Value} {K : List V → Prop}, gD π D vs = true → w5 s π vs K → Rvs E .none vs xs → ∃ us, K us ∧ Rvs E0 .none us xs
 | [], [], K, _, h, _ => ⟨[], h, trivial⟩
 | v :: vs, x :: xs, K, hD, h, hv => by
  simp only [gD, Bool.and_eq_true, Bool.or_eq_true] at hD
  unfold w5 X7 at h
  cases hb : SI π v with
  | true =>
   rw [hb] at h
   obtain ⟨us, hK, hu⟩ := E8 hR hS hl hs hD.2 h hv.2
   exact ⟨_, hK, hl v x hv.1, hu⟩
  | false =>
   rw [hb] at h
   have hin : inD D v = true := by
    rcases hD.1 with h1 | h1
    ·rw [hb] at h1; cases h1
    ·exact h1
   obtain ⟨u, hK1, hu1⟩ := FU hR hS (XA hin) h hv.1
   obtain ⟨us, hK, hu⟩ := E8 hR hS hl hs hD.2 hK1 hv.2
   exact ⟨_, hK, hs u x hu1, hu⟩
 | [], _ :: _, K, _, h, hv => hv.elim
 | _ :: _, [], K, _, h, hv => hv.elim
def tG (π : List Nat) : Option (List Nat) → Bool
 | some (h :: _) => (cH 0 π h).isSome
 | _ => false
def W5 (σ : Nat → Nat) (M : Nat) (fz : Bool) : Option (List Nat) → Option (List Nat)
 | some (k :: t) => if k < M ∨ fz = false then some (σ k :: t) else none
 | x => x
def wB (E1 : Env) (π : List Nat) (σ : Nat → Nat) (M : Nat) (fz : Bool) (o2 : Lab) : Lab := fun b => if b < E1.w.heap.size ∧ tG π (E1.o b) = false then E1.o b else W5 σ M fz (o2 b)
def Env.gc (E1 : Env) (π : List Nat) (g : List (Option Obj)) (fz : Bool) (E2 : Env) (M : Nat) : Env :=
 {w := E2.w, o := wB E1 π (bk π E1.n) M fz E2.o, ρ := fun i => if i < E1.n then E1.ρ i else E2.ρ (π.length + (i - E1.n)), g := aX g, n := g.length, okb := fun b => wB E1 π (bk π E1.n) M fz E2.o b = none }
theorem N4 (hR : Rel C E s a) {π D : List Nat} {vs : List V} {xs : List Value} (hv : Rvs E .none vs xs) {f : FuncId} (hns : ∀ k, kB (wh π) (lk s.t k) = true) (h : E9 (bU P ex) π D s f vs K) :
  Enters P f ∧ Calls P f xs.toArray E.w fun e w' => match e with
   | .returned x => ∃ E' v s', E'.w = w' ∧ K v s' ∧ Rel C E' s' a ∧ Rv E' .none v x
   | _ => False := by
 unfold E9 at h
 obtain ⟨hc, h⟩ := AX h
 simp only [Bool.and_eq_true] at hc
 obtain ⟨⟨⟨hgD, hbx⟩, hall⟩, hnb⟩ := hc
 have hR1 := LF hR D
 generalize hE1 : E.frz D = E1 at hR1
 have hw1 : E1.w = E.w := by rw [← hE1]; rfl
 generalize hs1 : ({ s with g := eR D 0 s.g } : St) = s1 at hR1 h hall
 have hg1 : eR D 0 s.g = s1.g := by rw [← hs1]
 have ht1 : s1.t = s.t := by rw [← hs1]
 have hN1 : s1.N = s.N := by rw [← hs1]
 let E0 : Env := E1.ren none π (l5 π [] s1)
 have hlenG : (jU π s1 0 π).length = π.length := yE π s1 π 0
 have hπ : ∀ k, k < π.length → ∃ i, π[k]? = some i ∧ cH 0 π i = some k ∧ ∃ ob, s1.ob i = some ob := by
  intro k hk
  obtain ⟨ob, hob⟩ := AV hall (by rw [hlenG]; exact hk)
  obtain ⟨i, h1, h2, h3⟩ := uW π s1 π 0 k ob hob
  refine ⟨i, h1, by rw [h2, Nat.zero_add], ?_⟩
  cases hsi : s1.ob i with
  | none => rw [hsi] at h3; simp [wL] at h3
  | some ob' => exact ⟨ob', rfl⟩
 have hnd : π.Nodup := by
  rw [List.Nodup, List.pairwise_iff_getElem]
  intro i j hi hj hij he
  obtain ⟨p, h1, h2, _⟩ := hπ i hi
  obtain ⟨q, h3, h4, _⟩ := hπ j hj
  rw [List.getElem?_eq_getElem hi] at h1
  rw [List.getElem?_eq_getElem hj] at h3
  have : p = q := by rw [← Option.some.inj h1, ← Option.some.inj h3]; exact he
  subst this
  rw [h2] at h4
  have := Option.some.inj h4
  omega
 have hlt : ∀ i ∈ π, i < s1.g.length := by
  intro i hi
  obtain ⟨k, hk, he⟩ := List.getElem_of_mem hi
  obtain ⟨p, h1, _, ob, hob⟩ := hπ k hk
  rw [List.getElem?_eq_getElem hk] at h1
  have : p = i := by rw [← Option.some.inj h1]; exact he
  subst this
  exact eK hob
 have hR0 := LH (kp := none) (a2R hR1) π [] ⟨Nat.zero_le _, fun k hk => absurd hk (Nat.not_lt_zero _)⟩
 have hin : GIn E0 (jU π s1 0 π) := ⟨rfl, hlenG.symm, fun i ob hi => hR0.ob i ob hi, rfl, fun b p hp => (hR0.lab b p hp).1⟩
 have hS : SeeD E s E0.o fun i => dY D i = true := by
  refine ⟨fun b hok => ?_, fun i hi b r ho => ?_, fun i hi cs ho => ?_⟩
  ·rw [hR.okb] at hok
   show rC none π (E1.o b) = none
   rw [qJ, ← hE1]
   show pV D (E.o b) = none
   rw [hok]; rfl
  ·show rC none π (E1.o b) = none
   rw [qJ, ← hE1]
   show pV D (E.o b) = none
   rw [ho]
   simp [pV, hi]
  ·exact r3 (zC hbx i cs ho (by rw [Nat.zero_add]; exact hi))
 obtain ⟨us, ⟨Post, ⟨hen, hspec⟩, hK⟩, hus⟩ := E8 hR (E0 := E0) hS (fun v x hvx => Rv.ren (kp := none) hR1 π [] (by rw [← hE1]; exact hvx.slot (E7 hR D)))
  (fun u x hu => by
   refine Rv.mono (E := aZ E.w E0.o) (E' := E0) ⟨by show E.w.heap.size ≤ E1.w.heap.size; rw [hw1]; exact Nat.le_refl _, fun b _ hok => ⟨hok, by show E1.w.heap[b]? = E.w.heap[b]?; rw [hw1]⟩, Nat.zero_le _, fun _ h _ => absurd h (Nat.not_lt_zero _), fun _ _ h _ => absurd h (Nat.not_lt_zero _)⟩ (eM _ _) (i6 _ _) hu) hgD h hv
 refine ⟨hen, ?_⟩
 have hww : E.w = E0.w := hw1.symm
 rw [hww]
 refine Calls.mono (hspec E0 xs hin hus) fun e w' he => ?_
 cases e with
 | panicked chain => exact he.elim
 | outgrown => exact he.elim
 | returned x =>
 obtain ⟨r, g2, E2, hPost, hw2, hG, hr⟩ := he
 subst hw2
 have hK := hK r g2 hPost
 rw [hg1] at hK
 have hm2 : π.length ≤ g2.length := by have := hG.len; rw [hlenG] at this; exact this
 have hn1 : E1.n = s1.g.length := hR1.n
 have hbl : (eE π s1.g g2).length = s1.g.length + (g2.length - π.length) := by
  unfold eE
  rw [FQ _ _ _ (by rw [xV]; exact hm2), xV]
 have hbo : ∀ i, aX (eE π s1.g g2) i = if i < s1.g.length then (match cH 0 π i with | some k => KN (bk π s1.g.length) (aX g2 k) | none => aX s1.g i) else KN (bk π s1.g.length) (aX g2 (π.length + (i - s1.g.length))) := by
  intro i
  unfold eE
  rw [IX _ _ _ (by rw [xV]; exact hm2) hnd hlt]
  simp only [SR]
 have hl0 : ∀ b, tG π (E1.o b) = false → ¬ yX E0.o b := by
  rintro b hb ⟨k, t, hk⟩
  have hk' : rC none π (E1.o b) = some (k :: t) := hk
  cases ho : E1.o b with
  | none => rw [ho] at hk'; cases hk'
  | some q =>
   rw [ho] at hk' hb
   cases q with
   | nil => cases hk'
   | cons h q =>
    simp only [tG] at hb
    simp only [rC] at hk'
    cases hp : cH 0 π h with
    | none => rw [hp] at hk'; cases hk'
    | some j => rw [hp] at hb; cases hb
 have hno : ∀ b, b < E1.w.heap.size → tG π (E1.o b) = false → ∀ h t, E2.o b ≠ some (h :: t) := by
  intro b hb hn h t ho
  rw [hG.old b hb (hl0 b hn)] at ho
  exact hl0 b hn ⟨h, t, ho⟩
 have hnone : ∀ fz b, E2.o b = none → wB E1 π (bk π E1.n) g2.length fz E2.o b = none := by
  intro fz b hb
  unfold wB
  split
  ·rename_i hc
   rw [hG.old b hc.1 (hl0 b hc.2)] at hb
   exact qJ.1 (show rC none π (E1.o b) = none from hb)
  ·rw [hb]; rfl
 have hsome : ∀ fz b k t, k < g2.length → E2.o b = some (k :: t) → wB E1 π (bk π E1.n) g2.length fz E2.o b = some (bk π E1.n k :: t) := by
  intro fz b k t hk ho
  unfold wB
  rw [if_neg (fun hc => hno b hc.1 hc.2 k t ho), ho]
  simp only [W5]
  rw [if_pos (.inl hk)]
 have hkeep : ∀ fz b, b < E1.w.heap.size → tG π (E1.o b) = false → wB E1 π (bk π E1.n) g2.length fz E2.o b = E1.o b ∧ E2.w.heap[b]? = E1.w.heap[b]? := by
  intro fz b hb hn
  refine ⟨?_, hG.grown.block b hb (hl0 b hn)⟩
  unfold wB
  rw [if_pos ⟨hb, hn⟩]
 have hnl : ∀ {i : Nat} {t : List Nat}, cH 0 π i = none → tG π (some (i :: t)) = false := fun {i t} hp => by simp [tG, hp]
 have hBK : ∀ fz, BK E2 (E1.gc π (eE π s1.g g2) fz E2 g2.length) (bk π E1.n) := by
  intro fz
  have hn2 : E2.n = g2.length := hG.n
  have hcase : ∀ k, k < E2.n → (∃ i, π[k]? = some i ∧ cH 0 π i = some k ∧ bk π E1.n k = i ∧ i < s1.g.length ∧ aX (eE π s1.g g2) i = KN (bk π s1.g.length) (aX g2 k)) ∨ (π.length ≤ k ∧ bk π E1.n k = s1.g.length + (k - π.length) ∧ aX (eE π s1.g g2) (bk π E1.n k) = KN (bk π s1.g.length) (aX g2 k)) := by
   intro k hk
   by_cases hkm : k < π.length
   ·obtain ⟨i, h1, h2, ob, h3⟩ := hπ k hkm
    refine .inl ⟨i, h1, h2, RR h1, eK h3, ?_⟩
    rw [hbo, if_pos (eK h3), h2]
   ·have hge : bk π E1.n k = s1.g.length + (k - π.length) := by rw [RQ (by omega), hn1]
    refine .inr ⟨by omega, hge, ?_⟩
    rw [hge, hbo, if_neg (by omega), show π.length + (s1.g.length + (k - π.length) - s1.g.length) = k from by omega]
  have hgk : ∀ k, k < E2.n → aX (eE π s1.g g2) (bk π E1.n k) = KN (bk π s1.g.length) (aX g2 k) := by
   intro k hk
   rcases hcase k hk with ⟨i, _, _, h3, _, h5⟩ | ⟨_, _, h3⟩
   ·rw [h3]; exact h5
   ·exact h3
  refine ⟨rfl, fun b hok => ?_, fun k hk => ?_, fun k hk hl => ?_, fun b k t hk ho => hsome fz b k t (by rw [← hn2]; exact hk) ho, fun k j hk ht => ?_⟩
  ·rw [hG.okb] at hok
   exact hnone fz b hok
  ·show bk π E1.n k < (eE π s1.g g2).length
   rw [hbl]
   rcases hcase k hk with ⟨i, _, _, h3, h4, _⟩ | ⟨h1, h2, _⟩
   ·rw [h3]; omega
   ·rw [h2]; omega
  ·have hl' : (aX (eE π s1.g g2) (bk π E1.n k)).isSome = true := hl
   rw [hgk k hk] at hl'
   have hs2 : (aX g2 k).isSome = true := by
    cases hq : aX g2 k with
    | none => rw [hq] at hl'; cases hl'
    | some x => rfl
   refine ⟨by rw [hG.gq]; exact hs2, ?_⟩
   show (if bk π E1.n k < E1.n then E1.ρ (bk π E1.n k) else E2.ρ (π.length + (bk π E1.n k - E1.n))) = E2.ρ k
   rcases hcase k hk with ⟨i, h1, h2, h3, h4, _⟩ | ⟨h1, h2, _⟩
   ·have hp := (hG.pin k (by rw [hlenG]; have := (fN h2).2; omega) hs2).1
    rw [h3, if_pos (by rw [hn1]; exact h4), hp]
    exact (fX (kp := none) (E := E1) (l5 π [] s1) h2).symm
   ·rw [h2, if_neg (by omega), hn1, show π.length + (s1.g.length + (k - π.length) - s1.g.length) = k from by omega]
  ·obtain ⟨cs, sz, n, q, hg, hj⟩ := ht
   have hg' : aX (eE π s1.g g2) (bk π E1.n k) = some ⟨false, cs⟩ := hg
   rw [hgk k hk] at hg'
   rcases UW hg' with ⟨ds, h1, h2⟩ | ⟨ds, h1, h2⟩
   ·cases h2
   ·cases h2
    exact ⟨cs, sz, n, q, by rw [hG.gq]; exact h1, hj⟩
 have hM : ∀ fz, MonoX (wh π) E1 (E1.gc π (eE π s1.g g2) fz E2 g2.length) := by
  intro fz
  refine ⟨hG.grown.size, fun b hb hok => ?_, by show E1.n ≤ (eE π s1.g g2).length; rw [hbl, hn1]; omega, fun i hi hl => ?_, fun i j hnw hi ht => ?_⟩
  ·rw [hR1.okb] at hok
   have := hkeep fz b hb (by rw [hok]; rfl)
   exact ⟨by show wB E1 π (bk π E1.n) g2.length fz E2.o b = none; rw [this.1]; exact hok, this.2⟩
  ·have hil : i < s1.g.length := by rw [← hn1]; exact hi
   have hl' : (aX (eE π s1.g g2) i).isSome = true := hl
   rw [hbo, if_pos hil] at hl'
   have hρ : (E1.gc π (eE π s1.g g2) fz E2 g2.length).ρ i = E1.ρ i := by
    show (if i < E1.n then E1.ρ i else _) = _
    rw [if_pos hi]
   cases hp : cH 0 π i with
   | none =>
    rw [hp] at hl'
    refine ⟨by rw [hR1.g]; exact hl', hρ, fun ho => .inl ?_, fun c e hc => hG.grown.shape _ c e hc⟩
    have := (hkeep fz _ (hR1.lab _ _ ho).1 (by rw [ho]; exact hnl hp)).1
    exact this.trans ho
   | some k =>
    rw [hp] at hl'
    simp only at hl'
    have hk := (fN hp).2
    rw [Nat.zero_add] at hk
    have hpk := lM (j := 0) (k := k) (by rw [Nat.zero_add]; exact hp)
    obtain ⟨i', h1, h2, ob, h3⟩ := hπ k hk
    have : i' = i := by rw [hpk] at h1; exact (Option.some.inj h1).symm
    subst this
    have hs2 : (aX g2 k).isSome = true := by
     cases hq : aX g2 k with
     | none => rw [hq] at hl'; cases hl'
     | some x => rfl
    refine ⟨by rw [hR1.g, h3]; rfl, hρ, fun ho => .inl ?_, fun c e hc => hG.grown.shape _ c e hc⟩
    have h4 := (hG.pin k (by rw [hlenG]; exact hk) hs2).2
    have h5 : E0.ρ k = E1.ρ i' := fX (kp := none) (E := E1) (l5 π [] s1) hp
    rw [h5] at h4
    have h6 : E0.o (E1.ρ i').1 = some [k] := by
     show rC none π (E1.o (E1.ρ i').1) = _
     rw [ho]
     simp [rC, hp]
    have := hsome fz _ k [] (by omega) (h4 h6)
    rw [RR h1] at this
    exact this
  ·have hp := a1D hnw 0
   have hil : i < s1.g.length := by rw [← hn1]; exact hi
   obtain ⟨cs, sz, n, q, hg, hj⟩ := ht
   have hg' : aX (eE π s1.g g2) i = some ⟨false, cs⟩ := hg
   rw [hbo, if_pos hil, hp] at hg'
   refine ⟨⟨cs, sz, n, q, by rw [hR1.g]; exact hg', hj⟩, ?_⟩
   rcases hR1.ob i _ hg' with h0 | ⟨c, e, hh, hlab, hrow⟩
   ·rw [h0] at hj; simp at hj
   ·exact dQ (hkeep fz _ (cY hh) (by rw [hlab]; exact hnl hp)).2
 have hpn : ∀ i ob, s1.ob i = some ob → cH 0 π i = none → eH (wh π) s.g = true → True := fun _ _ _ _ _ => trivial
 have hnb1 : eH (wh π) s1.g = true := by
  rw [← hg1]
  clear hK hbo hbl h hR1 hπ hlt hall hin hR0 hS hus hspec hG hBK hM
  have key : ∀ (g : List (Option Obj)) (k : Nat), eH (wh π) g = true → eH (wh π) (eR D k g) = true := by
   intro g
   induction g with
   | nil => intro k h; exact h
   | cons o r ih =>
    intro k h
    simp only [eR]
    cases dY D k with
    | true =>
     simp only [cond_true, eH]
     refine ih _ ?_
     cases o with
     | none => exact h
     | some ob =>
      obtain ⟨bx, cs⟩ := ob
      cases bx with
      | true => simp only [eH, Bool.and_eq_true] at h; exact h.2
      | false => exact h
    | false =>
     simp only [cond_false]
     cases o with
     | none => exact ih _ h
     | some ob =>
      obtain ⟨bx, cs⟩ := ob
      cases bx with
      | true =>
       simp only [eH, Bool.and_eq_true] at h ⊢
       exact ⟨h.1, ih _ h.2⟩
      | false => exact ih _ h
  exact key _ _ hnb
 have hdl : ∀ b, b < C.w0.heap.size → ¬ C.lent b → tG π (E1.o b) = false := by
  intro b hb hl
  have ho := hR1.old b hb hl
  cases hq : C.o0 b with
  | none => rw [ho, hq]; rfl
  | some q =>
   have := C.dull b q hl hq
   subst this
   rw [ho, hq]; rfl
 have hRel : ∀ fz, Rel C (E1.gc π (eE π s1.g g2) fz E2 g2.length) { s with g := eE π s1.g g2 } a := by
  intro fz
  have hm := hM fz
  have hb := hBK fz
  refine ⟨hR.size, hR.nd, fun k => Rv.monoX hm (hns k) (by have := hR1.slot k; rw [ht1] at this; exact this), rfl, rfl, fun i ob hi => ?_, rfl, fun b p hp => ?_, ?_, fun b hb' hl => ?_, ?_⟩
  ·have hi' : aX (eE π s1.g g2) i = some ob := hi
   have hlive : ((E1.gc π (eE π s1.g g2) fz E2 g2.length).g i).isSome = true := by
    show (aX (eE π s1.g g2) i).isSome = true
    rw [hi']; rfl
   rw [hbo] at hi'
   by_cases hil : i < s1.g.length
   ·rw [if_pos hil] at hi'
    cases hp : cH 0 π i with
    | none =>
     rw [hp] at hi'
     have hob := hR1.ob i ob hi'
     have hin1 : i < E1.n := by rw [hn1]; exact hil
     obtain ⟨_, hρ, _⟩ := hm.ref i hin1 hlive
     obtain ⟨bx, cs⟩ := ob
     cases bx with
     | true =>
      rcases hob with ⟨hnm, c, e, hh, h0, hlab, hrow⟩ | ⟨m, es, q, hc, hh, hlab, he⟩
      rotate_left
      ·have hk := hkeep fz _ (cY hh) (by rw [hlab]; exact hnl hp)
       exact .inr ⟨m, es, q, hc, by rw [hρ]; exact hk.2.trans hh, by rw [hρ]; exact hk.1.trans hlab, he⟩
      have hk := hkeep fz _ (cY hh) (by rw [hlab]; exact hnl hp)
      exact .inl ⟨hnm, c, e, by rw [hρ]; exact hk.2.trans hh, by rw [hρ]; exact h0, by rw [hρ]; exact hk.1.trans hlab, by rw [hρ]; exact Rrow.monoX hm (qH hnb1 hi') hk.2 hrow⟩
     | false =>
      rcases hob with h0 | ⟨c, e, hh, hlab, hrow⟩
      ·exact .inl h0
      ·have hk := hkeep fz _ (cY hh) (by rw [hlab]; exact hnl hp)
       refine .inr ⟨c, e, by rw [hρ]; exact hk.2.trans hh, by rw [hρ]; exact hk.1.trans hlab, ?_⟩
       rw [hρ]
       refine Rrow.mono (E := E1.bare) hm.bare (fun q hq => ?_) hk.2 hrow
       cases hq
       intro b t hbt
       have hbt' : E1.o b = some (i :: t) := hbt
       have hk2 := hkeep fz b (hR1.lab _ _ hbt').1 (by rw [hbt']; exact hnl hp)
       exact ⟨hk2.1.trans hbt', hk2.2⟩
    | some k =>
     rw [hp] at hi'
     simp only at hi'
     have hk := (fN hp).2
     rw [Nat.zero_add] at hk
     have hpk := lM (j := 0) (k := k) (by rw [Nat.zero_add]; exact hp)
     have hbk : bk π E1.n k = i := RR hpk
     cases hq : aX g2 k with
     | none => rw [hq] at hi'; cases hi'
     | some ob2 =>
      rw [hq] at hi'
      have hk2 : k < E2.n := by rw [hG.n]; omega
      have := ObR.bkm hb hk2 (by rw [hbk]; exact hlive) (hG.ob k ob2 hq) (ob' := ob) (by rw [hn1]; exact hi')
      rw [hbk] at this
      exact this
   ·rw [if_neg hil] at hi'
    cases hq : aX g2 (π.length + (i - s1.g.length)) with
    | none => rw [hq] at hi'; cases hi'
    | some ob2 =>
     rw [hq] at hi'
     have hk2 : π.length + (i - s1.g.length) < E2.n := by rw [hG.n]; exact eK hq
     have hbk : bk π E1.n (π.length + (i - s1.g.length)) = i := by rw [RQ (by omega), hn1]; omega
     have := ObR.bkm hb hk2 (by rw [hbk]; exact hlive) (hG.ob _ ob2 hq) (ob' := ob) (by rw [hn1]; exact hi')
     rw [hbk] at this
     exact this
  ·have hp' : wB E1 π (bk π E1.n) g2.length fz E2.o b = some p := hp
   have hsz : E1.w.heap.size ≤ E2.w.heap.size := hG.grown.size
   by_cases hbs : b < E1.w.heap.size
   ·refine ⟨Nat.lt_of_lt_of_le hbs hsz, ?_⟩
    unfold wB at hp'
    split at hp'
    ·exact (hR1.lab b p hp').2
    ·rename_i hc
     cases ho : E1.o b with
     | none => exact absurd ⟨hbs, by rw [ho]; rfl⟩ hc
     | some q =>
      cases q with
      | nil => exact absurd ⟨hbs, by rw [ho]; rfl⟩ hc
      | cons h t =>
       rcases (hR1.lab b _ ho).2 with h2 | h2
       ·cases h2
       ·exact .inr h2
   ·refine ⟨?_, .inr (.inl (by have := hR1.fr.size; omega))⟩
    unfold wB at hp'
    rw [if_neg (fun hc => hbs hc.1)] at hp'
    cases ho : E2.o b with
    | none => rw [ho] at hp'; cases hp'
    | some q => exact hG.lab b q ho
  ·have hf := hR1.fr
   have hgr := hG.grown
   exact ⟨hgr.os.trans hf.os, hgr.tape.trans hf.tape, hgr.output.trans hf.output, Nat.le_trans hf.size hgr.size, fun k hk hl => (hgr.block k (Nat.lt_of_lt_of_le hk hf.size) (hl0 k (hdl k hk hl))).trans (hf.block k hk hl), fun b c e hc => by
    obtain ⟨c1, g1, g2'⟩ := hf.shape b c e hc
    obtain ⟨c2, g3, g4⟩ := hgr.shape b c1 e g1
    exact ⟨c2, g3, g4.trans g2'⟩, Nat.le_trans hf.drawn hgr.drawn⟩
  ·have := (hkeep fz b (Nat.lt_of_lt_of_le hb' hR1.fr.size) (hdl b hb' hl)).1
   exact this.trans (hR1.old b hb' hl)
  ·exact Pin.monoX hR1.pin hm
 have hrR : Rv (aZ E2.w (gY g2.length E2.o)) (.top g2.length) r x := by
  refine Rv.mono (E := E2.bare) (E' := aZ E2.w (gY g2.length E2.o)) ⟨Nat.le_refl _, fun b _ hok => ⟨?_, rfl⟩, Nat.le_refl _, fun _ h _ => absurd h (Nat.not_lt_zero _), fun _ _ h _ => absurd h (Nat.not_lt_zero _)⟩ (fun q hq => by cases hq) (fun k j hk hj b t hb => ⟨?_, rfl⟩) hr
  ·have hok' : E2.okb b := hok
   rw [hG.okb] at hok'
   have hok2 : E2.o b = none := hok'
   show gY g2.length E2.o b = none
   simp [gY, hok2]
  ·cases hk
   have hb' : E2.o b = some (j :: t) := hb
   show gY g2.length E2.o b = _
   simp [gY, hb', hj]
 have hres : ∀ b q, q ≠ [] → gY g2.length E2.o b = some q → ∃ h t, q = h :: t ∧ E2.o b = some (h :: t) ∧ g2.length ≤ h := by
  intro b q hq hb
  unfold gY at hb
  split at hb
  ·rename_i h t ho
   split at hb
   ·rename_i hle
    cases hb
    exact ⟨h, t, rfl, ho, hle⟩
   ·cases hb; exact absurd rfl hq
  ·rename_i hne
   cases q with
   | nil => exact absurd rfl hq
   | cons h t => exact absurd hb (hne h t)
 have hrn : ∀ b, gY g2.length E2.o b = none → E2.o b = none := by
  intro b hb
  unfold gY at hb
  split at hb
  ·split at hb <;> cases hb
  ·exact hb
 have hnew : ∀ fz b h t, E2.o b = some (h :: t) → g2.length ≤ h → wB E1 π (bk π E1.n) g2.length fz E2.o b = if fz then none else some ((s1.g.length + (h - π.length)) :: t) := by
  intro fz b h t ho hle
  unfold wB
  rw [if_neg (fun hc => hno b hc.1 hc.2 _ _ ho), ho]
  simp only [W5]
  cases fz with
  | true => rw [if_neg (by simp; omega)]; rfl
  | false =>
   rw [if_pos (.inr rfl), RQ (by omega), hn1]
   rfl
 have hKK : K (roV r) { s with g := eE π s1.g g2 } ∨ K (C3 (eE π s1.g g2).length r) { s with g := eE π s1.g g2 ++ pG r } := hK
 rcases hKK with hK0 | hK0
 ·refine ⟨E1.gc π (eE π s1.g g2) true E2 g2.length, _, _, rfl, hK0, hRel true, ?_⟩
  refine Rv.freeze (G := aZ E2.w (gY g2.length E2.o)) (F := E1.gc π (eE π s1.g g2) true E2 g2.length) (full := True) rfl rfl (fun _ b hb => hnone true b (hrn b hb)) (fun b q hq hb => ?_) (m := .top g2.length) (fun q hq => by cases hq) (.inl trivial) hrR
  obtain ⟨h, t, rfl, ho, hle⟩ := hres b q hq hb
  exact hnew true b h t ho hle
 ·have hv1 : Rv (E1.gc π (eE π s1.g g2) false E2 g2.length).bare (.top (eE π s1.g g2).length) r x := by
   have e : Md.sh g2.length (eE π s1.g g2).length (.top g2.length) = .top (eE π s1.g g2).length := by simp [Md.sh]
   rw [← e]
   refine Rv.sh (G := aZ E2.w (gY g2.length E2.o)) (F := E1.gc π (eE π s1.g g2) false E2 g2.length) (full := True) rfl rfl (fun _ b hb => hnone false b (hrn b hb)) (fun b q hq hb => ?_) (m := .top g2.length) (k0 := g2.length) (N := (eE π s1.g g2).length) (Nat.le_refl _) (.inl trivial) hrR
   obtain ⟨h, t, rfl, ho, hle⟩ := hres b q hq hb
   have := hnew false b h t ho hle
   show wB E1 π (bk π E1.n) g2.length false E2.o b = _
   rw [this, hbl]
   simp only [shift, Bool.false_eq_true, if_false]
   congr 2
   omega
  obtain ⟨E', h1, h2, h3, h4, h5, h6⟩ := K7 (hRel false) hv1
  exact ⟨E', _, _, h2, hK0, h1, h5⟩
theorem X8 (hR : Rel C E s a) {vs : List V} {xs : List Value} (hv : Rvs E .none vs xs) {f : FuncId} (h : K5 (bU P ex) s f vs K) :
  Enters P f ∧ Calls P f xs.toArray E.w fun e w' => match e with
   | .returned x => ∃ E' v s', E'.w = w' ∧ K v s' ∧ Rel C E' s' a ∧ Rv E' .none v x
   | _ => False := by
 obtain ⟨π, D, h⟩ := h
 rw [AG] at h
 exact N4 (VB hR (wh π)) hv (fun k => LO (wh π) s.t k) h
end
end Go.Proofs.YtboolngaahifdaaGreatD
namespace Go.Proofs.YtboolngaahifdaaGreatD
open Go Go.RowKit
section
variable {P : Program} {ex : Exs} {Γ : Tab} {C : Ctx} {E : Env} {s : St} {a : Act} {o : Oper} {K : V → St → Prop}
theorem F3 {f : FuncId} (hR : Rel C E s a) (l : Bool) {vs : List V} {xs : List Value} (hv : Rvs E .none vs xs) (hx : ∀ w, Enters P f → (execOp a.eval o).run P w = .ok (.enter f xs.toArray) w) (h : qX (bU P ex) l s f vs K) : cX P C E s a o K := by
 have plain : pR (bU P ex) s f vs K → cX P C E s a o K := by
  intro h
  unfold pR at h
  obtain ⟨us, ⟨r, ⟨hen, hspec⟩, hc, hK⟩, hu⟩ := YR hR (ro := jN vs) (fun h => h) h hv
  intro next Q hn
  rw [hx _ hen]
  show Calls P f _ E.w _
  refine Calls.mono (hspec E.w (dull E (jN vs)) _ (JZ hR _) hu) fun e w' he => ?_
  cases e with
  | returned x =>
   obtain ⟨hb, o', h1, h2, k0, h3⟩ := he
   obtain ⟨E', v, s', hw, hK', hR', hv'⟩ := RO hR hb h1 h2 h3 hc hK
   have := hn v s' E' x hK' hR' hv'
   rwa [hw] at this
  | panicked chain => exact he.elim
  | outgrown => exact he.elim
 have lent : KG (bU P ex) s f vs K → cX P C E s a o K := by
  intro h
  obtain ⟨hen, hcalls⟩ := XG hR hv h
  intro next Q hn
  rw [hx _ hen]
  show Calls P f _ E.w _
  refine Calls.mono hcalls fun e w' he => ?_
  cases e with
  | returned x =>
   obtain ⟨E', v, s', hw, hK', hR', hv'⟩ := he
   have := hn v s' E' x hK' hR' hv'
   rwa [hw] at this
  | panicked chain => exact he.elim
  | outgrown => exact he.elim
 have given : K5 (bU P ex) s f vs K → cX P C E s a o K := by
  intro h
  obtain ⟨hen, hcalls⟩ := X8 hR hv h
  intro next Q hn
  rw [hx _ hen]
  show Calls P f _ E.w _
  refine Calls.mono hcalls fun e w' he => ?_
  cases e with
  | returned x =>
   obtain ⟨E', v, s', hw, hK', hR', hv'⟩ := he
   have := hn v s' E' x hK' hR' hv'
   rwa [hw] at this
  | panicked chain => exact he.elim
  | outgrown => exact he.elim
 unfold qX at h
 split at h
 ·exact plain h
 ·rcases h with h | h | h
  ·exact plain h
  ·exact lent h
  ·exact given h
theorem IL {f : FuncId} (hR : Rel C E s a) {vs : List V} {xs : List Value} (hv : Rvs E .none vs xs) (hx : ∀ w, Enters P f → (execOp a.eval o).run P w = .ok (.enter f xs.toArray) w) (h : pR (bU P ex) s f vs K ∨ wC (bU P ex) s f vs K ∨ EA (bU P ex) s f vs K) : cX P C E s a o K := by
 rcases h with h | h | h
 ·have two : qX (bU P ex) false s f vs K → cX P C E s a o K := F3 hR false hv hx
  unfold qX at two
  simp only [Bool.not_false, Bool.or_true] at two
  exact two h
 ·obtain ⟨hen, hcalls⟩ := I9 hR hv h
  intro next Q hn
  rw [hx _ hen]
  show Calls P f _ E.w _
  refine Calls.mono hcalls fun e w' he => ?_
  cases e with
  | returned x =>
   obtain ⟨E', v, s', hw, hK', hR', hv'⟩ := he
   have := hn v s' E' x hK' hR' hv'
   rwa [hw] at this
  | panicked chain => exact he.elim
  | outgrown => exact he.elim
 ·obtain ⟨π, hns, _, h⟩ := h
  obtain ⟨hen, hcalls⟩ := N4 hR hv hns h
  intro next Q hn
  rw [hx _ hen]
  show Calls P f _ E.w _
  refine Calls.mono hcalls fun e w' he => ?_
  cases e with
  | returned x =>
   obtain ⟨E', v, s', hw, hK', hR', hv'⟩ := he
   have := hn v s' E' x hK' hR' hv'
   rwa [hw] at this
  | panicked chain => exact he.elim
  | outgrown => exact he.elim
theorem V3 {f : FuncId} (hR : Rel C E s a) (l : Bool) {vs : List V} {xs : List Value} (hv : Rvs E .none vs xs) (hx : ∀ w, Enters P f → (execOp a.eval o).run P w = .ok (.enter f xs.toArray) w) (h : DF (bU P ex) l s f vs K) : cX P C E s a o K := by
 have given : WX (bU P ex) s f vs K → cX P C E s a o K := by
  rintro ⟨D, hD, h⟩
  obtain ⟨us, ⟨r, ⟨hen, hspec⟩, g, rfl, hK⟩, hu⟩ := VJ hR hD h hv
  have hR1 := LF hR D
  have hK' : K (roV r) { s with g := eR D 0 s.g } ∨ K (C3 (eR D 0 s.g).length r) { s with g := eR D 0 s.g ++ pG r } := by
   rw [zL]
   exact hK
  intro next Q hn
  rw [hx _ hen]
  show Calls P f _ E.w _
  refine Calls.mono (hspec E.w (dull (E.frz D) true) _ (JZ hR1 true) hu) fun e w' he => ?_
  cases e with
  | returned x =>
   obtain ⟨hb, o', h1, h2, k0, h3⟩ := he
   obtain ⟨E', v, s', hw, hK', hR', hv'⟩ := RO hR1 hb h1 h2 h3 (.inl rfl) hK'
   have := hn v s' E' x hK' hR' hv'
   rwa [hw] at this
  | panicked chain => exact he.elim
  | outgrown => exact he.elim
 have two : qX (bU P ex) l s f vs K → cX P C E s a o K := F3 hR l hv hx
 unfold DF at h
 unfold qX at two
 cases hb : (jN vs && !((bU P ex).ex f)) || !l with
 | true =>
  rw [hb] at h two
  exact two h
 | false =>
  rw [hb] at h two
  rcases h with h | h | h | h
  ·exact two (.inl h)
  ·exact two (.inr (.inl h))
  ·exact given h
  ·exact two (.inr (.inr h))
theorem JH {E : Env} : ∀ {cs ds : List V} {xs ys : List Value}, Rvs E .none cs xs → Rvs E .none ds ys → Rvs E .none (cs ++ ds) (xs ++ ys)
 | [], ds, [], ys, _, h => h
 | c :: cs, ds, x :: xs, ys, h1, h2 => ⟨h1.1, JH h1.2 h2⟩
 | [], _, _ :: _, _, h, _ => h.elim
 | _ :: _, _, [], _, h, _ => h.elim
theorem DV {f : FuncId} {t : Nat} {args : Array Operand} {ts : Array TypeId} {ys : List Value} (ho : o.op = .call { callee := .value (.tmp t), args, argTypes := ts }) (hf : a.eval (.tmp t) = .func (.func f) #[] ys.toArray) (h : Enters P f) (w : World) : (execOp a.eval o).run P w = .ok (.enter f (args.toList.map a.eval ++ ys).toArray) w := by
 have he : ((args.toList.map a.eval ++ ys).toArray : Array Value) = args.map a.eval ++ ys.toArray := by
  apply Array.toList_inj.1; simp
 rw [he]
 simp only [execOp, ho, resolve, hf, Deferred.ofValue, Sem.run_bind, Sem.run_pure, Result.andThen_ok, invoke, Array.append_empty, Array.empty_append]
 exact f0 h _ _
theorem O9 {f : FuncId} {first captured : Array Operand} (ho : o.op = .makeFunc (.func f) first captured) (h0 : first.toList = []) (hR : Rel C E s a) (h : K (.fn f (captured.toList.map (ev s))) s) : cX P C E s a o K := by
 have hf : first = #[] := Array.toList_inj.1 h0
 subst hf
 refine bN hR (c := Instr.makeFunc (.func f) (#[] : Array Value) (captured.map a.eval)) (x := .func (.func f) #[] (captured.map a.eval)) (by simp only [execOp, ho, Array.map_empty]) (by simp [Instr.makeFunc]) h ?_
 exact ⟨captured.toList.map a.eval, by congr 1; apply Array.toList_inj.1; simp, zN hR captured.toList⟩
end
end Go.Proofs.YtboolngaahifdaaGreatD
namespace Go.Proofs.YtboolngaahifdaaGreatD
open Go
def DW : List (Int × Int) → Int → Nat → Option (Nat × Value)
 | [], _, _ => none
 | (k, v) :: r, x, j => bif k == x then some (j, .int .i64 v) else DW r x (j + 1)
theorem MV : ∀ {m : List (Int × Int)} {es : List MapEntry}, BY m es → ∀ (x : Int) (j : Nat), Instr.findNow (.int .i64) (.int .i64 x) es j = some (DW m x j)
 | [], [], _, x, j => rfl
 | [], _ :: _, h, x, j => h.elim
 | _ :: _, [], h, x, j => h.elim
 | (k, v) :: m, e :: es, h, x, j => by
  have ih := MV h.2.2 x (j + 1)
  simp only [Instr.findNow, Instr.sameNow, h.1, h.2.1, if_true, DW]
  by_cases hk : k = x
  ·subst hk
   simp
  ·have h1 : (x == k) = false := by simp; exact fun h => hk h.symm
   have h2 : (k == x) = false := by simp; exact hk
   rw [h1, h2, cond_false]
   exact ih
theorem DX : ∀ (m : List (Int × Int)) (x y : Int) (j : Nat), (DW m x j = none ∧ tA m x = none ∧ wO m x y = m ++ [(x, y)]) ∨ ∃ p v, DW m x j = some (j + p, .int .i64 v) ∧ tA m x = some v ∧ m[p]? = some (x, v) ∧ wO m x y = m.set p (x, y)
 | [], x, y, j => .inl ⟨rfl, rfl, rfl⟩
 | (k, v) :: m, x, y, j => by
  simp only [DW, tA, wO]
  by_cases hk : k = x
  ·subst hk
   exact .inr ⟨0, v, by simp, by simp, by simp, by simp⟩
  ·have h2 : (k == x) = false := by simp; exact hk
   rw [h2, cond_false, cond_false, cond_false]
   rcases DX m x y (j + 1) with ⟨h3, h4, h5⟩ | ⟨p, u, h3, h4, h5, h6⟩
   ·exact .inl ⟨h3, h4, by rw [h5]; rfl⟩
   ·exact .inr ⟨p + 1, u, by rw [h3]; congr 2; omega, h4, by simpa using h5, by rw [h6]; rfl⟩
theorem MR : ∀ {m : List (Int × Int)} {es : List MapEntry}, BY m es → m.length = es.length
 | [], [], _ => rfl
 | [], _ :: _, h => h.elim
 | _ :: _, [], h => h.elim
 | (k, v) :: m, e :: es, h => by simp [MR h.2.2]
theorem I0 : ∀ {m : List (Int × Int)} {es : List MapEntry} (h : BY m es) {k v : Int} {e : MapEntry}, e.key = .int .i64 k → e.val = .int .i64 v → BY (m ++ [(k, v)]) (es ++ [e])
 | [], [], _, k, v, e, hk, hv => ⟨hk, hv, trivial⟩
 | [], _ :: _, h, k, v, e, hk, hv => h.elim
 | _ :: _, [], h, k, v, e, hk, hv => h.elim
 | (_, _) :: m, _ :: es, h, k, v, e, hk, hv => ⟨h.1, h.2.1, I0 h.2.2 hk hv⟩
theorem MQ : ∀ {m : List (Int × Int)} {es : List MapEntry} (h : BY m es) {p : Nat} {k v : Int}, m[p]? = some (k, v) → ∃ e, es[p]? = some e ∧ e.key = .int .i64 k ∧ e.val = .int .i64 v
 | [], [], _, p, k, v, hp => by simp at hp
 | [], _ :: _, h, p, k, v, hp => h.elim
 | _ :: _, [], h, p, k, v, hp => h.elim
 | (_, _) :: m, e :: es, h, 0, k, v, hp => by
  simp at hp
  obtain ⟨rfl, rfl⟩ := hp
  exact ⟨e, rfl, h.1, h.2.1⟩
 | (_, _) :: m, e :: es, h, p + 1, k, v, hp => by
  obtain ⟨e', h1, h2⟩ := MQ h.2.2 (p := p) (by simpa using hp)
  exact ⟨e', by simpa using h1, h2⟩
theorem MS : ∀ {m : List (Int × Int)} {es : List MapEntry} (h : BY m es) {p : Nat} {k v : Int} {e : MapEntry}, e.key = .int .i64 k → e.val = .int .i64 v → BY (m.set p (k, v)) (es.set p e)
 | [], [], _, p, k, v, e, hk, hv => trivial
 | [], _ :: _, h, p, k, v, e, hk, hv => h.elim
 | _ :: _, [], h, p, k, v, e, hk, hv => h.elim
 | (_, _) :: m, _ :: es, h, 0, k, v, e, hk, hv => ⟨hk, hv, h.2.2⟩
 | (_, _) :: m, _ :: es, h, p + 1, k, v, e, hk, hv => ⟨h.1, h.2.1, MS h.2.2 hk hv⟩
theorem BG {α : Type} (f : α → α) : ∀ (l : List α) (p : Nat) (x : α), l[p]? = some x → l.modify p f = l.set p (f x)
 | [], p, x, h => by simp at h
 | a :: l, 0, x, h => by simp at h; subst h; simp
 | a :: l, p + 1, x, h => by
  have := BG f l p x (by simpa using h)
  simp [this]
structure MapTy (P : Program) (t : TypeId) : Prop where
 ex : ∃ k e i, P.underlying t = some (.map k e) ∧ P.underlying k = some (.int .i64) ∧ P.info? e = some i ∧ i.zero = some (.int .i64 0)
theorem QF {P : Program} {t : TypeId} {ti : TI} (hT : TIOk P t ti) (h : XW ti = true) : MapTy P t := by
 unfold XW at h
 simp only [Bool.and_eq_true, Bool.not_eq_true'] at h
 obtain ⟨h1, h2⟩ := h
 have h3 : ti.fsz = [1] := by
  split at h2
  ·assumption
  ·cases h2
 exact ⟨hT.mp h1 h3⟩
section
variable {P : Program} {Γ : Tab} {C : Ctx} {E : Env} {s : St} {a : Act} {o : Oper} {K : V → St → Prop}
theorem QE (hR : Rel C E s a) {i : Nat} {m : List (Int × Int)} (hob : s.ob i = some ⟨true, [.bp (kI m)]⟩) : ∃ es k, E.w.heap[(E.ρ i).1]? = some (.map es k) ∧ E.o (E.ρ i).1 = some [i] ∧ BY m es.toList := by
 rcases hR.ob i _ hob with ⟨h, _⟩ | ⟨m', es, k, hc, hh, hl, he⟩
 ·cases h
 ·refine ⟨es, k, hh, hl, ?_⟩
  have : kI m = kI m' := by simpa using hc
  have hmm : ∀ (m m' : List (Int × Int)), kI m = kI m' → m = m' := by
   intro m
   induction m with
   | nil => intro m' h; cases m' with
    | nil => rfl
    | cons x r => simp [kI] at h
   | cons x r ih =>
    intro m' h
    cases m' with
    | nil => simp [kI] at h
    | cons y r' =>
     simp only [kI, List.cons.injEq, V.sc.injEq, Value.int.injEq, true_and] at h
     obtain ⟨h1, h2, h3⟩ := h
     rw [ih r' h3, Prod.ext h1 h2]
  rw [hmm m m' this]
  exact he
theorem K2 (hR : Rel C E s a) {x : Operand} {i : Nat} {ob : Obj} (hx : ev s x = .mref i) (h : s.ob i = some ob) : a.eval x = .map (some (E.ρ i).1) := by
 have := cN hR x
 rw [hx] at this
 obtain ⟨_, r, hv, hl⟩ := this
 rw [hv, hl (dA hR h)]
theorem o8 {w : World} {b : Nat} {es : Array MapEntry} {k : Nat} (h : w.heap[b]? = some (.map es k)) : (getObj b).run P w = .ok (.map es k) w := by
 simp [getObj, Sem.run, h]
theorem VH {e : TypeId} {i : TypeInfo} (hi : P.info? e = some i) (hz : i.zero = some (.int .i64 0)) (w : World) : (zeroValue e).run P w = .ok (.int .i64 0) w := by
 simp [zeroValue, dI hi, hz]
theorem nA {b : Bool} {k : TypeId} (h : P.underlying k = some (.int .i64)) (n : Int) (w : World) : (Instr.checkKey b 10000 k (.int .i64 n)).run P w = .ok () w := by
 unfold Instr.checkKey
 simp only [Sem.run_bind, aM h, Result.andThen_ok, Sem.run_pure]
theorem p4 {k : TypeId} (h : P.underlying k = some (.int .i64)) {m : List (Int × Int)} {es : List MapEntry} (he : BY m es) (n : Int) (w : World) : (Instr.findKey k (.int .i64 n) es).run P w = .ok (DW m n 0) w := by
 simp [Instr.findKey, aM h, MV he]
theorem V5 {x : Operand} {i : Nat} {m : List (Int × Int)} {t : TypeId} {ts : Array TypeId} (ho : o.op = .call { callee := .builtin .len, args := #[x], argTypes := ts }) (hR : Rel C E s a) (ht : ts[0]? = some t) (hT : MapTy P t) (hx : ev s x = .mref i)
  (hob : s.ob i = some ⟨true, [.bp (kI m)]⟩) (h : K (.sc (.int .i64 m.length)) s) : cX P C E s a o K := by
 obtain ⟨k, e, ie, hu, _⟩ := hT
 obtain ⟨es, q, hh, _, he⟩ := QE hR hob
 have hv := K2 hR hx hob
 refine iL hR (x := .int .i64 m.length) ?_ h ⟨rfl, rfl⟩
 simp only [execOp, ho, resolve]
 have hl : es.size = m.length := by rw [MR he]; simp
 simp [hv, invoke, builtin, Builtin.len_, ht, aM hu, goInt, o8 hh, hl]
theorem V4 {t : TypeId} {x ix : Operand} {c : Bool} {i : Nat} {n : Int} {m : List (Int × Int)} (ho : o.op = .lookup t x ix c) (hR : Rel C E s a) (hT : MapTy P t) (hx : ev s x = .mref i) (hi : ev s ix = .sc (.int .i64 n))
  (hob : s.ob i = some ⟨true, [.bp (kI m)]⟩) (ht : c = true → K (.tup [.sc (.int .i64 ((tA m n).getD 0)), .sc (.bool (tA m n).isSome)]) s)
  (hf : c = false → K (.sc (.int .i64 ((tA m n).getD 0))) s) : cX P C E s a o K := by
 obtain ⟨k, e, ie, hu, hk, hie, hz⟩ := hT
 obtain ⟨es, q, hh, _, he⟩ := QE hR hob
 have hv := K2 hR hx hob
 have hn := eS hR hi
 have hrun : (Instr.lookup t (a.eval x) (a.eval ix) c).run P E.w = .ok (if c then .tuple #[.int .i64 ((tA m n).getD 0), .bool (tA m n).isSome] else .int .i64 ((tA m n).getD 0)) E.w := by
  rw [hv, hn]
  rcases DX m n 0 0 with ⟨h1, h2, _⟩ | ⟨p, v, h1, h2, _⟩
  ·cases c <;> simp [Instr.lookup, aM hu, o8 hh, nA hk, p4 hk he, h1, h2, VH hie hz]
  ·cases c <;> simp [Instr.lookup, aM hu, o8 hh, nA hk, p4 hk he, h1, h2]
 cases c with
 | true => exact bN hR (c := Instr.lookup t (a.eval x) (a.eval ix) true) (by simp only [execOp, ho]) hrun (ht rfl) ⟨[_, _], rfl, ⟨rfl, rfl⟩, ⟨rfl, rfl⟩, trivial⟩
 | false => exact bN hR (c := Instr.lookup t (a.eval x) (a.eval ix) false) (by simp only [execOp, ho]) hrun (hf rfl) ⟨rfl, rfl⟩
theorem UX {w : World} {b : Nat} {es es' : Array MapEntry} {k k' : Nat} (h : w.heap[b]? = some (.map es k)) : Wrote w { w with heap := w.heap.set! b (.map es' k') } b 0 [] := by
 have hb := cY h
 refine ⟨rfl, rfl, rfl, by simp, fun j hj => ?_, fun c e hc => ?_, rfl⟩
 ·show (w.heap.set! b _)[j]? = _
  simp only [Array.set!_eq_setIfInBounds, Array.getElem?_setIfInBounds]
  rw [if_neg (fun h => hj h.symm)]
 ·rw [h] at hc; cases hc
theorem KO {w : World} {b : Nat} {es es' : Array MapEntry} {k k' : Nat} (h : w.heap[b]? = some (.map es k)) : ({ w with heap := w.heap.set! b (.map es' k') } : World).heap[b]? = some (.map es' k') := by
 have hb := cY h
 show (w.heap.set! b _)[b]? = _
 simp only [Array.set!_eq_setIfInBounds, Array.getElem?_setIfInBounds, if_true, hb]
theorem FM {w : World} {b : Nat} {es es' : Array MapEntry} {k k' : Nat} (h : w.heap[b]? = some (.map es k)) : (setObj b (.map es' k')).run P w = .ok () { w with heap := w.heap.set! b (.map es' k') } := by
 simp [setObj, Sem.run, h]
theorem KW {t : TypeId} {x ix y : Operand} {i : Nat} {n v : Int} {m : List (Int × Int)} (ho : o.op = .mapUpdate t x ix y) (hR : Rel C E s a) (hT : MapTy P t) (hx : ev s x = .mref i) (hi : ev s ix = .sc (.int .i64 n)) (hy : ev s y = .sc (.int .i64 v))
  (hob : s.ob i = some ⟨true, [.bp (kI m)]⟩) (h : K .any (s.put i (some ⟨true, [.bp (kI (wO m n v))]⟩))) : cX P C E s a o K := by
 obtain ⟨k, e, ie, hu, hk, hie, hz⟩ := hT
 obtain ⟨es, q, hh, hlab, he⟩ := QE hR hob
 have hev := K2 hR hx hob
 have hn := eS hR hi
 have hv := eS hR hy
 have key : ∃ es' q', (Instr.mapUpdate t (a.eval x) (a.eval ix) (a.eval y)).run P E.w = .ok () { E.w with heap := E.w.heap.set! (E.ρ i).1 (.map es' q') } ∧ BY (wO m n v) es'.toList := by
  rw [hev, hn, hv]
  rcases DX m n v 0 with ⟨h1, h2, h3⟩ | ⟨p, u, h1, h2, h4, h3⟩
  ·refine ⟨es.push { key := .int .i64 n, val := .int .i64 v, born := q }, q + 1, ?_, ?_⟩
   ·simp [Instr.mapUpdate, aM hu, o8 hh, nA hk, p4 hk he, h1, FM hh]
   ·rw [h3, Array.toList_push]
    exact I0 he rfl rfl
  ·obtain ⟨e0, g1, g2, g3⟩ := MQ he h4
   have g4 : es[p]? = some e0 := by simpa using g1
   have hst : (Instr.keyThatStays (.int .i64 n) (.int .i64 n)).run P E.w = .ok (.int .i64 n) E.w := by
    have hb : Instr.sameBits 10000 (.int .i64 n) (.int .i64 n) = true := by simp [Instr.sameBits]
    simp [Instr.keyThatStays, hb]
   refine ⟨es.modify p fun e => { e with key := .int .i64 n, val := .int .i64 v }, q, ?_, ?_⟩
   ·simp [Instr.mapUpdate, aM hu, o8 hh, nA hk, p4 hk he, h1, g4, g2, hst, FM hh]
   ·rw [h3, Array.toList_modify, BG _ _ _ _ g1]
    exact MS he rfl rfl
 obtain ⟨es', q', hrun, hents⟩ := key
 have hw := UX (es' := es') (k' := q') hh
 have hnt : ∀ k, hZ (fun j => if j = i then some ⟨true, [.bp (kI (wO m n v))]⟩ else E.g j) i k → hZ E.g i k ∧ ({ E.w with heap := E.w.heap.set! (E.ρ i).1 (.map es' q') } : World).cell? ⟨(E.ρ i).1, (E.ρ i).2 + k, none⟩ = E.w.cell? ⟨(E.ρ i).1, (E.ρ i).2 + k, none⟩ := by
  rintro k ⟨_, _, _, _, hg, _⟩
  simp at hg
 intro next Q hn'
 have hrun' : (execOp a.eval o).run P E.w = .ok .skip { E.w with heap := E.w.heap.set! (E.ρ i).1 (.map es' q') } := by
  simp only [execOp, ho]
  simp [hrun]
 rw [hrun']
 exact hn' .any _ (E.wr _ i ⟨true, [.bp (kI (wO m n v))]⟩) undef h (QV hR hw hob rfl hlab hnt (.inr ⟨_, es', q', rfl, KO hh, hlab, hents⟩)) trivial
def pA (w : World) : World := { w with heap := w.heap.push (.map #[] 0) }
def Env.pushM (E : Env) (ob : Obj) : Env :=
 {w := pA E.w, o := fun b => if b = E.w.heap.size then some [E.n] else E.o b, ρ := fun i => if i = E.n then (E.w.heap.size, 0) else E.ρ i,
  g := fun i => if i = E.n then some ob else E.g i, n := E.n + 1, okb := fun b => (if b = E.w.heap.size then some [E.n] else E.o b) = none }
theorem gO (w : World) {b : Nat} (h : b < w.heap.size) : (pA w).heap[b]? = w.heap[b]? := by
 simp only [pA]
 rw [Array.getElem?_push_lt h, Array.getElem?_eq_getElem h]
theorem ED (w : World) : (pA w).heap[w.heap.size]? = some (.map #[] 0) := by
 show (w.heap.push (.map #[] 0))[w.heap.size]? = _
 rw [Array.getElem?_push, if_pos rfl]
theorem QG (hR : Rel C E s a) (ob : Obj) : Mono E (E.pushM ob) := by
 refine ⟨by simp [Env.pushM, pA], fun b hb hok => ?_, Nat.le_succ _, fun i hi hl => ?_, fun i j hi ht => ?_⟩
 ·have hne : b ≠ E.w.heap.size := Nat.ne_of_lt hb
  rw [hR.okb] at hok
  exact ⟨by simp only [Env.pushM, if_neg hne]; exact hok, gO _ hb⟩
 ·have hne : i ≠ E.n := Nat.ne_of_lt hi
  simp only [Env.pushM, if_neg hne] at hl ⊢
  refine ⟨hl, trivial, fun ho => ?_, fun c' e' hh => ⟨c', ?_, rfl⟩⟩
  ·rw [if_neg (Nat.ne_of_lt (hR.lab _ _ ho).1)]
   exact ho
  ·rw [gO _ (cY hh)]
   exact hh
 ·have hne : i ≠ E.n := Nat.ne_of_lt hi
  have ht' : hZ E.g i j := by
   obtain ⟨cs, sz, n, r, hg, hj⟩ := ht
   simp only [Env.pushM, if_neg hne] at hg
   exact ⟨cs, sz, n, r, hg, hj⟩
  exact ⟨ht', dQ (gO _ (qL hR ht'))⟩
theorem Q6 (hR : Rel C E s a) (ob : Obj) (q : List Nat) : Kept E (E.pushM ob) q := fun b r hb => by
 have hlt := (hR.lab _ _ hb).1
 exact ⟨by simp only [Env.pushM, if_neg (Nat.ne_of_lt hlt)]; exact hb, gO _ hlt⟩
theorem X3 {w : World} (h : Fr C w) : Fr C (pA w) :=
 ⟨h.os, h.tape, h.output, by simp only [pA, Array.size_push]; exact Nat.le_succ_of_le h.size, fun k hk hl => (gO _ (Nat.lt_of_lt_of_le hk h.size)).trans (h.block k hk hl), fun b c' e' hb => by
  obtain ⟨c1, h1, h2⟩ := h.shape b c' e' hb
  exact ⟨c1, (gO _ (cY h1)).trans h1, h2⟩, h.drawn⟩
theorem VA (hR : Rel C E s a) {ob : Obj} (hob : ObR (E.pushM ob) E.n ob) : Rel C (E.pushM ob) (s.add ob) a := by
 have hm := QG hR ob
 refine ⟨hR.size, hR.nd, fun k => (hR.slot k).slot hm, ?_, ?_, ?_, rfl, ?_, X3 hR.fr, fun b hb hl => by have := hR.fr.size; simp only [Env.pushM]; rw [if_neg (by omega)]; exact hR.old b hb hl, hR.pin.mono hm⟩
 ·funext i
  simp only [Env.pushM, St.ob, St.add, eD, hR.n]
  rw [hR.g]
  rfl
 ·simp [Env.pushM, St.add, hR.n]
 ·intro i x hx
  simp only [St.ob, St.add, eD] at hx
  split at hx
  ·rename_i hi
   cases hx
   rw [hi, ← hR.n]
   exact hob
  ·have hx' : s.ob i = some x := hx
   have hlt := C6 hR hx'
   exact ObR.mono hm (by simp only [Env.pushM, if_neg (Nat.ne_of_lt hlt)]) (Q6 hR ob _) (hR.ob i x hx')
 ·intro b p hp
  simp only [Env.pushM] at hp
  split at hp
  ·rename_i hb
   subst hb
   exact ⟨by simp [Env.pushM, pA], .inr (.inl hR.fr.size)⟩
  ·obtain ⟨h1, h2⟩ := hR.lab b p hp
   exact ⟨by simp only [Env.pushM, pA, Array.size_push]; omega, h2⟩
theorem QQ {t : TypeId} (ho : o.op = .makeMap t none) (hR : Rel C E s a) (h : K (.mref s.g.length) (s.add ⟨true, [.bp (kI [])]⟩)) : cX P C E s a o K := by
 refine iM (E' := E.pushM ⟨true, [.bp (kI [])]⟩) (x := .map (some E.w.heap.size)) ?_ h (VA hR (.inr ⟨[], #[], 0, rfl, ?_, ?_, trivial⟩)) ?_
 ·simp only [execOp, ho]
  show (do pure (Next.value (← Instr.makeMap t none)) : Sem Next).run P E.w = _
  refine nO ?_
  show (Instr.makeMap t none).run P E.w = .ok _ (pA E.w)
  rfl
 ·simp only [Env.pushM, if_true]; exact ED _
 ·simp [Env.pushM]
 ·rw [← hR.n]
  refine ⟨by simp [Env.pushM], _, rfl, fun _ => ?_⟩
  simp [Env.pushM]
end
end Go.Proofs.YtboolngaahifdaaGreatD
namespace Go.Proofs.YtboolngaahifdaaGreatD
open Go Go.RowKit
section
variable {P : Program} {ex : Exs} {Γ : Tab} {C : Ctx} {E : Env} {s : St} {a : Act} {o : Oper} {K : V → St → Prop} {l : Bool}
theorem a38 {α : Type} {as : Array α} {x : α} (h : as.toList = [x]) : as = #[x] := Array.toList_inj.1 h
theorem ZG {α : Type} {as : Array α} {x y : α} (h : as.toList = [x, y]) : as = #[x, y] := Array.toList_inj.1 h
theorem QM {src dst : TypeId} {x : Operand} {ti : TI} {k k' : IntKind} {n : Int} (ho : o.op = .convert src dst x) (hR : Rel C E s a) (hT : TIOk P dst ti) (hk : ti.kind = some k) (hS : ∃ k0, P.underlying src = some (.int k0)) (hx : ev s x = .sc (.int k' n)) (h : K (.sc (.int k (k.wrap n))) s) : cX P C E s a o K := by
 obtain ⟨k0, hs⟩ := hS
 obtain ⟨ds, hd, hdk⟩ := hT.desc
 have hdd : P.underlying dst = some (.int k) := by cases ds <;> simp_all [iS]
 refine bN hR (c := convert src dst (a.eval x)) (by simp only [execOp, ho]) ?_ h ⟨rfl, rfl⟩
 rw [eS hR hx]
 simp [convert, aM hs, aM hdd, Conv.intToInt]
theorem WH {bs : List Int} {j : Nat} {v : Value} (h : (bs.map (Value.int .u8))[j]? = some v) : ∃ b, bs[j]? = some b ∧ v = .int .u8 b := by
 rw [List.getElem?_map] at h
 cases hb : bs[j]? with
 | none => rw [hb] at h; cases h
 | some b => rw [hb] at h; cases h; exact ⟨b, rfl, rfl⟩
theorem O6 {src dst e : TypeId} {x : Operand} {td ts te : TI} {i off n lo : Nat} {hi : Option Nat} {cs : List V} {bs : List Int} (ho : o.op = .convert src dst x) (hR : Rel C E s a) (hT : TIOk P dst td) (hstr : td.str = true) (hS : TIOk P src ts) (he : ts.elem = some e) (hE : TIOk P e te) (hk : te.kind = some .u8)
  (hx : ev s x = .own i 1 off n lo hi) (hob : s.ob i = some ⟨false, cs⟩) (hr : dP cs off n = some (bs.map fun b => V.sc (.int .u8 b))) (h : K (.sc (.string (JP bs))) s) : cX P C E s a o K := by
 have hv := cN hR x
 rw [hx] at hv
 obtain ⟨_, A, cap, hv, hnc, hlv⟩ := hv
 obtain ⟨hc, hlo, hhi, hrr⟩ := hlv (dA hR hob)
 obtain ⟨hle, hreq, hlen⟩ := e8 hr
 rw [List.length_map] at hlen
 have hd : P.underlying dst = some .string := by
  obtain ⟨d, hd, hk⟩ := hT.desc
  cases d <;> simp_all [iS]
 have hs : P.underlying src = some (.slice e) := by
  obtain ⟨d, hd, hk⟩ := hS.desc
  cases d <;> simp_all [iS]
 have hee : P.underlying e = some (.int .u8) := by
  obtain ⟨d, hd, hk'⟩ := hE.desc
  cases d <;> simp_all [iS]
 refine bN hR (c := convert src dst (a.eval x)) (by simp only [execOp, ho]) ?_ h ⟨rfl, rfl⟩
 rw [hv, run_convert_bytes_string _ src dst e A n cap hs hee hd]
 have hcells : ∀ A', A = some A' → (loadCells A' n).run P E.w = .ok (bs.map (Value.int .u8)).toArray E.w := by
  rintro A' rfl
  by_cases hn0 : n = 0
  ·obtain rfl : bs = [] := List.eq_nil_of_length_eq_zero (by omega)
   subst hn0
   exact run_loadCells_list (P := P) E.w A' [] (fun j v hj => by simp at hj)
  rcases hrr with h0 | ⟨c, ee, hA, _, _, _⟩
  ·omega
  ·cases hA
   rcases hR.ob i _ hob with h0 | ⟨c, e', hh, hlab, hrow⟩
   ·rw [h0] at hle; simp at hle; omega
   ·have := run_loadCells_list (P := P) E.w ⟨(E.ρ i).1, (E.ρ i).2 + off, none⟩ (bs.map (Value.int .u8)) (fun j v hj => by
     obtain ⟨b, hb, rfl⟩ := WH hj
     have hjl : j < n := by have := (List.getElem?_eq_some_iff.1 hb).1; omega
     have hcj : cs[off + j]? = some (V.sc (.int .u8 b)) := by
      have h1 : (bs.map fun b => V.sc (.int .u8 b))[j]? = some (V.sc (.int .u8 b)) := by rw [List.getElem?_map, hb]; rfl
      rw [hreq, List.getElem?_take, if_pos hjl, List.getElem?_drop] at h1
      exact h1
     obtain ⟨u, hu, hru⟩ := bR hrow (off + j) _ hcj
     have hu' : E.w.cell? ⟨(E.ρ i).1, (E.ρ i).2 + (off + j), none⟩ = some u := hu
     rw [cV, Nat.add_assoc, hu', hru.1])
    rwa [List.length_map, hlen] at this
 cases A with
 | none =>
  have hn0 : n = 0 := by
   rcases hrr with h0 | ⟨c, ee, hA, _⟩
   ·omega
   ·cases hA
  obtain rfl : bs = [] := List.eq_nil_of_length_eq_zero (by omega)
  simp [Conv.bytesToString, Sem.run_pure, JP]
 | some A' => exact run_bytesToString E.w A' n cap bs (hcells A' rfl)
theorem dK {b : Bool} {p : Prop} (h : bif b then p else False) : b = true ∧ p := by cases b <;> simp_all
theorem nF {b : Bool} {p : Prop} (h : bif b then False else p) : b = false ∧ p := by cases b <;> simp_all
theorem nS {n : Nat} (h : Nat.beq n 0 = false) : n ≠ 0 := fun he => by rw [he] at h; simp at h
theorem R7 {t : TypeId} {x : Operand} (hop : o.op = .load t x) (hΓ : fD P Γ) (hR : Rel C E s a) (h : cM Γ (bU P ex) l o s K) : cX P C E s a o K := by
 unfold cM at h
 rw [hop] at h
 simp only at h
 cases hx : ev s x <;> cases ht : Γ t <;> rw [hx, ht] at h <;> simp only at h <;> try exact h.elim
 ·rename_i i off ti
  cases hob : s.ob i with
  | none => rw [hob] at h; exact h.elim
  | some ob =>
  obtain ⟨bx, cs⟩ := ob
  rw [hob] at h
  cases bx with
  | true =>
   obtain ⟨hnm, h⟩ := nF h
   cases hr : dP cs off ti.size with
   | none => rw [hr] at h; exact h.elim
   | some r => rw [hr] at h; exact O7 hop hR (hΓ _ _ ht) hx hob hnm hr h
  | false =>
   obtain ⟨h0, r, hr, hK⟩ := nF h
   exact O8 hop hR (hΓ _ _ ht) hx hob hr hK (nS h0)
 ·obtain ⟨r, hr, hK⟩ := h
  exact QO hop hR (hΓ _ _ ht) hx hr hK
 ·rename_i i j off ti
  cases hob : s.ob i with
  | none => rw [hob] at h; exact h.elim
  | some ob =>
  obtain ⟨bx, cs⟩ := ob
  rw [hob] at h
  cases bx with
  | true => exact h.elim
  | false =>
   obtain ⟨h0, sz, n, r, q, hj, hq, hf, hK⟩ := nF h
   exact QP hop hR (hΓ _ _ ht) hx hob hj hq hf (nS h0) hK
theorem P1 {t : TypeId} {x y : Operand} (hop : o.op = .store t x y) (hΓ : fD P Γ) (hR : Rel C E s a) (h : cM Γ (bU P ex) l o s K) : cX P C E s a o K := by
 unfold cM at h
 rw [hop] at h
 simp only at h
 cases hx : ev s x <;> cases hy : kL s (ev s y) <;> cases ht : Γ t <;> rw [hx, hy, ht] at h <;> simp only at h <;> try exact h.elim
 ·rename_i i off vs ti
  obtain ⟨hl, h⟩ := dK h
  have hl' := Nat.eq_of_beq_eq_true hl
  cases hob : s.ob i with
  | none => rw [hob] at h; exact h.elim
  | some ob =>
  obtain ⟨bx, cs⟩ := ob
  rw [hob] at h
  cases bx with
  | true =>
   obtain ⟨hb, hK⟩ := dK h
   simp only [Bool.and_eq_true, Bool.not_eq_true'] at hb
   exact L4 hop hR (hΓ _ _ ht) hx hy hl' hob hb.1 hb.2.1 (Nat.le_of_ble_eq_true hb.2.2) hK
  | false =>
   obtain ⟨hz, h⟩ := nF h
   split at h
   ·rename_i hfl
    obtain ⟨r, hr, _, rfl, hK⟩ := h
    exact L5 hop hR (hΓ _ _ ht) hx hy hl' hob hfl hr (nS hz) hK
   ·obtain ⟨hns, r, hr, hK⟩ := dK h
    simp only [Bool.and_eq_true] at hns
    refine CB hop hR (hΓ _ _ ht) hx hy hl' hob hr (nS hz) hns.2.1 hns.2.2 (I6 (fun us s1 h1 => ?_) hK)
    split at h1
    ·rename_i cs1 hc1
     obtain ⟨h1, _, rfl, h2⟩ := h1
     rw [hc1]
     exact ⟨h1, h2⟩
    ·exact h1.elim
 ·rename_i i j off vs ti
  obtain ⟨hb, h⟩ := dK h
  simp only [Bool.and_eq_true, Bool.not_eq_true'] at hb
  split at h
  ·rename_i cs hob
   obtain ⟨sz, n, r, q, hj, hq, _, rfl, hK⟩ := h
   exact OB hop hR (hΓ _ _ ht) hx hy (Nat.eq_of_beq_eq_true hb.1.1) hob hb.1.2 hj hq (nS hb.2) hK
  ·exact h.elim
theorem CD {t : TypeId} {x : Operand} {f : Nat} (hop : o.op = .fieldAddr t x f) (hΓ : fD P Γ) (hR : Rel C E s a) (h : cM Γ (bU P ex) l o s K) : cX P C E s a o K := by
 unfold cM at h
 rw [hop] at h
 simp only at h
 cases ht : Γ t with
 | none => rw [ht] at h; cases hx : ev s x <;> rw [hx] at h <;> exact h.elim
 | some ti =>
 rw [ht] at h
 cases hf : nth ti.fields f with
 | none => simp only [Option.bind_some, hf] at h; cases hx : ev s x <;> rw [hx] at h <;> exact h.elim
 | some d =>
 simp only [Option.bind_some, hf] at h
 cases hx : ev s x <;> rw [hx] at h <;> simp only at h <;> try exact h.elim
 ·rename_i i off
  cases hob : s.ob i with
  | none => rw [hob] at h; exact h.elim
  | some ob => rw [hob] at h; exact A2 hop hR (hΓ _ _ ht) hx hob hf h
 ·exact C7 hop hR (hΓ _ _ ht) hx hf h
 ·exact C8 hop hR (hΓ _ _ ht) hx hf h
theorem jJ {t : TypeId} {te : TI} (hΓ : fD P Γ) (h : ((Γ t).bind fun ti => ti.elem.bind Γ) = some te) : ∃ ti e, TIOk P t ti ∧ ti.elem = some e ∧ TIOk P e te := by
 cases ht : Γ t with
 | none => rw [ht] at h; cases h
 | some ti =>
  rw [ht] at h
  simp only [Option.bind_some] at h
  cases he : ti.elem with
  | none => rw [he] at h; cases h
  | some e => rw [he] at h; exact ⟨ti, e, hΓ _ _ ht, he, hΓ _ _ h⟩
theorem CE {t : TypeId} {x ix : Operand} (hop : o.op = .indexAddr t x ix) (hΓ : fD P Γ) (hR : Rel C E s a) (h : cM Γ (bU P ex) l o s K) : cX P C E s a o K := by
 unfold cM at h
 rw [hop] at h
 simp only at h
 split at h
 ·rename_i hx hi ht
  obtain ⟨ti, e, hT, he, hE⟩ := jJ hΓ ht
  obtain ⟨hz, h1, h2, hK⟩ := nF h
  exact C9 hop hR hT he hE hx hi h1 h2 (nS hz) hK
 ·rename_i hx hi ht
  obtain ⟨ti, e, hT, he, hE⟩ := jJ hΓ ht
  split at h
  ·rename_i ob hob
   obtain ⟨hz, h1, hK⟩ := dK h
   exact A5 hop hR hT he hE hx hob hi h1 hK
  ·exact h.elim
 ·rename_i hx hi ht
  obtain ⟨ti, e, hT, he, hE⟩ := jJ hΓ ht
  split at h
  ·rename_i cs hob
   obtain ⟨n, r, hj, h1, hK⟩ := h
   exact A6 hop hR hT he hE hx hob hj hi h1 hK
  ·exact h.elim
 ·rename_i hx hi ht
  split at h
  ·rename_i hT hob
   exact y5 hΓ hop hR hT hx hob hi h.1 h.2
  ·exact h.elim
 ·rename_i hx hi ht
  split at h
  ·rename_i hT
   exact A4 hΓ hop hR hT hx hi h.1 h.2
  ·exact h.elim
 ·exact h.elim
theorem VK {args : Array Operand} {ts : Array TypeId} (hop : o.op = .call { callee := .builtin .len, args, argTypes := ts }) (hΓ : fD P Γ) (hR : Rel C E s a) (h : cM Γ (bU P ex) l o s K) : cX P C E s a o K := by
 unfold cM at h
 rw [hop] at h
 simp only at h
 split at h
 ·rename_i x t hargs hts
  have h1 := a38 hargs
  have h2 := a38 hts
  subst h1; subst h2
  split at h
  ·rename_i b ti hx ht
   obtain ⟨hst, hK⟩ := dK h
   refine Y9 hop hR (t := t) (by simp) (.inr (p6 (hΓ _ _ ht) hst)) (.inr ⟨b, eS hR hx, rfl, p6 (hΓ _ _ ht) hst⟩) hK
  ·rename_i i ti hx ht
   obtain ⟨hmt, h⟩ := dK h
   split at h
   ·rename_i cs hob
    obtain ⟨m, rfl, hK⟩ := h
    exact V5 hop hR (t := t) (by simp) (QF (hΓ _ _ ht) hmt) hx hob hK
   ·exact h.elim
  ·rename_i ti hx hv hv2
   split at h
   ·rename_i e n he hn
    have hsl := f4 (te := ti) (hΓ _ _ hx) he
    rcases a06 hR hn (cN hR x) with ⟨A, cap, hA⟩ | ⟨z, hz, hzs⟩
    ·exact Y9 hop hR (t := t) (by simp) (.inl ⟨e, hsl⟩) (.inl ⟨A, cap, hA, e, hsl⟩) h
    ·exfalso
     have hvx := cN hR x
     rw [hz] at hvx
     generalize hq : ev s x = u at hvx hn hv
     cases u <;> simp only [GY, Option.some.injEq, reduceCtorEq] at hn
     ·obtain ⟨h1, _⟩ := hvx
      subst h1
      exact hv z rfl
     ·obtain ⟨A, cap, h1, _⟩ := hvx; cases h1
     ·obtain ⟨_, A, cap, h1, _⟩ := hvx; cases h1
     ·obtain ⟨_, ⟨A, nn, cap, h1⟩, _⟩ := hvx; cases h1
   ·exact h.elim
  ·exact h.elim
 ·exact h.elim
theorem tN (hΓ : fD P Γ) (hR : Rel C E s a) (h : cM Γ (bU P ex) l o s K) : cX P C E s a o K := by
 have h0 := h
 unfold cM at h
 split at h
 ·rename_i x hop; exact a0I hop hR h
 ·rename_i x hop; exact V2 hop hR h
 ·rename_i c x y hop
  split at h
  ·rename_i t hc
   cases t with
   | true => exact T1 hop hR hc (fun _ => h) (fun h => by cases h)
   | false => exact T1 hop hR hc (fun h => by cases h) (fun _ => h)
  ·exact h.elim
 ·rename_i op t x y t' hop
  split at h
  ·rename_i k m k' n hx hy
   obtain ⟨hk, h⟩ := dK h
   exact a0G hop hR hx hy hk h
  ·rename_i m n hx hy; exact a0H hop hR hx hy h
  ·rename_i m n hx hy
   have hu : ∀ {b : Bool}, (Γ t).map (·.boo) = some true → P.underlying t = some .bool := by
    intro b hb
    cases ht : Γ t with
    | none => rw [ht] at hb; cases hb
    | some ti =>
     rw [ht] at hb
     obtain ⟨ds, hd, hk⟩ := (hΓ _ _ ht).desc
     cases ds <;> simp_all [iS]
   split at h
   ·rename_i hb; exact T0 hop hR (hu (b := true) hb) hx hy (.inl ⟨rfl, h⟩)
   ·rename_i hb; exact T0 hop hR (hu (b := true) hb) hx hy (.inr ⟨rfl, h⟩)
   ·exact h.elim
  ·rename_i n cs hx hy
   obtain ⟨hne, h⟩ := h
   cases ht : Γ t with
   | none => rw [ht] at h; cases op <;> exact h.elim
   | some ti =>
   cases he : ti.elem with
   | none => rw [ht] at h; simp only [Option.bind_some, he] at h; cases op <;> exact h.elim
   | some e =>
   rw [ht] at h
   simp only [Option.bind_some, he] at h
   have hv := cN hR x
   rw [hx] at hv
   obtain ⟨A, cap, hxv, hc, hr⟩ := hv
   obtain ⟨b, d, rfl, _⟩ := hr hne
   exact YA hop hR (hΓ _ _ ht) he hxv (eS hR hy) h
  ·rename_i hx hy
   cases ht : Γ t with
   | none => rw [ht] at h; cases op <;> exact h.elim
   | some ti =>
   cases he : ti.elem with
   | none => rw [ht] at h; simp only [Option.bind_some, he] at h; cases op <;> exact h.elim
   | some e =>
   rw [ht] at h
   simp only [Option.bind_some, he] at h
   exact YA hop hR (hΓ _ _ ht) he (eS hR hx) (eS hR hy) h
  ·exact h.elim
 ·rename_i t x hop
  split at h
  ·rename_i b hx; exact a2K hop hR hx h
  ·exact h.elim
 ·rename_i t x hop
  split at h
  ·rename_i k n hx; exact a2J hop hR hx h
  ·exact h.elim
 ·rename_i x ix hop
  split at h
  ·rename_i vs hx
   split at h
   ·rename_i v hv; exact QN hop hR hx hv h
   ·exact h.elim
  ·exact h.elim
 ·rename_i t x f hop
  split at h
  ·rename_i cs d te hx hf hft
   cases hag : te.agg with
   | true => rw [hag] at h; exact h.elim
   | false =>
   rw [hag] at h
   simp only [cond_false] at h
   cases ht : Γ t with
   | none => rw [ht] at hf; cases hf
   | some ti =>
   rw [ht] at hf hft
   simp only [Option.bind_some] at hf hft
   cases hn : nth ti.fty f with
   | none => rw [hn] at hft; cases hft
   | some ft =>
   rw [hn] at hft
   split at h
   ·rename_i c hc
    exact Y7 hop hR (hΓ _ _ ht) hx hf hn (hΓ _ _ hft) hag hc h
   ·exact h.elim
  ·exact h.elim
 ·rename_i t hop
  split at h
  ·rename_i ti ht; exact Y5 hop hR (hΓ _ _ ht) h
  ·exact h.elim
 ·rename_i t x hop
  split at h
  ·rename_i cs hc; exact a2G hop hR hc h
  ·exact h.elim
 ·rename_i x hop
  split at h
  ·rename_i i off hx
   split at h
   ·rename_i ob hob; exact CA hop hR hx (by rw [hob]; rfl) h
   ·exact h.elim
  ·rename_i cs hx; exact F4 hop hR hx h
  ·exact h.elim
 ·rename_i hop; exact R7 hop hΓ hR h0
 ·rename_i hop; exact P1 hop hΓ hR h0
 ·rename_i hop; exact CD hop hΓ hR h0
 ·rename_i hop; exact CE hop hΓ hR h0
 ·rename_i t x ix hop
  split at h
  ·rename_i b k i hx hi
   obtain ⟨⟨ti, ht, hst⟩, hb, hK⟩ := h
   exact Y8 hop hR (p6 (hΓ _ _ ht) hst) hx hi hb hK
  ·exact h.elim
 ·rename_i t parts hop
  split at h
  ·rename_i ti ht
   obtain ⟨hfl, h⟩ := nF h
   split at h
   ·rename_i cs hf
    exact Y6 hop hR (hΓ _ _ ht) (fun hn => by rw [hn] at hfl; simp at hfl) hf h
   ·exact h.elim
  ·exact h.elim
 ·rename_i t len parts hop
  split at h
  ·rename_i te ht
   obtain ⟨ti, e, hT, he, hE⟩ := jJ hΓ ht
   obtain ⟨hb, h⟩ := dK h
   simp only [Bool.and_eq_true, Bool.not_eq_true'] at hb
   split at h
   ·rename_i cs hf; exact HE hop hR hT he hE (Nat.le_of_ble_eq_true hb.1) (nS hb.2) hf h
   ·exact h.elim
  ·exact h.elim
 ·rename_i t x lo hi hop
  split at h
  ·rename_i n cs te hx ht
   obtain ⟨ti, e, hT, he, hE⟩ := jJ hΓ ht
   split at h
   ·rename_i l hh hl hhh
    obtain ⟨hb, hcl, r, hr, hK⟩ := h
    exact OA hop hR hT he hE hx hl hhh hb hcl hr hK
   ·exact h.elim
  ·rename_i i sz off n lo0 hi0 te hx ht
   obtain ⟨ti, e, hT, he, hE⟩ := jJ hΓ ht
   split at h
   ·rename_i d hh hl hhh
    cases hgv : (l && ((bU P ex).giv && isN hi)) with
    | true =>
     rw [hgv] at h
     simp only [Bool.and_eq_true] at hgv
     cases hi with
     | some y => exact absurd hgv.2.2 (by simp [isN])
     | none => exact KY hop hR hT he hE hx hl h
    | false =>
    rw [hgv] at h
    simp only [cond_false] at h
    obtain ⟨hz, hb, hK⟩ := dK h
    exact KZ hop hR hT he hE hx hl hhh (Nat.eq_of_beq_eq_true hz) hb hK
   ·exact h.elim
  ·rename_i b hx ht
   split at h
   ·rename_i d hh hl hhh
    obtain ⟨⟨ti, ht, hst⟩, hb, hK⟩ := h
    exact L3 (ti := ti) hop hR (p6 (hΓ _ _ ht) hst) hx hl hhh hb hK
   ·exact h.elim
  ·exact h.elim
 ·rename_i t x lo hi mx hop
  split at h
  ·rename_i n cs te km m hx ht hm
   obtain ⟨ti, e, hT, he, hE⟩ := jJ hΓ ht
   split at h
   ·rename_i l hh hl hhh
    obtain ⟨hb, hcl, r, hr, hK⟩ := h
    exact KX hop hR hT he hE hx hm hl hhh hb hcl hr hK
   ·exact h.elim
  ·rename_i i sz off n lo0 hi0 te km m hx ht hm
   obtain ⟨ti, e, hT, he, hE⟩ := jJ hΓ ht
   split at h
   ·rename_i l hh ob hl hhh hob
    obtain ⟨hz, hb, hK⟩ := dK h
    exact HG hop hR hT he hE hx hm hl hhh hob (Nat.eq_of_beq_eq_true hz) hb hK
   ·exact h.elim
  ·exact h.elim
 ·rename_i t x y hop
  split at h
  ·rename_i k l k' c te hx hy ht
   obtain ⟨ti, e, hT, he, hE⟩ := jJ hΓ ht
   obtain ⟨hb, hlc, r, hr, hK⟩ := dK h
   simp only [Bool.and_eq_true, Bool.not_eq_true'] at hb
   exact KV hop hR hT he hE (Nat.le_of_ble_eq_true hb.1) (nS hb.2) hx hy hlc hr hK
  ·exact h.elim
 ·rename_i src dst x hop
  split at h
  ·rename_i k' n k k0 hx hk hs
   cases hd : Γ dst with
   | none => rw [hd] at hk; cases hk
   | some ti =>
   cases hsrc : Γ src with
   | none => rw [hsrc] at hs; cases hs
   | some ts =>
   rw [hd] at hk; rw [hsrc] at hs
   obtain ⟨ds, hds, hdk⟩ := (hΓ _ _ hsrc).desc
   refine QM hop hR (hΓ _ _ hd) hk ⟨k0, ?_⟩ hx h
   simp only [Option.bind_some] at hs
   cases ds <;> simp_all [iS]
  ·rename_i i sz off n _ _ hx hk hs
   obtain ⟨hb, hh⟩ := dK h
   clear h
   simp only [Bool.and_eq_true] at hb
   obtain rfl := Nat.eq_of_beq_eq_true hb.2
   split at hh
   ·rename_i cs td te hob hd hte
    obtain ⟨ts, e, hT, he, hE⟩ := jJ hΓ hte
    obtain ⟨⟨hstr, hu8⟩, bs, hr, hK⟩ := hh
    exact O6 hop hR (hΓ _ _ hd) hstr hT he hE hu8 hx hob hr hK
   ·exact hh.elim
  ·exact h.elim
 ·rename_i hop; exact VK hop hΓ hR h0
 ·rename_i args ts hop
  split at h
  ·rename_i x y t u hargs hts
   have h1 := ZG hargs
   have h2 := ZG hts
   subst h1; subst h2
   split at h
   ·rename_i te e' ht hu
    obtain ⟨ti, e, hT, he, hE⟩ := jJ hΓ ht
    cases hu' : Γ u with
    | none => rw [hu'] at hu; cases hu
    | some tu =>
    rw [hu'] at hu
    obtain ⟨hb, h⟩ := dK h
    simp only [Bool.and_eq_true, Bool.not_eq_true'] at hb
    cases hsb : (TJ (ev s x) (ev s y) && !(bU P ex).giv) with
    | true =>
     rw [hsb] at h
     simp only [Bool.and_eq_true] at hsb
     exact F2 hop hR hT he hE (hΓ _ _ hu') hu (Nat.le_of_ble_eq_true hb.1) (nS hb.2) hsb.1 h
    | false =>
     rw [hsb] at h
     exact V1 hop hR hT he hE (hΓ _ _ hu') hu (Nat.le_of_ble_eq_true hb.1) (nS hb.2) h
   ·exact h.elim
  ·exact h.elim
 ·rename_i args ts hop
  split at h
  ·rename_i x y hargs
   have h1 := ZG hargs
   subst h1
   split at h
   ·rename_i k m k' n hx hy; exact a2H hop hR hx hy h
   ·exact h.elim
  ·exact h.elim
 ·rename_i args ts hop
  split at h
  ·rename_i x y hargs
   have h1 := ZG hargs
   subst h1
   split at h
   ·rename_i k m k' n hx hy; exact a2I hop hR hx hy h
   ·exact h.elim
  ·exact h.elim
 ·rename_i f args ts hop
  refine F3 hR l (zN hR args.toList) (fun w hen => I1 hop hen w) h
 ·rename_i t args ts hop
  split at h
  ·rename_i f cs hf
   have hv := hR.slot t
   rw [hf] at hv
   obtain ⟨ys, hy, hys⟩ := hv
   exact V3 hR l (JH (zN hR args.toList) hys) (fun w hen => DV hop hy hen w) h
  ·exact h.elim
 ·rename_i f first captured hop
  split at h
  ·rename_i h1; exact O9 hop h1 hR h
  ·exact h.elim
 ·rename_i t hop; exact QQ hop hR h
 ·rename_i t x ix c hop
  split at h
  ·rename_i i k ti hx hi ht
   obtain ⟨hmt, h⟩ := dK h
   split at h
   ·rename_i cs hob
    obtain ⟨m, rfl, hK⟩ := h
    exact V4 hop hR (QF (hΓ _ _ ht) hmt) hx hi hob (fun hc => by subst hc; exact hK) (fun hc => by subst hc; exact hK)
   ·exact h.elim
  ·exact h.elim
 ·rename_i t x ix y hop
  split at h
  ·rename_i i k v ti hx hi hy ht
   obtain ⟨hmt, h⟩ := dK h
   split at h
   ·rename_i cs hob
    obtain ⟨m, rfl, m', rfl, hK⟩ := h
    exact KW hop hR (QF (hΓ _ _ ht) hmt) hx hi hy hob hK
   ·exact h.elim
  ·exact h.elim
 ·exact h.elim
end
end Go.Proofs.YtboolngaahifdaaGreatD
