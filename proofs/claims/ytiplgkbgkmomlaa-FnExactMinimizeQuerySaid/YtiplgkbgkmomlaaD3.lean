/- What a value, an object and a state say of memory. -/
import Derived.Test.YtiplgkbgkmomlaaD2
set_option linter.unusedVariables false
set_option linter.unusedSimpArgs false
namespace Go.Proofs.YtiplgkbgkmomlaaD
open Go

abbrev Lab := Nat → Option (List Nat)
/-- w: the world; o: whose each block is (a path: the object, then the cells); ρ: where an object's first cell lies; g: the objects; n: how many; okb: where a slice that nobody writes may lie. -/
structure Env where
  w : World
  o : Lab
  ρ : Nat → Nat × Nat
  g : Nat → Option Obj
  n : Nat
  okb : Nat → Prop
def Env.bare (E : Env) : Env := { E with n := 0, g := fun _ => none }

inductive Md where
  | none
  | top (k : Nat)
  | at (q : List Nat)
def Md.leaf : Md → Option (List Nat)
  | .none => Option.none
  | .top k => some [k]
  | .at q => some q
def Md.child (j : Nat) : Md → Md
  | .at q => .at (q ++ [j])
  | _ => .none
def Md.next (d : Nat) : Md → Md
  | .top k => .top (k + d)
  | _ => .none
def Md.part : Md → Md
  | .top k => .top k
  | _ => .none

def isTr (g : Nat → Option Obj) (i j : Nat) : Prop := ∃ cs sz n r, g i = some ⟨false, cs⟩ ∧ cs[j]? = some (.tr sz n r)

mutual
def Rv : Env → Md → V → Value → Prop
  | _, _, .sc v, x => x = v ∧ v.oneCell' = true
  | E, _, .ro n cs, x => ∃ A cap, x = .slice A n cap ∧ n ≤ cap ∧ (cs ≠ [] → ∃ b off, A = some ⟨b, off, none⟩ ∧ E.okb b ∧ b < E.w.heap.size ∧ Rrow E.bare .none b off 0 cs)
  | E, m, .tr sz n cs, x => ∃ A cap, x = .slice A n cap ∧ n ≤ cap ∧ cs.length = n * sz ∧ (cap = 0 ∨ ∃ b off q c e, A = some ⟨b, off, none⟩ ∧ m.leaf = some q ∧ E.o b = some q ∧ E.w.heap[b]? = some (.cells c e (0, 0)) ∧ off + cap * sz ≤ c.size ∧ Rrow E.bare (.at q) b off 0 cs)
  | E, _, .own i sz off n lo hi, x => i < E.n ∧ ∃ A cap, x = .slice A n cap ∧ ((E.g i).isSome = true → n ≤ cap ∧ lo ≤ cap ∧ (∀ h, hi = some h → cap = h) ∧
      (cap = 0 ∨ ∃ c e, A = some ⟨(E.ρ i).1, (E.ρ i).2 + off, none⟩ ∧ E.o (E.ρ i).1 = some [i] ∧ E.w.heap[(E.ρ i).1]? = some (.cells c e (0, 0)) ∧ (E.ρ i).2 + off + cap * sz ≤ c.size))
  | E, _, .sub i j, x => i < E.n ∧ (∃ A n cap, x = .slice A n cap) ∧ (isTr E.g i j → E.w.cell? ⟨(E.ρ i).1, (E.ρ i).2 + j, none⟩ = some x)
  | E, _, .ptr i off, x => i < E.n ∧ ∃ ad, x = .pointer (some ad) ∧ ((E.g i).isSome = true → ad = ⟨(E.ρ i).1, (E.ρ i).2 + off, none⟩)
  | E, _, .rp cs, x => ∃ b off, x = .pointer (some ⟨b, off, none⟩) ∧ E.okb b ∧ b < E.w.heap.size ∧ Rrow E.bare .none b off 0 cs
  | E, m, .bp cs, x => ∃ b off q c e, x = .pointer (some ⟨b, off, none⟩) ∧ m.leaf = some q ∧ E.o b = some q ∧ E.w.heap[b]? = some (.cells c e (0, 0)) ∧ cs ≠ [] ∧ Rrow E.bare (.at q) b off 0 cs
  | E, _, .sp i j off, x => i < E.n ∧ ∃ ad, x = .pointer (some ad) ∧ (isTr E.g i j → ∃ A n cap, E.w.cell? ⟨(E.ρ i).1, (E.ρ i).2 + j, none⟩ = some (.slice (some A) n cap) ∧ 0 < cap ∧ ad = A.add off)
  | E, m, .agg cs, x => ∃ xs : List Value, x = .agg xs.toArray ∧ Rvs E m.part cs xs
  | E, m, .tup cs, x => ∃ xs : List Value, x = .tuple xs.toArray ∧ Rvs E m.part cs xs
  | E, m, .fn f cs, x => ∃ xs : List Value, x = .func (.func f) #[] xs.toArray ∧ Rvs E m.part cs xs
  | _, _, .any, _ => True
def Rrow : Env → Md → Nat → Nat → Nat → List V → Prop
  | _, _, _, _, _, [] => True
  | E, m, b, off, j, c :: cs => (∃ v, E.w.cell? ⟨b, off, none⟩ = some v ∧ Rv E (m.child j) c v) ∧ Rrow E m b (off + 1) (j + 1) cs
def Rvs : Env → Md → List V → List Value → Prop
  | _, _, [], [] => True
  | E, m, c :: cs, x :: xs => Rv E m c x ∧ Rvs E (m.next (nl c)) cs xs
  | _, _, _, _ => False
end

/-- From one environment to a later one: nothing that is still spoken of has changed. -/
structure Mono (E E' : Env) : Prop where
  sz : E.w.heap.size ≤ E'.w.heap.size
  free : ∀ b, b < E.w.heap.size → E.okb b → E'.okb b ∧ E'.w.heap[b]? = E.w.heap[b]?
  n : E.n ≤ E'.n
  ref : ∀ i, i < E.n → (E'.g i).isSome = true → (E.g i).isSome = true ∧ E'.ρ i = E.ρ i ∧ (E.o (E.ρ i).1 = some [i] → E'.o (E.ρ i).1 = some [i]) ∧
    ∀ c e, E.w.heap[(E.ρ i).1]? = some (.cells c e (0, 0)) → ∃ c', E'.w.heap[(E.ρ i).1]? = some (.cells c' e (0, 0)) ∧ c'.size = c.size
  sub : ∀ i j, i < E.n → isTr E'.g i j → isTr E.g i j ∧ E'.w.cell? ⟨(E.ρ i).1, (E.ρ i).2 + j, none⟩ = E.w.cell? ⟨(E.ρ i).1, (E.ρ i).2 + j, none⟩
/-- The blocks behind a path are as they were. -/
def Kept (E E' : Env) (q : List Nat) : Prop := ∀ b r, E.o b = some (q ++ r) → E'.o b = some (q ++ r) ∧ E'.w.heap[b]? = E.w.heap[b]?
def KeptM (E E' : Env) (m : Md) : Prop := ∀ q, m = .at q → Kept E E' q
def KeptT (E E' : Env) (m : Md) : Prop := ∀ k j, m = .top k → k ≤ j → Kept E E' [j]

theorem Kept.child {E E' : Env} {q : List Nat} (h : Kept E E' q) (j : Nat) : Kept E E' (q ++ [j]) := fun b r hb => by
  have := h b ([j] ++ r) (by rw [← List.append_assoc]; exact hb)
  rw [← List.append_assoc] at this
  exact this
theorem KeptM.child {E E' : Env} {m : Md} (h : KeptM E E' m) (j : Nat) : KeptM E E' (m.child j) := by
  intro q hq
  cases m <;> simp [Md.child] at hq
  subst hq
  exact (h _ rfl).child j
theorem cell_heap {w w' : World} {b off : Nat} (h : w'.heap[b]? = w.heap[b]?) : w'.cell? ⟨b, off, none⟩ = w.cell? ⟨b, off, none⟩ := by simp [World.cell?, h]

theorem Mono.bare {E E' : Env} (h : Mono E E') : Mono E.bare E'.bare := ⟨h.sz, h.free, Nat.le_refl _, fun _ h _ => absurd h (Nat.not_lt_zero _), fun _ _ h _ => absurd h (Nat.not_lt_zero _)⟩
mutual
theorem Rv.mono : ∀ {E E' : Env} (hm : Mono E E') {m : Md} {v : V} {x : Value}, KeptM E E' m → KeptT E E' m → Rv E m v x → Rv E' m v x
  | E, E', hm, m, .sc v, x, _, _, h => h
  | E, E', hm, m, .ro n cs, x, hk, ht, h => by
    obtain ⟨A, cap, rfl, hc, hr⟩ := h
    refine ⟨A, cap, rfl, hc, fun hne => ?_⟩
    obtain ⟨b, off, hA, hok, hb, hrow⟩ := hr hne
    obtain ⟨h1, h2⟩ := hm.free b hb hok
    exact ⟨b, off, hA, h1, Nat.lt_of_lt_of_le hb hm.sz, Rrow.mono hm.bare (m := .none) (fun q hq => by cases hq) h2 hrow⟩
  | E, E', hm, m, .tr sz n cs, x, hk, ht, h => by
    obtain ⟨A, cap, rfl, hc, hl, hr⟩ := h
    refine ⟨A, cap, rfl, hc, hl, ?_⟩
    rcases hr with hr | ⟨b, off, q, c, e, hA, hq, ho, hh, hs, hrow⟩
    · exact .inl hr
    · have hK : Kept E E' q := by
        cases m with
        | none => simp [Md.leaf] at hq
        | top k => simp [Md.leaf] at hq; subst hq; exact ht k k rfl (Nat.le_refl _)
        | «at» q' => simp [Md.leaf] at hq; subst hq; exact hk _ rfl
      obtain ⟨h1, h2⟩ := hK b [] (by simpa using ho)
      exact .inr ⟨b, off, q, c, e, hA, hq, by simpa using h1, h2.trans hh, hs, Rrow.mono hm.bare (m := .at q) (fun q' hq' => by cases hq'; exact hK) h2 hrow⟩
  | E, E', hm, m, .own i sz off n lo hi, x, hk, ht, h => by
    obtain ⟨hi', A, cap, hx, h⟩ := h
    refine ⟨Nat.lt_of_lt_of_le hi' hm.n, A, cap, hx, fun hl => ?_⟩
    obtain ⟨h1, h2, h3, h4⟩ := hm.ref i hi' hl
    obtain ⟨hc, hlo, hhi, hr⟩ := h h1
    refine ⟨hc, hlo, hhi, ?_⟩
    rcases hr with hr | ⟨c, e, hA, ho, hh, hs⟩
    · exact .inl hr
    · obtain ⟨c', hc', hsz⟩ := h4 c e hh
      exact .inr ⟨c', e, by rw [h2]; exact hA, by rw [h2]; exact h3 ho, by rw [h2]; exact hc', by rw [h2, hsz]; exact hs⟩
  | E, E', hm, m, .sub i j, x, hk, ht, h => by
    obtain ⟨hi', hsl, h⟩ := h
    refine ⟨Nat.lt_of_lt_of_le hi' hm.n, hsl, fun hl => ?_⟩
    obtain ⟨h1, h2⟩ := hm.sub i j hi' hl
    have hs : (E'.g i).isSome = true := by obtain ⟨_, _, _, _, he, _⟩ := hl; rw [he]; rfl
    obtain ⟨_, h3, _⟩ := hm.ref i hi' hs
    rw [h3, h2]
    exact h h1
  | E, E', hm, m, .ptr i off, x, hk, ht, h => by
    obtain ⟨hi', ad, hx, h⟩ := h
    refine ⟨Nat.lt_of_lt_of_le hi' hm.n, ad, hx, fun hl => ?_⟩
    obtain ⟨h1, h2, _⟩ := hm.ref i hi' hl
    rw [h2]
    exact h h1
  | E, E', hm, m, .rp cs, x, hk, ht, h => by
    obtain ⟨b, off, rfl, hok, hb, hrow⟩ := h
    obtain ⟨h1, h2⟩ := hm.free b hb hok
    exact ⟨b, off, rfl, h1, Nat.lt_of_lt_of_le hb hm.sz, Rrow.mono hm.bare (m := .none) (fun q hq => by cases hq) h2 hrow⟩
  | E, E', hm, m, .bp cs, x, hk, ht, h => by
    obtain ⟨b, off, q, c, e, rfl, hq, ho, hh, hne, hrow⟩ := h
    have hK : Kept E E' q := by
      cases m with
      | none => simp [Md.leaf] at hq
      | top k => simp [Md.leaf] at hq; subst hq; exact ht k k rfl (Nat.le_refl _)
      | «at» q' => simp [Md.leaf] at hq; subst hq; exact hk _ rfl
    obtain ⟨h1, h2⟩ := hK b [] (by simpa using ho)
    exact ⟨b, off, q, c, e, rfl, hq, by simpa using h1, h2.trans hh, hne, Rrow.mono hm.bare (m := .at q) (fun q' hq' => by cases hq'; exact hK) h2 hrow⟩
  | E, E', hm, m, .sp i j off, x, hk, ht, h => by
    obtain ⟨hi', ad, hx, h⟩ := h
    refine ⟨Nat.lt_of_lt_of_le hi' hm.n, ad, hx, fun hl => ?_⟩
    obtain ⟨h1, h2⟩ := hm.sub i j hi' hl
    have hs : (E'.g i).isSome = true := by obtain ⟨_, _, _, _, he, _⟩ := hl; rw [he]; rfl
    obtain ⟨_, h3, _⟩ := hm.ref i hi' hs
    obtain ⟨A, n, cap, h4, h5⟩ := h h1
    exact ⟨A, n, cap, by rw [h3, h2]; exact h4, h5⟩
  | E, E', hm, m, .agg cs, x, hk, ht, h => by
    obtain ⟨xs, rfl, hr⟩ := h
    exact ⟨xs, rfl, Rvs.mono hm (fun q hq => by cases m <;> simp [Md.part] at hq) (fun k j hq hj => by cases m <;> simp [Md.part] at hq; subst hq; exact ht _ j rfl hj) hr⟩
  | E, E', hm, m, .tup cs, x, hk, ht, h => by
    obtain ⟨xs, rfl, hr⟩ := h
    exact ⟨xs, rfl, Rvs.mono hm (fun q hq => by cases m <;> simp [Md.part] at hq) (fun k j hq hj => by cases m <;> simp [Md.part] at hq; subst hq; exact ht _ j rfl hj) hr⟩
  | E, E', hm, m, .fn f cs, x, hk, ht, h => by
    obtain ⟨xs, rfl, hr⟩ := h
    exact ⟨xs, rfl, Rvs.mono hm (fun q hq => by cases m <;> simp [Md.part] at hq) (fun k j hq hj => by cases m <;> simp [Md.part] at hq; subst hq; exact ht _ j rfl hj) hr⟩
  | E, E', hm, m, .any, x, _, _, _ => trivial
theorem Rrow.mono : ∀ {E E' : Env} (hm : Mono E E') {m : Md} {b off j : Nat} {cs : List V}, KeptM E E' m → E'.w.heap[b]? = E.w.heap[b]? → Rrow E m b off j cs → Rrow E' m b off j cs
  | E, E', hm, m, b, off, j, [], _, _, _ => trivial
  | E, E', hm, m, b, off, j, c :: cs, hk, hb, h => by
    obtain ⟨⟨v, hv, hr⟩, hs⟩ := h
    refine ⟨⟨v, (cell_heap hb).trans hv, Rv.mono hm (hk.child j) (fun k j' hq hj => by cases m <;> simp [Md.child] at hq) hr⟩, Rrow.mono hm hk hb hs⟩
theorem Rvs.mono : ∀ {E E' : Env} (hm : Mono E E') {m : Md} {cs : List V} {xs : List Value}, KeptM E E' m → KeptT E E' m → Rvs E m cs xs → Rvs E' m cs xs
  | E, E', hm, m, [], [], _, _, _ => trivial
  | E, E', hm, m, c :: cs, x :: xs, hk, ht, h => by
    obtain ⟨h1, h2⟩ := h
    refine ⟨Rv.mono hm hk ht h1, Rvs.mono hm (fun q hq => by cases m <;> simp [Md.next] at hq) (fun k j hq hj => ?_) h2⟩
    cases m <;> simp [Md.next] at hq
    subst hq
    exact ht _ j rfl (by omega)
  | E, E', hm, m, [], _ :: _, _, _, h => h.elim
  | E, E', hm, m, _ :: _, [], _, _, h => h.elim
end
end Go.Proofs.YtiplgkbgkmomlaaD
