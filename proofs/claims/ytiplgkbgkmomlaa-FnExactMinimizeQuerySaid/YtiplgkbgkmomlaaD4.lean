/- States against memory; how facts on rows are read. -/
import Derived.Test.YtiplgkbgkmomlaaD3
import Derived.Laws.World
set_option linter.unusedVariables false
set_option linter.unusedSimpArgs false
namespace Go.Proofs.YtiplgkbgkmomlaaD
open Go

structure Ctx where
  w0 : World
  lent : Nat → Prop
  o0 : Lab
  dull : ∀ b p, ¬ lent b → o0 b = some p → p = []
  np : Nat
  pp : Nat → Nat × Nat
structure Fr (C : Ctx) (w : World) : Prop where
  os : w.os = C.w0.os
  tape : w.tape = C.w0.tape
  output : w.output = C.w0.output
  size : C.w0.heap.size ≤ w.heap.size
  block : ∀ k, k < C.w0.heap.size → ¬ C.lent k → w.heap[k]? = C.w0.heap[k]?
  shape : ∀ (b : Nat) (c : Array Value) (e : TypeId), C.w0.heap[b]? = some (.cells c e (0, 0)) → ∃ c' : Array Value, w.heap[b]? = some (.cells c' e (0, 0)) ∧ c'.size = c.size
/-- Where the objects that were lent lie. -/
def Pin (C : Ctx) (E : Env) : Prop := C.np ≤ E.n ∧ ∀ k, k < C.np → (E.g k).isSome = true → E.ρ k = C.pp k ∧ (C.o0 (C.pp k).1 = some [k] → E.o (C.pp k).1 = some [k])
theorem Pin.mono {C : Ctx} {E E' : Env} (h : Pin C E) (hm : Mono E E') : Pin C E' := by
  refine ⟨Nat.le_trans h.1 hm.n, fun k hk hs => ?_⟩
  obtain ⟨h1, h2, h3, _⟩ := hm.ref k (Nat.lt_of_lt_of_le hk h.1) hs
  obtain ⟨g1, g2⟩ := h.2 k hk h1
  rw [g1] at h2 h3
  exact ⟨h2, fun ho => h3 (g2 ho)⟩

def ObR (E : Env) (i : Nat) : Obj → Prop
  | ⟨true, cs⟩ => ∃ c e, E.w.heap[(E.ρ i).1]? = some (.cells c e (0, 0)) ∧ (E.ρ i).2 = 0 ∧ E.o (E.ρ i).1 = some [i] ∧ Rrow E .none (E.ρ i).1 0 0 cs
  | ⟨false, cs⟩ => cs = [] ∨ ∃ c e, E.w.heap[(E.ρ i).1]? = some (.cells c e (0, 0)) ∧ E.o (E.ρ i).1 = some [i] ∧ Rrow E.bare (.at [i]) (E.ρ i).1 (E.ρ i).2 0 cs

structure Rel (C : Ctx) (E : Env) (s : St) (a : Act) : Prop where
  size : a.tmps.size = s.N
  nd : a.defers = []
  slot : ∀ k, Rv E .none (lk s.t k) (a.tmps.getD k undef)
  g : E.g = s.ob
  n : E.n = s.g.length
  ob : ∀ i ob, s.ob i = some ob → ObR E i ob
  okb : E.okb = fun b => E.o b = none
  lab : ∀ b p, E.o b = some p → b < E.w.heap.size ∧ (p = [] ∨ C.w0.heap.size ≤ b ∨ C.lent b)
  fr : Fr C E.w
  old : ∀ b, b < C.w0.heap.size → ¬ C.lent b → E.o b = C.o0 b
  pin : Pin C E

theorem addr_add (b off n : Nat) : (⟨b, off, none⟩ : Addr).add n = ⟨b, off + n, none⟩ := by
  unfold Addr.add
  split
  · rename_i h
    simp [h]
  · rfl

theorem Rrow_get {E : Env} : ∀ {m : Md} {b off j : Nat} {cs : List V}, Rrow E m b off j cs → ∀ k c, cs[k]? = some c → ∃ v, E.w.cell? ⟨b, off + k, none⟩ = some v ∧ Rv E (m.child (j + k)) c v
  | m, b, off, j, c :: cs, ⟨h, hs⟩, 0, c', hk => by
    simp at hk
    subst hk
    exact h
  | m, b, off, j, c :: cs, ⟨h, hs⟩, k + 1, c', hk => by
    obtain ⟨v, hv, hr⟩ := Rrow_get hs k c' (by simpa using hk)
    exact ⟨v, by rw [← hv]; congr 2; omega, by rw [show j + (k + 1) = j + 1 + k from by omega]; exact hr⟩
  | m, b, off, j, [], _, k, c', hk => by simp at hk
theorem Rrow_mk {E : Env} : ∀ {m : Md} {b off j : Nat} {cs : List V}, (∀ k c, cs[k]? = some c → ∃ v, E.w.cell? ⟨b, off + k, none⟩ = some v ∧ Rv E (m.child (j + k)) c v) → Rrow E m b off j cs
  | m, b, off, j, [], _ => trivial
  | m, b, off, j, c :: cs, h => by
    refine ⟨h 0 c rfl, Rrow_mk fun k c' hk => ?_⟩
    obtain ⟨v, hv, hr⟩ := h (k + 1) c' (by simpa using hk)
    exact ⟨v, by rw [← hv]; congr 2; omega, by rw [show j + 1 + k = j + (k + 1) from by omega]; exact hr⟩
theorem Rrow_none_shift {E : Env} {b off j j' : Nat} {cs : List V} (h : Rrow E .none b off j cs) : Rrow E .none b off j' cs :=
  Rrow_mk fun k c hk => Rrow_get h k c hk
theorem Rrow_drop {E : Env} {b off j d : Nat} {cs : List V} (h : Rrow E .none b off j cs) : Rrow E .none b (off + d) 0 (cs.drop d) :=
  Rrow_mk fun k c hk => by
    rw [List.getElem?_drop] at hk
    obtain ⟨v, hv, hr⟩ := Rrow_get h (d + k) c hk
    exact ⟨v, by rw [← hv]; congr 2; omega, hr⟩
theorem Rrow_take {E : Env} {m : Md} {b off j d : Nat} {cs : List V} (h : Rrow E m b off j cs) : Rrow E m b off j (cs.take d) :=
  Rrow_mk fun k c hk => by
    rw [List.getElem?_take] at hk
    split at hk
    · exact Rrow_get h k c hk
    · cases hk
theorem Rrow_append {E : Env} {m : Md} {b off j : Nat} {cs ds : List V} (h : Rrow E m b off j cs) (h' : Rrow E m b (off + cs.length) (j + cs.length) ds) : Rrow E m b off j (cs ++ ds) :=
  Rrow_mk fun k c hk => by
    rcases Nat.lt_or_ge k cs.length with hlt | hge
    · rw [List.getElem?_append_left hlt] at hk
      exact Rrow_get h k c hk
    · rw [List.getElem?_append_right hge] at hk
      obtain ⟨v, hv, hr⟩ := Rrow_get h' _ c hk
      exact ⟨v, by rw [← hv]; congr 2; omega, by rw [show j + k = j + cs.length + (k - cs.length) from by omega]; exact hr⟩

theorem takeN_some {cs : List V} {off n : Nat} {r : List V} (h : takeN cs off n = some r) : off + n ≤ cs.length ∧ r = (cs.drop off).take n ∧ r.length = n := by
  unfold takeN at h
  cases hb : Nat.ble (off + n) cs.length with
  | false => rw [hb] at h; simp at h
  | true =>
    rw [hb] at h
    simp at h
    have := Nat.ble_eq ▸ hb
    subst h
    have hle : off + n ≤ cs.length := Nat.le_of_ble_eq_true hb
    exact ⟨hle, rfl, by simp; omega⟩

/-- A row's cells as the values that lie there. -/
theorem Rrow_vals {E : Env} : ∀ {b off j : Nat} {cs : List V}, Rrow E .none b off j cs → ∃ xs : List Value, xs.length = cs.length ∧ (∀ k v, xs[k]? = some v → E.w.cell? ⟨b, off + k, none⟩ = some v) ∧ Rvs E .none cs xs
  | b, off, j, [], _ => ⟨[], rfl, fun k v h => by simp at h, trivial⟩
  | b, off, j, c :: cs, ⟨⟨v, hv, hr⟩, hs⟩ => by
    obtain ⟨xs, hl, hc, hx⟩ := Rrow_vals hs
    refine ⟨v :: xs, by simp [hl], fun k u hk => ?_, hr, hx⟩
    cases k with
    | zero => simp at hk; subst hk; exact hv
    | succ k => rw [← hc k u (by simpa using hk)]; congr 2; omega
theorem Rvs_len {E : Env} : ∀ {m : Md} {cs : List V} {xs : List Value}, Rvs E m cs xs → cs.length = xs.length
  | m, [], [], _ => rfl
  | m, c :: cs, x :: xs, h => by simp [Rvs_len h.2]
  | m, [], _ :: _, h => h.elim
  | m, _ :: _, [], h => h.elim
theorem Rvs_get {E : Env} : ∀ {cs : List V} {xs : List Value}, Rvs E .none cs xs → ∀ (k : Nat) (c : V), cs[k]? = some c → ∃ x, xs[k]? = some x ∧ Rv E .none c x
  | c :: cs, x :: xs, h, 0, c', hk => by simp at hk; subst hk; exact ⟨x, rfl, h.1⟩
  | c :: cs, x :: xs, h, k + 1, c', hk => by
    obtain ⟨x', hx, hr⟩ := Rvs_get (cs := cs) (xs := xs) h.2 k c' (by simpa using hk)
    exact ⟨x', by simpa using hx, hr⟩
  | [], [], h, k, c', hk => by simp at hk
  | [], _ :: _, h, k, c', hk => by simp at hk
  | _ :: _, [], h, k, c', hk => h.elim

/-- From a place in a row to a slot: what is no slice of the row's own. -/
theorem Rv_unplace {E : Env} {m : Md} {v : V} {x : Value} (h : Rv E m v x) (hv : notTr v = true) (hm : ∀ k, m ≠ .top k) : Rv E .none v x := by
  have hp : m.part = .none := by cases m <;> simp_all [Md.part]
  cases v <;> simp_all [Rv, notTr, Md.part]

theorem mono_refl (E : Env) : Mono E E := ⟨Nat.le_refl _, fun _ _ h => ⟨h, rfl⟩, Nat.le_refl _, fun _ _ h => ⟨h, rfl, id, fun c e h => ⟨c, h, rfl⟩⟩, fun _ _ _ h => ⟨h, rfl⟩⟩
theorem kept_refl (E : Env) (q : List Nat) : Kept E E q := fun _ _ h => ⟨h, rfl⟩
theorem Mono.ofBare (E : Env) : Mono E.bare E := ⟨Nat.le_refl _, fun _ _ h => ⟨h, rfl⟩, Nat.zero_le _, fun _ h _ => absurd h (Nat.not_lt_zero _), fun _ _ h _ => absurd h (Nat.not_lt_zero _)⟩
theorem noneKM (E E' : Env) : KeptM E E' .none := fun q hq => by cases hq
theorem noneKT (E E' : Env) : KeptT E E' .none := fun k j hq _ => by cases hq
theorem Rv.slot {E E' : Env} (hm : Mono E E') {v : V} {x : Value} (h : Rv E .none v x) : Rv E' .none v x := Rv.mono hm (noneKM _ _) (noneKT _ _) h
theorem Rv.unbare {E : Env} {m : Md} {v : V} {x : Value} (h : Rv E.bare m v x) : Rv E m v x :=
  Rv.mono (Mono.ofBare E) (fun q _ b r hb => ⟨hb, rfl⟩) (fun k j _ _ b r hb => ⟨hb, rfl⟩) h

theorem Rrow.unbare {E : Env} {m : Md} {b off j : Nat} {cs : List V} (h : Rrow E.bare m b off j cs) : Rrow E m b off j cs :=
  Rrow.mono (Mono.ofBare E) (fun q _ b r hb => ⟨hb, rfl⟩) rfl h
theorem flat_bare {E : Env} {m m' : Md} {v : V} {x : Value} (hf : flat v = true) (h : Rv E m v x) : Rv E.bare m' v x := by
  cases v <;> simp only [flat, reduceCtorEq] at hf <;> exact h
/-- Blocks behind one path come to lie behind another. -/
def Moved (E E' : Env) (q q' : List Nat) : Prop := ∀ b r, E.o b = some (q ++ r) → E'.o b = some (q' ++ r) ∧ E'.w.heap[b]? = E.w.heap[b]?
theorem Moved.child {E E' : Env} {q q' : List Nat} (h : Moved E E' q q') (j : Nat) : Moved E E' (q ++ [j]) (q' ++ [j]) := fun b r hb => by
  have := h b ([j] ++ r) (by rw [← List.append_assoc]; exact hb)
  rw [← List.append_assoc] at this
  exact this
mutual
theorem Rv.move : ∀ {E E' : Env} (hm : Mono E E') {q q' : List Nat} {v : V} {x : Value}, Moved E E' q q' → Rv E (.at q) v x → Rv E' (.at q') v x
  | E, E', hm, q, q', .tr sz n cs, x, hk, h => by
    obtain ⟨A, cap, rfl, hc, hl, hr⟩ := h
    refine ⟨A, cap, rfl, hc, hl, ?_⟩
    rcases hr with hr | ⟨b, off, p, c, e, hA, hq, ho, hh, hs, hrow⟩
    · exact .inl hr
    · simp only [Md.leaf, Option.some.injEq] at hq
      subst hq
      obtain ⟨h1, h2⟩ := hk b [] (by simpa using ho)
      exact .inr ⟨b, off, q', c, e, hA, rfl, by simpa using h1, h2.trans hh, hs, Rrow.move hm.bare (E := E.bare) (E' := E'.bare) hk h2 hrow⟩
  | E, E', hm, q, q', .sc v, x, hk, h => h
  | E, E', hm, q, q', .ro n cs, x, hk, h => Rv.mono (v := .ro n cs) (x := x) hm (m := .none) (noneKM _ _) (noneKT _ _) h
  | E, E', hm, q, q', .own i sz off n lo hi, x, hk, h => Rv.mono (v := .own i sz off n lo hi) (x := x) hm (m := .none) (noneKM _ _) (noneKT _ _) h
  | E, E', hm, q, q', .sub i j, x, hk, h => Rv.mono (v := .sub i j) (x := x) hm (m := .none) (noneKM _ _) (noneKT _ _) h
  | E, E', hm, q, q', .ptr i off, x, hk, h => Rv.mono (v := .ptr i off) (x := x) hm (m := .none) (noneKM _ _) (noneKT _ _) h
  | E, E', hm, q, q', .bp cs, x, hk, h => by
    obtain ⟨b, off, p, c, e, rfl, hq, ho, hh, hne, hrow⟩ := h
    simp only [Md.leaf, Option.some.injEq] at hq
    subst hq
    obtain ⟨h1, h2⟩ := hk b [] (by simpa using ho)
    exact ⟨b, off, q', c, e, rfl, rfl, by simpa using h1, h2.trans hh, hne, Rrow.move hm.bare (E := E.bare) (E' := E'.bare) hk h2 hrow⟩
  | E, E', hm, q, q', .sp i j off, x, hk, h => Rv.mono (v := .sp i j off) (x := x) hm (m := .none) (noneKM _ _) (noneKT _ _) h
  | E, E', hm, q, q', .rp cs, x, hk, h => Rv.mono (v := .rp cs) (x := x) hm (m := .none) (noneKM _ _) (noneKT _ _) h
  | E, E', hm, q, q', .agg cs, x, hk, h => Rv.mono (v := .agg cs) hm (m := .none) (noneKM _ _) (noneKT _ _) h
  | E, E', hm, q, q', .tup cs, x, hk, h => Rv.mono (v := .tup cs) hm (m := .none) (noneKM _ _) (noneKT _ _) h
  | E, E', hm, q, q', .fn f cs, x, hk, h => Rv.mono (v := .fn f cs) hm (m := .none) (noneKM _ _) (noneKT _ _) h
  | E, E', hm, q, q', .any, x, hk, h => trivial
theorem Rrow.move : ∀ {E E' : Env} (hm : Mono E E') {q q' : List Nat} {b off j : Nat} {cs : List V}, Moved E E' q q' → E'.w.heap[b]? = E.w.heap[b]? → Rrow E (.at q) b off j cs → Rrow E' (.at q') b off j cs
  | E, E', hm, q, q', b, off, j, [], _, _, _ => trivial
  | E, E', hm, q, q', b, off, j, c :: cs, hk, hb, h => by
    obtain ⟨⟨v, hv, hr⟩, hs⟩ := h
    exact ⟨⟨v, (cell_heap hb).trans hv, Rv.move hm (hk.child j) hr⟩, Rrow.move hm hk hb hs⟩
end
theorem views_get : ∀ {i j : Nat} {cs : List V} {k : Nat} {v : V}, (views i j cs)[k]? = some v → ∃ c, cs[k]? = some c ∧ v = view i (j + k) c
  | i, j, c :: cs, 0, v, h => by simp [views] at h; exact ⟨c, rfl, h.symm⟩
  | i, j, c :: cs, k + 1, v, h => by
    obtain ⟨c', h1, h2⟩ := views_get (cs := cs) (i := i) (j := j + 1) (k := k) (by simpa [views] using h)
    exact ⟨c', by simpa using h1, by rw [h2]; congr 1; omega⟩
  | i, j, [], k, v, h => by simp [views] at h
end Go.Proofs.YtiplgkbgkmomlaaD
