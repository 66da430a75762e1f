/- Calls: what goes in, what comes back. -/
import Derived.Test.YtifmkifkjmfceaaD13
set_option linter.unusedVariables false
set_option linter.unusedSimpArgs false
namespace Go.Proofs.YtifmkifkjmfceaaD
open Go Go.RowKit

def baseE (w : World) (o : Lab) : Env := ⟨w, o, fun _ => (0, 0), fun _ => none, 0, fun b => o b = none⟩
def Dull (w : World) (o : Lab) : Prop := ∀ b p, o b = some p → p = [] ∧ b < w.heap.size

/-- The contract of a function: called on values of which it only reads, it returns a value of its own and leaves what was there. -/
def Enters (P : Program) (f : FuncId) : Prop := ∃ fn c, P.funcs[f]? = some fn ∧ (fn.name == "runtime.NumGoroutine") = false ∧ fn.body = some c
/-- What is lent to a callee: blocks with a path that is not empty. -/
def Lent (o0 : Lab) (b : Nat) : Prop := ∃ k r, o0 b = some (k :: r)
structure Grown (w w' : World) (L : Nat → Prop) : Prop where
  os : w'.os = w.os
  tape : w'.tape = w.tape
  output : w'.output = w.output
  size : w.heap.size ≤ w'.heap.size
  block : ∀ k, k < w.heap.size → ¬ L k → w'.heap[k]? = w.heap[k]?
  shape : ∀ (b : Nat) (c : Array Value) (e : TypeId), w.heap[b]? = some (.cells c e (0, 0)) → ∃ c' : Array Value, w'.heap[b]? = some (.cells c' e (0, 0)) ∧ c'.size = c.size
/-- With outs = []: as above. Else what the arguments hold may be written: outs is what they are behind the call. -/
def SpecR (P : Program) : CallRel := fun f as r outs => Enters P f ∧ match outs with
  | [] => ∀ (w : World) (o0 : Lab) (xs : List Value), Dull w o0 → Rvs (baseE w o0) .none as xs → Calls P f xs.toArray w fun e w' =>
    match e with
    | .returned x => Below w.heap.size w w' ∧ ∃ o' : Lab, (∀ b, b < w.heap.size → o' b = o0 b) ∧ (∀ b p, o' b = some p → b < w'.heap.size) ∧ ∃ k0, Rv (baseE w' o') (.top k0) r x
    | _ => False
  | o :: os => ∀ (w : World) (o0 : Lab) (xs : List Value), (∀ b p, o0 b = some p → b < w.heap.size) → Rvs (baseE w o0) (.top 0) as xs → Calls P f xs.toArray w fun e w' =>
    match e with
    | .returned x => Grown w w' (Lent o0) ∧ ∃ o' : Lab, (∀ b, b < w.heap.size → ¬ Lent o0 b → o' b = o0 b) ∧ (∀ b p, o' b = some p → b < w'.heap.size) ∧ Rvs (baseE w' o') (.top 0) (o :: os) xs ∧ ∃ k0, nls as ≤ k0 ∧ Rv (baseE w' o') (.top k0) r x
    | _ => False
abbrev Spec (P : Program) (f : Nat) (as : List V) (r : V) : Prop := SpecR P f as r []

mutual
theorem Rv.freeze : ∀ {G F : Env} (hn : G.n = 0) (hw : F.w = G.w) {full : Prop} (h1 : full → ∀ b, G.okb b → F.okb b) (h2 : ∀ b q, q ≠ [] → G.o b = some q → F.okb b) {m : Md} {v : V} {x : Value}, (∀ q, m = .at q → q ≠ []) → full ∨ closed v → Rv G m v x → Rv F .none (roV v) x
  | G, F, hn, hw, full, h1, h2, m, .sc v, x, hm, hc, h => h
  | G, F, hn, hw, full, h1, h2, m, .ro n cs, x, hm, hc, h => by
    obtain ⟨A, cap, rfl, hcap, hr⟩ := h
    refine ⟨A, cap, rfl, hcap, fun hne => ?_⟩
    have hne' : cs ≠ [] := by intro h; subst h; exact hne rfl
    obtain ⟨b, off, hA, hok, hb, hrow⟩ := hr hne'
    have hf : full := hc.resolve_right hne'
    exact ⟨b, off, hA, h1 hf b hok, by rw [hw]; exact hb, Rrow.freeze (G := G.bare) (F := F.bare) rfl hw h1 h2 (m := .none) (fun q hq => by cases hq) (.inl hf) hrow⟩
  | G, F, hn, hw, full, h1, h2, m, .tr sz n cs, x, hm, hc, h => by
    obtain ⟨A, cap, rfl, hcap, hl, hr⟩ := h
    refine ⟨A, cap, rfl, hcap, fun hne => ?_⟩
    have hne' : cs ≠ [] := by intro h; subst h; exact hne rfl
    rcases hr with hr | ⟨b, off, q, c, e, hA, hq, ho, hh, hs, hrow⟩
    · have hn0 : n = 0 := by omega
      rw [hn0, Nat.zero_mul] at hl
      exact absurd (List.eq_nil_of_length_eq_zero hl) hne'
    · have hq0 : q ≠ [] := by
        cases m with
        | none => simp [Md.leaf] at hq
        | top k => simp [Md.leaf] at hq; rw [← hq]; simp
        | «at» q' => simp [Md.leaf] at hq; rw [← hq]; exact hm _ rfl
      exact ⟨b, off, hA, h2 b q hq0 ho, by rw [hw]; exact heap_lt hh, Rrow.freeze (G := G.bare) (F := F.bare) rfl hw h1 h2 (m := .at q) (fun q' hq' => by cases hq'; exact hq0) hc hrow⟩
  | G, F, hn, hw, full, h1, h2, m, .own i sz off n lo hi, x, hm, hc, h => absurd h.1 (by rw [hn]; exact Nat.not_lt_zero _)
  | G, F, hn, hw, full, h1, h2, m, .sub i j, x, hm, hc, h => absurd h.1 (by rw [hn]; exact Nat.not_lt_zero _)
  | G, F, hn, hw, full, h1, h2, m, .ptr i off, x, hm, hc, h => absurd h.1 (by rw [hn]; exact Nat.not_lt_zero _)
  | G, F, hn, hw, full, h1, h2, m, .rp cs, x, hm, hc, h => by
    obtain ⟨b, off, rfl, hok, hb, hrow⟩ := h
    have hf : full := hc.resolve_right id
    exact ⟨b, off, rfl, h1 hf b hok, by rw [hw]; exact hb, Rrow.freeze (G := G.bare) (F := F.bare) rfl hw h1 h2 (m := .none) (fun q hq => by cases hq) (.inl hf) hrow⟩
  | G, F, hn, hw, full, h1, h2, m, .bp cs, x, hm, hc, h => by
    obtain ⟨b, off, q, c, e, rfl, hq, ho, hh, hne, hrow⟩ := h
    have hq0 : q ≠ [] := by
      cases m with
      | none => simp [Md.leaf] at hq
      | top k => simp [Md.leaf] at hq; rw [← hq]; simp
      | «at» q' => simp [Md.leaf] at hq; rw [← hq]; exact hm _ rfl
    exact ⟨b, off, rfl, h2 b q hq0 ho, by rw [hw]; exact heap_lt hh, Rrow.freeze (G := G.bare) (F := F.bare) rfl hw h1 h2 (m := .at q) (fun q' hq' => by cases hq'; exact hq0) hc hrow⟩
  | G, F, hn, hw, full, h1, h2, m, .sp i j off, x, hm, hc, h => absurd h.1 (by rw [hn]; exact Nat.not_lt_zero _)
  | G, F, hn, hw, full, h1, h2, m, .agg cs, x, hm, hc, h => by
    obtain ⟨xs, rfl, hr⟩ := h
    exact ⟨xs, rfl, Rvs.freeze hn hw h1 h2 (m := m.part) (fun q hq => by cases m <;> simp [Md.part] at hq) hc hr⟩
  | G, F, hn, hw, full, h1, h2, m, .tup cs, x, hm, hc, h => by
    obtain ⟨xs, rfl, hr⟩ := h
    exact ⟨xs, rfl, Rvs.freeze hn hw h1 h2 (m := m.part) (fun q hq => by cases m <;> simp [Md.part] at hq) hc hr⟩
  | G, F, hn, hw, full, h1, h2, m, .fn f cs, x, hm, hc, h => by
    obtain ⟨xs, rfl, hr⟩ := h
    exact ⟨xs, rfl, Rvs.freeze hn hw h1 h2 (m := m.part) (fun q hq => by cases m <;> simp [Md.part] at hq) hc hr⟩
  | G, F, hn, hw, full, h1, h2, m, .any, x, hm, hc, h => trivial
theorem Rrow.freeze : ∀ {G F : Env} (hn : G.n = 0) (hw : F.w = G.w) {full : Prop} (h1 : full → ∀ b, G.okb b → F.okb b) (h2 : ∀ b q, q ≠ [] → G.o b = some q → F.okb b) {m : Md} {b off j j' : Nat} {cs : List V}, (∀ q, m = .at q → q ≠ []) → full ∨ closeds cs → Rrow G m b off j cs → Rrow F .none b off j' (roVs cs)
  | G, F, hn, hw, full, h1, h2, m, b, off, j, j', [], hm, hc, h => trivial
  | G, F, hn, hw, full, h1, h2, m, b, off, j, j', c :: cs, hm, hc, h => by
    obtain ⟨⟨v, hv, hr⟩, hs⟩ := h
    refine ⟨⟨v, by rw [hw]; exact hv, ?_⟩, Rrow.freeze hn hw h1 h2 hm (hc.imp id And.right) hs⟩
    exact Rv.freeze hn hw h1 h2 (m := m.child j) (fun q hq => by cases m <;> simp [Md.child] at hq; rw [← hq]; simp) (hc.imp id And.left) hr
theorem Rvs.freeze : ∀ {G F : Env} (hn : G.n = 0) (hw : F.w = G.w) {full : Prop} (h1 : full → ∀ b, G.okb b → F.okb b) (h2 : ∀ b q, q ≠ [] → G.o b = some q → F.okb b) {m : Md} {cs : List V} {xs : List Value}, (∀ q, m = .at q → q ≠ []) → full ∨ closeds cs → Rvs G m cs xs → Rvs F .none (roVs cs) xs
  | G, F, hn, hw, full, h1, h2, m, [], [], hm, hc, h => trivial
  | G, F, hn, hw, full, h1, h2, m, c :: cs, x :: xs, hm, hc, h =>
    ⟨Rv.freeze hn hw h1 h2 hm (hc.imp id And.left) h.1, Rvs.freeze hn hw h1 h2 (m := m.next (nl c)) (fun q hq => by cases m <;> simp [Md.next] at hq) (hc.imp id And.right) h.2⟩
  | G, F, hn, hw, full, h1, h2, m, [], _ :: _, hm, hc, h => h.elim
  | G, F, hn, hw, full, h1, h2, m, _ :: _, [], hm, hc, h => h.elim
end

def shift (k0 N : Nat) : List Nat → List Nat
  | [] => []
  | h :: t => (N + (h - k0)) :: t
theorem shift_append {k0 N : Nat} {q r : List Nat} (h : q ≠ []) : shift k0 N (q ++ r) = shift k0 N q ++ r := by cases q <;> simp_all [shift]
def Md.sh (k0 N : Nat) : Md → Md
  | .none => .none
  | .top k => .top (N + (k - k0))
  | .at q => .at (shift k0 N q)
/-- Modes that come into question. -/
def Md.okk (k0 : Nat) : Md → Prop
  | .none => True
  | .top k => k0 ≤ k
  | .at q => q ≠ []
theorem Md.okk_part {k0 : Nat} {m : Md} (h : m.okk k0) : m.part.okk k0 := by cases m <;> first | exact h | trivial
theorem Md.okk_next {k0 d : Nat} {m : Md} (h : m.okk k0) : (m.next d).okk k0 := by
  cases m with
  | none => trivial
  | top k => exact Nat.le_trans h (Nat.le_add_right _ _)
  | «at» q => trivial
theorem Md.okk_child {k0 j : Nat} {m : Md} (h : m.okk k0) : (m.child j).okk k0 := by
  cases m with
  | none => trivial
  | top k => trivial
  | «at» q => simp [Md.child, Md.okk]
theorem Md.sh_part {k0 N : Nat} {m : Md} : (m.sh k0 N).part = m.part.sh k0 N := by cases m <;> rfl
theorem Md.sh_next {k0 N d : Nat} {m : Md} (h : m.okk k0) : (m.sh k0 N).next d = (m.next d).sh k0 N := by
  cases m with
  | none => rfl
  | top k =>
    simp only [Md.okk] at h
    simp only [Md.sh, Md.next]
    congr 1
    omega
  | «at» q => rfl
theorem Md.sh_child {k0 N j : Nat} {m : Md} (h : m.okk k0) : (m.sh k0 N).child j = (m.child j).sh k0 N := by
  cases m with
  | none => rfl
  | top k => rfl
  | «at» q => simp [Md.sh, Md.child, shift_append h]
theorem Md.sh_leaf {k0 N : Nat} {m : Md} {q : List Nat} (h : m.leaf = some q) : (m.sh k0 N).leaf = some (shift k0 N q) := by
  cases m <;> simp_all [Md.leaf, Md.sh]
  · rw [← h]; rfl

mutual
theorem Rv.sh : ∀ {G F : Env} (hn : G.n = 0) (hw : F.w = G.w) {k0 N : Nat} {full : Prop} (h1 : full → ∀ b, G.okb b → F.okb b) (h2 : ∀ b q, q ≠ [] → G.o b = some q → F.o b = some (shift k0 N q)) {m : Md} {v : V} {x : Value}, m.okk k0 → full ∨ closed v → Rv G m v x → Rv F.bare (m.sh k0 N) v x
  | G, F, hn, hw, k0, N, full, h1, h2, m, .sc v, x, hm, hc, h => h
  | G, F, hn, hw, k0, N, full, h1, h2, m, .ro n cs, x, hm, hc, h => by
    obtain ⟨A, cap, rfl, hcap, hr⟩ := h
    refine ⟨A, cap, rfl, hcap, fun hne => ?_⟩
    obtain ⟨b, off, hA, hok, hb, hrow⟩ := hr hne
    have hf : full := hc.resolve_right hne
    exact ⟨b, off, hA, h1 hf b hok, by show b < F.w.heap.size; rw [hw]; exact hb, Rrow.sh (G := G.bare) (F := F.bare) rfl hw h1 h2 (m := .none) trivial (.inl hf) hrow⟩
  | G, F, hn, hw, k0, N, full, h1, h2, m, .tr sz n cs, x, hm, hc, h => by
    obtain ⟨A, cap, rfl, hcap, hl, hr⟩ := h
    refine ⟨A, cap, rfl, hcap, hl, ?_⟩
    rcases hr with hr | ⟨b, off, q, c, e, hA, hq, ho, hh, hs, hrow⟩
    · exact .inl hr
    · have hq0 : q ≠ [] := by
        cases m with
        | none => simp [Md.leaf] at hq
        | top k => simp [Md.leaf] at hq; rw [← hq]; simp
        | «at» q' => simp [Md.leaf] at hq; rw [← hq]; exact hm
      exact .inr ⟨b, off, shift k0 N q, c, e, hA, Md.sh_leaf hq, h2 b q hq0 ho, by show F.w.heap[b]? = _; rw [hw]; exact hh, hs, Rrow.sh (G := G.bare) (F := F.bare) rfl hw h1 h2 (m := .at q) hq0 hc hrow⟩
  | G, F, hn, hw, k0, N, full, h1, h2, m, .own i sz off n lo hi, x, hm, hc, h => absurd h.1 (by rw [hn]; exact Nat.not_lt_zero _)
  | G, F, hn, hw, k0, N, full, h1, h2, m, .sub i j, x, hm, hc, h => absurd h.1 (by rw [hn]; exact Nat.not_lt_zero _)
  | G, F, hn, hw, k0, N, full, h1, h2, m, .ptr i off, x, hm, hc, h => absurd h.1 (by rw [hn]; exact Nat.not_lt_zero _)
  | G, F, hn, hw, k0, N, full, h1, h2, m, .rp cs, x, hm, hc, h => by
    obtain ⟨b, off, rfl, hok, hb, hrow⟩ := h
    have hf : full := hc.resolve_right id
    exact ⟨b, off, rfl, h1 hf b hok, by show b < F.w.heap.size; rw [hw]; exact hb, Rrow.sh (G := G.bare) (F := F.bare) rfl hw h1 h2 (m := .none) trivial (.inl hf) hrow⟩
  | G, F, hn, hw, k0, N, full, h1, h2, m, .bp cs, x, hm, hc, h => by
    obtain ⟨b, off, q, c, e, rfl, hq, ho, hh, hne, hrow⟩ := h
    have hq0 : q ≠ [] := by
      cases m with
      | none => simp [Md.leaf] at hq
      | top k => simp [Md.leaf] at hq; rw [← hq]; simp
      | «at» q' => simp [Md.leaf] at hq; rw [← hq]; exact hm
    exact ⟨b, off, shift k0 N q, c, e, rfl, Md.sh_leaf hq, h2 b q hq0 ho, by show F.w.heap[b]? = _; rw [hw]; exact hh, hne, Rrow.sh (G := G.bare) (F := F.bare) rfl hw h1 h2 (m := .at q) hq0 hc hrow⟩
  | G, F, hn, hw, k0, N, full, h1, h2, m, .sp i j off, x, hm, hc, h => absurd h.1 (by rw [hn]; exact Nat.not_lt_zero _)
  | G, F, hn, hw, k0, N, full, h1, h2, m, .agg cs, x, hm, hc, h => by
    obtain ⟨xs, rfl, hr⟩ := h
    exact ⟨xs, rfl, by rw [Md.sh_part]; exact Rvs.sh hn hw h1 h2 (m := m.part) (Md.okk_part hm) hc hr⟩
  | G, F, hn, hw, k0, N, full, h1, h2, m, .tup cs, x, hm, hc, h => by
    obtain ⟨xs, rfl, hr⟩ := h
    exact ⟨xs, rfl, by rw [Md.sh_part]; exact Rvs.sh hn hw h1 h2 (m := m.part) (Md.okk_part hm) hc hr⟩
  | G, F, hn, hw, k0, N, full, h1, h2, m, .fn f cs, x, hm, hc, h => by
    obtain ⟨xs, rfl, hr⟩ := h
    exact ⟨xs, rfl, by rw [Md.sh_part]; exact Rvs.sh hn hw h1 h2 (m := m.part) (Md.okk_part hm) hc hr⟩
  | G, F, hn, hw, k0, N, full, h1, h2, m, .any, x, hm, hc, h => trivial
theorem Rrow.sh : ∀ {G F : Env} (hn : G.n = 0) (hw : F.w = G.w) {k0 N : Nat} {full : Prop} (h1 : full → ∀ b, G.okb b → F.okb b) (h2 : ∀ b q, q ≠ [] → G.o b = some q → F.o b = some (shift k0 N q)) {m : Md} {b off j : Nat} {cs : List V}, m.okk k0 → full ∨ closeds cs → Rrow G m b off j cs → Rrow F.bare (m.sh k0 N) b off j cs
  | G, F, hn, hw, k0, N, full, h1, h2, m, b, off, j, [], hm, hc, h => trivial
  | G, F, hn, hw, k0, N, full, h1, h2, m, b, off, j, c :: cs, hm, hc, h => by
    obtain ⟨⟨v, hv, hr⟩, hs⟩ := h
    refine ⟨⟨v, by show F.w.cell? _ = _; rw [hw]; exact hv, ?_⟩, Rrow.sh hn hw h1 h2 hm (hc.imp id And.right) hs⟩
    rw [Md.sh_child hm]
    exact Rv.sh hn hw h1 h2 (m := m.child j) (Md.okk_child hm) (hc.imp id And.left) hr
theorem Rvs.sh : ∀ {G F : Env} (hn : G.n = 0) (hw : F.w = G.w) {k0 N : Nat} {full : Prop} (h1 : full → ∀ b, G.okb b → F.okb b) (h2 : ∀ b q, q ≠ [] → G.o b = some q → F.o b = some (shift k0 N q)) {m : Md} {cs : List V} {xs : List Value}, m.okk k0 → full ∨ closeds cs → Rvs G m cs xs → Rvs F.bare (m.sh k0 N) cs xs
  | G, F, hn, hw, k0, N, full, h1, h2, m, [], [], hm, hc, h => trivial
  | G, F, hn, hw, k0, N, full, h1, h2, m, c :: cs, x :: xs, hm, hc, h =>
    ⟨Rv.sh hn hw h1 h2 hm (hc.imp id And.left) h.1, by rw [Md.sh_next hm]; exact Rvs.sh hn hw h1 h2 (m := m.next (nl c)) (Md.okk_next hm) (hc.imp id And.right) h.2⟩
  | G, F, hn, hw, k0, N, full, h1, h2, m, [], _ :: _, hm, hc, h => h.elim
  | G, F, hn, hw, k0, N, full, h1, h2, m, _ :: _, [], hm, hc, h => h.elim
end

section
variable {P : Program} {Γ : Tab} {C : Ctx} {E : Env} {s : St} {a : Act} {o : Oper} {K : V → St → Prop}

/-- The labels under which a callee sees the heap. -/
def dull (E : Env) (ro : Bool) : Lab := fun b => bif ro then (E.o b).map fun _ => [] else none
theorem dull_ok (hR : Rel C E s a) (ro : Bool) : Dull E.w (dull E ro) := by
  intro b p h
  cases ro with
  | false => simp [dull] at h
  | true =>
    simp only [dull, cond_true, Option.map_eq_some_iff] at h
    obtain ⟨q, hq, rfl⟩ := h
    exact ⟨rfl, (hR.lab b q hq).1⟩

theorem bifF' {b : Bool} {p : Prop} (h : bif b then False else p) : b = false ∧ p := by cases b <;> simp_all
mutual
theorem snap_ok (hR : Rel C E s a) {ro : Bool} : ∀ {v : V} {x : Value} {K : V → Prop}, (ro = true → roOnly v = true) → snapK s v K → Rv E .none v x → ∃ u, K u ∧ Rv (baseE E.w (dull E ro)) .none u x
  | .sc v, x, K, hro, h, hv => by
    rcases nilK_cases h with h1 | ⟨rfl, h1⟩
    · exact ⟨_, h1, hv⟩
    · exact ⟨_, h1, by rw [hv.1]; exact ⟨none, 0, rfl, Nat.le_refl _, fun h => absurd rfl h⟩⟩
  | .ro n cs, x, K, hro, h, hv => by
    refine ⟨_, h, ?_⟩
    obtain ⟨A, cap, rfl, hc, hr⟩ := hv
    refine ⟨A, cap, rfl, hc, fun hne => ?_⟩
    obtain ⟨b, off, hA, hok, hb, hrow⟩ := hr hne
    have hm : Mono E.bare (baseE E.w (dull E ro)).bare := by
      refine ⟨Nat.le_refl _, fun b _ hok => ⟨?_, rfl⟩, Nat.le_refl _, fun _ h _ => absurd h (Nat.not_lt_zero _), fun _ _ h _ => absurd h (Nat.not_lt_zero _)⟩
      have hok' : E.okb b := hok
      rw [hR.okb] at hok'
      show dull E ro b = none
      cases ro <;> simp [dull, hok']
    exact ⟨b, off, hA, (hm.free b hb hok).1, hb, Rrow.mono hm (noneKM _ _) rfl hrow⟩
  | .own i sz off n lo hi, x, K, hro, h, hv => by
    cases ro with
    | true => have := hro rfl; simp [roOnly] at this
    | false =>
    simp only [snapK] at h
    cases hob : s.ob i with
    | none => rw [hob] at h; exact h.elim
    | some ob =>
    obtain ⟨bx, cs⟩ := ob
    cases bx with
    | true => rw [hob] at h; exact h.elim
    | false =>
    rw [hob] at h
    obtain ⟨r, r', hr, rfl, hK⟩ := h
    refine ⟨_, hK, ?_⟩
    obtain ⟨hle, hreq, hrl⟩ := takeN_some hr
    obtain ⟨hin, A, cap, rfl, hlv⟩ := hv
    obtain ⟨hc, hlo, hhi, hbl⟩ := hlv (ob_live hR hob)
    refine ⟨A, cap, rfl, hc, fun hne => ?_⟩
    have hne' : r ≠ [] := by intro h; subst h; exact hne rfl
    have hrp : 0 < r.length := List.length_pos_iff.2 hne'
    rcases hbl with h0 | ⟨c, e, hA, ho, hh, hs⟩
    · have hn0 : n = 0 := by omega
      rw [hn0, Nat.zero_mul] at hrl
      omega
    · rcases hR.ob i _ hob with h0 | ⟨c', e', hh', hl', hrow⟩
      · rw [h0] at hle; simp at hle; omega
      · refine ⟨(E.ρ i).1, (E.ρ i).2 + off, hA, rfl, heap_lt hh, ?_⟩
        have hrow2 : ∃ m j, (∀ q, m = Md.at q → q ≠ []) ∧ Rrow E.bare m (E.ρ i).1 ((E.ρ i).2 + off) j r := by
          refine ⟨.at [i], off, (fun q hq => by cases hq; simp), Rrow_mk fun k c hk => ?_⟩
          have hck : cs[off + k]? = some c := by
            rw [hreq, List.getElem?_take] at hk
            split at hk
            · rwa [List.getElem?_drop] at hk
            · cases hk
          obtain ⟨v', h1, h2⟩ := Rrow_get hrow (off + k) c hck
          exact ⟨v', by rw [Nat.add_assoc]; exact h1, by rw [Nat.zero_add] at h2; exact h2⟩
        obtain ⟨m, j, hm, hrow2⟩ := hrow2
        exact Rrow.freeze (G := E.bare) (F := (baseE E.w (dull E false)).bare) rfl rfl (full := True) (fun _ b _ => rfl) (fun b q _ _ => rfl) hm (.inl trivial) hrow2
  | .sub i j, x, K, hro, h, hv => by
    cases ro with
    | true => have := hro rfl; simp [roOnly] at this
    | false =>
    simp only [snapK] at h
    cases hob : s.ob i with
    | none => rw [hob] at h; exact h.elim
    | some ob =>
    obtain ⟨bx, cs⟩ := ob
    cases bx with
    | true => rw [hob] at h; exact h.elim
    | false =>
    rw [hob] at h
    obtain ⟨sz, n, r, r', hj, rfl, hK⟩ := h
    refine ⟨_, hK, ?_⟩
    have hcell := hv.2.2 ⟨cs, sz, n, r, by rw [hR.g]; exact hob, hj⟩
    rcases hR.ob i _ hob with h0 | ⟨c', e', hh', hl', hrow⟩
    · rw [h0] at hj; simp at hj
    · obtain ⟨v', h1, h2⟩ := Rrow_get hrow j _ hj
      have hx : x = v' := by
        have h1' : E.w.cell? ⟨(E.ρ i).1, (E.ρ i).2 + j, none⟩ = some v' := h1
        rw [hcell] at h1'
        exact Option.some.inj h1'
      rw [hx]
      exact Rv.freeze (G := E.bare) (F := baseE E.w (dull E false)) rfl rfl (full := True) (fun _ b _ => rfl) (fun b q _ _ => rfl) (m := (Md.at [i]).child (0 + j)) (fun q hq => by cases hq; simp) (.inl trivial) h2
  | .agg cs, x, K, hro, h, hv => by
    obtain ⟨xs, rfl, hr⟩ := hv
    obtain ⟨us, hK, hu⟩ := snaps_ok hR (ro := ro) hro h hr
    exact ⟨_, hK, xs, rfl, hu⟩
  | .fn f cs, x, K, hro, h, hv => by
    obtain ⟨xs, rfl, hr⟩ := hv
    obtain ⟨us, hK, hu⟩ := snaps_ok hR (ro := ro) hro h hr
    exact ⟨_, hK, xs, rfl, hu⟩
  | .rp cs, x, K, hro, h, hv => by
    refine ⟨_, h, ?_⟩
    obtain ⟨b, off, rfl, hok, hb, hrow⟩ := hv
    have hm : Mono E.bare (baseE E.w (dull E ro)).bare := by
      refine ⟨Nat.le_refl _, fun b _ hok => ⟨?_, rfl⟩, Nat.le_refl _, fun _ h _ => absurd h (Nat.not_lt_zero _), fun _ _ h _ => absurd h (Nat.not_lt_zero _)⟩
      have hok' : E.okb b := hok
      rw [hR.okb] at hok'
      show dull E ro b = none
      cases ro <;> simp [dull, hok']
    exact ⟨b, off, rfl, (hm.free b hb hok).1, hb, Rrow.mono hm (noneKM _ _) rfl hrow⟩
  | .ptr i off, x, K, hro, h, hv => by
    cases ro with
    | true => have := hro rfl; simp [roOnly] at this
    | false =>
    simp only [snapK] at h
    cases hob : s.ob i with
    | none => rw [hob] at h; exact h.elim
    | some ob =>
    obtain ⟨bx, cs⟩ := ob
    rw [hob] at h
    obtain ⟨hin, ad, hx, hlv⟩ := hv
    have had := hlv (ob_live hR hob)
    subst had
    cases bx with
    | true =>
      simp only at h
      cases hb : cs.all flat with
      | false => rw [hb] at h; exact h.elim
      | true =>
      rw [hb] at h
      obtain ⟨r, rfl, hK⟩ := h
      obtain ⟨c, e, hh, h0, hl, hrow⟩ := hR.ob i _ hob
      refine ⟨_, hK, (E.ρ i).1, (E.ρ i).2 + off, hx, rfl, heap_lt hh, Rrow_mk fun k v hk => ?_⟩
      rw [List.getElem?_drop] at hk
      obtain ⟨u, hu, hru⟩ := Rrow_get hrow (off + k) v hk
      refine ⟨u, by rw [h0, Nat.zero_add]; rw [Nat.zero_add] at hu; exact hu, ?_⟩
      have hfl := List.all_eq_true.1 hb v (List.mem_of_getElem? hk)
      have hE : E.bare.okb = E.okb := rfl
      cases v <;> simp only [flat, reduceCtorEq] at hfl
      · exact hru
      · obtain ⟨A, cap, rfl, hc, hr⟩ := hru
        refine ⟨A, cap, rfl, hc, fun hne => ?_⟩
        obtain ⟨b, d, hA, hok, hb', hrw⟩ := hr hne
        have hm : Mono E.bare (baseE E.w (dull E false)).bare := ⟨Nat.le_refl _, fun b _ _ => ⟨rfl, rfl⟩, Nat.le_refl _, fun _ h _ => absurd h (Nat.not_lt_zero _), fun _ _ h _ => absurd h (Nat.not_lt_zero _)⟩
        exact ⟨b, d, hA, rfl, hb', Rrow.mono hm (noneKM _ _) rfl hrw⟩
    | false =>
      obtain ⟨hne0, r, rfl, hK⟩ := bifF' h
      rcases hR.ob i _ hob with h0 | ⟨c, e, hh, hl, hrow⟩
      · rw [h0] at hne0; simp at hne0
      · refine ⟨_, hK, (E.ρ i).1, (E.ρ i).2 + off, hx, rfl, heap_lt hh, ?_⟩
        have hrow2 : Rrow E.bare (.at [i]) (E.ρ i).1 ((E.ρ i).2 + off) off (cs.drop off) := Rrow_mk fun k v hk => by
          rw [List.getElem?_drop] at hk
          obtain ⟨u, hu, hru⟩ := Rrow_get hrow (off + k) v hk
          exact ⟨u, by rw [Nat.add_assoc]; exact hu, by rw [Nat.zero_add] at hru; exact hru⟩
        exact Rrow.freeze (G := E.bare) (F := (baseE E.w (dull E false)).bare) rfl rfl (full := True) (fun _ b _ => rfl) (fun b q _ _ => rfl) (m := .at [i]) (fun q hq => by cases hq; simp) (.inl trivial) hrow2
  | .tr _ _ _, x, K, hro, h, hv => h.elim
  | .bp _, x, K, hro, h, hv => h.elim
  | .sp _ _ _, x, K, hro, h, hv => h.elim
  | .tup _, x, K, hro, h, hv => h.elim
  | .any, x, K, hro, h, hv => h.elim
theorem snaps_ok (hR : Rel C E s a) {ro : Bool} : ∀ {vs : List V} {xs : List Value} {K : List V → Prop}, (ro = true → roOnlys vs = true) → snapsK s vs K → Rvs E .none vs xs → ∃ us, K us ∧ Rvs (baseE E.w (dull E ro)) .none us xs
  | [], [], K, hro, h, hv => ⟨[], h, trivial⟩
  | v :: vs, x :: xs, K, hro, h, hv => by
    obtain ⟨u, h1, hu⟩ := snap_ok hR (ro := ro) (fun hr => by have := hro hr; simp [roOnlys] at this; exact this.1) h hv.1
    obtain ⟨us, h2, hus⟩ := snaps_ok hR (ro := ro) (fun hr => by have := hro hr; simp [roOnlys] at this; exact this.2) h1 hv.2
    exact ⟨u :: us, h2, hu, hus⟩
  | [], _ :: _, K, hro, h, hv => hv.elim
  | _ :: _, [], K, hro, h, hv => hv.elim
end
end
end Go.Proofs.YtifmkifkjmfceaaD
