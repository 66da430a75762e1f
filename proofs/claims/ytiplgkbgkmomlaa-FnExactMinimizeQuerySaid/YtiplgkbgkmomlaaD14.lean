/- Calls: what goes in, what comes back. -/
import Derived.Test.YtiplgkbgkmomlaaD13
set_option linter.unusedVariables false
set_option linter.unusedSimpArgs false
namespace Go.Proofs.YtiplgkbgkmomlaaD
open Go Go.RowKit

def baseE (w : World) (o : Lab) : Env := ⟨w, o, fun _ => (0, 0), fun _ => none, 0, fun b => o b = none⟩
def Dull (w : World) (o : Lab) : Prop := ∀ b p, o b = some p → p = [] ∧ b < w.heap.size

/-- The contract of a function: called on values of which it only reads, it returns a value of its own and leaves what was there. -/
def Enters (P : Program) (f : FuncId) : Prop := ∃ fn c, P.funcs[f]? = some fn ∧ (fn.name == "runtime.NumGoroutine") = false ∧ fn.body = some c
/-- What is lent to a callee: blocks with a path that is not empty. -/
def Lent (o0 : Lab) (b : Nat) : Prop := ∃ k r, o0 b = some (k :: r)
structure Grown (w w' : World) (L : Nat → Prop) : Prop where
  os : w'.os = w.os
  tape : w'.tape = w.tape
  output : w'.output = w.output
  size : w.heap.size ≤ w'.heap.size
  block : ∀ k, k < w.heap.size → ¬ L k → w'.heap[k]? = w.heap[k]?
  shape : ∀ (b : Nat) (c : Array Value) (e : TypeId), w.heap[b]? = some (.cells c e (0, 0)) → ∃ c' : Array Value, w'.heap[b]? = some (.cells c' e (0, 0)) ∧ c'.size = c.size
/-- With outs = []: as above. Else what the arguments hold may be written: outs is what they are behind the call. -/
def SpecR (P : Program) : CallRel := fun f as r outs => Enters P f ∧ match outs with
  | [] => ∀ (w : World) (o0 : Lab) (xs : List Value), Dull w o0 → Rvs (baseE w o0) .none as xs → Calls P f xs.toArray w fun e w' =>
    match e with
    | .returned x => Below w.heap.size w w' ∧ ∃ o' : Lab, (∀ b, b < w.heap.size → o' b = o0 b) ∧ (∀ b p, o' b = some p → b < w'.heap.size) ∧ ∃ k0, Rv (baseE w' o') (.top k0) r x
    | _ => False
  | o :: os => ∀ (w : World) (o0 : Lab) (xs : List Value), (∀ b p, o0 b = some p → b < w.heap.size) → Rvs (baseE w o0) (.top 0) as xs → Calls P f xs.toArray w fun e w' =>
    match e with
    | .returned x => Grown w w' (Lent o0) ∧ ∃ o' : Lab, (∀ b, b < w.heap.size → ¬ Lent o0 b → o' b = o0 b) ∧ (∀ b p, o' b = some p → b < w'.heap.size) ∧ Rvs (baseE w' o') (.top 0) (o :: os) xs ∧ ∃ k0, nls as ≤ k0 ∧ Rv (baseE w' o') (.top k0) r x
    | _ => False
abbrev Spec (P : Program) (f : Nat) (as : List V) (r : V) : Prop := SpecR P f as r []

mutual
theorem Rv.freeze : ∀ {G F : Env} (hn : G.n = 0) (hw : F.w = G.w) {full : Prop} (h1 : full → ∀ b, G.okb b → F.okb b) (h2 : ∀ b q, q ≠ [] → G.o b = some q → F.okb b) {m : Md} {v : V} {x : Value}, (∀ q, m = .at q → q ≠ []) → full ∨ closed v → Rv G m v x → Rv F .none (roV v) x
  | G, F, hn, hw, full, h1, h2, m, .sc v, x, hm, hc, h => h
  | G, F, hn, hw, full, h1, h2, m, .ro n cs, x, hm, hc, h => by
    obtain ⟨A, cap, rfl, hcap, hr⟩ := h
    refine ⟨A, cap, rfl, hcap, fun hne => ?_⟩
    have hne' : cs ≠ [] := by intro h; subst h; exact hne rfl
    obtain ⟨b, off, hA, hok, hb, hrow⟩ := hr hne'
    have hf : full := hc.resolve_right hne'
    exact ⟨b, off, hA, h1 hf b hok, by rw [hw]; exact hb, Rrow.freeze (G := G.bare) (F := F.bare) rfl hw h1 h2 (m := .none) (fun q hq => by cases hq) (.inl hf) hrow⟩
  | G, F, hn, hw, full, h1, h2, m, .tr sz n cs, x, hm, hc, h => by
    obtain ⟨A, cap, rfl, hcap, hl, hr⟩ := h
    refine ⟨A, cap, rfl, hcap, fun hne => ?_⟩
    have hne' : cs ≠ [] := by intro h; subst h; exact hne rfl
    rcases hr with hr | ⟨b, off, q, c, e, hA, hq, ho, hh, hs, hrow⟩
    · have hn0 : n = 0 := by omega
      rw [hn0, Nat.zero_mul] at hl
      exact absurd (List.eq_nil_of_length_eq_zero hl) hne'
    · have hq0 : q ≠ [] := by
        cases m with
        | none => simp [Md.leaf] at hq
        | top k => simp [Md.leaf] at hq; rw [← hq]; simp
        | «at» q' => simp [Md.leaf] at hq; rw [← hq]; exact hm _ rfl
      exact ⟨b, off, hA, h2 b q hq0 ho, by rw [hw]; exact heap_lt hh, Rrow.freeze (G := G.bare) (F := F.bare) rfl hw h1 h2 (m := .at q) (fun q' hq' => by cases hq'; exact hq0) hc hrow⟩
  | G, F, hn, hw, full, h1, h2, m, .own i sz off n lo hi, x, hm, hc, h => absurd h.1 (by rw [hn]; exact Nat.not_lt_zero _)
  | G, F, hn, hw, full, h1, h2, m, .sub i j, x, hm, hc, h => absurd h.1 (by rw [hn]; exact Nat.not_lt_zero _)
  | G, F, hn, hw, full, h1, h2, m, .ptr i off, x, hm, hc, h => absurd h.1 (by rw [hn]; exact Nat.not_lt_zero _)
  | G, F, hn, hw, full, h1, h2, m, .rp cs, x, hm, hc, h => by
    obtain ⟨b, off, rfl, hok, hb, hrow⟩ := h
    have hf : full := hc.resolve_right id
    exact ⟨b, off, rfl, h1 hf b hok, by rw [hw]; exact hb, Rrow.freeze (G := G.bare) (F := F.bare) rfl hw h1 h2 (m := .none) (fun q hq => by cases hq) (.inl hf) hrow⟩
  | G, F, hn, hw, full, h1, h2, m, .bp cs, x, hm, hc, h => by
    obtain ⟨b, off, q, c, e, rfl, hq, ho, hh, hne, hrow⟩ := h
    have hq0 : q ≠ [] := by
      cases m with
      | none => simp [Md.leaf] at hq
      | top k => simp [Md.leaf] at hq; rw [← hq]; simp
      | «at» q' => simp [Md.leaf] at hq; rw [← hq]; exact hm _ rfl
    exact ⟨b, off, rfl, h2 b q hq0 ho, by rw [hw]; exact heap_lt hh, Rrow.freeze (G := G.bare) (F := F.bare) rfl hw h1 h2 (m := .at q) (fun q' hq' => by cases hq'; exact hq0) hc hrow⟩
  | G, F, hn, hw, full, h1, h2, m, .sp i j off, x, hm, hc, h => absurd h.1 (by rw [hn]; exact Nat.not_lt_zero _)
  | G, F, hn, hw, full, h1, h2, m, .agg cs, x, hm, hc, h => by
    obtain ⟨xs, rfl, hr⟩ := h
    exact ⟨xs, rfl, Rvs.freeze hn hw h1 h2 (m := m.part) (fun q hq => by cases m <;> simp [Md.part] at hq) hc hr⟩
  | G, F, hn, hw, full, h1, h2, m, .tup cs, x, hm, hc, h => by
    obtain ⟨xs, rfl, hr⟩ := h
    exact ⟨xs, rfl, Rvs.freeze hn hw h1 h2 (m := m.part) (fun q hq => by cases m <;> simp [Md.part] at hq) hc hr⟩
  | G, F, hn, hw, full, h1, h2, m, .fn f cs, x, hm, hc, h => by
    obtain ⟨xs, rfl, hr⟩ := h
    exact ⟨xs, rfl, Rvs.freeze hn hw h1 h2 (m := m.part) (fun q hq => by cases m <;> simp [Md.part] at hq) hc hr⟩
  | G, F, hn, hw, full, h1, h2, m, .any, x, hm, hc, h => trivial
theorem Rrow.freeze : ∀ {G F : Env} (hn : G.n = 0) (hw : F.w = G.w) {full : Prop} (h1 : full → ∀ b, G.okb b → F.okb b) (h2 : ∀ b q, q ≠ [] → G.o b = some q → F.okb b) {m : Md} {b off j j' : Nat} {cs : List V}, (∀ q, m = .at q → q ≠ []) → full ∨ closeds cs → Rrow G m b off j cs → Rrow F .none b off j' (roVs cs)
  | G, F, hn, hw, full, h1, h2, m, b, off, j, j', [], hm, hc, h => trivial
  | G, F, hn, hw, full, h1, h2, m, b, off, j, j', c :: cs, hm, hc, h => by
    obtain ⟨⟨v, hv, hr⟩, hs⟩ := h
    refine ⟨⟨v, by rw [hw]; exact hv, ?_⟩, Rrow.freeze hn hw h1 h2 hm (hc.imp id And.right) hs⟩
    exact Rv.freeze hn hw h1 h2 (m := m.child j) (fun q hq => by cases m <;> simp [Md.child] at hq; rw [← hq]; simp) (hc.imp id And.left) hr
theorem Rvs.freeze : ∀ {G F : Env} (hn : G.n = 0) (hw : F.w = G.w) {full : Prop} (h1 : full → ∀ b, G.okb b → F.okb b) (h2 : ∀ b q, q ≠ [] → G.o b = some q → F.okb b) {m : Md} {cs : List V} {xs : List Value}, (∀ q, m = .at q → q ≠ []) → full ∨ closeds cs → Rvs G m cs xs → Rvs F .none (roVs cs) xs
  | G, F, hn, hw, full, h1, h2, m, [], [], hm, hc, h => trivial
  | G, F, hn, hw, full, h1, h2, m, c :: cs, x :: xs, hm, hc, h =>
    ⟨Rv.freeze hn hw h1 h2 hm (hc.imp id And.left) h.1, Rvs.freeze hn hw h1 h2 (m := m.next (nl c)) (fun q hq => by cases m <;> simp [Md.next] at hq) (hc.imp id And.right) h.2⟩
  | G, F, hn, hw, full, h1, h2, m, [], _ :: _, hm, hc, h => h.elim
  | G, F, hn, hw, full, h1, h2, m, _ :: _, [], hm, hc, h => h.elim
end

def shift (k0 N : Nat) : List Nat → List Nat
  | [] => []
  | h :: t => (N + (h - k0)) :: t
theorem shift_append {k0 N : Nat} {q r : List Nat} (h : q ≠ []) : shift k0 N (q ++ r) = shift k0 N q ++ r := by cases q <;> simp_all [shift]
def Md.sh (k0 N : Nat) : Md → Md
  | .none => .none
  | .top k => .top (N + (k - k0))
  | .at q => .at (shift k0 N q)
/-- Modes that come into question. -/
def Md.okk (k0 : Nat) : Md → Prop
  | .none => True
  | .top k => k0 ≤ k
  | .at q => q ≠ []
theorem Md.okk_part {k0 : Nat} {m : Md} (h : m.okk k0) : m.part.okk k0 := by cases m <;> first | exact h | trivial
theorem Md.okk_next {k0 d : Nat} {m : Md} (h : m.okk k0) : (m.next d).okk k0 := by
  cases m with
  | none => trivial
  | top k => exact Nat.le_trans h (Nat.le_add_right _ _)
  | «at» q => trivial
theorem Md.okk_child {k0 j : Nat} {m : Md} (h : m.okk k0) : (m.child j).okk k0 := by
  cases m with
  | none => trivial
  | top k => trivial
  | «at» q => simp [Md.child, Md.okk]
theorem Md.sh_part {k0 N : Nat} {m : Md} : (m.sh k0 N).part = m.part.sh k0 N := by cases m <;> rfl
theorem Md.sh_next {k0 N d : Nat} {m : Md} (h : m.okk k0) : (m.sh k0 N).next d = (m.next d).sh k0 N := by
  cases m with
  | none => rfl
  | top k =>
    simp only [Md.okk] at h
    simp only [Md.sh, Md.next]
    congr 1
    omega
  | «at» q => rfl
theorem Md.sh_child {k0 N j : Nat} {m : Md} (h : m.okk k0) : (m.sh k0 N).child j = (m.child j).sh k0 N := by
  cases m with
  | none => rfl
  | top k => rfl
  | «at» q => simp [Md.sh, Md.child, shift_append h]
theorem Md.sh_leaf {k0 N : Nat} {m : Md} {q : List Nat} (h : m.leaf = some q) : (m.sh k0 N).leaf = some (shift k0 N q) := by
  cases m <;> simp_all [Md.leaf, Md.sh]
  · rw [← h]; rfl

mutual
theorem Rv.sh : ∀ {G F : Env} (hn : G.n = 0) (hw : F.w = G.w) {k0 N : Nat} {full : Prop} (h1 : full → ∀ b, G.okb b → F.okb b) (h2 : ∀ b q, q ≠ [] → G.o b = some q → F.o b = some (shift k0 N q)) {m : Md} {v : V} {x : Value}, m.okk k0 → full ∨ closed v → Rv G m v x → Rv F.bare (m.sh k0 N) v x
  | G, F, hn, hw, k0, N, full, h1, h2, m, .sc v, x, hm, hc, h => h
  | G, F, hn, hw, k0, N, full, h1, h2, m, .ro n cs, x, hm, hc, h => by
    obtain ⟨A, cap, rfl, hcap, hr⟩ := h
    refine ⟨A, cap, rfl, hcap, fun hne => ?_⟩
    obtain ⟨b, off, hA, hok, hb, hrow⟩ := hr hne
    have hf : full := hc.resolve_right hne
    exact ⟨b, off, hA, h1 hf b hok, by show b < F.w.heap.size; rw [hw]; exact hb, Rrow.sh (G := G.bare) (F := F.bare) rfl hw h1 h2 (m := .none) trivial (.inl hf) hrow⟩
  | G, F, hn, hw, k0, N, full, h1, h2, m, .tr sz n cs, x, hm, hc, h => by
    obtain ⟨A, cap, rfl, hcap, hl, hr⟩ := h
    refine ⟨A, cap, rfl, hcap, hl, ?_⟩
    rcases hr with hr | ⟨b, off, q, c, e, hA, hq, ho, hh, hs, hrow⟩
    · exact .inl hr
    · have hq0 : q ≠ [] := by
        cases m with
        | none => simp [Md.leaf] at hq
        | top k => simp [Md.leaf] at hq; rw [← hq]; simp
        | «at» q' => simp [Md.leaf] at hq; rw [← hq]; exact hm
      exact .inr ⟨b, off, shift k0 N q, c, e, hA, Md.sh_leaf hq, h2 b q hq0 ho, by show F.w.heap[b]? = _; rw [hw]; exact hh, hs, Rrow.sh (G := G.bare) (F := F.bare) rfl hw h1 h2 (m := .at q) hq0 hc hrow⟩
  | G, F, hn, hw, k0, N, full, h1, h2, m, .own i sz off n lo hi, x, hm, hc, h => absurd h.1 (by rw [hn]; exact Nat.not_lt_zero _)
  | G, F, hn, hw, k0, N, full, h1, h2, m, .sub i j, x, hm, hc, h => absurd h.1 (by rw [hn]; exact Nat.not_lt_zero _)
  | G, F, hn, hw, k0, N, full, h1, h2, m, .ptr i off, x, hm, hc, h => absurd h.1 (by rw [hn]; exact Nat.not_lt_zero _)
  | G, F, hn, hw, k0, N, full, h1, h2, m, .rp cs, x, hm, hc, h => by
    obtain ⟨b, off, rfl, hok, hb, hrow⟩ := h
    have hf : full := hc.resolve_right id
    exact ⟨b, off, rfl, h1 hf b hok, by show b < F.w.heap.size; rw [hw]; exact hb, Rrow.sh (G := G.bare) (F := F.bare) rfl hw h1 h2 (m := .none) trivial (.inl hf) hrow⟩
  | G, F, hn, hw, k0, N, full, h1, h2, m, .bp cs, x, hm, hc, h => by
    obtain ⟨b, off, q, c, e, rfl, hq, ho, hh, hne, hrow⟩ := h
    have hq0 : q ≠ [] := by
      cases m with
      | none => simp [Md.leaf] at hq
      | top k => simp [Md.leaf] at hq; rw [← hq]; simp
      | «at» q' => simp [Md.leaf] at hq; rw [← hq]; exact hm
    exact ⟨b, off, shift k0 N q, c, e, rfl, Md.sh_leaf hq, h2 b q hq0 ho, by show F.w.heap[b]? = _; rw [hw]; exact hh, hne, Rrow.sh (G := G.bare) (F := F.bare) rfl hw h1 h2 (m := .at q) hq0 hc hrow⟩
  | G, F, hn, hw, k0, N, full, h1, h2, m, .sp i j off, x, hm, hc, h => absurd h.1 (by rw [hn]; exact Nat.not_lt_zero _)
  | G, F, hn, hw, k0, N, full, h1, h2, m, .agg cs, x, hm, hc, h => by
    obtain ⟨xs, rfl, hr⟩ := h
    exact ⟨xs, rfl, by rw [Md.sh_part]; exact Rvs.sh hn hw h1 h2 (m := m.part) (Md.okk_part hm) hc hr⟩
  | G, F, hn, hw, k0, N, full, h1, h2, m, .tup cs, x, hm, hc, h => by
    obtain ⟨xs, rfl, hr⟩ := h
    exact ⟨xs, rfl, by rw [Md.sh_part]; exact Rvs.sh hn hw h1 h2 (m := m.part) (Md.okk_part hm) hc hr⟩
  | G, F, hn, hw, k0, N, full, h1, h2, m, .fn f cs, x, hm, hc, h => by
    obtain ⟨xs, rfl, hr⟩ := h
    exact ⟨xs, rfl, by rw [Md.sh_part]; exact Rvs.sh hn hw h1 h2 (m := m.part) (Md.okk_part hm) hc hr⟩
  | G, F, hn, hw, k0, N, full, h1, h2, m, .any, x, hm, hc, h => trivial
theorem Rrow.sh : ∀ {G F : Env} (hn : G.n = 0) (hw : F.w = G.w) {k0 N : Nat} {full : Prop} (h1 : full → ∀ b, G.okb b → F.okb b) (h2 : ∀ b q, q ≠ [] → G.o b = some q → F.o b = some (shift k0 N q)) {m : Md} {b off j : Nat} {cs : List V}, m.okk k0 → full ∨ closeds cs → Rrow G m b off j cs → Rrow F.bare (m.sh k0 N) b off j cs
  | G, F, hn, hw, k0, N, full, h1, h2, m, b, off, j, [], hm, hc, h => trivial
  | G, F, hn, hw, k0, N, full, h1, h2, m, b, off, j, c :: cs, hm, hc, h => by
    obtain ⟨⟨v, hv, hr⟩, hs⟩ := h
    refine ⟨⟨v, by show F.w.cell? _ = _; rw [hw]; exact hv, ?_⟩, Rrow.sh hn hw h1 h2 hm (hc.imp id And.right) hs⟩
    rw [Md.sh_child hm]
    exact Rv.sh hn hw h1 h2 (m := m.child j) (Md.okk_child hm) (hc.imp id And.left) hr
theorem Rvs.sh : ∀ {G F : Env} (hn : G.n = 0) (hw : F.w = G.w) {k0 N : Nat} {full : Prop} (h1 : full → ∀ b, G.okb b → F.okb b) (h2 : ∀ b q, q ≠ [] → G.o b = some q → F.o b = some (shift k0 N q)) {m : Md} {cs : List V} {xs : List Value}, m.okk k0 → full ∨ closeds cs → Rvs G m cs xs → Rvs F.bare (m.sh k0 N) cs xs
  | G, F, hn, hw, k0, N, full, h1, h2, m, [], [], hm, hc, h => trivial
  | G, F, hn, hw, k0, N, full, h1, h2, m, c :: cs, x :: xs, hm, hc, h =>
    ⟨Rv.sh hn hw h1 h2 hm (hc.imp id And.left) h.1, by rw [Md.sh_next hm]; exact Rvs.sh hn hw h1 h2 (m := m.next (nl c)) (Md.okk_next hm) (hc.imp id And.right) h.2⟩
  | G, F, hn, hw, k0, N, full, h1, h2, m, [], _ :: _, hm, hc, h => h.elim
  | G, F, hn, hw, k0, N, full, h1, h2, m, _ :: _, [], hm, hc, h => h.elim
end

section
variable {P : Program} {Γ : Tab} {C : Ctx} {E : Env} {s : St} {a : Act} {o : Oper} {K : V → St → Prop}

/-- The labels under which a callee sees the heap. -/
def dull (E : Env) (ro : Bool) : Lab := fun b => bif ro then (E.o b).map fun _ => [] else none
theorem dull_ok (hR : Rel C E s a) (ro : Bool) : Dull E.w (dull E ro) := by
  intro b p h
  cases ro with
  | false => simp [dull] at h
  | true =>
    simp only [dull, cond_true, Option.map_eq_some_iff] at h
    obtain ⟨q, hq, rfl⟩ := h
    exact ⟨rfl, (hR.lab b q hq).1⟩

mutual
/-- Objects of D alone. -/
def inP (D : Nat → Prop) : V → Prop
  | .own i .. => D i
  | .sub i _ => D i
  | .ptr i _ => D i
  | .sp i _ _ => D i
  | .agg cs => inPs D cs
  | .tup cs => inPs D cs
  | .fn _ cs => inPs D cs
  | _ => True
def inPs (D : Nat → Prop) : List V → Prop
  | [] => True
  | c :: cs => inP D c ∧ inPs D cs
end
theorem inPs_mem {D : Nat → Prop} : ∀ {cs : List V} {c : V}, inPs D cs → c ∈ cs → inP D c
  | c :: cs, d, h, hm => by
    simp only [List.mem_cons] at hm
    rcases hm with rfl | hm
    · exact h.1
    · exact inPs_mem h.2 hm
mutual
theorem inP_ro {D : Nat → Prop} : ∀ {v : V}, roOnly v = true → inP D v
  | .sc _, _ => trivial
  | .ro _ _, _ => trivial
  | .rp _, _ => trivial
  | .agg cs, h => inPs_ro (cs := cs) h
  | .fn _ cs, h => inPs_ro (cs := cs) h
  | .tr _ _ _, _ => trivial
  | .bp _, _ => trivial
  | .any, _ => trivial
  | .own .., h => by simp [roOnly] at h
  | .sub .., h => by simp [roOnly] at h
  | .ptr .., h => by simp [roOnly] at h
  | .sp .., h => by simp [roOnly] at h
  | .tup .., h => by simp [roOnly] at h
theorem inPs_ro {D : Nat → Prop} : ∀ {cs : List V}, roOnlys cs = true → inPs D cs
  | [], _ => trivial
  | c :: cs, h => by
    simp only [roOnlys, Bool.and_eq_true] at h
    exact ⟨inP_ro h.1, inPs_ro h.2⟩
end
mutual
theorem inP_all {D : Nat → Prop} (hD : ∀ i, D i) : ∀ (v : V), inP D v
  | .sc _ => trivial
  | .ro _ _ => trivial
  | .rp _ => trivial
  | .agg cs => inPs_all hD cs
  | .tup cs => inPs_all hD cs
  | .fn _ cs => inPs_all hD cs
  | .tr _ _ _ => trivial
  | .bp _ => trivial
  | .any => trivial
  | .own .. => hD _
  | .sub .. => hD _
  | .ptr .. => hD _
  | .sp .. => hD _
theorem inPs_all {D : Nat → Prop} (hD : ∀ i, D i) : ∀ (cs : List V), inPs D cs
  | [] => trivial
  | c :: cs => ⟨inP_all hD c, inPs_all hD cs⟩
end
mutual
theorem inP_of {D : List Nat} : ∀ {v : V}, inD D v = true → inP (fun i => memb D i = true) v
  | .sc _, _ => trivial
  | .ro _ _, _ => trivial
  | .rp _, _ => trivial
  | .agg cs, h => inPs_of (cs := cs) h
  | .tup cs, h => inPs_of (cs := cs) h
  | .fn _ cs, h => inPs_of (cs := cs) h
  | .tr _ _ _, _ => trivial
  | .bp _, _ => trivial
  | .any, _ => trivial
  | .own .., h => h
  | .sub .., h => h
  | .ptr .., h => h
  | .sp .., h => h
theorem inPs_of {D : List Nat} : ∀ {cs : List V}, inDs D cs = true → inPs (fun i => memb D i = true) cs
  | [], _ => trivial
  | c :: cs, h => by
    simp only [inDs, Bool.and_eq_true] at h
    exact ⟨inP_of h.1, inPs_of h.2⟩
end
/-- The labels of one object's blocks. -/
def Env.only (E : Env) (i : Nat) : Env := { E.bare with o := fun b => match E.o b with
  | some (h :: t) => if h = i then some (h :: t) else some []
  | x => x }
theorem only_mono (E : Env) (i : Nat) : Mono E.bare (E.only i) :=
  ⟨Nat.le_refl _, fun _ _ h => ⟨h, rfl⟩, Nat.le_refl _, fun _ h _ => absurd h (Nat.not_lt_zero _), fun _ _ h _ => absurd h (Nat.not_lt_zero _)⟩
theorem only_kept (E : Env) (i : Nat) (p : List Nat) : Kept E.bare (E.only i) (i :: p) := fun b r hb => by
  have hb' : E.o b = some (i :: (p ++ r)) := hb
  refine ⟨?_, rfl⟩
  show (match E.o b with
    | some (h :: t) => if h = i then some (h :: t) else some []
    | x => x) = _
  rw [hb']
  simp
theorem only_row {i b off j : Nat} {p : List Nat} {cs : List V} (h : Rrow E.bare (.at (i :: p)) b off j cs) : Rrow (E.only i) (.at (i :: p)) b off j cs :=
  Rrow.mono (only_mono E i) (fun q hq => by cases hq; exact only_kept E i p) rfl h
theorem only_rv {i : Nat} {p : List Nat} {v : V} {x : Value} (h : Rv E.bare (.at (i :: p)) v x) : Rv (E.only i) (.at (i :: p)) v x :=
  Rv.mono (only_mono E i) (fun q hq => by cases hq; exact only_kept E i p) (fun k j hq => by cases hq) h
theorem only_lab {i : Nat} {o0 : Lab} (hD : ∀ b r, E.o b = some (i :: r) → o0 b = none) : ∀ b q, q ≠ [] → (E.only i).o b = some q → o0 b = none := by
  intro b q hq h
  have h' : (match E.o b with
    | some (h :: t) => if h = i then some (h :: t) else some []
    | x => x) = some q := h
  cases ho : E.o b with
  | none => rw [ho] at h'; cases h'
  | some p =>
    rw [ho] at h'
    cases p with
    | nil => cases h'; exact absurd rfl hq
    | cons a t =>
      simp only at h'
      split at h'
      · rename_i ha
        subst ha
        exact hD b t ho
      · cases h'; exact absurd rfl hq

/-- What a callee may look at: blocks that nobody writes, and those of the objects of D. -/
structure SeeD (E : Env) (s : St) (o0 : Lab) (D : Nat → Prop) : Prop where
  free : ∀ b, E.okb b → o0 b = none
  obj : ∀ i, D i → ∀ b r, E.o b = some (i :: r) → o0 b = none
  box : ∀ i, D i → ∀ cs, s.ob i = some ⟨true, cs⟩ → inPs D cs
theorem SeeD.mono {o0 : Lab} {D : Nat → Prop} (h : SeeD E s o0 D) : Mono E.bare (baseE E.w o0).bare :=
  ⟨Nat.le_refl _, fun b _ hok => ⟨h.free b hok, rfl⟩, Nat.le_refl _, fun _ h _ => absurd h (Nat.not_lt_zero _), fun _ _ h _ => absurd h (Nat.not_lt_zero _)⟩
theorem ro_base {o0 : Lab} {D : Nat → Prop} (hS : SeeD E s o0 D) {m : Md} {n : Nat} {cs : List V} {x : Value} (h : Rv E m (.ro n cs) x) : Rv (baseE E.w o0) .none (.ro n cs) x := by
  obtain ⟨A, cap, rfl, hc, hr⟩ := h
  refine ⟨A, cap, rfl, hc, fun hne => ?_⟩
  obtain ⟨b, d, hA, hok, hb', hrw⟩ := hr hne
  exact ⟨b, d, hA, hS.free b hok, hb', Rrow.mono hS.mono (noneKM _ _) rfl hrw⟩
theorem rp_base {o0 : Lab} {D : Nat → Prop} (hS : SeeD E s o0 D) {m : Md} {cs : List V} {x : Value} (h : Rv E m (.rp cs) x) : Rv (baseE E.w o0) .none (.rp cs) x := by
  obtain ⟨b, off, rfl, hok, hb, hrow⟩ := h
  exact ⟨b, off, rfl, hS.free b hok, hb, Rrow.mono hS.mono (noneKM _ _) rfl hrow⟩
theorem snapF_ok (hR : Rel C E s a) {o0 : Lab} {D : Nat → Prop} (hS : SeeD E s o0 D) : ∀ (d : Nat) {v : V} {x : Value}, inP D v → Rv E .none v x → Rv (baseE E.w o0) .none (snapF s.g d v) x := by
  intro d
  induction d with
  | zero => intro v x _ h; exact trivial
  | succ d ih =>
    intro v x hin h
    cases v with
    | sc v => exact h
    | ro n cs => exact ro_base hS h
    | rp cs => exact rp_base hS h
    | fn f cs =>
      obtain ⟨xs, rfl, hr⟩ := h
      refine ⟨xs, rfl, ?_⟩
      show Rvs _ .none (cs.map (snapF s.g d)) xs
      have hr' : Rvs E .none cs xs := hr
      have hin' : inPs D cs := hin
      clear hr hin
      induction cs generalizing xs with
      | nil => cases xs with
        | nil => trivial
        | cons y ys => exact hr'.elim
      | cons c cs ih2 =>
        cases xs with
        | nil => exact hr'.elim
        | cons y ys => exact ⟨ih hin'.1 hr'.1, ih2 ys hr'.2 hin'.2⟩
    | ptr i off =>
      show Rv _ .none (match obOf s.g i with
        | some ⟨true, cs⟩ => .rp ((cs.drop off).map (snapF s.g d))
        | _ => .any) x
      cases hob : obOf s.g i with
      | none => exact trivial
      | some ob =>
      obtain ⟨bx, cs⟩ := ob
      cases bx with
      | false => exact trivial
      | true =>
        obtain ⟨_, ad, hx, hlv⟩ := h
        have had := hlv (ob_live hR hob)
        subst had
        obtain ⟨c, e, hh, h0, hl, hrow⟩ := hR.ob i _ hob
        refine ⟨(E.ρ i).1, (E.ρ i).2 + off, hx, hS.obj i hin _ _ hl, heap_lt hh, Rrow_mk fun k v hk => ?_⟩
        rw [List.getElem?_map, List.getElem?_drop] at hk
        cases hck : cs[off + k]? with
        | none => rw [hck] at hk; cases hk
        | some u =>
          rw [hck] at hk
          cases hk
          obtain ⟨z, hz, hrz⟩ := Rrow_get hrow (off + k) u hck
          exact ⟨z, by rw [h0, Nat.zero_add]; rw [Nat.zero_add] at hz; exact hz, ih (inPs_mem (hS.box i hin cs hob) (List.mem_of_getElem? hck)) hrz⟩
    | _ => exact trivial

theorem bifF' {b : Bool} {p : Prop} (h : bif b then False else p) : b = false ∧ p := by cases b <;> simp_all
mutual
theorem snapG_ok (hR : Rel C E s a) {o0 : Lab} {D : Nat → Prop} (hS : SeeD E s o0 D) : ∀ {v : V} {x : Value} {K : V → Prop}, inP D v → snapK s v K → Rv E .none v x → ∃ u, K u ∧ Rv (baseE E.w o0) .none u x
  | .sc v, x, K, hro, h, hv => by
    rcases nilK_cases h with h1 | ⟨rfl, h1⟩
    · exact ⟨_, h1, hv⟩
    · exact ⟨_, h1, by rw [hv.1]; exact ⟨none, 0, rfl, Nat.le_refl _, fun h => absurd rfl h⟩⟩
  | .ro n cs, x, K, hro, h, hv => ⟨_, h, ro_base hS hv⟩
  | .own i sz off n lo hi, x, K, hro, h, hv => by
    simp only [snapK] at h
    cases hob : s.ob i with
    | none => rw [hob] at h; exact h.elim
    | some ob =>
    obtain ⟨bx, cs⟩ := ob
    cases bx with
    | true => rw [hob] at h; exact h.elim
    | false =>
    rw [hob] at h
    obtain ⟨r, r', hr, rfl, hK⟩ := h
    refine ⟨_, hK, ?_⟩
    obtain ⟨hle, hreq, hrl⟩ := takeN_some hr
    obtain ⟨hin, A, cap, rfl, hlv⟩ := hv
    obtain ⟨hc, hlo, hhi, hbl⟩ := hlv (ob_live hR hob)
    refine ⟨A, cap, rfl, hc, fun hne => ?_⟩
    have hne' : r ≠ [] := by intro h; subst h; exact hne rfl
    have hrp : 0 < r.length := List.length_pos_iff.2 hne'
    rcases hbl with h0 | ⟨c, e, hA, ho, hh, hs⟩
    · have hn0 : n = 0 := by omega
      rw [hn0, Nat.zero_mul] at hrl
      omega
    · rcases hR.ob i _ hob with h0 | ⟨c', e', hh', hl', hrow⟩
      · rw [h0] at hle; simp at hle; omega
      · refine ⟨(E.ρ i).1, (E.ρ i).2 + off, hA, hS.obj i hro _ _ ho, heap_lt hh, ?_⟩
        have hrow2 : Rrow E.bare (.at [i]) (E.ρ i).1 ((E.ρ i).2 + off) off r := Rrow_mk fun k c hk => by
          have hck : cs[off + k]? = some c := by
            rw [hreq, List.getElem?_take] at hk
            split at hk
            · rwa [List.getElem?_drop] at hk
            · cases hk
          obtain ⟨v', h1, h2⟩ := Rrow_get hrow (off + k) c hck
          exact ⟨v', by rw [Nat.add_assoc]; exact h1, by rw [Nat.zero_add] at h2; exact h2⟩
        exact Rrow.freeze (G := E.only i) (F := (baseE E.w o0).bare) rfl rfl (full := True) (fun _ b h => hS.free b h) (only_lab (hS.obj i hro)) (m := .at [i]) (fun q hq => by cases hq; simp) (.inl trivial) (only_row hrow2)
  | .sub i j, x, K, hro, h, hv => by
    simp only [snapK] at h
    cases hob : s.ob i with
    | none => rw [hob] at h; exact h.elim
    | some ob =>
    obtain ⟨bx, cs⟩ := ob
    cases bx with
    | true => rw [hob] at h; exact h.elim
    | false =>
    rw [hob] at h
    obtain ⟨sz, n, r, r', hj, rfl, hK⟩ := h
    refine ⟨_, hK, ?_⟩
    have hcell := hv.2.2 ⟨cs, sz, n, r, by rw [hR.g]; exact hob, hj⟩
    rcases hR.ob i _ hob with h0 | ⟨c', e', hh', hl', hrow⟩
    · rw [h0] at hj; simp at hj
    · obtain ⟨v', h1, h2⟩ := Rrow_get hrow j _ hj
      have hx : x = v' := by
        have h1' : E.w.cell? ⟨(E.ρ i).1, (E.ρ i).2 + j, none⟩ = some v' := h1
        rw [hcell] at h1'
        exact Option.some.inj h1'
      rw [hx]
      exact Rv.freeze (G := E.only i) (F := baseE E.w o0) rfl rfl (full := True) (fun _ b h => hS.free b h) (only_lab (hS.obj i hro)) (m := .at [i, 0 + j]) (fun q hq => by cases hq; simp) (.inl trivial) (only_rv h2)
  | .agg cs, x, K, hro, h, hv => by
    obtain ⟨xs, rfl, hr⟩ := hv
    obtain ⟨us, hK, hu⟩ := snapsG_ok hR hS hro h hr
    exact ⟨_, hK, xs, rfl, hu⟩
  | .fn f cs, x, K, hro, h, hv => by
    obtain ⟨xs, rfl, hr⟩ := hv
    obtain ⟨us, hK, hu⟩ := snapsG_ok hR hS hro h hr
    exact ⟨_, hK, xs, rfl, hu⟩
  | .rp cs, x, K, hro, h, hv => ⟨_, h, rp_base hS hv⟩
  | .ptr i off, x, K, hro, h, hv => by
    simp only [snapK] at h
    cases hob : s.ob i with
    | none => rw [hob] at h; exact h.elim
    | some ob =>
    obtain ⟨bx, cs⟩ := ob
    rw [hob] at h
    obtain ⟨hin, ad, hx, hlv⟩ := hv
    have had := hlv (ob_live hR hob)
    subst had
    cases bx with
    | true =>
      simp only at h
      cases hb : cs.all flat with
      | false =>
        rw [hb] at h
        obtain ⟨d, r, rfl, hK⟩ := h
        exact ⟨_, hK, snapF_ok hR hS d (v := .ptr i off) hro ⟨hin, _, hx, hlv⟩⟩
      | true =>
      rw [hb] at h
      obtain ⟨r, rfl, hK⟩ := h
      obtain ⟨c, e, hh, h0, hl, hrow⟩ := hR.ob i _ hob
      refine ⟨_, hK, (E.ρ i).1, (E.ρ i).2 + off, hx, hS.obj i hro _ _ hl, heap_lt hh, Rrow_mk fun k v hk => ?_⟩
      rw [List.getElem?_drop] at hk
      obtain ⟨u, hu, hru⟩ := Rrow_get hrow (off + k) v hk
      refine ⟨u, by rw [h0, Nat.zero_add]; rw [Nat.zero_add] at hu; exact hu, ?_⟩
      have hfl := List.all_eq_true.1 hb v (List.mem_of_getElem? hk)
      cases v <;> simp only [flat, reduceCtorEq] at hfl
      · exact hru
      · exact ro_base hS hru
    | false =>
      obtain ⟨hne0, r, rfl, hK⟩ := bifF' h
      rcases hR.ob i _ hob with h0 | ⟨c, e, hh, hl, hrow⟩
      · rw [h0] at hne0; simp at hne0
      · refine ⟨_, hK, (E.ρ i).1, (E.ρ i).2 + off, hx, hS.obj i hro _ _ hl, heap_lt hh, ?_⟩
        have hrow2 : Rrow E.bare (.at [i]) (E.ρ i).1 ((E.ρ i).2 + off) off (cs.drop off) := Rrow_mk fun k v hk => by
          rw [List.getElem?_drop] at hk
          obtain ⟨u, hu, hru⟩ := Rrow_get hrow (off + k) v hk
          exact ⟨u, by rw [Nat.add_assoc]; exact hu, by rw [Nat.zero_add] at hru; exact hru⟩
        exact Rrow.freeze (G := E.only i) (F := (baseE E.w o0).bare) rfl rfl (full := True) (fun _ b h => hS.free b h) (only_lab (hS.obj i hro)) (m := .at [i]) (fun q hq => by cases hq; simp) (.inl trivial) (only_row hrow2)
  | .tr _ _ _, x, K, hro, h, hv => h.elim
  | .bp _, x, K, hro, h, hv => h.elim
  | .sp _ _ _, x, K, hro, h, hv => h.elim
  | .tup _, x, K, hro, h, hv => h.elim
  | .any, x, K, hro, h, hv => h.elim
theorem snapsG_ok (hR : Rel C E s a) {o0 : Lab} {D : Nat → Prop} (hS : SeeD E s o0 D) : ∀ {vs : List V} {xs : List Value} {K : List V → Prop}, inPs D vs → snapsK s vs K → Rvs E .none vs xs → ∃ us, K us ∧ Rvs (baseE E.w o0) .none us xs
  | [], [], K, hro, h, hv => ⟨[], h, trivial⟩
  | v :: vs, x :: xs, K, hro, h, hv => by
    obtain ⟨u, h1, hu⟩ := snapG_ok hR hS hro.1 h hv.1
    obtain ⟨us, h2, hus⟩ := snapsG_ok hR hS hro.2 h1 hv.2
    exact ⟨u :: us, h2, hu, hus⟩
  | [], _ :: _, K, hro, h, hv => hv.elim
  | _ :: _, [], K, hro, h, hv => hv.elim
end
theorem snaps_ok (hR : Rel C E s a) {ro : Bool} {vs : List V} {xs : List Value} {K : List V → Prop} (hro : ro = true → roOnlys vs = true) (h : snapsK s vs K) (hv : Rvs E .none vs xs) : ∃ us, K us ∧ Rvs (baseE E.w (dull E ro)) .none us xs := by
  refine snapsG_ok hR (D := fun _ => ro = false) ⟨fun b hok => ?_, fun i hD b r ho => ?_, fun i hD cs _ => ?_⟩ ?_ h hv
  · rw [hR.okb] at hok
    cases ro <;> simp [dull, hok]
  · subst hD
    rfl
  · exact inPs_all (fun _ => hD) cs
  · cases ro with
    | false => exact inPs_all (fun _ => rfl) vs
    | true => exact inPs_ro (hro rfl)

/-- Objects that are given up. -/
def frzL (D : List Nat) : Option (List Nat) → Option (List Nat)
  | some (h :: t) => if memb D h then none else some (h :: t)
  | x => x
def Env.frz (E : Env) (D : List Nat) : Env :=
  { E with o := fun b => frzL D (E.o b), g := fun i => if memb D i then none else E.g i, okb := fun b => frzL D (E.o b) = none }
theorem dropG_ob (D : List Nat) : ∀ (g : List (Option Obj)) (k i : Nat), obOf (dropG D k g) i = if memb D (k + i) then none else obOf g i
  | [], k, i => by simp [dropG, obOf]
  | o :: r, k, 0 => by
    simp only [dropG, obOf, Nat.add_zero]
    cases memb D k <;> rfl
  | o :: r, k, i + 1 => by
    simp only [dropG, obOf, dropG_ob D r (k + 1) i]
    rw [show k + 1 + i = k + (i + 1) from by omega]
theorem dropG_len (D : List Nat) : ∀ (g : List (Option Obj)) (k : Nat), (dropG D k g).length = g.length
  | [], k => rfl
  | o :: r, k => by simp [dropG, dropG_len D r]
theorem frz_mono (hR : Rel C E s a) (D : List Nat) : Mono E (E.frz D) := by
  refine ⟨Nat.le_refl _, fun b _ hok => ⟨?_, rfl⟩, Nat.le_refl _, fun i hi hl => ?_, fun i j hi ht => ?_⟩
  · rw [hR.okb] at hok
    show frzL D (E.o b) = none
    rw [hok]; rfl
  · have hni : memb D i = false := by
      cases hm : memb D i with
      | false => rfl
      | true => simp [Env.frz, hm] at hl
    refine ⟨by simpa [Env.frz, hni] using hl, rfl, fun ho => ?_, fun c e h => ⟨c, h, rfl⟩⟩
    show frzL D (E.o (E.ρ i).1) = _
    rw [ho]
    simp [frzL, hni]
  · obtain ⟨cs, sz, n, r, hg, hk⟩ := ht
    have hni : memb D i = false := by
      cases hm : memb D i with
      | false => rfl
      | true => simp [Env.frz, hm] at hg
    exact ⟨⟨cs, sz, n, r, by simpa [Env.frz, hni] using hg, hk⟩, rfl⟩
theorem frz_kept {D : List Nat} {i : Nat} {p : List Nat} (h : memb D i = false) : Kept E (E.frz D) (i :: p) := fun b r hb => by
  refine ⟨?_, rfl⟩
  show frzL D (E.o b) = _
  rw [hb]
  simp [frzL, h]
theorem rel_frz (hR : Rel C E s a) (D : List Nat) : Rel C (E.frz D) { s with g := dropG D 0 s.g } a := by
  have hm := frz_mono hR D
  refine ⟨hR.size, hR.nd, fun k => (hR.slot k).slot hm, ?_, ?_, fun i x hx => ?_, rfl, fun b p hp => ?_, hR.fr, fun b hb hl => ?_, hR.pin.mono hm⟩
  · funext i
    show (if memb D i then none else E.g i) = obOf (dropG D 0 s.g) i
    rw [dropG_ob, Nat.zero_add, hR.g]
    rfl
  · show E.n = (dropG D 0 s.g).length
    rw [dropG_len]
    exact hR.n
  · have hx' : obOf (dropG D 0 s.g) i = some x := hx
    rw [dropG_ob, Nat.zero_add] at hx'
    cases hi : memb D i with
    | true => rw [hi] at hx'; cases hx'
    | false =>
      rw [hi] at hx'
      exact ObR.mono hm rfl (frz_kept hi) (hR.ob i x hx')
  · have hp' : frzL D (E.o b) = some p := hp
    cases ho : E.o b with
    | none => rw [ho] at hp'; cases hp'
    | some q =>
      rw [ho] at hp'
      have := hR.lab b q ho
      cases q with
      | nil => cases hp'; exact this
      | cons h t =>
        simp only [frzL] at hp'
        split at hp'
        · cases hp'
        · cases hp'; exact this
  · have h := hR.old b hb hl
    show frzL D (E.o b) = _
    rw [h]
    cases ho : C.o0 b with
    | none => rfl
    | some q => rw [C.dull b q hl ho]; rfl
theorem boxIn_get {D : List Nat} : ∀ {g : List (Option Obj)} {k : Nat}, boxIn D k g = true → ∀ i cs, obOf g i = some ⟨true, cs⟩ → memb D (k + i) = true → inDs D cs = true
  | [], k, h, i, cs, ho, hm => by simp [obOf] at ho
  | o :: r, k, h, 0, cs, ho, hm => by
    simp only [obOf] at ho
    subst ho
    simp only [boxIn, Bool.and_eq_true, Bool.or_eq_true, Bool.not_eq_true'] at h
    rw [Nat.add_zero] at hm
    rcases h.1 with h1 | h1
    · rw [hm] at h1; cases h1
    · exact h1
  | o :: r, k, h, i + 1, cs, ho, hm => by
    have h' : boxIn D (k + 1) r = true := by
      cases o with
      | none => exact h
      | some ob =>
        obtain ⟨bx, ds⟩ := ob
        cases bx with
        | false => exact h
        | true =>
          simp only [boxIn, Bool.and_eq_true] at h
          exact h.2
    exact boxIn_get h' i cs ho (by rw [show k + 1 + i = k + (i + 1) from by omega]; exact hm)
/-- Arguments that are given up. -/
theorem snaps_frz (hR : Rel C E s a) {D : List Nat} {vs : List V} {xs : List Value} {K : List V → Prop} (hD : (inDs D vs && boxIn D 0 s.g) = true) (h : snapsK s vs K) (hv : Rvs E .none vs xs) : ∃ us, K us ∧ Rvs (baseE (E.frz D).w (dull (E.frz D) true)) .none us xs := by
  simp only [Bool.and_eq_true] at hD
  refine snapsG_ok hR (D := fun i => memb D i = true) (o0 := dull (E.frz D) true) ⟨fun b hok => ?_, fun i hi b r ho => ?_, fun i hi cs ho => ?_⟩ (inPs_of hD.1) h hv
  · have := ((frz_mono hR D).free b)
    rw [hR.okb] at hok
    have : (E.frz D).o b = none := by
      show frzL D (E.o b) = none
      rw [hok]; rfl
    simp [dull, this]
  · have : (E.frz D).o b = none := by
      show frzL D (E.o b) = none
      rw [ho]
      simp [frzL, hi]
    simp [dull, this]
  · exact inPs_of (boxIn_get hD.2 i cs ho (by rw [Nat.zero_add]; exact hi))
end
end Go.Proofs.YtiplgkbgkmomlaaD
