/- Calls that write to what they are lent. -/
import Derived.Test.YtiplgkbgkmomlaaD15
set_option linter.unusedVariables false
set_option linter.unusedSimpArgs false
namespace Go.Proofs.YtiplgkbgkmomlaaD
open Go Go.RowKit

/-! ### Which block goes where -/
abbrev Tgts := List (Nat × List Nat)
def fwd : Tgts → List Nat → Option (List Nat)
  | [], _ => none
  | (k, q) :: r, p => if q.isPrefixOf p then some (k :: p.drop q.length) else fwd r p
def bwd : Tgts → Nat → Option (List Nat)
  | [], _ => none
  | (k, q) :: r, h => if k = h then some q else bwd r h
/-- No path lies on another, and a key has one path. -/
structure Inc (τ : Tgts) : Prop where
  inc : ∀ k q k' q', (k, q) ∈ τ → (k', q') ∈ τ → q <+: q' → k = k' ∧ q = q'
  fn : ∀ k q q', (k, q) ∈ τ → (k, q') ∈ τ → q = q'
theorem fwd_some {τ : Tgts} {p r : List Nat} (h : fwd τ p = some r) : ∃ k q t, (k, q) ∈ τ ∧ p = q ++ t ∧ r = k :: t := by
  induction τ with
  | nil => cases h
  | cons e τ ih =>
    obtain ⟨k, q⟩ := e
    simp only [fwd] at h
    split at h
    · rename_i hp
      obtain ⟨t, ht⟩ := List.isPrefixOf_iff_prefix.1 hp
      cases h
      exact ⟨k, q, t, by simp, ht.symm, by rw [← ht]; simp⟩
    · obtain ⟨k', q', t, h1, h2, h3⟩ := ih h
      exact ⟨k', q', t, by simp [h1], h2, h3⟩
theorem fwd_none {τ : Tgts} {p : List Nat} (h : ∀ k q t, (k, q) ∈ τ → p ≠ q ++ t) : fwd τ p = none := by
  cases hf : fwd τ p with
  | none => rfl
  | some r =>
    obtain ⟨k, q, t, h1, h2, _⟩ := fwd_some hf
    exact absurd h2 (h k q t h1)
theorem fwd_of {τ : Tgts} (hi : Inc τ) {k : Nat} {q t : List Nat} (h : (k, q) ∈ τ) : fwd τ (q ++ t) = some (k :: t) := by
  cases hf : fwd τ (q ++ t) with
  | none =>
    exfalso
    have : ∀ σ : Tgts, (k, q) ∈ σ → fwd σ (q ++ t) ≠ none := by
      intro σ
      induction σ with
      | nil => intro h; cases h
      | cons e σ ih =>
        intro h
        obtain ⟨k', q'⟩ := e
        simp only [fwd]
        split
        · simp
        · rename_i hn
          simp only [List.mem_cons, Prod.mk.injEq] at h
          rcases h with ⟨_, rfl⟩ | h
          · exact absurd (List.isPrefixOf_iff_prefix.2 (List.prefix_append _ _)) hn
          · exact ih h
    exact this τ h hf
  | some r =>
    obtain ⟨k', q', t', h1, h2, rfl⟩ := fwd_some hf
    have hcmp : q <+: q' ∨ q' <+: q := List.prefix_or_prefix_of_prefix (l₃ := q ++ t) (List.prefix_append _ _) (by rw [h2]; exact List.prefix_append _ _)
    have hkq : k = k' ∧ q = q' := by
      rcases hcmp with hc | hc
      · exact hi.inc _ _ _ _ h h1 hc
      · have := hi.inc _ _ _ _ h1 h hc
        exact ⟨this.1.symm, this.2.symm⟩
    obtain ⟨rfl, rfl⟩ := hkq
    have := List.append_cancel_left h2
    rw [this]
theorem bwd_of {τ : Tgts} (hi : Inc τ) {k : Nat} {q : List Nat} (h : (k, q) ∈ τ) : bwd τ k = some q := by
  have key : ∀ σ : Tgts, (∀ e ∈ σ, e ∈ τ) → (k, q) ∈ σ → bwd σ k = some q := by
    intro σ
    induction σ with
    | nil => intro _ h; cases h
    | cons e σ ih =>
      intro hs hm
      obtain ⟨k', q'⟩ := e
      simp only [bwd]
      split
      · rename_i hk
        subst hk
        rw [hi.fn _ q' q (hs _ (by simp)) h]
      · rename_i hk
        simp only [List.mem_cons, Prod.mk.injEq] at hm
        rcases hm with ⟨rfl, _⟩ | hm
        · exact absurd rfl hk
        · exact ih (fun e he => hs e (by simp [he])) hm
  exact key τ (fun e he => he) h

section
variable {P : Program} {Γ : Tab} {C : Ctx} {E : Env} {s : St} {a : Act} {o : Oper} {K : V → St → Prop}

/-- The labels under which the callee sees the heap. -/
def lab0 (E : Env) (τ : Tgts) : Lab := fun b => (E.o b).map fun p => (fwd τ p).getD []
/-- Every target is an object's row, or a cell of one. -/
structure Tgt (s : St) (X : Lents) (τ : Tgts) (kid : Nat) : Prop where
  inc : Inc τ
  lt : ∀ k q, (k, q) ∈ τ → k < kid
  at_ : ∀ k q, (k, q) ∈ τ → (∃ i, q = [i] ∧ (i, none) ∈ X) ∨ (∃ i j, q = [i, j] ∧ (i, some j) ∈ X)
  row : ∀ i, (i, none) ∈ X → ∃ cs, s.ob i = some ⟨false, cs⟩
  ex : ∀ i j, (i, some j) ∈ X → (i, none) ∉ X
theorem Tgt.le {X : Lents} {τ : Tgts} {kid kid' : Nat} (h : Tgt s X τ kid) (hk : kid ≤ kid') : Tgt s X τ kid' := ⟨h.inc, fun k q hm => Nat.lt_of_lt_of_le (h.lt k q hm) hk, h.at_, h.row, h.ex⟩
/-- What is added later bears later keys. -/
structure Ext (X : Lents) (τ τf : Tgts) (m : Nat) : Prop where
  sub : ∀ e ∈ τ, e ∈ τf
  new : ∀ k q, (k, q) ∈ τf → k < m → (k, q) ∈ τ
  fix : ∀ l, (l, none) ∈ X → ∀ k, (k, [l]) ∈ τf → (k, [l]) ∈ τ
theorem noneOf_mem {X : Lents} {i : Nat} (h : noneOf X i = true) : ∀ x, (i, x) ∉ X := by
  induction X with
  | nil => intro x hx; cases hx
  | cons e X ih =>
    obtain ⟨k, l⟩ := e
    simp only [noneOf, Bool.and_eq_true, Bool.not_eq_true'] at h
    intro x hx
    simp only [List.mem_cons, Prod.mk.injEq] at hx
    rcases hx with ⟨rfl, _⟩ | hx
    · simp at h
    · exact ih h.2 x hx
theorem noWhole_mem {X : Lents} {i : Nat} (h : noWhole X i = true) : (i, none) ∉ X := by
  induction X with
  | nil => intro hx; cases hx
  | cons e X ih =>
    obtain ⟨k, l⟩ := e
    intro hx
    simp only [List.mem_cons, Prod.mk.injEq] at hx
    cases l with
    | none =>
      simp only [noWhole, Bool.and_eq_true, Bool.not_eq_true'] at h
      rcases hx with ⟨rfl, _⟩ | hx
      · simp at h
      · exact ih h.2 hx
    | some l =>
      simp only [noWhole] at h
      rcases hx with ⟨_, hx⟩ | hx
      · cases hx
      · exact ih h hx
theorem mem_noWhole {X : Lents} {i : Nat} (h : noWhole X i = false) : (i, none) ∈ X := by
  induction X with
  | nil => cases h
  | cons e X ih =>
    obtain ⟨k, l⟩ := e
    cases l with
    | none =>
      simp only [noWhole, Bool.and_eq_false_iff, Bool.not_eq_false'] at h
      rcases h with h | h
      · rw [Nat.eq_of_beq_eq_true h]; simp
      · simp [ih h]
    | some l => simp only [noWhole] at h; simp [ih h]
theorem apart_mem {X : Lents} {i j : Nat} (h : apart X i j) : (i, some j) ∉ X := by
  induction X with
  | nil => intro hx; cases hx
  | cons e X ih =>
    obtain ⟨k, l⟩ := e
    intro hx
    simp only [List.mem_cons, Prod.mk.injEq] at hx
    cases l with
    | none =>
      simp only [apart] at h
      rcases hx with ⟨_, hx⟩ | hx
      · cases hx
      · exact ih h hx
    | some l =>
      simp only [apart] at h
      cases hb : Nat.beq k i with
      | true =>
        rw [hb] at h
        rcases hx with ⟨_, hx⟩ | hx
        · cases hx; exact h.1 rfl
        · exact ih h.2 hx
      | false =>
        rw [hb] at h
        rcases hx with ⟨rfl, _⟩ | hx
        · simp at hb
        · exact ih h hx

/-- The environment behind the call, against the one ahead of it. -/
structure LC (E : Env) (τ : Tgts) (E3 : Env) (w' : World) (o' : Lab) : Prop where
  w : E3.w = w'
  ρ : E3.ρ = E.ρ
  moved : ∀ k q, (k, q) ∈ τ → Moved (baseE w' o') E3.bare [k] q
  mono : Mono (baseE w' o') E3.bare
  keep : ∀ b p, E.o b = some p → fwd τ p = none → E3.o b = some p ∧ w'.heap[b]? = E.w.heap[b]?
  free : ∀ b, b < E.w.heap.size → E.o b = none → E3.okb b ∧ w'.heap[b]? = E.w.heap[b]?
  size : E.w.heap.size ≤ w'.heap.size

def Pd (τ : Tgts) (kid : Nat) (q : List Nat) : Prop := ∃ k, kid ≤ k ∧ (k, q) ∈ τ
/-- The state, while the trees come back: those with keys below kid are there. -/
structure RI (E : Env) (s : St) (X : Lents) (τ : Tgts) (E3 : Env) (kid : Nat) (st : St) : Prop where
  t : st.t = s.t
  N : st.N = s.N
  len : st.g.length = s.g.length
  box : ∀ i cs, st.ob i = some ⟨true, cs⟩ → s.ob i = some ⟨true, cs⟩
  live : ∀ i, (st.ob i).isSome = true → (s.ob i).isSome = true
  tr : ∀ i j, isTr st.ob i j → isTr s.ob i j ∨ (i, none) ∈ X
  lab : ∀ i, (st.ob i).isSome = true → ¬ Pd τ kid [i] → E.o (E.ρ i).1 = some [i] → E3.o (E.ρ i).1 = some [i]
  row : ∀ i cs, st.ob i = some ⟨false, cs⟩ → ¬ Pd τ kid [i] → cs = [] ∨ ∃ c e, E3.w.heap[(E.ρ i).1]? = some (.cells c e (0, 0)) ∧ E3.o (E.ρ i).1 = some [i] ∧
    ∀ k v, cs[k]? = some v → ∃ u, E3.w.cell? ⟨(E.ρ i).1, (E.ρ i).2 + k, none⟩ = some u ∧ (¬ Pd τ kid [i, k] → Rv E3.bare (.at [i, k]) v u)
  sub : ∀ i j x, isTr s.ob i j → (i, none) ∉ X → E.w.cell? ⟨(E.ρ i).1, (E.ρ i).2 + j, none⟩ = some x → E3.w.cell? ⟨(E.ρ i).1, (E.ρ i).2 + j, none⟩ = some x
theorem RI.next {X : Lents} {τ : Tgts} {E3 : Env} {kid kid' : Nat} {st : St} (h : RI E s X τ E3 kid st) (hk : ∀ k q, (k, q) ∈ τ → kid ≤ k → kid' ≤ k) : RI E s X τ E3 kid' st := by
  have hp : ∀ q, ¬ Pd τ kid' q → ¬ Pd τ kid q := fun q hn ⟨k, h1, h2⟩ => hn ⟨k, hk k q h2 h1, h2⟩
  exact ⟨h.t, h.N, h.len, h.box, h.live, h.tr, fun i hi hn => h.lab i hi (hp _ hn), fun i cs hi hn => by
    rcases h.row i cs hi (hp _ hn) with h0 | ⟨c, e, h1, h2, h3⟩
    · exact .inl h0
    · exact .inr ⟨c, e, h1, h2, fun k v hk' => by obtain ⟨u, hu, hr⟩ := h3 k v hk'; exact ⟨u, hu, fun hn' => hr (hp _ hn')⟩⟩, h.sub⟩

theorem tgt_fwd_ne {X : Lents} {τ : Tgts} {kid : Nat} (hT : Tgt s X τ kid) {i : Nat} (hi : (i, none) ∉ X) : fwd τ [i] = none := by
  refine fwd_none fun k q t hm he => ?_
  rcases hT.at_ k q hm with ⟨i', rfl, hx⟩ | ⟨i', j', rfl, hx⟩
  · simp at he
    obtain ⟨rfl, _⟩ := he
    exact hi hx
  · simp at he
theorem tgt_fwd_cell {X : Lents} {τ : Tgts} {kid : Nat} (hT : Tgt s X τ kid) {i j : Nat} {r : List Nat} (hi : ∀ k, (k, [i]) ∉ τ) (hj : ∀ k, (k, [i, j]) ∉ τ) : fwd τ (i :: j :: r) = none := by
  refine fwd_none fun k q t hm he => ?_
  rcases hT.at_ k q hm with ⟨i', rfl, hx⟩ | ⟨i', j', rfl, hx⟩
  · simp at he
    obtain ⟨rfl, _⟩ := he
    exact hi k hm
  · simp at he
    obtain ⟨rfl, rfl, _⟩ := he
    exact hj k hm
/-- Ahead of all: nothing has come back. -/
theorem RI.start (hR : Rel C E s a) {X : Lents} {τ : Tgts} {kid : Nat} (hT : Tgt s X τ kid) {E3 : Env} {w' : World} {o' : Lab} (hL : LC E τ E3 w' o') : RI E s X τ E3 0 s := by
  have hnP : ∀ i, ¬ Pd τ 0 [i] → fwd τ [i] = none := by
    intro i hn
    refine fwd_none fun k q t hm he => ?_
    rcases hT.at_ k q hm with ⟨i', rfl, hx⟩ | ⟨i', j', rfl, hx⟩
    · simp at he
      obtain ⟨rfl, _⟩ := he
      exact hn ⟨k, Nat.zero_le _, hm⟩
    · simp at he
  refine ⟨rfl, rfl, rfl, fun _ _ h => h, fun _ h => h, fun _ _ h => .inl h, fun i hi hn ho => (hL.keep _ _ ho (hnP i hn)).1, fun i cs hi hn => ?_, fun i j x ht hx hc => ?_⟩
  · rcases hR.ob i _ hi with h0 | ⟨c, e, hh, hl, hrow⟩
    · exact .inl h0
    · obtain ⟨h1, h2⟩ := hL.keep _ _ hl (hnP i hn)
      refine .inr ⟨c, e, by rw [hL.w, h2]; exact hh, h1, fun k v hk => ?_⟩
      obtain ⟨u, hu, hr⟩ := Rrow_get hrow k v hk
      refine ⟨u, by rw [hL.w]; exact (cell_heap h2).trans hu, fun hn' => ?_⟩
      rw [Nat.zero_add] at hr
      have hm : Mono E.bare E3.bare := ⟨by show E.w.heap.size ≤ E3.w.heap.size; rw [hL.w]; exact hL.size, fun b hb hok => by
        have hok' : E.okb b := hok
        rw [hR.okb] at hok'
        obtain ⟨g1, g2⟩ := hL.free b hb hok'
        exact ⟨g1, by show E3.w.heap[b]? = E.w.heap[b]?; rw [hL.w]; exact g2⟩, Nat.le_refl _, fun _ h _ => absurd h (Nat.not_lt_zero _), fun _ _ h _ => absurd h (Nat.not_lt_zero _)⟩
      refine Rv.mono hm (fun q hq b r hb => ?_) (fun q j hq _ => by cases hq) hr
      cases hq
      have hf : fwd τ (i :: k :: r) = none := tgt_fwd_cell hT (fun k' hm => hn ⟨k', Nat.zero_le _, hm⟩) (fun k' hm => hn' ⟨k', Nat.zero_le _, hm⟩)
      obtain ⟨g1, g2⟩ := hL.keep b _ hb hf
      exact ⟨g1, by show E3.w.heap[b]? = E.w.heap[b]?; rw [hL.w]; exact g2⟩
  · obtain ⟨cs, sz, n, r, hg, hj⟩ := ht
    rcases hR.ob i _ hg with h0 | ⟨c, e, hh, hl, hrow⟩
    · rw [h0] at hj; simp at hj
    · obtain ⟨h1, h2⟩ := hL.keep _ _ hl (tgt_fwd_ne hT hx)
      rw [hL.w]
      exact (cell_heap h2).trans hc
/-- When all are back. -/
theorem RI.done {X : Lents} {τ : Tgts} {E3 : Env} {kid : Nat} {st : St} (h : RI E s X τ E3 kid st) (hT : ∀ k q, (k, q) ∈ τ → k < kid) (hρ : E3.ρ = E.ρ) : ∀ i cs, st.ob i = some ⟨false, cs⟩ → ObR E3 i ⟨false, cs⟩ := by
  have hp : ∀ q, ¬ Pd τ kid q := fun q ⟨k, h1, h2⟩ => by have := hT k q h2; omega
  intro i cs hi
  rcases h.row i cs hi (hp _) with h0 | ⟨c, e, h1, h2, h3⟩
  · exact .inl h0
  · refine .inr ⟨c, e, by rw [hρ]; exact h1, by rw [hρ]; exact h2, Rrow_mk fun k v hk => ?_⟩
    obtain ⟨u, hu, hr⟩ := h3 k v hk
    exact ⟨u, by rw [hρ]; exact hu, by rw [Nat.zero_add]; exact hr (hp _)⟩
end
end Go.Proofs.YtiplgkbgkmomlaaD
