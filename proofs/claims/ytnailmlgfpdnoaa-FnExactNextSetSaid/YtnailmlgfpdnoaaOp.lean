/- Data that the form can read as an argument (whole numbers, bools, slices, structs, nested in each other) reads by the print's kinds. -/
import Derived.Test.YtnailmlgfpdnoaaWWords
import Derived.Deep.Slices
import Derived.ChangeArms
import Derived.ChangeSame
namespace Go.Proofs.YtnailmlgfpdnoaaOp
open Go Go.RowKit Go.Deep Go.Proofs.YtnailmlgfpdnoaaW.PrintWords

/-- What can be read as data of type t reads by the kind k; q holds of it. -/
def Opens {α : Type} (P : Program) (t : TypeId) (k : Kd α) (q : α → Prop) : Prop :=
  ∀ (H : Type) (enc : TypeId × Value → H) (w : World) (spare : Nat → Bool) (held : Bool) (fuel : Nat) (cs : List Value) (x : DataW H × List MemPlace),
    DataW.trod enc P w 0 spare held fuel t cs = some x → ∃ a, k.K w a cs ∧ q a

theorem opens_int {P : Program} {t : TypeId} {k : IntKind} (ht : P.underlying t = some (.int k)) : Opens P t (Kd.int k) (fun x => (Lit.int k x).wf = true) := by
  intro H enc w spare held fuel cs x h
  obtain ⟨n, rfl, _, hw⟩ := DataW.trod_int ht h
  exact ⟨n, rfl, hw⟩

theorem opens_bool {P : Program} {t : TypeId} (ht : P.underlying t = some .bool) : Opens P t Kd.bool (fun _ => True) := by
  intro H enc w spare held fuel cs x h
  obtain ⟨b, rfl, _⟩ := DataW.trod_bool ht h
  exact ⟨b, rfl, trivial⟩

theorem list_of {α : Type} {p : Nat → α → Prop} : ∀ n : Nat, (∀ i, i < n → ∃ x, p i x) → ∃ ys : List α, ys.length = n ∧ ∀ j y, ys[j]? = some y → p j y
  | 0, _ => ⟨[], rfl, fun j y h => by simp at h⟩
  | n + 1, h => by
    obtain ⟨ys, hl, hp⟩ := list_of n (fun i hi => h i (Nat.lt_succ_of_lt hi))
    obtain ⟨x, hx⟩ := h n (Nat.lt_succ_self n)
    refine ⟨ys ++ [x], by simp [hl], fun j y hj => ?_⟩
    rcases Nat.lt_or_ge j ys.length with hlt | hge
    · rw [List.getElem?_append_left hlt] at hj
      exact hp j y hj
    · rw [List.getElem?_append_right hge] at hj
      have hj0 : j - ys.length = 0 := by
        rcases Nat.eq_zero_or_pos (j - ys.length) with h0 | h0
        · exact h0
        · rw [List.getElem?_eq_none (by simp; omega)] at hj
          cases hj
      rw [hj0] at hj
      simp at hj
      subst hj
      have : j = n := by omega
      subst this
      exact hx

theorem opens_slice {α : Type} {P : Program} {t e : TypeId} {d : Kd α} {q : α → Prop} (ht : P.underlying t = some (.slice e)) (hs : P.cellsOf e = d.sz) (he : Opens P e d q) :
    Opens P t (Kd.slice e d) (fun xs => xs.length ≤ maxLen ∧ ∀ x ∈ xs, q x) := by
  intro H enc w spare held fuel cs x h
  rcases open_slice ht h with ⟨rfl, _⟩ | ⟨a, len, cap, m, n, D, Pl, rfl, hb, hl, hm, hmm, _, hel⟩
  · exact ⟨[], ⟨none, 0, rfl, Nat.le_refl _, rfl, by simp, fun h => absurd h (by simp)⟩, by simp, by simp⟩
  · have hlm : len ≤ m := by rw [hmm]; split <;> omega
    obtain ⟨ys, hyl, hy⟩ := list_of (p := fun i (y : α) => (∃ c, c.length = d.sz ∧ d.K w y c ∧ ∀ j u, c[j]? = some u → w.cell? (a.add (i * d.sz + j)) = some u) ∧ q y) len (fun i hi => by
      obtain ⟨cs', hc, hr⟩ := hel i (Nat.lt_of_lt_of_le hi hlm)
      obtain ⟨y, hk, hq⟩ := he H enc w spare held n cs' _ hr
      refine ⟨y, ⟨cs', d.K_len hk, hk, fun j u hu => ?_⟩, hq⟩
      have hlt : j < cs'.length := by
        rcases Nat.lt_or_ge j cs'.length with h0 | h0
        · exact h0
        · rw [List.getElem?_eq_none h0] at hu
          cases hu
      have := (World.cells?_some hc).2.2 j (by rw [hs, ← d.K_len hk]; exact hlt)
      rw [Go.Deep.add_add, hs] at this
      rw [this, hu])
    subst hyl
    have hmax : ys.length ≤ 9223372036854775807 := by simp only [maxLen] at hm; omega
    refine ⟨ys, ⟨some a, cap, rfl, hl, rfl, hmax, fun _ => ⟨a, rfl, fun j y hj => (hy j y hj).1⟩⟩, by omega, fun y hm => ?_⟩
    obtain ⟨j, hj⟩ := List.getElem?_of_mem hm
    exact (hy j y hj).2

/-- A struct's cells: one field behind the other. -/
theorem opens_struct1 {α : Type} {P : Program} {t : TypeId} {f0 : Field} {d0 : Kd α} {q0 : α → Prop} (ht : P.underlying t = some (.struct #[f0])) (hC : P.cellsOf t = P.cellsOf f0.type) (o0 : f0.offset = 0) (h0 : Opens P f0.type d0 q0) :
    Opens P t d0 q0 := by
  intro H enc w spare held fuel cs x h
  obtain ⟨xs, n, _, _, hl, hlen, hf⟩ := DataW.trod_struct ht h
  match xs, hlen with
  | [y0], _ =>
    have g0 := hf 0 f0 rfl
    rw [o0, List.drop_zero, List.take_of_length_le (by omega)] at g0
    exact h0 H enc w spare held n cs y0 (by simpa using g0)

theorem opens_struct2 {α β : Type} {P : Program} {t : TypeId} {f0 f1 : Field} {d0 : Kd α} {d1 : Kd β} {q0 : α → Prop} {q1 : β → Prop} (ht : P.underlying t = some (.struct #[f0, f1])) (o0 : f0.offset = 0) (o1 : f1.offset = P.cellsOf f0.type) (hC : P.cellsOf t = P.cellsOf f0.type + P.cellsOf f1.type)
    (h0 : Opens P f0.type d0 q0) (h1 : Opens P f1.type d1 q1) : Opens P t (Kd.pair d0 d1) (fun x => q0 x.1 ∧ q1 x.2) := by
  intro H enc w spare held fuel cs x h
  obtain ⟨y0, y1, n, _, hl, g0, g1⟩ := Go.ChangeShapes.trod_struct2 ht h
  obtain ⟨a, ha, hqa⟩ := h0 H enc w spare held n _ _ g0
  obtain ⟨b, hb, hqb⟩ := h1 H enc w spare held n _ _ g1
  refine ⟨(a, b), ⟨_, _, ?_, ha, hb⟩, hqa, hqb⟩
  rw [o0, o1, List.drop_zero]
  conv => lhs; rw [← List.take_append_drop (P.cellsOf f0.type) cs]
  congr 1
  rw [List.take_of_length_le]
  rw [List.length_drop]
  omega

theorem opens_struct4 {α β γ δ : Type} {P : Program} {t : TypeId} {f0 f1 f2 f3 : Field} {d0 : Kd α} {d1 : Kd β} {d2 : Kd γ} {d3 : Kd δ} {q0 : α → Prop} {q1 : β → Prop} {q2 : γ → Prop} {q3 : δ → Prop} (ht : P.underlying t = some (.struct #[f0, f1, f2, f3]))
    (o0 : f0.offset = 0) (o1 : f1.offset = 1) (o2 : f2.offset = 2) (o3 : f3.offset = 3) (c0 : P.cellsOf f0.type = 1) (c1 : P.cellsOf f1.type = 1) (c2 : P.cellsOf f2.type = 1) (c3 : P.cellsOf f3.type = 1) (hC : P.cellsOf t = 4)
    (h0 : Opens P f0.type d0 q0) (h1 : Opens P f1.type d1 q1) (h2 : Opens P f2.type d2 q2) (h3 : Opens P f3.type d3 q3) :
    Opens P t (Kd.pair d0 (Kd.pair d1 (Kd.pair d2 d3))) (fun x => q0 x.1 ∧ q1 x.2.1 ∧ q2 x.2.2.1 ∧ q3 x.2.2.2) := by
  intro H enc w spare held fuel cs x h
  obtain ⟨xs, n, _, _, hl, hlen, hf⟩ := DataW.trod_struct ht h
  match xs, hlen with
  | [y0, y1, y2, y3], _ =>
    have g0 := hf 0 f0 rfl
    have g1 := hf 1 f1 rfl
    have g2 := hf 2 f2 rfl
    have g3 := hf 3 f3 rfl
    rw [hC] at hl
    match cs, hl with
    | [u0, u1, u2, u3], _ =>
      simp only [o0, o1, o2, o3, c0, c1, c2, c3] at g0 g1 g2 g3
      obtain ⟨a, ha, hqa⟩ := h0 H enc w spare held n [u0] y0 (by simpa using g0)
      obtain ⟨b, hb, hqb⟩ := h1 H enc w spare held n [u1] y1 (by simpa using g1)
      obtain ⟨c, hc, hqc⟩ := h2 H enc w spare held n [u2] y2 (by simpa using g2)
      obtain ⟨d, hd, hqd⟩ := h3 H enc w spare held n [u3] y3 (by simpa using g3)
      exact ⟨(a, b, c, d), ⟨[u0], [u1, u2, u3], rfl, ha, [u1], [u2, u3], rfl, hb, [u2], [u3], rfl, hc, hd⟩, hqa, hqb, hqc, hqd⟩

theorem Opens.iso {α β : Type} {P : Program} {t : TypeId} {d : Kd α} {q : α → Prop} (h : Opens P t d q) (f : β → α) (g : α → β) (hg : ∀ x, f (g x) = x) : Opens P t (Kd.iso d f) (fun y => q (f y)) := by
  intro H enc w spare held fuel cs x hx
  obtain ⟨a, ha, hq⟩ := h H enc w spare held fuel cs x hx
  refine ⟨g a, ?_, ?_⟩
  · show d.K w (f (g a)) cs
    rw [hg]
    exact ha
  · show q (f (g a))
    rw [hg]
    exact hq
theorem Opens.weak {α : Type} {P : Program} {t : TypeId} {d : Kd α} {q q' : α → Prop} (h : Opens P t d q) (hq : ∀ a, q a → q' a) : Opens P t d q' := by
  intro H enc w spare held fuel cs x hx
  obtain ⟨a, ha, hqa⟩ := h H enc w spare held fuel cs x hx
  exact ⟨a, ha, hq a hqa⟩

/-- A slice that came in. -/
theorem Opens.slice_in {α : Type} {P : Program} {t e : TypeId} {d : Kd α} {q : List α → Prop} (h : Opens P t (Kd.slice e d) q) {H : Type} {enc : TypeId × Value → H} {w : World} {spare : Nat → Bool} {held : Bool} {v : Value} {dd : DataW H} {ps : List MemPlace}
    (ht : DataW.Trod enc P w 0 spare held t v dd ps) (hv : v.cells = #[v]) : ∃ A c xs, v = .slice A xs.length c ∧ xs.length ≤ c ∧ d.C w A xs.length xs ∧ q xs := by
  obtain ⟨fuel, hf⟩ := ht
  obtain ⟨xs, ⟨A, c, he, hl, hr⟩, hq⟩ := h H enc w spare held fuel _ _ hf
  rw [hv] at he
  simp at he
  exact ⟨A, c, xs, he, hl, hr, hq⟩
/-- A struct that came in by value. -/
theorem Opens.agg_in {α : Type} {P : Program} {t : TypeId} {d : Kd α} {q : α → Prop} (h : Opens P t d q) {H : Type} {enc : TypeId × Value → H} {w : World} {spare : Nat → Bool} {held : Bool} {cs : Array Value} {dd : DataW H} {ps : List MemPlace}
    (ht : DataW.Trod enc P w 0 spare held t (.agg cs) dd ps) : ∃ a, d.K w a cs.toList ∧ q a := by
  obtain ⟨fuel, hf⟩ := ht
  exact h H enc w spare held fuel _ _ hf
end Go.Proofs.YtnailmlgfpdnoaaOp
