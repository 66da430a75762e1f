/- What can be read as an argument, as a value of the walk. -/
import Derived.Test.YtiplgkbgkmomlaaD21
import Derived.Deep.Slices
import Derived.ChangeArms
import Derived.ChangeSame
set_option linter.unusedVariables false
set_option linter.unusedSimpArgs false
namespace Go.Proofs.YtiplgkbgkmomlaaD
open Go Go.RowKit Go.Deep

def openE (w : World) : Env := baseE w fun _ => none
/-- What can be read as data of type t is, cell by cell, mk of some a; q holds of it. -/
def Opens {α : Type} (P : Program) (t : TypeId) (mk : α → List V) (q : α → Prop) : Prop :=
  ∀ (H : Type) (enc : TypeId × Value → H) (w : World) (spare : Nat → Bool) (held : Bool) (fuel : Nat) (cs : List Value) (x : DataW H × List MemPlace),
    DataW.trod enc P w 0 spare held fuel t cs = some x → ∃ a, Rvs (openE w) .none (mk a) cs ∧ q a

theorem opens_int {P : Program} {t : TypeId} {k : IntKind} (ht : P.underlying t = some (.int k)) : Opens P t (fun x => [.sc (.int k x)]) (fun x => (Lit.int k x).wf = true) := by
  intro H enc w spare held fuel cs x h
  obtain ⟨n, rfl, _, hw⟩ := DataW.trod_int ht h
  exact ⟨n, ⟨⟨rfl, rfl⟩, trivial⟩, hw⟩
theorem opens_bool {P : Program} {t : TypeId} (ht : P.underlying t = some .bool) : Opens P t (fun b => [cb b]) (fun _ => True) := by
  intro H enc w spare held fuel cs x h
  obtain ⟨b, rfl, _⟩ := DataW.trod_bool ht h
  exact ⟨b, ⟨⟨rfl, rfl⟩, trivial⟩, trivial⟩

theorem list_of {α : Type} {p : Nat → α → Prop} : ∀ n : Nat, (∀ i, i < n → ∃ x, p i x) → ∃ ys : List α, ys.length = n ∧ ∀ j y, ys[j]? = some y → p j y
  | 0, _ => ⟨[], rfl, fun j y h => by simp at h⟩
  | n + 1, h => by
    obtain ⟨ys, hl, hp⟩ := list_of n (fun i hi => h i (Nat.lt_succ_of_lt hi))
    obtain ⟨x, hx⟩ := h n (Nat.lt_succ_self n)
    refine ⟨ys ++ [x], by simp [hl], fun j y hj => ?_⟩
    rcases Nat.lt_or_ge j ys.length with hlt | hge
    · rw [List.getElem?_append_left hlt] at hj
      exact hp j y hj
    · rw [List.getElem?_append_right hge] at hj
      have hj0 : j - ys.length = 0 := by
        rcases Nat.eq_zero_or_pos (j - ys.length) with h0 | h0
        · exact h0
        · rw [List.getElem?_eq_none (by simp; omega)] at hj
          cases hj
      rw [hj0] at hj
      simp at hj
      subst hj
      have : j = n := by omega
      subst this
      exact hx
theorem rows_get {α : Type} {f : α → List V} {n : Nat} (h : ∀ x, (f x).length = n) {xs : List α} {m : Nat} {v : V} (hm : (rows f xs)[m]? = some v) : ∃ y, xs[m / n]? = some y ∧ (f y)[m % n]? = some v := by
  have hlt : m < xs.length * n := by rw [← rows_len h]; exact (List.getElem?_eq_some_iff.1 hm).1
  have hn : 0 < n := by
    rcases Nat.eq_zero_or_pos n with h0 | h0
    · rw [h0] at hlt; simp at hlt
    · exact h0
  have hk : m / n < xs.length := Nat.div_lt_of_lt_mul (by rw [Nat.mul_comm]; exact hlt)
  refine ⟨xs[m / n], List.getElem?_eq_getElem hk, ?_⟩
  have h1 := rows_at h xs (m / n) hk
  have h2 : m = m / n * n + m % n := by rw [Nat.mul_comm]; exact (Nat.div_add_mod m n).symm
  have hmod : m % n < n := Nat.mod_lt _ hn
  rw [h2, ← List.getElem?_drop, h1, List.getElem?_append_left (by rw [h]; exact hmod)] at hm
  exact hm

theorem opens_slice {α : Type} {P : Program} {t e : TypeId} {mk : α → List V} {q : α → Prop} {sz : Nat} (ht : P.underlying t = some (.slice e)) (hs : P.cellsOf e = sz) (hmk : ∀ a, (mk a).length = sz) (he : Opens P e mk q) :
    Opens P t (fun xs => [.ro xs.length (rows mk xs)]) (fun xs => xs.length ≤ maxLen ∧ ∀ x ∈ xs, q x) := by
  intro H enc w spare held fuel cs x h
  rcases open_slice ht h with ⟨rfl, _⟩ | ⟨a, len, cap, m, n, D, Pl, rfl, hb, hl, hm, hmm, _, hel⟩
  · exact ⟨[], ⟨⟨none, 0, rfl, Nat.le_refl _, fun h => absurd rfl h⟩, trivial⟩, by simp, by simp⟩
  · have hlm : len ≤ m := by rw [hmm]; split <;> omega
    obtain ⟨ys, hyl, hy⟩ := list_of (p := fun i (y : α) => (∃ c : List Value, Rvs (openE w) .none (mk y) c ∧ ∀ j u, c[j]? = some u → w.cell? (a.add (i * sz + j)) = some u) ∧ q y) len (fun i hi => by
      obtain ⟨cs', hc, hr⟩ := hel i (Nat.lt_of_lt_of_le hi hlm)
      obtain ⟨y, hk, hq⟩ := he H enc w spare held n cs' _ hr
      refine ⟨y, ⟨cs', hk, fun j u hu => ?_⟩, hq⟩
      have hlt : j < cs'.length := (List.getElem?_eq_some_iff.1 hu).1
      have hlen : cs'.length = sz := (Rvs_len hk).symm.trans (hmk y)
      have := (World.cells?_some hc).2.2 j (by rw [hs, ← hlen]; exact hlt)
      rw [Go.Deep.add_add, hs] at this
      rw [this, hu])
    subst hyl
    refine ⟨ys, ⟨⟨some a, cap, rfl, hl, fun hne => ?_⟩, trivial⟩, by omega, fun y hmem => ?_⟩
    · -- a cell is there: so the address is a plain one
      have hget : ∀ k v, (rows mk ys)[k]? = some v → ∃ u, w.cell? (a.add k) = some u ∧ Rv (openE w) .none v u := by
        intro k v hk
        obtain ⟨y, h1, h2⟩ := rows_get hmk hk
        obtain ⟨⟨c, hc, hcell⟩, _⟩ := hy _ y h1
        obtain ⟨u, hu, hru⟩ := Rvs_get hc _ v h2
        have := hcell _ u hu
        rw [Nat.mul_comm, Nat.div_add_mod] at this
        exact ⟨u, this, hru⟩
      have h0 : 0 < (rows mk ys).length := List.length_pos_iff.2 hne
      obtain ⟨u0, hu0, _⟩ := hget 0 _ (List.getElem?_eq_getElem h0)
      obtain ⟨b, off, spot⟩ := a
      have hspot : spot = none := by
        simp only [Addr.add, if_true, World.cell?] at hu0
        cases spot with
        | none => rfl
        | some s =>
          split at hu0
          · simp at hu0
          · cases hu0
      subst hspot
      have hblt : b < w.heap.size := by
        simp only [Addr.add, if_true, World.cell?] at hu0
        split at hu0
        · rename_i hh; exact heap_lt hh
        · cases hu0
      refine ⟨b, off, rfl, rfl, hblt, Rrow_mk fun k v hk => ?_⟩
      obtain ⟨u, hu, hru⟩ := hget k v hk
      rw [addr_add] at hu
      exact ⟨u, hu, hru⟩
    · obtain ⟨j, hj⟩ := List.getElem?_of_mem hmem
      exact (hy j y hj).2

theorem Rvs_append {E : Env} : ∀ {cs ds : List V} {xs ys : List Value}, Rvs E .none cs xs → Rvs E .none ds ys → Rvs E .none (cs ++ ds) (xs ++ ys)
  | [], ds, [], ys, _, h => h
  | c :: cs, ds, x :: xs, ys, h1, h2 => ⟨h1.1, Rvs_append h1.2 h2⟩
  | [], _, _ :: _, _, h, _ => h.elim
  | _ :: _, _, [], _, h, _ => h.elim

/-- A struct's cells: one field behind the other. -/
theorem opens_struct1 {α : Type} {P : Program} {t : TypeId} {f0 : Field} {mk : α → List V} {q0 : α → Prop} (ht : P.underlying t = some (.struct #[f0])) (hC : P.cellsOf t = P.cellsOf f0.type) (o0 : f0.offset = 0) (h0 : Opens P f0.type mk q0) :
    Opens P t mk q0 := by
  intro H enc w spare held fuel cs x h
  obtain ⟨xs, n, _, _, hl, hlen, hf⟩ := DataW.trod_struct ht h
  match xs, hlen with
  | [y0], _ =>
    have g0 := hf 0 f0 rfl
    rw [o0, List.drop_zero, List.take_of_length_le (by omega)] at g0
    exact h0 H enc w spare held n cs y0 (by simpa using g0)
theorem opens_struct2 {α β : Type} {P : Program} {t : TypeId} {f0 f1 : Field} {m0 : α → List V} {m1 : β → List V} {q0 : α → Prop} {q1 : β → Prop} (ht : P.underlying t = some (.struct #[f0, f1])) (o0 : f0.offset = 0) (o1 : f1.offset = P.cellsOf f0.type) (hC : P.cellsOf t = P.cellsOf f0.type + P.cellsOf f1.type)
    (h0 : Opens P f0.type m0 q0) (h1 : Opens P f1.type m1 q1) : Opens P t (fun x : α × β => m0 x.1 ++ m1 x.2) (fun x => q0 x.1 ∧ q1 x.2) := by
  intro H enc w spare held fuel cs x h
  obtain ⟨y0, y1, n, _, hl, g0, g1⟩ := Go.ChangeShapes.trod_struct2 ht h
  obtain ⟨a, ha, hqa⟩ := h0 H enc w spare held n _ _ g0
  obtain ⟨b, hb, hqb⟩ := h1 H enc w spare held n _ _ g1
  refine ⟨(a, b), ?_, hqa, hqb⟩
  have : cs = (cs.drop f0.offset).take (P.cellsOf f0.type) ++ (cs.drop f1.offset).take (P.cellsOf f1.type) := by
    rw [o0, o1, List.drop_zero]
    conv => lhs; rw [← List.take_append_drop (P.cellsOf f0.type) cs]
    congr 1
    rw [List.take_of_length_le]
    rw [List.length_drop]
    omega
  rw [this]
  exact Rvs_append ha hb
theorem opens_struct4 {α β γ δ : Type} {P : Program} {t : TypeId} {f0 f1 f2 f3 : Field} {m0 : α → List V} {m1 : β → List V} {m2 : γ → List V} {m3 : δ → List V} {q0 : α → Prop} {q1 : β → Prop} {q2 : γ → Prop} {q3 : δ → Prop} (ht : P.underlying t = some (.struct #[f0, f1, f2, f3]))
    (o0 : f0.offset = 0) (o1 : f1.offset = P.cellsOf f0.type) (o2 : f2.offset = P.cellsOf f0.type + P.cellsOf f1.type) (o3 : f3.offset = P.cellsOf f0.type + P.cellsOf f1.type + P.cellsOf f2.type) (hC : P.cellsOf t = P.cellsOf f0.type + P.cellsOf f1.type + P.cellsOf f2.type + P.cellsOf f3.type)
    (h0 : Opens P f0.type m0 q0) (h1 : Opens P f1.type m1 q1) (h2 : Opens P f2.type m2 q2) (h3 : Opens P f3.type m3 q3) : Opens P t (fun x : α × β × γ × δ => m0 x.1 ++ (m1 x.2.1 ++ (m2 x.2.2.1 ++ m3 x.2.2.2))) (fun x => q0 x.1 ∧ q1 x.2.1 ∧ q2 x.2.2.1 ∧ q3 x.2.2.2) := by
  intro H enc w spare held fuel cs x h
  obtain ⟨xs, n, _, _, hl, hlen, hf⟩ := DataW.trod_struct ht h
  match xs, hlen with
  | [y0, y1, y2, y3], _ =>
    have g0 := hf 0 f0 rfl
    have g1 := hf 1 f1 rfl
    have g2 := hf 2 f2 rfl
    have g3 := hf 3 f3 rfl
    obtain ⟨a, ha, hqa⟩ := h0 H enc w spare held n _ _ (by simpa using g0)
    obtain ⟨b, hb, hqb⟩ := h1 H enc w spare held n _ _ (by simpa using g1)
    obtain ⟨c, hc, hqc⟩ := h2 H enc w spare held n _ _ (by simpa using g2)
    obtain ⟨d, hd, hqd⟩ := h3 H enc w spare held n _ _ (by simpa using g3)
    refine ⟨(a, b, c, d), ?_, hqa, hqb, hqc, hqd⟩
    have split : ∀ (l : List Value) (o k : Nat), l.drop o = (l.drop o).take k ++ l.drop (o + k) := fun l o k => by
      rw [← List.drop_drop, List.take_append_drop]
    have : cs = (cs.drop f0.offset).take (P.cellsOf f0.type) ++ ((cs.drop f1.offset).take (P.cellsOf f1.type) ++ ((cs.drop f2.offset).take (P.cellsOf f2.type) ++ (cs.drop f3.offset).take (P.cellsOf f3.type))) := by
      have e0 := split cs 0 (P.cellsOf f0.type)
      have e1 := split cs (P.cellsOf f0.type) (P.cellsOf f1.type)
      have e2 := split cs (P.cellsOf f0.type + P.cellsOf f1.type) (P.cellsOf f2.type)
      have e3 : cs.drop (P.cellsOf f0.type + P.cellsOf f1.type + P.cellsOf f2.type) = (cs.drop (P.cellsOf f0.type + P.cellsOf f1.type + P.cellsOf f2.type)).take (P.cellsOf f3.type) := by
        rw [List.take_of_length_le]
        rw [List.length_drop]
        omega
      rw [o0, o1, o2, o3, ← e3, ← e2, ← e1]
      rw [List.drop_zero, Nat.zero_add] at e0
      rw [List.drop_zero]
      exact e0
    rw [this]
    exact Rvs_append ha (Rvs_append hb (Rvs_append hc hd))
theorem Opens.iso {α β : Type} {P : Program} {t : TypeId} {mk : α → List V} {q : α → Prop} (h : Opens P t mk q) (mk' : β → List V) (g : α → β) (hg : ∀ x, mk' (g x) = mk x) : Opens P t mk' (fun y => ∃ x, g x = y ∧ q x) := by
  intro H enc w spare held fuel cs x hx
  obtain ⟨a, ha, hq⟩ := h H enc w spare held fuel cs x hx
  exact ⟨g a, by rw [hg]; exact ha, a, rfl, hq⟩
theorem Opens.weak {α : Type} {P : Program} {t : TypeId} {mk : α → List V} {q q' : α → Prop} (h : Opens P t mk q) (hq : ∀ a, q a → q' a) : Opens P t mk q' := by
  intro H enc w spare held fuel cs x hx
  obtain ⟨a, ha, hqa⟩ := h H enc w spare held fuel cs x hx
  exact ⟨a, ha, hq a hqa⟩
/-- An argument that lies in one cell. -/
theorem Opens.cell_in {α : Type} {P : Program} {t : TypeId} {mk : α → V} {q : α → Prop} (h : Opens P t (fun a => [mk a]) q) {H : Type} {enc : TypeId × Value → H} {w : World} {spare : Nat → Bool} {held : Bool} {v : Value} {dd : DataW H} {ps : List MemPlace}
    (ht : DataW.Trod enc P w 0 spare held t v dd ps) (hv : v.cells = #[v]) : ∃ a, Rv (openE w) .none (mk a) v ∧ q a := by
  obtain ⟨fuel, hf⟩ := ht
  obtain ⟨a, ha, hq⟩ := h H enc w spare held fuel _ _ hf
  rw [hv] at ha
  exact ⟨a, ha.1, hq⟩
/-- A struct that came in by value. -/
theorem Opens.agg_in {α : Type} {P : Program} {t : TypeId} {mk : α → List V} {q : α → Prop} (h : Opens P t mk q) {H : Type} {enc : TypeId × Value → H} {w : World} {spare : Nat → Bool} {held : Bool} {cs : Array Value} {dd : DataW H} {ps : List MemPlace}
    (ht : DataW.Trod enc P w 0 spare held t (.agg cs) dd ps) : ∃ a, Rv (openE w) .none (.agg (mk a)) (.agg cs) ∧ q a := by
  obtain ⟨fuel, hf⟩ := ht
  obtain ⟨a, ha, hq⟩ := h H enc w spare held fuel _ _ hf
  exact ⟨a, ⟨cs.toList, by simp, ha⟩, hq⟩
/-- A law whose contract is to say true. -/
theorem law_calls {P : Program} {f : FuncId} {as : List V} {xs : List Value} {w : World} (h : Spec P f as (cb true)) (hv : Rvs (openE w) .none as xs) : Calls P f xs.toArray w fun e w' => e = .returned (.bool true) ∧ Below w.heap.size w w' := by
  refine Calls.mono (h.2 w (fun _ => none) xs (fun b p hp => by cases hp) hv) fun e w' he => ?_
  cases e with
  | returned x =>
    obtain ⟨hb, o', _, _, k0, hx⟩ := he
    exact ⟨by rw [hx.1], hb⟩
  | panicked chain => exact he.elim
  | outgrown => exact he.elim
end Go.Proofs.YtiplgkbgkmomlaaD
