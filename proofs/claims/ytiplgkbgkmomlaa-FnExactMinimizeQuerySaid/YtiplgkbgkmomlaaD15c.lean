/- What is lent goes out and comes back. -/
import Derived.Test.YtiplgkbgkmomlaaD15b
set_option linter.unusedVariables false
set_option linter.unusedSimpArgs false
namespace Go.Proofs.YtiplgkbgkmomlaaD
open Go Go.RowKit

section
variable {P : Program} {Γ : Tab} {C : Ctx} {E : Env} {s : St} {a : Act} {o : Oper} {K : V → St → Prop}

theorem lab_mono (hR : Rel C E s a) (τ : Tgts) : Mono E.bare (baseE E.w (lab0 E τ)) := by
  refine ⟨Nat.le_refl _, fun b _ hok => ⟨?_, rfl⟩, Nat.le_refl _, fun _ h _ => absurd h (Nat.not_lt_zero _), fun _ _ h _ => absurd h (Nat.not_lt_zero _)⟩
  have hok' : E.okb b := hok
  rw [hR.okb] at hok'
  show lab0 E τ b = none
  simp [lab0, hok']
theorem lab_moved {τ : Tgts} (hi : Inc τ) {k : Nat} {q : List Nat} (h : (k, q) ∈ τ) : Moved E.bare (baseE E.w (lab0 E τ)) q [k] := fun b r hb => by
  have hb' : E.o b = some (q ++ r) := hb
  refine ⟨?_, rfl⟩
  show lab0 E τ b = _
  simp [lab0, hb', fwd_of hi h]
/-- What a leaf is lent as, and how it comes back. -/
structure Leaf (E : Env) (s : St) (v : V) (x : Value) (X : Lents) (τ : Tgts) (kid : Nat) (u : V) (X' : Lents) (τ' : Tgts) : Prop where
  tgt : Tgt s X' τ' (kid + nl u)
  subX : ∀ e ∈ X, e ∈ X'
  subT : ∀ e ∈ τ, e ∈ τ'
  new : ∀ k q, (k, q) ∈ τ' → (k, q) ∈ τ ∨ kid ≤ k
  fix : ∀ l, (l, none) ∈ X → ∀ k, (k, [l]) ∈ τ' → (k, [l]) ∈ τ
  give : ∀ τf, Ext X' τ' τf (kid + nl u) → Inc τf → Rv (baseE E.w (lab0 E τf)) (.top kid) u x
  back : ∀ {Xf : Lents} {τf : Tgts} {E3 : Env} {w' : World} {o' : Lab} {st : St} {out : V} {K' : St → Prop} {M : Nat}, (∀ e ∈ X', e ∈ Xf) → Ext X' τ' τf (kid + nl u) → Tgt s Xf τf M → LC E τf E3 w' o' → RI E s Xf τf E3 kid st → Rv (baseE w' o') (.top kid) out x → backK st v out K' →
    nl out = nl u ∧ ∃ st', K' st' ∧ RI E s Xf τf E3 (kid + nl u) st'
structure Leaves (E : Env) (s : St) (vs : List V) (xs : List Value) (X : Lents) (τ : Tgts) (kid : Nat) (us : List V) (X' : Lents) (τ' : Tgts) : Prop where
  tgt : Tgt s X' τ' (kid + nls us)
  subX : ∀ e ∈ X, e ∈ X'
  subT : ∀ e ∈ τ, e ∈ τ'
  new : ∀ k q, (k, q) ∈ τ' → (k, q) ∈ τ ∨ kid ≤ k
  fix : ∀ l, (l, none) ∈ X → ∀ k, (k, [l]) ∈ τ' → (k, [l]) ∈ τ
  give : ∀ τf, Ext X' τ' τf (kid + nls us) → Inc τf → Rvs (baseE E.w (lab0 E τf)) (.top kid) us xs
  back : ∀ {Xf : Lents} {τf : Tgts} {E3 : Env} {w' : World} {o' : Lab} {st : St} {outs : List V} {K' : St → Prop} {M : Nat}, (∀ e ∈ X', e ∈ Xf) → Ext X' τ' τf (kid + nls us) → Tgt s Xf τf M → LC E τf E3 w' o' → RI E s Xf τf E3 kid st → Rvs (baseE w' o') (.top kid) outs xs → backsK st vs outs K' →
    nls outs = nls us ∧ ∃ st', K' st' ∧ RI E s Xf τf E3 (kid + nls us) st'

theorem ri_skip {Xf : Lents} {τ τf : Tgts} {E3 : Env} {kid m : Nat} {st : St} (hT : ∀ k q, (k, q) ∈ τ → k < kid) {X : Lents} (he : Ext X τ τf m) (h : RI E s Xf τf E3 kid st) : RI E s Xf τf E3 m st :=
  h.next fun k q hm hk => by
    rcases Nat.lt_or_ge k m with h1 | h1
    · have := hT k q (he.new k q hm h1)
      omega
    · exact h1
/-- A leaf that nothing is lent of. -/
theorem leaf_still {v : V} {x : Value} {X : Lents} {τ : Tgts} {kid : Nat} {u : V} (hT : Tgt s X τ kid) (hn : nl u = 1) (hg : ∀ τf, Inc τf → Rv (baseE E.w (lab0 E τf)) (.top kid) u x)
    (hb : ∀ {st : St} {out : V} {K' : St → Prop}, backK st v out K' → nl out = 1 ∧ K' st) : Leaf E s v x X τ kid u X τ where
  tgt := hT.le (Nat.le_add_right _ _)
  subX := fun e h => h
  subT := fun e h => h
  new := fun k q h => .inl h
  fix := fun l _ k h => h
  give := fun τf _ hi => hg τf hi
  back := fun {Xf τf E3 w' o' st out K' M} _ he _ _ hI _ hk => by
    obtain ⟨h1, h2⟩ := hb hk
    exact ⟨h1.trans hn.symm, st, h2, ri_skip hT.lt he hI⟩
theorem put_any_ob {st : St} {i : Nat} {x : Option Obj} (hlt : i < st.g.length) (j : Nat) : (st.put i x).ob j = if j = i then x else st.ob j := by
  simp only [St.ob, St.put, obOf_set]
  by_cases hj : j = i
  · rw [if_pos ⟨hj, hlt⟩, if_pos hj]
  · rw [if_neg (fun h => hj h.1), if_neg hj]
/-- A whole row comes back. -/
theorem ri_put {Xf : Lents} {τf : Tgts} {E3 : Env} {kid i : Nat} {st : St} {x : Option Obj} (hi : i < s.g.length) (hob : (s.ob i).isSome = true) (hX : (i, none) ∈ Xf) (hkey : ∀ k q, (k, q) ∈ τf → kid ≤ k → q = [i] ∨ kid + 1 ≤ k) (hI : RI E s Xf τf E3 kid st)
    (hb : ∀ cs, x ≠ some ⟨true, cs⟩) (hlab : x.isSome = true → E.o (E.ρ i).1 = some [i] → E3.o (E.ρ i).1 = some [i])
    (hrow : ∀ cs, x = some ⟨false, cs⟩ → cs = [] ∨ ∃ c e, E3.w.heap[(E.ρ i).1]? = some (.cells c e (0, 0)) ∧ E3.o (E.ρ i).1 = some [i] ∧ Rrow E3.bare (.at [i]) (E.ρ i).1 (E.ρ i).2 0 cs) : RI E s Xf τf E3 (kid + 1) (st.put i x) := by
  have hlt : i < st.g.length := by rw [hI.len]; exact hi
  have hpd : ∀ l, l ≠ i → ∀ r, ¬ Pd τf (kid + 1) (l :: r) → ¬ Pd τf kid (l :: r) := by
    rintro l hl r hn ⟨k, h1, h2⟩
    rcases hkey k _ h2 h1 with h3 | h3
    · simp at h3; exact hl h3.1
    · exact hn ⟨k, h3, h2⟩
  refine ⟨hI.t, hI.N, by rw [put_len]; exact hI.len, fun l cs h => ?_, fun l h => ?_, fun l j h => ?_, fun l h hn ho => ?_, fun l cs h hn => ?_, hI.sub⟩
  · rw [put_any_ob hlt] at h
    by_cases hl : l = i
    · rw [if_pos hl] at h; exact absurd h (hb cs)
    · rw [if_neg hl] at h; exact hI.box l cs h
  · rw [put_any_ob hlt] at h
    by_cases hl : l = i
    · rw [hl]; exact hob
    · rw [if_neg hl] at h; exact hI.live l h
  · by_cases hl : l = i
    · right; rw [hl]; exact hX
    · obtain ⟨cs, sz, n, r, hg, hj⟩ := h
      rw [put_any_ob hlt, if_neg hl] at hg
      exact hI.tr l j ⟨cs, sz, n, r, hg, hj⟩
  · rw [put_any_ob hlt] at h
    by_cases hl : l = i
    · subst hl
      rw [if_pos rfl] at h
      exact hlab h ho
    · rw [if_neg hl] at h
      exact hI.lab l h (hpd l hl [] hn) ho
  · rw [put_any_ob hlt] at h
    by_cases hl : l = i
    · subst hl
      rw [if_pos rfl] at h
      rcases hrow cs h with h0 | ⟨c, e, h1, h2, h3⟩
      · exact .inl h0
      · refine .inr ⟨c, e, h1, h2, fun k v hk => ?_⟩
        obtain ⟨u, hu, hr⟩ := Rrow_get h3 k v hk
        exact ⟨u, hu, fun _ => by rw [Nat.zero_add] at hr; exact hr⟩
    · rw [if_neg hl] at h
      rcases hI.row l cs h (hpd l hl [] hn) with h0 | ⟨c, e, h1, h2, h3⟩
      · exact .inl h0
      · refine .inr ⟨c, e, h1, h2, fun k v hk => ?_⟩
        obtain ⟨u, hu, hr⟩ := h3 k v hk
        exact ⟨u, hu, fun hn' => hr (hpd l hl [k] hn')⟩

/-- A target that is added. -/
theorem tgt_whole {X : Lents} {τ : Tgts} {kid i : Nat} {cs : List V} (hT : Tgt s X τ kid) (hob : s.ob i = some ⟨false, cs⟩) (hno : noneOf X i = true) (act : Bool) : Tgt s ((i, none) :: X) (if act then (kid, [i]) :: τ else τ) (kid + 1) := by
  have hm := noneOf_mem hno
  have hne : ∀ k q, (k, q) ∈ τ → ∀ r, q ≠ i :: r := by
    intro k q h r he
    rcases hT.at_ k q h with ⟨i', rfl, hx⟩ | ⟨i', j', rfl, hx⟩
    · simp at he; obtain ⟨rfl, _⟩ := he; exact hm _ hx
    · simp at he; obtain ⟨rfl, _⟩ := he; exact hm _ hx
  have hne' : ∀ k q, (k, q) ∈ τ → q ≠ [] := by
    intro k q h he
    rcases hT.at_ k q h with ⟨i', rfl, hx⟩ | ⟨i', j', rfl, hx⟩ <;> simp at he
  refine ⟨?_, ?_, ?_, ?_, ?_⟩
  · cases act with
    | false => exact hT.inc
    | true =>
      refine ⟨fun k q k' q' h h' hp => ?_, fun k q q' h h' => ?_⟩
      · simp only [if_true, List.mem_cons, Prod.mk.injEq] at h h'
        rcases h with ⟨rfl, rfl⟩ | h <;> rcases h' with ⟨rfl, rfl⟩ | h'
        · exact ⟨rfl, rfl⟩
        · obtain ⟨t, ht⟩ := hp
          exact absurd ht.symm (hne _ _ h' t)
        · obtain ⟨t, ht⟩ := hp
          cases q with
          | nil => exact absurd rfl (hne' _ _ h)
          | cons z q =>
            simp at ht
            exact absurd (by rw [ht.1]) (hne _ _ h q)
        · exact hT.inc.inc _ _ _ _ h h' hp
      · simp only [if_true, List.mem_cons, Prod.mk.injEq] at h h'
        rcases h with ⟨rfl, rfl⟩ | h <;> rcases h' with ⟨hk, rfl⟩ | h'
        · rfl
        · exact absurd (hT.lt _ _ h') (Nat.lt_irrefl _)
        · subst hk; exact absurd (hT.lt _ _ h) (Nat.lt_irrefl _)
        · exact hT.inc.fn _ _ _ h h'
  · intro k q h
    cases act with
    | false => exact Nat.lt_succ_of_lt (hT.lt k q h)
    | true =>
      simp only [if_true, List.mem_cons, Prod.mk.injEq] at h
      rcases h with ⟨rfl, _⟩ | h
      · exact Nat.lt_succ_self _
      · exact Nat.lt_succ_of_lt (hT.lt k q h)
  · intro k q h
    have old : (k, q) ∈ τ → (∃ i', q = [i'] ∧ (i', none) ∈ (i, none) :: X) ∨ (∃ i' j, q = [i', j] ∧ (i', some j) ∈ (i, none) :: X) := by
      intro h
      rcases hT.at_ k q h with ⟨i', rfl, hx⟩ | ⟨i', j', rfl, hx⟩
      · exact .inl ⟨i', rfl, by simp [hx]⟩
      · exact .inr ⟨i', j', rfl, by simp [hx]⟩
    cases act with
    | false => exact old h
    | true =>
      simp only [if_true, List.mem_cons, Prod.mk.injEq] at h
      rcases h with ⟨_, rfl⟩ | h
      · exact .inl ⟨i, rfl, by simp⟩
      · exact old h
  · intro l h
    simp only [List.mem_cons, Prod.mk.injEq, and_true] at h
    rcases h with rfl | h
    · exact ⟨cs, hob⟩
    · exact hT.row l h
  · intro l j h h'
    simp only [List.mem_cons, Prod.mk.injEq, reduceCtorEq, and_false, false_or, and_true] at h h'
    rcases h' with rfl | h'
    · exact hm _ h
    · exact hT.ex l j h h'
theorem tgt_cell {X : Lents} {τ : Tgts} {kid i j : Nat} (hT : Tgt s X τ kid) (hno : noWhole X i = true) (hap : apart X i j) (act : Bool) : Tgt s ((i, some j) :: X) (if act then (kid, [i, j]) :: τ else τ) (kid + 1) := by
  have hm := noWhole_mem hno
  have hm2 := apart_mem hap
  have hne : ∀ k q, (k, q) ∈ τ → ¬ [i, j] <+: q ∧ ¬ q <+: [i, j] := by
    intro k q h
    rcases hT.at_ k q h with ⟨i', rfl, hx⟩ | ⟨i', j', rfl, hx⟩
    · refine ⟨fun ⟨t, ht⟩ => by simp at ht, fun ⟨t, ht⟩ => ?_⟩
      simp at ht
      rw [ht.1] at hx
      exact hm hx
    · refine ⟨fun ⟨t, ht⟩ => ?_, fun ⟨t, ht⟩ => ?_⟩
      · simp at ht
        rw [← ht.1, ← ht.2.1] at hx
        exact hm2 hx
      · simp at ht
        rw [ht.1, ht.2.1] at hx
        exact hm2 hx
  refine ⟨?_, ?_, ?_, ?_, ?_⟩
  · cases act with
    | false => exact hT.inc
    | true =>
      refine ⟨fun k q k' q' h h' hp => ?_, fun k q q' h h' => ?_⟩
      · simp only [if_true, List.mem_cons, Prod.mk.injEq] at h h'
        rcases h with ⟨rfl, rfl⟩ | h <;> rcases h' with ⟨rfl, rfl⟩ | h'
        · exact ⟨rfl, rfl⟩
        · exact absurd hp (hne _ _ h').1
        · exact absurd hp (hne _ _ h).2
        · exact hT.inc.inc _ _ _ _ h h' hp
      · simp only [if_true, List.mem_cons, Prod.mk.injEq] at h h'
        rcases h with ⟨rfl, rfl⟩ | h <;> rcases h' with ⟨hk, rfl⟩ | h'
        · rfl
        · exact absurd (hT.lt _ _ h') (Nat.lt_irrefl _)
        · subst hk; exact absurd (hT.lt _ _ h) (Nat.lt_irrefl _)
        · exact hT.inc.fn _ _ _ h h'
  · intro k q h
    cases act with
    | false => exact Nat.lt_succ_of_lt (hT.lt k q h)
    | true =>
      simp only [if_true, List.mem_cons, Prod.mk.injEq] at h
      rcases h with ⟨rfl, _⟩ | h
      · exact Nat.lt_succ_self _
      · exact Nat.lt_succ_of_lt (hT.lt k q h)
  · intro k q h
    have old : (k, q) ∈ τ → (∃ i', q = [i'] ∧ (i', none) ∈ (i, some j) :: X) ∨ (∃ i' j', q = [i', j'] ∧ (i', some j') ∈ (i, some j) :: X) := by
      intro h
      rcases hT.at_ k q h with ⟨i', rfl, hx⟩ | ⟨i', j', rfl, hx⟩
      · exact .inl ⟨i', rfl, by simp [hx]⟩
      · exact .inr ⟨i', j', rfl, by simp [hx]⟩
    cases act with
    | false => exact old h
    | true =>
      simp only [if_true, List.mem_cons, Prod.mk.injEq] at h
      rcases h with ⟨_, rfl⟩ | h
      · exact .inr ⟨i, j, rfl, by simp⟩
      · exact old h
  · intro l h
    simp only [List.mem_cons, Prod.mk.injEq, reduceCtorEq, and_false, false_or] at h
    exact hT.row l h
  · intro l l' h h'
    simp only [List.mem_cons, Prod.mk.injEq, reduceCtorEq, and_false, false_or, Option.some.injEq] at h h'
    rcases h with ⟨rfl, _⟩ | h
    · exact hm h'
    · exact hT.ex l l' h h'
end
end Go.Proofs.YtiplgkbgkmomlaaD
