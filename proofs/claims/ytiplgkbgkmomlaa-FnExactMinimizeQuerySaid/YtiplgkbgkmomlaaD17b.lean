/- How operations hang on the state: what they look at, what they leave. -/
import Derived.Test.YtiplgkbgkmomlaaD17
import Derived.Test.YtiplgkbgkmomlaaD8
set_option linter.unusedVariables false
set_option linter.unusedSimpArgs false
namespace Go.Proofs.YtiplgkbgkmomlaaD
open Go

section
variable {Γ : Tab} {spec : CallRel} {o : Oper} {s s' : St} {K K' : V → St → Prop}

def LeG (g g' : List (Option Obj)) : Prop := ∀ i ob, obOf g i = some ob → obOf g' i = some ob
def LeB (g g' : List (Option Obj)) : Prop := ∀ i cs, obOf g i = some ⟨true, cs⟩ → obOf g' i = some ⟨true, cs⟩
theorem LeG.b {g g' : List (Option Obj)} (h : LeG g g') : LeB g g' := fun i cs hi => h i _ hi
theorem LeG.refl (g : List (Option Obj)) : LeG g g := fun _ _ h => h
theorem LeB.refl (g : List (Option Obj)) : LeB g g := fun _ _ h => h
theorem LeB.trans {a b c : List (Option Obj)} (h : LeB a b) (k : LeB b c) : LeB a c := fun i cs hi => k i cs (h i cs hi)
theorem obOf_app : ∀ {g : List (Option Obj)} {more : List (Option Obj)} {i : Nat} {ob : Obj}, obOf g i = some ob → obOf (g ++ more) i = some ob
  | [], more, i, ob, h => by simp [obOf] at h
  | x :: g, more, 0, ob, h => h
  | x :: g, more, i + 1, ob, h => obOf_app (g := g) h
theorem LeG.app (g more : List (Option Obj)) : LeG g (g ++ more) := fun _ _ h => obOf_app h
theorem LeB.put {g : List (Option Obj)} {i : Nat} {cs : List V} (h : obOf g i = some ⟨false, cs⟩) : LeB g (setOb g i none) := fun j cs' hj => by
  rw [obOf_set]
  by_cases hji : j = i
  · subst hji
    rw [h] at hj
    cases hj
  · rw [if_neg (fun he => hji he.1)]
    exact hj
theorem boxes_get : ∀ {g : List (Option Obj)} {i : Nat} {ob : Obj}, obOf (boxesG g) i = some ob → ob.box = true ∧ obOf g i = some ob
  | [], i, ob, h => by simp [boxesG, obOf] at h
  | some ⟨true, cs⟩ :: g, 0, ob, h => by simp [boxesG, obOf] at h; subst h; exact ⟨rfl, rfl⟩
  | some ⟨true, cs⟩ :: g, i + 1, ob, h => boxes_get (g := g) h
  | some ⟨false, cs⟩ :: g, 0, ob, h => by simp [boxesG, obOf] at h
  | some ⟨false, cs⟩ :: g, i + 1, ob, h => boxes_get (g := g) h
  | none :: g, 0, ob, h => by simp [boxesG, obOf] at h
  | none :: g, i + 1, ob, h => boxes_get (g := g) h
theorem boxes_of : ∀ {g : List (Option Obj)} {i : Nat} {cs : List V}, obOf g i = some ⟨true, cs⟩ → obOf (boxesG g) i = some ⟨true, cs⟩
  | [], i, cs, h => by simp [obOf] at h
  | some ⟨true, cs⟩ :: g, 0, cs', h => by simpa [boxesG, obOf] using h
  | some ⟨true, cs⟩ :: g, i + 1, cs', h => boxes_of (g := g) h
  | some ⟨false, cs⟩ :: g, 0, cs', h => by simp [obOf] at h
  | some ⟨false, cs⟩ :: g, i + 1, cs', h => boxes_of (g := g) h
  | none :: g, 0, cs', h => by simp [obOf] at h
  | none :: g, i + 1, cs', h => boxes_of (g := g) h
theorem LeB.boxes {g g' : List (Option Obj)} (h : LeB g g') : LeG (boxesG g) (boxesG g') := fun i ob hi => by
  obtain ⟨hb, hg⟩ := boxes_get hi
  obtain ⟨bx, cs⟩ := ob
  simp only at hb
  subst hb
  exact boxes_of (h i cs hg)
theorem LeG.ofBoxes (g : List (Option Obj)) : LeG (boxesG g) g := fun i ob hi => (boxes_get hi).2

theorem parts_congr : ∀ {ps : List (Nat × Operand)}, (∀ x ∈ ps.map (·.2), ev s x = ev s' x) → partsV s ps = partsV s' ps
  | [], _ => rfl
  | (i, x) :: r, h => by
    simp only [partsV, h x (by simp), parts_congr (ps := r) (fun y hy => h y (by simp at hy ⊢; exact .inr hy))]
theorem cellsV_any (v : V) : cellsV s v = cellsV s' v := by cases v <;> rfl
theorem fill_congr (place : Nat → Option (Nat × Nat)) : ∀ (ps : List (Nat × V)) (cells : List V), fillV s place cells ps = fillV s' place cells ps
  | [], cells => rfl
  | (i, v) :: r, cells => by
    simp only [fillV, cellsV_any (s := s) (s' := s') v]
    split
    · rename_i off sz vs _ _
      cases (Nat.beq vs.length sz && Nat.ble (off + vs.length) cells.length) with
      | false => rfl
      | true => exact fill_congr place r _
    · rfl
theorem lenV_le (hle : LeG s.g s'.g) {v : V} {n : Nat} (h : lenV s v = some n) : lenV s' v = some n := by
  cases v with
  | sc v => cases v <;> exact h
  | sub i j =>
    simp only [lenV] at h ⊢
    cases hob : s.ob i with
    | none => rw [hob] at h; cases h
    | some ob =>
      have := hle i ob hob
      rw [show s'.ob i = some ob from this]
      rw [hob] at h
      exact h
  | _ => exact h

theorem bifT {b : Bool} {p : Prop} (h : bif b then p else False) : b = true ∧ p := by cases b <;> simp_all
theorem bifF {b : Bool} {p : Prop} (h : bif b then False else p) : b = false ∧ p := by cases b <;> simp_all
theorem binI_sum {op : BinOp} {k : IntKind} {a b : Int} {K : V → Prop} (h : binI op k a b K) : ∃ v, K v ∧ ∀ K' : V → Prop, K' v → binI op k a b K' := by
  cases op <;> simp only [binI] at h ⊢ <;> first | exact h.elim | exact ⟨_, h, fun K' hk => hk⟩ | exact ⟨_, h.2, fun K' hk => ⟨h.1, hk⟩⟩
theorem binS_sum {op : BinOp} {a b : ByteArray} {K : V → Prop} (h : binS op a b K) : ∃ v, K v ∧ ∀ K' : V → Prop, K' v → binS op a b K' := by
  cases op <;> simp only [binS] at h ⊢ <;> first | exact h.elim | exact ⟨_, h, fun K' hk => hk⟩ | exact ⟨_, h.2, fun K' hk => ⟨h.1, hk⟩⟩

/-- What such an operation makes of the state it makes of any state that agrees on what it looks at. -/
def Sum (Γ : Tab) (spec : CallRel) (o : Oper) (s : St) (K : V → St → Prop) : Prop :=
  ∃ v, K v s ∧ ∀ s' : St, (∀ x ∈ opnds o.op, ev s x = ev s' x) → LeG s.g s'.g → ∀ K' : V → St → Prop, K' v s' → opVC Γ spec false o s' K'

theorem sum_load {t : TypeId} {x : Operand} (hop : o.op = .load t x) (h : opVC Γ spec false o s K) : Sum Γ spec o s K := by
  unfold Sum
  have key : ∀ {s' : St} {K' : V → St → Prop}, (match ev s' x, Γ t with
    | .ptr i off, some ti => match s'.ob i with
      | some ⟨true, cs⟩ => match takeN cs off ti.size with
        | some r => K' (pack ti.agg r) s'
        | none => False
      | some ⟨false, cs⟩ => bif Nat.beq ti.size 0 then False else ∃ r, takeN cs off ti.size = some r ∧ K' (pack ti.agg (views i off r)) s'
      | none => False
    | .rp cs, some ti => ∃ r, takeN cs 0 ti.size = some r ∧ K' (pack ti.agg r) s'
    | .sp i j off, some ti => match s'.ob i with
      | some ⟨false, cs⟩ => bif Nat.beq ti.size 0 then False else ∃ sz n r q, cs[j]? = some (.tr sz n r) ∧ takeN r off ti.size = some q ∧ (∀ c ∈ q, flat c = true) ∧ K' (pack ti.agg q) s'
      | _ => False
    | _, _ => False) → opVC Γ spec false o s' K' := by
    intro s' K' h
    unfold opVC
    rw [hop]
    exact h
  have hag : ∀ {s' : St}, (∀ x ∈ opnds o.op, ev s x = ev s' x) → ev s' x = ev s x := fun h => (h x (by rw [hop]; simp [opnds])).symm
  unfold opVC at h
  rw [hop] at h
  simp only at h
  cases hx : ev s x <;> cases ht : Γ t <;> rw [hx, ht] at h <;> simp only at h <;> try exact h.elim
  · rename_i i off ti
    cases hob : s.ob i with
    | none => rw [hob] at h; exact h.elim
    | some ob =>
    obtain ⟨bx, cs⟩ := ob
    rw [hob] at h
    cases bx with
    | true =>
      simp only at h
      cases hr : takeN cs off ti.size with
      | none => rw [hr] at h; exact h.elim
      | some r =>
        rw [hr] at h
        refine ⟨_, h, fun s' h1 h2 K' hk => key ?_⟩
        rw [hag h1, hx, ht]
        simp only
        rw [show s'.ob i = _ from h2 i _ hob]
        simp only [hr]
        exact hk
    | false =>
      obtain ⟨h0, r, hr, hK⟩ := bifF h
      refine ⟨_, hK, fun s' h1 h2 K' hk => key ?_⟩
      rw [hag h1, hx, ht]
      simp only
      rw [show s'.ob i = _ from h2 i _ hob]
      simp only [h0, cond_false]
      exact ⟨r, hr, hk⟩
  · obtain ⟨r, hr, hK⟩ := h
    refine ⟨_, hK, fun s' h1 h2 K' hk => key ?_⟩
    rw [hag h1, hx, ht]
    exact ⟨r, hr, hk⟩
  · rename_i i j off ti
    cases hob : s.ob i with
    | none => rw [hob] at h; exact h.elim
    | some ob =>
    obtain ⟨bx, cs⟩ := ob
    rw [hob] at h
    cases bx with
    | true => exact h.elim
    | false =>
      obtain ⟨h0, sz, n, r, q, hj, hq, hf, hK⟩ := bifF h
      refine ⟨_, hK, fun s' h1 h2 K' hk => key ?_⟩
      rw [hag h1, hx, ht]
      simp only
      rw [show s'.ob i = _ from h2 i _ hob]
      simp only [h0, cond_false]
      exact ⟨sz, n, r, q, hj, hq, hf, hk⟩

theorem sum_indexAddr {t : TypeId} {x ix : Operand} (hop : o.op = .indexAddr t x ix) (h : opVC Γ spec false o s K) : Sum Γ spec o s K := by
  unfold Sum
  have hag : ∀ {s' : St}, (∀ x ∈ opnds o.op, ev s x = ev s' x) → ev s' x = ev s x ∧ ev s' ix = ev s ix := fun h => ⟨(h x (by rw [hop]; simp [opnds])).symm, (h ix (by rw [hop]; simp [opnds])).symm⟩
  unfold opVC at h
  rw [hop] at h
  simp only at h
  split at h
  · rename_i hx hi ht
    obtain ⟨hz, h1, h2, hK⟩ := bifF h
    refine ⟨_, hK, fun s' h3 h4 K' hk => ?_⟩
    unfold opVC
    rw [hop]
    simp only [(hag h3).1, (hag h3).2, hx, hi, ht, hz, cond_false]
    exact ⟨h1, h2, hk⟩
  · rename_i hx hi ht
    split at h
    · rename_i ob hob
      obtain ⟨hz, h1, hK⟩ := bifT h
      refine ⟨_, hK, fun s' h3 h4 K' hk => ?_⟩
      unfold opVC
      rw [hop]
      simp only [(hag h3).1, (hag h3).2, hx, hi, ht]
      rw [show s'.ob _ = _ from h4 _ _ hob]
      simp only [hz, cond_true]
      exact ⟨h1, hk⟩
    · exact h.elim
  · rename_i hx hi ht
    split at h
    · rename_i cs hob
      obtain ⟨n, r, hj, h1, hK⟩ := h
      refine ⟨_, hK, fun s' h3 h4 K' hk => ?_⟩
      unfold opVC
      rw [hop]
      simp only [(hag h3).1, (hag h3).2, hx, hi, ht]
      rw [show s'.ob _ = _ from h4 _ _ hob]
      exact ⟨n, r, hj, h1, hk⟩
    · exact h.elim
  · exact h.elim

theorem sum_fieldAddr {t : TypeId} {x : Operand} {f : Nat} (hop : o.op = .fieldAddr t x f) (h : opVC Γ spec false o s K) : Sum Γ spec o s K := by
  unfold Sum
  have hag : ∀ {s' : St}, (∀ x ∈ opnds o.op, ev s x = ev s' x) → ev s' x = ev s x := fun h => (h x (by rw [hop]; simp [opnds])).symm
  unfold opVC at h
  rw [hop] at h
  simp only at h
  split at h
  · rename_i hx hf
    split at h
    · rename_i ob hob
      refine ⟨_, h, fun s' h3 h4 K' hk => ?_⟩
      unfold opVC
      rw [hop]
      simp only [hag h3, hx, hf]
      rw [show s'.ob _ = _ from h4 _ _ hob]
      exact hk
    · exact h.elim
  · rename_i hx hf
    refine ⟨_, h, fun s' h3 h4 K' hk => ?_⟩
    unfold opVC
    rw [hop]
    simp only [hag h3, hx, hf]
    exact hk
  · rename_i hx hf
    refine ⟨_, h, fun s' h3 h4 K' hk => ?_⟩
    unfold opVC
    rw [hop]
    simp only [hag h3, hx, hf]
    exact hk
  · exact h.elim

theorem sum_len {args : Array Operand} {ts : Array TypeId} (hop : o.op = .call { callee := .builtin .len, args, argTypes := ts }) (h : opVC Γ spec false o s K) : Sum Γ spec o s K := by
  unfold Sum
  unfold opVC at h
  rw [hop] at h
  simp only at h
  split at h
  · rename_i x t hargs hts
    have hag : ∀ {s' : St}, (∀ x ∈ opnds o.op, ev s x = ev s' x) → ev s' x = ev s x := fun h => (h x (by rw [hop]; simp [opnds, hargs])).symm
    split at h
    · rename_i b ti hx ht
      obtain ⟨hst, hK⟩ := bifT h
      refine ⟨_, hK, fun s' h3 h4 K' hk => ?_⟩
      unfold opVC
      rw [hop]
      simp only [hargs, hts, hag h3, hx, ht, hst, cond_true]
      exact hk
    · rename_i ti ht hv
      split at h
      · rename_i e n he hn
        refine ⟨_, h, fun s' h3 h4 K' hk => ?_⟩
        unfold opVC
        rw [hop]
        simp only [hargs, hts]
        rw [hag h3, ht]
        have hl := lenV_le h4 hn
        generalize hq : ev s x = u at *
        split
        · rename_i b ti' hu
          exact absurd rfl (hv b)
        · rename_i ti' _ hti
          cases hti
          simp only [he, hl]
          exact hk
        · rename_i hti; simp at hti
      · exact h.elim
    · exact h.elim
  · exact h.elim

theorem bnd_congr {s s' : St} {d : Nat} {x : Option Operand} (h : ∀ y ∈ x.toList, ev s y = ev s' y) : bndV s d x = bndV s' d x := by
  cases x with
  | none => rfl
  | some x => simp only [bndV, h x (by simp)]
theorem sum_slice {t : TypeId} {x : Operand} {lo hi : Option Operand} (hop : o.op = .slice t x lo hi none) (h : opVC Γ spec false o s K) : Sum Γ spec o s K := by
  unfold Sum
  have hag : ∀ {s' : St}, (∀ x ∈ opnds o.op, ev s x = ev s' x) → ev s' x = ev s x ∧ (∀ d, bndV s' d lo = bndV s d lo) ∧ (∀ d, bndV s' d hi = bndV s d hi) := fun h =>
    ⟨(h x (by rw [hop]; simp [opnds])).symm, fun d => (bnd_congr fun y hy => h y (by rw [hop]; simp only [opnds, List.mem_cons, List.mem_append]; exact .inr (.inl hy))).symm, fun d => (bnd_congr fun y hy => h y (by rw [hop]; simp only [opnds, List.mem_cons, List.mem_append]; exact .inr (.inr hy))).symm⟩
  unfold opVC at h
  rw [hop] at h
  simp only at h
  split at h
  · rename_i n cs te hx ht
    split at h
    · rename_i l hh hl hhh
      obtain ⟨hb, hcl, r, hr, hK⟩ := h
      refine ⟨_, hK, fun s' h3 h4 K' hk => ?_⟩
      unfold opVC
      rw [hop]
      simp only [(hag h3).1, (hag h3).2.1, (hag h3).2.2, hx, ht, hl, hhh]
      exact ⟨hb, hcl, r, hr, hk⟩
    · exact h.elim
  · rename_i i sz off n lo0 hi0 te hx ht
    split at h
    · rename_i l hh ob hl hhh hob
      obtain ⟨hz, hb, hK⟩ := bifT h
      refine ⟨_, hK, fun s' h3 h4 K' hk => ?_⟩
      unfold opVC
      rw [hop]
      simp only [(hag h3).1, (hag h3).2.1, (hag h3).2.2, hx, ht, hl, hhh]
      rw [show s'.ob _ = _ from h4 _ _ hob]
      simp only [hz, cond_true]
      exact ⟨hb, hk⟩
    · exact h.elim
  · exact h.elim

theorem nilC_sum {op : BinOp} {e : Option Nat} {b : Bool} {K : V → Prop} (h : nilC op e b K) : ∃ v, K v ∧ ∀ K' : V → Prop, K' v → nilC op e b K' := by
  unfold nilC at h ⊢
  split at h
  · exact ⟨_, h, fun _ h => h⟩
  · exact ⟨_, h, fun _ h => h⟩
  · exact h.elim
theorem pure_sum (h0 : wc o.op = 0) (h : opVC Γ spec false o s K) : Sum Γ spec o s K := by
  have h' := h
  unfold opVC at h
  split at h
  · rename_i x hop
    refine ⟨_, h, fun s' h1 h2 K' hk => ?_⟩
    unfold opVC; rw [hop]
    rw [h1 x (by rw [hop]; simp [opnds])] at hk
    exact hk
  · rename_i x hop
    refine ⟨_, h, fun s' h1 h2 K' hk => ?_⟩
    unfold opVC; rw [hop]
    rw [h1 x (by rw [hop]; simp [opnds])] at hk
    exact hk
  · rename_i c x y hop
    split at h
    · rename_i t hc
      refine ⟨if t then ev s x else ev s y, ?_, fun s' h1 h2 K' hk => ?_⟩
      · cases t with
        | true => exact h
        | false => exact h
      · unfold opVC; rw [hop]
        simp only [← h1 c (by rw [hop]; simp [opnds]), ← h1 x (by rw [hop]; simp [opnds]), ← h1 y (by rw [hop]; simp [opnds]), hc]
        cases t with
        | true => exact hk
        | false => exact hk
    · exact h.elim
  · rename_i op t x y t' hop
    split at h
    · rename_i k m k' n hx hy
      obtain ⟨hs, h⟩ := bifT h
      obtain ⟨v, hv, hsum⟩ := binI_sum h
      refine ⟨v, hv, fun s' h1 h2 K' hk => ?_⟩
      unfold opVC; rw [hop]
      simp only [← h1 x (by rw [hop]; simp [opnds]), ← h1 y (by rw [hop]; simp [opnds]), hx, hy, hs, cond_true]
      exact hsum _ hk
    · rename_i m n hx hy
      obtain ⟨v, hv, hsum⟩ := binS_sum h
      refine ⟨v, hv, fun s' h1 h2 K' hk => ?_⟩
      unfold opVC; rw [hop]
      simp only [← h1 x (by rw [hop]; simp [opnds]), ← h1 y (by rw [hop]; simp [opnds]), hx, hy]
      exact hsum _ hk
    · rename_i m n hx hy
      split at h
      · rename_i hb
        refine ⟨_, h, fun s' h1 h2 K' hk => ?_⟩
        unfold opVC; rw [hop]
        simp only [← h1 x (by rw [hop]; simp [opnds]), ← h1 y (by rw [hop]; simp [opnds]), hx, hy, hb]
        exact hk
      · rename_i hb
        refine ⟨_, h, fun s' h1 h2 K' hk => ?_⟩
        unfold opVC; rw [hop]
        simp only [← h1 x (by rw [hop]; simp [opnds]), ← h1 y (by rw [hop]; simp [opnds]), hx, hy, hb]
        exact hk
      · exact h.elim
    · rename_i n cs hx hy
      obtain ⟨hne, h⟩ := h
      obtain ⟨v, hv, hsum⟩ := nilC_sum h
      refine ⟨v, hv, fun s' h1 h2 K' hk => ?_⟩
      unfold opVC; rw [hop]
      simp only [← h1 x (by rw [hop]; simp [opnds]), ← h1 y (by rw [hop]; simp [opnds]), hx, hy]
      exact ⟨hne, hsum _ hk⟩
    · rename_i hx hy
      obtain ⟨v, hv, hsum⟩ := nilC_sum h
      refine ⟨v, hv, fun s' h1 h2 K' hk => ?_⟩
      unfold opVC; rw [hop]
      simp only [← h1 x (by rw [hop]; simp [opnds]), ← h1 y (by rw [hop]; simp [opnds]), hx, hy]
      exact hsum _ hk
    · exact h.elim
  · rename_i t x hop
    split at h
    · rename_i b hx
      refine ⟨_, h, fun s' h1 h2 K' hk => ?_⟩
      unfold opVC; rw [hop]
      simp only [← h1 x (by rw [hop]; simp [opnds]), hx]
      exact hk
    · exact h.elim
  · rename_i t x hop
    split at h
    · rename_i b hx
      refine ⟨_, h, fun s' h1 h2 K' hk => ?_⟩
      unfold opVC; rw [hop]
      simp only [← h1 x (by rw [hop]; simp [opnds]), hx]
      exact hk
    · exact h.elim
  · rename_i x ix hop
    split at h
    · rename_i vs hx
      split at h
      · rename_i v hv
        refine ⟨_, h, fun s' h1 h2 K' hk => ?_⟩
        unfold opVC; rw [hop]
        simp only [← h1 x (by rw [hop]; simp [opnds]), hx, hv]
        exact hk
      · exact h.elim
    · exact h.elim
  · rename_i hop; rw [hop] at h0; simp [wc] at h0
  · rename_i hop; rw [hop] at h0; simp [wc] at h0
  · rename_i x hop
    split at h
    · rename_i i off hx
      split at h
      · rename_i ob hob
        refine ⟨_, h, fun s' h1 h2 K' hk => ?_⟩
        unfold opVC; rw [hop]
        simp only [← h1 x (by rw [hop]; simp [opnds]), hx]
        rw [show s'.ob _ = _ from h2 _ _ hob]
        exact hk
      · exact h.elim
    · rename_i cs hx
      refine ⟨_, h, fun s' h1 h2 K' hk => ?_⟩
      unfold opVC; rw [hop]
      simp only [← h1 x (by rw [hop]; simp [opnds]), hx]
      exact hk
    · exact h.elim
  · rename_i hop; exact sum_load hop h'
  · rename_i hop; rw [hop] at h0; simp [wc] at h0
  · rename_i hop; exact sum_fieldAddr hop h'
  · rename_i hop; exact sum_indexAddr hop h'
  · rename_i t x ix hop
    split at h
    · rename_i b k i hx hi
      obtain ⟨ht, hb, hK⟩ := h
      refine ⟨_, hK, fun s' h1 h2 K' hk => ?_⟩
      unfold opVC; rw [hop]
      simp only [← h1 x (by rw [hop]; simp [opnds]), ← h1 ix (by rw [hop]; simp [opnds]), hx, hi]
      exact ⟨ht, hb, hk⟩
    · exact h.elim
  · rename_i t parts hop
    split at h
    · rename_i ti ht
      obtain ⟨hfl, h⟩ := bifF h
      split at h
      · rename_i cs hf
        refine ⟨_, h, fun s' h1 h2 K' hk => ?_⟩
        unfold opVC; rw [hop]
        rw [parts_congr (s' := s') (fun x hx => h1 x (by rw [hop]; simpa [opnds] using hx)), fill_congr (s' := s')] at hf
        simp only [ht, hfl, cond_false, hf]
        exact hk
      · exact h.elim
    · exact h.elim
  · rename_i hop; rw [hop] at h0; simp [wc] at h0
  · rename_i hop; exact sum_slice hop h'
  · rename_i hop; rw [hop] at h0; simp [wc] at h0
  · rename_i src dst x hop
    split at h
    · rename_i k' n k k0 hx hk hs
      refine ⟨_, h, fun s' h1 h2 K' hkk => ?_⟩
      unfold opVC; rw [hop]
      simp only [← h1 x (by rw [hop]; simp [opnds]), hx, hk, hs]
      exact hkk
    · exact h.elim
    · exact h.elim
  · rename_i hop; exact sum_len hop h'
  · rename_i hop; rw [hop] at h0; simp [wc] at h0
  · rename_i hop; rw [hop] at h0; simp [wc] at h0
  · rename_i hop; rw [hop] at h0; simp [wc] at h0
  · rename_i f first captured hop
    split at h
    · rename_i hf
      refine ⟨_, h, fun s' h1 h2 K' hk => ?_⟩
      unfold opVC; rw [hop]
      simp only [hf]
      rw [List.map_congr_left (f := ev s') (g := ev s) (fun x hx => (h1 x (by rw [hop]; simpa [opnds] using hx)).symm)]
      exact hk
    · exact h.elim
  · exact h.elim
end
end Go.Proofs.YtiplgkbgkmomlaaD
