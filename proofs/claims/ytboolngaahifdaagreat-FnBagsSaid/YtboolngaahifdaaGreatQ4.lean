/- Contracts and plain laws of this seat; no condition. -/
import Derived.Test.YtboolngaahifdaaGreatQ3
set_option linter.unusedVariables false
set_option linter.unusedSimpArgs false
namespace Go.Proofs.YtboolngaahifdaaGreatD
open Go Go.RowKit
section
variable {P : Program} {Γ : Tab} {C : Ctx} {E : Env} {s : St} {a : Act} {o : Oper} {K : V → St → Prop}
theorem AX {b : Bool} {p : Prop} (h : bif b then p else False) : b = true ∧ p := by cases b <;> simp_all
theorem oE {τ τf : eV} {kid : Nat} {p : List Nat} (act : Bool) (hT : ∀ k q, (k, q) ∈ τ → k < kid) {X : bM} (he : Ext X (if act then (kid, p) :: τ else τ) τf (kid + 1)) :
  (∀ k q, (k, q) ∈ τf → kid ≤ k → q = p ∨ kid + 1 ≤ k) ∧ (act = true → (kid, p) ∈ τf) := by
 refine ⟨fun k q h hk => ?_, fun ha => ?_⟩
 ·rcases Nat.lt_or_ge k (kid + 1) with h1 | h1
  ·have h2 := he.new k q h h1
   have hkk : k = kid := by omega
   subst hkk
   cases act with
   | false => exact absurd (hT _ _ h2) (Nat.lt_irrefl _)
   | true =>
    simp only [if_true, List.mem_cons, Prod.mk.injEq, true_and] at h2
    rcases h2 with rfl | h2
    ·exact .inl rfl
    ·exact absurd (hT _ _ h2) (Nat.lt_irrefl _)
  ·exact .inr h1
 ·subst ha
  exact he.sub _ (by simp)
theorem zZ {τ : eV} {E3 : Env} {w' : World} {o' : Lab} (hL : LC E τ E3 w' o') {k : Nat} {q : List Nat} (h : (k, q) ∈ τ) {b off : Nat} {cs : List V} (hr : Rrow (aZ w' o').bare (.at [k]) b off 0 cs) : Rrow E3.bare (.at q) b off 0 cs :=
 Rrow.move (E := aZ w' o') (E' := E3.bare) hL.mono (hL.moved k q h) (by show E3.w.heap[b]? = w'.heap[b]?; rw [hL.w]) hr
theorem zY {τ : eV} {E3 : Env} {w' : World} {o' : Lab} (hL : LC E τ E3 w' o') {k : Nat} {q : List Nat} (h : (k, q) ∈ τ) {b : Nat} (ho : o' b = some [k]) : E3.o b = some q := by
 have := (hL.moved k q h b [] (by simpa [aZ] using ho)).1
 simpa [Env.bare] using this
theorem XH (hR : Rel C E s a) {i sz n lo kid : Nat} {hi : Option Nat} {cs : List V} {x : Value} {X : bM} {τ : eV} (hT : Tgt s X τ kid) (hob : s.ob i = some ⟨false, cs⟩) (hno : tK X i = true) (hl : cs.length = n * sz) (hv : Rv E .none (.own i sz 0 n lo hi) x) :
  ∃ τ', Leaf E s (.own i sz 0 n lo hi) x X τ kid (.tr sz n cs) ((i, none) :: X) τ' := by
 obtain ⟨hin, A, cap, rfl, hnc, hlv⟩ := hv
 obtain ⟨hc, hlo, hhi, hbl⟩ := hlv (dA hR hob)
 have hilt : i < s.g.length := eK (g := s.g) hob
 have hlive : (s.ob i).isSome = true := by rw [hob]; rfl
 rcases Nat.eq_zero_or_pos cap with h0 | hpos
 ·
  subst h0
  have hn0 : n = 0 := by omega
  subst hn0
  refine ⟨τ, ⟨AO hT hob hno false, fun e h => by simp [h], fun e h => h, fun k q h => .inl h, fun l _ k h => h, fun τf _ _ => ⟨A, 0, rfl, Nat.le_refl _, hl, .inl rfl⟩, ?_⟩⟩
  intro Xf τf E3 w' o' st out K' M hX he hf hL hI hr hk
  obtain ⟨g1, _⟩ := oE (p := [i]) false hT.lt (by simpa [nl] using he)
  cases out <;> simp only [eN] at hk <;> try exact hk.elim
  ·rename_i sz' n' cs'
   obtain ⟨A', cap', hx, hc', hl', _⟩ := hr
   cases hx
   have hcs : cs' = [] := List.eq_nil_of_length_eq_zero (by rw [hl']; simp)
   subst hcs
   refine ⟨rfl, _, hk, AE hilt hlive (hX _ (by simp)) g1 hI (fun cs => nofun) (fun _ ho => ?_) (fun cs h => by cases h; exact .inl rfl)⟩
   refine (hL.keep _ _ ho (pW fun k q t hm he' => ?_)).1
   rcases hf.at_ k q hm with ⟨i', rfl, hx⟩ | ⟨i', j', rfl, hx⟩
   ·simp at he'
    obtain ⟨rfl, _⟩ := he'
    have h2 := he.fix i (by simp) k hm
    rcases hT.at_ k _ h2 with ⟨i', h3, hx'⟩ | ⟨i', j', h3, hx'⟩
    ·simp at h3; subst h3; exact rA hno _ hx'
    ·simp at h3
   ·simp at he'
  ·exact ⟨rfl, _, hk, AE hilt hlive (hX _ (by simp)) g1 hI (fun cs => nofun) (fun h => by cases h) (fun cs h => by cases h)⟩
 ·rcases hbl with h0 | ⟨c, e, hA, ho, hh, hs⟩
  ·omega
  ·refine ⟨(kid, [i]) :: τ, ⟨AO hT hob hno true, fun e h => by simp [h], fun e h => by simp [h], fun k q h => ?_, fun l hl' k h => ?_, fun τf he hinc => ?_, ?_⟩⟩
   ·simp only [List.mem_cons, Prod.mk.injEq] at h
    rcases h with ⟨rfl, _⟩ | h
    ·exact .inr (Nat.le_refl _)
    ·exact .inl h
   ·simp only [List.mem_cons, Prod.mk.injEq] at h
    rcases h with ⟨rfl, h⟩ | h
    ·simp at h; subst h; exact absurd hl' (rA hno _)
    ·exact h
   ·have hmem := (oE (p := [i]) true hT.lt (by simpa [nl] using he)).2 rfl
    refine ⟨A, cap, rfl, hc, hl, .inr ⟨(E.ρ i).1, (E.ρ i).2, [kid], c, e, by rw [hA, Nat.add_zero], rfl, ?_, hh, by omega, ?_⟩⟩
    ·have := (nL (E := E) hinc hmem (E.ρ i).1 [] (by simpa [Env.bare] using ho)).1
     simpa using this
    ·rcases hR.ob i _ hob with h0 | ⟨c', e', _, _, hrow⟩
     ·rw [h0]; trivial
     ·exact Rrow.move (E := E.bare) (o3 hR τf) (nL hinc hmem) rfl hrow
   ·intro Xf τf E3 w' o' st out K' M hX he hf hL hI hr hk
    obtain ⟨g1, g2⟩ := oE (p := [i]) true hT.lt (by simpa [nl] using he)
    have hmem := g2 rfl
    cases out <;> simp only [eN] at hk <;> try exact hk.elim
    ·rename_i sz' n' cs'
     obtain ⟨A', cap', hx, hc', hl', hb⟩ := hr
     cases hx
     rcases hb with hb | ⟨b, off, q, c', e', hA', hq, ho', hh', hs', hrow⟩
     ·omega
     ·simp only [Md.leaf, Option.some.injEq] at hq
      subst hq
      rw [hA] at hA'
      simp only [Option.some.injEq, Addr.mk.injEq, and_true, Nat.add_zero] at hA'
      obtain ⟨rfl, rfl⟩ := hA'
      have hlab : E3.o (E.ρ i).1 = some [i] := zY hL hmem ho'
      refine ⟨rfl, _, hk, AE hilt hlive (hX _ (by simp)) g1 hI (fun cs => nofun) (fun _ _ => hlab) (fun cs h => ?_)⟩
      cases h
      exact .inr ⟨c', e', by rw [hL.w]; exact hh', hlab, zZ hL hmem hrow⟩
    ·exact ⟨rfl, _, hk, AE hilt hlive (hX _ (by simp)) g1 hI (fun cs => nofun) (fun h => by cases h) (fun cs h => by cases h)⟩
theorem XI (hR : Rel C E s a) {i kid : Nat} {cs : List V} {x : Value} {X : bM} {τ : eV} (hT : Tgt s X τ kid) (hob : s.ob i = some ⟨false, cs⟩) (hno : tK X i = true) (hne : cs ≠ []) (hv : Rv E .none (.ptr i 0) x) :
  ∃ τ', Leaf E s (.ptr i 0) x X τ kid (.bp cs) ((i, none) :: X) τ' := by
 obtain ⟨hin, ad, rfl, hlv⟩ := hv
 have had := hlv (dA hR hob)
 subst had
 have hilt : i < s.g.length := eK (g := s.g) hob
 have hlive : (s.ob i).isSome = true := by rw [hob]; rfl
 rcases hR.ob i _ hob with h0 | ⟨c, e, hh, ho, hrow⟩
 ·exact absurd h0 hne
 ·refine ⟨(kid, [i]) :: τ, ⟨AO hT hob hno true, fun e h => by simp [h], fun e h => by simp [h], fun k q h => ?_, fun l hl' k h => ?_, fun τf he hinc => ?_, ?_⟩⟩
  ·simp only [List.mem_cons, Prod.mk.injEq] at h
   rcases h with ⟨rfl, _⟩ | h
   ·exact .inr (Nat.le_refl _)
   ·exact .inl h
  ·simp only [List.mem_cons, Prod.mk.injEq] at h
   rcases h with ⟨rfl, h⟩ | h
   ·simp at h; subst h; exact absurd hl' (rA hno _)
   ·exact h
  ·have hmem := (oE (p := [i]) true hT.lt (by simpa [nl] using he)).2 rfl
   refine ⟨(E.ρ i).1, (E.ρ i).2, [kid], c, e, rfl, rfl, ?_, hh, hne, ?_⟩
   ·have := (nL (E := E) hinc hmem (E.ρ i).1 [] (by simpa [Env.bare] using ho)).1
    simpa using this
   ·exact Rrow.move (E := E.bare) (o3 hR τf) (nL hinc hmem) rfl hrow
  ·intro Xf τf E3 w' o' st out K' M hX he hf hL hI hr hk
   obtain ⟨g1, g2⟩ := oE (p := [i]) true hT.lt (by simpa [nl] using he)
   have hmem := g2 rfl
   cases out <;> simp only [eN] at hk <;> try exact hk.elim
   ·rename_i cs'
    obtain ⟨b, off, q, c', e', hx, hq, ho', hh', hne', hrow'⟩ := hr
    simp only [Md.leaf, Option.some.injEq] at hq
    subst hq
    simp only [Value.pointer.injEq, Option.some.injEq, Addr.mk.injEq, and_true, Nat.add_zero] at hx
    obtain ⟨rfl, rfl⟩ := hx
    have hlab : E3.o (E.ρ i).1 = some [i] := zY hL hmem ho'
    refine ⟨rfl, _, hk, AE hilt hlive (hX _ (by simp)) g1 hI (fun cs => nofun) (fun _ _ => hlab) (fun cs h => ?_)⟩
    cases h
    exact .inr ⟨c', e', by rw [hL.w]; exact hh', hlab, zZ hL hmem hrow'⟩
   ·exact ⟨rfl, _, hk, AE hilt hlive (hX _ (by simp)) g1 hI (fun cs => nofun) (fun h => by cases h) (fun cs h => by cases h)⟩
theorem TD {Xf : bM} {τf : eV} {E3 : Env} {kid i j : Nat} {st : St} {cst : List V} {v : V} {x : Value} (hst : st.ob i = some ⟨false, cst⟩) (hni : ∀ k, (k, [i]) ∉ τf) (htr : hZ s.ob i j) (hkey : ∀ k q, (k, q) ∈ τf → kid ≤ k → q = [i, j] ∨ kid + 1 ≤ k) (hI : RI E s Xf τf E3 kid st)
  (hcell : E3.w.cell? ⟨(E.ρ i).1, (E.ρ i).2 + j, none⟩ = some x) (hv : Rv E3.bare (.at [i, j]) v x) : RI E s Xf τf E3 (kid + 1) (st.put i (some ⟨false, cst.set j v⟩)) := by
 have hlt : i < st.g.length := eK (g := st.g) hst
 have hpd : ∀ q, q ≠ [i, j] → ¬ Pd τf (kid + 1) q → ¬ Pd τf kid q := by
  rintro q hq hn ⟨k, h1, h2⟩
  rcases hkey k _ h2 h1 with h3 | h3
  ·exact hq h3
  ·exact hn ⟨k, h3, h2⟩
 refine ⟨hI.t, hI.N, by rw [jM]; exact hI.len, fun l cs h => ?_, fun l h => ?_, fun l k h => ?_, fun l h hn ho => ?_, fun l cs h hn => ?_, hI.sub⟩
 ·rw [fO hlt] at h
  by_cases hl : l = i
  ·rw [if_pos hl] at h; cases h
  ·rw [if_neg hl] at h; exact hI.box l cs h
 ·rw [fO hlt] at h
  by_cases hl : l = i
  ·rw [hl]; exact hI.live i (by rw [hst]; rfl)
  ·rw [if_neg hl] at h; exact hI.live l h
 ·obtain ⟨cs, sz, n, r, hg, hk⟩ := h
  rw [fO hlt] at hg
  by_cases hl : l = i
  ·subst hl
   rw [if_pos rfl] at hg
   cases hg
   rw [List.getElem?_set] at hk
   by_cases hjk : j = k
   ·subst hjk; exact .inl htr
   ·rw [if_neg hjk] at hk
    exact hI.tr l k ⟨cst, sz, n, r, hst, hk⟩
  ·rw [if_neg hl] at hg
   exact hI.tr l k ⟨cs, sz, n, r, hg, hk⟩
 ·rw [fO hlt] at h
  refine hI.lab l ?_ (hpd _ (by simp) hn) ho
  by_cases hl : l = i
  ·rw [hl, hst]; rfl
  ·rw [if_neg hl] at h; exact h
 ·rw [fO hlt] at h
  by_cases hl : l = i
  ·subst hl
   rw [if_pos rfl] at h
   cases h
   rcases hI.row l cst hst (fun ⟨k, _, h2⟩ => hni k h2) with h0 | ⟨c, e, h1, h2, h3⟩
   ·subst h0; exact .inl rfl
   ·refine .inr ⟨c, e, h1, h2, fun k u hk => ?_⟩
    rw [List.getElem?_set] at hk
    by_cases hjk : j = k
    ·subst hjk
     rw [if_pos rfl] at hk
     split at hk
     ·cases hk
      exact ⟨x, hcell, fun _ => hv⟩
     ·cases hk
    ·rw [if_neg hjk] at hk
     obtain ⟨y, hy, hr⟩ := h3 k u hk
     exact ⟨y, hy, fun hn' => hr (hpd _ (by simp; exact fun h => hjk h.symm) hn')⟩
  ·rw [if_neg hl] at h
   rcases hI.row l cs h (hpd _ (by simp) hn) with h0 | ⟨c, e, h1, h2, h3⟩
   ·exact .inl h0
   ·refine .inr ⟨c, e, h1, h2, fun k u hk => ?_⟩
    obtain ⟨y, hy, hr⟩ := h3 k u hk
    exact ⟨y, hy, fun hn' => hr (hpd _ (by simp; exact fun h => absurd h hl) hn')⟩
theorem XJ (hR : Rel C E s a) {i j sz n kid : Nat} {cs r : List V} {x : Value} {X : bM} {τ : eV} (hT : Tgt s X τ kid) (hob : s.ob i = some ⟨false, cs⟩) (hno : gG X i = true) (hap : wY X i j) (hj : cs[j]? = some (.tr sz n r)) (hv : Rv E .none (.sub i j) x) :
  ∃ τ', Leaf E s (.sub i j) x X τ kid (.tr sz n r) ((i, some j) :: X) τ' := by
 have hcell := hv.2.2 (n8 hR hob hj)
 obtain ⟨A, cap, hcell', hc, hrl, hb⟩ := v7 hR hob hj
 rw [hcell] at hcell'
 have hx : x = .slice A n cap := Option.some.inj hcell'
 have htr : hZ s.ob i j := ⟨cs, sz, n, r, hob, hj⟩
 have back : ∀ (act : Bool), (∀ {Xf : bM} {τf : eV} {E3 : Env} {w' : World} {o' : Lab} {out : V} {M : Nat}, Tgt s Xf τf M → LC E τf E3 w' o' → (act = true → (kid, [i, j]) ∈ τf) → (out = .any ∨ ∃ sz n r, out = .tr sz n r) → Rv (aZ w' o') (.top kid) out x → Rv E3.bare (.at [i, j]) out x) →
   ∀ {Xf : bM} {τf : eV} {E3 : Env} {w' : World} {o' : Lab} {st : St} {out : V} {K' : St → Prop} {M : Nat}, (∀ e ∈ (i, some j) :: X, e ∈ Xf) → Ext ((i, some j) :: X) (if act then (kid, [i, j]) :: τ else τ) τf (kid + 1) → Tgt s Xf τf M → LC E τf E3 w' o' → RI E s Xf τf E3 kid st → Rv (aZ w' o') (.top kid) out x → eN st (.sub i j) out K' →
    nl out = 1 ∧ ∃ st', K' st' ∧ RI E s Xf τf E3 (kid + 1) st' := by
  intro act hmv Xf τf E3 w' o' st out K' M hX he hf hL hI hr hk
  obtain ⟨g1, g2⟩ := oE (p := [i, j]) act hT.lt he
  have hXi : (i, none) ∉ Xf := hf.ex i j (hX _ (by simp))
  have hni : ∀ k, (k, [i]) ∉ τf := by
   intro k hm
   rcases hf.at_ k _ hm with ⟨i', h1, hx⟩ | ⟨i', j', h1, hx⟩
   ·simp at h1; subst h1; exact hXi hx
   ·simp at h1
  have hc3 := hI.sub i j x htr hXi hcell
  have hres : (out = .any ∨ ∃ sz n r, out = .tr sz n r) → Rv E3.bare (.at [i, j]) out x := fun h => hmv hf hL g2 h hr
  cases out <;> simp only [eN] at hk <;> try exact hk.elim
  ·rename_i sz' n' r'
   split at hk
   ·rename_i cst hst
    obtain ⟨_, rfl, hk⟩ := hk
    exact ⟨rfl, _, hk, TD hst hni htr g1 hI hc3 (hres (.inr ⟨_, _, _, rfl⟩))⟩
   ·exact hk.elim
  ·split at hk
   ·rename_i cst hst
    exact ⟨rfl, _, hk, TD hst hni htr g1 hI hc3 trivial⟩
   ·exact hk.elim
 have old : ∀ (act : Bool), ∀ l, (l, none) ∈ X → ∀ k, (k, [l]) ∈ (if act then (kid, [i, j]) :: τ else τ) → (k, [l]) ∈ τ := by
  intro act l _ k h
  cases act with
  | false => exact h
  | true => simpa using h
 have new : ∀ (act : Bool), ∀ k q, (k, q) ∈ (if act then (kid, [i, j]) :: τ else τ) → (k, q) ∈ τ ∨ kid ≤ k := by
  intro act k q h
  cases act with
  | false => exact .inl h
  | true =>
   simp only [if_true, List.mem_cons, Prod.mk.injEq] at h
   rcases h with ⟨rfl, _⟩ | h
   ·exact .inr (Nat.le_refl _)
   ·exact .inl h
 rcases hb with h0 | ⟨b, d, c, e, hA, ho, hh, hs, hrow⟩
 ·subst h0
  have hn0 : n = 0 := by omega
  subst hn0
  refine ⟨τ, ⟨P9 hT hno hap false, fun e h => by simp [h], fun e h => h, new false, old false, fun τf _ _ => ⟨A, 0, hx, Nat.le_refl _, hrl, .inl rfl⟩, fun hX he hf hL hI hr hk => back false (fun {Xf τf E3 w' o' out M} _ _ _ ho hr => ?_) hX (by simpa [nl] using he) hf hL hI hr hk⟩⟩
  rcases ho with rfl | ⟨sz', n', r', rfl⟩
  ·trivial
  ·obtain ⟨A', cap', hx', hc', hl', _⟩ := hr
   rw [hx] at hx'
   cases hx'
   exact ⟨A, 0, hx, hc', hl', .inl rfl⟩
 ·refine ⟨(kid, [i, j]) :: τ, ⟨P9 hT hno hap true, fun e h => by simp [h], fun e h => by simp [h], new true, old true, fun τf he hinc => ?_, fun hX he hf hL hI hr hk => back true (fun {Xf τf E3 w' o' out M} hf hL hm ho hr => ?_) hX (by simpa [nl] using he) hf hL hI hr hk⟩⟩
  ·have hmem := (oE (p := [i, j]) true hT.lt (by simpa [nl] using he)).2 rfl
   refine ⟨A, cap, hx, hc, hrl, .inr ⟨b, d, [kid], c, e, hA, rfl, ?_, hh, hs, ?_⟩⟩
   ·have := (nL (E := E) hinc hmem b [] (by simpa [Env.bare] using ho)).1
    simpa using this
   ·exact Rrow.move (E := E.bare) (o3 hR τf) (nL hinc hmem) rfl hrow
  ·rcases ho with rfl | ⟨sz', n', r', rfl⟩
   ·trivial
   ·obtain ⟨A', cap', hx', hc', hl', hb'⟩ := hr
    refine ⟨A', cap', hx', hc', hl', ?_⟩
    rcases hb' with hb' | ⟨b', d', q', c', e', hA', hq', ho', hh', hs', hrow'⟩
    ·exact .inl hb'
    ·simp only [Md.leaf, Option.some.injEq] at hq'
     subst hq'
     exact .inr ⟨b', d', [i, j], c', e', hA', rfl, zY hL (hm rfl) ho', by show E3.w.heap[b']? = _; rw [hL.w]; exact hh', hs', zZ hL (hm rfl) hrow'⟩
theorem Ext.first {X X' : bM} {τ τ' τf : eV} {m m' : Nat} (h : Ext X' τ' τf m') (hm : m ≤ m') (hsub : ∀ e ∈ τ, e ∈ τ') (hX : ∀ e ∈ X, e ∈ X') (hnew : ∀ k q, (k, q) ∈ τ' → (k, q) ∈ τ ∨ m ≤ k) (hfix : ∀ l, (l, none) ∈ X → ∀ k, (k, [l]) ∈ τ' → (k, [l]) ∈ τ) : Ext X τ τf m :=
 ⟨fun e he => h.sub e (hsub e he), fun k q hk hlt => (hnew k q (h.new k q hk (by omega))).resolve_right (by omega), fun l hl k hk => hfix l hl k (h.fix l (hX _ hl) k hk)⟩
mutual
theorem a07 (hR : Rel C E s a) : ∀ {v : V} {x : Value} {X : bM} {τ : eV} {kid : Nat} {K : V → bM → Prop}, kQ s X v K → Rv E .none v x → Tgt s X τ kid → ∃ u X' τ', K u X' ∧ Leaf E s v x X τ kid u X' τ'
 | .sc v, x, X, τ, kid, K, h, hv, hT => by
  rcases lI h with h1 | ⟨rfl, sz, h1⟩
  ·refine ⟨_, _, τ, h1, r7 hT rfl (fun τf _ => hv) fun {st out K'} hk => ?_⟩
   cases out <;> simp only [eN] at hk <;> first | exact ⟨rfl, hk⟩ | exact hk.elim
  ·refine ⟨_, _, τ, h1, r7 hT rfl (fun τf _ => by rw [hv.1]; exact RC sz) fun {st out K'} hk => ?_⟩
   cases out <;> simp only [eN] at hk <;> first | exact ⟨rfl, hk⟩ | exact hk.elim
 | .ro n cs, x, X, τ, kid, K, h, hv, hT => by
  refine ⟨_, _, τ, h, r7 hT rfl (fun τf _ => ?_) fun {st out K'} hk => ?_⟩
  ·obtain ⟨A, cap, rfl, hc, hr⟩ := hv
   refine ⟨A, cap, rfl, hc, fun hne => ?_⟩
   obtain ⟨b, off, hA, hok, hb, hrow⟩ := hr hne
   exact ⟨b, off, hA, ((o3 hR τf).free b hb hok).1, hb, Rrow.mono (o3 hR τf) (eM _ _) rfl hrow⟩
  ·cases out <;> simp only [eN] at hk <;> first | exact ⟨rfl, hk⟩ | exact hk.elim
 | .rp cs, x, X, τ, kid, K, h, hv, hT => by
  refine ⟨_, _, τ, h, r7 hT rfl (fun τf _ => ?_) fun {st out K'} hk => ?_⟩
  ·obtain ⟨b, off, rfl, hok, hb, hrow⟩ := hv
   exact ⟨b, off, rfl, ((o3 hR τf).free b hb hok).1, hb, Rrow.mono (o3 hR τf) (eM _ _) rfl hrow⟩
  ·cases out <;> simp only [eN] at hk <;> first | exact ⟨rfl, hk⟩ | exact hk.elim
 | .own i sz 0 n lo hi, x, X, τ, kid, K, h, hv, hT => by
  simp only [kQ] at h
  split at h
  ·rename_i cs hob
   obtain ⟨hno, hl, hK⟩ := AX h
   obtain ⟨τ', hL⟩ := XH hR hT hob hno hl hv
   exact ⟨_, _, τ', hK, hL⟩
  ·exact h.elim
 | .own i sz (_ + 1) n lo hi, x, X, τ, kid, K, h, hv, hT => h.elim
 | .ptr i 0, x, X, τ, kid, K, h, hv, hT => by
  simp only [kQ] at h
  split at h
  ·rename_i cs hob
   obtain ⟨hno, hne, hK⟩ := AX h
   obtain ⟨τ', hL⟩ := XI hR hT hob hno hne hv
   exact ⟨_, _, τ', hK, hL⟩
  ·exact h.elim
 | .ptr i (_ + 1), x, X, τ, kid, K, h, hv, hT => h.elim
 | .sub i j, x, X, τ, kid, K, h, hv, hT => by
  simp only [kQ] at h
  split at h
  ·rename_i cs hob
   obtain ⟨hno, hap, sz, n, r, hj, hK⟩ := AX h
   obtain ⟨τ', hL⟩ := XJ hR hT hob hno hap hj hv
   exact ⟨_, _, τ', hK, hL⟩
  ·exact h.elim
 | .agg cs, x, X, τ, kid, K, h, hv, hT => by
  obtain ⟨xs, rfl, hr⟩ := hv
  obtain ⟨us, X', τ', hK, hL⟩ := xS hR h hr hT
  refine ⟨_, X', τ', hK, ⟨hL.tgt, hL.subX, hL.subT, hL.new, hL.fix, fun τf he hi => ⟨xs, rfl, hL.give τf he hi⟩, fun {Xf τf E3 w' o' st out K' M} hX he hf hLc hI hr hk => ?_⟩⟩
  cases out <;> simp only [eN] at hk <;> try exact hk.elim
  rename_i us'
  obtain ⟨xs', hx, hrs⟩ := hr
  simp only [Value.agg.injEq] at hx
  have hxx : xs = xs' := by simpa using congrArg Array.toList hx
  subst hxx
  exact hL.back hX he hf hLc hI hrs hk
 | .fn f cs, x, X, τ, kid, K, h, hv, hT => by
  obtain ⟨xs, rfl, hr⟩ := hv
  obtain ⟨us, X', τ', hK, hL⟩ := xS hR h hr hT
  refine ⟨_, X', τ', hK, ⟨hL.tgt, hL.subX, hL.subT, hL.new, hL.fix, fun τf he hi => ⟨xs, rfl, hL.give τf he hi⟩, fun {Xf τf E3 w' o' st out K' M} hX he hf hLc hI hr hk => ?_⟩⟩
  cases out <;> simp only [eN] at hk <;> try exact hk.elim
  rename_i f' us'
  obtain ⟨xs', hx, hrs⟩ := hr
  simp only [Value.func.injEq] at hx
  have hxx : xs = xs' := by simpa using congrArg Array.toList hx.2.2
  subst hxx
  exact hL.back hX he hf hLc hI hrs hk
 | .tr _ _ _, x, X, τ, kid, K, h, hv, hT => h.elim
 | .bp _, x, X, τ, kid, K, h, hv, hT => h.elim
 | .sp _ _ _, x, X, τ, kid, K, h, hv, hT => h.elim
 | .mref _, x, X, τ, kid, K, h, hv, hT => h.elim
 | .tup _, x, X, τ, kid, K, h, hv, hT => h.elim
 | .any, x, X, τ, kid, K, h, hv, hT => h.elim
theorem xS (hR : Rel C E s a) : ∀ {vs : List V} {xs : List Value} {X : bM} {τ : eV} {kid : Nat} {K : List V → bM → Prop}, o4 s X vs K → Rvs E .none vs xs → Tgt s X τ kid → ∃ us X' τ', K us X' ∧ Leaves E s vs xs X τ kid us X' τ'
 | [], [], X, τ, kid, K, h, hv, hT => ⟨[], X, τ, h, ⟨hT, fun e h => h, fun e h => h, fun k q h => .inl h, fun l _ k h => h, fun τf _ _ => trivial, fun {Xf τf E3 w' o' st outs K' M} _ _ _ _ hI hr hk => by
   cases outs with
   | nil => exact ⟨rfl, st, hk, hI⟩
   | cons _ _ => exact hr.elim⟩⟩
 | v :: vs, x :: xs, X, τ, kid, K, h, hv, hT => by
  obtain ⟨u, X1, τ1, h1, hL1⟩ := a07 hR h hv.1 hT
  obtain ⟨us, X2, τ2, h2, hL2⟩ := xS hR h1 hv.2 hL1.tgt
  have hadd : kid + nls (u :: us) = kid + nl u + nls us := by simp only [nls]; omega
  refine ⟨u :: us, X2, τ2, h2, ⟨by rw [hadd]; exact hL2.tgt, fun e h => hL2.subX e (hL1.subX e h), fun e h => hL2.subT e (hL1.subT e h), fun k q h => ?_, fun l hl k h => hL1.fix l hl k (hL2.fix l (hL1.subX _ hl) k h), fun τf he hi => ?_, fun {Xf τf E3 w' o' st outs K' M} hX he hf hLc hI hr hk => ?_⟩⟩
  ·rcases hL2.new k q h with h | h
   ·exact hL1.new k q h
   ·exact .inr (by omega)
  ·rw [hadd] at he
   exact ⟨hL1.give τf (he.first (by omega) hL2.subT hL2.subX hL2.new hL2.fix) hi, hL2.give τf he hi⟩
  ·rw [hadd] at he
   cases outs with
   | nil => exact hr.elim
   | cons o1 outs =>
    obtain ⟨n1, st1, hk1, hI1⟩ := hL1.back (fun e h => hX e (hL2.subX e h)) (he.first (by omega) hL2.subT hL2.subX hL2.new hL2.fix) hf hLc hI hr.1 hk
    have hr2 : Rvs (aZ w' o') (.top (kid + nl u)) outs xs := by rw [← n1]; exact hr.2
    obtain ⟨n2, st2, hk2, hI2⟩ := hL2.back hX he hf hLc hI1 hr2 hk1
    exact ⟨by simp only [nls, n1, n2], st2, hk2, by rw [hadd]; exact hI2⟩
 | [], _ :: _, X, τ, kid, K, h, hv, hT => hv.elim
 | _ :: _, [], X, τ, kid, K, h, hv, hT => hv.elim
end
end
end Go.Proofs.YtboolngaahifdaaGreatD
namespace Go.Proofs.YtboolngaahifdaaGreatD
open Go Go.RowKit
mutual
theorem W7 : ∀ {v u : V} {s : St} {K : St → Prop}, eN s v u K → ∃ st, K st ∧ ∀ K' : St → Prop, K' st → eN s v u K'
 | .own i sz off n lo hi, u, s, K, h => by
  cases u <;> simp only [eN] at h ⊢ <;> first | exact h.elim | exact ⟨_, h, fun K' h => h⟩
 | .ptr i off, u, s, K, h => by
  cases u <;> simp only [eN] at h ⊢ <;> first | exact h.elim | exact ⟨_, h, fun K' h => h⟩
 | .sub i j, u, s, K, h => by
  cases u <;> simp only [eN] at h ⊢ <;> try exact h.elim
  ·split at h
   ·obtain ⟨cs', hc, h⟩ := h
    exact ⟨_, h, fun K' h => ⟨cs', hc, h⟩⟩
   ·exact h.elim
  ·split at h
   ·exact ⟨_, h, fun K' h => h⟩
   ·exact h.elim
 | .sc v, u, s, K, h => by
  cases u <;> simp only [eN] at h ⊢ <;> first | exact h.elim | exact ⟨_, h, fun K' h => h⟩
 | .ro n cs, u, s, K, h => by
  cases u <;> simp only [eN] at h ⊢ <;> first | exact h.elim | exact ⟨_, h, fun K' h => h⟩
 | .rp cs, u, s, K, h => by
  cases u <;> simp only [eN] at h ⊢ <;> first | exact h.elim | exact ⟨_, h, fun K' h => h⟩
 | .agg cs, u, s, K, h => by
  cases u <;> simp only [eN] at h ⊢ <;> try exact h.elim
  exact uA h
 | .fn f cs, u, s, K, h => by
  cases u <;> simp only [eN] at h ⊢ <;> try exact h.elim
  exact uA h
 | .tr _ _ _, u, s, K, h => h.elim
 | .bp _, u, s, K, h => h.elim
 | .sp _ _ _, u, s, K, h => h.elim
 | .mref _, u, s, K, h => h.elim
 | .tup _, u, s, K, h => h.elim
 | .any, u, s, K, h => h.elim
theorem uA : ∀ {vs us : List V} {s : St} {K : St → Prop}, pB s vs us K → ∃ st, K st ∧ ∀ K' : St → Prop, K' st → pB s vs us K'
 | [], [], s, K, h => ⟨s, h, fun K' h => h⟩
 | v :: vs, u :: us, s, K, h => by
  obtain ⟨s1, h1, h2⟩ := W7 (v := v) (u := u) h
  obtain ⟨s2, h3, h4⟩ := uA (vs := vs) h1
  exact ⟨s2, h3, fun K' hk => h2 _ (h4 _ hk)⟩
 | [], _ :: _, s, K, h => h.elim
 | _ :: _, [], s, K, h => h.elim
end
section
variable {P : Program} {ex : Exs} {Γ : Tab} {C : Ctx} {E : Env} {s : St} {a : Act} {o : Oper} {K : V → St → Prop}
def W6 (τ : eV) (m k0 N : Nat) (fz : Bool) : Option (List Nat) → Option (List Nat)
 | none => none
 | some [] => some []
 | some (h :: t) => if h < m then (match bwd τ h with
   | some q => some (q ++ t)
   | none => some []) else if k0 ≤ h then (if fz then none else some ((N + (h - k0)) :: t)) else some []
def r6 (E : Env) (τ : eV) (m k0 N : Nat) (fz : Bool) (o' : Lab) : Lab := fun b => if b < E.w.heap.size ∧ (E.o b).bind (fwd τ) = none then E.o b else W6 τ m k0 N fz (o' b)
def Env.lc (E : Env) (τ : eV) (m k0 N : Nat) (fz : Bool) (w' : World) (o' : Lab) (g : Nat → Option Obj) : Env :=
 {w := w', o := r6 E τ m k0 N fz o', ρ := E.ρ, g := g, n := E.n, okb := fun b => r6 E τ m k0 N fz o' b = none }
def gY (k0 : Nat) (o' : Lab) : Lab := fun b => match o' b with
 | some (h :: t) => if k0 ≤ h then some (h :: t) else some []
 | x => x
theorem I9 (hR : Rel C E s a) {vs : List V} {xs : List Value} (hv : Rvs E .none vs xs) {f : FuncId} (h : wC (bU P ex) s f vs K) :
  Enters P f ∧ Calls P f xs.toArray E.w fun e w' => match e with
   | .returned x => ∃ E' v s', E'.w = w' ∧ K v s' ∧ Rel C E' s' a ∧ Rv E' .none v x
   | _ => False := by
 unfold wC at h
 obtain ⟨us, X, τ, hK, hL⟩ := xS hR (X := []) (τ := []) (kid := 0) h hv ⟨⟨fun k q k' q' h => (by cases h), fun k q q' h => (by cases h)⟩, fun k q h => (by cases h), fun k q h => (by cases h), fun i h => (by cases h), fun i j h => (by cases h)⟩
 obtain ⟨hns1, hns2, r, o1, os, ⟨hen, hspec⟩, hback⟩ := hK
 obtain ⟨st0, hK0, hdet⟩ := uA hback
 refine ⟨hen, ?_⟩
 have hext : Ext X τ τ (0 + nls us) := ⟨fun e h => h, fun k q h _ => h, fun l _ k h => h⟩
 have hgive := hL.give τ hext hL.tgt.inc
 have hlt : ∀ b p, E.o b = some p → b < E.w.heap.size := fun b p h => (hR.lab b p h).1
 refine Calls.mono (hspec E.w (sE E τ) xs (fun b p h => by
  simp only [sE, Option.map_eq_some_iff] at h
  obtain ⟨q, hq, _⟩ := h
  exact hlt b q hq) hgive) fun e w' he => ?_
 cases e with
 | panicked chain => exact he.elim
 | outgrown => exact he.elim
 | returned x =>
 obtain ⟨hG, o', hold', hbd, houts, k0, hk0, hr⟩ := he
 have hnl : ∀ b, (E.o b).bind (fwd τ) = none → ¬ yX (sE E τ) b := by
  rintro b hb ⟨k, t, hk⟩
  simp only [sE, Option.map_eq_some_iff] at hk
  obtain ⟨q, hq, hqq⟩ := hk
  rw [hq] at hb
  simp only [Option.bind_some] at hb
  rw [hb] at hqq
  simp at hqq
 have hlab0 : ∀ b, (E.o b).bind (fwd τ) = none → sE E τ b = none ∨ sE E τ b = some [] := by
  intro b hb
  cases ho : E.o b with
  | none => left; simp [sE, ho]
  | some p => right; rw [ho] at hb; simp only [Option.bind_some] at hb; simp [sE, ho, hb]
 have hno' : ∀ b, b < E.w.heap.size → (E.o b).bind (fwd τ) = none → ∀ h t, o' b ≠ some (h :: t) := by
  intro b hb hn h t ho
  rw [hold' b hb (hnl b hn)] at ho
  rcases hlab0 b hn with h1 | h1 <;> rw [h1] at ho <;> cases ho
 have hfree' : ∀ b, b < E.w.heap.size → (E.o b).bind (fwd τ) = none → o' b = none → E.o b = none := by
  intro b hb hn ho
  rw [hold' b hb (hnl b hn)] at ho
  simpa [sE] using ho
 have hm : 0 + nls us = nls us := Nat.zero_add _
 have hLC : ∀ fz g, LC E τ (E.lc τ (nls us) k0 s.g.length fz w' o' g) w' o' := by
  intro fz g
  refine ⟨rfl, rfl, fun k q hkq b t hb => ⟨?_, rfl⟩, ⟨Nat.le_refl _, fun b _ hok => ⟨?_, rfl⟩, Nat.le_refl _, fun _ h _ => absurd h (Nat.not_lt_zero _), fun _ _ h _ => absurd h (Nat.not_lt_zero _)⟩, fun b p ho hf => ?_, fun b hb ho => ?_, hG.size⟩
  ·have hb' : o' b = some (k :: t) := by simpa [aZ] using hb
   show r6 E τ (nls us) k0 s.g.length fz o' b = some (q ++ t)
   unfold r6
   rw [if_neg (fun hc => hno' b hc.1 hc.2 _ _ hb'), hb']
   have hklt := hL.tgt.lt k q hkq
   simp only [W6]
   rw [if_pos (by omega), a1Y hL.tgt.inc hkq]
  ·have hok' : o' b = none := hok
   show r6 E τ (nls us) k0 s.g.length fz o' b = none
   unfold r6
   split
   ·rename_i hc; exact hfree' b hc.1 hc.2 hok'
   ·rw [hok']; rfl
  ·have hb := hlt b p ho
   have hbn : (E.o b).bind (fwd τ) = none := by rw [ho]; exact hf
   refine ⟨?_, hG.block b hb (hnl b hbn)⟩
   show r6 E τ (nls us) k0 s.g.length fz o' b = _
   unfold r6
   rw [if_pos ⟨hb, hbn⟩, ho]
  ·have hbn : (E.o b).bind (fwd τ) = none := by rw [ho]; rfl
   refine ⟨?_, hG.block b hb (hnl b hbn)⟩
   show r6 E τ (nls us) k0 s.g.length fz o' b = none
   unfold r6
   rw [if_pos ⟨hb, hbn⟩, ho]
 have hRI : ∀ fz g, RI E s X τ (E.lc τ (nls us) k0 s.g.length fz w' o' g) (0 + nls us) st0 := by
  intro fz g
  obtain ⟨_, st', hst, hI⟩ := hL.back (K' := fun st => st = st0) (fun e h => h) hext hL.tgt (hLC fz g) (RI.start hR hL.tgt (hLC fz g)) houts (hdet _ rfl)
  rw [← hst]
  exact hI
 have hnoP : ∀ q, ¬ Pd τ (0 + nls us) q := fun q ⟨k, h1, h2⟩ => by have := hL.tgt.lt k q h2; omega
 have hRel : ∀ fz, Rel C (E.lc τ (nls us) k0 s.g.length fz w' o' st0.ob) st0 a := by
  intro fz
  have hI := hRI fz st0.ob
  have hLc := hLC fz st0.ob
  have hdl : ∀ b, b < C.w0.heap.size → ¬ C.lent b → (E.o b).bind (fwd τ) = none := by
   intro b hb hl
   have ho := hR.old b hb hl
   cases hq : C.o0 b with
   | none => rw [ho, hq]; rfl
   | some q =>
    have := C.dull b q hl hq
    subst this
    rw [ho, hq]
    simp only [Option.bind_some]
    refine pW fun k q t hm he => ?_
    rcases hL.tgt.at_ k q hm with ⟨i', rfl, _⟩ | ⟨i', j', rfl, _⟩ <;> simp at he
  refine Rel.ofX (X := X) hR ⟨hG.size, fun b hb hok => ?_, Nat.le_refl _, fun i hi hs => ⟨by rw [hR.g]; exact hI.live i hs, rfl, fun ho => .inl (hI.lab i hs (hnoP _) ho), fun c e hc => hG.shape _ c e hc⟩, fun i j hnw hi ht => ?_⟩ hI.N hI.t hns1 hns2 rfl (by show E.n = _; rw [hR.n, hI.len]) (fun i cs hi => ?_) (hI.done hL.tgt.lt rfl) rfl (fun b p hp => ?_) ?_ (fun b hb hl => ?_)
  ·rw [hR.okb] at hok
   exact hLc.free b hb hok
  ·have hX := BN hnw
   have ht' := (hI.tr i j ht).resolve_right hX
   refine ⟨by rw [hR.g]; exact ht', ?_⟩
   obtain ⟨cs, sz, n, rr, hob, hj⟩ := ht'
   obtain ⟨A, cap, hc, _⟩ := v7 hR hob hj
   rw [hc]
   exact hI.sub i j _ ⟨cs, sz, n, rr, hob, hj⟩ hX hc
  ·have hs := hI.box i cs hi
   refine ⟨hs, ?_⟩
   have hl := RS (hR.ob i _ hs)
   refine (hLc.keep _ _ hl (G8 hL.tgt (i := i) fun hx => ?_)).2
   obtain ⟨cs', hcs⟩ := hL.tgt.row i hx
   rw [hs] at hcs
   cases hcs
  ·have hp' : r6 E τ (nls us) k0 s.g.length fz o' b = some p := hp
   have hsz : E.w.heap.size ≤ w'.heap.size := hG.size
   by_cases hb : b < E.w.heap.size
   ·refine ⟨Nat.lt_of_lt_of_le hb hsz, ?_⟩
    unfold r6 at hp'
    split at hp'
    ·exact (hR.lab b p hp').2
    ·rename_i hc
     cases ho : E.o b with
     | none => exact absurd ⟨hb, by rw [ho]; rfl⟩ hc
     | some q =>
      rcases (hR.lab b q ho).2 with rfl | h2
      ·exfalso
       refine hc ⟨hb, ?_⟩
       rw [ho]
       simp only [Option.bind_some]
       refine pW fun k q t hm he => ?_
       rcases hL.tgt.at_ k q hm with ⟨i', rfl, _⟩ | ⟨i', j', rfl, _⟩ <;> simp at he
      ·exact .inr h2
   ·refine ⟨?_, .inr (.inl (by have := hR.fr.size; omega))⟩
    unfold r6 at hp'
    rw [if_neg (fun hc => hb hc.1)] at hp'
    cases ho : o' b with
    | none => rw [ho] at hp'; cases hp'
    | some q => exact hbd b q ho
  ·have hf := hR.fr
   exact ⟨hG.os.trans hf.os, hG.tape.trans hf.tape, hG.output.trans hf.output, Nat.le_trans hf.size hG.size, fun k hk hl => (hG.block k (Nat.lt_of_lt_of_le hk hf.size) (hnl k (hdl k hk hl))).trans (hf.block k hk hl), fun b c e hc => by
    obtain ⟨c1, g1, g2⟩ := hf.shape b c e hc
    obtain ⟨c2, g3, g4⟩ := hG.shape b c1 e g1
    exact ⟨c2, g3, g4.trans g2⟩, Nat.le_trans hf.drawn hG.drawn⟩
  ·show r6 E τ (nls us) k0 s.g.length fz o' b = _
   unfold r6
   rw [if_pos ⟨Nat.lt_of_lt_of_le hb hR.fr.size, hdl b hb hl⟩]
   exact hR.old b hb hl
 have hrR : Rv (aZ w' (gY k0 o')) (.top k0) r x := by
  refine Rv.mono (E := aZ w' o') (E' := aZ w' (gY k0 o')) ⟨Nat.le_refl _, fun b _ hok => ⟨?_, rfl⟩, Nat.le_refl _, fun _ h _ => absurd h (Nat.not_lt_zero _), fun _ _ h _ => absurd h (Nat.not_lt_zero _)⟩ (fun q hq => by cases hq) (fun k j hk hj b t hb => ⟨?_, rfl⟩) hr
  ·have hok' : o' b = none := hok
   show gY k0 o' b = none
   simp [gY, hok']
  ·cases hk
   have hb' : o' b = some (j :: t) := by simpa [aZ] using hb
   show gY k0 o' b = _
   simp [gY, hb', hj]
 have hres : ∀ b q, q ≠ [] → gY k0 o' b = some q → ∃ h t, q = h :: t ∧ o' b = some (h :: t) ∧ k0 ≤ h := by
  intro b q hq hb
  unfold gY at hb
  split at hb
  ·rename_i h t ho
   split at hb
   ·rename_i hle
    cases hb
    exact ⟨h, t, rfl, ho, hle⟩
   ·cases hb; exact absurd rfl hq
  ·rename_i hne
   cases q with
   | nil => exact absurd rfl hq
   | cons h t => exact absurd hb (hne h t)
 have hnone : ∀ b, gY k0 o' b = none → o' b = none := by
  intro b hb
  unfold gY at hb
  split at hb
  ·split at hb <;> cases hb
  ·exact hb
 have hfr : ∀ fz b, gY k0 o' b = none → (E.lc τ (nls us) k0 s.g.length fz w' o' st0.ob).okb b := by
  intro fz b hb
  have ho := hnone b hb
  show r6 E τ (nls us) k0 s.g.length fz o' b = none
  unfold r6
  split
  ·rename_i hc; exact hfree' b hc.1 hc.2 ho
  ·rw [ho]; rfl
 have hnew : ∀ fz b h t, o' b = some (h :: t) → k0 ≤ h → r6 E τ (nls us) k0 s.g.length fz o' b = if fz then none else some ((s.g.length + (h - k0)) :: t) := by
  intro fz b h t ho hle
  unfold r6
  rw [if_neg (fun hc => hno' b hc.1 hc.2 _ _ ho), ho]
  simp only [W6]
  rw [if_neg (by omega), if_pos hle]
 rcases hK0 with hK0 | hK0
 ·refine ⟨_, _, st0, rfl, hK0, hRel true, ?_⟩
  refine Rv.freeze (G := aZ w' (gY k0 o')) (F := E.lc τ (nls us) k0 s.g.length true w' o' st0.ob) (full := True) rfl rfl (fun _ b hb => hfr true b hb) (fun b q hq hb => ?_) (m := .top k0) (fun q hq => by cases hq) (.inl trivial) hrR
  obtain ⟨h, t, rfl, ho, hle⟩ := hres b q hq hb
  exact hnew true b h t ho hle
 ·have hlen : st0.g.length = s.g.length := (hRI false st0.ob).len
  have hv1 : Rv (E.lc τ (nls us) k0 s.g.length false w' o' st0.ob).bare (.top st0.g.length) r x := by
   have e : Md.sh k0 s.g.length (.top k0) = .top st0.g.length := by simp [Md.sh, hlen]
   rw [← e]
   refine Rv.sh (G := aZ w' (gY k0 o')) (F := E.lc τ (nls us) k0 s.g.length false w' o' st0.ob) (full := True) rfl rfl (fun _ b hb => hfr false b hb) (fun b q hq hb => ?_) (m := .top k0) (k0 := k0) (N := s.g.length) (Nat.le_refl _) (.inl trivial) hrR
   obtain ⟨h, t, rfl, ho, hle⟩ := hres b q hq hb
   exact hnew false b h t ho hle
  obtain ⟨E', h1, h2, h3, h4, h5, h6⟩ := K7 (hRel false) hv1
  exact ⟨E', _, _, h2, hK0, h1, h5⟩
mutual
theorem XM {s : St} : ∀ {v : V} {X : bM} {K K' : V → bM → Prop}, (∀ u X, K u X → K' u X) → kQ s X v K → kQ s X v K'
 | .sc v, X, K, K', hK, h => qF h (hK _ _) (fun ⟨sz, h⟩ => ⟨sz, hK _ _ h⟩)
 | .ro n cs, X, K, K', hK, h => hK _ _ h
 | .rp cs, X, K, K', hK, h => hK _ _ h
 | .own i sz 0 n lo hi, X, K, K', hK, h => by
  simp only [kQ] at h ⊢
  split at h
  ·obtain ⟨h1, h2, h3⟩ := AX h
   simp only [h1, cond_true]
   exact ⟨h2, hK _ _ h3⟩
  ·exact h.elim
 | .own i sz (_ + 1) n lo hi, X, K, K', hK, h => h.elim
 | .ptr i 0, X, K, K', hK, h => by
  simp only [kQ] at h ⊢
  split at h
  ·obtain ⟨h1, h2, h3⟩ := AX h
   simp only [h1, cond_true]
   exact ⟨h2, hK _ _ h3⟩
  ·exact h.elim
 | .ptr i (_ + 1), X, K, K', hK, h => h.elim
 | .sub i j, X, K, K', hK, h => by
  simp only [kQ] at h ⊢
  split at h
  ·obtain ⟨h1, h2, sz, n, r, h3, h4⟩ := AX h
   simp only [h1, cond_true]
   exact ⟨h2, sz, n, r, h3, hK _ _ h4⟩
  ·exact h.elim
 | .agg cs, X, K, K', hK, h => uO (vs := cs) (fun us X h => hK _ _ h) h
 | .fn f cs, X, K, K', hK, h => uO (vs := cs) (fun us X h => hK _ _ h) h
 | .tr _ _ _, X, K, K', hK, h => h.elim
 | .bp _, X, K, K', hK, h => h.elim
 | .sp _ _ _, X, K, K', hK, h => h.elim
 | .mref _, X, K, K', hK, h => h.elim
 | .tup _, X, K, K', hK, h => h.elim
 | .any, X, K, K', hK, h => h.elim
theorem uO {s : St} : ∀ {vs : List V} {X : bM} {K K' : List V → bM → Prop}, (∀ us X, K us X → K' us X) → o4 s X vs K → o4 s X vs K'
 | [], X, K, K', hK, h => hK _ _ h
 | v :: vs, X, K, K', hK, h => XM (v := v) (fun u X h => uO (vs := vs) (fun us X h => hK _ _ h) h) h
end
theorem XG (hR : Rel C E s a) {vs : List V} {xs : List Value} (hv : Rvs E .none vs xs) {f : FuncId} (h : KG (bU P ex) s f vs K) :
  Enters P f ∧ Calls P f xs.toArray E.w fun e w' => match e with
   | .returned x => ∃ E' v s', E'.w = w' ∧ K v s' ∧ Rel C E' s' a ∧ Rv E' .none v x
   | _ => False := by
 refine I9 (ex := ex) hR hv (uO (fun us X h => ?_) h)
 obtain ⟨h1, r, o, os, h2, h3⟩ := AX h
 simp only [Bool.and_eq_true] at h1
 exact ⟨eC h1.1, h1.2, r, o, os, h2, h3⟩
end
end Go.Proofs.YtboolngaahifdaaGreatD
namespace Go.Proofs.YtboolngaahifdaaGreatD
open Go Go.RowKit
section
variable {P : Program} {Γ : Tab} {C : Ctx} {E : Env} {s : St} {a : Act} {o : Oper} {K : V → St → Prop}
theorem fN : ∀ {π : List Nat} {j i k : Nat}, cH j π i = some k → j ≤ k ∧ k < j + π.length
 | [], j, i, k, h => by simp [cH] at h
 | p :: r, j, i, k, h => by
  simp only [cH] at h
  cases hb : Nat.beq p i with
  | true => rw [hb] at h; simp at h; subst h; simp
  | false =>
   rw [hb] at h
   have := fN (π := r) (j := j + 1) h
   simp; omega
theorem lM : ∀ {π : List Nat} {j i k : Nat}, cH j π i = some (j + k) → π[k]? = some i
 | [], j, i, k, h => by simp [cH] at h
 | p :: r, j, i, k, h => by
  simp only [cH] at h
  cases hb : Nat.beq p i with
  | true =>
   rw [hb] at h
   simp at h
   subst h
   simp [Nat.eq_of_beq_eq_true hb]
  | false =>
   rw [hb] at h
   have h' : cH (j + 1) r i = some (j + k) := h
   have h1 := fN h'
   obtain ⟨k', rfl⟩ : ∃ k', k = k' + 1 := ⟨k - 1, by omega⟩
   have := lM (π := r) (j := j + 1) (k := k') (by rw [h']; congr 1; omega)
   simpa using this
theorem yE (π : List Nat) (s : St) : ∀ (l : List Nat) (j : Nat), (jU π s j l).length = l.length
 | [], _ => rfl
 | _ :: r, j => by simp [jU, yE π s r (j + 1)]
theorem uW (π : List Nat) (s : St) : ∀ (l : List Nat) (j k : Nat) (ob : Obj), aX (jU π s j l) k = some ob → ∃ i, l[k]? = some i ∧ cH 0 π i = some (j + k) ∧ wL π (s.ob i) = some ob
 | [], j, k, ob, h => by simp [jU, aX] at h
 | i :: r, j, 0, ob, h => by
  simp only [jU, aX] at h
  cases hb : UP j (cH 0 π i) with
  | false => rw [hb] at h; cases h
  | true =>
   rw [hb] at h
   refine ⟨i, rfl, ?_, h⟩
   unfold UP at hb
   split at hb
   ·rename_i k hk; rw [hk, Nat.eq_of_beq_eq_true hb]; rfl
   ·cases hb
 | i :: r, j, k + 1, ob, h => by
  simp only [jU, aX] at h
  obtain ⟨i', h1, h2, h3⟩ := uW π s r (j + 1) k ob h
  exact ⟨i', by simpa using h1, by rw [h2]; congr 1; omega, h3⟩
def rC (kp : Option Nat) (π : List Nat) : Option (List Nat) → Option (List Nat)
 | some (h :: t) => match cH 0 π h with
  | some k => some (k :: t)
  | none => match kp with
   | some K => if K ≤ h then some ((π.length + (h - K)) :: t) else some []
   | none => some []
 | x => x
theorem qJ {kp : Option Nat} {π : List Nat} {x : Option (List Nat)} : rC kp π x = none ↔ x = none := by
 unfold rC
 split
 ·split
  ·simp
  ·split
   ·split <;> simp
   ·simp
 ·rfl
def Env.ren (E : Env) (kp : Option Nat) (π : List Nat) (s' : St) : Env :=
 {w := E.w, o := fun b => rC kp π (E.o b), ρ := fun k => E.ρ (π.getD k 0), g := s'.ob, n := π.length, okb := fun b => rC kp π (E.o b) = none }
theorem FI {kp : Option Nat} (hR : Rel C E s a) (π : List Nat) (s' : St) : Mono E.bare (E.ren kp π s').bare :=
 ⟨Nat.le_refl _, fun b _ h => ⟨by have h' : E.okb b := h; rw [hR.okb] at h'; exact qJ.2 h', rfl⟩, Nat.le_refl _, fun _ h _ => absurd h (Nat.not_lt_zero _), fun _ _ h _ => absurd h (Nat.not_lt_zero _)⟩
theorem nM {kp : Option Nat} {π : List Nat} {i k : Nat} (s' : St) (h : cH 0 π i = some k) : Moved E (E.ren kp π s') [i] [k] := fun b r hb => by
 refine ⟨?_, rfl⟩
 show rC kp π (E.o b) = _
 rw [hb]
 simp [rC, h]
theorem fX {kp : Option Nat} {π : List Nat} {i k : Nat} (s' : St) (h : cH 0 π i = some k) : (E.ren kp π s').ρ k = E.ρ i := by
 have := lM (j := 0) (k := k) (by simpa using h)
 simp [Env.ren, List.getD_eq_getElem?_getD, this]
theorem yF {kp : Option Nat} {π : List Nat} {i k : Nat} {ks : List Nat} (hR : Rel C E s a) (h : cH 0 π i = some k) (hl : ((E.ren kp π (l5 π ks s)).g k).isSome = true) : (E.g i).isSome = true ∧ ∀ ob, s.ob i = some ob → ob.box = false → (E.ren kp π (l5 π ks s)).g k = some ob := by
 have hg : (E.ren kp π (l5 π ks s)).g k = aX (jU π s 0 π) k := rfl
 rw [hg] at hl ⊢
 cases ho : aX (jU π s 0 π) k with
 | none => rw [ho] at hl; cases hl
 | some ob =>
  obtain ⟨i', h1, h2, h3⟩ := uW π s π 0 k ob ho
  have hii : i' = i := by
   have := lM (j := 0) (k := k) (by simpa using h)
   rw [this] at h1
   exact (Option.some.inj h1).symm
  subst hii
  rw [hR.g]
  cases hs : s.ob i' with
  | none => rw [hs] at h3; simp [wL] at h3
  | some ob' =>
   refine ⟨rfl, fun ob2 h4 h5 => ?_⟩
   cases h4
   rw [hs] at h3
   obtain ⟨bx, cs⟩ := ob'
   simp only at h5
   subst h5
   simp only [wL] at h3
   exact h3.symm
theorem a2V {kp : Option Nat} {π : List Nat} {i j k : Nat} {ks : List Nat} (hR : Rel C E s a) (hp : cH 0 π i = some k) (hl : hZ (E.ren kp π (l5 π ks s)).g k j) : hZ E.g i j := by
 obtain ⟨cs, sz, n, r, hg, hj⟩ := hl
 have hgo : (E.ren kp π (l5 π ks s)).g k = aX (jU π s 0 π) k := rfl
 obtain ⟨i', h1, h2, h3⟩ := uW π s π 0 k _ (hgo ▸ hg)
 have hii : i' = i := by
  have := lM (j := 0) (k := k) (by simpa using hp)
  rw [this] at h1
  exact (Option.some.inj h1).symm
 subst hii
 refine ⟨cs, sz, n, r, ?_, hj⟩
 rw [hR.g]
 cases hs : s.ob i' with
 | none => rw [hs] at h3; simp [wL] at h3
 | some ob' =>
  obtain ⟨bx, cs'⟩ := ob'
  rw [hs] at h3
  cases bx <;> simp [wL] at h3
  rw [h3]
mutual
theorem Rv.ren {kp : Option Nat} (hR : Rel C E s a) (π ks : List Nat) : ∀ {v : V} {x : Value}, Rv E .none v x → Rv (E.ren kp π (l5 π ks s)) .none (AD π v) x
 | .sc v, x, h => h
 | .ro n cs, x, h => by
  obtain ⟨A, cap, rfl, hc, hr⟩ := h
  refine ⟨A, cap, rfl, hc, fun hne => ?_⟩
  obtain ⟨b, off, hA, hok, hb, hrow⟩ := hr hne
  have hm := FI (kp := kp) hR π (l5 π ks s)
  exact ⟨b, off, hA, (hm.free b hb hok).1, hb, Rrow.mono hm (eM _ _) rfl hrow⟩
 | .tr sz n cs, x, h => by
  obtain ⟨A, cap, rfl, hc, hl, hr⟩ := h
  refine ⟨A, cap, rfl, hc, hl, ?_⟩
  rcases hr with hr | ⟨b, off, q, c, e, hA, hq, _⟩
  ·exact .inl hr
  ·simp [Md.leaf] at hq
 | .own i sz off n lo hi, x, h => by
  simp only [AD]
  cases hp : cH 0 π i with
  | none => trivial
  | some k =>
  obtain ⟨hin, A, cap, rfl, hnc, hlv⟩ := h
  refine ⟨by have := (fN hp).2; simpa [Env.ren] using this, A, cap, rfl, hnc, fun hl => ?_⟩
  obtain ⟨hg, _⟩ := yF hR hp hl
  obtain ⟨hc, hlo, hhi, hr⟩ := hlv hg
  refine ⟨hc, hc, fun h hh => (by cases hh), ?_⟩
  rcases hr with hr | ⟨c, e, hA, ho, hh, hs⟩
  ·exact .inl hr
  ·refine .inr ⟨c, e, by rw [fX _ hp]; exact hA, ?_, by rw [fX _ hp]; exact hh, by rw [fX _ hp]; exact hs⟩
   rw [fX _ hp]
   have := (nM (kp := kp) (E := E) (l5 π ks s) hp (E.ρ i).1 [] (by simpa using ho)).1
   simpa using this
 | .sub i j, x, h => by
  simp only [AD]
  cases hp : cH 0 π i with
  | none => trivial
  | some k =>
  obtain ⟨hin, hsl, hlv⟩ := h
  refine ⟨by have := (fN hp).2; simpa [Env.ren] using this, hsl, fun hl => ?_⟩
  obtain ⟨cs, sz, n, r, hg, hj⟩ := hl
  have hl1 : ((E.ren kp π (l5 π ks s)).g k).isSome = true := by rw [hg]; rfl
  have hgo : (E.ren kp π (l5 π ks s)).g k = aX (jU π s 0 π) k := rfl
  obtain ⟨i', h1, h2, h3⟩ := uW π s π 0 k _ (hgo ▸ hg)
  have hii : i' = i := by
   have := lM (j := 0) (k := k) (by simpa using hp)
   rw [this] at h1
   exact (Option.some.inj h1).symm
  subst hii
  rw [fX _ hp]
  refine hlv ⟨cs, sz, n, r, ?_, hj⟩
  rw [hR.g]
  cases hs : s.ob i' with
  | none => rw [hs] at h3; simp [wL] at h3
  | some ob' =>
   obtain ⟨bx, cs'⟩ := ob'
   rw [hs] at h3
   cases bx <;> simp [wL] at h3
   rw [h3]
 | .ptr i off, x, h => by
  simp only [AD]
  cases hp : cH 0 π i with
  | none => trivial
  | some k =>
  obtain ⟨hin, ad, hx, hlv⟩ := h
  refine ⟨by have := (fN hp).2; simpa [Env.ren] using this, ad, hx, fun hl => ?_⟩
  rw [fX _ hp]
  exact hlv (yF hR hp hl).1
 | .bp cs, x, h => by
  obtain ⟨b, off, q, c, e, rfl, hq, _⟩ := h
  simp [Md.leaf] at hq
 | .mref i, x, h => by
  simp only [AD]
  cases hp : cH 0 π i with
  | none => trivial
  | some k =>
  obtain ⟨hin, r, hx, hlv⟩ := h
  refine ⟨by have := (fN hp).2; simpa [Env.ren] using this, r, hx, fun hl => ?_⟩
  rw [fX _ hp]
  exact hlv (yF hR hp hl).1
 | .sp i j off, x, h => by
  simp only [AD]
  cases hp : cH 0 π i with
  | none => trivial
  | some k =>
  obtain ⟨hin, ad, hx, hlv⟩ := h
  refine ⟨by have := (fN hp).2; simpa [Env.ren] using this, ad, hx, fun hl => ?_⟩
  rw [fX _ hp]
  exact hlv (a2V hR hp hl)
 | .rp cs, x, h => by
  obtain ⟨b, off, rfl, hok, hb, hrow⟩ := h
  have hm := FI (kp := kp) hR π (l5 π ks s)
  exact ⟨b, off, rfl, (hm.free b hb hok).1, hb, Rrow.mono hm (eM _ _) rfl hrow⟩
 | .agg cs, x, h => by
  obtain ⟨xs, rfl, hr⟩ := h
  exact ⟨xs, rfl, Rvs.ren hR π ks hr⟩
 | .tup cs, x, h => by
  obtain ⟨xs, rfl, hr⟩ := h
  exact ⟨xs, rfl, Rvs.ren hR π ks hr⟩
 | .fn f cs, x, h => by
  obtain ⟨xs, rfl, hr⟩ := h
  exact ⟨xs, rfl, Rvs.ren hR π ks hr⟩
 | .any, x, h => trivial
theorem Rvs.ren {kp : Option Nat} (hR : Rel C E s a) (π ks : List Nat) : ∀ {vs : List V} {xs : List Value}, Rvs E .none vs xs → Rvs (E.ren kp π (l5 π ks s)) .none (qK π vs) xs
 | [], [], h => trivial
 | v :: vs, x :: xs, h => ⟨Rv.ren hR π ks h.1, Rvs.ren hR π ks h.2⟩
 | [], _ :: _, h => h.elim
 | _ :: _, [], h => h.elim
end
theorem OP {π : List Nat} : ∀ {cs : List V}, eG cs = false → eG (qK π cs) = false
 | [], _ => rfl
 | [c], h => by cases c <;> simp only [qK, AD] <;> first | rfl | (split <;> rfl) | cases h
 | _ :: _ :: _, _ => by simp only [qK]; unfold eG; split <;> simp_all
theorem IS (π : List Nat) : ∀ (cs : List V) (k : Nat), (qK π cs)[k]? = (cs[k]?).map (AD π)
 | [], k => by simp [qK]
 | c :: cs, 0 => by simp [qK]
 | c :: cs, k + 1 => by simp [qK, IS π cs k]
theorem SK (π : List Nat) (t : List (Nat × V)) (k : Nat) : ∀ ks : List Nat, lk (EN π t ks) k = .any ∨ lk (EN π t ks) k = AD π (lk t k)
 | [] => .inl rfl
 | j :: r => by
  simp only [EN, lk]
  cases h : Nat.beq j k with
  | true => right; rw [Nat.eq_of_beq_eq_true h]; rfl
  | false => simpa using SK π t k r
theorem LH {kp : Option Nat} (hR : Rel C E s a) (π ks : List Nat) (hπ : C.np ≤ π.length ∧ ∀ k, k < C.np → cH 0 π k = some k) : Rel C (E.ren kp π (l5 π ks s)) (l5 π ks s) a := by
 refine ⟨hR.size, hR.nd, fun k => ?_, rfl, ?_, fun k ob hk => ?_, rfl, fun b p hp => ?_, hR.fr, fun b hb hl => ?_, hπ.1, fun k hk hs => ?_⟩
 ·rcases SK π s.t k ks with h | h
  ·rw [show (l5 π ks s).t = EN π s.t ks from rfl, h]; trivial
  ·rw [show (l5 π ks s).t = EN π s.t ks from rfl, h]
   exact Rv.ren hR π ks (hR.slot k)
 ·show π.length = (jU π s 0 π).length
  rw [yE]
 ·obtain ⟨i, h1, h2, h3⟩ := uW π s π 0 k ob hk
  rw [Nat.zero_add] at h2
  cases hs : s.ob i with
  | none => rw [hs] at h3; simp [wL] at h3
  | some ob' =>
   obtain ⟨bx, cs⟩ := ob'
   rw [hs] at h3
   have hob := hR.ob i _ hs
   cases bx with
   | true =>
    simp only [wL, Option.some.injEq] at h3
    subst h3
    rcases hob with ⟨hnm, c, e, hh, h0, hl, hr⟩ | ⟨m, es, q, rfl, hh, hl, he⟩
    rotate_left
    ·refine .inr ⟨m, es, q, rfl, by rw [fX _ h2]; exact hh, ?_, he⟩
     rw [fX _ h2]
     have := (nM (kp := kp) (E := E) (l5 π ks s) h2 (E.ρ i).1 [] (by simpa using hl)).1
     simpa using this
    refine .inl ⟨OP hnm, c, e, by rw [fX _ h2]; exact hh, by rw [fX _ h2]; exact h0, ?_, ?_⟩
    ·rw [fX _ h2]
     have := (nM (kp := kp) (E := E) (l5 π ks s) h2 (E.ρ i).1 [] (by simpa using hl)).1
     simpa using this
    ·rw [fX _ h2]
     refine cD fun j v hj => ?_
     rw [IS] at hj
     cases hc : cs[j]? with
     | none => rw [hc] at hj; cases hj
     | some v' =>
      rw [hc] at hj
      cases hj
      obtain ⟨u, hu, hru⟩ := bR hr j v' hc
      exact ⟨u, hu, Rv.ren hR π ks hru⟩
   | false =>
    simp only [wL, Option.some.injEq] at h3
    subst h3
    rcases hob with h0 | ⟨c, e, hh, hl, hr⟩
    ·exact .inl h0
    ·refine .inr ⟨c, e, by rw [fX _ h2]; exact hh, ?_, ?_⟩
     ·rw [fX _ h2]
      have := (nM (kp := kp) (E := E) (l5 π ks s) h2 (E.ρ i).1 [] (by simpa using hl)).1
      simpa using this
     ·rw [fX _ h2]
      exact Rrow.move (FI (kp := kp) hR π (l5 π ks s)) (nM (kp := kp) (E := E) (l5 π ks s) h2) rfl hr
 ·have hne : E.o b ≠ none := by
   intro h
   simp only [Env.ren, h, rC] at hp
   cases hp
  cases h : E.o b with
  | none => exact absurd h hne
  | some q =>
   obtain ⟨h1, h2⟩ := hR.lab b q h
   refine ⟨h1, ?_⟩
   rcases h2 with rfl | h2
   ·left
    simp only [Env.ren, h, rC, Option.some.injEq] at hp
    exact hp.symm
   ·exact .inr h2
 ·have h := hR.old b hb hl
  show rC kp π (E.o b) = _
  rw [h]
  cases ho : C.o0 b with
  | none => rfl
  | some q => rw [C.dull b q hl ho]; rfl
 ·have hp := hπ.2 k hk
  obtain ⟨g1, g2⟩ := hR.pin.2 k hk (yF hR hp hs).1
  rw [fX _ hp]
  refine ⟨g1, fun ho => ?_⟩
  have := (nM (kp := kp) (E := E) (l5 π ks s) hp (C.pp k).1 [] (by simpa using g2 ho)).1
  simpa using this
end
end Go.Proofs.YtboolngaahifdaaGreatD
