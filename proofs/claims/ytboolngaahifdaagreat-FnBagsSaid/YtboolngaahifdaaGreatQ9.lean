/- Contracts and plain laws of this seat; no condition. -/
import Derived.Test.YtboolngaahifdaaGreatQ8
import Derived.Sort.Row
import Derived.Sort.Grow
import Derived.Deep.Draws
import Derived.Shelf.SlSortCmp.NoneTotal
import Derived.Lib.SliceRun
set_option linter.unusedVariables false
set_option linter.unusedSimpArgs false
namespace Go.Proofs.YtboolngaahifdaaGreatD
open Go Go.RowKit
theorem FK {α : Type} {f : α → List V} {n : Nat} (h : ∀ x, (f x).length = n) {xs : List α} {k d : Nat} {v : V} (hk : k < xs.length) (hd : (f xs[k])[d]? = some v) : (aB f xs)[k * n + d]? = some v := by
 have hdn : d < n := by rw [← h xs[k]]; exact (List.getElem?_eq_some_iff.1 hd).1
 rw [← List.getElem?_drop, rE h xs k hk, List.getElem?_append_left (by rw [h]; exact hdn)]
 exact hd
structure Rowed (w w' : World) (b off : Nat) (vals : List Value) : Prop where
 os : w'.os = w.os
 tape : w'.tape = w.tape
 output : w'.output = w.output
 size : w.heap.size ≤ w'.heap.size
 drawn : w.drawn ≤ w'.drawn
 block : ∀ k, k < w.heap.size → k ≠ b → w'.heap[k]? = w.heap[k]?
 row : ∀ c e, w.heap[b]? = some (.cells c e (0, 0)) → ∃ c', w'.heap[b]? = some (.cells c' e (0, 0)) ∧ c'.size = c.size ∧ ∀ j v, vals[j]? = some v → c'[off + j]? = some v
theorem uX {w : World} {b off m : Nat} {F : Array Value} {os : Array Go.Obj} (hb : b < w.heap.size) (hF : ∀ c e, w.heap[b]? = some (.cells c e (0, 0)) → off + F.size ≤ c.size) : Rowed w (Sort.grow (Sort.putRow id (Sort.ahead w m) b off F) os) b off F.toList := by
 have hsz : (Sort.putRow id (Sort.ahead w m) b off F).heap.size = w.heap.size := by simp [Sort.putRow, Sort.mapBlock, Sort.ahead]
 have hlt : ∀ k, k < w.heap.size → (Sort.grow (Sort.putRow id (Sort.ahead w m) b off F) os).heap[k]? = (Sort.putRow id (Sort.ahead w m) b off F).heap[k]? := by
  intro k hk
  show ((Sort.putRow id (Sort.ahead w m) b off F).heap ++ os)[k]? = _
  rw [Array.getElem?_append_left (by rw [hsz]; exact hk)]
 refine ⟨rfl, rfl, rfl, by simp [hsz], Nat.le_add_right _ _, fun k hk hne => ?_, fun c e hc => ?_⟩
 ·rw [hlt k hk]
  simp only [Sort.putRow, Sort.mapBlock, Array.getElem?_modify]
  rw [if_neg (fun h => hne h.symm)]
  rfl
 ·refine ⟨Sort.putCells id off F c, ?_, by simp [Sort.putCells], fun j v hv => ?_⟩
  ·rw [hlt b hb]
   simp only [Sort.putRow, Sort.mapBlock, Array.getElem?_modify, if_true]
   have hc' : (Sort.ahead w m).heap[b]? = some (.cells c e (0, 0)) := hc
   rw [hc']
   rfl
  ·have hjl : j < F.size := by
    have := (List.getElem?_eq_some_iff.1 hv).1
    simpa using this
   have hcs := hF c e hc
   have hv' : F[j] = v := by
    have := (List.getElem?_eq_some_iff.1 hv).2
    simpa using this
   simp only [Sort.putCells, Array.getElem?_mapIdx]
   have hlt2 : off + j < c.size := by omega
   rw [Array.getElem?_eq_getElem hlt2]
   simp only [Option.map_some, id]
   rw [if_pos ⟨by omega, by omega⟩, show off + j - off = j from by omega, getElem!_pos F j hjl, hv']
def reL (q : List Nat) (k : Nat) (ι : Nat → Option Nat) : Option (List Nat) → Option (List Nat)
 | some [0] => some q
 | some (0 :: j :: r) => match ι (j / k) with
  | some i => some (q ++ (i * k + j % k) :: r)
  | none => some []
 | x => x
theorem YD {q : List Nat} {k : Nat} {ι : Nat → Option Nat} {x : Option (List Nat)} : reL q k ι x = none ↔ x = none := by
 unfold reL
 split
 ·simp
 ·split <;> simp
 ·rfl
def Env.reE (E0 : Env) (w' : World) (q : List Nat) (k : Nat) (ι : Nat → Option Nat) (g : List (Option Obj)) : Env :=
 {w := w', o := fun b => reL q k ι (E0.o b), ρ := E0.ρ, g := aX g, n := g.length, okb := fun b => reL q k ι (E0.o b) = none }
section
variable {E0 : Env} {b off k n m : Nat} {cs0 : List V} {vals : List Value} {w' : World} {q : List Nat} {ι : Nat → Option Nat} {τ : Nat → Nat}
theorem YC {g2 : List (Option Obj)} (hokb : E0.okb = fun b => E0.o b = none) (hb : E0.o b = some [0]) (hw : Rowed E0.w w' b off vals) : Mono E0.bare (E0.reE w' q k ι g2).bare := by
 refine ⟨hw.size, fun c hc hok => ⟨?_, hw.block c hc fun h => ?_⟩, Nat.le_refl _, fun _ h _ => absurd h (Nat.not_lt_zero _), fun _ _ h _ => absurd h (Nat.not_lt_zero _)⟩
 ·have h : E0.okb c := hok
  rw [hokb] at h
  show reL q k ι (E0.o c) = none
  exact YD.2 h
 ·have h' : E0.okb c := hok
  rw [hokb] at h'
  have h2 : E0.o c = none := h'
  rw [h, hb] at h2
  cases h2
theorem T8 {g2 : List (Option Obj)} (hokb : E0.okb = fun b => E0.o b = none) (hlab : ∀ b p, E0.o b = some p → b < E0.w.heap.size) {c0 : Array Value} {e0 : TypeId} (hh : E0.w.heap[b]? = some (.cells c0 e0 (0, 0))) (hb : E0.o b = some [0]) (hk : 0 < k) (hrow : Rrow E0.bare (.at [0]) b off 0 cs0) (hw : Rowed E0.w w' b off vals)
  (hι : ∀ i, i < m → ι (τ i) = some i) (hv : ∀ i c v, i < m → c < k → E0.w.cell? ⟨b, off + (τ i * k + c), none⟩ = some v → vals[i * k + c]? = some v) {ds : List V} (hds : ∀ j d, ds[j]? = some d → j < m * k ∧ cs0[τ (j / k) * k + j % k]? = some d) : Rrow (E0.reE w' q k ι g2).bare (.at q) b off 0 ds := by
 refine cD fun j d hj => ?_
 obtain ⟨hjm, hd⟩ := hds j d hj
 have hjk : j / k < m := Nat.div_lt_of_lt_mul (by rw [Nat.mul_comm]; exact hjm)
 have hmod : j % k < k := Nat.mod_lt _ hk
 obtain ⟨v, h1, h2⟩ := bR hrow _ d hd
 have h3 := hv (j / k) (j % k) v hjk hmod h1
 rw [Nat.mul_comm, Nat.div_add_mod] at h3
 obtain ⟨c', h4, h5, h6⟩ := hw.row c0 e0 hh
 have h7 := h6 j v h3
 refine ⟨v, by show w'.cell? _ = _; simp [World.cell?, h4, h7], ?_⟩
 rw [Nat.zero_add] at h2
 have hmv : Moved E0.bare (E0.reE w' q k ι g2).bare ([0] ++ [τ (j / k) * k + j % k]) (q ++ [j]) := fun c r hc => by
  have hc' : E0.o c = some (0 :: (τ (j / k) * k + j % k) :: r) := hc
  refine ⟨?_, hw.block c (hlab c _ hc') fun he => ?_⟩
  ·show reL q k ι (E0.o c) = _
   rw [hc']
   have hd1 : (τ (j / k) * k + j % k) / k = τ (j / k) := by
    rw [Nat.mul_comm, Nat.mul_add_div hk, Nat.div_eq_of_lt hmod, Nat.add_zero]
   have hd2 : (τ (j / k) * k + j % k) % k = j % k := by rw [Nat.mul_comm, Nat.mul_add_mod, Nat.mod_mod]
   simp only [reL, hd1, hd2, hι _ hjk]
   rw [Nat.mul_comm, Nat.div_add_mod]
   simp
  ·rw [he, hb] at hc'
   cases hc'
 rw [Nat.zero_add]
 exact Rv.move (E := E0.bare) (YC hokb hb hw) hmv h2
theorem T7 {g2 : List (Option Obj)} {g : List (Option Obj)} (hin : GIn E0 g) (hg1 : g.length = 1) (hb : E0.o b = some [0]) (hρ : (E0.ρ 0).1 = b) (hw : Rowed E0.w w' b off vals) (hg2 : g2.length = 1) (hq : (aX g2 0).isSome = true → q = [0]) (hob : ∀ ob, aX g2 0 = some ob → ObR (E0.reE w' q k ι g2) 0 ob) : GOut E0 (E0.reE w' q k ι g2) g g2 := by
 have hnb : ∀ c, ¬ yX E0.o c → c ≠ b := fun c hc he => hc ⟨0, [], by rw [he]; exact hb⟩
 refine ⟨rfl, rfl, fun i ob hi => ?_, rfl, fun c p hp => ?_, ⟨hw.os, hw.tape, hw.output, hw.size, fun c hc hl => hw.block c hc (hnb c hl), fun c x e hc => ?_, hw.drawn⟩, fun c hc hl => ?_, fun i hi hs => ⟨rfl, fun ho => ?_⟩, by omega⟩
 ·have hi0 : i = 0 := by have := eK hi; omega
  subst hi0
  exact hob ob hi
 ·have hp' : reL q k ι (E0.o c) = some p := hp
  cases ho : E0.o c with
  | none => rw [ho] at hp'; cases hp'
  | some r => exact Nat.lt_of_lt_of_le (hin.lab c r ho) hw.size
 ·by_cases hcb : c = b
  ·subst hcb
   obtain ⟨c', h1, h2, _⟩ := hw.row x e hc
   exact ⟨c', h1, h2⟩
  ·exact ⟨x, (hw.block c (cY hc) hcb).trans hc, rfl⟩
 ·show reL q k ι (E0.o c) = E0.o c
  cases ho : E0.o c with
  | none => rfl
  | some r =>
   cases r with
   | nil => rfl
   | cons h t => exact absurd ⟨h, t, ho⟩ hl
 ·have hi0 : i = 0 := by omega
  subst hi0
  show reL q k ι (E0.o (E0.ρ 0).1) = some [0]
  rw [hρ, hb]
  have := hq hs
  subst this
  rfl
end
def Env.two (E : Env) : Env := { E.bare with o := fun b => match E.o b with
 | some (h :: k :: t) => some (h :: k :: t)
 | some _ => some []
 | none => none }
theorem Z9 (E : Env) : Mono E.bare E.two :=
 ⟨Nat.le_refl _, fun _ _ h => ⟨h, rfl⟩, Nat.le_refl _, fun _ h _ => absurd h (Nat.not_lt_zero _), fun _ _ h _ => absurd h (Nat.not_lt_zero _)⟩
theorem Z8 (E : Env) (i j : Nat) : Kept E.bare E.two [i, j] := fun b r hb => by
 have hb' : E.o b = some (i :: j :: r) := hb
 refine ⟨?_, rfl⟩
 show (match E.o b with
  | some (h :: k :: t) => some (h :: k :: t)
  | some _ => some []
  | none => none) = _
 rw [hb']
 rfl
def okx (b : Nat) : Lab := fun c => if c = b then some [] else none
theorem WU {E0 : Env} {b i j : Nat} {d : V} {v : Value} (hokb : E0.okb = fun b => E0.o b = none) (hb : E0.o b = some [i]) (h : Rv E0.bare (.at [i, j]) d v) : Rv (aZ E0.w (okx b)) .none (roV d) v := by
 have h2 : Rv E0.two (.at [i, j]) d v := Rv.mono (Z9 E0) (fun q hq => by cases hq; exact Z8 E0 i j) (fun k j hq => by cases hq) h
 refine Rv.freeze (G := E0.two) (F := aZ E0.w (okx b)) rfl rfl (full := True) (fun _ c hc => ?_) (fun c q hq hc => ?_) (m := .at [i, j]) (fun q hq => by cases hq; simp) (.inl trivial) h2
 ·have hc' : E0.okb c := hc
  rw [hokb] at hc'
  have hc2 : E0.o c = none := hc'
  show (if c = b then some [] else none) = none
  rw [if_neg (fun he => by rw [he, hb] at hc2; cases hc2)]
 ·have hc' : (match E0.o c with
   | some (h :: k :: t) => some (h :: k :: t)
   | some _ => some []
   | none => none) = some q := hc
  show (if c = b then some [] else none) = none
  rw [if_neg (fun he => ?_)]
  rw [he, hb] at hc'
  cases hc'
  exact hq rfl
theorem v2 {w W : World} {b off : Nat} {vals : List Value} (hw : Rowed w W b off vals) (hb : b < w.heap.size) {vs : List V} {xs : List Value} (h : Rvs (aZ w (okx b)) .none vs xs) : Rvs (aZ W (okx b)) .none vs xs := by
 refine Rvs.mono (E := aZ w (okx b)) (E' := aZ W (okx b)) ⟨hw.size, fun c hc hok => ⟨hok, hw.block c hc fun he => ?_⟩, Nat.le_refl _, fun _ h _ => absurd h (Nat.not_lt_zero _), fun _ _ h _ => absurd h (Nat.not_lt_zero _)⟩ (eM _ _) (i6 _ _) h
 have hok' : (if c = b then some [] else none : Option (List Nat)) = none := hok
 rw [if_pos he] at hok'
 cases hok'
theorem F0 {W : World} {b : Nat} (hb : b < W.heap.size) : a1O W (okx b) := by
 intro c p hp
 have hp' : (if c = b then some [] else none : Option (List Nat)) = some p := hp
 split at hp'
 ·rename_i he
  cases hp'
  exact ⟨rfl, by rw [he]; exact hb⟩
 ·cases hp'
theorem sK {w w' : World} (h : BelowD w w') : ∃ q os, w' = Sort.grow (w.drewN q) os := by
 refine ⟨w'.drawn - w.drawn, w'.heap.extract w.heap.size w'.heap.size, ?_⟩
 obtain ⟨heap', tape', drawn', os', output'⟩ := w'
 obtain ⟨h1, h2, h3, h4, h5, h6⟩ := h
 simp only at h1 h2 h3 h4 h5 h6
 subst h1 h2 h3
 simp only [Sort.grow, World.drewN, World.mk.injEq, and_true, true_and]
 refine ⟨?_, by omega⟩
 apply Array.ext_getElem?
 intro k
 by_cases hk : k < w.heap.size
 ·rw [Array.getElem?_append_left hk, h5 k hk]
 ·rw [Array.getElem?_append_right (by omega), Array.getElem?_extract]
  by_cases hk2 : k < heap'.size
  ·rw [if_pos (by omega), show w.heap.size + (k - w.heap.size) = k from by omega]
  ·rw [if_neg (by omega), Array.getElem?_eq_none (by omega)]
end Go.Proofs.YtboolngaahifdaaGreatD
namespace Go.Proofs.YtboolngaahifdaaGreatD
open Go Go.RowKit Go.Shelf Go.Sort
structure Elt {β : Type} (w : World) (b off k : Nat) (t : β → List V) (xs : List β) where
 i : Nat
 vs : List Value
 x : β
 len : vs.length = k
 at_ : xs[i]? = some x
 cells : ∀ c v, vs[c]? = some v → w.cell? ⟨b, off + (i * k + c), none⟩ = some v
 see : Rvs (aZ w (okx b)) .none (dM (t x)) vs
theorem xI {E : Env} : ∀ {vs : List V} {xs : List Value}, (∀ c ∈ vs, fT c = true) → Rvs E .none vs xs → ∀ v ∈ xs, v.oneCell' = true
 | [], [], _, _, v, hv => by cases hv
 | c :: cs, x :: xs, hf, h, v, hv => by
  rcases List.mem_cons.1 hv with rfl | hv
  ·have hfc := hf c (by simp)
   have hr := h.1
   cases c <;> simp only [fT, reduceCtorEq] at hfc
   ·rw [hr.1]; exact hr.2
   ·obtain ⟨A, cap, rfl, _⟩ := hr; rfl
  ·exact xI (fun c hc => hf c (by simp [hc])) h.2 v hv
 | [], _ :: _, _, h, _, _ => h.elim
 | _ :: _, [], _, h, _, _ => h.elim
section
variable {β : Type} {E0 : Env} {k : Nat} {t : β → List V} {xs : List β}
theorem a20 (ht : ∀ x, (t x).length = k) (hin : GIn E0 [some ⟨false, aB t xs⟩]) (hne : xs ≠ []) (hk0 : 0 < k) : ∃ c0 e0, E0.w.heap[(E0.ρ 0).1]? = some (.cells c0 e0 (0, 0)) ∧ E0.o (E0.ρ 0).1 = some [0] ∧ Rrow E0.bare (.at [0]) (E0.ρ 0).1 (E0.ρ 0).2 0 (aB t xs) ∧
  ∀ i, i < xs.length → ∃ el : Elt E0.w (E0.ρ 0).1 (E0.ρ 0).2 k t xs, el.i = i := by
 rcases hin.ob 0 _ rfl with h0 | ⟨c0, e0, hh, hl, hrow⟩
 ·exfalso
  have h1 := a6 ht xs
  rw [h0] at h1
  have : 0 < xs.length := List.length_pos_iff.2 hne
  have : 0 < xs.length * k := Nat.mul_pos this hk0
  simp at h1
  omega
 ·refine ⟨c0, e0, hh, hl, hrow, fun i hi => ?_⟩
  have hcell : ∀ c d, (t xs[i])[c]? = some d → ∃ v, E0.w.cell? ⟨(E0.ρ 0).1, (E0.ρ 0).2 + (i * k + c), none⟩ = some v ∧ Rv (aZ E0.w (okx (E0.ρ 0).1)) .none (roV d) v := by
   intro c d hd
   obtain ⟨v, h1, h2⟩ := bR hrow (i * k + c) d (FK ht hi hd)
   exact ⟨v, h1, WU (j := 0 + (i * k + c)) hin.okb hl h2⟩
  have build : ∀ (ds : List V) (s : Nat), (∀ c d, ds[c]? = some d → ∃ v, E0.w.cell? ⟨(E0.ρ 0).1, (E0.ρ 0).2 + (s + c), none⟩ = some v ∧ Rv (aZ E0.w (okx (E0.ρ 0).1)) .none (roV d) v) →
    ∃ vs : List Value, vs.length = ds.length ∧ (∀ c v, vs[c]? = some v → E0.w.cell? ⟨(E0.ρ 0).1, (E0.ρ 0).2 + (s + c), none⟩ = some v) ∧ Rvs (aZ E0.w (okx (E0.ρ 0).1)) .none (dM ds) vs := by
   intro ds
   induction ds with
   | nil => intro s _; exact ⟨[], rfl, fun c v h => by simp at h, trivial⟩
   | cons d ds ih =>
    intro s h
    obtain ⟨v, h1, h2⟩ := h 0 d rfl
    obtain ⟨vs, h3, h4, h5⟩ := ih (s + 1) fun c d' hd => by
     obtain ⟨v', g1, g2⟩ := h (c + 1) d' (by simpa using hd)
     exact ⟨v', by rw [show s + 1 + c = s + (c + 1) from by omega]; exact g1, g2⟩
    refine ⟨v :: vs, by simp [h3], fun c u hu => ?_, h2, h5⟩
    cases c with
    | zero => simp at hu; subst hu; exact h1
    | succ c => rw [show s + (c + 1) = s + 1 + c from by omega]; exact h4 c u (by simpa using hu)
  obtain ⟨vs, h1, h2, h3⟩ := build (t xs[i]) (i * k) hcell
  exact ⟨⟨i, vs, xs[i], by rw [h1, ht], List.getElem?_eq_getElem hi, h2, h3⟩, rfl⟩
theorem XZ {w : World} {b off : Nat} {d' : List (Elt w b off k t xs)} {n : Nat} (hp : (d'.map (·.i)).Perm (List.range n)) : d'.length = n ∧ ∃ (τ : Nat → Nat) (ι : Nat → Option Nat), (∀ i (h : i < d'.length), τ i = d'[i].i) ∧ (∀ i, i < n → ι (τ i) = some i) := by
 have hl : d'.length = n := by have := hp.length_eq; simpa using this
 have hnd : (d'.map (·.i)).Nodup := hp.symm.nodup List.nodup_range
 refine ⟨hl, fun i => if h : i < d'.length then d'[i].i else 0, fun j => (List.range n).find? fun i => if h : i < d'.length then d'[i].i == j else false, fun i h => by simp [h], fun i hi => ?_⟩
 have hid : i < d'.length := by omega
 simp only [hid, dif_pos]
 rw [List.find?_eq_some_iff_append]
 refine ⟨by simp [hid], List.range i, (List.range (n - i - 1)).map (· + (i + 1)), ?_, fun a ha => ?_⟩
 ·apply List.ext_getElem?
  intro m
  rcases Nat.lt_trichotomy m i with h | h | h
  ·rw [List.getElem?_append_left (by simpa using h), List.getElem?_range (by omega), List.getElem?_range h]
  ·subst h
   rw [List.getElem?_append_right (by simp)]
   simp [hi]
  ·rw [List.getElem?_append_right (by simp; omega)]
   obtain ⟨r, rfl⟩ : ∃ r, m = i + 1 + r := ⟨m - (i + 1), by omega⟩
   simp only [List.length_range, show i + 1 + r - i = r + 1 from by omega, List.getElem?_cons_succ, List.getElem?_map]
   by_cases hm : i + 1 + r < n
   ·rw [List.getElem?_range hm, List.getElem?_range (by omega)]
    simp; omega
   ·rw [List.getElem?_eq_none (by simp; omega), List.getElem?_eq_none (by simp; omega)]
    rfl
 ·have hai : a < i := by simpa using ha
  have had : a < d'.length := by omega
  simp only [had, dif_pos, Bool.not_eq_true', beq_eq_false_iff_ne]
  intro he
  have := List.pairwise_iff_getElem.1 hnd a i (by simpa using had) (by simpa using hid) hai
  simp at this
  exact this he
end
theorem QR {α : Type} [Inhabited α] (enc : α → Value) (w : World) (blk off : Nat) (d : Array α) : putRow enc w blk off d = putRow id w blk off (d.map enc) := by
 unfold putRow
 congr 1
 funext c
 unfold putCells
 apply Array.ext_getElem?
 intro k
 simp only [Array.getElem?_mapIdx, Array.size_map]
 cases c[k]? with
 | none => rfl
 | some x =>
  simp only [Option.map_some]
  by_cases h : off ≤ k ∧ k < off + d.size
  ·rw [if_pos h, if_pos h, getElem!_pos d _ (by omega), getElem!_pos (d.map enc) _ (by simp; omega)]
   simp
  ·rw [if_neg h, if_neg h]
section
variable {P : Program} {ρ : Ren} {β : Type}
theorem P0 {E0 : Env} {k : Nat} {t : β → List V} {xs : List β} (ht : ∀ x, (t x).length = k) (hk0 : 0 < k) {cf : β → β → Int} (hin : GIn E0 [some ⟨false, aB t xs⟩]) {c0 : Array Value} {e0 : TypeId} (hh : E0.w.heap[(E0.ρ 0).1]? = some (.cells c0 e0 (0, 0))) (hl : E0.o (E0.ρ 0).1 = some [0]) (hrow : Rrow E0.bare (.at [0]) (E0.ρ 0).1 (E0.ρ 0).2 0 (aB t xs))
  {d' : List (Elt E0.w (E0.ρ 0).1 (E0.ρ 0).2 k t xs)} (hp : (d'.map (·.i)).Perm (List.range xs.length)) (hs : d'.Pairwise fun a b => ¬ cf b.x a.x < 0) {vals : List Value} {w' : World} (hw : Rowed E0.w w' (E0.ρ 0).1 (E0.ρ 0).2 vals) (hv : ∀ i c, (h : i < d'.length) → c < k → vals[i * k + c]? = d'[i].vs[c]?) :
  ∃ (r : V) (g2 : List (Option Obj)) (E2 : Env), (r = .tup [] ∧ ∃ ys : List β, ys.Perm xs ∧ ys.Pairwise (fun a b => ¬ cf b a < 0) ∧ g2 = [some ⟨false, aB t ys⟩]) ∧ E2.w = w' ∧ GOut E0 E2 [some ⟨false, aB t xs⟩] g2 ∧ Rv E2.bare (.top g2.length) r (.tuple #[]) := by
 obtain ⟨hlen, τ, ι, hτ, hι⟩ := XZ hp
 have hperm : (d'.map (·.x)).Perm xs := by
  have h1 : d'.map (·.x) = (d'.map (·.i)).filterMap (xs[·]?) := by
   rw [List.filterMap_map, ← List.filterMap_eq_map]
   congr 1
   funext el
   exact el.at_.symm
  rw [h1]
  refine (hp.filterMap _).trans ?_
  have h2 : (List.range xs.length).filterMap (xs[·]?) = xs := by
   apply List.ext_getElem?
   intro m
   have : ∀ (l : List β), (List.range l.length).filterMap (l[·]?) = l := by
    intro l
    induction l with
    | nil => rfl
    | cons x l ih =>
     rw [List.length_cons, List.range_succ_eq_map, List.filterMap_cons]
     simp only [List.getElem?_cons_zero, List.filterMap_map]
     congr 1
   rw [this]
  rw [h2]
 refine ⟨.tup [], [some ⟨false, aB t (d'.map (·.x))⟩], E0.reE w' [0] k ι [some ⟨false, aB t (d'.map (·.x))⟩], ⟨rfl, _, hperm, ?_, rfl⟩, rfl, ?_, ⟨[], rfl, trivial⟩⟩
 ·rw [List.pairwise_map]
  exact hs
 ·refine T7 hin rfl hl rfl hw rfl (fun _ => rfl) fun ob hob => ?_
  have hob' : some (⟨false, aB t (d'.map (·.x))⟩ : Obj) = some ob := hob
  cases hob'
  obtain ⟨c', g1, g2, _⟩ := hw.row c0 e0 hh
  refine .inr ⟨c', e0, g1, ?_, ?_⟩
  ·show reL [0] k ι (E0.o (E0.ρ 0).1) = some [0]
   rw [hl]; rfl
  ·refine T8 (m := xs.length) hin.okb hin.lab hh hl hk0 hrow hw hι (fun i c v hi hc hcell => ?_) fun j dd hj => ?_
   ·have hid : i < d'.length := by omega
    rw [hv i c hid hc]
    have hcl : c < d'[i].vs.length := by rw [d'[i].len]; exact hc
    have h1 := d'[i].cells c d'[i].vs[c] (List.getElem?_eq_getElem hcl)
    rw [hτ i hid] at hcell
    rw [hcell] at h1
    rw [List.getElem?_eq_getElem hcl, ← Option.some.inj h1]
   ·have hjl : j < xs.length * k := by
     have := (List.getElem?_eq_some_iff.1 hj).1
     rw [a6 ht] at this
     simpa [hlen] using this
    refine ⟨hjl, ?_⟩
    obtain ⟨y, h1, h2⟩ := FL ht hj
    rw [List.getElem?_map] at h1
    have hid : j / k < d'.length := by rw [hlen]; exact Nat.div_lt_of_lt_mul (by rw [Nat.mul_comm]; exact hjl)
    rw [List.getElem?_eq_getElem hid] at h1
    simp only [Option.map_some, Option.some.injEq] at h1
    subst h1
    rw [hτ _ hid]
    have hat := d'[j / k].at_
    have hlt := (List.getElem?_eq_some_iff.1 hat).1
    have hxe : xs[d'[j / k].i] = d'[j / k].x := (List.getElem?_eq_some_iff.1 hat).2
    exact FK ht hlt (by rw [hxe]; exact h2)
theorem F7 {α : Type} [Inhabited α] {d d' : Array α} (h : PermIn 0 d.size d d') : d'.toList.Perm d.toList := by
 obtain ⟨h1, _, h2⟩ := h
 have e1 : d.extract 0 d.size = d := by simp
 have e2 : d'.extract 0 d.size = d' := by rw [← h1]; simp
 rw [e1, e2] at h2
 exact h2
theorem F5 {α : Type} [Inhabited α] {lt : α → α → Bool} {d : Array α} {n : Nat} (hn : d.size = n) (h : SortedIn lt 0 n d) : d.toList.Pairwise fun a b => lt b a = false := by
 rw [List.pairwise_iff_getElem]
 intro i j hi hj hij
 have := h i j (Nat.zero_le _) hij (by rw [← hn]; simpa using hj)
 rwa [getElem!_pos d j (by simpa using hj), getElem!_pos d i (by simpa using hi)] at this
theorem YX {α : Type} {cf : β → β → Int} (hO : SWO (ltOf cf)) (f : α → β) : SWO (ltOf fun a b => cf (f a) (f b)) :=
 ⟨fun x => hO.irrefl (f x), fun x y z => hO.trans (f x) (f y) (f z), fun x y z => hO.ntrans (f x) (f y) (f z)⟩
set_option maxHeartbeats 1000000 in
theorem R6 (L : SlLaysF0.n6 P ρ) (k : Nat) (hk0 : 0 < k) (aE : ∀ w, (isAgg (ρ.t 24)).run P w = .ok true w) (zE : ∀ w, (Go.sizeOf (ρ.t 24)).run P w = .ok k w) (t : β → List V) (ht : ∀ x, (t x).length = k) (hf : ∀ x, ∀ c ∈ dM (t x), fT c = true) (g : Nat) (cf : β → β → Int) (hO : SWO (ltOf cf))
  (hg : ∀ x y, bI P g [.agg (dM (t x)), .agg (dM (t y))] (ci (cf x y))) (hen : Go.Proofs.YtboolngaahifdaaGreatD.Enters P (ρ.f 6)) (xs : List β) (hsz : xs.length < 4611686018427387904) :
  SpecG P (ρ.f 6) [.own 0 k 0 xs.length xs.length none, .fn g []] [some ⟨false, aB t xs⟩] fun r g2 => r = .tup [] ∧ ∃ ys : List β, ys.Perm xs ∧ ys.Pairwise (fun a b => ¬ cf b a < 0) ∧ g2 = [some ⟨false, aB t ys⟩] := by
 refine ⟨hen, fun E0 vals hin hv => ?_⟩
 match vals, hv with
 | [v0, v1], ⟨h0, h1, _⟩ =>
  obtain ⟨_, A, cap, rfl, hnc, hlv⟩ := h0
  obtain ⟨ys0, hy, hys⟩ := h1
  have hy0 : ys0 = [] := by cases ys0 with | nil => rfl | cons _ _ => exact hys.elim
  subst hy0
  subst hy
  by_cases hx : xs = []
  ·subst hx
   refine (AnyF.slices_SortFunc_none L A cap (.func (.func g) #[] #[]) E0.w).mono fun e w' ⟨he, hw⟩ => ?_
   subst he hw
   exact ⟨.tup [], [some ⟨false, []⟩], E0, ⟨rfl, [], List.Perm.refl _, List.Pairwise.nil, rfl⟩, rfl, ⟨hin.gq, hin.n, hin.ob, hin.okb, hin.lab, ⟨rfl, rfl, rfl, Nat.le_refl _, fun _ _ _ => rfl, fun b c e h => ⟨c, h, rfl⟩, Nat.le_refl _⟩, fun _ _ _ => rfl, fun _ _ _ => ⟨rfl, id⟩, Nat.le_refl _⟩, ⟨[], rfl, trivial⟩⟩
  ·obtain ⟨c0, e0, hh, hl, hrow, hel⟩ := a20 ht hin hx hk0
   have hlive : (E0.g 0).isSome = true := by rw [hin.gq]; rfl
   obtain ⟨hcap, _, _, hbl⟩ := hlv hlive
   have hpos : 0 < xs.length := List.length_pos_iff.2 hx
   rcases hbl with hz | ⟨c, e, hA, _, hh2, hs2⟩
   ·omega
   rw [hh] at hh2
   cases hh2
   rw [Nat.add_zero] at hA hs2
   subst hA
   have hb : (E0.ρ 0).1 < E0.w.heap.size := cY hh
   obtain ⟨el0, _⟩ := hel 0 hpos
   haveI : Inhabited (Elt E0.w (E0.ρ 0).1 (E0.ρ 0).2 k t xs) := ⟨el0⟩
   let d : Array (Elt E0.w (E0.ρ 0).1 (E0.ρ 0).2 k t xs) := Array.ofFn fun i : Fin xs.length => Classical.choose (hel i.1 i.2)
   have hds : d.size = xs.length := by simp [d]
   have hdi : ∀ i (h : i < d.size), d[i].i = i := fun i h => by
    simp only [d, Array.getElem_ofFn]
    exact Classical.choose_spec (hel i (by rw [← hds]; exact h))
   have hH : HoldsK (fun el : Elt E0.w (E0.ρ 0).1 (E0.ρ 0).2 k t xs => el.vs) k E0.w (E0.ρ 0).1 (E0.ρ 0).2 d := by
    intro j hj
    rw [size_flatK] at hj
    have hjk : j / k < d.size := Nat.div_lt_of_lt_mul (by rw [Nat.mul_comm]; exact hj)
    have hmod : j % k < k := Nat.mod_lt _ hk0
    refine ⟨?_, uI hh⟩
    rw [get_flatK _ _ _ _ hj, getElem!_pos d _ hjk]
    have hcl : j % k < d[j / k].vs.length := by rw [d[j / k].len]; exact hmod
    rw [getElem!_pos d[j / k].vs _ hcl]
    have := d[j / k].cells (j % k) _ (List.getElem?_eq_getElem hcl)
    rw [hdi _ hjk, Nat.mul_comm, Nat.div_add_mod] at this
    exact this
   have hcs : ∀ c e, E0.w.heap[(E0.ρ 0).1]? = some (.cells c e (0, 0)) → (E0.ρ 0).2 + xs.length * k ≤ c.size := fun c e hc => by
    rw [hh] at hc
    cases hc
    have := Nat.mul_le_mul_right k hcap
    omega
   have hcmp : CmpLays P g #[] (fun el : Elt E0.w (E0.ρ 0).1 (E0.ρ 0).2 k t xs => el.vs) k (fun a b => cf a.x b.x) (E0.ρ 0).1 (E0.ρ 0).2 d.size E0.w := by
    intro m os dk hdk x y
    have hR : Rowed E0.w (sortWorldK (fun el : Elt E0.w (E0.ρ 0).1 (E0.ρ 0).2 k t xs => el.vs) k E0.w (E0.ρ 0).1 (E0.ρ 0).2 m dk os) (E0.ρ 0).1 (E0.ρ 0).2 (flatK (fun el => el.vs) k dk).toList :=
     uX hb fun c e hc => by rw [size_flatK, hdk, hds]; exact hcs c e hc
    have hlt : (E0.ρ 0).1 < (sortWorldK (fun el : Elt E0.w (E0.ρ 0).1 (E0.ρ 0).2 k t xs => el.vs) k E0.w (E0.ρ 0).1 (E0.ρ 0).2 m dk os).heap.size := Nat.lt_of_lt_of_le hb hR.size
    have := (hg x.x y.x).2 _ (okx (E0.ρ 0).1) [.agg x.vs.toArray, .agg y.vs.toArray] (F0 hlt) ⟨⟨_, rfl, v2 hR hb x.see⟩, ⟨_, rfl, v2 hR hb y.see⟩, trivial⟩
    refine this.mono fun e w' he => ?_
    cases e with
    | panicked chain => exact he.elim
    | outgrown => exact he.elim
    | returned z =>
     obtain ⟨hbl, o', _, _, k0, hz⟩ := he
     exact ⟨by rw [hz.1], sK hbl⟩
   have hwf : ∀ args w, (callFunc g args).run P w = .ok (.enter g args) w := fun args w => f0 (hg el0.x el0.x).1 args w
   have hsd : d.size < 4611686018427387904 := by rw [hds]; exact hsz
   have main := AnyQ.slices_SortFunc L k aE zE (fun el : Elt E0.w (E0.ρ 0).1 (E0.ρ 0).2 k t xs => el.vs) (fun el => el.len) (fun el => xI (hf el.x) el.see) (fun a b => cf a.x b.x) (YX hO Elt.x) g #[] (E0.ρ 0).1 (E0.ρ 0).2 cap d E0.w hwf hcmp hH hb hsd
   rw [hds] at main
   refine main.mono fun e w' ⟨he, d', q, os, hperm, hsort, hw⟩ => ?_
   subst he
   have hsz' : d'.size = d.size := by rw [← hds] at hperm; exact hperm.1
   have hpl : d'.toList.Perm d.toList := F7 (by rw [hds]; exact hperm)
   have htags : d.toList.map (·.i) = List.range xs.length := by
    apply List.ext_getElem
    ·simp [hds]
    ·intro i h1 h2
     simp only [List.getElem_map, Array.getElem_toList, List.getElem_range]
     exact hdi i (by simpa using h1)
   refine P0 ht hk0 hin hh hl hrow (d' := d'.toList) (vals := (flatK (fun el : Elt E0.w (E0.ρ 0).1 (E0.ρ 0).2 k t xs => el.vs) k d').toList) ?_ ?_ ?_ ?_
   ·rw [← htags]; exact hpl.map _
   ·refine (F5 (n := xs.length) (by rw [hsz', hds]) hsort).imp fun {a b} hab => ?_
    simpa [ltOf] using hab
   ·rw [hw]
    exact uX hb fun c e hc => by rw [size_flatK, hsz', hds]; exact hcs c e hc
   ·intro i c hi hc
    have hi' : i < d'.size := by simpa using hi
    have hlt : i * k + c < d'.size * k := by
     have := Nat.mul_le_mul_right k (show i + 1 ≤ d'.size from hi')
     rw [Nat.add_mul, Nat.one_mul] at this
     omega
    have e1 : (i * k + c) / k = i := by rw [Nat.mul_comm, Nat.mul_add_div hk0, Nat.div_eq_of_lt hc, Nat.add_zero]
    have e2 : (i * k + c) % k = c := by rw [Nat.mul_comm, Nat.mul_add_mod, Nat.mod_eq_of_lt hc]
    have hcl : c < d'.toList[i].vs.length := by rw [d'.toList[i].len]; exact hc
    rw [List.getElem?_eq_getElem (by simpa using hlt), List.getElem?_eq_getElem hcl]
    have := get_flatK (fun el : Elt E0.w (E0.ρ 0).1 (E0.ρ 0).2 k t xs => el.vs) k d' _ hlt
    rw [getElem!_pos _ _ (by simpa using hlt), e1, e2, getElem!_pos d' i hi', getElem!_pos d'[i].vs c (by simpa using hcl)] at this
    simpa using this
set_option maxHeartbeats 1000000 in
theorem R5 (L : SlLaysF.n6 P ρ) (t : β → V) (hf : ∀ x, fT (roV (t x)) = true) (g : Nat) (cf : β → β → Int) (hO : SWO (ltOf cf))
  (hg : ∀ x y, bI P g [roV (t x), roV (t y)] (ci (cf x y))) (hen : Go.Proofs.YtboolngaahifdaaGreatD.Enters P (ρ.f 6)) (hnone : ∀ p cap fv w, Calls P (ρ.f 6) #[.slice p 0 cap, fv] w fun e w' => e = .returned (.tuple #[]) ∧ w' = w) (xs : List β) (hsz : xs.length < 4611686018427387904) :
  SpecG P (ρ.f 6) [.own 0 1 0 xs.length xs.length none, .fn g []] [some ⟨false, aB (fun x => [t x]) xs⟩] fun r g2 => r = .tup [] ∧ ∃ ys : List β, ys.Perm xs ∧ ys.Pairwise (fun a b => ¬ cf b a < 0) ∧ g2 = [some ⟨false, aB (fun x => [t x]) ys⟩] := by
 have ht : ∀ x : β, ([t x] : List V).length = 1 := fun _ => rfl
 refine ⟨hen, fun E0 vals hin hv => ?_⟩
 match vals, hv with
 | [v0, v1], ⟨h0, h1, _⟩ =>
  obtain ⟨_, A, cap, rfl, hnc, hlv⟩ := h0
  obtain ⟨ys0, hy, hys⟩ := h1
  have hy0 : ys0 = [] := by cases ys0 with | nil => rfl | cons _ _ => exact hys.elim
  subst hy0
  subst hy
  by_cases hx : xs = []
  ·subst hx
   refine (hnone A cap (.func (.func g) #[] #[]) E0.w).mono fun e w' ⟨he, hw⟩ => ?_
   subst he hw
   exact ⟨.tup [], [some ⟨false, []⟩], E0, ⟨rfl, [], List.Perm.refl _, List.Pairwise.nil, rfl⟩, rfl, ⟨hin.gq, hin.n, hin.ob, hin.okb, hin.lab, ⟨rfl, rfl, rfl, Nat.le_refl _, fun _ _ _ => rfl, fun b c e h => ⟨c, h, rfl⟩, Nat.le_refl _⟩, fun _ _ _ => rfl, fun _ _ _ => ⟨rfl, id⟩, Nat.le_refl _⟩, ⟨[], rfl, trivial⟩⟩
  ·obtain ⟨c0, e0, hh, hl, hrow, hel⟩ := a20 ht hin hx Nat.one_pos
   have hlive : (E0.g 0).isSome = true := by rw [hin.gq]; rfl
   obtain ⟨hcap, _, _, hbl⟩ := hlv hlive
   have hpos : 0 < xs.length := List.length_pos_iff.2 hx
   rcases hbl with hz | ⟨c, e, hA, _, hh2, hs2⟩
   ·omega
   rw [hh] at hh2
   cases hh2
   rw [Nat.add_zero] at hA hs2
   subst hA
   have hb : (E0.ρ 0).1 < E0.w.heap.size := cY hh
   obtain ⟨el0, _⟩ := hel 0 hpos
   haveI : Inhabited (Elt E0.w (E0.ρ 0).1 (E0.ρ 0).2 1 (fun x => [t x]) xs) := ⟨el0⟩
   let enc : Elt E0.w (E0.ρ 0).1 (E0.ρ 0).2 1 (fun x => [t x]) xs → Value := fun el => el.vs.headD (.bool false)
   have henc : ∀ el : Elt E0.w (E0.ρ 0).1 (E0.ρ 0).2 1 (fun x => [t x]) xs, el.vs = [enc el] := fun el => by
    have := el.len
    cases hq : el.vs with
    | nil => rw [hq] at this; simp at this
    | cons v r =>
     rw [hq] at this
     have hr : r = [] := by cases r with | nil => rfl | cons _ _ => simp at this
     simp [enc, hq, hr]
   have hsee : ∀ el : Elt E0.w (E0.ρ 0).1 (E0.ρ 0).2 1 (fun x => [t x]) xs, Rvs (aZ E0.w (okx (E0.ρ 0).1)) .none [roV (t el.x)] [enc el] := fun el => by
    have := el.see
    rw [henc el] at this
    exact this
   have hone : OneCell enc := fun el => xI (vs := [roV (t el.x)]) (fun c hc => by rw [List.mem_singleton] at hc; rw [hc]; exact hf el.x) (hsee el) (enc el) (by simp)
   let d : Array (Elt E0.w (E0.ρ 0).1 (E0.ρ 0).2 1 (fun x => [t x]) xs) := Array.ofFn fun i : Fin xs.length => Classical.choose (hel i.1 i.2)
   have hds : d.size = xs.length := by simp [d]
   have hdi : ∀ i (h : i < d.size), d[i].i = i := fun i h => by
    simp only [d, Array.getElem_ofFn]
    exact Classical.choose_spec (hel i (by rw [← hds]; exact h))
   have hH : Holds enc E0.w (E0.ρ 0).1 (E0.ρ 0).2 d := by
    intro j hj
    refine ⟨?_, uI hh⟩
    rw [getElem!_pos d _ hj]
    have := d[j].cells 0 (enc d[j]) (by rw [henc d[j]]; rfl)
    rw [hdi _ hj, Nat.mul_one, Nat.add_zero] at this
    exact this
   have hcs : ∀ c e, E0.w.heap[(E0.ρ 0).1]? = some (.cells c e (0, 0)) → (E0.ρ 0).2 + xs.length ≤ c.size := fun c e hc => by
    rw [hh] at hc
    cases hc
    omega
   have hput : ∀ (m : Nat) (dk : Array (Elt E0.w (E0.ρ 0).1 (E0.ρ 0).2 1 (fun x => [t x]) xs)) (os : Array Go.Obj), dk.size = xs.length → Rowed E0.w (sortWorld enc E0.w (E0.ρ 0).1 (E0.ρ 0).2 m dk os) (E0.ρ 0).1 (E0.ρ 0).2 (dk.map enc).toList := by
    intro m dk os hdk
    unfold sortWorld
    rw [QR]
    exact uX hb fun c e hc => by rw [Array.size_map, hdk]; exact hcs c e hc
   have hcmp : CmpLays1 P g #[] enc (fun a b => cf a.x b.x) (E0.ρ 0).1 (E0.ρ 0).2 d.size E0.w := by
    intro m os dk hdk x y
    have hR := hput m dk os (by rw [hdk, hds])
    have hlt : (E0.ρ 0).1 < (sortWorld enc E0.w (E0.ρ 0).1 (E0.ρ 0).2 m dk os).heap.size := Nat.lt_of_lt_of_le hb hR.size
    have := (hg x.x y.x).2 _ (okx (E0.ρ 0).1) [enc x, enc y] (F0 hlt) ⟨(v2 hR hb (hsee x)).1, (v2 hR hb (hsee y)).1, trivial⟩
    refine this.mono fun e w' he => ?_
    cases e with
    | panicked chain => exact he.elim
    | outgrown => exact he.elim
    | returned z =>
     obtain ⟨hbl, o', _, _, k0, hz⟩ := he
     exact ⟨by rw [hz.1], sK hbl⟩
   have hwf : ∀ args w, (callFunc g args).run P w = .ok (.enter g args) w := fun args w => f0 (hg el0.x el0.x).1 args w
   have hsd : d.size < 4611686018427387904 := by rw [hds]; exact hsz
   have main := Any.slices_SortFunc L enc hone (fun a b => cf a.x b.x) (YX hO Elt.x) g #[] (E0.ρ 0).1 (E0.ρ 0).2 cap d E0.w hwf hcmp hH hb hsd
   rw [hds] at main
   refine main.mono fun e w' ⟨he, d', q, os, hperm, hsort, hw⟩ => ?_
   subst he
   have hsz' : d'.size = d.size := by rw [← hds] at hperm; exact hperm.1
   have hpl : d'.toList.Perm d.toList := F7 (by rw [hds]; exact hperm)
   have htags : d.toList.map (·.i) = List.range xs.length := by
    apply List.ext_getElem
    ·simp [hds]
    ·intro i h1 h2
     simp only [List.getElem_map, Array.getElem_toList, List.getElem_range]
     exact hdi i (by simpa using h1)
   refine P0 ht Nat.one_pos hin hh hl hrow (d' := d'.toList) (vals := (d'.map enc).toList) ?_ ?_ ?_ ?_
   ·rw [← htags]; exact hpl.map _
   ·refine (F5 (n := xs.length) (by rw [hsz', hds]) hsort).imp fun {a b} hab => ?_
    simpa [ltOf] using hab
   ·rw [hw]
    exact hput q d' os (by rw [hsz', hds])
   ·intro i c hi hc
    have hc0 : c = 0 := by omega
    subst hc0
    have hi' : i < d'.size := by simpa using hi
    rw [Nat.mul_one, Nat.add_zero, henc d'.toList[i]]
    simp [hi']
end
end Go.Proofs.YtboolngaahifdaaGreatD
namespace Go.Proofs.YtboolngaahifdaaGreatD
open Go Go.RowKit Go.Shelf Go.Sort
section
variable {α : Type} [Inhabited α]
def gR (ef : α → α → Bool) (d : Array α) (j : Nat) : Bool := decide (j = 0) || !ef d[j]! d[j - 1]!
def SF (ef : α → α → Bool) (d : Array α) (m : Nat) : List Nat := (List.range m).filter (gR ef d)
def oO (ef : α → α → Bool) (d : Array α) (m : Nat) : List α := (SF ef d m).map (d[·]!)
theorem vJ {ef : α → α → Bool} (d : Array α) : ∀ j, j < 1 → gR ef d j = true := fun j hj => by
 have : j = 0 := by omega
 subst this; rfl
theorem EP {ef : α → α → Bool} {d : Array α} {m : Nat} (h : ef d[m]! d[m - 1]! = false) : gR ef d m = true := by simp [gR, h]
theorem EO {ef : α → α → Bool} {d : Array α} {m : Nat} (hm : 0 < m) (h : ef d[m]! d[m - 1]! = true) : gR ef d m = false := by
 have : m ≠ 0 := by omega
 simp [gR, h, this]
theorem jQ (ef : α → α → Bool) (d : Array α) (m : Nat) : oO ef d (m + 1) = oO ef d m ++ (if gR ef d m then [d[m]!] else []) := by
 unfold oO SF
 rw [List.range_succ, List.filter_append, List.map_append]
 congr 1
 by_cases h : gR ef d m <;> simp [h]
theorem zG (ef : α → α → Bool) (d : Array α) (m : Nat) (h : ∀ j, j < m → gR ef d j = true) : oO ef d m = (List.range m).map (d[·]!) := by
 unfold oO SF
 rw [List.filter_eq_self.2 (fun j hj => h j (List.mem_range.1 hj))]
theorem V8 (d : Array α) : (List.range d.size).map (d[·]!) = d.toList := by
 apply List.ext_getElem
 ·simp
 ·intro i h1 h2
  have hi : i < d.size := by simpa using h2
  simp [getElem!_pos, hi]
structure CInv (ef : α → α → Bool) (d : Array α) (m k : Nat) (dk : Array α) : Prop where
 size : dk.size = d.size
 len : (oO ef d m).length = k
 lt : k < m
 low : ∀ j, j < k → (oO ef d m)[j]? = some dk[j]!
 high : ∀ j, k ≤ j → dk[j]! = d[j]!
theorem CInv.start {ef : α → α → Bool} {d : Array α} {k0 : Nat} (hall : ∀ j, j < k0 → gR ef d j = true) (hdup : gR ef d k0 = false) : CInv ef d (k0 + 1) k0 d where
 size := rfl
 len := by rw [jQ, hdup, zG ef d k0 hall]; simp
 lt := Nat.lt_succ_self _
 low := fun j hj => by rw [jQ, hdup, zG ef d k0 hall]; simp [hj]
 high := fun _ _ => rfl
theorem CInv.keep {ef : α → α → Bool} {d dk : Array α} {m k : Nat} (h : CInv ef d m k dk) (hm : m < d.size) (hk : gR ef d m = true) : CInv ef d (m + 1) (k + 1) (dk.setIfInBounds k d[m]!) where
 size := by simp [h.size]
 len := by rw [jQ, hk]; simp [h.len]
 lt := by have := h.lt; omega
 low := fun j hj => by
  rw [jQ, hk, if_pos rfl]
  by_cases e : j = k
  ·subst e
   rw [List.getElem?_append_right (by rw [h.len]; exact Nat.le_refl _), h.len, Nat.sub_self, getElem!_set_same dk j _ (by have := h.lt; have := h.size; omega)]
   rfl
  ·rw [List.getElem?_append_left (by rw [h.len]; omega), h.low j (by omega), getElem!_set_other dk k j _ e]
 high := fun j hj => by rw [getElem!_set_other dk k j _ (by omega), h.high j (by omega)]
theorem CInv.skip {ef : α → α → Bool} {d dk : Array α} {m k : Nat} (h : CInv ef d m k dk) (hk : gR ef d m = false) : CInv ef d (m + 1) k dk where
 size := h.size
 len := by rw [jQ, hk]; simpa using h.len
 lt := by have := h.lt; omega
 low := fun j hj => by rw [jQ, hk]; simpa using h.low j hj
 high := h.high
theorem UL (enc : α → List Value) (k : Nat) (hk : ∀ x, (enc x).length = k) (d : Array α) (i : Nat) (hi : i < d.size) (x : α) : setMany (flatK enc k d) (i * k) (enc x) = flatK enc k (d.setIfInBounds i x) := by
 refine ext_get! (by simp) fun t ht => ?_
 have ht' : t < d.size * k := by simpa using ht
 have k0 : 0 < k := by
  rcases Nat.eq_zero_or_pos k with h | h
  ·subst h; simp at ht'
  ·exact h
 rw [get_setMany _ _ _ t (by simpa using ht'), get_flatK _ _ _ t ht', get_flatK _ _ _ t (by simpa using ht'), hk]
 by_cases a : t / k = i
 ·rw [if_pos ((blk_iff k i t k0).2 a), a, getElem!_set_same d i x hi, show t - i * k = t % k from by subst a; rw [Nat.mod_eq_sub_div_mul]]
 ·rw [if_neg (fun h => a ((blk_iff k i t k0).1 h)), getElem!_set_other d i _ x a]
variable {enc : α → List Value} {k : Nat} {w0 W : World} {blk off : Nat} {dk : Array α}
theorem TW (h : SWK enc k w0 blk off dk W) (hk : ∀ x, (enc x).length = k) (hblk : blk < w0.heap.size) {i : Nat} (hi : i < dk.size) (x : α) : SWK enc k w0 blk off (dk.setIfInBounds i x) (W.setCells blk (off + i * k) (enc x)) := by
 obtain ⟨n, os, rfl⟩ := h
 refine ⟨n, os, ?_⟩
 unfold sortWorldK
 have b : i * k + k ≤ dk.size * k := by
  have := Nat.mul_le_mul_right k (show i + 1 ≤ dk.size from hi); rwa [Nat.add_mul, Nat.one_mul] at this
 rw [← putRowK_grow enc k (Sort.ahead w0 n) os blk off dk hblk, ← putRowK_grow enc k (Sort.ahead w0 n) os blk off _ hblk]
 unfold putRowK
 rw [setCells_putRow _ _ _ _ _ _ (by rw [hk, size_flatK]; exact b), UL enc k hk dk i hi x]
theorem jZ (h : SWK enc k w0 blk off dk W) (n : Nat) (os : Array Go.Obj) : SWK enc k w0 blk off dk (grow (W.drewN n) os) := by
 obtain ⟨m, os0, rfl⟩ := h
 exact ⟨_, _, sortWorldK_grown_c enc k w0 blk off m n dk os0 os⟩
end
theorem Rowed.cell {w w1 : World} {b off : Nat} {vals : List Value} (h : Rowed w w1 b off vals) (hb : b < w.heap.size) {o : Nat} (ho : off + vals.length ≤ o) (v : Value) : Rowed w (w1.setCell ⟨b, o, none⟩ v) b off vals := by
 rw [setCell_eq]
 refine ⟨h.os, h.tape, h.output, by simpa [mapBlock] using h.size, h.drawn, fun k hk hne => ?_, fun c e hc => ?_⟩
 ·simp only [mapBlock, Array.getElem?_modify]
  rw [if_neg (fun h => hne h.symm)]
  exact h.block k hk hne
 ·obtain ⟨c', h1, h2, h3⟩ := h.row c e hc
  refine ⟨c'.setIfInBounds o v, ?_, by simpa using h2, fun j u hu => ?_⟩
  ·simp only [mapBlock, Array.getElem?_modify, if_true]
   rw [h1]; rfl
  ·have hj := (List.getElem?_eq_some_iff.1 hu).1
   rw [Array.getElem?_setIfInBounds, if_neg (by omega)]
   exact h3 j u hu
theorem Rowed.take {w w1 : World} {b off : Nat} {vals : List Value} (h : Rowed w w1 b off vals) (n : Nat) : Rowed w w1 b off (vals.take n) :=
 ⟨h.os, h.tape, h.output, h.size, h.drawn, h.block, fun c e hc => by
  obtain ⟨c', h1, h2, h3⟩ := h.row c e hc
  refine ⟨c', h1, h2, fun j u hu => h3 j u ?_⟩
  rw [List.getElem?_take] at hu
  split at hu
  ·exact hu
  ·cases hu⟩
theorem Rowed.cells {w : World} {b off : Nat} {vals : List Value} (hb : b < w.heap.size) : ∀ (zs : List Value) {w1 : World} {o : Nat}, Rowed w w1 b off vals → off + vals.length ≤ o → Rowed w (w1.setCells b o zs) b off vals
 | [], _, _, h, _ => h
 | z :: zs, w1, o, h, ho => Rowed.cells hb zs (h.cell hb ho z) (by omega)
section
variable {α : Type} [Inhabited α] {enc : α → List Value} {k : Nat} {w0 W : World} {blk off : Nat} {dk : Array α}
theorem z6 (h : SWK enc k w0 blk off dk W) (hblk : blk < w0.heap.size) (hF : ∀ c e, w0.heap[blk]? = some (.cells c e (0, 0)) → off + dk.size * k ≤ c.size) : Rowed w0 W blk off (flatK enc k dk).toList := by
 obtain ⟨n, os, rfl⟩ := h
 exact uX hblk fun c e hc => by rw [size_flatK]; exact hF c e hc
theorem ZF (h : SWK enc k w0 blk off dk W) (hblk : blk < w0.heap.size) (hF : ∀ c e, w0.heap[blk]? = some (.cells c e (0, 0)) → off + dk.size * k ≤ c.size) {n : Nat} (zs : List Value) : Rowed w0 (W.setCells blk (off + n * k) zs) blk off ((flatK enc k dk).toList.take (n * k)) :=
 Rowed.cells hblk zs ((z6 h hblk hF).take _) (by rw [List.length_take]; omega)
end
theorem CC {P : Program} (w : World) (t e : TypeId) (z : Value) (zs : List Value) (ht : P.underlying t = some (.slice e)) (hv : ∀ w, (zeroValue e).run P w = .ok z w) (hz : z.cells = zs.toArray) (hz0 : 0 < zs.length) (h1 : ∀ v ∈ zs, v.oneCell' = true) (b o n c : Nat) (hn : 0 < n)
  (hc : ∀ j, j < n * zs.length → (w.cell? ⟨b, o + j, none⟩).isSome = true) (hf : ∀ j, j < n * zs.length → w.frozen? ⟨b, o + j, none⟩ = false) :
  ∃ l, ∀ ty, (Builtin.clear_ #[t] ty #[.slice (some ⟨b, o, none⟩) n c]).run P w = .ok (.tuple #[]) (w.setCells b o l) := by
 refine ⟨(Builtin.zeroCells z.cells n).toList, fun ty => ?_⟩
 have hl : (Builtin.zeroCells z.cells n).toList.length = n * zs.length := by simp [Builtin.zeroCells, hz]
 have hst := run_storeCells_cells (P := P) b o (Builtin.zeroCells z.cells n).toList 0 w (by rw [hl]; simpa using hc) (by rw [hl]; simpa using hf) (by
  intro v hv'
  simp only [Builtin.zeroCells, hz, Array.toList_map, List.mem_map, Array.toList_range, List.mem_range, List.size_toArray] at hv'
  obtain ⟨i, _, rfl⟩ := hv'
  have : i % zs.length < zs.length := Nat.mod_lt _ hz0
  rw [getElem!_pos zs.toArray _ (by simpa using this)]
  exact h1 _ (by simp))
 simp only [Nat.add_zero] at hst
 obtain ⟨m, rfl⟩ : ∃ m, n = m + 1 := ⟨n - 1, by omega⟩
 simp [Builtin.clear_, aM ht, hv, hst]
def PG {α : Type} [Inhabited α] (P : Program) (g : Nat) (enc : α → Value) (encK : α → List Value) (k : Nat) (ef : α → α → Bool) (w0 : World) (blk off size : Nat) : Prop :=
 ∀ (dk : Array α) (W : World), dk.size = size → SWK encK k w0 blk off dk W → ∀ x y : α,
  Calls P g #[enc x, enc y] W fun e w' => e = .returned (.bool (ef x y)) ∧ ∃ q os', w' = grow (W.drewN q) os'
def CompOut {α : Type} [Inhabited α] (enc : α → List Value) (k : Nat) (ef : α → α → Bool) (d : Array α) (w w' : World) (blk off m : Nat) : Prop :=
 ∃ dk : Array α, dk.size = d.size ∧ m ≤ d.size ∧ (oO ef d d.size).length = m ∧ (∀ j, j < m → (oO ef d d.size)[j]? = some dk[j]!) ∧ Rowed w w' blk off ((flatK enc k dk).toList.take (m * k))
theorem CompOut.all {α : Type} [Inhabited α] {enc : α → List Value} {k : Nat} {ef : α → α → Bool} {d : Array α} {w W : World} {blk off : Nat} (hblk : blk < w.heap.size) (hF : ∀ c e, w.heap[blk]? = some (.cells c e (0, 0)) → off + d.size * k ≤ c.size) (hW : SWK enc k w blk off d W) (hall : ∀ j, j < d.size → gR ef d j = true) : CompOut enc k ef d w W blk off d.size := by
 have e : oO ef d d.size = d.toList := by rw [zG ef d _ hall, V8]
 refine ⟨d, rfl, Nat.le_refl _, by rw [e]; simp, fun j hj => ?_, (z6 hW hblk hF).take _⟩
 rw [e, getElem!_pos d j hj]; simp [hj]
theorem CompOut.cut {α : Type} [Inhabited α] {enc : α → List Value} {k : Nat} {ef : α → α → Bool} {d dk : Array α} {w W : World} {blk off m : Nat} (hblk : blk < w.heap.size) (hF : ∀ c e, w.heap[blk]? = some (.cells c e (0, 0)) → off + d.size * k ≤ c.size) (hW : SWK enc k w blk off dk W) (hI : CInv ef d d.size m dk) (l : List Value) : CompOut enc k ef d w (W.setCells blk (off + m * k) l) blk off m :=
 ⟨dk, hI.size, Nat.le_of_lt hI.lt, hI.len, hI.low, ZF hW hblk (fun c e hc => by rw [hI.size]; exact hF c e hc) l⟩
end Go.Proofs.YtboolngaahifdaaGreatD
namespace Go.Proofs.YtboolngaahifdaaGreatD
open Go Go.RowKit Go.Shelf Go.Sort
def l6 {β : Type} (ef : β → β → Bool) : β → List β → List β
 | _, [] => []
 | p, x :: r => if ef x p then l6 ef x r else x :: l6 ef x r
def kM {β : Type} (ef : β → β → Bool) : List β → List β
 | [] => []
 | x :: r => x :: l6 ef x r
theorem DN {β : Type} (ef : β → β → Bool) : ∀ (xs : List β) (p y : β), l6 ef p (xs ++ [y]) = l6 ef p xs ++ (if ef y (xs.getLastD p) then [] else [y])
 | [], p, y => by simp [l6]
 | x :: xs, p, y => by
  simp only [List.cons_append, l6, List.getLastD_cons]
  rw [DN ef xs x y]
  split <;> simp
theorem zI {β γ : Type} (ef : γ → γ → Bool) (f : β → γ) (xs : List β) : (kM (fun a b => ef (f a) (f b)) xs).map f = kM ef (xs.map f) := by
 have : ∀ (xs : List β) (p : β), (l6 (fun a b => ef (f a) (f b)) p xs).map f = l6 ef (f p) (xs.map f) := by
  intro xs
  induction xs with
  | nil => intro p; rfl
  | cons x xs ih =>
   intro p
   simp only [l6, List.map_cons]
   split <;> simp [ih]
 cases xs with
 | nil => rfl
 | cons x xs => simp [kM, this]
theorem zH {β : Type} (ef : β → β → Bool) : ∀ (xs : List β) (p : β), (l6 ef p xs).Sublist xs
 | [], p => List.Sublist.refl _
 | x :: xs, p => by
  simp only [l6]
  split
  ·exact (zH ef xs x).cons x
  ·exact (zH ef xs x).cons_cons x
theorem UE {β : Type} (ef : β → β → Bool) (xs : List β) : (kM ef xs).Sublist xs := by
 cases xs with
 | nil => exact List.Sublist.refl _
 | cons x xs => exact (zH ef xs x).cons_cons x
theorem DK {α : Type} [Inhabited α] (ef : α → α → Bool) (d : Array α) : ∀ m, oO ef d (m + 1) = d[0]! :: l6 ef d[0]! ((List.range m).map fun i => d[i + 1]!)
 | 0 => by simp [oO, SF, l6, gR]
 | m + 1 => by
  have hl : ((List.range m).map fun i => d[i + 1]!).getLastD d[0]! = d[m]! := by
   cases m with
   | zero => rfl
   | succ m => rw [List.range_succ, List.map_append]; simp
  rw [jQ, DK ef d m, List.range_succ, List.map_append, List.map_singleton, DN, hl]
  simp only [gR, Nat.add_one_ne_zero, decide_false, Bool.false_or, Nat.add_sub_cancel, List.cons_append]
  cases ef d[m + 1]! d[m]! <;> simp
theorem WM {α : Type} [Inhabited α] (ef : α → α → Bool) (d : Array α) : oO ef d d.size = kM ef d.toList := by
 cases hs : d.size with
 | zero =>
  have : d.toList = [] := by apply List.eq_nil_of_length_eq_zero; simpa using hs
  rw [this]; rfl
 | succ n =>
  have : d.toList = d[0]! :: (List.range n).map fun i => d[i + 1]! := by
   apply List.ext_getElem
   ·simp [hs]
   ·intro i h1 h2
    have hi : i < d.size := by simpa using h1
    cases i with
    | zero => simp [getElem!_pos d 0 hi]
    | succ i => simp [getElem!_pos d (i + 1) hi]
  rw [this, DK]; rfl
def M4 (P : Program) (f k : Nat) (mk : List Value → Value) : Prop :=
 ∀ {α : Type} [Inhabited α] (enc : α → List Value), (∀ x, (enc x).length = k) → (∀ x, ∀ v ∈ enc x, v.oneCell' = true) → ∀ (ef : α → α → Bool) (g blk off cap : Nat) (d : Array α) (w : World),
  (∀ args w, (callFunc g args).run P w = .ok (.enter g args) w) → PG P g (fun x => mk (enc x)) enc k ef w blk off d.size → HoldsK enc k w blk off d → blk < w.heap.size → (∀ c e, w.heap[blk]? = some (.cells c e (0, 0)) → off + d.size * k ≤ c.size) → d.size < 4611686018427387904 → d.size ≤ cap →
  Calls P f #[.slice (some ⟨blk, off, none⟩) d.size cap, .func (.func g) #[] #[]] w fun e w' => ∃ m : Nat, CompOut enc k ef d w w' blk off m ∧ e = .returned (.slice (some ⟨blk, off, none⟩) m cap)
theorem a2N (l : List Nat) (h : l.Nodup) : ∃ ι : Nat → Option Nat, ∀ i (hi : i < l.length), ι l[i] = some i := by
 classical
 refine ⟨fun j => if h : ∃ i, l[i]? = some j then some (Classical.choose h) else none, fun i hi => ?_⟩
 have hex : ∃ i', l[i']? = some l[i] := ⟨i, List.getElem?_eq_getElem hi⟩
 simp only [hex, dif_pos]
 congr 1
 have hs := Classical.choose_spec hex
 obtain ⟨h1, h2⟩ := List.getElem?_eq_some_iff.1 hs
 exact (List.getElem_inj h).1 h2
theorem BU : ∀ vs : List V, (dM vs).length = vs.length
 | [] => by simp [dM]
 | v :: vs => by simp [dM, BU vs]
theorem MN {β : Type} {E0 : Env} {k : Nat} {t : β → List V} {xs : List β} (ht : ∀ x, (t x).length = k) (hk0 : 0 < k) (hin : GIn E0 [some ⟨false, aB t xs⟩]) {c0 : Array Value} {e0 : TypeId} (hh : E0.w.heap[(E0.ρ 0).1]? = some (.cells c0 e0 (0, 0))) (hl : E0.o (E0.ρ 0).1 = some [0]) (hrow : Rrow E0.bare (.at [0]) (E0.ρ 0).1 (E0.ρ 0).2 0 (aB t xs))
  {d' : List (Elt E0.w (E0.ρ 0).1 (E0.ρ 0).2 k t xs)} (hnd : (d'.map (·.i)).Nodup) {vals : List Value} {w' : World} (hw : Rowed E0.w w' (E0.ρ 0).1 (E0.ρ 0).2 vals) (hv : ∀ i c, (h : i < d'.length) → c < k → vals[i * k + c]? = d'[i].vs[c]?) {cap : Nat} (hcap : d'.length ≤ cap) (hs : (E0.ρ 0).2 + cap * k ≤ c0.size) :
  ∃ (r : V) (g2 : List (Option Obj)) (E2 : Env), (r = .tr k d'.length (aB t (d'.map (·.x))) ∧ g2 = [none]) ∧ E2.w = w' ∧ GOut E0 E2 [some ⟨false, aB t xs⟩] g2 ∧ Rv E2.bare (.top g2.length) r (.slice (some ⟨(E0.ρ 0).1, (E0.ρ 0).2, none⟩) d'.length cap) := by
 obtain ⟨ι, hι0⟩ := a2N _ hnd
 let τ : Nat → Nat := fun i => if h : i < d'.length then d'[i].i else 0
 have hτ : ∀ i (h : i < d'.length), τ i = d'[i].i := fun i h => by simp [τ, h]
 have hι : ∀ i, i < d'.length → ι (τ i) = some i := fun i h => by
  rw [hτ i h]
  have := hι0 i (by simpa using h)
  simpa using this
 refine ⟨_, [none], E0.reE w' [1] k ι [none], ⟨rfl, rfl⟩, rfl, ?_, ?_⟩
 ·exact T7 hin rfl hl rfl hw rfl (fun h => by cases h) fun ob hob => by cases hob
 ·obtain ⟨c', g1, g2, _⟩ := hw.row c0 e0 hh
  refine ⟨_, cap, rfl, hcap, by rw [a6 ht]; simp, .inr ⟨_, _, [1], c', e0, rfl, rfl, ?_, g1, by rw [g2]; exact hs, ?_⟩⟩
  ·show reL [1] k ι (E0.o (E0.ρ 0).1) = some [1]
   rw [hl]; rfl
  ·refine T8 (g2 := [none]) (m := d'.length) hin.okb hin.lab hh hl hk0 hrow hw hι (fun i c v hi hc hcell => ?_) fun j dd hj => ?_
   ·have hid : i < d'.length := hi
    rw [hv i c hid hc]
    have hcl : c < d'[i].vs.length := by rw [d'[i].len]; exact hc
    have h1 := d'[i].cells c d'[i].vs[c] (List.getElem?_eq_getElem hcl)
    rw [hτ i hid] at hcell
    rw [hcell] at h1
    rw [List.getElem?_eq_getElem hcl, ← Option.some.inj h1]
   ·have hjl : j < d'.length * k := by
     have := (List.getElem?_eq_some_iff.1 hj).1
     rw [a6 ht] at this
     simpa using this
    refine ⟨hjl, ?_⟩
    obtain ⟨y, h1, h2⟩ := FL ht hj
    rw [List.getElem?_map] at h1
    have hid : j / k < d'.length := Nat.div_lt_of_lt_mul (by rw [Nat.mul_comm]; exact hjl)
    rw [List.getElem?_eq_getElem hid] at h1
    simp only [Option.map_some, Option.some.injEq] at h1
    subst h1
    rw [hτ _ hid]
    have hat := d'[j / k].at_
    have hlt := (List.getElem?_eq_some_iff.1 hat).1
    have hxe : xs[d'[j / k].i] = d'[j / k].x := (List.getElem?_eq_some_iff.1 hat).2
    exact FK ht hlt (by rw [hxe]; exact h2)
section
variable {P : Program} {β : Type}
set_option maxHeartbeats 1000000 in
theorem PK {f k : Nat} (hk0 : 0 < k) {mk : List Value → Value} {mv : List V → V} (hmv : ∀ E vs xs, vs.length = k → Rvs E .none vs xs → Rv E .none (mv vs) (mk xs)) (walk : M4 P f k mk) (t : β → List V) (ht : ∀ x, (t x).length = k) (hf : ∀ x, ∀ c ∈ dM (t x), fT c = true) (g : Nat) (ef : β → β → Bool)
  (hg : ∀ x y, bI P g [mv (dM (t x)), mv (dM (t y))] (cb (ef x y))) (hen : Go.Proofs.YtboolngaahifdaaGreatD.Enters P f) (hnone : ∀ p cap fv w, Calls P f #[.slice p 0 cap, fv] w fun e w' => e = .returned (.slice p 0 cap) ∧ w' = w) (xs : List β) (hsz : xs.length < 4611686018427387904) :
  SpecG P f [.own 0 k 0 xs.length xs.length none, .fn g []] [some ⟨false, aB t xs⟩] fun r g2 => r = .tr k (kM ef xs).length (aB t (kM ef xs)) ∧ g2 = [none] := by
 refine ⟨hen, fun E0 vals hin hv => ?_⟩
 match vals, hv with
 | [v0, v1], ⟨h0, h1, _⟩ =>
  obtain ⟨_, A, cap, rfl, hnc, hlv⟩ := h0
  obtain ⟨ys0, hy, hys⟩ := h1
  have hy0 : ys0 = [] := by cases ys0 with | nil => rfl | cons _ _ => exact hys.elim
  subst hy0
  subst hy
  have hlive : (E0.g 0).isSome = true := by rw [hin.gq]; rfl
  obtain ⟨hcap, _, _, hbl⟩ := hlv hlive
  by_cases hx : xs = []
  ·subst hx
   refine (hnone A cap (.func (.func g) #[] #[]) E0.w).mono fun e w' ⟨he, hw⟩ => ?_
   subst he hw
   rcases hbl with hz | ⟨c, e, hA, hl, hh2, hs2⟩
   ·subst hz
    refine ⟨_, [none], { E0 with g := aX [none], n := 1 }, ⟨rfl, rfl⟩, rfl, ?_, ⟨A, 0, rfl, Nat.zero_le _, by simp [kM, aB], .inl rfl⟩⟩
    exact ⟨rfl, rfl, fun i ob hi => (by cases i <;> cases hi), hin.okb, hin.lab, ⟨rfl, rfl, rfl, Nat.le_refl _, fun _ _ _ => rfl, fun b c e h => ⟨c, h, rfl⟩, Nat.le_refl _⟩, fun _ _ _ => rfl, fun i hi hs => (by
     have : i = 0 := by simpa using hi
     subst this; cases hs), Nat.le_refl _⟩
   ·rw [Nat.add_zero] at hA hs2
    subst hA
    exact MN (d' := []) (vals := []) ht hk0 hin hh2 hl (by simp [aB, Rrow]) (by simp) ⟨rfl, rfl, rfl, Nat.le_refl _, Nat.le_refl _, fun _ _ _ => rfl, fun c e h => ⟨c, h, rfl, fun j v hj => by simp at hj⟩⟩ (fun i c h => absurd h (by simp)) (Nat.zero_le _) hs2
  ·obtain ⟨c0, e0, hh, hl, hrow, hel⟩ := a20 ht hin hx hk0
   have hpos : 0 < xs.length := List.length_pos_iff.2 hx
   rcases hbl with hz | ⟨c, e, hA, _, hh2, hs2⟩
   ·omega
   rw [hh] at hh2
   cases hh2
   rw [Nat.add_zero] at hA hs2
   subst hA
   have hb : (E0.ρ 0).1 < E0.w.heap.size := cY hh
   obtain ⟨el0, _⟩ := hel 0 hpos
   haveI : Inhabited (Elt E0.w (E0.ρ 0).1 (E0.ρ 0).2 k t xs) := ⟨el0⟩
   let d : Array (Elt E0.w (E0.ρ 0).1 (E0.ρ 0).2 k t xs) := Array.ofFn fun i : Fin xs.length => Classical.choose (hel i.1 i.2)
   have hds : d.size = xs.length := by simp [d]
   have hdi : ∀ i (h : i < d.size), d[i].i = i := fun i h => by
    simp only [d, Array.getElem_ofFn]
    exact Classical.choose_spec (hel i (by rw [← hds]; exact h))
   have hH : HoldsK (fun el : Elt E0.w (E0.ρ 0).1 (E0.ρ 0).2 k t xs => el.vs) k E0.w (E0.ρ 0).1 (E0.ρ 0).2 d := by
    intro j hj
    rw [size_flatK] at hj
    have hjk : j / k < d.size := Nat.div_lt_of_lt_mul (by rw [Nat.mul_comm]; exact hj)
    have hmod : j % k < k := Nat.mod_lt _ hk0
    refine ⟨?_, uI hh⟩
    rw [get_flatK _ _ _ _ hj, getElem!_pos d _ hjk]
    have hcl : j % k < d[j / k].vs.length := by rw [d[j / k].len]; exact hmod
    rw [getElem!_pos d[j / k].vs _ hcl]
    have := d[j / k].cells (j % k) _ (List.getElem?_eq_getElem hcl)
    rw [hdi _ hjk, Nat.mul_comm, Nat.div_add_mod] at this
    exact this
   have hcs : ∀ c e, E0.w.heap[(E0.ρ 0).1]? = some (.cells c e (0, 0)) → (E0.ρ 0).2 + xs.length * k ≤ c.size := fun c e hc => by
    rw [hh] at hc
    cases hc
    have := Nat.mul_le_mul_right k hcap
    omega
   have hcs' : ∀ c e, E0.w.heap[(E0.ρ 0).1]? = some (.cells c e (0, 0)) → (E0.ρ 0).2 + d.size * k ≤ c.size := fun c e hc => by rw [hds]; exact hcs c e hc
   have hcmp : PG P g (fun el : Elt E0.w (E0.ρ 0).1 (E0.ρ 0).2 k t xs => mk el.vs) (fun el => el.vs) k (fun a b => ef a.x b.x) E0.w (E0.ρ 0).1 (E0.ρ 0).2 d.size := by
    intro dk W hdk hW x y
    have hR := z6 hW hb (fun c e hc => by rw [hdk]; exact hcs' c e hc)
    have hlt : (E0.ρ 0).1 < W.heap.size := Nat.lt_of_lt_of_le hb hR.size
    have hlen : ∀ x : Elt E0.w (E0.ρ 0).1 (E0.ρ 0).2 k t xs, (dM (t x.x)).length = k := fun x => by rw [BU, ht]
    have := (hg x.x y.x).2 W (okx (E0.ρ 0).1) [mk x.vs, mk y.vs] (F0 hlt) ⟨hmv _ _ _ (hlen x) (v2 hR hb x.see), hmv _ _ _ (hlen y) (v2 hR hb y.see), trivial⟩
    refine this.mono fun e w' he => ?_
    cases e with
    | panicked chain => exact he.elim
    | outgrown => exact he.elim
    | returned z =>
     obtain ⟨hbl, o', _, _, k0, hz⟩ := he
     exact ⟨by rw [hz.1], sK hbl⟩
   have hwf : ∀ args w, (callFunc g args).run P w = .ok (.enter g args) w := fun args w => f0 (hg el0.x el0.x).1 args w
   have main := walk (fun el : Elt E0.w (E0.ρ 0).1 (E0.ρ 0).2 k t xs => el.vs) (fun el => el.len) (fun el => xI (hf el.x) el.see) (fun a b => ef a.x b.x) g (E0.ρ 0).1 (E0.ρ 0).2 cap d E0.w hwf hcmp hH hb hcs' (by rw [hds]; exact hsz) (by rw [hds]; exact hcap)
   rw [hds] at main
   refine main.mono fun e w' ⟨m, ⟨dk, hdk, hmd, hcl, hlow, hR⟩, he⟩ => ?_
   subst he
   have hce : oO (fun a b : Elt E0.w (E0.ρ 0).1 (E0.ρ 0).2 k t xs => ef a.x b.x) d d.size = kM (fun a b => ef a.x b.x) d.toList := WM _ d
   have hdx : d.toList.map (·.x) = xs := by
    apply List.ext_getElem
    ·simp [hds]
    ·intro i h1 h2
     have hi : i < d.size := by simpa using h1
     simp only [List.getElem_map, Array.getElem_toList]
     have := d[i].at_
     rw [hdi i hi, List.getElem?_eq_getElem h2] at this
     exact (Option.some.inj this).symm
   have htags : d.toList.map (·.i) = List.range xs.length := by
    apply List.ext_getElem
    ·simp [hds]
    ·intro i h1 h2
     simp only [List.getElem_map, Array.getElem_toList, List.getElem_range]
     exact hdi i (by simpa using h1)
   rw [hce] at hcl hlow
   have hmap : (kM (fun a b : Elt E0.w (E0.ρ 0).1 (E0.ρ 0).2 k t xs => ef a.x b.x) d.toList).map (·.x) = kM ef xs := by
    have := zI ef (fun a : Elt E0.w (E0.ρ 0).1 (E0.ρ 0).2 k t xs => a.x) d.toList
    rw [this, hdx]
   have hle : m = (kM ef xs).length := by rw [← hmap, List.length_map, hcl]
   have hnd : ((kM (fun a b : Elt E0.w (E0.ρ 0).1 (E0.ρ 0).2 k t xs => ef a.x b.x) d.toList).map (·.i)).Nodup := by
    refine List.Nodup.sublist ((UE _ _).map _) ?_
    rw [htags]; exact List.nodup_range
   have key := MN ht hk0 hin hh hl hrow hnd hR (fun i c hi hc => ?_) (cap := cap) (by rw [hcl]; omega) hs2
   ·rw [hmap, hcl, hle] at key
    rw [hle]
    exact key
   ·have him : i < m := by rw [← hcl]; exact hi
    have hik : i * k + c < m * k := by
     have := Nat.mul_le_mul_right k (show i + 1 ≤ m from him)
     rw [Nat.add_mul, Nat.one_mul] at this
     omega
    have hlt : i * k + c < dk.size * k := by
     have := Nat.mul_le_mul_right k (show m ≤ dk.size from by rw [hdk]; exact hmd)
     omega
    have e1 : (i * k + c) / k = i := by rw [Nat.mul_comm, Nat.mul_add_div hk0, Nat.div_eq_of_lt hc, Nat.add_zero]
    have e2 : (i * k + c) % k = c := by rw [Nat.mul_comm, Nat.mul_add_mod, Nat.mod_eq_of_lt hc]
    have hlw := hlow i him
    rw [List.getElem?_eq_getElem hi] at hlw
    have hel2 := Option.some.inj hlw
    rw [hel2, List.getElem?_take, if_pos hik, List.getElem?_eq_getElem (by simpa using hlt)]
    have hcl : c < dk[i]!.vs.length := by rw [dk[i]!.len]; exact hc
    rw [List.getElem?_eq_getElem hcl]
    have := get_flatK (fun el : Elt E0.w (E0.ρ 0).1 (E0.ρ 0).2 k t xs => el.vs) k dk _ hlt
    rw [getElem!_pos _ _ (by simpa using hlt), e1, e2, getElem!_pos dk[i]!.vs c hcl] at this
    simpa using this
end
end Go.Proofs.YtboolngaahifdaaGreatD
