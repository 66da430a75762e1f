/- Contracts and plain laws of this seat; no condition. -/
import Derived.Test.YtcjdfeafcmfgpaaGreatQ8
import Derived.Sort.Row
import Derived.Sort.Grow
import Derived.Deep.Draws
import Derived.Shelf.SlSortCmp.NoneTotal
import Derived.Lib.SliceRun
set_option linter.unusedVariables false
set_option linter.unusedSimpArgs false
namespace Go.Proofs.YtcjdfeafcmfgpaaGreatD
open Go Go.RowKit
structure Rowed (w w' : World) (b off : Nat) (vals : List Value) : Prop where
 os : w'.os = w.os
 tape : w'.tape = w.tape
 output : w'.output = w.output
 size : w.heap.size ≤ w'.heap.size
 drawn : w.drawn ≤ w'.drawn
 block : ∀ k, k < w.heap.size → k ≠ b → w'.heap[k]? = w.heap[k]?
 row : ∀ c e, w.heap[b]? = some (.cells c e (0, 0)) → ∃ c', w'.heap[b]? = some (.cells c' e (0, 0)) ∧ c'.size = c.size ∧ ∀ j v, vals[j]? = some v → c'[off + j]? = some v
theorem rowed_put {w : World} {b off m : Nat} {F : Array Value} {os : Array Go.Obj} (hb : b < w.heap.size) (hF : ∀ c e, w.heap[b]? = some (.cells c e (0, 0)) → off + F.size ≤ c.size) : Rowed w (Sort.grow (Sort.putRow id (Sort.ahead w m) b off F) os) b off F.toList := by
 have hsz : (Sort.putRow id (Sort.ahead w m) b off F).heap.size = w.heap.size := by simp [Sort.putRow, Sort.mapBlock, Sort.ahead]
 have hlt : ∀ k, k < w.heap.size → (Sort.grow (Sort.putRow id (Sort.ahead w m) b off F) os).heap[k]? = (Sort.putRow id (Sort.ahead w m) b off F).heap[k]? := by
  intro k hk
  show ((Sort.putRow id (Sort.ahead w m) b off F).heap ++ os)[k]? = _
  rw [Array.getElem?_append_left (by rw [hsz]; exact hk)]
 refine ⟨rfl, rfl, rfl, by simp [hsz], Nat.le_add_right _ _, fun k hk hne => ?_, fun c e hc => ?_⟩
 ·rw [hlt k hk]
  simp only [Sort.putRow, Sort.mapBlock, Array.getElem?_modify]
  rw [if_neg (fun h => hne h.symm)]
  rfl
 ·refine ⟨Sort.putCells id off F c, ?_, by simp [Sort.putCells], fun j v hv => ?_⟩
  ·rw [hlt b hb]
   simp only [Sort.putRow, Sort.mapBlock, Array.getElem?_modify, if_true]
   have hc' : (Sort.ahead w m).heap[b]? = some (.cells c e (0, 0)) := hc
   rw [hc']
   rfl
  ·have hjl : j < F.size := by
    have := (List.getElem?_eq_some_iff.1 hv).1
    simpa using this
   have hcs := hF c e hc
   have hv' : F[j] = v := by
    have := (List.getElem?_eq_some_iff.1 hv).2
    simpa using this
   simp only [Sort.putCells, Array.getElem?_mapIdx]
   have hlt2 : off + j < c.size := by omega
   rw [Array.getElem?_eq_getElem hlt2]
   simp only [Option.map_some, id]
   rw [if_pos ⟨by omega, by omega⟩, show off + j - off = j from by omega, getElem!_pos F j hjl, hv']
section
variable {E0 : Env} {b off k n m : Nat} {cs0 : List V} {vals : List Value} {w' : World} {q : List Nat} {ι : Nat → Option Nat} {τ : Nat → Nat}
end
def Env.two (E : Env) : Env := { E.bare with o := fun b => match E.o b with
 | some (h :: k :: t) => some (h :: k :: t)
 | some _ => some []
 | none => none }
def okx (b : Nat) : Lab := fun c => if c = b then some [] else none
end Go.Proofs.YtcjdfeafcmfgpaaGreatD
namespace Go.Proofs.YtcjdfeafcmfgpaaGreatD
open Go Go.RowKit Go.Shelf Go.Sort
structure Elt {β : Type} (w : World) (b off k : Nat) (t : β → List V) (xs : List β) where
 i : Nat
 vs : List Value
 x : β
 len : vs.length = k
 at_ : xs[i]? = some x
 cells : ∀ c v, vs[c]? = some v → w.cell? ⟨b, off + (i * k + c), none⟩ = some v
 see : Rvs (baseE w (okx b)) .none (roVs (t x)) vs
section
variable {β : Type} {E0 : Env} {k : Nat} {t : β → List V} {xs : List β}
end
section
variable {P : Program} {ρ : Ren} {β : Type}
end
end Go.Proofs.YtcjdfeafcmfgpaaGreatD
namespace Go.Proofs.YtcjdfeafcmfgpaaGreatD
open Go Go.RowKit Go.Shelf Go.Sort
section
variable {α : Type} [Inhabited α]
def keepsB (ef : α → α → Bool) (d : Array α) (j : Nat) : Bool := decide (j = 0) || !ef d[j]! d[j - 1]!
def keptB (ef : α → α → Bool) (d : Array α) (m : Nat) : List Nat := (List.range m).filter (keepsB ef d)
def compB (ef : α → α → Bool) (d : Array α) (m : Nat) : List α := (keptB ef d m).map (d[·]!)
theorem compB_succ (ef : α → α → Bool) (d : Array α) (m : Nat) : compB ef d (m + 1) = compB ef d m ++ (if keepsB ef d m then [d[m]!] else []) := by
 unfold compB keptB
 rw [List.range_succ, List.filter_append, List.map_append]
 congr 1
 by_cases h : keepsB ef d m <;> simp [h]
theorem compB_all (ef : α → α → Bool) (d : Array α) (m : Nat) (h : ∀ j, j < m → keepsB ef d j = true) : compB ef d m = (List.range m).map (d[·]!) := by
 unfold compB keptB
 rw [List.filter_eq_self.2 (fun j hj => h j (List.mem_range.1 hj))]
theorem range_get (d : Array α) : (List.range d.size).map (d[·]!) = d.toList := by
 apply List.ext_getElem
 ·simp
 ·intro i h1 h2
  have hi : i < d.size := by simpa using h2
  simp [getElem!_pos, hi]
structure CInv (ef : α → α → Bool) (d : Array α) (m k : Nat) (dk : Array α) : Prop where
 size : dk.size = d.size
 len : (compB ef d m).length = k
 lt : k < m
 low : ∀ j, j < k → (compB ef d m)[j]? = some dk[j]!
 high : ∀ j, k ≤ j → dk[j]! = d[j]!
theorem CInv.start {ef : α → α → Bool} {d : Array α} {k0 : Nat} (hall : ∀ j, j < k0 → keepsB ef d j = true) (hdup : keepsB ef d k0 = false) : CInv ef d (k0 + 1) k0 d where
 size := rfl
 len := by rw [compB_succ, hdup, compB_all ef d k0 hall]; simp
 lt := Nat.lt_succ_self _
 low := fun j hj => by rw [compB_succ, hdup, compB_all ef d k0 hall]; simp [hj]
 high := fun _ _ => rfl
theorem CInv.keep {ef : α → α → Bool} {d dk : Array α} {m k : Nat} (h : CInv ef d m k dk) (hm : m < d.size) (hk : keepsB ef d m = true) : CInv ef d (m + 1) (k + 1) (dk.setIfInBounds k d[m]!) where
 size := by simp [h.size]
 len := by rw [compB_succ, hk]; simp [h.len]
 lt := by have := h.lt; omega
 low := fun j hj => by
  rw [compB_succ, hk, if_pos rfl]
  by_cases e : j = k
  ·subst e
   rw [List.getElem?_append_right (by rw [h.len]; exact Nat.le_refl _), h.len, Nat.sub_self, getElem!_set_same dk j _ (by have := h.lt; have := h.size; omega)]
   rfl
  ·rw [List.getElem?_append_left (by rw [h.len]; omega), h.low j (by omega), getElem!_set_other dk k j _ e]
 high := fun j hj => by rw [getElem!_set_other dk k j _ (by omega), h.high j (by omega)]
theorem CInv.skip {ef : α → α → Bool} {d dk : Array α} {m k : Nat} (h : CInv ef d m k dk) (hk : keepsB ef d m = false) : CInv ef d (m + 1) k dk where
 size := h.size
 len := by rw [compB_succ, hk]; simpa using h.len
 lt := by have := h.lt; omega
 low := fun j hj => by rw [compB_succ, hk]; simpa using h.low j hj
 high := h.high
variable {enc : α → List Value} {k : Nat} {w0 W : World} {blk off : Nat} {dk : Array α}
end
theorem Rowed.cell {w w1 : World} {b off : Nat} {vals : List Value} (h : Rowed w w1 b off vals) (hb : b < w.heap.size) {o : Nat} (ho : off + vals.length ≤ o) (v : Value) : Rowed w (w1.setCell ⟨b, o, none⟩ v) b off vals := by
 rw [setCell_eq]
 refine ⟨h.os, h.tape, h.output, by simpa [mapBlock] using h.size, h.drawn, fun k hk hne => ?_, fun c e hc => ?_⟩
 ·simp only [mapBlock, Array.getElem?_modify]
  rw [if_neg (fun h => hne h.symm)]
  exact h.block k hk hne
 ·obtain ⟨c', h1, h2, h3⟩ := h.row c e hc
  refine ⟨c'.setIfInBounds o v, ?_, by simpa using h2, fun j u hu => ?_⟩
  ·simp only [mapBlock, Array.getElem?_modify, if_true]
   rw [h1]; rfl
  ·have hj := (List.getElem?_eq_some_iff.1 hu).1
   rw [Array.getElem?_setIfInBounds, if_neg (by omega)]
   exact h3 j u hu
theorem Rowed.take {w w1 : World} {b off : Nat} {vals : List Value} (h : Rowed w w1 b off vals) (n : Nat) : Rowed w w1 b off (vals.take n) :=
 ⟨h.os, h.tape, h.output, h.size, h.drawn, h.block, fun c e hc => by
  obtain ⟨c', h1, h2, h3⟩ := h.row c e hc
  refine ⟨c', h1, h2, fun j u hu => h3 j u ?_⟩
  rw [List.getElem?_take] at hu
  split at hu
  ·exact hu
  ·cases hu⟩
theorem Rowed.cells {w : World} {b off : Nat} {vals : List Value} (hb : b < w.heap.size) : ∀ (zs : List Value) {w1 : World} {o : Nat}, Rowed w w1 b off vals → off + vals.length ≤ o → Rowed w (w1.setCells b o zs) b off vals
 | [], _, _, h, _ => h
 | z :: zs, w1, o, h, ho => Rowed.cells hb zs (h.cell hb ho z) (by omega)
section
variable {α : Type} [Inhabited α] {enc : α → List Value} {k : Nat} {w0 W : World} {blk off : Nat} {dk : Array α}
theorem SWK_rowed (h : SWK enc k w0 blk off dk W) (hblk : blk < w0.heap.size) (hF : ∀ c e, w0.heap[blk]? = some (.cells c e (0, 0)) → off + dk.size * k ≤ c.size) : Rowed w0 W blk off (flatK enc k dk).toList := by
 obtain ⟨n, os, rfl⟩ := h
 exact rowed_put hblk fun c e hc => by rw [size_flatK]; exact hF c e hc
theorem SWK_cut (h : SWK enc k w0 blk off dk W) (hblk : blk < w0.heap.size) (hF : ∀ c e, w0.heap[blk]? = some (.cells c e (0, 0)) → off + dk.size * k ≤ c.size) {n : Nat} (zs : List Value) : Rowed w0 (W.setCells blk (off + n * k) zs) blk off ((flatK enc k dk).toList.take (n * k)) :=
 Rowed.cells hblk zs ((SWK_rowed h hblk hF).take _) (by rw [List.length_take]; omega)
end
def CompOut {α : Type} [Inhabited α] (enc : α → List Value) (k : Nat) (ef : α → α → Bool) (d : Array α) (w w' : World) (blk off m : Nat) : Prop :=
 ∃ dk : Array α, dk.size = d.size ∧ m ≤ d.size ∧ (compB ef d d.size).length = m ∧ (∀ j, j < m → (compB ef d d.size)[j]? = some dk[j]!) ∧ Rowed w w' blk off ((flatK enc k dk).toList.take (m * k))
theorem CompOut.all {α : Type} [Inhabited α] {enc : α → List Value} {k : Nat} {ef : α → α → Bool} {d : Array α} {w W : World} {blk off : Nat} (hblk : blk < w.heap.size) (hF : ∀ c e, w.heap[blk]? = some (.cells c e (0, 0)) → off + d.size * k ≤ c.size) (hW : SWK enc k w blk off d W) (hall : ∀ j, j < d.size → keepsB ef d j = true) : CompOut enc k ef d w W blk off d.size := by
 have e : compB ef d d.size = d.toList := by rw [compB_all ef d _ hall, range_get]
 refine ⟨d, rfl, Nat.le_refl _, by rw [e]; simp, fun j hj => ?_, (SWK_rowed hW hblk hF).take _⟩
 rw [e, getElem!_pos d j hj]; simp [hj]
theorem CompOut.cut {α : Type} [Inhabited α] {enc : α → List Value} {k : Nat} {ef : α → α → Bool} {d dk : Array α} {w W : World} {blk off m : Nat} (hblk : blk < w.heap.size) (hF : ∀ c e, w.heap[blk]? = some (.cells c e (0, 0)) → off + d.size * k ≤ c.size) (hW : SWK enc k w blk off dk W) (hI : CInv ef d d.size m dk) (l : List Value) : CompOut enc k ef d w (W.setCells blk (off + m * k) l) blk off m :=
 ⟨dk, hI.size, Nat.le_of_lt hI.lt, hI.len, hI.low, SWK_cut hW hblk (fun c e hc => by rw [hI.size]; exact hF c e hc) l⟩
end Go.Proofs.YtcjdfeafcmfgpaaGreatD
namespace Go.Proofs.YtcjdfeafcmfgpaaGreatD
open Go Go.RowKit Go.Shelf Go.Sort
section
variable {P : Program} {β : Type}
end
end Go.Proofs.YtcjdfeafcmfgpaaGreatD
