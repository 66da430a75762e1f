/- A new block; a cell that is written. -/
import Derived.Test.YtiplgkbgkmomlaaD7
set_option linter.unusedVariables false
set_option linter.unusedSimpArgs false
namespace Go.Proofs.YtiplgkbgkmomlaaD
open Go

theorem obOf_append : ∀ (g : List (Option Obj)) (x : Option Obj) (i : Nat), obOf (g ++ [x]) i = if i = g.length then x else obOf g i
  | [], x, 0 => by simp [obOf]
  | [], x, i + 1 => by simp [obOf]
  | o :: g, x, 0 => by simp [obOf]
  | o :: g, x, i + 1 => by simp [obOf, obOf_append g x i]
theorem obOf_set : ∀ (g : List (Option Obj)) (k : Nat) (x : Option Obj) (i : Nat), obOf (setOb g k x) i = if i = k ∧ k < g.length then x else obOf g i
  | [], k, x, i => by simp [setOb, obOf]
  | o :: g, 0, x, 0 => by simp [setOb, obOf]
  | o :: g, 0, x, i + 1 => by simp [setOb, obOf]
  | o :: g, k + 1, x, 0 => by simp [setOb, obOf]
  | o :: g, k + 1, x, i + 1 => by simp [setOb, obOf, obOf_set g k x i]
theorem setOb_length : ∀ (g : List (Option Obj)) (k : Nat) (x : Option Obj), (setOb g k x).length = g.length
  | [], _, _ => rfl
  | _ :: _, 0, _ => rfl
  | _ :: g, k + 1, x => by simp [setOb, setOb_length g k x]

theorem ObR.mono {E E' : Env} {i : Nat} {ob : Obj} (hm : Mono E E') (hρ : E'.ρ i = E.ρ i) (hk : Kept E E' [i]) (h : ObR E i ob) : ObR E' i ob := by
  obtain ⟨bx, cs⟩ := ob
  cases bx with
  | true =>
    obtain ⟨c, e, hh, h0, hl, hr⟩ := h
    obtain ⟨h1, h2⟩ := hk _ [] hl
    exact ⟨c, e, by rw [hρ, h2]; exact hh, by rw [hρ]; exact h0, by rw [hρ]; exact h1, by rw [hρ]; exact Rrow.mono hm (noneKM _ _) h2 hr⟩
  | false =>
    rcases h with h | ⟨c, e, hh, hl, hr⟩
    · exact .inl h
    · obtain ⟨h1, h2⟩ := hk _ [] hl
      exact .inr ⟨c, e, by rw [hρ, h2]; exact hh, by rw [hρ]; exact h1, by rw [hρ]; exact Rrow.mono hm.bare (fun q hq b r hb => by cases hq; exact hk b r hb) h2 hr⟩

def addBlock (w : World) (c : Array Value) (e : TypeId) : World := { w with heap := w.heap.push (.cells c e) }
def Env.push (E : Env) (c : Array Value) (e : TypeId) (ob : Obj) : Env :=
  { w := addBlock E.w c e, o := fun b => if b = E.w.heap.size then some [E.n] else E.o b, ρ := fun i => if i = E.n then (E.w.heap.size, 0) else E.ρ i,
    g := fun i => if i = E.n then some ob else E.g i, n := E.n + 1, okb := fun b => (if b = E.w.heap.size then some [E.n] else E.o b) = none }

section
variable {P : Program} {Γ : Tab} {C : Ctx} {E : Env} {s : St} {a : Act} {o : Oper} {K : V → St → Prop}

theorem heap_push_lt (w : World) (c : Array Value) (e : TypeId) {b : Nat} (h : b < w.heap.size) : (addBlock w c e).heap[b]? = w.heap[b]? := by
  simp only [addBlock]
  rw [Array.getElem?_push_lt h, Array.getElem?_eq_getElem h]
theorem heap_push_new (w : World) (c : Array Value) (e : TypeId) : (addBlock w c e).heap[w.heap.size]? = some (.cells c e (0, 0)) := by
  show (w.heap.push (.cells c e))[w.heap.size]? = _
  rw [Array.getElem?_push, if_pos rfl]
theorem heap_lt {w : World} {b : Nat} {x : Go.Obj} (h : w.heap[b]? = some x) : b < w.heap.size := by
  exact (Array.getElem?_eq_some_iff.1 h).1

theorem row_heap (hR : Rel C E s a) {i j : Nat} (h : isTr E.g i j) : (E.ρ i).1 < E.w.heap.size := by
  obtain ⟨cs, sz, n, r, hg, hj⟩ := h
  rw [hR.g] at hg
  rcases hR.ob i _ hg with h0 | ⟨c, e, hh, _⟩
  · rw [h0] at hj; simp at hj
  · exact heap_lt hh

theorem mono_push (hR : Rel C E s a) (c : Array Value) (e : TypeId) (ob : Obj) : Mono E (E.push c e ob) := by
  refine ⟨by simp [Env.push, addBlock], fun b hb hok => ?_, Nat.le_succ _, fun i hi hl => ?_, fun i j hi ht => ?_⟩
  · have hne : b ≠ E.w.heap.size := Nat.ne_of_lt hb
    rw [hR.okb] at hok
    exact ⟨by simp only [Env.push, if_neg hne]; exact hok, heap_push_lt _ _ _ hb⟩
  · have hne : i ≠ E.n := Nat.ne_of_lt hi
    simp only [Env.push, if_neg hne] at hl ⊢
    refine ⟨hl, trivial, fun ho => ?_, fun c' e' hh => ⟨c', ?_, rfl⟩⟩
    · rw [if_neg (Nat.ne_of_lt (hR.lab _ _ ho).1)]
      exact ho
    · rw [heap_push_lt _ _ _ (heap_lt hh)]
      exact hh
  · have hne : i ≠ E.n := Nat.ne_of_lt hi
    have ht' : isTr E.g i j := by
      obtain ⟨cs, sz, n, r, hg, hj⟩ := ht
      simp only [Env.push, if_neg hne] at hg
      exact ⟨cs, sz, n, r, hg, hj⟩
    exact ⟨ht', cell_heap (heap_push_lt _ _ _ (row_heap hR ht'))⟩
theorem kept_push (hR : Rel C E s a) (c : Array Value) (e : TypeId) (ob : Obj) (q : List Nat) : Kept E (E.push c e ob) q := fun b r hb => by
  have hlt := (hR.lab _ _ hb).1
  exact ⟨by simp only [Env.push, if_neg (Nat.ne_of_lt hlt)]; exact hb, heap_push_lt _ _ _ hlt⟩
theorem fr_push {w : World} (h : Fr C w) (c : Array Value) (e : TypeId) : Fr C (addBlock w c e) :=
  ⟨h.os, h.tape, h.output, by simp only [addBlock, Array.size_push]; exact Nat.le_succ_of_le h.size, fun k hk hl => (heap_push_lt _ _ _ (Nat.lt_of_lt_of_le hk h.size)).trans (h.block k hk hl), fun b c' e' hb => by
    obtain ⟨c1, h1, h2⟩ := h.shape b c' e' hb
    exact ⟨c1, (heap_push_lt _ _ _ (heap_lt h1)).trans h1, h2⟩⟩

/-- A new block under a new object's name. -/
theorem rel_push (hR : Rel C E s a) {c : Array Value} {e : TypeId} {ob : Obj} (hob : ObR (E.push c e ob) E.n ob) : Rel C (E.push c e ob) (s.add ob) a := by
  have hm := mono_push hR c e ob
  refine ⟨hR.size, hR.nd, fun k => (hR.slot k).slot hm, ?_, ?_, ?_, rfl, ?_, fr_push hR.fr c e, fun b hb hl => by have := hR.fr.size; simp only [Env.push]; rw [if_neg (by omega)]; exact hR.old b hb hl, hR.pin.mono hm⟩
  · funext i
    simp only [Env.push, St.ob, St.add, obOf_append, hR.n]
    rw [hR.g]
    rfl
  · simp [Env.push, St.add, hR.n]
  · intro i x hx
    simp only [St.ob, St.add, obOf_append] at hx
    split at hx
    · rename_i hi
      cases hx
      rw [hi, ← hR.n]
      exact hob
    · have hx' : s.ob i = some x := hx
      have hlt := ob_n hR hx'
      exact ObR.mono hm (by simp only [Env.push, if_neg (Nat.ne_of_lt hlt)]) (kept_push hR c e ob _) (hR.ob i x hx')
  · intro b p hp
    simp only [Env.push] at hp
    split at hp
    · rename_i hb
      subst hb
      exact ⟨by simp [Env.push, addBlock], .inr (.inl hR.fr.size)⟩
    · obtain ⟨h1, h2⟩ := hR.lab b p hp
      exact ⟨by simp only [Env.push, addBlock, Array.size_push]; omega, h2⟩

theorem cellAt_push (w : World) (c : Array Value) (e : TypeId) (k : Nat) : (addBlock w c e).cell? ⟨w.heap.size, k, none⟩ = c[k]? := by
  simp [World.cell?, heap_push_new]
theorem row_of_vals (hR : Rel C E s a) {cs : List V} {c : Array Value} {e : TypeId} {ob : Obj} (h : Rvs E .none cs c.toList) : Rrow (E.push c e ob) .none E.w.heap.size 0 0 cs := by
  refine Rrow_mk fun k v hk => ?_
  obtain ⟨x, hx, hr⟩ := Rvs_get h k v hk
  refine ⟨x, ?_, hr.slot (mono_push hR c e ob)⟩
  rw [Nat.zero_add]
  exact (cellAt_push _ _ _ _).trans (by simpa using hx)
theorem obR_new_box (hR : Rel C E s a) {cs : List V} {c : Array Value} {e : TypeId} (h : Rvs E .none cs c.toList) : ObR (E.push c e ⟨true, cs⟩) E.n ⟨true, cs⟩ := by
  refine ⟨c, e, ?_, ?_, ?_, ?_⟩
  · simp only [Env.push, if_true]; exact heap_push_new _ _ _
  · simp [Env.push]
  · simp [Env.push]
  · have := row_of_vals (e := e) (ob := ⟨true, cs⟩) hR h
    simpa only [Env.push, if_true] using this

theorem cellsV_ok (hR : Rel C E s a) {v : V} {cs : List V} {x : Value} (h : cellsV s v = some cs) (hv : Rv E .none v x) : Rvs E .none cs x.cells.toList := by
  have one : ∀ y : Value, y.oneCell' = true → Rv E .none v y → [v] = cs → x = y → Rvs E .none cs x.cells.toList := by
    intro y hy hvy hcs hxy
    subst hcs
    subst hxy
    have : x.cells = #[x] := by cases x <;> first | rfl | simp [Value.oneCell'] at hy
    rw [this]
    exact ⟨hvy, trivial⟩
  cases v <;> simp only [cellsV, Option.some.injEq, reduceCtorEq] at h
  case sc v => exact one x (by obtain ⟨rfl, h1⟩ := hv; exact h1) hv h rfl
  case ro n c => exact one x (by obtain ⟨A, cap, rfl, _⟩ := hv; rfl) hv h rfl
  case rp c => exact one x (by obtain ⟨b, off, rfl, _⟩ := hv; rfl) hv h rfl
  case fn f c => exact one x (by obtain ⟨xs, rfl, _⟩ := hv; rfl) hv h rfl
  case agg c =>
    subst h
    obtain ⟨xs, rfl, hr⟩ := hv
    simpa [Value.cells, Md.part] using hr
  case own i sz off n lo hi => exact one x (by obtain ⟨_, A, cap, rfl, _⟩ := hv; rfl) hv h rfl
  case sub i j => exact one x (by obtain ⟨_, ⟨A, n, cap, rfl⟩, _⟩ := hv; rfl) hv h rfl
  case ptr i off => exact one x (by obtain ⟨_, ad, rfl, _⟩ := hv; rfl) hv h rfl
  case sp i j off => exact one x (by obtain ⟨_, ad, rfl, _⟩ := hv; rfl) hv h rfl
theorem solid_one {E : Env} {m : Md} {v : V} {x : Value} (h : solid v = true) (hv : Rv E m v x) : x.oneCell' = true := by
  cases v <;> simp only [solid, reduceCtorEq] at h
  case sc => obtain ⟨rfl, h1⟩ := hv; exact h1
  case ro => obtain ⟨A, cap, rfl, _⟩ := hv; rfl
  case tr => obtain ⟨A, cap, rfl, _⟩ := hv; rfl
  case own => obtain ⟨_, A, cap, rfl, _⟩ := hv; rfl
  case sub => obtain ⟨_, ⟨A, n, cap, rfl⟩, _⟩ := hv; rfl
  case ptr => obtain ⟨_, ad, rfl, _⟩ := hv; rfl
  case sp => obtain ⟨_, ad, rfl, _⟩ := hv; rfl
  case rp => obtain ⟨b, off, rfl, _⟩ := hv; rfl
  case fn => obtain ⟨xs, rfl, _⟩ := hv; rfl

theorem ptr_new (hR : Rel C E s a) (c : Array Value) (e : TypeId) (ob : Obj) : Rv (E.push c e ob) .none (.ptr s.g.length 0) (.pointer (some ⟨E.w.heap.size, 0, none⟩)) := by
  rw [← hR.n]
  refine ⟨by simp [Env.push], _, rfl, fun _ => ?_⟩
  simp [Env.push]
theorem op_box {t : TypeId} {x : Operand} {cs : List V} (ho : o.op = .box t x) (hR : Rel C E s a) (hc : cellsV s (ev s x) = some cs) (h : K (.ptr s.g.length 0) (s.add ⟨true, cs⟩)) : OpOk P C E s a o K := by
  have hv := cellsV_ok hR hc (ev_ok hR x)
  refine opOk_of (E' := E.push (a.eval x).cells t ⟨true, cs⟩) (x := .pointer (some ⟨E.w.heap.size, 0, none⟩)) ?_ h (rel_push hR (obR_new_box hR hv)) (ptr_new hR _ _ _)
  simp only [execOp, ho]
  simp [Instr.box, newVar, newRow, Env.push, addBlock]
theorem op_alloc {t : TypeId} {ti : TI} (ho : o.op = .alloc t) (hR : Rel C E s a) (hT : TIOk P t ti) (h : K (.ptr s.g.length 0) (s.add ⟨true, ti.zero.map .sc⟩)) : OpOk P C E s a o K := by
  obtain ⟨i, z, hi, _, _, hz, hzc⟩ := hT.info
  have hall : ∀ l : List Value, (∀ v ∈ l, v.oneCell' = true) → Rvs E .none (l.map .sc) l := by
    intro l
    induction l with
    | nil => intro _; trivial
    | cons c l ih => intro hl; exact ⟨⟨rfl, hl c (by simp)⟩, ih fun v hv => hl v (by simp [hv])⟩
  have hv : Rvs E .none (ti.zero.map .sc) z.cells.toList := by rw [hzc]; exact hall _ hT.one
  refine opOk_of (E' := E.push z.cells t ⟨true, ti.zero.map .sc⟩) (x := .pointer (some ⟨E.w.heap.size, 0, none⟩)) ?_ h (rel_push hR (obR_new_box hR hv)) (ptr_new hR _ _ _)
  simp only [execOp, ho]
  simp [Instr.alloc, zeroValue, run_typeInfo hi, hz, newVar, newRow, Env.push, addBlock]
end
end Go.Proofs.YtiplgkbgkmomlaaD
