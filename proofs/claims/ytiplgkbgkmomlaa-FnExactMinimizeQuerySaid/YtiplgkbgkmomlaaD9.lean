/- A store. -/
import Derived.Test.YtiplgkbgkmomlaaD8
set_option linter.unusedVariables false
set_option linter.unusedSimpArgs false
namespace Go.Proofs.YtiplgkbgkmomlaaD
open Go

/-- w' is w with the values xs written from cell off of block b on. -/
structure Wrote (w w' : World) (b off : Nat) (xs : List Value) : Prop where
  os : w'.os = w.os
  tape : w'.tape = w.tape
  output : w'.output = w.output
  size : w'.heap.size = w.heap.size
  other : ∀ k, k ≠ b → w'.heap[k]? = w.heap[k]?
  row : ∀ c e, w.heap[b]? = some (.cells c e (0, 0)) → ∃ c', w'.heap[b]? = some (.cells c' e (0, 0)) ∧ c'.size = c.size ∧ ∀ k, c'[k]? = if off ≤ k ∧ k < off + xs.length then xs[k - off]? else c[k]?

theorem heap_other (w : World) (a : Addr) (u : Value) (k : Nat) (h : k ≠ a.block) : (w.setCell a u).heap[k]? = w.heap[k]? := by
  simp only [World.setCell]
  rw [Array.getElem?_modify, if_neg (fun he => h he.symm)]
theorem wrote_one {w : World} {b off : Nat} {c : Array Value} {e : TypeId} {v : Value} (hh : w.heap[b]? = some (.cells c e (0, 0))) (hl : off < c.size) : Wrote w (w.setCell ⟨b, off, none⟩ v) b off [v] := by
  refine ⟨rfl, rfl, rfl, by simp [World.setCell], fun k hk => heap_other w _ v k hk, fun c' e' hc => ?_⟩
  rw [hh] at hc
  cases hc
  refine ⟨c.setIfInBounds off v, ?_, by simp, fun k => ?_⟩
  · have hb : b < w.heap.size := heap_lt hh
    have hg : w.heap[b] = .cells c e (0, 0) := by rw [Array.getElem?_eq_getElem hb] at hh; exact Option.some.inj hh
    simp only [World.setCell]
    rw [Array.getElem?_eq_getElem (by simpa using hb)]
    simp [Array.getElem_modify, hg]
  · rw [Array.getElem?_setIfInBounds]
    by_cases hk : off = k
    · subst hk
      simp [hl]
    · rw [if_neg hk, if_neg (by simp; omega)]
theorem Wrote.then {w w1 w2 : World} {b off : Nat} {v : Value} {xs : List Value} (h1 : Wrote w w1 b off [v]) (h2 : Wrote w1 w2 b (off + 1) xs) : Wrote w w2 b off (v :: xs) := by
  refine ⟨h2.os.trans h1.os, h2.tape.trans h1.tape, h2.output.trans h1.output, h2.size.trans h1.size, fun k hk => (h2.other k hk).trans (h1.other k hk), fun c e hc => ?_⟩
  obtain ⟨c1, hc1, hs1, hk1⟩ := h1.row c e hc
  obtain ⟨c2, hc2, hs2, hk2⟩ := h2.row c1 e hc1
  refine ⟨c2, hc2, hs2.trans hs1, fun k => ?_⟩
  rw [hk2, hk1]
  by_cases ha : off + 1 ≤ k ∧ k < off + 1 + xs.length
  · rw [if_pos ha, if_pos ⟨by omega, by simp; omega⟩]
    obtain ⟨d, rfl⟩ : ∃ d, k = off + 1 + d := ⟨k - (off + 1), by omega⟩
    rw [show off + 1 + d - (off + 1) = d from by omega, show off + 1 + d - off = d + 1 from by omega, List.getElem?_cons_succ]
  · rw [if_neg ha]
    by_cases hb : k = off
    · subst hb
      rw [if_pos ⟨by omega, by simp⟩, if_pos ⟨by omega, by simp⟩]
      simp
    · rw [if_neg (by simp; omega), if_neg (by simp; omega)]
theorem frozen_no {w : World} {b off : Nat} {c : Array Value} {e : TypeId} (hh : w.heap[b]? = some (.cells c e (0, 0))) : w.frozen? ⟨b, off, none⟩ = false := by
  simp [World.frozen?, hh]
theorem storeCells_run (P : Program) : ∀ (xs : List Value) (w : World) (b off i : Nat) (c : Array Value) (e : TypeId), w.heap[b]? = some (.cells c e (0, 0)) → off + i + xs.length ≤ c.size → (∀ x ∈ xs, x.oneCell' = true) →
    ∃ w', (storeCells ⟨b, off, none⟩ xs i).run P w = .ok () w' ∧ Wrote w w' b (off + i) xs
  | [], w, b, off, i, c, e, hh, hl, ho => ⟨w, by simp [storeCells], rfl, rfl, rfl, rfl, fun _ _ => rfl, fun c' e' hc => ⟨c', hc, rfl, fun k => by rw [if_neg (by simp only [List.length_nil]; omega)]⟩⟩
  | x :: xs, w, b, off, i, c, e, hh, hl, ho => by
    simp only [List.length_cons] at hl
    have hlt : off + i < c.size := by omega
    have hcell : w.cell? ⟨b, off + i, none⟩ = some c[off + i] := by simp [World.cell?, hh, hlt]
    have h1 := wrote_one (v := x) hh hlt
    obtain ⟨c1, hc1, hs1, _⟩ := h1.row c e hh
    obtain ⟨w2, hr, h2⟩ := storeCells_run P xs _ b off (i + 1) c1 e hc1 (by omega) (fun y hy => ho y (by simp [hy]))
    refine ⟨w2, ?_, ?_⟩
    · rw [storeCells]
      simp only [Sem.run_bind, addr_add]
      rw [run_store P w _ x _ (ho x (by simp)), hcell]
      simp only [frozen_no hh, Bool.false_eq_true, if_false, Result.andThen_ok]
      exact hr
    · exact h1.then (by rw [Nat.add_assoc]; exact h2)

theorem setC_get {cs vs : List V} {off : Nat} (h : off + vs.length ≤ cs.length) (k : Nat) : (setC cs off vs)[k]? = if off ≤ k ∧ k < off + vs.length then vs[k - off]? else cs[k]? := by
  have gen : (cs.take off ++ vs ++ cs.drop (off + vs.length))[k]? = if off ≤ k ∧ k < off + vs.length then vs[k - off]? else cs[k]? := by
    have ht : (cs.take off).length = off := by simp; omega
    by_cases h1 : k < off
    · rw [if_neg (by omega), List.append_assoc, List.getElem?_append_left (by omega), List.getElem?_take, if_pos h1]
    · by_cases h2 : k < off + vs.length
      · rw [if_pos (by omega), List.append_assoc, List.getElem?_append_right (by omega), ht, List.getElem?_append_left (by omega)]
      · rw [if_neg (by omega), List.getElem?_append_right (by simp; omega), List.getElem?_drop]
        congr 1
        simp
        omega
  match vs, h, gen with
  | [], h, gen => exact gen
  | [v], h, gen =>
    simp only [setC]
    rw [List.getElem?_set]
    simp only [List.length_cons, List.length_nil] at h ⊢
    by_cases hk : off = k
    · subst hk
      rw [if_pos rfl, if_pos (by omega), if_pos (by omega)]
      simp
    · rw [if_neg hk, if_neg (by omega)]
  | v :: v' :: vs, h, gen => exact gen
theorem setC_len {cs vs : List V} {off : Nat} (h : off + vs.length ≤ cs.length) : (setC cs off vs).length = cs.length := by
  unfold setC
  split
  · simp
  · simp; omega

section
variable {P : Program} {Γ : Tab} {C : Ctx} {E : Env} {s : St} {a : Act} {o : Oper} {K : V → St → Prop}

def Env.wr (E : Env) (w' : World) (i : Nat) (ob : Obj) : Env := { E with w := w', g := fun j => if j = i then some ob else E.g j }

theorem wr_mono {w' : World} {i b off : Nat} {xs : List Value} {ob ob0 : Obj} (hR : Rel C E s a) (hw : Wrote E.w w' b off xs) (hi : s.ob i = some ob0) (hb : b = (E.ρ i).1) (hlab : E.o b = some [i])
    (hsub : ∀ k, isTr (fun j => if j = i then some ob else E.g j) i k → isTr E.g i k ∧ w'.cell? ⟨b, (E.ρ i).2 + k, none⟩ = E.w.cell? ⟨b, (E.ρ i).2 + k, none⟩) : Mono E (E.wr w' i ob) := by
  refine ⟨Nat.le_of_eq hw.size.symm, fun b' hb' hok => ⟨hok, hw.other b' ?_⟩, Nat.le_refl _, fun j hj hl => ?_, fun j k hj ht => ?_⟩
  · intro he
    rw [hR.okb, he, hlab] at hok
    cases hok
  · refine ⟨?_, rfl, id, fun c e hc => ?_⟩
    · by_cases hji : j = i
      · rw [hji]; exact ob_live hR hi
      · simpa [Env.wr, hji] using hl
    · by_cases he : (E.ρ j).1 = b
      · rw [he] at hc ⊢
        obtain ⟨c', h1, h2, _⟩ := hw.row c e hc
        exact ⟨c', h1, h2⟩
      · exact ⟨c, by rw [← hc]; exact hw.other _ he, rfl⟩
  · by_cases hji : j = i
    · subst hji
      have := hsub k ht
      rw [hb] at this
      exact this
    · have ht' : isTr E.g j k := by
        obtain ⟨cs, sz, n, r, hg, hk⟩ := ht
        simp only [Env.wr, if_neg hji] at hg
        exact ⟨cs, sz, n, r, hg, hk⟩
      refine ⟨ht', cell_heap (hw.other _ ?_)⟩
      obtain ⟨cs, sz, n, r, hg, hk⟩ := ht'
      rw [hR.g] at hg
      rcases hR.ob j _ hg with h0 | ⟨c, e, _, hl, _⟩
      · rw [h0] at hk; simp at hk
      · intro he
        rw [he, hlab] at hl
        simp at hl
        exact hji hl.symm
theorem wr_kept {w' : World} {i b off : Nat} {xs : List Value} {ob : Obj} (hw : Wrote E.w w' b off xs) (hlab : E.o b = some [i]) {q : List Nat} (hq : ∀ r, q ++ r ≠ [i]) : Kept E (E.wr w' i ob) q := fun b' r hb' => by
  refine ⟨hb', hw.other b' fun he => ?_⟩
  rw [he, hlab] at hb'
  exact hq r (Option.some.inj hb').symm
theorem put_ob {i : Nat} {ob ob0 : Obj} (hi : s.ob i = some ob0) (j : Nat) : (s.put i (some ob)).ob j = if j = i then some ob else s.ob j := by
  have hlt : i < s.g.length := obOf_lt hi
  simp only [St.ob, St.put, obOf_set]
  by_cases hj : j = i
  · rw [if_pos ⟨hj, hlt⟩, if_pos hj]
  · rw [if_neg (fun h => hj h.1), if_neg hj]
theorem fr_wrote {w w' : World} {i b off : Nat} {xs : List Value} (h : Fr C w) (hw : Wrote w w' b off xs) (hb : C.w0.heap.size ≤ b ∨ C.lent b) : Fr C w' :=
  ⟨hw.os.trans h.os, hw.tape.trans h.tape, hw.output.trans h.output, by rw [hw.size]; exact h.size, fun k hk hl => (hw.other k (fun he => by subst he; rcases hb with h1 | h1; omega; exact hl h1)).trans (h.block k hk hl), fun b' c e hc => by
    obtain ⟨c1, h1, h2⟩ := h.shape b' c e hc
    by_cases hbb : b' = b
    · subst hbb
      obtain ⟨c2, h3, h4, _⟩ := hw.row c1 e h1
      exact ⟨c2, h3, h4.trans h2⟩
    · exact ⟨c1, (hw.other _ hbb).trans h1, h2⟩⟩
theorem rel_wr {w' : World} {i b off : Nat} {xs : List Value} {ob ob0 : Obj} (hR : Rel C E s a) (hw : Wrote E.w w' b off xs) (hi : s.ob i = some ob0) (hb : b = (E.ρ i).1) (hlab : E.o b = some [i])
    (hsub : ∀ k, isTr (fun j => if j = i then some ob else E.g j) i k → isTr E.g i k ∧ w'.cell? ⟨b, (E.ρ i).2 + k, none⟩ = E.w.cell? ⟨b, (E.ρ i).2 + k, none⟩)
    (hob : ObR (E.wr w' i ob) i ob) : Rel C (E.wr w' i ob) (s.put i (some ob)) a := by
  have hm := wr_mono hR hw hi hb hlab hsub
  refine ⟨hR.size, hR.nd, fun k => (hR.slot k).slot hm, ?_, ?_, fun j x hx => ?_, hR.okb, fun b' p hp => ?_, fr_wrote (i := i) hR.fr hw ((hR.lab _ _ hlab).2.resolve_left (by simp)), hR.old, hR.pin.mono hm⟩
  · funext j
    rw [put_ob hi]
    simp only [Env.wr, hR.g]
  · simp [Env.wr, St.put, setOb_length, hR.n]
  · rw [put_ob hi] at hx
    by_cases hji : j = i
    · rw [if_pos hji] at hx
      cases hx
      subst hji
      exact hob
    · rw [if_neg hji] at hx
      exact ObR.mono hm rfl (wr_kept hw hlab (fun r hr => hji (by simp at hr; exact hr.1))) (hR.ob j x hx)
  · obtain ⟨h1, h2⟩ := hR.lab b' p hp
    exact ⟨by show b' < w'.heap.size; rw [hw.size]; exact h1, h2⟩

theorem Rvs_get' {E : Env} : ∀ {cs : List V} {xs : List Value}, Rvs E .none cs xs → ∀ (k : Nat) (x : Value), xs[k]? = some x → ∃ c, cs[k]? = some c ∧ Rv E .none c x
  | c :: cs, x :: xs, h, 0, x', hk => by simp at hk; subst hk; exact ⟨c, rfl, h.1⟩
  | c :: cs, x :: xs, h, k + 1, x', hk => by
    obtain ⟨c', hx, hr⟩ := Rvs_get' (cs := cs) (xs := xs) h.2 k x' (by simpa using hk)
    exact ⟨c', by simpa using hx, hr⟩
  | [], [], h, k, x', hk => by simp at hk
  | [], _ :: _, h, k, x', hk => h.elim
  | _ :: _, [], h, k, x', hk => by simp at hk
theorem storeVar_run {t : TypeId} {ti : TI} (hT : TIOk P t ti) {v : Value} {w : World} {b off : Nat} {c : Array Value} {e : TypeId} (hl : v.cells.size = ti.size) (hh : w.heap[b]? = some (.cells c e (0, 0))) (hs : off + ti.size ≤ c.size) (ho : ∀ x ∈ v.cells.toList, x.oneCell' = true) :
    ∃ w', (storeVar t ⟨b, off, none⟩ v).run P w = .ok () w' ∧ Wrote w w' b off v.cells.toList := by
  obtain ⟨w', hr, hw⟩ := storeCells_run P v.cells.toList w b off 0 c e hh (by simp [hl]; omega) ho
  exact ⟨w', by simp [storeVar, run_sizeOf hT, hl, hr], hw⟩
theorem row_size {E : Env} {m : Md} {b off j : Nat} {cs : List V} {c : Array Value} {e : TypeId} (h : Rrow E m b off j cs) (hh : E.w.heap[b]? = some (.cells c e (0, 0))) (k : Nat) (hk : k < cs.length) : off + k < c.size := by
  obtain ⟨v, hv, _⟩ := Rrow_get h k _ (List.getElem?_eq_getElem hk)
  simp only [World.cell?, hh] at hv
  by_cases hlt : off + k < c.size
  · exact hlt
  · simp [hlt] at hv
theorem wrote_cell {w w' : World} {b off : Nat} {xs : List Value} {c : Array Value} {e : TypeId} (hw : Wrote w w' b off xs) (hh : w.heap[b]? = some (.cells c e (0, 0))) (k : Nat) :
    w'.cell? ⟨b, k, none⟩ = if off ≤ k ∧ k < off + xs.length then xs[k - off]? else w.cell? ⟨b, k, none⟩ := by
  obtain ⟨c', hc', _, hk⟩ := hw.row c e hh
  simp only [World.cell?, hh, hc']
  exact hk k

theorem op_store_box {t : TypeId} {ti : TI} {x y : Operand} {i off : Nat} {cs vs : List V} (ho : o.op = .store t x y) (hR : Rel C E s a) (hT : TIOk P t ti) (hx : ev s x = .ptr i off) (hy : cellsV s (ev s y) = some vs) (hl : vs.length = ti.size) (hob : s.ob i = some ⟨true, cs⟩)
    (hs : vs.all solid = true) (hle : off + ti.size ≤ cs.length) (h : K .any (s.put i (some ⟨true, setC cs off vs⟩))) : OpOk P C E s a o K := by
  have hpx := ev_ptr hR hx hob
  have hvy := cellsV_ok hR hy (ev_ok hR y)
  obtain ⟨c, e, hh, h0, hlab, hrow⟩ := hR.ob i _ hob
  have hlen : (a.eval y).cells.size = ti.size := by
    have := Rvs_len hvy
    simp at this
    omega
  have hone : ∀ z ∈ (a.eval y).cells.toList, z.oneCell' = true := by
    intro z hz
    obtain ⟨k, hk⟩ := List.getElem?_of_mem hz
    obtain ⟨c', hc', hr⟩ := Rvs_get' hvy k z hk
    exact solid_one (List.all_eq_true.1 hs c' (List.mem_of_getElem? hc')) hr
  have hcs : off + ti.size ≤ c.size := by
    rcases Nat.eq_zero_or_pos ti.size with hz | hz
    · rcases Nat.eq_zero_or_pos off with h1 | h1
      · omega
      · have := row_size hrow hh (off - 1) (by omega); omega
    · have := row_size hrow hh (off + ti.size - 1) (by omega); omega
  obtain ⟨w', hrun, hw⟩ := storeVar_run (P := P) hT hlen hh hcs hone
  have hxl : (a.eval y).cells.toList.length = vs.length := (Rvs_len hvy).symm
  have hnt : ∀ k, isTr (fun j => if j = i then some ⟨true, setC cs off vs⟩ else E.g j) i k → isTr E.g i k ∧ w'.cell? ⟨(E.ρ i).1, (E.ρ i).2 + k, none⟩ = E.w.cell? ⟨(E.ρ i).1, (E.ρ i).2 + k, none⟩ := by
    rintro k ⟨_, _, _, _, hg, _⟩
    simp at hg
  have hm := wr_mono hR hw hob rfl hlab hnt
  intro next Q hn
  have hrun' : (execOp a.eval o).run P E.w = .ok .skip w' := by
    simp only [execOp, ho]
    rw [hpx, h0, Nat.zero_add]
    simp [Instr.storeAt, Instr.sureAddr, hrun]
  rw [hrun']
  refine hn .any _ (E.wr w' i ⟨true, setC cs off vs⟩) undef h (rel_wr hR hw hob rfl hlab hnt ?_) trivial
  obtain ⟨c', hc', hcsz, hck⟩ := hw.row c e hh
  refine ⟨c', e, hc', h0, hlab, Rrow_mk fun k v hk => ?_⟩
  rw [setC_get (by omega)] at hk
  rw [Nat.zero_add]
  have hwc := wrote_cell hw hh k
  by_cases hin : off ≤ k ∧ k < off + vs.length
  · rw [if_pos hin] at hk
    obtain ⟨z, hz, hr⟩ := Rvs_get hvy (k - off) v hk
    exact ⟨z, by show w'.cell? ⟨(E.ρ i).1, k, none⟩ = _; rw [hwc, if_pos (by omega)]; exact hz, hr.slot hm⟩
  · rw [if_neg hin] at hk
    obtain ⟨z, hz, hr⟩ := Rrow_get hrow k v hk
    exact ⟨z, by show w'.cell? ⟨(E.ρ i).1, k, none⟩ = _; rw [hwc, if_neg (by omega)]; simpa using hz, Rv.slot hm hr⟩

theorem op_store_row {t : TypeId} {ti : TI} {x y : Operand} {i off : Nat} {cs vs r : List V} (ho : o.op = .store t x y) (hR : Rel C E s a) (hT : TIOk P t ti) (hx : ev s x = .ptr i off) (hy : cellsV s (ev s y) = some vs) (hl : vs.length = ti.size) (hob : s.ob i = some ⟨false, cs⟩)
    (hs : vs.all flat = true) (hr0 : takeN cs off ti.size = some r) (hz0 : ti.size ≠ 0) (h : K .any (s.put i (some ⟨false, setC cs off vs⟩))) : OpOk P C E s a o K := by
  have hpx := ev_ptr hR hx hob
  have hvy := cellsV_ok hR hy (ev_ok hR y)
  obtain ⟨hle, hreq, hrl⟩ := takeN_some hr0
  rcases hR.ob i _ hob with h0 | ⟨c, e, hh, hlab, hrow⟩
  · rw [h0] at hle; simp at hle; omega
  · have hlen : (a.eval y).cells.size = ti.size := by
      have := Rvs_len hvy
      simp at this
      omega
    have hsol : ∀ v : V, flat v = true → solid v = true := by intro v hv; cases v <;> simp_all [flat, solid]
    have hone : ∀ z ∈ (a.eval y).cells.toList, z.oneCell' = true := by
      intro z hz
      obtain ⟨k, hk⟩ := List.getElem?_of_mem hz
      obtain ⟨c', hc', hr⟩ := Rvs_get' hvy k z hk
      exact solid_one (hsol _ (List.all_eq_true.1 hs c' (List.mem_of_getElem? hc'))) hr
    have hcs : (E.ρ i).2 + off + ti.size ≤ c.size := by
      have := row_size hrow hh (off + ti.size - 1) (by omega); omega
    obtain ⟨w', hrun, hw⟩ := storeVar_run (P := P) (w := E.w) hT hlen hh hcs hone
    have hxl : (a.eval y).cells.toList.length = vs.length := (Rvs_len hvy).symm
    have hwc := wrote_cell hw hh
    have hnt : ∀ k, isTr (fun j => if j = i then some ⟨false, setC cs off vs⟩ else E.g j) i k → isTr E.g i k ∧ w'.cell? ⟨(E.ρ i).1, (E.ρ i).2 + k, none⟩ = E.w.cell? ⟨(E.ρ i).1, (E.ρ i).2 + k, none⟩ := by
      rintro k ⟨cs', sz, n, rr, hg, hk⟩
      simp only [if_true, Option.some.injEq, Go.Proofs.YtiplgkbgkmomlaaD.Obj.mk.injEq, true_and] at hg
      subst hg
      rw [setC_get (by omega)] at hk
      by_cases hin : off ≤ k ∧ k < off + vs.length
      · rw [if_pos hin] at hk
        have := List.all_eq_true.1 hs _ (List.mem_of_getElem? hk)
        simp [flat] at this
      · rw [if_neg hin] at hk
        refine ⟨⟨cs, sz, n, rr, by rw [hR.g]; exact hob, hk⟩, ?_⟩
        rw [hwc, if_neg (by omega)]
    have hm := wr_mono hR hw hob rfl hlab hnt
    intro next Q hn
    have hrun' : (execOp a.eval o).run P E.w = .ok .skip w' := by
      simp only [execOp, ho]
      rw [hpx]
      simp [Instr.storeAt, Instr.sureAddr, hrun]
    rw [hrun']
    refine hn .any _ (E.wr w' i ⟨false, setC cs off vs⟩) undef h (rel_wr hR hw hob rfl hlab hnt ?_) trivial
    obtain ⟨c', hc', hcsz, hck⟩ := hw.row c e hh
    refine .inr ⟨c', e, hc', hlab, Rrow_mk fun k v hk => ?_⟩
    rw [setC_get (by omega)] at hk
    by_cases hin : off ≤ k ∧ k < off + vs.length
    · rw [if_pos hin] at hk
      obtain ⟨z, hz, hr⟩ := Rvs_get hvy (k - off) v hk
      have hfl := List.all_eq_true.1 hs _ (List.mem_of_getElem? hk)
      refine ⟨z, ?_, flat_bare hfl (hr.slot hm)⟩
      show w'.cell? ⟨(E.ρ i).1, (E.ρ i).2 + k, none⟩ = _
      rw [hwc, if_pos (by omega), show (E.ρ i).2 + k - ((E.ρ i).2 + off) = k - off from by omega]
      exact hz
    · rw [if_neg hin] at hk
      obtain ⟨z, hz, hr⟩ := Rrow_get hrow k v hk
      refine ⟨z, ?_, Rv.mono hm.bare (fun q hq b r hb => ?_) (fun q j hq _ => by cases hq) hr⟩
      · show w'.cell? ⟨(E.ρ i).1, (E.ρ i).2 + k, none⟩ = _
        rw [hwc, if_neg (by omega)]
        exact hz
      · cases hq
        exact wr_kept (ob := ⟨false, setC cs off vs⟩) hw hlab (q := [i] ++ [0 + k]) (fun r' hr' => by simp at hr') b r hb
end
end Go.Proofs.YtiplgkbgkmomlaaD
