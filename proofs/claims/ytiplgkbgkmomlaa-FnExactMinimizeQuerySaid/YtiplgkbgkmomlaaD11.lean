/- Literals of structs and rows; an object that is taken out and put back. -/
import Derived.Test.YtiplgkbgkmomlaaD10b
set_option linter.unusedVariables false
set_option linter.unusedSimpArgs false
namespace Go.Proofs.YtiplgkbgkmomlaaD
open Go

section
variable {P : Program} {Γ : Tab} {C : Ctx} {E : Env} {s : St} {a : Act} {o : Oper} {K : V → St → Prop}

/-- The world's count of answers goes on. -/
def Env.drw (E : Env) : Env := { E with w := { E.w with drawn := E.w.drawn + 1 } }
theorem drw_mono (E : Env) : Mono E E.drw := ⟨Nat.le_refl _, fun _ _ h => ⟨h, rfl⟩, Nat.le_refl _, fun _ _ h => ⟨h, rfl, id, fun c e h => ⟨c, h, rfl⟩⟩, fun _ _ _ h => ⟨h, rfl⟩⟩
theorem rel_drw (hR : Rel C E s a) : Rel C E.drw s a :=
  ⟨hR.size, hR.nd, fun k => (hR.slot k).slot (drw_mono E), hR.g, hR.n, fun i ob h => ObR.mono (drw_mono E) rfl (fun _ _ h => ⟨h, rfl⟩) (hR.ob i ob h), hR.okb, hR.lab, ⟨hR.fr.os, hR.fr.tape, hR.fr.output, hR.fr.size, hR.fr.block, hR.fr.shape⟩, hR.old, hR.pin.mono (drw_mono E)⟩

theorem mapM_places {w : World} : ∀ {fs : List Field} {sz : List Nat}, fs.map (fun f => P.cellsOf f.type) = sz → (∀ f ∈ fs, ∃ i, P.info? f.type = some i ∧ i.size ≠ 0) →
    (fs.mapM (fun f => (do pure (f.offset, ← sizeOf f.type) : Sem (Nat × Nat)))).run P w = .ok (fs.map fun f => (f.offset, P.cellsOf f.type)) w
  | [], sz, _, _ => by simp
  | f :: fs, sz, h, hi => by
    obtain ⟨i, hi1, _⟩ := hi f (by simp)
    have ih := mapM_places (w := w) (fs := fs) rfl (fun g hg => hi g (by simp [hg]))
    have hc : P.cellsOf f.type = i.size := by simp [Program.cellsOf, hi1]
    have hs : (sizeOf f.type).run P w = .ok i.size w := by simp [sizeOf, run_typeInfo hi1]
    simp only [List.mapM_cons, Sem.run_bind, hs, Result.andThen_ok, Sem.run_pure, List.map_cons, hc]
    rw [ih]
    rfl

theorem op_build {t : TypeId} {ti : TI} {parts : Array (Nat × Operand)} {cs : List V} (ho : o.op = .build t parts) (hR : Rel C E s a) (hT : TIOk P t ti) (hst : ti.fields ≠ []) (hf : fillV s (places ti.fields ti.fsz) (ti.zero.map .sc) (partsV s parts.toList) = some cs) (h : K (.agg cs) s) : OpOk P C E s a o K := by
  obtain ⟨i, z, hi, _, _, hz, hzc⟩ := hT.info
  obtain ⟨ds, hd, hk⟩ := hT.desc
  have hall : ∀ l : List Value, (∀ v ∈ l, v.oneCell' = true) → Rvs E .none (l.map .sc) l := by
    intro l
    induction l with
    | nil => intro _; trivial
    | cons c l ih => intro hl; exact ⟨⟨rfl, hl c (by simp)⟩, ih fun v hv => hl v (by simp [hv])⟩
  have hv : Rvs E .none (ti.zero.map .sc) z.cells.toList := by rw [hzc]; exact hall _ hT.one
  obtain ⟨c', hc', hr'⟩ := fill_ok hR hv hf
  cases ds <;> simp only [descOk] at hk <;> try exact absurd hk.2.2.1 hst
  rename_i fs
  obtain ⟨_, hag, hfs, hsz, hii, _⟩ := hk
  have hpl : (fs.mapM (fun f => (do pure (f.offset, ← sizeOf f.type) : Sem (Nat × Nat)))).run P E.w = .ok (fs.map fun f => (f.offset, P.cellsOf f.type)) E.w := by
    have hm := mapM_places (P := P) (w := E.w) (fs := fs.toList) hsz hii
    rw [Array.mapM_eq_mapM_toList]
    simp only [Sem.run_map, hm, Result.andThen_ok]
    congr 1
    apply Array.toList_inj.1
    rw [Array.toList_map]
  have hplace : (fun i => (fs.map fun f => (f.offset, P.cellsOf f.type))[i]?) = places ti.fields ti.fsz := by
    funext j
    rw [← hfs, ← hsz]
    simp only [places, List.getElem?_map]
    cases hj : fs.toList[j]? with
    | none => simp at hj; simp [hj]
    | some f =>
      have : fs[j]? = some f := by simpa using hj
      simp [this]
  refine opOk_sem hR (c := Instr.build t (parts.map fun (i, x) => (i, a.eval x))) (x := .agg c') (by simp only [execOp, ho]) ?_ h ⟨c'.toList, by simp, hr'⟩
  have hp2 : (parts.map fun (i, x) => (i, a.eval x)).toList = parts.toList.map fun p => (p.1, a.eval p.2) := by simp
  simp only [Instr.build, zeroValue, Sem.run_bind, run_typeInfo hi, Result.andThen_ok, hz, Sem.run_pure, run_underlying hd, hpl, hplace, hp2, hc']

theorem repl_length : ∀ (n : Nat) (z : List V), (repl n z).length = n * z.length
  | 0, z => by simp [repl]
  | n + 1, z => by simp [repl, repl_length n z, Nat.succ_mul, Nat.add_comm]
theorem repl_get : ∀ (n : Nat) (z : List V) (k : Nat), k < n * z.length → (repl n z)[k]? = z[k % z.length]?
  | 0, z, k, h => by simp at h
  | n + 1, z, k, h => by
    simp only [repl]
    rcases Nat.lt_or_ge k z.length with h1 | h1
    · rw [List.getElem?_append_left h1, Nat.mod_eq_of_lt h1]
    · rw [List.getElem?_append_right h1, repl_get n z _ (by rw [Nat.succ_mul] at h; omega)]
      rw [← Nat.mod_eq_sub_mod h1]

theorem op_makeSlice {t e : TypeId} {ti te : TI} {x y : Operand} {l c : Int} {k k' : IntKind} {r : List V} (ho : o.op = .makeSlice t x y) (hR : Rel C E s a) (hT : TIOk P t ti) (he : ti.elem = some e) (hE : TIOk P e te) (hb : te.bytes ≤ 64) (hz0 : te.size ≠ 0)
    (hx : ev s x = .sc (.int k l)) (hy : ev s y = .sc (.int k' c)) (hlc : 0 ≤ l ∧ l ≤ c ∧ c ≤ 1099511627776) (hr : repl l.toNat (te.zero.map .sc) = r) (h : K (.own s.g.length te.size 0 l.toNat l.toNat none) (s.add ⟨false, r⟩)) : OpOk P C E s a o K := by
  obtain ⟨i, z, hi, hsz, hby, hz, hzc⟩ := hE.info
  have hzl : z.cells.size = te.size := by rw [← Array.length_toList, hzc, hE.zlen]
  have hw : ∀ n : Int, 0 ≤ n → n ≤ 1099511627776 → IntKind.i64.wrap n = n := by
    intro n h1 h2
    have hb : (2 : Int) ^ IntKind.i64.bits = 18446744073709551616 := by decide
    have hc : (2 : Int) ^ (IntKind.i64.bits - 1) = 9223372036854775808 := by decide
    simp only [IntKind.wrap, IntKind.signed, hb, hc, Bool.true_and, decide_eq_true_eq]
    split <;> omega
  have hwl := hw l hlc.1 (by omega)
  have hwc := hw c (by omega) hlc.2.2
  have hnum : (i.bytes : Int) * c ≤ 281474976710656 := by
    rw [hby]
    have : (te.bytes : Int) * c ≤ 64 * 1099511627776 := Int.mul_le_mul (by omega) hlc.2.2 (by omega) (by omega)
    omega
  subst hr
  obtain ⟨zero, hzero⟩ : ∃ zero : Array Value, (if c.toNat * te.size = 0 then (pure #[] : Sem (Array Value)) else do pure (← zeroValue e).cells).run P E.w = .ok zero E.w ∧ (c.toNat * te.size ≠ 0 → zero = z.cells) := by
    by_cases h0 : c.toNat * te.size = 0
    · exact ⟨#[], by simp [h0], fun h => absurd h0 h⟩
    · exact ⟨z.cells, by simp [h0, zeroValue, run_typeInfo hi, hz], fun _ => rfl⟩
  have hcells : ∀ (m : Nat) (v : V), (repl l.toNat (te.zero.map .sc))[m]? = some v → ∃ u, ((Array.range (c.toNat * te.size)).map (zero[· % zero.size]!))[m]? = some u ∧ v = .sc u ∧ u.oneCell' = true := by
    intro m v hm
    have hlt : m < l.toNat * te.size := by
      have := (List.getElem?_eq_some_iff.1 hm).1
      simpa [repl_length, hE.zlen] using this
    have hle : l.toNat * te.size ≤ c.toNat * te.size := Nat.mul_le_mul_right _ (by omega)
    have hz' := hzero.2 (by omega)
    subst hz'
    rw [repl_get _ _ _ (by simpa [hE.zlen] using hlt)] at hm
    simp only [List.length_map, hE.zlen, List.getElem?_map] at hm
    have hmm : m % te.size < te.size := Nat.mod_lt _ (Nat.pos_of_ne_zero hz0)
    have hzk : te.zero[m % te.size]? = some (z.cells[m % te.size]'(by omega)) := by
      rw [← hzc]
      simp [hmm, hzl]
    rw [hzk] at hm
    simp at hm
    subst hm
    refine ⟨_, ?_, rfl, hE.one _ (List.mem_of_getElem? hzk)⟩
    have hlt2 : m < c.toNat * te.size := by omega
    simp [hlt2, hzl, hmm]
  obtain ⟨A0, hA0⟩ : ∃ A0, A0 = (Array.range (c.toNat * te.size)).map (zero[· % zero.size]!) := ⟨_, rfl⟩
  have hA0s : A0.size = c.toNat * te.size := by rw [hA0]; simp
  rw [← hA0] at hcells
  have hrow : Rrow (E.push A0 e ⟨false, repl l.toNat (te.zero.map .sc)⟩).bare (.at [E.n]) E.w.heap.size 0 0 (repl l.toNat (te.zero.map .sc)) := by
    refine Rrow_mk fun m v hm => ?_
    obtain ⟨u, hu, rfl, h1⟩ := hcells m v hm
    refine ⟨u, ?_, rfl, h1⟩
    rw [Nat.zero_add]
    exact (cellAt_push _ _ _ _).trans hu
  have hob : ObR (E.push A0 e ⟨false, repl l.toNat (te.zero.map .sc)⟩) E.n ⟨false, repl l.toNat (te.zero.map .sc)⟩ := by
    refine .inr ⟨A0, e, ?_, ?_, ?_⟩
    · simp only [Env.push, if_true]; exact heap_push_new _ _ _
    · simp [Env.push]
    · simpa only [Env.push, if_true] using hrow
  refine opOk_of (E' := E.push A0 e ⟨false, repl l.toNat (te.zero.map .sc)⟩) (x := .slice (some ⟨E.w.heap.size, 0, none⟩) l.toNat c.toNat) ?_ h (rel_push hR hob) ?_
  · simp only [execOp, ho]
    rw [value_run (v := .slice (some ⟨E.w.heap.size, 0, none⟩) l.toNat c.toNat) (w' := (E.push A0 e ⟨false, repl l.toNat (te.zero.map .sc)⟩).w)]
    rw [ev_sc hR hx, ev_sc hR hy]
    simp only [Instr.makeSlice, Sem.run_bind, run_underlying (slice_desc (te := te) hT he), Result.andThen_ok, asInt, asIntOf, Sem.run_pure, run_typeInfo hi, hwl, hwc, run_sizeOf hE]
    rw [if_neg (by simp; omega)]
    have hroom : ¬ (c.toNat * i.bytes > roomBytes) := by
      rw [hby]
      have : c.toNat * te.bytes ≤ 1099511627776 * 64 := Nat.mul_le_mul (by omega) hb
      simp only [roomBytes]
      omega
    simp only [Sem.run_bind, Sem.run_pure, Result.andThen_ok, askRoom, run_sizeOf hE, if_neg hroom]
    by_cases h0 : c.toNat * te.size = 0
    · rw [if_pos h0]
      have hA1 : A0 = #[] := Array.eq_empty_of_size_eq_zero (by rw [hA0s, h0])
      have hr0 : ∀ f : Nat → Value, (Array.range 0).map f = #[] := fun f => Array.eq_empty_of_size_eq_zero (by simp)
      simp [h0, newRow, Env.push, addBlock, hA1, hr0]
    · rw [if_neg h0]
      have hz' := hzero.2 h0
      subst hz'
      simp only [Sem.run_bind, Sem.run_pure, Result.andThen_ok, zeroValue, run_typeInfo hi, hz, newRow, run_newObj, Env.push, addBlock, hA0]
  · rw [← hR.n]
    refine ⟨by simp [Env.push], _, _, rfl, fun _ => ⟨by omega, by omega, fun h hh => (by cases hh), .inr ⟨A0, e, ?_, ?_, ?_, ?_⟩⟩⟩
    · simp [Env.push]
    · simp [Env.push]
    · simp only [Env.push, if_true]; exact heap_push_new _ _ _
    · simp [Env.push, hA0s]
theorem op_buildSlice {t e : TypeId} {ti te : TI} {len : Nat} {parts : Array (Nat × Operand)} {cs : List V} (ho : o.op = .buildSlice t len parts) (hR : Rel C E s a) (hT : TIOk P t ti) (he : ti.elem = some e) (hE : TIOk P e te) (hl : len * te.size ≤ 1000) (hz0 : te.size ≠ 0)
    (hf : fillV s (fun i => some (i * te.size, te.size)) (repl len (te.zero.map .sc)) (partsV s parts.toList) = some cs)
    (h : intosK s cs fun cs' s' => K (.own s'.g.length te.size 0 len len (some len)) (s'.add ⟨false, cs'⟩)) : OpOk P C E s a o K := by
  obtain ⟨i, z, hi, hsz, _, hz, hzc⟩ := hE.info
  have hzl : z.cells.size = te.size := by rw [← Array.length_toList, hzc, hE.zlen]
  -- the zero cells
  have hinit : ∀ (c0 : Array Value), c0 = (Array.range (len * te.size)).map (fun i => (if len * te.size = 0 then #[] else z.cells)[i % (if len * te.size = 0 then (#[] : Array Value) else z.cells).size]!) → Rvs E .none (repl len (te.zero.map .sc)) c0.toList := by
    rintro c0 rfl
    refine Rvs_mk (by simp [repl_length, hE.zlen]) fun k c hk => ?_
    have hlt : k < len * te.size := by
      have := (List.getElem?_eq_some_iff.1 hk).1
      simpa [repl_length, hE.zlen] using this
    have hne : len * te.size ≠ 0 := by omega
    rw [repl_get _ _ _ (by simpa [hE.zlen] using hlt)] at hk
    simp only [List.length_map, hE.zlen, List.getElem?_map] at hk
    have hm : k % te.size < te.size := Nat.mod_lt _ (Nat.pos_of_ne_zero hz0)
    have hzk : te.zero[k % te.size]? = some (z.cells[k % te.size]'(by omega)) := by
      rw [← hzc]
      simp [hm, hzl]
    rw [hzk] at hk
    simp at hk
    subst hk
    refine ⟨z.cells[k % te.size]'(by omega), ?_, rfl, hE.one _ (List.mem_of_getElem? hzk)⟩
    simp only [if_neg hne, Array.toList_map, List.getElem?_map, Array.toList_range, List.getElem?_range hlt, Option.map_some, hzl]
    simp [getElem!_pos, hm, hzl]
  obtain ⟨c', hc', hr'⟩ := fill_ok (place := fun i => some (i * te.size, te.size)) hR (hinit _ rfl) hf
  obtain ⟨E1, cs', s1, hK, hR1, hw1, hρ1, hm1, hl1, hk1, hn1, hcell⟩ := intos_ok (kid := s.g.length) (j := 0) hR (Nat.le_refl _) h hr'
  have hid : E1.n = s.g.length := by rw [hR1.n, hl1]
  have hrow : Rrow (E1.push c' e ⟨false, cs'⟩).bare (.at [E1.n]) E1.w.heap.size 0 0 cs' := by
    refine Rrow_mk fun k v hk => ?_
    obtain ⟨x, hx, hr⟩ := hcell k v hk
    refine ⟨x, ?_, ?_⟩
    · rw [Nat.zero_add]
      exact (cellAt_push _ _ _ _).trans (by simpa using hx)
    · rw [hid]
      exact Rv.mono (mono_push hR1 c' e ⟨false, cs'⟩).bare (fun q hq => by cases hq; exact kept_push hR1 c' e ⟨false, cs'⟩ _) (fun q j hq _ => by cases hq) hr
  have hob : ObR (E1.push c' e ⟨false, cs'⟩) E1.n ⟨false, cs'⟩ := by
    refine .inr ⟨c', e, ?_, ?_, ?_⟩
    · simp only [Env.push, if_true]; exact heap_push_new _ _ _
    · simp [Env.push]
    · simpa only [Env.push, if_true] using hrow
  have hcl : c'.size = len * te.size := by
    have h1 := Rvs_len hr'
    have h2 : ∀ (place : Nat → Option (Nat × Nat)) (ps : List (Nat × V)) (cells cs : List V), fillV s place cells ps = some cs → cs.length = cells.length := by
      intro place ps
      induction ps with
      | nil => intro cells cs h; simp only [fillV, Option.some.injEq] at h; rw [h]
      | cons p ps ih =>
        intro cells cs h
        obtain ⟨j, v⟩ := p
        simp only [fillV] at h
        split at h
        · rename_i off sz vs _ _
          cases hb : (Nat.beq vs.length sz && Nat.ble (off + vs.length) cells.length) with
          | false => rw [hb] at h; cases h
          | true =>
            rw [hb] at h
            simp only [Bool.and_eq_true] at hb
            rw [ih _ _ h, setC_len (Nat.le_of_ble_eq_true hb.2)]
        · cases h
    have h3 := h2 _ _ _ _ hf
    simp only [Array.length_toList] at h1
    rw [← h1, h3, repl_length, List.length_map, hE.zlen]
  refine opOk_of (E' := E1.push c' e ⟨false, cs'⟩) (x := .slice (some ⟨E.w.heap.size, 0, none⟩) len len) ?_ hK (rel_push hR1 hob) ?_
  · have hp2 : (parts.map fun (i, x) => (i, a.eval x)).toList = parts.toList.map fun p => (p.1, a.eval p.2) := by simp
    simp only [execOp, ho]
    rw [value_run (v := .slice (some ⟨E.w.heap.size, 0, none⟩) len len) (w' := (E1.push c' e ⟨false, cs'⟩).w)]
    simp only [Instr.buildSlice, Sem.run_bind, run_underlying (slice_desc (te := te) hT he), Result.andThen_ok, run_sizeOf hE]
    rw [if_neg (by omega)]
    by_cases hzero : len * te.size = 0
    · simp only [hzero, if_true, Sem.run_pure, Result.andThen_ok, hp2] at hc' ⊢
      simp only [Sem.run_bind, Sem.run_pure, Result.andThen_ok, hc', newRow, run_newObj, Env.push, addBlock, hw1]
    · simp only [if_neg hzero, Sem.run_bind, Sem.run_pure, zeroValue, run_typeInfo hi, hz, Result.andThen_ok, hp2] at hc' ⊢
      simp only [Sem.run_bind, Sem.run_pure, Result.andThen_ok, hc', newRow, run_newObj, Env.push, addBlock, hw1]
  · rw [← hR1.n]
    refine ⟨by simp [Env.push], _, _, rfl, fun _ => ⟨Nat.le_refl _, Nat.le_refl _, fun h hh => by cases hh; rfl, ?_⟩⟩
    refine .inr ⟨c', e, ?_, ?_, ?_, ?_⟩
    · simp [Env.push, hw1]
    · simp [Env.push]
    · simp only [Env.push, if_true]; exact heap_push_new _ _ _
    · simp only [Env.push, if_true, Nat.zero_add]; rw [hcl]; exact Nat.le_refl _
end
end Go.Proofs.YtiplgkbgkmomlaaD
