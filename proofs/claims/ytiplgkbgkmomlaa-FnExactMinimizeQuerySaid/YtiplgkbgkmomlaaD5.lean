/- Operations that make and write no memory. -/
import Derived.Test.YtiplgkbgkmomlaaD4
set_option linter.unusedVariables false
set_option linter.unusedSimpArgs false
namespace Go.Proofs.YtiplgkbgkmomlaaD
open Go

def descOk (P : Program) (ti : TI) : TypeDesc → Prop
  | .bool => ti.str = false ∧ ti.agg = false ∧ ti.fields = [] ∧ ti.elem = none ∧ ti.kind = none ∧ ti.boo = true
  | .struct fs => ti.str = false ∧ ti.agg = true ∧ fs.toList.map (·.offset) = ti.fields ∧ fs.toList.map (fun f => P.cellsOf f.type) = ti.fsz ∧ (∀ f ∈ fs.toList, ∃ i, P.info? f.type = some i ∧ i.size ≠ 0) ∧ ti.elem = none ∧ ti.kind = none ∧ ti.boo = false
  | .array _ _ => ti.str = false ∧ ti.agg = true ∧ ti.fields = [] ∧ ti.elem = none ∧ ti.kind = none ∧ ti.boo = false
  | .slice e => ti.str = false ∧ ti.agg = false ∧ ti.fields = [] ∧ ti.elem = some e ∧ ti.kind = none ∧ ti.boo = false
  | .int k => ti.str = false ∧ ti.agg = false ∧ ti.fields = [] ∧ ti.elem = none ∧ ti.kind = some k ∧ ti.boo = false
  | .string => ti.str = true ∧ ti.agg = false ∧ ti.fields = [] ∧ ti.elem = none ∧ ti.kind = none ∧ ti.boo = false
  | _ => ti.str = false ∧ ti.agg = false ∧ ti.fields = [] ∧ ti.elem = none ∧ ti.kind = none ∧ ti.boo = false
structure TIOk (P : Program) (t : TypeId) (ti : TI) : Prop where
  info : ∃ i z, P.info? t = some i ∧ i.size = ti.size ∧ i.bytes = ti.bytes ∧ i.zero = some z ∧ z.cells.toList = ti.zero
  one : ∀ v ∈ ti.zero, v.oneCell' = true
  zlen : ti.zero.length = ti.size
  one1 : ti.agg = false → ti.size = 1
  desc : ∃ d, P.underlying t = some d ∧ descOk P ti d
abbrev TabOk (P : Program) (Γ : Tab) : Prop := ∀ t ti, Γ t = some ti → TIOk P t ti

section
variable {P : Program} {Γ : Tab} {C : Ctx} {E : Env} {s : St} {a : Act} {o : Oper} {next : Act → World → Prop} {Q : Exit → Act → World → Prop}

theorem run_underlying {t : TypeId} {d : TypeDesc} (h : P.underlying t = some d) (w : World) : (underlying t).run P w = .ok d w := by
  simp [underlying, h]
theorem run_typeInfo {t : TypeId} {i : TypeInfo} (h : P.info? t = some i) (w : World) : (typeInfo t).run P w = .ok i w := by
  simp [typeInfo, h]
theorem run_sizeOf {t : TypeId} {ti : TI} (h : TIOk P t ti) (w : World) : (sizeOf t).run P w = .ok ti.size w := by
  obtain ⟨i, z, hi, hs, _⟩ := h.info
  simp [sizeOf, run_typeInfo hi, hs]
theorem run_isAgg {t : TypeId} {ti : TI} (h : TIOk P t ti) (w : World) : (isAgg t).run P w = .ok ti.agg w := by
  obtain ⟨d, hd, hk⟩ := h.desc
  cases d <;> simp_all [isAgg, run_underlying hd, descOk]

theorem ev_ok (hR : Rel C E s a) (x : Operand) : Rv E .none (ev s x) (a.eval x) := by
  cases x with
  | tmp t => exact hR.slot t
  | global g => trivial
  | func f => exact ⟨[], rfl, trivial⟩
  | const v =>
    show Rv E .none (constV v) v
    unfold constV
    cases v <;> try exact ⟨rfl, rfl⟩
    case agg cs =>
      cases hb : cs.toList.all Value.oneCell' with
      | false => simp only [hb, cond_false]; trivial
      | true =>
        simp only [hb, cond_true]
        refine ⟨cs.toList, by simp, ?_⟩
        have : ∀ l : List Value, l.all Value.oneCell' = true → Rvs E .none (l.map .sc) l := by
          intro l
          induction l with
          | nil => intro _; trivial
          | cons c l ih =>
            intro hl
            simp only [List.all_cons, Bool.and_eq_true] at hl
            exact ⟨⟨rfl, hl.1⟩, ih hl.2⟩
        exact this _ hb
    case tuple => trivial

theorem Rv_sc {E : Env} {m : Md} {v x : Value} (h : Rv E m (.sc v) x) : x = v := h.1

theorem loadVar_run {t : TypeId} {ti : TI} (hT : TIOk P t ti) {E : Env} {b off : Nat} {r : List V} (hrow : Rrow E .none b off 0 r) (hl : r.length = ti.size) (hp : ti.agg = false → r.length = 1) :
    ∃ x, (loadVar t ⟨b, off, none⟩).run P E.w = .ok x E.w ∧ Rv E .none (pack ti.agg r) x := by
  obtain ⟨xs, hxl, hc, hx⟩ := Rrow_vals hrow
  cases hag : ti.agg with
  | true =>
    refine ⟨.agg xs.toArray, ?_, xs, rfl, hx⟩
    have := run_loadCells_list (P := P) E.w ⟨b, off, none⟩ xs (fun j v hj => by rw [addr_add]; exact hc j v hj)
    simp [loadVar, run_isAgg hT, hag, run_sizeOf hT, ← hl, ← hxl, this]
  | false =>
    have h1 := hp hag
    match r, h1, hrow with
    | [c], _, ⟨⟨v, hv, hr⟩, _⟩ =>
      refine ⟨v, ?_, hr⟩
      simp [loadVar, run_isAgg hT, hag, hv]

theorem value_run {x : Sem Value} {v : Value} {w w' : World} (h : x.run P w = .ok v w') : (do pure (Next.value (← x)) : Sem Next).run P w = .ok (.value v) w' := by
  simp [h]
end
end Go.Proofs.YtiplgkbgkmomlaaD
