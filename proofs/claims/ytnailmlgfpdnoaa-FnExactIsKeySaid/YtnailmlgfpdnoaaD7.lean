/- Reads: loads, fields, elements. -/
import Derived.Test.YtnailmlgfpdnoaaD6
set_option linter.unusedVariables false
set_option linter.unusedSimpArgs false
namespace Go.Proofs.YtnailmlgfpdnoaaD
open Go

theorem obOf_lt : ∀ {g : List (Option Obj)} {i : Nat} {ob : Obj}, obOf g i = some ob → i < g.length
  | [], i, ob, h => by simp [obOf] at h
  | _ :: _, 0, ob, h => by simp
  | _ :: r, i + 1, ob, h => by have := obOf_lt (g := r) (i := i) h; simp; omega

section
variable {P : Program} {Γ : Tab} {C : Ctx} {E : Env} {s : St} {a : Act} {o : Oper} {K : V → St → Prop}

theorem ob_live (hR : Rel C E s a) {i : Nat} {ob : Obj} (h : s.ob i = some ob) : (E.g i).isSome = true := by rw [hR.g, h]; rfl
theorem ob_n (hR : Rel C E s a) {i : Nat} {ob : Obj} (h : s.ob i = some ob) : i < E.n := by rw [hR.n]; exact obOf_lt h
theorem ev_ptr (hR : Rel C E s a) {x : Operand} {i off : Nat} {ob : Obj} (hx : ev s x = .ptr i off) (h : s.ob i = some ob) : a.eval x = .pointer (some ⟨(E.ρ i).1, (E.ρ i).2 + off, none⟩) := by
  have := ev_ok hR x
  rw [hx] at this
  obtain ⟨_, ad, hv, hl⟩ := this
  rw [hv, hl (ob_live hR h)]

theorem op_load_box {t : TypeId} {ti : TI} {x : Operand} {i off : Nat} {cs r : List V} (ho : o.op = .load t x) (hR : Rel C E s a) (hT : TIOk P t ti) (hx : ev s x = .ptr i off) (hob : s.ob i = some ⟨true, cs⟩) (hr : takeN cs off ti.size = some r) (h : K (pack ti.agg r) s) : OpOk P C E s a o K := by
  have hv := ev_ptr hR hx hob
  obtain ⟨c, e, hh, h0, hlab, hrow⟩ := hR.ob i _ hob
  obtain ⟨hle, hreq, hlen⟩ := takeN_some hr
  have hrow' : Rrow E .none (E.ρ i).1 (0 + off) 0 r := by rw [hreq]; exact Rrow_take (Rrow_drop hrow)
  rw [Nat.zero_add] at hrow'
  obtain ⟨z, hz, hrz⟩ := loadVar_run hT hrow' hlen (fun hf => by rw [hlen]; exact hT.one1 hf)
  refine opOk_sem hR (c := Instr.loadAt t (a.eval x)) (by simp only [execOp, ho]) ?_ h hrz
  rw [hv, h0, Nat.zero_add]
  simpa [Instr.loadAt, Instr.sureAddr] using hz

theorem views_len : ∀ (i j : Nat) (cs : List V), (views i j cs).length = cs.length
  | _, _, [] => rfl
  | i, j, _ :: cs => by simp [views, views_len i (j + 1) cs]
theorem op_load_row {t : TypeId} {ti : TI} {x : Operand} {i off : Nat} {cs r : List V} (ho : o.op = .load t x) (hR : Rel C E s a) (hT : TIOk P t ti) (hx : ev s x = .ptr i off) (hob : s.ob i = some ⟨false, cs⟩) (hr : takeN cs off ti.size = some r) (h : K (pack ti.agg (views i off r)) s) (hz0 : ti.size ≠ 0) : OpOk P C E s a o K := by
  have hv := ev_ptr hR hx hob
  obtain ⟨hle, hreq, hlen⟩ := takeN_some hr
  rcases hR.ob i _ hob with h0 | ⟨c, e, hh, hlab, hrow⟩
  · rw [h0] at hle; simp at hle; omega
  · have hrow' : Rrow E .none (E.ρ i).1 ((E.ρ i).2 + off) 0 (views i off r) := by
      refine Rrow_mk fun k v hk => ?_
      obtain ⟨c', hc', rfl⟩ := views_get hk
      have hck : cs[off + k]? = some c' := by
        rw [hreq, List.getElem?_take] at hc'
        split at hc'
        · rwa [List.getElem?_drop] at hc'
        · cases hc'
      obtain ⟨u, hu, hru⟩ := Rrow_get hrow (off + k) c' hck
      refine ⟨u, by rw [← Nat.add_assoc] at hu; exact hu, ?_⟩
      cases htr : notTr c' with
      | true =>
        have : view i (off + k) c' = c' := by cases c' <;> simp_all [view, notTr]
        rw [this]
        exact Rv_unplace (Rv.unbare hru) htr (fun k hk => by cases hk)
      | false =>
        cases c' <;> simp [notTr] at htr
        rename_i sz n rr
        refine ⟨ob_n hR hob, ?_, fun _ => hu⟩
        obtain ⟨A, cap, rfl, _⟩ := hru
        exact ⟨_, _, _, rfl⟩
    obtain ⟨z, hz, hrz⟩ := loadVar_run hT hrow' (by rw [views_len, hlen]) (fun hf => by rw [views_len, hlen]; exact hT.one1 hf)
    refine opOk_sem hR (c := Instr.loadAt t (a.eval x)) (by simp only [execOp, ho]) ?_ h hrz
    rw [hv]
    simpa [Instr.loadAt, Instr.sureAddr] using hz

theorem op_load_rp {t : TypeId} {ti : TI} {x : Operand} {cs r : List V} (ho : o.op = .load t x) (hR : Rel C E s a) (hT : TIOk P t ti) (hx : ev s x = .rp cs) (hr : takeN cs 0 ti.size = some r) (h : K (pack ti.agg r) s) : OpOk P C E s a o K := by
  have := ev_ok hR x
  rw [hx] at this
  obtain ⟨b, off, hv, hok, hb, hrow⟩ := this
  obtain ⟨hle, hreq, hlen⟩ := takeN_some hr
  have hrow' : Rrow E .none b off 0 r := by rw [hreq]; exact Rrow_take (by simpa using Rrow_drop (d := 0) hrow.unbare)
  obtain ⟨z, hz, hrz⟩ := loadVar_run hT hrow' hlen (fun hf => by rw [hlen]; exact hT.one1 hf)
  refine opOk_sem hR (c := Instr.loadAt t (a.eval x)) (by simp only [execOp, ho]) ?_ h hrz
  rw [hv]
  simpa [Instr.loadAt, Instr.sureAddr] using hz

theorem fieldAt_run {t : TypeId} {ti : TI} {f d : Nat} (hT : TIOk P t ti) (hf : nth ti.fields f = some d) (b off : Nat) (w : World) :
    (Instr.fieldAt t (.pointer (some ⟨b, off, none⟩)) f).run P w = .ok (.pointer (some ⟨b, off + d, none⟩)) w := by
  obtain ⟨ds, hd, hk⟩ := hT.desc
  cases ds <;> simp only [descOk] at hk <;> try (rw [hk.2.2.1] at hf; simp [nth] at hf)
  rename_i fs
  obtain ⟨_, hag, hfs, _, hsz, _⟩ := hk
  unfold nth at hf
  rw [← hfs, List.getElem?_map] at hf
  cases hfi : fs.toList[f]? with
  | none => rw [hfi] at hf; cases hf
  | some fd =>
    rw [hfi] at hf
    simp at hf
    subst hf
    have hfa : fs[f]? = some fd := by simpa using hfi
    obtain ⟨i, hi, hne⟩ := hsz fd (List.mem_of_getElem? hfi)
    simp [Instr.fieldAt, run_underlying hd, hfa, Instr.sureAddr, fieldPlace, sizeOf, run_typeInfo hi, hne, addr_add]
theorem op_fieldAddr_ptr {t : TypeId} {ti : TI} {x : Operand} {i off f d : Nat} {ob : Obj} (ho : o.op = .fieldAddr t x f) (hR : Rel C E s a) (hT : TIOk P t ti) (hx : ev s x = .ptr i off) (hob : s.ob i = some ob) (hf : nth ti.fields f = some d) (h : K (.ptr i (off + d)) s) : OpOk P C E s a o K := by
  refine opOk_sem hR (c := Instr.fieldAt t (a.eval x) f) (x := .pointer (some ⟨(E.ρ i).1, (E.ρ i).2 + off + d, none⟩)) (by simp only [execOp, ho]) ?_ h ⟨ob_n hR hob, _, rfl, fun _ => by rw [Nat.add_assoc]⟩
  rw [ev_ptr hR hx hob]
  exact fieldAt_run hT hf _ _ _
theorem op_fieldAddr_rp {t : TypeId} {ti : TI} {x : Operand} {cs : List V} {f d : Nat} (ho : o.op = .fieldAddr t x f) (hR : Rel C E s a) (hT : TIOk P t ti) (hx : ev s x = .rp cs) (hf : nth ti.fields f = some d) (h : K (.rp (cs.drop d)) s) : OpOk P C E s a o K := by
  have := ev_ok hR x
  rw [hx] at this
  obtain ⟨b, off, hv, hok, hb, hrow⟩ := this
  refine opOk_sem hR (c := Instr.fieldAt t (a.eval x) f) (x := .pointer (some ⟨b, off + d, none⟩)) (by simp only [execOp, ho]) ?_ h ⟨b, off + d, rfl, hok, hb, Rrow_drop hrow⟩
  rw [hv]
  exact fieldAt_run hT hf _ _ _

theorem slice_desc {t : TypeId} {ti te : TI} {e : Nat} (hT : TIOk P t ti) (he : ti.elem = some e) : P.underlying t = some (.slice e) := by
  obtain ⟨ds, hd, hk⟩ := hT.desc
  cases ds <;> simp_all [descOk]
theorem string_desc {t : TypeId} {ti : TI} (hT : TIOk P t ti) (he : ti.str = true) : P.underlying t = some .string := by
  obtain ⟨ds, hd, hk⟩ := hT.desc
  cases ds <;> simp_all [descOk]
theorem indexAt_run {t e : TypeId} {ti te : TI} (hT : TIOk P t ti) (he : ti.elem = some e) (hE : TIOk P e te) (b off n cap : Nat) (k : IntKind) (i : Int) (h0 : 0 ≤ i ∧ i < n) (w : World) :
    (Instr.indexAt t (.slice (some ⟨b, off, none⟩) n cap) (.int k i)).run P w = .ok (.pointer (some ⟨b, off + i.toNat * te.size, none⟩)) w := by
  simp [Instr.indexAt, asIntOf, run_underlying (slice_desc (te := te) hT he), run_sizeOf hE, h0.1, h0.2, addr_add]
theorem op_indexAddr_ro {t e : TypeId} {ti te : TI} {x ix : Operand} {n : Nat} {cs : List V} {k : IntKind} {i : Int} (ho : o.op = .indexAddr t x ix) (hR : Rel C E s a) (hT : TIOk P t ti) (he : ti.elem = some e) (hE : TIOk P e te) (hx : ev s x = .ro n cs) (hi : ev s ix = .sc (.int k i)) (h0 : 0 ≤ i ∧ i < n) (hl : cs.length = n * te.size) (hz : te.size ≠ 0) (h : K (.rp (cs.drop (i.toNat * te.size))) s) : OpOk P C E s a o K := by
  have := ev_ok hR x
  rw [hx] at this
  obtain ⟨A, cap, hv, hc, hr⟩ := this
  have hne : cs ≠ [] := by
    intro h'
    rw [h'] at hl
    simp at hl
    have : n = 0 := by rcases Nat.eq_zero_or_pos n with h1 | h1; exact h1; exact absurd hl.symm (Nat.ne_of_gt (Nat.mul_pos h1 (Nat.pos_of_ne_zero hz)))
    omega
  obtain ⟨b, off, rfl, hok, hb, hrow⟩ := hr hne
  refine opOk_sem hR (c := Instr.indexAt t (a.eval x) (a.eval ix)) (by simp only [execOp, ho]) ?_ h ⟨b, off + i.toNat * te.size, rfl, hok, hb, Rrow_drop hrow⟩
  rw [hv, ev_sc hR hi]
  exact indexAt_run hT he hE _ _ _ _ _ _ h0 _
theorem op_indexAddr_own {t e : TypeId} {ti te : TI} {x ix : Operand} {q sz off n lo : Nat} {hi' : Option Nat} {ob : Obj} {k : IntKind} {i : Int} (ho : o.op = .indexAddr t x ix) (hR : Rel C E s a) (hT : TIOk P t ti) (he : ti.elem = some e) (hE : TIOk P e te) (hx : ev s x = .own q sz off n lo hi') (hob : s.ob q = some ob) (hi : ev s ix = .sc (.int k i)) (h0 : 0 ≤ i ∧ i < n) (h : K (.ptr q (off + i.toNat * te.size)) s) : OpOk P C E s a o K := by
  have := ev_ok hR x
  rw [hx] at this
  obtain ⟨_, A, cap, hv, hlv⟩ := this
  obtain ⟨hc, hlo, hhi, hr⟩ := hlv (ob_live hR hob)
  rcases hr with hr | ⟨c, e', rfl, _⟩
  · omega
  · refine opOk_sem hR (c := Instr.indexAt t (a.eval x) (a.eval ix)) (x := .pointer (some ⟨(E.ρ q).1, (E.ρ q).2 + off + i.toNat * te.size, none⟩)) (by simp only [execOp, ho]) ?_ h ⟨ob_n hR hob, _, rfl, fun _ => by rw [Nat.add_assoc]⟩
    rw [hv, ev_sc hR hi]
    exact indexAt_run hT he hE _ _ _ _ _ _ h0 _
theorem op_index {t : TypeId} {x ix : Operand} {b : ByteArray} {k : IntKind} {i : Int} (ho : o.op = .index t x ix) (hR : Rel C E s a) (hu : P.underlying t = some .string) (hx : ev s x = .sc (.string b)) (hi : ev s ix = .sc (.int k i)) (h0 : 0 ≤ i ∧ i.toNat < b.size) (h : K (.sc (.int .u8 ((b[i.toNat]'h0.2).toNat : Int))) s) : OpOk P C E s a o K := by
  refine opOk_sem hR (c := Instr.index t (a.eval x) (a.eval ix)) (by simp only [execOp, ho]) ?_ h ⟨rfl, rfl⟩
  rw [ev_sc hR hx, ev_sc hR hi]
  simp [Instr.index, asIntOf, run_underlying hu, h0.1, h0.2]
theorem op_len {x : Operand} {n : Nat} {t : TypeId} {ts : Array TypeId} (ho : o.op = .call { callee := .builtin .len, args := #[x], argTypes := ts }) (hR : Rel C E s a) (ht : ts[0]? = some t) (hu : (∃ e, P.underlying t = some (.slice e)) ∨ P.underlying t = some .string)
    (hcx : (∃ A cap, a.eval x = .slice A n cap ∧ ∃ e, P.underlying t = some (.slice e)) ∨ ∃ z, a.eval x = .string z ∧ z.size = n ∧ P.underlying t = some .string) (h : K (.sc (.int .i64 n)) s) : OpOk P C E s a o K := by
  refine opOk_here hR (x := .int .i64 n) ?_ h ⟨rfl, rfl⟩
  simp only [execOp, ho, resolve]
  rcases hcx with ⟨A, cap, hv, e, he⟩ | ⟨z, hv, hz, he⟩
  · simp [hv, invoke, builtin, Builtin.len_, ht, run_underlying he, goInt]
  · simp [hv, invoke, builtin, Builtin.len_, ht, run_underlying he, goInt, hz]
end
end Go.Proofs.YtnailmlgfpdnoaaD
