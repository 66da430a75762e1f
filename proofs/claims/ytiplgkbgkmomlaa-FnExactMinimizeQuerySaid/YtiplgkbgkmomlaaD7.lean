/- Reads: loads, fields, elements. -/
import Derived.Test.YtiplgkbgkmomlaaD6
import Derived.Deep.Slices
set_option linter.unusedVariables false
set_option linter.unusedSimpArgs false
namespace Go.Proofs.YtiplgkbgkmomlaaD
open Go

theorem obOf_lt : ∀ {g : List (Option Obj)} {i : Nat} {ob : Obj}, obOf g i = some ob → i < g.length
  | [], i, ob, h => by simp [obOf] at h
  | _ :: _, 0, ob, h => by simp
  | _ :: r, i + 1, ob, h => by have := obOf_lt (g := r) (i := i) h; simp; omega

section
variable {P : Program} {Γ : Tab} {C : Ctx} {E : Env} {s : St} {a : Act} {o : Oper} {K : V → St → Prop}

theorem ob_live (hR : Rel C E s a) {i : Nat} {ob : Obj} (h : s.ob i = some ob) : (E.g i).isSome = true := by rw [hR.g, h]; rfl
theorem ob_n (hR : Rel C E s a) {i : Nat} {ob : Obj} (h : s.ob i = some ob) : i < E.n := by rw [hR.n]; exact obOf_lt h
theorem ev_ptr (hR : Rel C E s a) {x : Operand} {i off : Nat} {ob : Obj} (hx : ev s x = .ptr i off) (h : s.ob i = some ob) : a.eval x = .pointer (some ⟨(E.ρ i).1, (E.ρ i).2 + off, none⟩) := by
  have := ev_ok hR x
  rw [hx] at this
  obtain ⟨_, ad, hv, hl⟩ := this
  rw [hv, hl (ob_live hR h)]

theorem op_load_box {t : TypeId} {ti : TI} {x : Operand} {i off : Nat} {cs r : List V} (ho : o.op = .load t x) (hR : Rel C E s a) (hT : TIOk P t ti) (hx : ev s x = .ptr i off) (hob : s.ob i = some ⟨true, cs⟩) (hr : takeN cs off ti.size = some r) (h : K (pack ti.agg r) s) : OpOk P C E s a o K := by
  have hv := ev_ptr hR hx hob
  obtain ⟨c, e, hh, h0, hlab, hrow⟩ := hR.ob i _ hob
  obtain ⟨hle, hreq, hlen⟩ := takeN_some hr
  have hrow' : Rrow E .none (E.ρ i).1 (0 + off) 0 r := by rw [hreq]; exact Rrow_take (Rrow_drop hrow)
  rw [Nat.zero_add] at hrow'
  obtain ⟨z, hz, hrz⟩ := loadVar_run hT hrow' hlen (fun hf => by rw [hlen]; exact hT.one1 hf)
  refine opOk_sem hR (c := Instr.loadAt t (a.eval x)) (by simp only [execOp, ho]) ?_ h hrz
  rw [hv, h0, Nat.zero_add]
  simpa [Instr.loadAt, Instr.sureAddr] using hz

theorem views_len : ∀ (i j : Nat) (cs : List V), (views i j cs).length = cs.length
  | _, _, [] => rfl
  | i, j, _ :: cs => by simp [views, views_len i (j + 1) cs]
theorem op_load_row {t : TypeId} {ti : TI} {x : Operand} {i off : Nat} {cs r : List V} (ho : o.op = .load t x) (hR : Rel C E s a) (hT : TIOk P t ti) (hx : ev s x = .ptr i off) (hob : s.ob i = some ⟨false, cs⟩) (hr : takeN cs off ti.size = some r) (h : K (pack ti.agg (views i off r)) s) (hz0 : ti.size ≠ 0) : OpOk P C E s a o K := by
  have hv := ev_ptr hR hx hob
  obtain ⟨hle, hreq, hlen⟩ := takeN_some hr
  rcases hR.ob i _ hob with h0 | ⟨c, e, hh, hlab, hrow⟩
  · rw [h0] at hle; simp at hle; omega
  · have hrow' : Rrow E .none (E.ρ i).1 ((E.ρ i).2 + off) 0 (views i off r) := by
      refine Rrow_mk fun k v hk => ?_
      obtain ⟨c', hc', rfl⟩ := views_get hk
      have hck : cs[off + k]? = some c' := by
        rw [hreq, List.getElem?_take] at hc'
        split at hc'
        · rwa [List.getElem?_drop] at hc'
        · cases hc'
      obtain ⟨u, hu, hru⟩ := Rrow_get hrow (off + k) c' hck
      refine ⟨u, by rw [← Nat.add_assoc] at hu; exact hu, ?_⟩
      cases htr : notTr c' with
      | true =>
        have : view i (off + k) c' = c' := by cases c' <;> simp_all [view, notTr]
        rw [this]
        exact Rv_unplace (Rv.unbare hru) htr (fun k hk => by cases hk)
      | false =>
        cases c' <;> simp [notTr] at htr
        · rename_i sz n rr
          refine ⟨ob_n hR hob, ?_, fun _ => hu⟩
          obtain ⟨A, cap, rfl, _⟩ := hru
          exact ⟨_, _, _, rfl⟩
        · trivial
    obtain ⟨z, hz, hrz⟩ := loadVar_run hT hrow' (by rw [views_len, hlen]) (fun hf => by rw [views_len, hlen]; exact hT.one1 hf)
    refine opOk_sem hR (c := Instr.loadAt t (a.eval x)) (by simp only [execOp, ho]) ?_ h hrz
    rw [hv]
    simpa [Instr.loadAt, Instr.sureAddr] using hz

theorem op_load_rp {t : TypeId} {ti : TI} {x : Operand} {cs r : List V} (ho : o.op = .load t x) (hR : Rel C E s a) (hT : TIOk P t ti) (hx : ev s x = .rp cs) (hr : takeN cs 0 ti.size = some r) (h : K (pack ti.agg r) s) : OpOk P C E s a o K := by
  have := ev_ok hR x
  rw [hx] at this
  obtain ⟨b, off, hv, hok, hb, hrow⟩ := this
  obtain ⟨hle, hreq, hlen⟩ := takeN_some hr
  have hrow' : Rrow E .none b off 0 r := by rw [hreq]; exact Rrow_take (by simpa using Rrow_drop (d := 0) hrow.unbare)
  obtain ⟨z, hz, hrz⟩ := loadVar_run hT hrow' hlen (fun hf => by rw [hlen]; exact hT.one1 hf)
  refine opOk_sem hR (c := Instr.loadAt t (a.eval x)) (by simp only [execOp, ho]) ?_ h hrz
  rw [hv]
  simpa [Instr.loadAt, Instr.sureAddr] using hz

/-- The nested row that a cell holds. -/
theorem sub_row (hR : Rel C E s a) {i j sz n : Nat} {cs r : List V} (hob : s.ob i = some ⟨false, cs⟩) (hj : cs[j]? = some (.tr sz n r)) : ∃ A cap, E.w.cell? ⟨(E.ρ i).1, (E.ρ i).2 + j, none⟩ = some (.slice A n cap) ∧ n ≤ cap ∧ r.length = n * sz ∧
    (cap = 0 ∨ ∃ b off c e, A = some ⟨b, off, none⟩ ∧ E.o b = some [i, j] ∧ E.w.heap[b]? = some (.cells c e (0, 0)) ∧ off + cap * sz ≤ c.size ∧ Rrow E.bare (.at [i, j]) b off 0 r) := by
  rcases hR.ob i _ hob with h0 | ⟨c, e, hh, hlab, hrow⟩
  · rw [h0] at hj; simp at hj
  · obtain ⟨u, hu, hru⟩ := Rrow_get hrow j _ hj
    obtain ⟨A, cap, rfl, hc, hl, hr⟩ := hru
    refine ⟨A, cap, hu, hc, hl, ?_⟩
    rcases hr with hr | ⟨b, off, q, c', e', hA, hq, ho, hh', hs, hrw⟩
    · exact .inl hr
    · simp only [Md.child, Md.leaf, Option.some.injEq, List.cons_append, List.nil_append, Nat.zero_add] at hq
      subst hq
      exact .inr ⟨b, off, c', e', hA, ho, hh', hs, hrw⟩
theorem isTr_of (hR : Rel C E s a) {i j sz n : Nat} {cs r : List V} (hob : s.ob i = some ⟨false, cs⟩) (hj : cs[j]? = some (.tr sz n r)) : isTr E.g i j := ⟨cs, sz, n, r, by rw [hR.g]; exact hob, hj⟩
theorem ev_sp (hR : Rel C E s a) {x : Operand} {i j off sz n : Nat} {cs r : List V} (hx : ev s x = .sp i j off) (hob : s.ob i = some ⟨false, cs⟩) (hj : cs[j]? = some (.tr sz n r)) :
    ∃ b d c e, a.eval x = .pointer (some ⟨b, d + off, none⟩) ∧ E.o b = some [i, j] ∧ E.w.heap[b]? = some (.cells c e (0, 0)) ∧ r.length = n * sz ∧ Rrow E.bare (.at [i, j]) b d 0 r := by
  have hv := ev_ok hR x
  rw [hx] at hv
  obtain ⟨_, ad, hv, hl⟩ := hv
  obtain ⟨A, m, cap, hcell, hpos, rfl⟩ := hl (isTr_of hR hob hj)
  obtain ⟨A', cap', hcell', hc, hrl, hb⟩ := sub_row hR hob hj
  rw [hcell] at hcell'
  cases hcell'
  rcases hb with h0 | ⟨b, d, c, e, hA, ho, hh, hs, hrow⟩
  · omega
  · cases hA
    exact ⟨b, d, c, e, by rw [hv, addr_add], ho, hh, hrl, hrow⟩
theorem op_load_sp {t : TypeId} {ti : TI} {x : Operand} {i j off sz n : Nat} {cs r q : List V} (ho : o.op = .load t x) (hR : Rel C E s a) (hT : TIOk P t ti) (hx : ev s x = .sp i j off) (hob : s.ob i = some ⟨false, cs⟩) (hj : cs[j]? = some (.tr sz n r)) (hq : takeN r off ti.size = some q) (hf : ∀ c ∈ q, flat c = true) (hz0 : ti.size ≠ 0) (h : K (pack ti.agg q) s) : OpOk P C E s a o K := by
  obtain ⟨b, d, c, e, hv, hlab, hh, hrl, hrow⟩ := ev_sp hR hx hob hj
  obtain ⟨hle, hreq, hlen⟩ := takeN_some hq
  have hrow' : Rrow E .none b (d + off) 0 q := by
    refine Rrow_mk fun k v hk => ?_
    have hck : r[off + k]? = some v := by
      rw [hreq, List.getElem?_take] at hk
      split at hk
      · rwa [List.getElem?_drop] at hk
      · cases hk
    obtain ⟨u, hu, hru⟩ := Rrow_get hrow (off + k) v hck
    have hfl := hf v (List.mem_of_getElem? hk)
    refine ⟨u, by rw [Nat.add_assoc]; exact hu, ?_⟩
    have : notTr v = true := by cases v <;> simp_all [flat, notTr]
    exact Rv_unplace (Rv.unbare hru) this (fun k hk => by cases hk)
  obtain ⟨z, hz, hrz⟩ := loadVar_run hT hrow' hlen (fun hf => by rw [hlen]; exact hT.one1 hf)
  refine opOk_sem hR (c := Instr.loadAt t (a.eval x)) (by simp only [execOp, ho]) ?_ h hrz
  rw [hv]
  simpa [Instr.loadAt, Instr.sureAddr] using hz

theorem fieldAt_run {t : TypeId} {ti : TI} {f d : Nat} (hT : TIOk P t ti) (hf : nth ti.fields f = some d) (b off : Nat) (w : World) :
    (Instr.fieldAt t (.pointer (some ⟨b, off, none⟩)) f).run P w = .ok (.pointer (some ⟨b, off + d, none⟩)) w := by
  obtain ⟨ds, hd, hk⟩ := hT.desc
  cases ds <;> simp only [descOk] at hk <;> try (rw [hk.2.2.1] at hf; simp [nth] at hf)
  rename_i fs
  obtain ⟨_, hag, hfs, _, hsz, _⟩ := hk
  unfold nth at hf
  rw [← hfs, List.getElem?_map] at hf
  cases hfi : fs.toList[f]? with
  | none => rw [hfi] at hf; cases hf
  | some fd =>
    rw [hfi] at hf
    simp at hf
    subst hf
    have hfa : fs[f]? = some fd := by simpa using hfi
    obtain ⟨i, hi, hne⟩ := hsz fd (List.mem_of_getElem? hfi)
    simp [Instr.fieldAt, run_underlying hd, hfa, Instr.sureAddr, fieldPlace, sizeOf, run_typeInfo hi, hne, addr_add]
theorem op_fieldAddr_ptr {t : TypeId} {ti : TI} {x : Operand} {i off f d : Nat} {ob : Obj} (ho : o.op = .fieldAddr t x f) (hR : Rel C E s a) (hT : TIOk P t ti) (hx : ev s x = .ptr i off) (hob : s.ob i = some ob) (hf : nth ti.fields f = some d) (h : K (.ptr i (off + d)) s) : OpOk P C E s a o K := by
  refine opOk_sem hR (c := Instr.fieldAt t (a.eval x) f) (x := .pointer (some ⟨(E.ρ i).1, (E.ρ i).2 + off + d, none⟩)) (by simp only [execOp, ho]) ?_ h ⟨ob_n hR hob, _, rfl, fun _ => by rw [Nat.add_assoc]⟩
  rw [ev_ptr hR hx hob]
  exact fieldAt_run hT hf _ _ _
theorem op_fieldAddr_rp {t : TypeId} {ti : TI} {x : Operand} {cs : List V} {f d : Nat} (ho : o.op = .fieldAddr t x f) (hR : Rel C E s a) (hT : TIOk P t ti) (hx : ev s x = .rp cs) (hf : nth ti.fields f = some d) (h : K (.rp (cs.drop d)) s) : OpOk P C E s a o K := by
  have := ev_ok hR x
  rw [hx] at this
  obtain ⟨b, off, hv, hok, hb, hrow⟩ := this
  refine opOk_sem hR (c := Instr.fieldAt t (a.eval x) f) (x := .pointer (some ⟨b, off + d, none⟩)) (by simp only [execOp, ho]) ?_ h ⟨b, off + d, rfl, hok, hb, Rrow_drop hrow⟩
  rw [hv]
  exact fieldAt_run hT hf _ _ _

theorem op_fieldAddr_sp {t : TypeId} {ti : TI} {x : Operand} {i j off f d : Nat} (ho : o.op = .fieldAddr t x f) (hR : Rel C E s a) (hT : TIOk P t ti) (hx : ev s x = .sp i j off) (hf : nth ti.fields f = some d) (h : K (.sp i j (off + d)) s) : OpOk P C E s a o K := by
  have hv := ev_ok hR x
  rw [hx] at hv
  obtain ⟨hin, ad, hv, hl⟩ := hv
  obtain ⟨ds, hd, hk⟩ := hT.desc
  cases ds <;> simp only [descOk] at hk <;> try (rw [hk.2.2.1] at hf; simp [nth] at hf)
  rename_i fs
  obtain ⟨_, hag, hfs, _, hsz, _⟩ := hk
  unfold nth at hf
  rw [← hfs, List.getElem?_map] at hf
  cases hfi : fs.toList[f]? with
  | none => rw [hfi] at hf; cases hf
  | some fd =>
    rw [hfi] at hf
    simp at hf
    subst hf
    have hfa : fs[f]? = some fd := by simpa using hfi
    obtain ⟨i', hi, hne⟩ := hsz fd (List.mem_of_getElem? hfi)
    have hrun : (Instr.fieldAt t (a.eval x) f).run P E.w = .ok (.pointer (some (ad.add fd.offset))) E.w := by
      rw [hv]
      simp [Instr.fieldAt, run_underlying hd, hfa, Instr.sureAddr, fieldPlace, sizeOf, run_typeInfo hi, hne]
    refine opOk_sem hR (c := Instr.fieldAt t (a.eval x) f) (by simp only [execOp, ho]) hrun h ⟨hin, _, rfl, fun ht => ?_⟩
    obtain ⟨A, n, cap, h1, h2, rfl⟩ := hl ht
    exact ⟨A, n, cap, h1, h2, by rw [Go.Deep.add_add]⟩
theorem slice_desc {t : TypeId} {ti te : TI} {e : Nat} (hT : TIOk P t ti) (he : ti.elem = some e) : P.underlying t = some (.slice e) := by
  obtain ⟨ds, hd, hk⟩ := hT.desc
  cases ds <;> simp_all [descOk]
theorem string_desc {t : TypeId} {ti : TI} (hT : TIOk P t ti) (he : ti.str = true) : P.underlying t = some .string := by
  obtain ⟨ds, hd, hk⟩ := hT.desc
  cases ds <;> simp_all [descOk]
theorem indexAt_run {t e : TypeId} {ti te : TI} (hT : TIOk P t ti) (he : ti.elem = some e) (hE : TIOk P e te) (b off n cap : Nat) (k : IntKind) (i : Int) (h0 : 0 ≤ i ∧ i < n) (w : World) :
    (Instr.indexAt t (.slice (some ⟨b, off, none⟩) n cap) (.int k i)).run P w = .ok (.pointer (some ⟨b, off + i.toNat * te.size, none⟩)) w := by
  simp [Instr.indexAt, asIntOf, run_underlying (slice_desc (te := te) hT he), run_sizeOf hE, h0.1, h0.2, addr_add]
theorem op_indexAddr_ro {t e : TypeId} {ti te : TI} {x ix : Operand} {n : Nat} {cs : List V} {k : IntKind} {i : Int} (ho : o.op = .indexAddr t x ix) (hR : Rel C E s a) (hT : TIOk P t ti) (he : ti.elem = some e) (hE : TIOk P e te) (hx : ev s x = .ro n cs) (hi : ev s ix = .sc (.int k i)) (h0 : 0 ≤ i ∧ i < n) (hl : cs.length = n * te.size) (hz : te.size ≠ 0) (h : K (.rp (cs.drop (i.toNat * te.size))) s) : OpOk P C E s a o K := by
  have := ev_ok hR x
  rw [hx] at this
  obtain ⟨A, cap, hv, hc, hr⟩ := this
  have hne : cs ≠ [] := by
    intro h'
    rw [h'] at hl
    simp at hl
    have : n = 0 := by rcases Nat.eq_zero_or_pos n with h1 | h1; exact h1; exact absurd hl.symm (Nat.ne_of_gt (Nat.mul_pos h1 (Nat.pos_of_ne_zero hz)))
    omega
  obtain ⟨b, off, rfl, hok, hb, hrow⟩ := hr hne
  refine opOk_sem hR (c := Instr.indexAt t (a.eval x) (a.eval ix)) (by simp only [execOp, ho]) ?_ h ⟨b, off + i.toNat * te.size, rfl, hok, hb, Rrow_drop hrow⟩
  rw [hv, ev_sc hR hi]
  exact indexAt_run hT he hE _ _ _ _ _ _ h0 _
theorem op_indexAddr_own {t e : TypeId} {ti te : TI} {x ix : Operand} {q sz off n lo : Nat} {hi' : Option Nat} {ob : Obj} {k : IntKind} {i : Int} (ho : o.op = .indexAddr t x ix) (hR : Rel C E s a) (hT : TIOk P t ti) (he : ti.elem = some e) (hE : TIOk P e te) (hx : ev s x = .own q sz off n lo hi') (hob : s.ob q = some ob) (hi : ev s ix = .sc (.int k i)) (h0 : 0 ≤ i ∧ i < n) (h : K (.ptr q (off + i.toNat * te.size)) s) : OpOk P C E s a o K := by
  have := ev_ok hR x
  rw [hx] at this
  obtain ⟨_, A, cap, hv, hlv⟩ := this
  obtain ⟨hc, hlo, hhi, hr⟩ := hlv (ob_live hR hob)
  rcases hr with hr | ⟨c, e', rfl, _⟩
  · omega
  · refine opOk_sem hR (c := Instr.indexAt t (a.eval x) (a.eval ix)) (x := .pointer (some ⟨(E.ρ q).1, (E.ρ q).2 + off + i.toNat * te.size, none⟩)) (by simp only [execOp, ho]) ?_ h ⟨ob_n hR hob, _, rfl, fun _ => by rw [Nat.add_assoc]⟩
    rw [hv, ev_sc hR hi]
    exact indexAt_run hT he hE _ _ _ _ _ _ h0 _
theorem op_indexAddr_sub {t e : TypeId} {ti te : TI} {x ix : Operand} {q j n : Nat} {cs r : List V} {k : IntKind} {i : Int} (ho : o.op = .indexAddr t x ix) (hR : Rel C E s a) (hT : TIOk P t ti) (he : ti.elem = some e) (hE : TIOk P e te) (hx : ev s x = .sub q j) (hob : s.ob q = some ⟨false, cs⟩) (hj : cs[j]? = some (.tr te.size n r)) (hi : ev s ix = .sc (.int k i)) (h0 : 0 ≤ i ∧ i < n) (h : K (.sp q j (i.toNat * te.size)) s) : OpOk P C E s a o K := by
  have hv := ev_ok hR x
  rw [hx] at hv
  have hcell := hv.2.2 (isTr_of hR hob hj)
  obtain ⟨A, cap, hcell', hc, hrl, hb⟩ := sub_row hR hob hj
  rw [hcell] at hcell'
  have hxv : a.eval x = .slice A n cap := Option.some.inj hcell'
  rcases hb with h1 | ⟨b, d, c, e', hA, ho', hh, hs, hrow⟩
  · omega
  · subst hA
    refine opOk_sem hR (c := Instr.indexAt t (a.eval x) (a.eval ix)) (x := .pointer (some ⟨b, d + i.toNat * te.size, none⟩)) (by simp only [execOp, ho]) ?_ h ⟨hv.1, _, rfl, fun _ => ⟨⟨b, d, none⟩, n, cap, by rw [hcell, hxv], by omega, by rw [addr_add]⟩⟩
    rw [hxv, ev_sc hR hi]
    exact indexAt_run hT he hE _ _ _ _ _ _ h0 _
theorem bnd_run (hR : Rel C E s a) {x : Option Operand} {d y : Nat} {l : Int} {code : BoundsCode} (h : bndV s d x = some l) (h0 : 0 ≤ l ∧ l ≤ y) :
    (match x.map a.eval with
      | some v => Instr.sliceBound v y code
      | none => pure d : Sem Nat).run P E.w = .ok (l.toNat) E.w := by
  cases x with
  | none =>
    simp only [bndV, Option.some.injEq] at h
    subst h
    simp
  | some x =>
    simp only [bndV] at h
    split at h
    · rename_i k l' hx
      cases h
      rw [Option.map_some, ev_sc hR hx]
      simp [Instr.sliceBound, asIntOf, h0]
    · cases h
theorem slice_run {t e : TypeId} {ti te : TI} {x : Operand} {lo hi : Option Operand} {A : Option Addr} {n cap : Nat} {l h : Int} (ho : o.op = .slice t x lo hi none) (hR : Rel C E s a) (hT : TIOk P t ti) (he : ti.elem = some e) (hE : TIOk P e te)
    (hv : a.eval x = .slice A n cap) (hc : n ≤ cap) (hl : bndV s 0 lo = some l) (hh : bndV s n hi = some h) (hb : 0 ≤ l ∧ l ≤ h ∧ h ≤ n) :
    (Instr.sliceAt t (a.eval x) (lo.map a.eval) (hi.map a.eval) none).run P E.w = .ok (.slice (if cap = l.toNat then A else A.map (·.add (l.toNat * te.size))) (h.toNat - l.toNat) (cap - l.toNat)) E.w := by
  have hd := slice_desc (te := te) hT he
  have h1 := bnd_run (P := P) (code := .sliceAcap) (y := cap) hR hh (by omega)
  have h2 := bnd_run (P := P) (code := .sliceB) (y := h.toNat) hR hl (by omega)
  rw [hv]
  simp only [Instr.sliceAt, Sem.run_bind, run_underlying hd, Result.andThen_ok, Instr.slice, Instr.sliceBounds, Sem.run_pure]
  cases hi with
  | none =>
    simp only [bndV, Option.some.injEq] at hh
    subst hh
    cases lo with
    | none =>
      simp only [bndV, Option.some.injEq] at hl
      subst hl
      simp [run_sizeOf hE]
    | some y =>
      simp only [Option.map_some] at h2
      simp only [Option.map_none, Option.map_some, Sem.run_bind, Sem.run_pure, Result.andThen_ok, Option.isSome_none, Bool.false_eq_true, if_false]
      rw [show ((n : Int)).toNat = n from rfl] at h2
      simp [h2, run_sizeOf hE]
  | some z =>
    simp only [Option.map_some] at h1
    simp only [Option.map_some, if_true, h1, Sem.run_bind, Result.andThen_ok]
    cases lo with
    | none =>
      simp only [bndV, Option.some.injEq] at hl
      subst hl
      simp [run_sizeOf hE]
    | some y =>
      simp only [Option.map_some] at h2
      simp [run_sizeOf hE, h2]
theorem op_slice_ro {t e : TypeId} {ti te : TI} {x : Operand} {lo hi : Option Operand} {n : Nat} {cs r : List V} {l h : Int} (ho : o.op = .slice t x lo hi none) (hR : Rel C E s a) (hT : TIOk P t ti) (he : ti.elem = some e) (hE : TIOk P e te)
    (hx : ev s x = .ro n cs) (hl : bndV s 0 lo = some l) (hh : bndV s n hi = some h) (hb : 0 ≤ l ∧ l ≤ h ∧ h ≤ n) (hcl : cs.length = n * te.size) (hr : takeN cs (l.toNat * te.size) ((h.toNat - l.toNat) * te.size) = some r) (hK : K (.ro (h.toNat - l.toNat) r) s) : OpOk P C E s a o K := by
  have hv := ev_ok hR x
  rw [hx] at hv
  obtain ⟨A, cap, hv, hc, hrow⟩ := hv
  refine opOk_sem hR (c := Instr.sliceAt t (a.eval x) (lo.map a.eval) (hi.map a.eval) ((none : Option Operand).map a.eval)) (by simp only [execOp, ho]) (slice_run ho hR hT he hE hv hc hl hh hb) hK ?_
  refine ⟨_, _, rfl, by omega, fun hne => ?_⟩
  obtain ⟨hle, hreq, hrl⟩ := takeN_some hr
  have hcs : cs ≠ [] := by
    intro h0
    rw [h0] at hreq
    simp at hreq
    exact hne hreq
  obtain ⟨b, off, hA, hok, hbl, hrw⟩ := hrow hcs
  have hlt : ¬ cap = l.toNat := by
    intro h0
    have : h.toNat - l.toNat = 0 := by omega
    rw [this, Nat.zero_mul] at hrl
    exact hne (List.eq_nil_of_length_eq_zero hrl)
  refine ⟨b, off + l.toNat * te.size, by rw [if_neg hlt, hA, Option.map_some, addr_add], hok, hbl, ?_⟩
  rw [hreq]
  exact Rrow_take (Rrow_drop hrw)
theorem op_slice_own {t e : TypeId} {ti te : TI} {x : Operand} {lo hi : Option Operand} {i sz off n lo0 : Nat} {hi0 : Option Nat} {ob : Obj} {l h : Int} (ho : o.op = .slice t x lo hi none) (hR : Rel C E s a) (hT : TIOk P t ti) (he : ti.elem = some e) (hE : TIOk P e te)
    (hx : ev s x = .own i sz off n lo0 hi0) (hl : bndV s 0 lo = some l) (hh : bndV s n hi = some h) (hob : s.ob i = some ob) (hsz : sz = te.size) (hb : 0 ≤ l ∧ l ≤ h ∧ h ≤ n) (hK : K (.own i sz (off + l.toNat * sz) (h.toNat - l.toNat) (h.toNat - l.toNat) none) s) : OpOk P C E s a o K := by
  have hv := ev_ok hR x
  rw [hx] at hv
  obtain ⟨hin, A, cap, hv, hlv⟩ := hv
  obtain ⟨hc, hlo, hhi, hbl⟩ := hlv (ob_live hR hob)
  refine opOk_sem hR (c := Instr.sliceAt t (a.eval x) (lo.map a.eval) (hi.map a.eval) ((none : Option Operand).map a.eval)) (by simp only [execOp, ho]) (slice_run ho hR hT he hE hv hc hl hh hb) hK ?_
  refine ⟨hin, _, _, rfl, fun _ => ⟨by omega, by omega, fun h hh => (by cases hh), ?_⟩⟩
  by_cases hlt : cap = l.toNat
  · left; omega
  · rcases hbl with h0 | ⟨c, e', hA, hol, hhe, hsz'⟩
    · left; omega
    · right
      refine ⟨c, e', by rw [if_neg hlt, hA, Option.map_some, addr_add, Nat.add_assoc, hsz], hol, hhe, ?_⟩
      have h1 : l.toNat * sz + (cap - l.toNat) * sz = cap * sz := by rw [← Nat.add_mul]; congr 1; omega
      omega
theorem op_index {t : TypeId} {x ix : Operand} {b : ByteArray} {k : IntKind} {i : Int} (ho : o.op = .index t x ix) (hR : Rel C E s a) (hu : P.underlying t = some .string) (hx : ev s x = .sc (.string b)) (hi : ev s ix = .sc (.int k i)) (h0 : 0 ≤ i ∧ i.toNat < b.size) (h : K (.sc (.int .u8 ((b[i.toNat]'h0.2).toNat : Int))) s) : OpOk P C E s a o K := by
  refine opOk_sem hR (c := Instr.index t (a.eval x) (a.eval ix)) (by simp only [execOp, ho]) ?_ h ⟨rfl, rfl⟩
  rw [ev_sc hR hx, ev_sc hR hi]
  simp [Instr.index, asIntOf, run_underlying hu, h0.1, h0.2]
theorem op_len {x : Operand} {n : Nat} {t : TypeId} {ts : Array TypeId} (ho : o.op = .call { callee := .builtin .len, args := #[x], argTypes := ts }) (hR : Rel C E s a) (ht : ts[0]? = some t) (hu : (∃ e, P.underlying t = some (.slice e)) ∨ P.underlying t = some .string)
    (hcx : (∃ A cap, a.eval x = .slice A n cap ∧ ∃ e, P.underlying t = some (.slice e)) ∨ ∃ z, a.eval x = .string z ∧ z.size = n ∧ P.underlying t = some .string) (h : K (.sc (.int .i64 n)) s) : OpOk P C E s a o K := by
  refine opOk_here hR (x := .int .i64 n) ?_ h ⟨rfl, rfl⟩
  simp only [execOp, ho, resolve]
  rcases hcx with ⟨A, cap, hv, e, he⟩ | ⟨z, hv, hz, he⟩
  · simp [hv, invoke, builtin, Builtin.len_, ht, run_underlying he, goInt]
  · simp [hv, invoke, builtin, Builtin.len_, ht, run_underlying he, goInt, hz]
end
end Go.Proofs.YtiplgkbgkmomlaaD
