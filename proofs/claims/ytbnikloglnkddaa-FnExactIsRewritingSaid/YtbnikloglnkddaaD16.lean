/- Every operation does what its condition says. -/
import Derived.Test.YtbnikloglnkddaaD15e
import Derived.Laws.BytesString
set_option linter.unusedVariables false
set_option linter.unusedSimpArgs false
namespace Go.Proofs.YtbnikloglnkddaaD
open Go Go.RowKit

section
variable {P : Program} {Γ : Tab} {C : Ctx} {E : Env} {s : St} {a : Act} {o : Oper} {K : V → St → Prop} {l : Bool}

theorem arr1 {α : Type} {as : Array α} {x : α} (h : as.toList = [x]) : as = #[x] := Array.toList_inj.1 h
theorem arr2 {α : Type} {as : Array α} {x y : α} (h : as.toList = [x, y]) : as = #[x, y] := Array.toList_inj.1 h
theorem op_convert {src dst : TypeId} {x : Operand} {ti : TI} {k k' : IntKind} {n : Int} (ho : o.op = .convert src dst x) (hR : Rel C E s a) (hT : TIOk P dst ti) (hk : ti.kind = some k) (hS : ∃ k0, P.underlying src = some (.int k0)) (hx : ev s x = .sc (.int k' n)) (h : K (.sc (.int k (k.wrap n))) s) : OpOk P C E s a o K := by
  obtain ⟨k0, hs⟩ := hS
  obtain ⟨ds, hd, hdk⟩ := hT.desc
  have hdd : P.underlying dst = some (.int k) := by cases ds <;> simp_all [descOk]
  refine opOk_sem hR (c := convert src dst (a.eval x)) (by simp only [execOp, ho]) ?_ h ⟨rfl, rfl⟩
  rw [ev_sc hR hx]
  simp [convert, run_underlying hs, run_underlying hdd, Conv.intToInt]

theorem byte_get {bs : List Int} {j : Nat} {v : Value} (h : (bs.map (Value.int .u8))[j]? = some v) : ∃ b, bs[j]? = some b ∧ v = .int .u8 b := by
  rw [List.getElem?_map] at h
  cases hb : bs[j]? with
  | none => rw [hb] at h; cases h
  | some b => rw [hb] at h; cases h; exact ⟨b, rfl, rfl⟩
theorem op_bytesStr {src dst e : TypeId} {x : Operand} {td ts te : TI} {i off n lo : Nat} {hi : Option Nat} {cs : List V} {bs : List Int} (ho : o.op = .convert src dst x) (hR : Rel C E s a) (hT : TIOk P dst td) (hstr : td.str = true) (hS : TIOk P src ts) (he : ts.elem = some e) (hE : TIOk P e te) (hk : te.kind = some .u8)
    (hx : ev s x = .own i 1 off n lo hi) (hob : s.ob i = some ⟨false, cs⟩) (hr : takeN cs off n = some (bs.map fun b => V.sc (.int .u8 b))) (h : K (.sc (.string (bytesOf bs))) s) : OpOk P C E s a o K := by
  have hv := ev_ok hR x
  rw [hx] at hv
  obtain ⟨_, A, cap, hv, hlv⟩ := hv
  obtain ⟨hc, hlo, hhi, hrr⟩ := hlv (ob_live hR hob)
  obtain ⟨hle, hreq, hlen⟩ := takeN_some hr
  rw [List.length_map] at hlen
  have hd : P.underlying dst = some .string := by
    obtain ⟨d, hd, hk⟩ := hT.desc
    cases d <;> simp_all [descOk]
  have hs : P.underlying src = some (.slice e) := by
    obtain ⟨d, hd, hk⟩ := hS.desc
    cases d <;> simp_all [descOk]
  have hee : P.underlying e = some (.int .u8) := by
    obtain ⟨d, hd, hk'⟩ := hE.desc
    cases d <;> simp_all [descOk]
  refine opOk_sem hR (c := convert src dst (a.eval x)) (by simp only [execOp, ho]) ?_ h ⟨rfl, rfl⟩
  rw [hv, run_convert_bytes_string _ src dst e A n cap hs hee hd]
  have hcells : ∀ A', A = some A' → (loadCells A' n).run P E.w = .ok (bs.map (Value.int .u8)).toArray E.w := by
    rintro A' rfl
    by_cases hn0 : n = 0
    · obtain rfl : bs = [] := List.eq_nil_of_length_eq_zero (by omega)
      subst hn0
      exact run_loadCells_list (P := P) E.w A' [] (fun j v hj => by simp at hj)
    rcases hrr with h0 | ⟨c, ee, hA, _, _, _⟩
    · omega
    · cases hA
      rcases hR.ob i _ hob with h0 | ⟨c, e', hh, hlab, hrow⟩
      · rw [h0] at hle; simp at hle; omega
      · have := run_loadCells_list (P := P) E.w ⟨(E.ρ i).1, (E.ρ i).2 + off, none⟩ (bs.map (Value.int .u8)) (fun j v hj => by
          obtain ⟨b, hb, rfl⟩ := byte_get hj
          have hjl : j < n := by have := (List.getElem?_eq_some_iff.1 hb).1; omega
          have hcj : cs[off + j]? = some (V.sc (.int .u8 b)) := by
            have h1 : (bs.map fun b => V.sc (.int .u8 b))[j]? = some (V.sc (.int .u8 b)) := by rw [List.getElem?_map, hb]; rfl
            rw [hreq, List.getElem?_take, if_pos hjl, List.getElem?_drop] at h1
            exact h1
          obtain ⟨u, hu, hru⟩ := Rrow_get hrow (off + j) _ hcj
          have hu' : E.w.cell? ⟨(E.ρ i).1, (E.ρ i).2 + (off + j), none⟩ = some u := hu
          rw [addr_add, Nat.add_assoc, hu', hru.1])
        rwa [List.length_map, hlen] at this
  cases A with
  | none =>
    have hn0 : n = 0 := by
      rcases hrr with h0 | ⟨c, ee, hA, _⟩
      · omega
      · cases hA
    obtain rfl : bs = [] := List.eq_nil_of_length_eq_zero (by omega)
    simp [Conv.bytesToString, Sem.run_pure, bytesOf]
  | some A' => exact run_bytesToString E.w A' n cap bs (hcells A' rfl)

theorem bif_true {b : Bool} {p : Prop} (h : bif b then p else False) : b = true ∧ p := by cases b <;> simp_all
theorem bif_false {b : Bool} {p : Prop} (h : bif b then False else p) : b = false ∧ p := by cases b <;> simp_all
theorem beq_ne {n : Nat} (h : Nat.beq n 0 = false) : n ≠ 0 := fun he => by rw [he] at h; simp at h

theorem sound_load {t : TypeId} {x : Operand} (hop : o.op = .load t x) (hΓ : TabOk P Γ) (hR : Rel C E s a) (h : opVC Γ (SpecR P) l o s K) : OpOk P C E s a o K := by
  unfold opVC at h
  rw [hop] at h
  simp only at h
  cases hx : ev s x <;> cases ht : Γ t <;> rw [hx, ht] at h <;> simp only at h <;> try exact h.elim
  · rename_i i off ti
    cases hob : s.ob i with
    | none => rw [hob] at h; exact h.elim
    | some ob =>
    obtain ⟨bx, cs⟩ := ob
    rw [hob] at h
    cases bx with
    | true =>
      simp only at h
      cases hr : takeN cs off ti.size with
      | none => rw [hr] at h; exact h.elim
      | some r => rw [hr] at h; exact op_load_box hop hR (hΓ _ _ ht) hx hob hr h
    | false =>
      obtain ⟨h0, r, hr, hK⟩ := bif_false h
      exact op_load_row hop hR (hΓ _ _ ht) hx hob hr hK (beq_ne h0)
  · obtain ⟨r, hr, hK⟩ := h
    exact op_load_rp hop hR (hΓ _ _ ht) hx hr hK
  · rename_i i j off ti
    cases hob : s.ob i with
    | none => rw [hob] at h; exact h.elim
    | some ob =>
    obtain ⟨bx, cs⟩ := ob
    rw [hob] at h
    cases bx with
    | true => exact h.elim
    | false =>
      obtain ⟨h0, sz, n, r, q, hj, hq, hf, hK⟩ := bif_false h
      exact op_load_sp hop hR (hΓ _ _ ht) hx hob hj hq hf (beq_ne h0) hK

theorem sound_store {t : TypeId} {x y : Operand} (hop : o.op = .store t x y) (hΓ : TabOk P Γ) (hR : Rel C E s a) (h : opVC Γ (SpecR P) l o s K) : OpOk P C E s a o K := by
  unfold opVC at h
  rw [hop] at h
  simp only at h
  cases hx : ev s x <;> cases hy : cellsV s (ev s y) <;> cases ht : Γ t <;> rw [hx, hy, ht] at h <;> simp only at h <;> try exact h.elim
  · rename_i i off vs ti
    obtain ⟨hl, h⟩ := bif_true h
    have hl' := Nat.eq_of_beq_eq_true hl
    cases hob : s.ob i with
    | none => rw [hob] at h; exact h.elim
    | some ob =>
    obtain ⟨bx, cs⟩ := ob
    rw [hob] at h
    cases bx with
    | true =>
      obtain ⟨hb, hK⟩ := bif_true h
      simp only [Bool.and_eq_true] at hb
      exact op_store_box hop hR (hΓ _ _ ht) hx hy hl' hob hb.1 (Nat.le_of_ble_eq_true hb.2) hK
    | false =>
      obtain ⟨hz, h⟩ := bif_false h
      split at h
      · rename_i hfl
        obtain ⟨r, hr, _, rfl, hK⟩ := h
        exact op_store_row hop hR (hΓ _ _ ht) hx hy hl' hob hfl hr (beq_ne hz) hK
      · obtain ⟨hns, r, hr, hK⟩ := bif_true h
        simp only [Bool.and_eq_true] at hns
        refine op_store_nested hop hR (hΓ _ _ ht) hx hy hl' hob hr (beq_ne hz) hns.2.1 hns.2.2 (intos_imp (fun us s1 h1 => ?_) hK)
        split at h1
        · rename_i cs1 hc1
          obtain ⟨h1, _, rfl, h2⟩ := h1
          rw [hc1]
          exact ⟨h1, h2⟩
        · exact h1.elim
  · rename_i i j off vs ti
    obtain ⟨hb, h⟩ := bif_true h
    simp only [Bool.and_eq_true, Bool.not_eq_true'] at hb
    split at h
    · rename_i cs hob
      obtain ⟨sz, n, r, q, hj, hq, _, rfl, hK⟩ := h
      exact op_store_sp hop hR (hΓ _ _ ht) hx hy (Nat.eq_of_beq_eq_true hb.1.1) hob hb.1.2 hj hq (beq_ne hb.2) hK
    · exact h.elim

theorem sound_fieldAddr {t : TypeId} {x : Operand} {f : Nat} (hop : o.op = .fieldAddr t x f) (hΓ : TabOk P Γ) (hR : Rel C E s a) (h : opVC Γ (SpecR P) l o s K) : OpOk P C E s a o K := by
  unfold opVC at h
  rw [hop] at h
  simp only at h
  cases ht : Γ t with
  | none => rw [ht] at h; cases hx : ev s x <;> rw [hx] at h <;> exact h.elim
  | some ti =>
  rw [ht] at h
  cases hf : nth ti.fields f with
  | none => simp only [Option.bind_some, hf] at h; cases hx : ev s x <;> rw [hx] at h <;> exact h.elim
  | some d =>
  simp only [Option.bind_some, hf] at h
  cases hx : ev s x <;> rw [hx] at h <;> simp only at h <;> try exact h.elim
  · rename_i i off
    cases hob : s.ob i with
    | none => rw [hob] at h; exact h.elim
    | some ob => rw [hob] at h; exact op_fieldAddr_ptr hop hR (hΓ _ _ ht) hx hob hf h
  · exact op_fieldAddr_rp hop hR (hΓ _ _ ht) hx hf h
  · exact op_fieldAddr_sp hop hR (hΓ _ _ ht) hx hf h

theorem elem_of {t : TypeId} {te : TI} (hΓ : TabOk P Γ) (h : ((Γ t).bind fun ti => ti.elem.bind Γ) = some te) : ∃ ti e, TIOk P t ti ∧ ti.elem = some e ∧ TIOk P e te := by
  cases ht : Γ t with
  | none => rw [ht] at h; cases h
  | some ti =>
    rw [ht] at h
    simp only [Option.bind_some] at h
    cases he : ti.elem with
    | none => rw [he] at h; cases h
    | some e => rw [he] at h; exact ⟨ti, e, hΓ _ _ ht, he, hΓ _ _ h⟩

theorem sound_indexAddr {t : TypeId} {x ix : Operand} (hop : o.op = .indexAddr t x ix) (hΓ : TabOk P Γ) (hR : Rel C E s a) (h : opVC Γ (SpecR P) l o s K) : OpOk P C E s a o K := by
  unfold opVC at h
  rw [hop] at h
  simp only at h
  split at h
  · rename_i hx hi ht
    obtain ⟨ti, e, hT, he, hE⟩ := elem_of hΓ ht
    obtain ⟨hz, h1, h2, hK⟩ := bif_false h
    exact op_indexAddr_ro hop hR hT he hE hx hi h1 h2 (beq_ne hz) hK
  · rename_i hx hi ht
    obtain ⟨ti, e, hT, he, hE⟩ := elem_of hΓ ht
    split at h
    · rename_i ob hob
      obtain ⟨hz, h1, hK⟩ := bif_true h
      exact op_indexAddr_own hop hR hT he hE hx hob hi h1 hK
    · exact h.elim
  · rename_i hx hi ht
    obtain ⟨ti, e, hT, he, hE⟩ := elem_of hΓ ht
    split at h
    · rename_i cs hob
      obtain ⟨n, r, hj, h1, hK⟩ := h
      exact op_indexAddr_sub hop hR hT he hE hx hob hj hi h1 hK
    · exact h.elim
  · exact h.elim

theorem sound_len {args : Array Operand} {ts : Array TypeId} (hop : o.op = .call { callee := .builtin .len, args, argTypes := ts }) (hΓ : TabOk P Γ) (hR : Rel C E s a) (h : opVC Γ (SpecR P) l o s K) : OpOk P C E s a o K := by
  unfold opVC at h
  rw [hop] at h
  simp only at h
  split at h
  · rename_i x t hargs hts
    have h1 := arr1 hargs
    have h2 := arr1 hts
    subst h1; subst h2
    split at h
    · rename_i b ti hx ht
      obtain ⟨hst, hK⟩ := bif_true h
      refine op_len hop hR (t := t) (by simp) (.inr (string_desc (hΓ _ _ ht) hst)) (.inr ⟨b, ev_sc hR hx, rfl, string_desc (hΓ _ _ ht) hst⟩) hK
    · rename_i ti hx hv
      split at h
      · rename_i e n he hn
        have hsl := slice_desc (te := ti) (hΓ _ _ hx) he
        rcases lenV_ok hR hn (ev_ok hR x) with ⟨A, cap, hA⟩ | ⟨z, hz, hzs⟩
        · exact op_len hop hR (t := t) (by simp) (.inl ⟨e, hsl⟩) (.inl ⟨A, cap, hA, e, hsl⟩) h
        · exfalso
          have hvx := ev_ok hR x
          rw [hz] at hvx
          generalize hq : ev s x = u at hvx hn hv
          cases u <;> simp only [lenV, Option.some.injEq, reduceCtorEq] at hn
          · obtain ⟨h1, _⟩ := hvx
            subst h1
            exact hv z rfl
          · obtain ⟨A, cap, h1, _⟩ := hvx; cases h1
          · obtain ⟨_, A, cap, h1, _⟩ := hvx; cases h1
          · obtain ⟨_, ⟨A, nn, cap, h1⟩, _⟩ := hvx; cases h1
      · exact h.elim
    · exact h.elim
  · exact h.elim

theorem op_sound (hΓ : TabOk P Γ) (hR : Rel C E s a) (h : opVC Γ (SpecR P) l o s K) : OpOk P C E s a o K := by
  have h0 := h
  unfold opVC at h
  split at h
  · rename_i x hop; exact op_move hop hR h
  · rename_i x hop; exact op_assign hop hR h
  · rename_i c x y hop
    split at h
    · rename_i t hc
      cases t with
      | true => exact op_pick hop hR hc (fun _ => h) (fun h => by cases h)
      | false => exact op_pick hop hR hc (fun h => by cases h) (fun _ => h)
    · exact h.elim
  · rename_i op t x y t' hop
    split at h
    · rename_i k m k' n hx hy
      obtain ⟨hk, h⟩ := bif_true h
      exact op_binI hop hR hx hy hk h
    · rename_i m n hx hy; exact op_binS hop hR hx hy h
    · rename_i m n hx hy
      have hu : ∀ {b : Bool}, (Γ t).map (·.boo) = some true → P.underlying t = some .bool := by
        intro b hb
        cases ht : Γ t with
        | none => rw [ht] at hb; cases hb
        | some ti =>
          rw [ht] at hb
          obtain ⟨ds, hd, hk⟩ := (hΓ _ _ ht).desc
          cases ds <;> simp_all [descOk]
      split at h
      · rename_i hb; exact op_binB hop hR (hu (b := true) hb) hx hy (.inl ⟨rfl, h⟩)
      · rename_i hb; exact op_binB hop hR (hu (b := true) hb) hx hy (.inr ⟨rfl, h⟩)
      · exact h.elim
    · rename_i n cs hx hy
      obtain ⟨hne, h⟩ := h
      cases ht : Γ t with
      | none => rw [ht] at h; cases op <;> exact h.elim
      | some ti =>
      cases he : ti.elem with
      | none => rw [ht] at h; simp only [Option.bind_some, he] at h; cases op <;> exact h.elim
      | some e =>
      rw [ht] at h
      simp only [Option.bind_some, he] at h
      have hv := ev_ok hR x
      rw [hx] at hv
      obtain ⟨A, cap, hxv, hc, hr⟩ := hv
      obtain ⟨b, d, rfl, _⟩ := hr hne
      exact op_nil hop hR (hΓ _ _ ht) he hxv (ev_sc hR hy) h
    · rename_i hx hy
      cases ht : Γ t with
      | none => rw [ht] at h; cases op <;> exact h.elim
      | some ti =>
      cases he : ti.elem with
      | none => rw [ht] at h; simp only [Option.bind_some, he] at h; cases op <;> exact h.elim
      | some e =>
      rw [ht] at h
      simp only [Option.bind_some, he] at h
      exact op_nil hop hR (hΓ _ _ ht) he (ev_sc hR hx) (ev_sc hR hy) h
    · exact h.elim
  · rename_i t x hop
    split at h
    · rename_i b hx; exact op_not hop hR hx h
    · exact h.elim
  · rename_i t x hop
    split at h
    · rename_i k n hx; exact op_neg hop hR hx h
    · exact h.elim
  · rename_i x ix hop
    split at h
    · rename_i vs hx
      split at h
      · rename_i v hv; exact op_extract hop hR hx hv h
      · exact h.elim
    · exact h.elim
  · rename_i t hop
    split at h
    · rename_i ti ht; exact op_alloc hop hR (hΓ _ _ ht) h
    · exact h.elim
  · rename_i t x hop
    split at h
    · rename_i cs hc; exact op_box hop hR hc h
    · exact h.elim
  · rename_i x hop
    split at h
    · rename_i i off hx
      split at h
      · rename_i ob hob; exact op_nilCheck_ptr hop hR hx (by rw [hob]; rfl) h
      · exact h.elim
    · rename_i cs hx; exact op_nilCheck_rp hop hR hx h
    · exact h.elim
  · rename_i hop; exact sound_load hop hΓ hR h0
  · rename_i hop; exact sound_store hop hΓ hR h0
  · rename_i hop; exact sound_fieldAddr hop hΓ hR h0
  · rename_i hop; exact sound_indexAddr hop hΓ hR h0
  · rename_i t x ix hop
    split at h
    · rename_i b k i hx hi
      obtain ⟨⟨ti, ht, hst⟩, hb, hK⟩ := h
      exact op_index hop hR (string_desc (hΓ _ _ ht) hst) hx hi hb hK
    · exact h.elim
  · rename_i t parts hop
    split at h
    · rename_i ti ht
      obtain ⟨hfl, h⟩ := bif_false h
      split at h
      · rename_i cs hf
        exact op_build hop hR (hΓ _ _ ht) (fun hn => by rw [hn] at hfl; simp at hfl) hf h
      · exact h.elim
    · exact h.elim
  · rename_i t len parts hop
    split at h
    · rename_i te ht
      obtain ⟨ti, e, hT, he, hE⟩ := elem_of hΓ ht
      obtain ⟨hb, h⟩ := bif_true h
      simp only [Bool.and_eq_true, Bool.not_eq_true'] at hb
      split at h
      · rename_i cs hf; exact op_buildSlice hop hR hT he hE (Nat.le_of_ble_eq_true hb.1) (beq_ne hb.2) hf h
      · exact h.elim
    · exact h.elim
  · rename_i t x lo hi hop
    split at h
    · rename_i n cs te hx ht
      obtain ⟨ti, e, hT, he, hE⟩ := elem_of hΓ ht
      split at h
      · rename_i l hh hl hhh
        obtain ⟨hb, hcl, r, hr, hK⟩ := h
        exact op_slice_ro hop hR hT he hE hx hl hhh hb hcl hr hK
      · exact h.elim
    · rename_i i sz off n lo0 hi0 te hx ht
      obtain ⟨ti, e, hT, he, hE⟩ := elem_of hΓ ht
      split at h
      · rename_i l hh ob hl hhh hob
        obtain ⟨hz, hb, hK⟩ := bif_true h
        exact op_slice_own hop hR hT he hE hx hl hhh hob (Nat.eq_of_beq_eq_true hz) hb hK
      · exact h.elim
    · exact h.elim
  · rename_i t x lo hi mx hop
    split at h
    · rename_i n cs te km m hx ht hm
      obtain ⟨ti, e, hT, he, hE⟩ := elem_of hΓ ht
      split at h
      · rename_i l hh hl hhh
        obtain ⟨hb, hcl, r, hr, hK⟩ := h
        exact op_slice3_ro hop hR hT he hE hx hm hl hhh hb hcl hr hK
      · exact h.elim
    · rename_i i sz off n lo0 hi0 te km m hx ht hm
      obtain ⟨ti, e, hT, he, hE⟩ := elem_of hΓ ht
      split at h
      · rename_i l hh ob hl hhh hob
        obtain ⟨hz, hb, hK⟩ := bif_true h
        exact op_slice3_own hop hR hT he hE hx hm hl hhh hob (Nat.eq_of_beq_eq_true hz) hb hK
      · exact h.elim
    · exact h.elim
  · rename_i t x y hop
    split at h
    · rename_i k l k' c te hx hy ht
      obtain ⟨ti, e, hT, he, hE⟩ := elem_of hΓ ht
      obtain ⟨hb, hlc, r, hr, hK⟩ := bif_true h
      simp only [Bool.and_eq_true, Bool.not_eq_true'] at hb
      exact op_makeSlice hop hR hT he hE (Nat.le_of_ble_eq_true hb.1) (beq_ne hb.2) hx hy hlc hr hK
    · exact h.elim
  · rename_i src dst x hop
    split at h
    · rename_i k' n k k0 hx hk hs
      cases hd : Γ dst with
      | none => rw [hd] at hk; cases hk
      | some ti =>
      cases hsrc : Γ src with
      | none => rw [hsrc] at hs; cases hs
      | some ts =>
      rw [hd] at hk; rw [hsrc] at hs
      obtain ⟨ds, hds, hdk⟩ := (hΓ _ _ hsrc).desc
      refine op_convert hop hR (hΓ _ _ hd) hk ⟨k0, ?_⟩ hx h
      simp only [Option.bind_some] at hs
      cases ds <;> simp_all [descOk]
    · rename_i i sz off n _ _ hx hk hs
      obtain ⟨hb, hh⟩ := bif_true h
      clear h
      simp only [Bool.and_eq_true] at hb
      obtain rfl := Nat.eq_of_beq_eq_true hb.2
      split at hh
      · rename_i cs td te hob hd hte
        obtain ⟨ts, e, hT, he, hE⟩ := elem_of hΓ hte
        obtain ⟨⟨hstr, hu8⟩, bs, hr, hK⟩ := hh
        exact op_bytesStr hop hR (hΓ _ _ hd) hstr hT he hE hu8 hx hob hr hK
      · exact hh.elim
    · exact h.elim
  · rename_i hop; exact sound_len hop hΓ hR h0
  · rename_i args ts hop
    split at h
    · rename_i x y t u hargs hts
      have h1 := arr2 hargs
      have h2 := arr2 hts
      subst h1; subst h2
      split at h
      · rename_i te e' ht hu
        obtain ⟨ti, e, hT, he, hE⟩ := elem_of hΓ ht
        cases hu' : Γ u with
        | none => rw [hu'] at hu; cases hu
        | some tu =>
        rw [hu'] at hu
        obtain ⟨hb, h⟩ := bif_true h
        simp only [Bool.and_eq_true, Bool.not_eq_true'] at hb
        cases hsb : selfB (ev s x) (ev s y) with
        | true =>
          rw [hsb] at h
          exact op_append_self hop hR hT he hE (hΓ _ _ hu') hu (Nat.le_of_ble_eq_true hb.1) (beq_ne hb.2) hsb h
        | false =>
          rw [hsb] at h
          exact op_append hop hR hT he hE (hΓ _ _ hu') hu (Nat.le_of_ble_eq_true hb.1) (beq_ne hb.2) h
      · exact h.elim
    · exact h.elim
  · rename_i args ts hop
    split at h
    · rename_i x y hargs
      have h1 := arr2 hargs
      subst h1
      split at h
      · rename_i k m k' n hx hy; exact op_max hop hR hx hy h
      · exact h.elim
    · exact h.elim
  · rename_i args ts hop
    split at h
    · rename_i x y hargs
      have h1 := arr2 hargs
      subst h1
      split at h
      · rename_i k m k' n hx hy; exact op_min hop hR hx hy h
      · exact h.elim
    · exact h.elim
  · rename_i f args ts hop
    refine op_calls hR l (evs_ok hR args.toList) (fun w hen => exec_call hop hen w) h
  · rename_i t args ts hop
    split at h
    · rename_i f cs hf
      have hv := hR.slot t
      rw [hf] at hv
      obtain ⟨ys, hy, hys⟩ := hv
      exact op_callsV hR l (Rvs_app (evs_ok hR args.toList) hys) (fun w hen => exec_callV hop hy hen w) h
    · exact h.elim
  · rename_i f first captured hop
    split at h
    · rename_i h1; exact op_makeFunc hop h1 hR h
    · exact h.elim
  · exact h.elim
end
end Go.Proofs.YtbnikloglnkddaaD
