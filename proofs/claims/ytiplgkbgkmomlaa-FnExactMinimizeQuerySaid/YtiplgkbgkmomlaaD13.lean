/- append, carried out. -/
import Derived.Test.YtiplgkbgkmomlaaD12
import Derived.Laws.AppendOwn
set_option linter.unusedVariables false
set_option linter.unusedSimpArgs false
namespace Go.Proofs.YtiplgkbgkmomlaaD
open Go

section
variable {P : Program} {Γ : Tab} {C : Ctx} {E : Env} {s : St} {a : Act} {o : Oper} {K : V → St → Prop}

/-- A block that no named object owns is written. -/
def Env.wrx (E : Env) (w' : World) : Env := { E with w := w' }
theorem wrx_mono {w' : World} {k b off : Nat} {p : List Nat} {xs : List Value} (hR : Rel C E s a) (hw : Wrote E.w w' b off xs) (hlab : E.o b = some (k :: p)) (hk : E.n ≤ k) : Mono E (E.wrx w') := by
  refine ⟨Nat.le_of_eq hw.size.symm, fun b' hb' hok => ⟨hok, hw.other b' ?_⟩, Nat.le_refl _, fun j hj hl => ⟨hl, rfl, id, fun c e hc => ?_⟩, fun j c hj ht => ⟨ht, ?_⟩⟩
  · intro he
    rw [hR.okb, he, hlab] at hok
    cases hok
  · by_cases he : (E.ρ j).1 = b
    · rw [he] at hc ⊢
      obtain ⟨c', h1, h2, _⟩ := hw.row c e hc
      exact ⟨c', h1, h2⟩
    · exact ⟨c, by rw [← hc]; exact hw.other _ he, rfl⟩
  · refine cell_heap (hw.other _ ?_)
    obtain ⟨cs, sz, n, r, hg, hkk⟩ := ht
    rw [show (E.wrx w').g = E.g from rfl, hR.g] at hg
    rcases hR.ob j _ hg with h0 | ⟨c', e, _, hl, _⟩
    · rw [h0] at hkk; simp at hkk
    · intro he
      rw [he, hlab] at hl
      simp at hl
      omega
theorem wrx_kept {w' : World} {k b off : Nat} {p q : List Nat} {xs : List Value} (hw : Wrote E.w w' b off xs) (hlab : E.o b = some (k :: p)) (hq : ∀ r, q ++ r ≠ k :: p) : Kept E (E.wrx w') q := fun b' r hb' => by
  refine ⟨hb', hw.other b' fun he => ?_⟩
  rw [he, hlab] at hb'
  exact hq r (Option.some.inj hb').symm
theorem rel_wrx {w' : World} {k b off : Nat} {p : List Nat} {xs : List Value} (hR : Rel C E s a) (hw : Wrote E.w w' b off xs) (hlab : E.o b = some (k :: p)) (hk : E.n ≤ k) : Rel C (E.wrx w') s a := by
  have hm := wrx_mono hR hw hlab hk
  refine ⟨hR.size, hR.nd, fun k => (hR.slot k).slot hm, hR.g, hR.n, fun j x hx => ?_, hR.okb, fun b' p' hp => ?_, fr_wrote (i := 0) hR.fr hw ((hR.lab _ _ hlab).2.resolve_left (by simp)), hR.old, hR.pin.mono hm⟩
  · have hj := ob_n hR hx
    exact ObR.mono hm rfl (wrx_kept hw hlab (fun r hr => by simp at hr; omega)) (hR.ob j x hx)
  · obtain ⟨h1, h2⟩ := hR.lab b' p' hp
    exact ⟨by show b' < w'.heap.size; rw [hw.size]; exact h1, h2⟩

/-- A new name over blocks that are there. -/
def Env.addO (E : Env) (p : Nat × Nat) (ob : Obj) : Env := { E with ρ := fun i => if i = E.n then p else E.ρ i, g := fun i => if i = E.n then some ob else E.g i, n := E.n + 1 }
theorem addO_mono (E : Env) (p : Nat × Nat) (ob : Obj) : Mono E (E.addO p ob) := by
  refine ⟨Nat.le_refl _, fun _ _ h => ⟨h, rfl⟩, Nat.le_succ _, fun i hi hl => ?_, fun i j hi ht => ?_⟩
  · have hne : i ≠ E.n := Nat.ne_of_lt hi
    simp only [Env.addO, if_neg hne] at hl ⊢
    exact ⟨hl, trivial, id, fun c e h => ⟨c, h, rfl⟩⟩
  · have hne : i ≠ E.n := Nat.ne_of_lt hi
    obtain ⟨cs, sz, n, r, hg, hj⟩ := ht
    simp only [Env.addO, if_neg hne] at hg
    exact ⟨⟨cs, sz, n, r, hg, hj⟩, rfl⟩
theorem addO_kept (E : Env) (p : Nat × Nat) (ob : Obj) (q : List Nat) : Kept E (E.addO p ob) q := fun _ _ h => ⟨h, rfl⟩
theorem rel_addO (hR : Rel C E s a) {p : Nat × Nat} {ob : Obj} {k : Nat} (hk : E.n = k) (hob : ObR (E.addO p ob) k ob) : Rel C (E.addO p ob) (s.add ob) a := by
  subst hk
  have hm := addO_mono E p ob
  refine ⟨hR.size, hR.nd, fun k => (hR.slot k).slot hm, ?_, ?_, ?_, hR.okb, hR.lab, hR.fr, hR.old, hR.pin.mono hm⟩
  · funext i
    simp only [Env.addO, St.ob, St.add, obOf_append, hR.n]
    rw [hR.g]
    rfl
  · simp [Env.addO, St.add, hR.n]
  · intro i x hx
    simp only [St.ob, St.add, obOf_append] at hx
    split at hx
    · rename_i hi
      cases hx
      rw [hi, ← hR.n]
      exact hob
    · have hlt := ob_n hR (show s.ob i = some x from hx)
      exact ObR.mono hm (by simp only [Env.addO, if_neg (Nat.ne_of_lt hlt)]) (addO_kept E p ob _) (hR.ob i x hx)

theorem exec_append {x y : Operand} {t u : TypeId} {v : Value} {w' : World} (ho : o.op = .call { callee := .builtin .append, args := #[x, y], argTypes := #[t, u] })
    (hr : (Builtin.append_ #[t, u] o.type #[a.eval x, a.eval y]).run P E.w = .ok v w') : (execOp a.eval o).run P E.w = .ok (.value v) w' := by
  unfold execOp
  simp only [ho, resolve, invoke, builtin, Sem.run_bind, Sem.run_pure, Result.andThen_ok, List.map_toArray, List.map_cons, List.map_nil, hr]

/-- An empty row under a new name. -/
theorem fin_empty {sz : Nat} {A : Option Addr} {x y : Operand} {t u : TypeId} (hR : Rel C E s a) (ho : o.op = .call { callee := .builtin .append, args := #[x, y], argTypes := #[t, u] }) {E0 : Env} (hw : E.w = E0.w)
    (hr : (Builtin.append_ #[t, u] o.type #[a.eval x, a.eval y]).run P E0.w = .ok (.slice A 0 0) E0.w) (hK : K (.own s.g.length sz 0 0 0 none) (s.add ⟨false, []⟩)) {s0 : St} : OpOk P C E0 s0 a o K := by
  refine opOk_of (E' := E.addO (0, 0) ⟨false, []⟩) (x := .slice A 0 0) ?_ hK (rel_addO hR rfl (.inl rfl)) ?_
  · rw [exec_append ho hr, ← hw]; rfl
  · rw [← hR.n]
    exact ⟨by simp [Env.addO], A, 0, rfl, fun _ => ⟨Nat.le_refl _, Nat.le_refl _, fun h hh => (by cases hh), .inl rfl⟩⟩

/-- A row in a new block. -/
theorem fin_grow {sz n cap : Nat} {e : TypeId} {cs : List V} {c : Array Value} {x y : Operand} {t u : TypeId} (hR : Rel C E s a) (ho : o.op = .call { callee := .builtin .append, args := #[x, y], argTypes := #[t, u] }) {E0 : Env} (hw : E.w = E0.w)
    (hr : (Builtin.append_ #[t, u] o.type #[a.eval x, a.eval y]).run P E0.w = .ok (.slice (some ⟨E0.w.heap.size, 0, none⟩) n cap) (E0.w.drew.alloc (.cells c e))) (hn : n ≤ cap) (hsz : cap * sz ≤ c.size)
    (hcell : ∀ k v, cs[k]? = some v → ∃ z, c[k]? = some z ∧ Rv E.bare (.at [s.g.length, k]) v z)
    (hK : K (.own s.g.length sz 0 n n none) (s.add ⟨false, cs⟩)) {s0 : St} : OpOk P C E0 s0 a o K := by
  have hRd := rel_drw hR
  have hrow : Rrow (E.drw.push c e ⟨false, cs⟩).bare (.at [E.drw.n]) E.drw.w.heap.size 0 0 cs := by
    refine Rrow_mk fun k v hk => ?_
    obtain ⟨z, hz, hrv⟩ := hcell k v hk
    refine ⟨z, ?_, ?_⟩
    · rw [Nat.zero_add]
      exact (cellAt_push _ _ _ _).trans hz
    · have hid : E.drw.n = s.g.length := hR.n
      rw [hid, Nat.zero_add]
      have h1 : Rv E.drw.bare (.at [s.g.length, k]) v z := Rv.mono (drw_mono E).bare (fun q hq b r hb => ⟨hb, rfl⟩) (fun q j hq _ => by cases hq) hrv
      exact Rv.mono (mono_push hRd c e ⟨false, cs⟩).bare (fun q hq => by cases hq; exact kept_push hRd c e ⟨false, cs⟩ _) (fun q j hq _ => by cases hq) h1
  have hob : ObR (E.drw.push c e ⟨false, cs⟩) E.drw.n ⟨false, cs⟩ := by
    refine .inr ⟨c, e, ?_, ?_, ?_⟩
    · simp only [Env.push, if_true]; exact heap_push_new _ _ _
    · simp [Env.push]
    · simpa only [Env.push, if_true] using hrow
  refine opOk_of (E' := E.drw.push c e ⟨false, cs⟩) (x := .slice (some ⟨E0.w.heap.size, 0, none⟩) n cap) ?_ hK (rel_push hRd hob) ?_
  · rw [exec_append ho hr, ← hw]; rfl
  · rw [← hR.n]
    refine ⟨by simp [Env.push, Env.drw], _, _, rfl, fun _ => ⟨hn, hn, fun h hh => (by cases hh), .inr ⟨c, e, ?_, ?_, ?_, ?_⟩⟩⟩
    · simp [Env.push, Env.drw, hw]
    · simp [Env.push, Env.drw]
    · have := heap_push_new E.drw.w c e
      simpa [Env.push, Env.drw] using this
    · simpa [Env.push, Env.drw] using hsz

theorem zeroCells_size (z : Array Value) (n : Nat) : (Builtin.zeroCells z n).size = n * z.size := by simp [Builtin.zeroCells]
theorem arr_get {xs ys : List Value} {z : Array Value} {k : Nat} {v : Value} (h : xs[k]? = some v) : (xs.toArray ++ ys.toArray ++ z)[k]? = some v := by
  have hlt := (List.getElem?_eq_some_iff.1 h).1
  rw [Array.append_assoc, Array.getElem?_append_left (by simpa using hlt)]
  simpa using h
theorem arr_get' {xs ys : List Value} {z : Array Value} {k n : Nat} {v : Value} (hl : xs.length = n) (h : ys[k]? = some v) : (xs.toArray ++ ys.toArray ++ z)[n + k]? = some v := by
  have hlt := (List.getElem?_eq_some_iff.1 h).1
  rw [Array.getElem?_append_left (by simp; omega), Array.getElem?_append_right (by simp; omega)]
  simp [← hl, h]

theorem op_append {x y : Operand} {t u e e' : TypeId} {ti tu te : TI} (ho : o.op = .call { callee := .builtin .append, args := #[x, y], argTypes := #[t, u] }) (hR : Rel C E s a) (hT : TIOk P t ti) (he : ti.elem = some e) (hE : TIOk P e te) (hU : TIOk P u tu) (he' : tu.elem = some e') (hb : te.bytes ≤ 64) (hz0 : te.size ≠ 0)
    (h : srcK s te.size (ev s y) fun m src s1 => match ev s x with
        | .sc (.slice none 0 0) => m ≤ 1099511627776 ∧ K (.own s1.g.length te.size 0 m m none) (s1.add ⟨false, src⟩)
        | .own i sz 0 n _ _ => match s1.ob i with
          | some ⟨false, cs⟩ => bif Nat.beq sz te.size then (n + m ≤ 1099511627776 ∧ cs.length = n * sz ∧ ∃ cs', cs ++ src = cs' ∧ K (.own s1.g.length sz 0 (n + m) (n + m) none) ((s1.put i none).add ⟨false, cs'⟩)) else False
          | _ => False
        | _ => False) : OpOk P C E s a o K := by
  obtain ⟨i, z, hi, hsz, hby, hz, hzc⟩ := hE.info
  have ht := slice_desc (te := te) hT he
  have hu := slice_desc (te := te) hU he'
  have hzs : z.cells.size = te.size := by rw [← Array.length_toList, hzc, hE.zlen]
  generalize hxe : ev s x = vx at h
  have hvx := ev_ok hR x
  rw [hxe] at hvx
  cases vx with
  | sc v =>
    have hxv : a.eval x = v := hvx.1
    by_cases hvn : v = .slice none 0 0
    · subst hvn
      obtain ⟨E1, m, src, s1, B, c, xs, ⟨hm, hK⟩, hR1, hw1, hm1, hl1, hy, hxl, hsl, hlies, hone, hcell⟩ := src_ok (kid := s.g.length) (start := 0) hR (Nat.le_refl _) h (ev_ok hR y)
      by_cases h0 : m = 0
      · subst h0
        have hsrc : src = [] := List.eq_nil_of_length_eq_zero (by rw [hsl, hxl]; simp)
        subst hsrc
        refine fin_empty (A := none) hR1 ho hw1 ?_ hK
        rw [hxv, hy]
        exact append_room (cap := 0) (n := 0) (m := 0) ht hu hi (by rw [hxl, hsz]) hlies (Nat.le_refl _) (fun ad h => by cases h) (fun _ => rfl)
      · have hrun := append_grow (P := P) (w := E.w) (ty := o.type) (A := none) (n := 0) (cap := 0) (olds := []) ht hu hi hz (by simp) (.inl rfl) (by rw [hxl, hsz]) hlies (by omega) (by omega) (by rw [hby]; exact hb) (m := m) (c := c)
        rw [Nat.zero_add] at hrun
        refine fin_grow hR1 ho hw1 (by rw [hxv, hy]; exact hrun) (grownCap_ge _ _ _ _) ?_ ?_ hK
        · have := grownCap_ge E.w m 0 e
          have hq : grownCap E.w m 0 e * te.size = m * te.size + (grownCap E.w m 0 e - m) * te.size := by rw [← Nat.add_mul]; congr 1; omega
          simp only [Array.size_append, List.size_toArray, List.length_nil, zeroCells_size, hzs, hxl]
          omega
        · intro k v hk
          obtain ⟨z', hz', hr'⟩ := hcell k v hk
          exact ⟨z', by have := arr_get' (xs := []) (n := 0) (z := Builtin.zeroCells z.cells (grownCap E.w m 0 e - m)) rfl hz'; rwa [Nat.zero_add] at this, by rw [hl1]; rwa [Nat.zero_add] at hr'⟩
    · exfalso
      obtain ⟨E1, m, src, s1, B, c, xs, hf, _⟩ := src_ok (kid := s.g.length) (start := 0) hR (Nat.le_refl _) h (ev_ok hR y)
      revert hf
      split
      · rename_i heq; cases heq; exact absurd rfl hvn
      · rename_i heq; cases heq
      · exact id
  | own i0 sz off n lo hi0 =>
    cases off with
    | succ off =>
      exfalso
      obtain ⟨E1, m, src, s1, B, c, xs, hf, _⟩ := src_ok (kid := s.g.length) (start := 0) hR (Nat.le_refl _) h (ev_ok hR y)
      exact hf
    | zero =>
    obtain ⟨E1, m, src, s1, B, c, xs, hK, hR1, hw1, hm1, hl1, hy, hxl, hsl, hlies, hone, hcell⟩ := src_ok (kid := s.g.length) (start := n * sz) hR (Nat.le_refl _) h (ev_ok hR y)
    simp only at hK
    cases hob : s1.ob i0 with
    | none => rw [hob] at hK; exact hK.elim
    | some ob =>
    obtain ⟨bx, cs⟩ := ob
    cases bx with
    | true => rw [hob] at hK; exact hK.elim
    | false =>
    rw [hob] at hK
    simp only at hK
    cases hbq : Nat.beq sz te.size with
    | false => rw [hbq] at hK; exact hK.elim
    | true =>
    have hszz : sz = te.size := Nat.eq_of_beq_eq_true hbq
    rw [hbq] at hK
    obtain ⟨hle, hcl, _, rfl, hK⟩ := hK
    have hv1 : Rv E1 .none (.own i0 sz 0 n lo hi0) (a.eval x) := hvx.slot hm1
    obtain ⟨hin, A, cap, hxv, hlv⟩ := hv1
    obtain ⟨hc, hlo, hhi, hbl⟩ := hlv (ob_live hR1 hob)
    have hk1 : s.g.length = E1.n := by rw [hR1.n, hl1]
    have hne : s.g.length ≠ i0 := by omega
    -- the old values
    have hvals : ∃ olds : List Value, olds.length = cs.length ∧ Lies E.w A olds ∧ ∀ k c, cs[k]? = some c → ∃ v, olds[k]? = some v ∧ E1.w.cell? ⟨(E1.ρ i0).1, (E1.ρ i0).2 + k, none⟩ = some v ∧ Rv (E1.mv i0 [s.g.length]).bare (.at [s.g.length, k]) c v := by
      by_cases hcs : cs = []
      · subst hcs
        exact ⟨[], rfl, .inl rfl, by simp⟩
      · rcases hR1.ob i0 _ hob with h0 | ⟨c', e1, hh, hl', hrow⟩
        · exact absurd h0 hcs
        · obtain ⟨olds, hol, hx⟩ := Rrow_vals' hrow
          refine ⟨olds, hol, ?_, fun k v hk => ?_⟩
          · rcases hbl with h0 | ⟨c1, e2, hA, _⟩
            · have hn0 : n = 0 := by omega
              rw [hn0, Nat.zero_mul] at hcl
              exact absurd (List.eq_nil_of_length_eq_zero hcl) hcs
            · refine .inr ⟨_, hA, fun j u hj => ?_⟩
              have hlt := list_some hol hj
              obtain ⟨v', h1, h2, _⟩ := hx j _ (List.getElem?_eq_getElem hlt)
              rw [hj] at h1
              cases h1
              rw [addr_add, ← hw1]
              exact h2
          · obtain ⟨v', h1, h2, h3⟩ := hx k v hk
            refine ⟨v', h1, h2, ?_⟩
            rw [Nat.zero_add] at h3
            exact Rv.move (mv_mono hR1 i0 [s.g.length]).bare ((mv_moved i0 [s.g.length]).child k) h3
    obtain ⟨olds, hol, hlo', hold⟩ := hvals
    have hR2 := rel_mv hR1 hob [s.g.length]
    have hlen2 : (s1.put i0 none).g.length = s.g.length := by rw [put_len, hl1]
    have hsrc2 : ∀ k c, src[k]? = some c → ∃ z, xs[k]? = some z ∧ Rv (E1.mv i0 [s.g.length]).bare (.at [s.g.length, n * sz + k]) c z := by
      intro k c hk
      obtain ⟨z', h1, h2⟩ := hcell k c hk
      exact ⟨z', h1, Rv.mono (mv_mono hR1 i0 [s.g.length]).bare (fun q hq => by cases hq; exact mv_kept hne) (fun q j hq _ => by cases hq) h2⟩
    have hK' : K (.own (s1.put i0 none).g.length sz 0 (n + m) (n + m) none) ((s1.put i0 none).add ⟨false, cs ++ src⟩) := by rw [hlen2, ← hl1]; exact hK
    by_cases hroom : n + m ≤ cap
    · rcases Nat.eq_zero_or_pos cap with hc0 | hcp
      · have hn0 : n = 0 := by omega
        have hm0 : m = 0 := by omega
        subst hn0; subst hm0; subst hc0
        have hsrc : src = [] := List.eq_nil_of_length_eq_zero (by rw [hsl, hxl]; simp)
        have hcs0 : cs = [] := List.eq_nil_of_length_eq_zero (by rw [hcl]; simp)
        have hxs : xs = [] := List.eq_nil_of_length_eq_zero (by rw [hxl]; simp)
        subst hsrc; subst hcs0; subst hxs
        refine fin_empty (A := A) (sz := sz) hR2 ho hw1 ?_ hK'
        rw [hxv, hy]
        exact append_room (cap := 0) (n := 0) (m := 0) ht hu hi (by simp) (.inl rfl) (Nat.le_refl _) (fun ad h => by simp [storeCells]) (fun _ => rfl)
      · rcases hbl with h0 | ⟨c1, e1, hA, hol1, hh1, hsz1⟩
        · omega
        · rw [Nat.add_zero] at hA hsz1
          rw [hw1] at hh1
          have hmn : n * sz + m * sz ≤ cap * sz := by rw [← Nat.add_mul]; exact Nat.mul_le_mul_right _ hroom
          obtain ⟨w', hst, hwr⟩ := storeCells_run P xs E.w (E1.ρ i0).1 ((E1.ρ i0).2 + n * sz) 0 c1 e1 hh1 (by rw [hxl, ← hszz]; omega) hone
          rw [Nat.add_zero] at hwr
          have hrun := append_room (P := P) (w := E.w) (w' := w') (ty := o.type) (A := A) (n := n) (cap := cap) (m := m) (c := c) ht hu hi (by rw [hxl, hsz]) hlies hroom (fun ad h => by rw [hA] at h; cases h; rw [addr_add, hsz, ← hszz]; exact hst) (fun h => by rw [hA] at h; cases h)
          have hlab2 : (E1.mv i0 [s.g.length]).o (E1.ρ i0).1 = some (s.g.length :: []) := by
            have := (mv_moved (E := E1) i0 [s.g.length] (E1.ρ i0).1 [] (by simpa using hol1)).1
            simpa using this
          have hwr2 : Wrote (E1.mv i0 [s.g.length]).w w' (E1.ρ i0).1 ((E1.ρ i0).2 + n * sz) xs := by
            show Wrote E1.w _ _ _ _
            rw [hw1]
            exact hwr
          have hR3 := rel_wrx hR2 hwr2 hlab2 (by show E1.n ≤ _; omega)
          have hm3 := wrx_mono hR2 hwr2 hlab2 (by show E1.n ≤ _; omega)
          have hcw := wrote_cell hwr hh1
          obtain ⟨c2, hc2, hcs2, _⟩ := hwr.row c1 e1 hh1
          have hkn : ((E1.mv i0 [s.g.length]).wrx w').n = s.g.length := hk1.symm
          obtain ⟨F, hF⟩ : ∃ F, F = ((E1.mv i0 [s.g.length]).wrx w').addO ((E1.ρ i0).1, (E1.ρ i0).2) ⟨false, cs ++ src⟩ := ⟨_, rfl⟩
          have hFρ : F.ρ s.g.length = ((E1.ρ i0).1, (E1.ρ i0).2) := by rw [hF]; simp only [Env.addO, hkn, if_true]
          have hFw : F.w = w' := by rw [hF]; rfl
          have hFn : F.n = s.g.length + 1 := by rw [hF]; simp only [Env.addO, hkn]
          have hFo : F.o (E1.ρ i0).1 = some [s.g.length] := by rw [hF]; exact hlab2
          have hlift : ∀ {k : Nat} {v : V} {y : Value}, Rv (E1.mv i0 [s.g.length]).bare (.at [s.g.length, k]) v y → Rv F.bare (.at [s.g.length, k]) v y := by
            intro k v y hv
            have h1 : Rv ((E1.mv i0 [s.g.length]).wrx w').bare (.at [s.g.length, k]) v y := Rv.mono hm3.bare (fun q hq => by cases hq; exact wrx_kept hwr2 hlab2 (fun r hr => by simp at hr)) (fun q j hq _ => by cases hq) hv
            rw [hF]
            exact Rv.mono (addO_mono ((E1.mv i0 [s.g.length]).wrx w') ((E1.ρ i0).1, (E1.ρ i0).2) ⟨false, cs ++ src⟩).bare (fun q hq => by cases hq; exact addO_kept _ ((E1.ρ i0).1, (E1.ρ i0).2) ⟨false, cs ++ src⟩ _) (fun q j hq _ => by cases hq) h1
          have hob3 : ObR F s.g.length ⟨false, cs ++ src⟩ := by
            refine .inr ⟨c2, e1, by rw [hFρ, hFw]; exact hc2, by rw [hFρ]; exact hFo, ?_⟩
            rw [hFρ]
            refine Rrow_mk fun k v hk => ?_
            rw [Nat.zero_add]
            rcases Nat.lt_or_ge k cs.length with hlt | hge
            · rw [List.getElem?_append_left hlt] at hk
              obtain ⟨v', h1, h2, h3⟩ := hold k v hk
              refine ⟨v', ?_, hlift h3⟩
              show F.w.cell? _ = _
              rw [hFw, hcw, if_neg (by omega), ← hw1]
              exact h2
            · rw [List.getElem?_append_right hge] at hk
              obtain ⟨z', h1, h2⟩ := hsrc2 _ v hk
              have hklt := list_some rfl h1
              refine ⟨z', ?_, ?_⟩
              · show F.w.cell? _ = _
                rw [hFw, hcw, if_pos (by omega), show (E1.ρ i0).2 + k - ((E1.ρ i0).2 + n * sz) = k - cs.length from by omega]
                exact h1
              · rw [show n * sz + (k - cs.length) = k from by omega] at h2
                exact hlift h2
          refine opOk_of (E' := F) (x := .slice A (n + m) cap) ?_ hK' (by rw [hF] at hob3 ⊢; exact rel_addO hR3 hkn hob3) ?_
          · rw [exec_append ho (by rw [hxv, hy]; exact hrun), hFw]
          · rw [hlen2]
            refine ⟨by rw [hFn]; exact Nat.lt_succ_self _, A, cap, rfl, fun _ => ⟨hroom, hroom, fun h hh => (by cases hh), .inr ⟨c2, e1, ?_, ?_, ?_, ?_⟩⟩⟩
            · rw [hFρ, Nat.add_zero]
              exact hA
            · rw [hFρ]
              exact hFo
            · rw [hFρ, hFw]
              exact hc2
            · rw [hFρ, Nat.add_zero]
              show (E1.ρ i0).2 + cap * sz ≤ c2.size
              omega
    · have hrun := append_grow (P := P) (w := E.w) (ty := o.type) (A := A) (n := n) (cap := cap) (olds := olds) ht hu hi hz (by rw [hol, hcl, hsz, hszz]) hlo' (by rw [hxl, hsz]) hlies (by omega) hle (by rw [hby]; exact hb) (m := m) (c := c)
      refine fin_grow hR2 ho hw1 (by rw [hxv, hy]; exact hrun) (grownCap_ge _ _ _ _) ?_ ?_ hK'
      · have := grownCap_ge E.w (n + m) cap e
        have hq : grownCap E.w (n + m) cap e * te.size = n * te.size + m * te.size + (grownCap E.w (n + m) cap e - (n + m)) * te.size := by rw [← Nat.add_mul, ← Nat.add_mul]; congr 1; omega
        simp only [Array.size_append, List.size_toArray, zeroCells_size, hzs, hxl, hol, hcl, hszz]
        omega
      · intro k v hk
        rw [hlen2]
        rcases Nat.lt_or_ge k cs.length with hlt | hge
        · rw [List.getElem?_append_left hlt] at hk
          obtain ⟨v', h1, h2, h3⟩ := hold k v hk
          exact ⟨v', arr_get h1, h3⟩
        · rw [List.getElem?_append_right hge] at hk
          obtain ⟨z', h1, h2⟩ := hsrc2 _ v hk
          refine ⟨z', ?_, ?_⟩
          · rw [show k = cs.length + (k - cs.length) from by omega]
            exact arr_get' hol h1
          · rwa [show n * sz + (k - cs.length) = k from by omega] at h2
  | ro _ _ => exfalso; obtain ⟨_, _, _, _, _, _, _, hf, _⟩ := src_ok (kid := s.g.length) (start := 0) hR (Nat.le_refl _) h (ev_ok hR y); exact hf
  | tr _ _ _ => exfalso; obtain ⟨_, _, _, _, _, _, _, hf, _⟩ := src_ok (kid := s.g.length) (start := 0) hR (Nat.le_refl _) h (ev_ok hR y); exact hf
  | sub _ _ => exfalso; obtain ⟨_, _, _, _, _, _, _, hf, _⟩ := src_ok (kid := s.g.length) (start := 0) hR (Nat.le_refl _) h (ev_ok hR y); exact hf
  | bp _ => exfalso; obtain ⟨_, _, _, _, _, _, _, hf, _⟩ := src_ok (kid := s.g.length) (start := 0) hR (Nat.le_refl _) h (ev_ok hR y); exact hf
  | sp _ _ _ => exfalso; obtain ⟨_, _, _, _, _, _, _, hf, _⟩ := src_ok (kid := s.g.length) (start := 0) hR (Nat.le_refl _) h (ev_ok hR y); exact hf
  | ptr _ _ => exfalso; obtain ⟨_, _, _, _, _, _, _, hf, _⟩ := src_ok (kid := s.g.length) (start := 0) hR (Nat.le_refl _) h (ev_ok hR y); exact hf
  | rp _ => exfalso; obtain ⟨_, _, _, _, _, _, _, hf, _⟩ := src_ok (kid := s.g.length) (start := 0) hR (Nat.le_refl _) h (ev_ok hR y); exact hf
  | agg _ => exfalso; obtain ⟨_, _, _, _, _, _, _, hf, _⟩ := src_ok (kid := s.g.length) (start := 0) hR (Nat.le_refl _) h (ev_ok hR y); exact hf
  | tup _ => exfalso; obtain ⟨_, _, _, _, _, _, _, hf, _⟩ := src_ok (kid := s.g.length) (start := 0) hR (Nat.le_refl _) h (ev_ok hR y); exact hf
  | fn _ _ => exfalso; obtain ⟨_, _, _, _, _, _, _, hf, _⟩ := src_ok (kid := s.g.length) (start := 0) hR (Nat.le_refl _) h (ev_ok hR y); exact hf
  | any => exfalso; obtain ⟨_, _, _, _, _, _, _, hf, _⟩ := src_ok (kid := s.g.length) (start := 0) hR (Nat.le_refl _) h (ev_ok hR y); exact hf

/-- The cells of a row come under a new name; those from n0 + d on move down by d. -/
def relabA (i n0 d kid : Nat) : Option (List Nat) → Option (List Nat)
  | some (h :: k :: r) => if h = i then some (kid :: (if k < n0 then k else k - d) :: r) else some (h :: k :: r)
  | some [h] => if h = i then some [kid] else some [h]
  | x => x
def Env.mva (E : Env) (i n0 d kid : Nat) : Env :=
  { E with o := fun b => relabA i n0 d kid (E.o b), g := fun j => if j = i then none else E.g j, okb := fun b => relabA i n0 d kid (E.o b) = none }
theorem relabA_none {i n0 d kid : Nat} {x : Option (List Nat)} : relabA i n0 d kid x = none ↔ x = none := by
  unfold relabA
  split
  · split <;> simp
  · split <;> simp
  · rfl
theorem relabA_other {i n0 d kid j : Nat} {r : List Nat} (h : j ≠ i) : relabA i n0 d kid (some (j :: r)) = some (j :: r) := by
  cases r <;> simp [relabA, h]
theorem mva_mono (hR : Rel C E s a) (i n0 d kid : Nat) : Mono E (E.mva i n0 d kid) := by
  refine ⟨Nat.le_refl _, fun b _ hok => ⟨?_, rfl⟩, Nat.le_refl _, fun j hj hl => ?_, fun j k hj ht => ?_⟩
  · show relabA i n0 d kid (E.o b) = none
    rw [hR.okb] at hok
    exact relabA_none.2 hok
  · have hji : j ≠ i := by
      intro h
      simp [Env.mva, h] at hl
    refine ⟨by simpa [Env.mva, hji] using hl, rfl, fun ho => ?_, fun c e h => ⟨c, h, rfl⟩⟩
    show relabA i n0 d kid (E.o (E.ρ j).1) = some [j]
    rw [ho, relabA_other hji]
  · obtain ⟨cs, sz, n, r, hg, hk⟩ := ht
    have hji : j ≠ i := by
      intro h
      simp [Env.mva, h] at hg
    exact ⟨⟨cs, sz, n, r, by simpa [Env.mva, hji] using hg, hk⟩, rfl⟩
theorem mva_kept {i n0 d kid j : Nat} {q : List Nat} (h : j ≠ i) : Kept E (E.mva i n0 d kid) (j :: q) := fun b r hb => by
  refine ⟨?_, rfl⟩
  show relabA i n0 d kid (E.o b) = _
  rw [hb]
  exact relabA_other h
theorem mva_low (i n0 d kid : Nat) {k : Nat} (hk : k < n0) : Moved E (E.mva i n0 d kid) [i, k] [kid, k] := fun b r hb => by
  refine ⟨?_, rfl⟩
  show relabA i n0 d kid (E.o b) = _
  rw [hb]
  simp [relabA, hk]
theorem mva_high (i n0 d kid k : Nat) : Moved E (E.mva i n0 d kid) [i, n0 + d + k] [kid, n0 + k] := fun b r hb => by
  refine ⟨?_, rfl⟩
  show relabA i n0 d kid (E.o b) = _
  rw [hb]
  simp only [relabA, List.cons_append, List.nil_append, if_true, if_neg (show ¬ (n0 + d + k < n0) from by omega), show n0 + d + k - d = n0 + k from by omega]
theorem rel_mva (hR : Rel C E s a) {i : Nat} {ob0 : Obj} (hi : s.ob i = some ob0) (n0 d kid : Nat) : Rel C (E.mva i n0 d kid) (s.put i none) a := by
  have hm := mva_mono hR i n0 d kid
  refine ⟨hR.size, hR.nd, fun k => (hR.slot k).slot hm, ?_, ?_, fun j x hx => ?_, rfl, fun b q hq => ?_, hR.fr, fun b hb hl => ?_, hR.pin.mono hm⟩
  · funext j
    rw [putNone_ob hi]
    simp only [Env.mva, hR.g]
  · simp [Env.mva, St.put, setOb_length, hR.n]
  · rw [putNone_ob hi] at hx
    by_cases hji : j = i
    · rw [if_pos hji] at hx; cases hx
    · rw [if_neg hji] at hx
      exact ObR.mono hm rfl (mva_kept hji) (hR.ob j x hx)
  · have : E.o b ≠ none := by
      intro h
      simp only [Env.mva, h, relabA] at hq
      cases hq
    cases h : E.o b with
    | none => exact absurd h this
    | some q' =>
      obtain ⟨h1, h2⟩ := hR.lab b q' h
      refine ⟨h1, ?_⟩
      rcases h2 with rfl | h2
      · left
        simp only [Env.mva, h, relabA, Option.some.injEq] at hq
        exact hq.symm
      · exact .inr h2
  · have h := hR.old b hb hl
    show relabA i n0 d kid (E.o b) = _
    rw [h]
    cases ho : C.o0 b with
    | none => rfl
    | some q => rw [C.dull b q hl ho]; rfl

theorem op_append_self {x y : Operand} {t u e e' : TypeId} {ti tu te : TI} (ho : o.op = .call { callee := .builtin .append, args := #[x, y], argTypes := #[t, u] }) (hR : Rel C E s a) (hT : TIOk P t ti) (he : ti.elem = some e) (hE : TIOk P e te) (hU : TIOk P u tu) (he' : tu.elem = some e') (hb : te.bytes ≤ 64) (hz0 : te.size ≠ 0)
    (hsb : selfB (ev s x) (ev s y) = true) (h : selfK s te.size (ev s x) (ev s y) K) : OpOk P C E s a o K := by
  obtain ⟨i, z, hi, hsz, hby, hz, hzc⟩ := hE.info
  have ht := slice_desc (te := te) hT he
  have hu := slice_desc (te := te) hU he'
  have hzs : z.cells.size = te.size := by rw [← Array.length_toList, hzc, hE.zlen]
  generalize hxe : ev s x = vx at h hsb
  generalize hye : ev s y = vy at h hsb
  have hvx := ev_ok hR x
  have hvy := ev_ok hR y
  rw [hxe] at hvx
  rw [hye] at hvy
  unfold selfK at h
  split at h
  rotate_left
  · exact h.elim
  rename_i i0 sz n lo hi0 j0 sz' off m lo2 hi2
  obtain rfl : i0 = j0 := Nat.eq_of_beq_eq_true hsb
  cases hob : s.ob i0 with
  | none => rw [hob] at h; exact h.elim
  | some ob =>
  obtain ⟨bx, cs⟩ := ob
  cases bx with
  | true => rw [hob] at h; exact h.elim
  | false =>
  rw [hob] at h
  simp only at h
  cases hbq : Nat.beq sz te.size && Nat.beq sz' te.size with
  | false => rw [hbq] at h; exact h.elim
  | true =>
  rw [hbq] at h
  simp only [Bool.and_eq_true] at hbq
  have hszz : sz = te.size := Nat.eq_of_beq_eq_true hbq.1
  obtain rfl : sz' = sz := (Nat.eq_of_beq_eq_true hbq.2).trans hszz.symm
  obtain ⟨⟨hle, hoff, hpre⟩, src, hr, hsol, _, rfl, hK⟩ := h
  obtain ⟨hle2, hreq, hrl⟩ := takeN_some hr
  obtain ⟨hin, A, cap, hxv, hlv⟩ := hvx
  obtain ⟨hc, hlo, hhi, hbl⟩ := hlv (ob_live hR hob)
  obtain ⟨_, B, cap2, hyv, hlv2⟩ := hvy
  obtain ⟨hc2, _, _, hbl2⟩ := hlv2 (ob_live hR hob)
  have hk1 : s.g.length = E.n := by rw [hR.n]
  have hne : s.g.length ≠ i0 := by have := obOf_lt (g := s.g) hob; omega
  obtain ⟨d, rfl⟩ : ∃ d, off = n * sz' + d := ⟨off - n * sz', by omega⟩
  have hprel : (cs.take (n * sz')).length = n * sz' := by simp; omega
  have hrc : ∀ k c, src[k]? = some c → cs[n * sz' + d + k]? = some c := by
    intro k c hk
    rw [hreq, List.getElem?_take] at hk
    split at hk
    · rwa [List.getElem?_drop] at hk
    · cases hk
  have hpc : ∀ k c, (cs.take (n * sz'))[k]? = some c → k < n * sz' ∧ cs[k]? = some c := by
    intro k c hk
    rw [List.getElem?_take] at hk
    split at hk
    · rename_i hlt; exact ⟨hlt, hk⟩
    · cases hk
  -- the values that are added
  have hvals : ∃ xs : List Value, xs.length = src.length ∧ Lies E.w B xs ∧ (∀ u ∈ xs, u.oneCell' = true) ∧ ∀ k c, src[k]? = some c → ∃ v, xs[k]? = some v ∧ Rv (E.mva i0 (n * sz') d s.g.length).bare (.at [s.g.length, n * sz' + k]) c v := by
    by_cases hne : src = []
    · subst hne
      exact ⟨[], rfl, .inl rfl, by simp, by simp⟩
    · have hrp : 0 < src.length := List.length_pos_iff.2 hne
      rcases hbl2 with h0 | ⟨c, e, hA, ho, hh, hs⟩
      · have hm0 : m = 0 := by omega
        rw [hm0, Nat.zero_mul] at hrl
        omega
      · rcases hR.ob i0 _ hob with h0 | ⟨c', e', hh', hl', hrow⟩
        · rw [h0] at hle2; simp at hle2; omega
        · obtain ⟨xs, hxl, hx⟩ := Rrow_vals' hrow
          have hxr : ((xs.drop (n * sz' + d)).take (m * sz')).length = src.length := by rw [hrl]; simp; omega
          have hget : ∀ k c, src[k]? = some c → ∃ v, ((xs.drop (n * sz' + d)).take (m * sz'))[k]? = some v ∧ E.w.cell? ⟨(E.ρ i0).1, (E.ρ i0).2 + (n * sz' + d + k), none⟩ = some v ∧ Rv E.bare (.at [i0, n * sz' + d + k]) c v := by
            intro k c hk
            obtain ⟨v', h1, h2, h3⟩ := hx _ _ (hrc k _ hk)
            refine ⟨v', ?_, h2, by simpa [Md.child] using h3⟩
            rw [List.getElem?_take, if_pos (by have := list_some rfl hk; omega), List.getElem?_drop, h1]
          refine ⟨(xs.drop (n * sz' + d)).take (m * sz'), hxr, .inr ⟨_, hA, fun k u hk => ?_⟩, fun u hu => ?_, fun k c hk => ?_⟩
          · have hlt := list_some hxr hk
            obtain ⟨v', h1, h2, _⟩ := hget k _ (List.getElem?_eq_getElem hlt)
            rw [hk] at h1
            cases h1
            rw [addr_add, Nat.add_assoc]
            exact h2
          · obtain ⟨k, hk⟩ := List.getElem?_of_mem hu
            have hlt := list_some hxr hk
            obtain ⟨v', h1, _, h3⟩ := hget k _ (List.getElem?_eq_getElem hlt)
            rw [hk] at h1
            cases h1
            exact solid_one (hsol _ (List.getElem_mem hlt)) h3
          · obtain ⟨v', h1, _, h3⟩ := hget k c hk
            exact ⟨v', h1, Rv.move (mva_mono hR i0 (n * sz') d s.g.length).bare (mva_high i0 (n * sz') d s.g.length k) h3⟩
  obtain ⟨xs, hxsl, hlies, hone, hsrc2⟩ := hvals
  have hxl : xs.length = m * sz' := hxsl.trans hrl
  -- the old values
  have holds : ∃ olds : List Value, olds.length = n * sz' ∧ Lies E.w A olds ∧ ∀ k c, (cs.take (n * sz'))[k]? = some c → ∃ v, olds[k]? = some v ∧ E.w.cell? ⟨(E.ρ i0).1, (E.ρ i0).2 + k, none⟩ = some v ∧ Rv (E.mva i0 (n * sz') d s.g.length).bare (.at [s.g.length, k]) c v := by
    by_cases hn0 : n * sz' = 0
    · rw [hn0]
      exact ⟨[], rfl, .inl rfl, by simp⟩
    · rcases hR.ob i0 _ hob with h0 | ⟨c', e1, hh, hl', hrow⟩
      · rw [h0] at hpre; simp at hpre; omega
      · obtain ⟨olds, hol, hx⟩ := Rrow_vals' hrow
        have holl : (olds.take (n * sz')).length = n * sz' := by simp; omega
        have hget : ∀ k c, (cs.take (n * sz'))[k]? = some c → ∃ v, (olds.take (n * sz'))[k]? = some v ∧ E.w.cell? ⟨(E.ρ i0).1, (E.ρ i0).2 + k, none⟩ = some v ∧ Rv E.bare (.at [i0, k]) c v := by
          intro k c hk
          obtain ⟨hlt, hk⟩ := hpc k c hk
          obtain ⟨v', h1, h2, h3⟩ := hx k c hk
          exact ⟨v', by rw [List.getElem?_take, if_pos hlt, h1], h2, by simpa [Md.child] using h3⟩
        refine ⟨olds.take (n * sz'), holl, ?_, fun k c hk => ?_⟩
        · rcases hbl with h0 | ⟨c1, e2, hA, _⟩
          · have hn0' : n = 0 := by omega
            rw [hn0', Nat.zero_mul] at hn0
            exact absurd rfl hn0
          · refine .inr ⟨_, hA, fun j u hj => ?_⟩
            have hlt := list_some holl hj
            obtain ⟨v', h1, h2, _⟩ := hget j _ (List.getElem?_eq_getElem (by omega))
            rw [hj] at h1
            cases h1
            rw [addr_add, Nat.add_zero]
            exact h2
        · obtain ⟨v', h1, h2, h3⟩ := hget k c hk
          exact ⟨v', h1, h2, Rv.move (mva_mono hR i0 (n * sz') d s.g.length).bare (mva_low i0 (n * sz') d s.g.length (hpc k c hk).1) h3⟩
  obtain ⟨olds, hol, hlo', hold⟩ := holds
  have hR2 := rel_mva hR hob (n * sz') d s.g.length
  have hlen2 : (s.put i0 none).g.length = s.g.length := by rw [put_len]
  have hK' : K (.own (s.put i0 none).g.length sz' 0 (n + m) (n + m) none) ((s.put i0 none).add ⟨false, cs.take (n * sz') ++ src⟩) := by rw [hlen2]; exact hK
  by_cases hroom : n + m ≤ cap
  · rcases Nat.eq_zero_or_pos cap with hc0 | hcp
    · have hn0 : n = 0 := by omega
      have hm0 : m = 0 := by omega
      subst hn0; subst hm0; subst hc0
      have hsrc : src = [] := List.eq_nil_of_length_eq_zero (by rw [hrl]; simp)
      have hxs : xs = [] := List.eq_nil_of_length_eq_zero (by rw [hxl]; simp)
      subst hsrc; subst hxs
      rw [Nat.zero_mul, List.take_zero] at hK'
      refine fin_empty (A := A) (sz := sz') (E0 := E) (s0 := s) hR2 ho rfl ?_ hK'
      rw [hxv, hyv]
      exact append_room (cap := 0) (n := 0) (m := 0) ht hu hi (by simp) (.inl rfl) (Nat.le_refl _) (fun ad h => by simp [storeCells]) (fun _ => rfl)
    · rcases hbl with h0 | ⟨c1, e1, hA, hol1, hh1, hsz1⟩
      · omega
      · rw [Nat.add_zero] at hA hsz1
        have hmn : n * sz' + m * sz' ≤ cap * sz' := by rw [← Nat.add_mul]; exact Nat.mul_le_mul_right _ hroom
        obtain ⟨w', hst, hwr⟩ := storeCells_run P xs E.w (E.ρ i0).1 ((E.ρ i0).2 + n * sz') 0 c1 e1 hh1 (by omega) hone
        rw [Nat.add_zero] at hwr
        have hrun := append_room (P := P) (w := E.w) (w' := w') (ty := o.type) (A := A) (n := n) (cap := cap) (m := m) (c := cap2) ht hu hi (by rw [hxl, hsz, hszz]) hlies hroom (fun ad h => by rw [hA] at h; cases h; rw [addr_add, hsz, ← hszz]; exact hst) (fun h => by rw [hA] at h; cases h)
        have hlab2 : (E.mva i0 (n * sz') d s.g.length).o (E.ρ i0).1 = some (s.g.length :: []) := by
          show relabA _ _ _ _ (E.o (E.ρ i0).1) = _
          rw [hol1]
          simp [relabA]
        have hwr2 : Wrote (E.mva i0 (n * sz') d s.g.length).w w' (E.ρ i0).1 ((E.ρ i0).2 + n * sz') xs := hwr
        have hR3 := rel_wrx hR2 hwr2 hlab2 (by show E.n ≤ _; omega)
        have hm3 := wrx_mono hR2 hwr2 hlab2 (by show E.n ≤ _; omega)
        have hcw := wrote_cell hwr hh1
        obtain ⟨c2, hc2', hcs2, _⟩ := hwr.row c1 e1 hh1
        have hkn : ((E.mva i0 (n * sz') d s.g.length).wrx w').n = s.g.length := hk1.symm
        obtain ⟨F, hF⟩ : ∃ F, F = ((E.mva i0 (n * sz') d s.g.length).wrx w').addO ((E.ρ i0).1, (E.ρ i0).2) ⟨false, cs.take (n * sz') ++ src⟩ := ⟨_, rfl⟩
        have hFρ : F.ρ s.g.length = ((E.ρ i0).1, (E.ρ i0).2) := by rw [hF]; simp only [Env.addO, hkn, if_true]
        have hFw : F.w = w' := by rw [hF]; rfl
        have hFn : F.n = s.g.length + 1 := by rw [hF]; simp only [Env.addO, hkn]
        have hFo : F.o (E.ρ i0).1 = some [s.g.length] := by rw [hF]; exact hlab2
        have hlift : ∀ {k : Nat} {v : V} {y : Value}, Rv (E.mva i0 (n * sz') d s.g.length).bare (.at [s.g.length, k]) v y → Rv F.bare (.at [s.g.length, k]) v y := by
          intro k v y hv
          have h1 : Rv ((E.mva i0 (n * sz') d s.g.length).wrx w').bare (.at [s.g.length, k]) v y := Rv.mono hm3.bare (fun q hq => by cases hq; exact wrx_kept hwr2 hlab2 (fun r hr => by simp at hr)) (fun q j hq _ => by cases hq) hv
          rw [hF]
          exact Rv.mono (addO_mono ((E.mva i0 (n * sz') d s.g.length).wrx w') ((E.ρ i0).1, (E.ρ i0).2) ⟨false, cs.take (n * sz') ++ src⟩).bare (fun q hq => by cases hq; exact addO_kept _ ((E.ρ i0).1, (E.ρ i0).2) ⟨false, cs.take (n * sz') ++ src⟩ _) (fun q j hq _ => by cases hq) h1
        have hob3 : ObR F s.g.length ⟨false, cs.take (n * sz') ++ src⟩ := by
          refine .inr ⟨c2, e1, by rw [hFρ, hFw]; exact hc2', by rw [hFρ]; exact hFo, ?_⟩
          rw [hFρ]
          refine Rrow_mk fun k v hk => ?_
          rw [Nat.zero_add]
          rcases Nat.lt_or_ge k (cs.take (n * sz')).length with hlt | hge
          · rw [List.getElem?_append_left hlt] at hk
            obtain ⟨v', h1, h2, h3⟩ := hold k v hk
            refine ⟨v', ?_, hlift h3⟩
            show F.w.cell? _ = _
            rw [hFw, hcw, if_neg (by omega)]
            exact h2
          · rw [List.getElem?_append_right hge] at hk
            obtain ⟨z', h1, h2⟩ := hsrc2 _ v hk
            have hklt := list_some rfl h1
            refine ⟨z', ?_, ?_⟩
            · show F.w.cell? _ = _
              rw [hFw, hcw, if_pos (by omega), show (E.ρ i0).2 + k - ((E.ρ i0).2 + n * sz') = k - (cs.take (n * sz')).length from by omega]
              exact h1
            · rw [show n * sz' + (k - (cs.take (n * sz')).length) = k from by omega] at h2
              exact hlift h2
        refine opOk_of (E' := F) (x := .slice A (n + m) cap) ?_ hK' (by rw [hF] at hob3 ⊢; exact rel_addO hR3 hkn hob3) ?_
        · rw [exec_append ho (by rw [hxv, hyv]; exact hrun), hFw]
        · rw [hlen2]
          refine ⟨by rw [hFn]; exact Nat.lt_succ_self _, A, cap, rfl, fun _ => ⟨hroom, hroom, fun h hh => (by cases hh), .inr ⟨c2, e1, ?_, ?_, ?_, ?_⟩⟩⟩
          · rw [hFρ, Nat.add_zero]
            exact hA
          · rw [hFρ]
            exact hFo
          · rw [hFρ, hFw]
            exact hc2'
          · rw [hFρ, Nat.add_zero]
            show (E.ρ i0).2 + cap * sz' ≤ c2.size
            omega
  · have hrun := append_grow (P := P) (w := E.w) (ty := o.type) (A := A) (n := n) (cap := cap) (olds := olds) ht hu hi hz (by rw [hol, hsz, hszz]) hlo' (by rw [hxl, hsz, hszz]) hlies (by omega) hle (by rw [hby]; exact hb) (m := m) (c := cap2)
    refine fin_grow (E0 := E) (s0 := s) hR2 ho rfl (by rw [hxv, hyv]; exact hrun) (grownCap_ge _ _ _ _) ?_ ?_ hK'
    · have := grownCap_ge E.w (n + m) cap e
      have hq : grownCap E.w (n + m) cap e * te.size = n * te.size + m * te.size + (grownCap E.w (n + m) cap e - (n + m)) * te.size := by rw [← Nat.add_mul, ← Nat.add_mul]; congr 1; omega
      simp only [Array.size_append, List.size_toArray, zeroCells_size, hzs, hxl, hol, hszz]
      omega
    · intro k v hk
      rw [hlen2]
      rcases Nat.lt_or_ge k (cs.take (n * sz')).length with hlt | hge
      · rw [List.getElem?_append_left hlt] at hk
        obtain ⟨v', h1, h2, h3⟩ := hold k v hk
        exact ⟨v', arr_get h1, h3⟩
      · rw [List.getElem?_append_right hge] at hk
        obtain ⟨z', h1, h2⟩ := hsrc2 _ v hk
        refine ⟨z', ?_, ?_⟩
        · rw [show k = n * sz' + (k - (cs.take (n * sz')).length) from by omega]
          exact arr_get' hol h1
        · rwa [show n * sz' + (k - (cs.take (n * sz')).length) = k from by omega] at h2
end
end Go.Proofs.YtiplgkbgkmomlaaD
