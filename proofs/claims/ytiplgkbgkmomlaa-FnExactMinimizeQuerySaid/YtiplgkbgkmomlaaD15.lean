/- Behind a call. -/
import Derived.Test.YtiplgkbgkmomlaaD14
set_option linter.unusedVariables false
set_option linter.unusedSimpArgs false
namespace Go.Proofs.YtiplgkbgkmomlaaD
open Go Go.RowKit

section
variable {P : Program} {Γ : Tab} {C : Ctx} {E : Env} {s : St} {a : Act} {o : Oper} {K : V → St → Prop}

/-- The world behind a call; new blocks bear the labels lf. -/
def Env.ret (E : Env) (w' : World) (lf : Lab) : Env :=
  { E with w := w', o := fun b => if b < E.w.heap.size then E.o b else lf b, okb := fun b => (if b < E.w.heap.size then E.o b else lf b) = none }
theorem ret_mono (hR : Rel C E s a) {w' : World} (hb : Below E.w.heap.size E.w w') (lf : Lab) : Mono E (E.ret w' lf) := by
  have hlab : ∀ b p, E.o b = some p → (E.ret w' lf).o b = some p := by
    intro b p h
    simp only [Env.ret, if_pos (hR.lab b p h).1]
    exact h
  refine ⟨hb.size, fun b hlt hok => ⟨?_, hb.block b hlt⟩, Nat.le_refl _, fun i hi hl => ⟨hl, rfl, fun h => hlab _ _ h, fun c e hc => ⟨c, ?_, rfl⟩⟩, fun i j hi ht => ⟨ht, cell_heap (hb.block _ (row_heap hR ht))⟩⟩
  · rw [hR.okb] at hok
    simp only [Env.ret, if_pos hlt]
    exact hok
  · have := hb.block _ (heap_lt hc)
    exact this.trans hc
theorem ret_kept (hR : Rel C E s a) {w' : World} (hb : Below E.w.heap.size E.w w') (lf : Lab) (q : List Nat) : Kept E (E.ret w' lf) q := fun b r h => by
  have hlt := (hR.lab _ _ h).1
  exact ⟨by simp only [Env.ret, if_pos hlt]; exact h, hb.block b hlt⟩
theorem rel_ret (hR : Rel C E s a) {w' : World} (hb : Below E.w.heap.size E.w w') {lf : Lab} (hlf : ∀ b p, lf b = some p → b < w'.heap.size) : Rel C (E.ret w' lf) s a := by
  have hm := ret_mono hR hb lf
  refine ⟨hR.size, hR.nd, fun k => (hR.slot k).slot hm, hR.g, hR.n, fun i x hx => ObR.mono hm rfl (ret_kept hR hb lf _) (hR.ob i x hx), rfl, fun b p h => ?_, ?_, fun b hb' hl => by have := hR.fr.size; simp only [Env.ret]; rw [if_pos (by omega)]; exact hR.old b hb' hl, hR.pin.mono hm⟩
  · by_cases hlt : b < E.w.heap.size
    · simp only [Env.ret, if_pos hlt] at h
      obtain ⟨h1, h2⟩ := hR.lab b p h
      exact ⟨Nat.lt_of_lt_of_le h1 hb.size, h2⟩
    · simp only [Env.ret, if_neg hlt] at h
      exact ⟨hlf b p h, .inr (.inl (by have := hR.fr.size; omega))⟩
  · have hf := hR.fr
    exact ⟨hb.os.trans hf.os, hb.tape.trans hf.tape, hb.output.trans hf.output, Nat.le_trans hf.size hb.size, fun k hk hl => (hb.block k (Nat.lt_of_lt_of_le hk hf.size)).trans (hf.block k hk hl), fun b c e hc => by
      obtain ⟨c1, h1, h2⟩ := hf.shape b c e hc
      exact ⟨c1, (hb.block b (heap_lt h1)).trans h1, h2⟩⟩

/-- An unused name. -/
def Env.addN (E : Env) : Env := { E with g := fun i => if i = E.n then none else E.g i, n := E.n + 1 }
theorem addN_mono (E : Env) : Mono E E.addN := by
  refine ⟨Nat.le_refl _, fun _ _ h => ⟨h, rfl⟩, Nat.le_succ _, fun i hi hl => ?_, fun i j hi ht => ?_⟩
  · have hne : i ≠ E.n := Nat.ne_of_lt hi
    simp only [Env.addN, if_neg hne] at hl ⊢
    exact ⟨hl, trivial, id, fun c e h => ⟨c, h, rfl⟩⟩
  · have hne : i ≠ E.n := Nat.ne_of_lt hi
    obtain ⟨cs, sz, n, r, hg, hj⟩ := ht
    simp only [Env.addN, if_neg hne] at hg
    exact ⟨⟨cs, sz, n, r, hg, hj⟩, rfl⟩
theorem rel_addN (hR : Rel C E s a) : Rel C E.addN { s with g := s.g ++ [none] } a := by
  have hm := addN_mono E
  refine ⟨hR.size, hR.nd, fun k => (hR.slot k).slot hm, ?_, ?_, ?_, hR.okb, hR.lab, hR.fr, hR.old, hR.pin.mono hm⟩
  · funext i
    simp only [Env.addN, St.ob, obOf_append, hR.n]
    rw [hR.g]
    rfl
  · simp [Env.addN, hR.n]
  · intro i x hx
    simp only [St.ob, obOf_append] at hx
    split at hx
    · cases hx
    · exact ObR.mono hm rfl (fun _ _ h => ⟨h, rfl⟩) (hR.ob i x hx)

theorem bare_to {E E' : Env} (hw : E'.w = E.w) (ho : E'.o = E.o) (hk : ∀ b, E.okb b → E'.okb b) {m : Md} {v : V} {x : Value} (h : Rv E.bare m v x) : Rv E'.bare m v x := by
  have hm : Mono E.bare E'.bare := ⟨by show E.w.heap.size ≤ E'.w.heap.size; rw [hw]; exact Nat.le_refl _, fun b _ h => ⟨hk b h, by show E'.w.heap[b]? = E.w.heap[b]?; rw [hw]⟩, Nat.le_refl _, fun _ h _ => absurd h (Nat.not_lt_zero _), fun _ _ h _ => absurd h (Nat.not_lt_zero _)⟩
  have hkp : ∀ q, Kept E.bare E'.bare q := fun q b r h => ⟨by show E'.o b = _; rw [ho]; exact h, by show E'.w.heap[b]? = E.w.heap[b]?; rw [hw]⟩
  exact Rv.mono hm (fun q _ => hkp q) (fun k j _ _ => hkp _) h
theorem bares_to {E E' : Env} (hw : E'.w = E.w) (ho : E'.o = E.o) (hk : ∀ b, E.okb b → E'.okb b) {m : Md} {vs : List V} {xs : List Value} (h : Rvs E.bare m vs xs) : Rvs E'.bare m vs xs := by
  have hm : Mono E.bare E'.bare := ⟨by show E.w.heap.size ≤ E'.w.heap.size; rw [hw]; exact Nat.le_refl _, fun b _ h => ⟨hk b h, by show E'.w.heap[b]? = E.w.heap[b]?; rw [hw]⟩, Nat.le_refl _, fun _ h _ => absurd h (Nat.not_lt_zero _), fun _ _ h _ => absurd h (Nat.not_lt_zero _)⟩
  have hkp : ∀ q, Kept E.bare E'.bare q := fun q b r h => ⟨by show E'.o b = _; rw [ho]; exact h, by show E'.w.heap[b]? = E.w.heap[b]?; rw [hw]⟩
  exact Rvs.mono hm (fun q _ => hkp q) (fun k j _ _ => hkp _) h
theorem top_none {E : Env} {k : Nat} {v : V} {x : Value} (h : Rv E.bare (.top k) v x) (hn : notTr v = true) (ha : ∀ cs, v ≠ .agg cs ∧ v ≠ .tup cs ∧ ∀ f, v ≠ .fn f cs) : Rv E .none v x := by
  have h2 := Rv.unbare h
  cases v <;> try exact h2
  · simp [notTr] at hn
  · simp [notTr] at hn
  · exact absurd rfl (ha _).1
  · exact absurd rfl (ha _).2.1
  · exact absurd rfl ((ha _).2.2 _)

mutual
theorem imp_ok : ∀ {r : V} {x : Value} {E : Env} {s : St}, Rel C E s a → Rv E.bare (.top s.g.length) r x →
    ∃ E', Rel C E' { s with g := s.g ++ impO r } a ∧ E'.w = E.w ∧ E'.o = E.o ∧ Mono E E' ∧ Rv E' .none (impV s.g.length r) x ∧ (impO r).length = nl r
  | .tr sz n cs, x, E, s, hR, h => by
    obtain ⟨A, cap, rfl, hc, hl, hr⟩ := h
    have key : ∀ p : Nat × Nat, ObR (E.addO p ⟨false, cs⟩) s.g.length ⟨false, cs⟩ → (cap = 0 ∨ ∃ c e, A = some ⟨p.1, p.2, none⟩ ∧ E.o p.1 = some [s.g.length] ∧ E.w.heap[p.1]? = some (.cells c e (0, 0)) ∧ p.2 + cap * sz ≤ c.size) →
        ∃ E', Rel C E' { s with g := s.g ++ impO (.tr sz n cs) } a ∧ E'.w = E.w ∧ E'.o = E.o ∧ Mono E E' ∧ Rv E' .none (impV s.g.length (.tr sz n cs)) (.slice A n cap) ∧ (impO (.tr sz n cs)).length = nl (.tr sz n cs) := by
      intro p hob hv
      refine ⟨E.addO p ⟨false, cs⟩, rel_addO hR hR.n hob, rfl, rfl, addO_mono _ _ _, ?_, rfl⟩
      refine ⟨by show s.g.length < E.n + 1; rw [hR.n]; exact Nat.lt_succ_self _, A, cap, rfl, fun _ => ⟨hc, hc, fun h hh => (by cases hh), ?_⟩⟩
      have hρ : (E.addO p ⟨false, cs⟩).ρ s.g.length = p := by simp only [Env.addO, hR.n, if_true]
      rcases hv with hv | ⟨c, e, h1, h2, h3, h4⟩
      · exact .inl hv
      · exact .inr ⟨c, e, by rw [hρ]; exact h1, by rw [hρ]; exact h2, by rw [hρ]; exact h3, by rw [hρ, Nat.add_zero]; exact h4⟩
    rcases hr with hr | ⟨b, off, q, c, e, hA, hq, ho, hh, hs, hrow⟩
    · refine key (0, 0) (.inl ?_) (.inl hr)
      have hn0 : n = 0 := by omega
      rw [hn0, Nat.zero_mul] at hl
      exact List.eq_nil_of_length_eq_zero hl
    · simp only [Md.leaf, Option.some.injEq] at hq
      subst hq
      have hρ : (E.addO (b, off) ⟨false, cs⟩).ρ s.g.length = (b, off) := by simp only [Env.addO, hR.n, if_true]
      refine key (b, off) (.inr ⟨c, e, by rw [hρ]; exact hh, by rw [hρ]; exact ho, ?_⟩) (.inr ⟨c, e, hA, ho, hh, hs⟩)
      rw [hρ]
      exact Rrow.mono (E := E.bare) (addO_mono E (b, off) ⟨false, cs⟩).bare (fun q _ => fun _ _ h => ⟨h, rfl⟩) rfl hrow
  | .sc v, x, E, s, hR, h => ⟨E.addN, rel_addN hR, rfl, rfl, addN_mono E, (top_none h rfl (fun cs => ⟨nofun, nofun, nofun⟩)).slot (addN_mono E), rfl⟩
  | .ro n cs, x, E, s, hR, h => ⟨E.addN, rel_addN hR, rfl, rfl, addN_mono E, (top_none h rfl (fun cs => ⟨nofun, nofun, nofun⟩)).slot (addN_mono E), rfl⟩
  | .rp cs, x, E, s, hR, h => ⟨E.addN, rel_addN hR, rfl, rfl, addN_mono E, (top_none h rfl (fun cs => ⟨nofun, nofun, nofun⟩)).slot (addN_mono E), rfl⟩
  | .bp cs, x, E, s, hR, h => by
    obtain ⟨b, off, q, c, e, rfl, hq, ho, hh, hne, hrow⟩ := h
    simp only [Md.leaf, Option.some.injEq] at hq
    subst hq
    have hρ : (E.addO (b, off) ⟨false, cs⟩).ρ s.g.length = (b, off) := by simp only [Env.addO, hR.n, if_true]
    have hob : ObR (E.addO (b, off) ⟨false, cs⟩) s.g.length ⟨false, cs⟩ := by
      refine .inr ⟨c, e, by rw [hρ]; exact hh, by rw [hρ]; exact ho, ?_⟩
      rw [hρ]
      exact Rrow.mono (E := E.bare) (addO_mono E (b, off) ⟨false, cs⟩).bare (fun q _ => fun _ _ h => ⟨h, rfl⟩) rfl hrow
    exact ⟨E.addO (b, off) ⟨false, cs⟩, rel_addO hR hR.n hob, rfl, rfl, addO_mono _ _ _, ⟨by show s.g.length < E.n + 1; rw [hR.n]; exact Nat.lt_succ_self _, _, rfl, fun _ => by rw [hρ]; rfl⟩, rfl⟩
  | .fn f cs, x, E, s, hR, h => by
    obtain ⟨xs, rfl, hr⟩ := h
    obtain ⟨E', h1, h2, h3, h4, h5, h6⟩ := imps_ok hR hr
    exact ⟨E', h1, h2, h3, h4, ⟨xs, rfl, h5⟩, h6⟩
  | .sp i j off, x, E, s, hR, h => absurd h.1 (Nat.not_lt_zero _)
  | .any, x, E, s, hR, h => ⟨E.addN, rel_addN hR, rfl, rfl, addN_mono E, trivial, rfl⟩
  | .own i sz off n lo hi, x, E, s, hR, h => absurd h.1 (Nat.not_lt_zero _)
  | .sub i j, x, E, s, hR, h => absurd h.1 (Nat.not_lt_zero _)
  | .ptr i off, x, E, s, hR, h => absurd h.1 (Nat.not_lt_zero _)
  | .agg cs, x, E, s, hR, h => by
    obtain ⟨xs, rfl, hr⟩ := h
    obtain ⟨E', h1, h2, h3, h4, h5, h6⟩ := imps_ok hR hr
    exact ⟨E', h1, h2, h3, h4, ⟨xs, rfl, h5⟩, h6⟩
  | .tup cs, x, E, s, hR, h => by
    obtain ⟨xs, rfl, hr⟩ := h
    obtain ⟨E', h1, h2, h3, h4, h5, h6⟩ := imps_ok hR hr
    exact ⟨E', h1, h2, h3, h4, ⟨xs, rfl, h5⟩, h6⟩
theorem imps_ok : ∀ {rs : List V} {xs : List Value} {E : Env} {s : St}, Rel C E s a → Rvs E.bare (.top s.g.length) rs xs →
    ∃ E', Rel C E' { s with g := s.g ++ impOs rs } a ∧ E'.w = E.w ∧ E'.o = E.o ∧ Mono E E' ∧ Rvs E' .none (impVs s.g.length rs) xs ∧ (impOs rs).length = nls rs
  | [], [], E, s, hR, h => ⟨E, by simp only [impOs, List.append_nil]; exact hR, rfl, rfl, mono_refl E, trivial, rfl⟩
  | r :: rs, x :: xs, E, s, hR, h => by
    obtain ⟨E1, h1, h2, h3, h4, h5, h6⟩ := imp_ok hR h.1
    have hlen : ({ s with g := s.g ++ impO r } : St).g.length = s.g.length + nl r := by simp [h6]
    have hr : Rvs E1.bare (.top ({ s with g := s.g ++ impO r } : St).g.length) rs xs := by
      rw [hlen]
      refine bares_to h2 h3 (fun b hb => ?_) h.2
      rw [h1.okb, h3]
      rw [hR.okb] at hb
      exact hb
    obtain ⟨E2, g1, g2, g3, g4, g5, g6⟩ := imps_ok h1 hr
    refine ⟨E2, ?_, g2.trans h2, g3.trans h3, ?_, ⟨h5.slot g4, ?_⟩, ?_⟩
    · simp only [impOs, ← List.append_assoc]
      exact g1
    · refine ⟨Nat.le_trans h4.sz g4.sz, fun b hb hok => ?_, Nat.le_trans h4.n g4.n, fun i hi hl => ?_, fun i j hi ht => ?_⟩
      · obtain ⟨a1, a2⟩ := h4.free b hb hok
        obtain ⟨b1, b2⟩ := g4.free b (Nat.lt_of_lt_of_le hb h4.sz) a1
        exact ⟨b1, b2.trans a2⟩
      · obtain ⟨a1, a2, a3, a4⟩ := g4.ref i (Nat.lt_of_lt_of_le hi h4.n) hl
        obtain ⟨b1, b2, b3, b4⟩ := h4.ref i hi a1
        rw [b2] at a2 a3 a4
        exact ⟨b1, a2, fun ho => a3 (b3 ho), fun c e hc => by obtain ⟨c', h1', h2'⟩ := b4 c e hc; obtain ⟨c'', h3', h4'⟩ := a4 c' e h1'; exact ⟨c'', h3', h4'.trans h2'⟩⟩
      · obtain ⟨a1, a2⟩ := g4.sub i j (Nat.lt_of_lt_of_le hi h4.n) ht
        obtain ⟨b1, b2⟩ := h4.sub i j hi a1
        refine ⟨b1, ?_⟩
        rw [g2, h2]
    · rw [hlen] at g5
      exact g5
    · simp [impOs, nls, h6, g6]
  | [], _ :: _, E, s, hR, h => h.elim
  | _ :: _, [], E, s, hR, h => h.elim
end

theorem evs_ok (hR : Rel C E s a) : ∀ args : List Operand, Rvs E .none (args.map (ev s)) (args.map a.eval)
  | [] => trivial
  | x :: r => ⟨ev_ok hR x, evs_ok hR r⟩
theorem run_callFunc_enter {f : FuncId} (h : Enters P f) (args : Array Value) (w : World) : (callFunc f args).run P w = .ok (.enter f args) w := by
  obtain ⟨fn, c, hf, hn, hb⟩ := h
  have hn' : ¬ fn.name = "runtime.NumGoroutine" := by simpa using hn
  simp [callFunc, hf, hn', hb]
theorem exec_call {f : FuncId} {args : Array Operand} {ts : Array TypeId} (ho : o.op = .call { callee := .value (.func f), args, argTypes := ts }) (h : Enters P f) (w : World) : (execOp a.eval o).run P w = .ok (.enter f (args.toList.map a.eval).toArray) w := by
  have he : ((args.toList.map a.eval).toArray : Array Value) = args.map a.eval := by
    apply Array.toList_inj.1; simp
  rw [he]
  simp only [execOp, ho, resolve, Act.eval, Deferred.ofValue, Sem.run_bind, Sem.run_pure, Result.andThen_ok, invoke, Array.append_empty, Array.empty_append]
  exact run_callFunc_enter h _ _

/-- What a finished call hands back. -/
theorem back_ok (hR : Rel C E s a) {ro : Bool} {w' : World} (hb : Below E.w.heap.size E.w w') {o' : Lab} (ho : ∀ b, b < E.w.heap.size → o' b = dull E ro b) (hl : ∀ b p, o' b = some p → b < w'.heap.size) {r : V} {x : Value} {k0 : Nat} (hv : Rv (baseE w' o') (.top k0) r x)
    (hc : ro = true ∨ closed r) {K : V → St → Prop} (hK : K (roV r) s ∨ K (impV s.g.length r) { s with g := s.g ++ impO r }) : ∃ E' v s', E'.w = w' ∧ K v s' ∧ Rel C E' s' a ∧ Rv E' .none v x := by
  have hold : ∀ b, b < E.w.heap.size → ∀ q, o' b = some q → q = [] := by
    intro b hlt q hq
    rw [ho b hlt] at hq
    exact (dull_ok hR ro b q hq).1
  have hfree : ∀ (lf : Lab), (∀ b, o' b = none → lf b = none) → ro = true → ∀ b, (baseE w' o').okb b → (E.ret w' lf).okb b := by
    intro lf hlf hro b hok
    have hok' : o' b = none := hok
    show (if b < E.w.heap.size then E.o b else lf b) = none
    by_cases hlt : b < E.w.heap.size
    · rw [if_pos hlt]
      rw [ho b hlt] at hok'
      subst hro
      simpa [dull] using hok'
    · rw [if_neg hlt]
      exact hlf b hok'
  rcases hK with hK | hK
  · refine ⟨E.ret w' fun _ => none, _, _, rfl, hK, rel_ret hR hb (fun b p h => by cases h), ?_⟩
    refine Rv.freeze (G := baseE w' o') (F := E.ret w' fun _ => none) (full := ro = true) rfl rfl (hfree _ fun _ _ => rfl) (fun b q hq0 hq => ?_) (m := .top k0) (fun q hq => by cases hq) hc hv
    show (if b < E.w.heap.size then E.o b else none) = none
    by_cases hlt : b < E.w.heap.size
    · exact absurd (hold b hlt q hq) hq0
    · rw [if_neg hlt]
  · have hlf : ∀ b p, (o' b).map (shift k0 s.g.length) = some p → b < w'.heap.size := by
      intro b p h
      simp only [Option.map_eq_some_iff] at h
      obtain ⟨q, hq, _⟩ := h
      exact hl b q hq
    have hR1 := rel_ret hR hb (lf := fun b => (o' b).map (shift k0 s.g.length)) hlf
    have hv1 : Rv (E.ret w' fun b => (o' b).map (shift k0 s.g.length)).bare (.top s.g.length) r x := by
      have e : Md.sh k0 s.g.length (.top k0) = .top s.g.length := by simp [Md.sh]
      rw [← e]
      refine Rv.sh (G := baseE w' o') (F := E.ret w' fun b => (o' b).map (shift k0 s.g.length)) (full := ro = true) rfl rfl (hfree _ fun b h => by simp [h]) (fun b q hq0 hq => ?_) (m := .top k0) (k0 := k0) (N := s.g.length) (Nat.le_refl _) hc hv
      show (if b < E.w.heap.size then E.o b else (o' b).map (shift k0 s.g.length)) = _
      by_cases hlt : b < E.w.heap.size
      · exact absurd (hold b hlt q hq) hq0
      · have hq' : o' b = some q := hq
        rw [if_neg hlt, hq']
        rfl
    obtain ⟨E', h1, h2, h3, h4, h5, h6⟩ := imp_ok hR1 hv1
    exact ⟨E', _, _, h2, hK, h1, h5⟩

theorem op_call {f : FuncId} {args : Array Operand} {ts : Array TypeId} (ho : o.op = .call { callee := .value (.func f), args, argTypes := ts }) (hR : Rel C E s a) (h : callK (SpecR P) s f (args.toList.map (ev s)) K) : OpOk P C E s a o K := by
  unfold callK at h
  obtain ⟨us, ⟨r, ⟨hen, hspec⟩, hc, hK⟩, hu⟩ := snaps_ok hR (ro := roOnlys (args.toList.map (ev s))) (fun h => h) h (evs_ok hR args.toList)
  intro next Q hn
  rw [exec_call ho hen]
  show Calls P f _ E.w _
  refine Calls.mono (hspec E.w (dull E (roOnlys (args.toList.map (ev s)))) _ (dull_ok hR _) hu) fun e w' he => ?_
  cases e with
  | returned x =>
    obtain ⟨hb, o', h1, h2, k0, h3⟩ := he
    obtain ⟨E', v, s', hw, hK', hR', hv'⟩ := back_ok hR hb h1 h2 h3 hc hK
    have := hn v s' E' x hK' hR' hv'
    rwa [hw] at this
  | panicked chain => exact he.elim
  | outgrown => exact he.elim
end
end Go.Proofs.YtiplgkbgkmomlaaD
