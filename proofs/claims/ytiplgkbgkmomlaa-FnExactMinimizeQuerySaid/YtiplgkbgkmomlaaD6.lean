/- Each operation that leaves memory alone does what its condition says. -/
import Derived.Test.YtiplgkbgkmomlaaD5
set_option linter.unusedVariables false
set_option linter.unusedSimpArgs false
namespace Go.Proofs.YtiplgkbgkmomlaaD
open Go

def OpOk (P : Program) (C : Ctx) (E : Env) (s : St) (a : Act) (o : Oper) (K : V → St → Prop) : Prop :=
  ∀ (next : Act → World → Prop) (Q : Exit → Act → World → Prop), (∀ v s' E' x, K v s' → Rel C E' s' a → Rv E' .none v x → next (a.put o.dst x) E'.w) → o.upon P a next Q ((execOp a.eval o).run P E.w)

section
variable {P : Program} {Γ : Tab} {C : Ctx} {E : Env} {s : St} {a : Act} {o : Oper} {K : V → St → Prop}

theorem opOk_of {v : V} {s' : St} {E' : Env} {x : Value} (hr : (execOp a.eval o).run P E.w = .ok (.value x) E'.w) (hK : K v s') (hR : Rel C E' s' a) (hx : Rv E' .none v x) : OpOk P C E s a o K := by
  intro next Q hn
  rw [hr]
  exact hn v s' E' x hK hR hx
theorem opOk_here {v : V} {x : Value} (hR : Rel C E s a) (hr : (execOp a.eval o).run P E.w = .ok (.value x) E.w) (hK : K v s) (hx : Rv E .none v x) : OpOk P C E s a o K := opOk_of hr hK hR hx
theorem opOk_sem {c : Sem Value} {v : V} {x : Value} (hR : Rel C E s a) (he : execOp a.eval o = (do pure (Next.value (← c)))) (hr : c.run P E.w = .ok x E.w) (hK : K v s) (hx : Rv E .none v x) : OpOk P C E s a o K :=
  opOk_here hR (by rw [he]; exact value_run hr) hK hx

theorem op_move {x : Operand} (ho : o.op = .move x) (hR : Rel C E s a) (hK : K (ev s x) s) : OpOk P C E s a o K :=
  opOk_here hR (by simp only [execOp, ho]; rfl) hK (ev_ok hR x)
theorem op_assign {x : Operand} (ho : o.op = .assign x) (hR : Rel C E s a) (hK : K (ev s x) s) : OpOk P C E s a o K :=
  opOk_here hR (by simp only [execOp, ho]; rfl) hK (ev_ok hR x)
theorem ev_sc (hR : Rel C E s a) {x : Operand} {v : Value} (h : ev s x = .sc v) : a.eval x = v := by
  have := ev_ok hR x
  rw [h] at this
  exact this.1
theorem op_pick {c x y : Operand} {t : Bool} (ho : o.op = .pick c x y) (hR : Rel C E s a) (hc : ev s c = .sc (.bool t)) (h1 : t = true → K (ev s x) s) (h2 : t = false → K (ev s y) s) : OpOk P C E s a o K := by
  have hv := ev_sc hR hc
  cases t with
  | true => exact opOk_here hR (x := a.eval x) (by simp [execOp, ho, hv, asBool]) (h1 rfl) (ev_ok hR x)
  | false => exact opOk_here hR (x := a.eval y) (by simp [execOp, ho, hv, asBool]) (h2 rfl) (ev_ok hR y)

theorem sameK_eq {k k' : IntKind} (h : sameK k k' = true) : k = k' := by cases k <;> cases k' <;> simp_all [sameK]
theorem op_binI {op : BinOp} {t t' : TypeId} {x y : Operand} {k k' : IntKind} {m n : Int} (ho : o.op = .binOp op t x y t') (hR : Rel C E s a) (hx : ev s x = .sc (.int k m)) (hy : ev s y = .sc (.int k' n)) (hk : sameK k k' = true) (h : binI op k m n (fun v => K v s)) : OpOk P C E s a o K := by
  have h1 := ev_sc hR hx
  have h2 := ev_sc hR hy
  have hkk := sameK_eq hk
  subst hkk
  have key : ∀ z : Value, z.oneCell' = true → (do eqGuard op t x y (.int k m) (.int k n); binOp op t (.int k m) (.int k n) : Sem Value).run P E.w = .ok z E.w → K (.sc z) s → OpOk P C E s a o K := by
    intro z hz hr hK
    exact opOk_sem hR (c := do eqGuard op t x y (a.eval x) (a.eval y); binOp op t (a.eval x) (a.eval y)) (by simp only [execOp, ho]) (by rw [h1, h2]; exact hr) hK ⟨rfl, hz⟩
  cases op <;> simp only [binI] at h <;> try exact h.elim
  case add => exact key _ rfl (by simp [eqGuard, binOp, Op.intArith]) h
  case sub => exact key _ rfl (by simp [eqGuard, binOp, Op.intArith]) h
  case mul => exact key _ rfl (by simp [eqGuard, binOp, Op.intArith]) h
  case quo => exact key _ rfl (by simp [eqGuard, binOp, Op.intDiv, h.1]) h.2
  case rem => exact key _ rfl (by simp [eqGuard, binOp, Op.intDiv, h.1]) h.2
  case eql => exact key _ rfl (by simp [eqGuard, binOp, Op.intCmp]) h
  case neq => exact key _ rfl (by simp [eqGuard, binOp, Op.intCmp]) h
  case lss => exact key _ rfl (by simp [eqGuard, binOp, Op.intCmp]) h
  case leq => exact key _ rfl (by simp [eqGuard, binOp, Op.intCmp]) h
  case gtr => exact key _ rfl (by simp [eqGuard, binOp, Op.intCmp]) h
  case geq => exact key _ rfl (by simp [eqGuard, binOp, Op.intCmp]) h
theorem op_binS {op : BinOp} {t t' : TypeId} {x y : Operand} {m n : ByteArray} (ho : o.op = .binOp op t x y t') (hR : Rel C E s a) (hx : ev s x = .sc (.string m)) (hy : ev s y = .sc (.string n)) (h : binS op m n (fun v => K v s)) : OpOk P C E s a o K := by
  have h1 := ev_sc hR hx
  have h2 := ev_sc hR hy
  have key : ∀ z : Value, z.oneCell' = true → (do eqGuard op t x y (.string m) (.string n); binOp op t (.string m) (.string n) : Sem Value).run P E.w = .ok z E.w → K (.sc z) s → OpOk P C E s a o K := by
    intro z hz hr hK
    exact opOk_sem hR (c := do eqGuard op t x y (a.eval x) (a.eval y); binOp op t (a.eval x) (a.eval y)) (by simp only [execOp, ho]) (by rw [h1, h2]; exact hr) hK ⟨rfl, hz⟩
  cases op <;> simp only [binS] at h <;> try exact h.elim
  case add =>
    refine key _ rfl ?_ h.2
    have hn : ¬ (((m.size + n.size : Nat) : Int) > IntKind.i64.max) := by
      have : IntKind.i64.max = 9223372036854775807 := by decide
      rw [this]
      have := h.1
      omega
    simp only [eqGuard, binOp, Op.stringOp, if_neg hn]
    simp
  case eql => exact key _ rfl (by simp [eqGuard, binOp, Op.stringOp]) h
  case neq => exact key _ rfl (by simp [eqGuard, binOp, Op.stringOp]) h

theorem op_binB {op : BinOp} {t t' : TypeId} {x y : Operand} {m n : Bool} (ho : o.op = .binOp op t x y t') (hR : Rel C E s a) (hu : P.underlying t = some .bool) (hx : ev s x = .sc (.bool m)) (hy : ev s y = .sc (.bool n)) (h : (op = .eql ∧ K (.sc (.bool (m == n))) s) ∨ (op = .neq ∧ K (.sc (.bool (m != n))) s)) : OpOk P C E s a o K := by
  have h1 := ev_sc hR hx
  have h2 := ev_sc hR hy
  have he : ∀ w : World, (Op.equal t (.bool m) (.bool n)).run P w = .ok (m == n) w := by
    intro w
    have key : ∀ d : Nat, (Op.equalIn (d + 1) t (.bool m) (.bool n)).run P w = .ok (m == n) w := fun d => by simp [Op.equalIn, run_underlying hu]
    exact key 9999
  rcases h with ⟨rfl, hK⟩ | ⟨rfl, hK⟩
  · exact opOk_sem hR (c := do eqGuard .eql t x y (a.eval x) (a.eval y); binOp .eql t (a.eval x) (a.eval y)) (by simp only [execOp, ho]) (by rw [h1, h2]; simp [eqGuard, binOp, he]) hK ⟨rfl, rfl⟩
  · exact opOk_sem hR (c := do eqGuard .neq t x y (a.eval x) (a.eval y); binOp .neq t (a.eval x) (a.eval y)) (by simp only [execOp, ho]) (by rw [h1, h2]; simp [eqGuard, binOp, he]; cases m <;> cases n <;> rfl) hK ⟨rfl, rfl⟩
theorem op_nil {op : BinOp} {t t' : TypeId} {ti : TI} {e : Nat} {x y : Operand} {A : Option Addr} {n c : Nat} (ho : o.op = .binOp op t x y t') (hR : Rel C E s a) (hT : TIOk P t ti) (he : ti.elem = some e) (hx : a.eval x = .slice A n c) (hy : a.eval y = .slice none 0 0) (h : nilC op (some e) A.isNone (fun v => K v s)) : OpOk P C E s a o K := by
  have hu : ∃ e', P.underlying t = some (.slice e') := by
    obtain ⟨d, hd, hk⟩ := hT.desc
    cases d <;> simp_all [descOk]
  obtain ⟨e', hu⟩ := hu
  have hq : ∀ w : World, (Op.equal t (.slice A n c) (.slice none 0 0)).run P w = .ok A.isNone w := by
    intro w
    have key : ∀ d : Nat, (Op.equalIn (d + 1) t (.slice A n c) (.slice none 0 0)).run P w = .ok A.isNone w := fun d => by
      cases A <;> simp [Op.equalIn, run_underlying hu]
    exact key 9999
  cases op <;> simp only [nilC] at h <;> try exact h.elim
  · exact opOk_sem hR (c := do eqGuard .eql t x y (a.eval x) (a.eval y); binOp .eql t (a.eval x) (a.eval y)) (by simp only [execOp, ho]) (by rw [hx, hy]; simp [eqGuard, binOp, hq]) h ⟨rfl, rfl⟩
  · exact opOk_sem hR (c := do eqGuard .neq t x y (a.eval x) (a.eval y); binOp .neq t (a.eval x) (a.eval y)) (by simp only [execOp, ho]) (by rw [hx, hy]; simp [eqGuard, binOp, hq]) h ⟨rfl, rfl⟩
theorem op_not {t : TypeId} {x : Operand} {b : Bool} (ho : o.op = .unOp .not t x) (hR : Rel C E s a) (hx : ev s x = .sc (.bool b)) (h : K (.sc (.bool (!b))) s) : OpOk P C E s a o K :=
  opOk_sem hR (c := Op.unary .not (a.eval x)) (by simp only [execOp, ho]) (by rw [ev_sc hR hx]; simp [Op.unary]) h ⟨rfl, rfl⟩
theorem op_neg {t : TypeId} {x : Operand} {k : IntKind} {n : Int} (ho : o.op = .unOp .neg t x) (hR : Rel C E s a) (hx : ev s x = .sc (.int k n)) (h : K (.sc (.int k (k.wrap (0 - n)))) s) : OpOk P C E s a o K :=
  opOk_sem hR (c := Op.unary .neg (a.eval x)) (by simp only [execOp, ho]) (by rw [ev_sc hR hx]; simp [Op.unary, Op.intArith]) h ⟨rfl, rfl⟩
theorem op_extract {x : Operand} {ix : Nat} {vs : List V} {v : V} (ho : o.op = .extract x ix) (hR : Rel C E s a) (hx : ev s x = .tup vs) (hv : vs[ix]? = some v) (h : K v s) : OpOk P C E s a o K := by
  have := ev_ok hR x
  rw [hx] at this
  obtain ⟨xs, he, hs⟩ := this
  obtain ⟨z, hz, hr⟩ := Rvs_get hs ix v hv
  exact opOk_sem hR (c := Instr.extract (a.eval x) ix) (by simp only [execOp, ho]) (by rw [he]; simp [Instr.extract, hz]) h hr

theorem op_nilCheck_ptr {x : Operand} {i off : Nat} (ho : o.op = .nilCheck x) (hR : Rel C E s a) (hx : ev s x = .ptr i off) (hl : (s.ob i).isSome = true) (h : K (.ptr i off) s) : OpOk P C E s a o K := by
  have := ev_ok hR x
  rw [hx] at this
  obtain ⟨_, ad, hv, _⟩ := this
  refine opOk_sem hR (c := pure (a.eval x)) (x := a.eval x) ?_ (by simp) h (by have := ev_ok hR x; rwa [hx] at this)
  simp only [execOp, ho, hv]
  rfl
theorem op_nilCheck_rp {x : Operand} {cs : List V} (ho : o.op = .nilCheck x) (hR : Rel C E s a) (hx : ev s x = .rp cs) (h : K (.rp cs) s) : OpOk P C E s a o K := by
  have := ev_ok hR x
  rw [hx] at this
  obtain ⟨b, off, hv, hr⟩ := this
  refine opOk_sem hR (c := pure (a.eval x)) (x := a.eval x) ?_ (by simp) h ⟨b, off, hv, hr⟩
  simp only [execOp, ho, hv]
  rfl

theorem lenV_ok (hR : Rel C E s a) {v : V} {x : Value} {n : Nat} (h : lenV s v = some n) (hv : Rv E .none v x) : (∃ A cap, x = .slice A n cap) ∨ ∃ t, x = .string t ∧ t.size = n := by
  cases v <;> simp only [lenV, Option.some.injEq, reduceCtorEq] at h
  case sc v =>
    obtain ⟨rfl, _⟩ := hv
    cases x <;> simp only [lenV, Option.some.injEq, reduceCtorEq] at h
    · exact .inr ⟨_, rfl, h⟩
    · subst h; exact .inl ⟨_, _, rfl⟩
  case ro m cs =>
    subst h
    obtain ⟨A, cap, rfl, _⟩ := hv
    exact .inl ⟨_, _, rfl⟩
  case own i sz off m lo hi =>
    subst h
    obtain ⟨_, A, cap, rfl, _⟩ := hv
    exact .inl ⟨_, _, rfl⟩
  case sub i j =>
    cases hcs : s.ob i with
    | none => rw [hcs] at h; cases h
    | some ob =>
    obtain ⟨bx, cs⟩ := ob
    cases bx with
    | true => rw [hcs] at h; cases h
    | false =>
    rw [hcs] at h
    simp only at h
    cases hr : cs[j]? with
    | none => rw [hr] at h; cases h
    | some c =>
    rw [hr] at h
    cases c <;> simp only [Option.some.injEq, reduceCtorEq] at h
    rename_i sz m r
    subst h
    have hx := hv.2.2 ⟨cs, sz, m, r, by rw [hR.g]; exact hcs, hr⟩
    have hob := hR.ob i _ hcs
    rcases hob with h0 | ⟨c, e, _, _, hrow⟩
    · rw [h0] at hr; simp at hr
    · obtain ⟨u, hu, hru⟩ := Rrow_get hrow j _ hr
      have : E.bare.w = E.w := rfl
      rw [this] at hu
      rw [hu] at hx
      cases hx
      obtain ⟨A, cap, rfl, _⟩ := hru
      exact .inl ⟨_, _, rfl⟩
end
end Go.Proofs.YtiplgkbgkmomlaaD
