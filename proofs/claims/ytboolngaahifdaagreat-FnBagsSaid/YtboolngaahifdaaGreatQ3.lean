/- Contracts and plain laws of this seat; no condition. -/
import Derived.Test.YtboolngaahifdaaGreatQ2
import Derived.Laws.AppendOwn
set_option linter.unusedVariables false
set_option linter.unusedSimpArgs false
namespace Go.Proofs.YtboolngaahifdaaGreatD
open Go
section
variable {P : Program} {Γ : Tab} {C : Ctx} {E : Env} {s : St} {a : Act} {o : Oper} {K : V → St → Prop}
def Env.wrx (E : Env) (w' : World) : Env := { E with w := w' }
theorem yW {w' : World} {k b off : Nat} {p : List Nat} {xs : List Value} (hR : Rel C E s a) (hw : Wrote E.w w' b off xs) (hlab : E.o b = some (k :: p)) (hk : E.n ≤ k) : Mono E (E.wrx w') := by
 refine ⟨Nat.le_of_eq hw.size.symm, fun b' hb' hok => ⟨hok, hw.other b' ?_⟩, Nat.le_refl _, fun j hj hl => ⟨hl, rfl, id, fun c e hc => ?_⟩, fun j c hj ht => ⟨ht, ?_⟩⟩
 ·intro he
  rw [hR.okb, he, hlab] at hok
  cases hok
 ·by_cases he : (E.ρ j).1 = b
  ·rw [he] at hc ⊢
   obtain ⟨c', h1, h2, _⟩ := hw.row c e hc
   exact ⟨c', h1, h2⟩
  ·exact ⟨c, by rw [← hc]; exact hw.other _ he, rfl⟩
 ·refine dQ (hw.other _ ?_)
  obtain ⟨cs, sz, n, r, hg, hkk⟩ := ht
  rw [show (E.wrx w').g = E.g from rfl, hR.g] at hg
  rcases hR.ob j _ hg with h0 | ⟨c', e, _, hl, _⟩
  ·rw [h0] at hkk; simp at hkk
  ·intro he
   rw [he, hlab] at hl
   simp at hl
   omega
theorem yV {w' : World} {k b off : Nat} {p q : List Nat} {xs : List Value} (hw : Wrote E.w w' b off xs) (hlab : E.o b = some (k :: p)) (hq : ∀ r, q ++ r ≠ k :: p) : Kept E (E.wrx w') q := fun b' r hb' => by
 refine ⟨hb', hw.other b' fun he => ?_⟩
 rw [he, hlab] at hb'
 exact hq r (Option.some.inj hb').symm
theorem LI {w' : World} {k b off : Nat} {p : List Nat} {xs : List Value} (hR : Rel C E s a) (hw : Wrote E.w w' b off xs) (hlab : E.o b = some (k :: p)) (hk : E.n ≤ k) : Rel C (E.wrx w') s a := by
 have hm := yW hR hw hlab hk
 refine ⟨hR.size, hR.nd, fun k => (hR.slot k).slot hm, hR.g, hR.n, fun j x hx => ?_, hR.okb, fun b' p' hp => ?_, xJ (i := 0) hR.fr hw ((hR.lab _ _ hlab).2.resolve_left (by simp)), hR.old, hR.pin.mono hm⟩
 ·have hj := C6 hR hx
  exact ObR.mono hm rfl (yV hw hlab (fun r hr => by simp at hr; omega)) (hR.ob j x hx)
 ·obtain ⟨h1, h2⟩ := hR.lab b' p' hp
  exact ⟨by show b' < w'.heap.size; rw [hw.size]; exact h1, h2⟩
def Env.addO (E : Env) (p : Nat × Nat) (ob : Obj) : Env := { E with ρ := fun i => if i = E.n then p else E.ρ i, g := fun i => if i = E.n then some ob else E.g i, n := E.n + 1 }
theorem iI (E : Env) (p : Nat × Nat) (ob : Obj) : Mono E (E.addO p ob) := by
 refine ⟨Nat.le_refl _, fun _ _ h => ⟨h, rfl⟩, Nat.le_succ _, fun i hi hl => ?_, fun i j hi ht => ?_⟩
 ·have hne : i ≠ E.n := Nat.ne_of_lt hi
  simp only [Env.addO, if_neg hne] at hl ⊢
  exact ⟨hl, trivial, id, fun c e h => ⟨c, h, rfl⟩⟩
 ·have hne : i ≠ E.n := Nat.ne_of_lt hi
  obtain ⟨cs, sz, n, r, hg, hj⟩ := ht
  simp only [Env.addO, if_neg hne] at hg
  exact ⟨⟨cs, sz, n, r, hg, hj⟩, rfl⟩
theorem pP (E : Env) (p : Nat × Nat) (ob : Obj) (q : List Nat) : Kept E (E.addO p ob) q := fun _ _ h => ⟨h, rfl⟩
theorem kS (hR : Rel C E s a) {p : Nat × Nat} {ob : Obj} {k : Nat} (hk : E.n = k) (hob : ObR (E.addO p ob) k ob) : Rel C (E.addO p ob) (s.add ob) a := by
 subst hk
 have hm := iI E p ob
 refine ⟨hR.size, hR.nd, fun k => (hR.slot k).slot hm, ?_, ?_, ?_, hR.okb, hR.lab, hR.fr, hR.old, hR.pin.mono hm⟩
 ·funext i
  simp only [Env.addO, St.ob, St.add, eD, hR.n]
  rw [hR.g]
  rfl
 ·simp [Env.addO, St.add, hR.n]
 ·intro i x hx
  simp only [St.ob, St.add, eD] at hx
  split at hx
  ·rename_i hi
   cases hx
   rw [hi, ← hR.n]
   exact hob
  ·have hlt := C6 hR (show s.ob i = some x from hx)
   exact ObR.mono hm (by simp only [Env.addO, if_neg (Nat.ne_of_lt hlt)]) (pP E p ob _) (hR.ob i x hx)
theorem m5 {x y : Operand} {t u : TypeId} {v : Value} {w' : World} (ho : o.op = .call { callee := .builtin .append, args := #[x, y], argTypes := #[t, u] })
  (hr : (Builtin.append_ #[t, u] o.type #[a.eval x, a.eval y]).run P E.w = .ok v w') : (execOp a.eval o).run P E.w = .ok (.value v) w' := by
 unfold execOp
 simp only [ho, resolve, invoke, builtin, Sem.run_bind, Sem.run_pure, Result.andThen_ok, List.map_toArray, List.map_cons, List.map_nil, hr]
theorem uF {sz : Nat} {A : Option Addr} {x y : Operand} {t u : TypeId} (hR : Rel C E s a) (ho : o.op = .call { callee := .builtin .append, args := #[x, y], argTypes := #[t, u] }) {E0 : Env} (hw : E.w = E0.w)
  (hr : (Builtin.append_ #[t, u] o.type #[a.eval x, a.eval y]).run P E0.w = .ok (.slice A 0 0) E0.w) (hK : K (.own s.g.length sz 0 0 0 none) (s.add ⟨false, []⟩)) {s0 : St} : cX P C E0 s0 a o K := by
 refine iM (E' := E.addO (0, 0) ⟨false, []⟩) (x := .slice A 0 0) ?_ hK (kS hR rfl (.inl rfl)) ?_
 ·rw [m5 ho hr, ← hw]; rfl
 ·rw [← hR.n]
  exact ⟨by simp [Env.addO], A, 0, rfl, Nat.le_refl _, fun _ => ⟨Nat.le_refl _, Nat.le_refl _, fun h hh => (by cases hh), .inl rfl⟩⟩
theorem xH {sz n cap : Nat} {e : TypeId} {cs : List V} {c : Array Value} {x y : Operand} {t u : TypeId} (hR : Rel C E s a) (ho : o.op = .call { callee := .builtin .append, args := #[x, y], argTypes := #[t, u] }) {E0 : Env} (hw : E.w = E0.w)
  (hr : (Builtin.append_ #[t, u] o.type #[a.eval x, a.eval y]).run P E0.w = .ok (.slice (some ⟨E0.w.heap.size, 0, none⟩) n cap) (E0.w.drew.alloc (.cells c e))) (hn : n ≤ cap) (hsz : cap * sz ≤ c.size)
  (hcell : ∀ k v, cs[k]? = some v → ∃ z, c[k]? = some z ∧ Rv E.bare (.at [s.g.length, k]) v z)
  (hK : K (.own s.g.length sz 0 n n none) (s.add ⟨false, cs⟩)) {s0 : St} : cX P C E0 s0 a o K := by
 have hRd := TA hR
 have hrow : Rrow (E.drw.push c e ⟨false, cs⟩).bare (.at [E.drw.n]) E.drw.w.heap.size 0 0 cs := by
  refine cD fun k v hk => ?_
  obtain ⟨z, hz, hrv⟩ := hcell k v hk
  refine ⟨z, ?_, ?_⟩
  ·rw [Nat.zero_add]
   exact (lZ _ _ _ _).trans hz
  ·have hid : E.drw.n = s.g.length := hR.n
   rw [hid, Nat.zero_add]
   have h1 : Rv E.drw.bare (.at [s.g.length, k]) v z := Rv.mono (xG E).bare (fun q hq b r hb => ⟨hb, rfl⟩) (fun q j hq _ => by cases hq) hrv
   exact Rv.mono (uS hRd c e ⟨false, cs⟩).bare (fun q hq => by cases hq; exact zW hRd c e ⟨false, cs⟩ _) (fun q j hq _ => by cases hq) h1
 have hob : ObR (E.drw.push c e ⟨false, cs⟩) E.drw.n ⟨false, cs⟩ := by
  refine .inr ⟨c, e, ?_, ?_, ?_⟩
  ·simp only [Env.push, if_true]; exact eJ _ _ _
  ·simp [Env.push]
  ·simpa only [Env.push, if_true] using hrow
 refine iM (E' := E.drw.push c e ⟨false, cs⟩) (x := .slice (some ⟨E0.w.heap.size, 0, none⟩) n cap) ?_ hK (tO hRd hob) ?_
 ·rw [m5 ho hr, ← hw]; rfl
 ·rw [← hR.n]
  refine ⟨by simp [Env.push, Env.drw], _, _, rfl, hn, fun _ => ⟨hn, hn, fun h hh => (by cases hh), .inr ⟨c, e, ?_, ?_, ?_, ?_⟩⟩⟩
  ·simp [Env.push, Env.drw, hw]
  ·simp [Env.push, Env.drw]
  ·have := eJ E.drw.w c e
   simpa [Env.push, Env.drw] using this
  ·simpa [Env.push, Env.drw] using hsz
theorem l0 (z : Array Value) (n : Nat) : (Builtin.zeroCells z n).size = n * z.size := by simp [Builtin.zeroCells]
theorem JL {xs ys : List Value} {z : Array Value} {k : Nat} {v : Value} (h : xs[k]? = some v) : (xs.toArray ++ ys.toArray ++ z)[k]? = some v := by
 have hlt := (List.getElem?_eq_some_iff.1 h).1
 rw [Array.append_assoc, Array.getElem?_append_left (by simpa using hlt)]
 simpa using h
theorem x4 {xs ys : List Value} {z : Array Value} {k n : Nat} {v : Value} (hl : xs.length = n) (h : ys[k]? = some v) : (xs.toArray ++ ys.toArray ++ z)[n + k]? = some v := by
 have hlt := (List.getElem?_eq_some_iff.1 h).1
 rw [Array.getElem?_append_left (by simp; omega), Array.getElem?_append_right (by simp; omega)]
 simp [← hl, h]
def fB (i n0 d kid : Nat) : Option (List Nat) → Option (List Nat)
 | some (h :: k :: r) => if h = i then some (kid :: (if k < n0 then k else k - d) :: r) else some (h :: k :: r)
 | some [h] => if h = i then some [kid] else some [h]
 | x => x
def Env.mva (E : Env) (i n0 d kid : Nat) : Env :=
 {E with o := fun b => fB i n0 d kid (E.o b), g := fun j => if j = i then none else E.g j, okb := fun b => fB i n0 d kid (E.o b) = none }
theorem OL {i n0 d kid : Nat} {x : Option (List Nat)} : fB i n0 d kid x = none ↔ x = none := by
 unfold fB
 split
 ·split <;> simp
 ·split <;> simp
 ·rfl
theorem yC {i n0 d kid j : Nat} {r : List Nat} (h : j ≠ i) : fB i n0 d kid (some (j :: r)) = some (j :: r) := by
 cases r <;> simp [fB, h]
theorem qE (hR : Rel C E s a) (i n0 d kid : Nat) : Mono E (E.mva i n0 d kid) := by
 refine ⟨Nat.le_refl _, fun b _ hok => ⟨?_, rfl⟩, Nat.le_refl _, fun j hj hl => ?_, fun j k hj ht => ?_⟩
 ·show fB i n0 d kid (E.o b) = none
  rw [hR.okb] at hok
  exact OL.2 hok
 ·have hji : j ≠ i := by
   intro h
   simp [Env.mva, h] at hl
  refine ⟨by simpa [Env.mva, hji] using hl, rfl, fun ho => ?_, fun c e h => ⟨c, h, rfl⟩⟩
  show fB i n0 d kid (E.o (E.ρ j).1) = some [j]
  rw [ho, yC hji]
 ·obtain ⟨cs, sz, n, r, hg, hk⟩ := ht
  have hji : j ≠ i := by
   intro h
   simp [Env.mva, h] at hg
  exact ⟨⟨cs, sz, n, r, by simpa [Env.mva, hji] using hg, hk⟩, rfl⟩
theorem NX {i n0 d kid j : Nat} {q : List Nat} (h : j ≠ i) : Kept E (E.mva i n0 d kid) (j :: q) := fun b r hb => by
 refine ⟨?_, rfl⟩
 show fB i n0 d kid (E.o b) = _
 rw [hb]
 exact yC h
theorem a0B (i n0 d kid : Nat) {k : Nat} (hk : k < n0) : Moved E (E.mva i n0 d kid) [i, k] [kid, k] := fun b r hb => by
 refine ⟨?_, rfl⟩
 show fB i n0 d kid (E.o b) = _
 rw [hb]
 simp [fB, hk]
theorem ET (i n0 d kid k : Nat) : Moved E (E.mva i n0 d kid) [i, n0 + d + k] [kid, n0 + k] := fun b r hb => by
 refine ⟨?_, rfl⟩
 show fB i n0 d kid (E.o b) = _
 rw [hb]
 simp only [fB, List.cons_append, List.nil_append, if_true, if_neg (show ¬ (n0 + d + k < n0) from by omega), show n0 + d + k - d = n0 + k from by omega]
theorem LG (hR : Rel C E s a) {i : Nat} {ob0 : Obj} (hi : s.ob i = some ob0) (n0 d kid : Nat) : Rel C (E.mva i n0 d kid) (s.put i none) a := by
 have hm := qE hR i n0 d kid
 refine ⟨hR.size, hR.nd, fun k => (hR.slot k).slot hm, ?_, ?_, fun j x hx => ?_, rfl, fun b q hq => ?_, hR.fr, fun b hb hl => ?_, hR.pin.mono hm⟩
 ·funext j
  rw [lO hi]
  simp only [Env.mva, hR.g]
 ·simp [Env.mva, St.put, dB, hR.n]
 ·rw [lO hi] at hx
  by_cases hji : j = i
  ·rw [if_pos hji] at hx; cases hx
  ·rw [if_neg hji] at hx
   exact ObR.mono hm rfl (NX hji) (hR.ob j x hx)
 ·have : E.o b ≠ none := by
   intro h
   simp only [Env.mva, h, fB] at hq
   cases hq
  cases h : E.o b with
  | none => exact absurd h this
  | some q' =>
   obtain ⟨h1, h2⟩ := hR.lab b q' h
   refine ⟨h1, ?_⟩
   rcases h2 with rfl | h2
   ·left
    simp only [Env.mva, h, fB, Option.some.injEq] at hq
    exact hq.symm
   ·exact .inr h2
 ·have h := hR.old b hb hl
  show fB i n0 d kid (E.o b) = _
  rw [h]
  cases ho : C.o0 b with
  | none => rfl
  | some q => rw [C.dull b q hl ho]; rfl
theorem V1 {x y : Operand} {t u e e' : TypeId} {ti tu te : TI} (ho : o.op = .call { callee := .builtin .append, args := #[x, y], argTypes := #[t, u] }) (hR : Rel C E s a) (hT : TIOk P t ti) (he : ti.elem = some e) (hE : TIOk P e te) (hU : TIOk P u tu) (he' : tu.elem = some e') (hb : te.bytes ≤ 64) (hz0 : te.size ≠ 0)
  (h : LU s te.size (ev s y) fun m src s1 => match ev s x with
    | .sc (.slice none 0 0) => m ≤ 1099511627776 ∧ K (.own s1.g.length te.size 0 m m none) (s1.add ⟨false, src⟩)
    | .own i sz 0 n _ _ => match s1.ob i with
     | some ⟨false, cs⟩ => bif Nat.beq sz te.size then (n + m ≤ 1099511627776 ∧ cs.length = n * sz ∧ ∃ cs', cs ++ src = cs' ∧ K (.own s1.g.length sz 0 (n + m) (n + m) none) ((s1.put i none).add ⟨false, cs'⟩)) else False
     | _ => False
    | .own i sz (off + 1) n _ _ => match s1.ob i with
     | some ⟨false, cs⟩ => bif Nat.beq sz te.size then (n + m ≤ 1099511627776 ∧ cs.length = off + 1 + n * sz ∧ ∃ cs', cs.drop (off + 1) ++ src = cs' ∧ K (.own s1.g.length sz 0 (n + m) (n + m) none) ((s1.put i none).add ⟨false, cs'⟩)) else False
     | _ => False
    | _ => False) : cX P C E s a o K := by
 obtain ⟨i, z, hi, hsz, hby, hz, hzc⟩ := hE.info
 have ht := f4 (te := te) hT he
 have hu := f4 (te := te) hU he'
 have hzs : z.cells.size = te.size := by rw [← Array.length_toList, hzc, hE.zlen]
 generalize hxe : ev s x = vx at h
 have hvx := cN hR x
 rw [hxe] at hvx
 cases vx with
 | sc v =>
  have hxv : a.eval x = v := hvx.1
  by_cases hvn : v = .slice none 0 0
  ·subst hvn
   obtain ⟨E1, m, src, s1, B, c, xs, ⟨hm, hK⟩, hR1, hw1, hm1, hl1, hy, hxl, hsl, hlies, hone, hcell⟩ := iX (kid := s.g.length) (start := 0) hR (Nat.le_refl _) h (cN hR y)
   by_cases h0 : m = 0
   ·subst h0
    have hsrc : src = [] := List.eq_nil_of_length_eq_zero (by rw [hsl, hxl]; simp)
    subst hsrc
    refine uF (A := none) hR1 ho hw1 ?_ hK
    rw [hxv, hy]
    exact hJ (cap := 0) (n := 0) (m := 0) ht hu hi (by rw [hxl, hsz]) hlies (Nat.le_refl _) (fun ad h => by cases h) (fun _ => rfl)
   ·have hrun := oK (P := P) (w := E.w) (ty := o.type) (A := none) (n := 0) (cap := 0) (olds := []) ht hu hi hz (by simp) (.inl rfl) (by rw [hxl, hsz]) hlies (by omega) (by omega) (by rw [hby]; exact hb) (m := m) (c := c)
    rw [Nat.zero_add] at hrun
    refine xH hR1 ho hw1 (by rw [hxv, hy]; exact hrun) (grownCap_ge _ _ _ _) ?_ ?_ hK
    ·have := grownCap_ge E.w m 0 e
     have hq : grownCap E.w m 0 e * te.size = m * te.size + (grownCap E.w m 0 e - m) * te.size := by rw [← Nat.add_mul]; congr 1; omega
     simp only [Array.size_append, List.size_toArray, List.length_nil, l0, hzs, hxl]
     omega
    ·intro k v hk
     obtain ⟨z', hz', hr'⟩ := hcell k v hk
     exact ⟨z', by have := x4 (xs := []) (n := 0) (z := Builtin.zeroCells z.cells (grownCap E.w m 0 e - m)) rfl hz'; rwa [Nat.zero_add] at this, by rw [hl1]; rwa [Nat.zero_add] at hr'⟩
  ·exfalso
   obtain ⟨E1, m, src, s1, B, c, xs, hf, _⟩ := iX (kid := s.g.length) (start := 0) hR (Nat.le_refl _) h (cN hR y)
   revert hf
   split
   ·rename_i heq; cases heq; exact absurd rfl hvn
   ·rename_i heq; cases heq
   ·rename_i heq; cases heq
   ·exact id
 | own i0 sz off n lo hi0 =>
  cases off with
  | succ off =>
   obtain ⟨E1, m, src, s1, B, c, xs, hK, hR1, hw1, hm1, hl1, hy, hxl, hsl, hlies, hone, hcell⟩ := iX (kid := s.g.length) (start := n * sz) hR (Nat.le_refl _) h (cN hR y)
   simp only at hK
   cases hob : s1.ob i0 with
   | none => rw [hob] at hK; exact hK.elim
   | some ob =>
   obtain ⟨bx, cs⟩ := ob
   cases bx with
   | true => rw [hob] at hK; exact hK.elim
   | false =>
   rw [hob] at hK
   simp only at hK
   cases hbq : Nat.beq sz te.size with
   | false => rw [hbq] at hK; exact hK.elim
   | true =>
   have hszz : sz = te.size := Nat.eq_of_beq_eq_true hbq
   rw [hbq] at hK
   obtain ⟨hle, hcl, _, rfl, hK⟩ := hK
   have hv1 : Rv E1 .none (.own i0 sz (off + 1) n lo hi0) (a.eval x) := hvx.slot hm1
   obtain ⟨hin, A, cap, hxv, hnc, hlv⟩ := hv1
   obtain ⟨hc, hlo, hhi, hbl⟩ := hlv (dA hR1 hob)
   have hk1 : s.g.length = E1.n := by rw [hR1.n, hl1]
   have hne : s.g.length ≠ i0 := by omega
   have hcl0 := hcl
   obtain ⟨R, hRd⟩ : ∃ R, R = (E1.ρ i0).2 + (off + 1) := ⟨_, rfl⟩
   obtain ⟨ds, hds⟩ : ∃ ds, ds = cs.drop (off + 1) := ⟨_, rfl⟩
   have hcl : ds.length = n * sz := by rw [hds, List.length_drop]; omega
   rw [← hds] at hK
   have hdg : ∀ k, ds[k]? = cs[off + 1 + k]? := fun k => by rw [hds, List.getElem?_drop]
   have hvals : ∃ olds : List Value, olds.length = ds.length ∧ GN E.w A olds ∧ ∀ k c, ds[k]? = some c → ∃ v, olds[k]? = some v ∧ E1.w.cell? ⟨(E1.ρ i0).1, R + k, none⟩ = some v ∧ Rv (E1.mva i0 0 (off + 1) s.g.length).bare (.at [s.g.length, k]) c v := by
    by_cases hcs : cs = []
    ·rw [hcs] at hcl0; simp at hcl0; omega
    ·rcases hR1.ob i0 _ hob with h0 | ⟨c', e1, hh, hl', hrow⟩
     ·exact absurd h0 hcs
     ·obtain ⟨olds, hol, hx⟩ := g9 hrow
      have hol2 : (olds.drop (off + 1)).length = ds.length := by rw [List.length_drop, hol, hds, List.length_drop]
      refine ⟨olds.drop (off + 1), hol2, ?_, fun k v hk => ?_⟩
      ·rcases hbl with h0 | ⟨c1, e2, hA, _⟩
       ·have hn0 : n = 0 := by omega
        rw [hn0, Nat.zero_mul] at hcl
        exact .inl (List.eq_nil_of_length_eq_zero (by rw [hol2, hcl]))
       ·refine .inr ⟨_, hA, fun j u hj => ?_⟩
        have hlt := eB hol2 hj
        rw [List.getElem?_drop] at hj
        obtain ⟨v', h1, h2, _⟩ := hx (off + 1 + j) _ (List.getElem?_eq_getElem (by omega))
        rw [hj] at h1
        cases h1
        rw [cV, ← hw1, Nat.add_assoc]
        exact h2
      ·rw [hdg] at hk
       obtain ⟨v', h1, h2, h3⟩ := hx _ v hk
       refine ⟨v', by rw [List.getElem?_drop]; exact h1, by rw [hRd, Nat.add_assoc]; exact h2, ?_⟩
       rw [Nat.zero_add] at h3
       have h4 : Rv E1.bare (.at [i0, 0 + (off + 1) + k]) v v' := by rw [Nat.zero_add]; simpa [Md.child] using h3
       have h5 := Rv.move (qE hR1 i0 0 (off + 1) s.g.length).bare (ET i0 0 (off + 1) s.g.length k) h4
       rwa [Nat.zero_add] at h5
   obtain ⟨olds, hol, hlo', hold⟩ := hvals
   have hR2 := LG hR1 hob 0 (off + 1) s.g.length
   have hlen2 : (s1.put i0 none).g.length = s.g.length := by rw [jM, hl1]
   have hsrc2 : ∀ k c, src[k]? = some c → ∃ z, xs[k]? = some z ∧ Rv (E1.mva i0 0 (off + 1) s.g.length).bare (.at [s.g.length, n * sz + k]) c z := by
    intro k c hk
    obtain ⟨z', h1, h2⟩ := hcell k c hk
    exact ⟨z', h1, Rv.mono (qE hR1 i0 0 (off + 1) s.g.length).bare (fun q hq => by cases hq; exact NX hne) (fun q j hq _ => by cases hq) h2⟩
   have hK' : K (.own (s1.put i0 none).g.length sz 0 (n + m) (n + m) none) ((s1.put i0 none).add ⟨false, ds ++ src⟩) := by rw [hlen2, ← hl1]; exact hK
   by_cases hroom : n + m ≤ cap
   ·rcases Nat.eq_zero_or_pos cap with hc0 | hcp
    ·have hn0 : n = 0 := by omega
     have hm0 : m = 0 := by omega
     subst hn0; subst hm0; subst hc0
     have hsrc : src = [] := List.eq_nil_of_length_eq_zero (by rw [hsl, hxl]; simp)
     have hcs0 : ds = [] := List.eq_nil_of_length_eq_zero (by rw [hcl]; simp)
     have hxs : xs = [] := List.eq_nil_of_length_eq_zero (by rw [hxl]; simp)
     subst hsrc; subst hcs0; subst hxs
     refine uF (A := A) (sz := sz) hR2 ho hw1 ?_ hK'
     rw [hxv, hy]
     exact hJ (cap := 0) (n := 0) (m := 0) ht hu hi (by simp) (.inl rfl) (Nat.le_refl _) (fun ad h => by simp [storeCells]) (fun _ => rfl)
    ·rcases hbl with h0 | ⟨c1, e1, hA, hol1, hh1, hsz1⟩
     ·omega
     ·rw [← hRd] at hA hsz1
      rw [hw1] at hh1
      have hmn : n * sz + m * sz ≤ cap * sz := by rw [← Nat.add_mul]; exact Nat.mul_le_mul_right _ hroom
      obtain ⟨w', hst, hwr⟩ := iD P xs E.w (E1.ρ i0).1 (R + n * sz) 0 c1 e1 hh1 (by rw [hxl, ← hszz]; omega) hone
      rw [Nat.add_zero] at hwr
      have hrun := hJ (P := P) (w := E.w) (w' := w') (ty := o.type) (A := A) (n := n) (cap := cap) (m := m) (c := c) ht hu hi (by rw [hxl, hsz]) hlies hroom (fun ad h => by rw [hA] at h; cases h; rw [cV, hsz, ← hszz]; exact hst) (fun h => by rw [hA] at h; cases h)
      have hlab2 : (E1.mva i0 0 (off + 1) s.g.length).o (E1.ρ i0).1 = some (s.g.length :: []) := by
       show fB _ _ _ _ (E1.o (E1.ρ i0).1) = _
       rw [hol1]
       simp [fB]
      have hwr2 : Wrote (E1.mva i0 0 (off + 1) s.g.length).w w' (E1.ρ i0).1 (R + n * sz) xs := by
       show Wrote E1.w _ _ _ _
       rw [hw1]
       exact hwr
      have hR3 := LI hR2 hwr2 hlab2 (by show E1.n ≤ _; omega)
      have hm3 := yW hR2 hwr2 hlab2 (by show E1.n ≤ _; omega)
      have hcw := jX hwr hh1
      obtain ⟨c2, hc2, hcs2, _⟩ := hwr.row c1 e1 hh1
      have hkn : ((E1.mva i0 0 (off + 1) s.g.length).wrx w').n = s.g.length := hk1.symm
      obtain ⟨F, hF⟩ : ∃ F, F = ((E1.mva i0 0 (off + 1) s.g.length).wrx w').addO ((E1.ρ i0).1, R) ⟨false, ds ++ src⟩ := ⟨_, rfl⟩
      have hFρ : F.ρ s.g.length = ((E1.ρ i0).1, R) := by rw [hF]; simp only [Env.addO, hkn, if_true]
      have hFw : F.w = w' := by rw [hF]; rfl
      have hFn : F.n = s.g.length + 1 := by rw [hF]; simp only [Env.addO, hkn]
      have hFo : F.o (E1.ρ i0).1 = some [s.g.length] := by rw [hF]; exact hlab2
      have hlift : ∀ {k : Nat} {v : V} {y : Value}, Rv (E1.mva i0 0 (off + 1) s.g.length).bare (.at [s.g.length, k]) v y → Rv F.bare (.at [s.g.length, k]) v y := by
       intro k v y hv
       have h1 : Rv ((E1.mva i0 0 (off + 1) s.g.length).wrx w').bare (.at [s.g.length, k]) v y := Rv.mono hm3.bare (fun q hq => by cases hq; exact yV hwr2 hlab2 (fun r hr => by simp at hr)) (fun q j hq _ => by cases hq) hv
       rw [hF]
       exact Rv.mono (iI ((E1.mva i0 0 (off + 1) s.g.length).wrx w') ((E1.ρ i0).1, R) ⟨false, ds ++ src⟩).bare (fun q hq => by cases hq; exact pP _ ((E1.ρ i0).1, R) ⟨false, ds ++ src⟩ _) (fun q j hq _ => by cases hq) h1
      have hob3 : ObR F s.g.length ⟨false, ds ++ src⟩ := by
       refine .inr ⟨c2, e1, by rw [hFρ, hFw]; exact hc2, by rw [hFρ]; exact hFo, ?_⟩
       rw [hFρ]
       refine cD fun k v hk => ?_
       rw [Nat.zero_add]
       rcases Nat.lt_or_ge k ds.length with hlt | hge
       ·rw [List.getElem?_append_left hlt] at hk
        obtain ⟨v', h1, h2, h3⟩ := hold k v hk
        refine ⟨v', ?_, hlift h3⟩
        show F.w.cell? _ = _
        rw [hFw, hcw, if_neg (by omega), ← hw1]
        exact h2
       ·rw [List.getElem?_append_right hge] at hk
        obtain ⟨z', h1, h2⟩ := hsrc2 _ v hk
        have hklt := eB rfl h1
        refine ⟨z', ?_, ?_⟩
        ·show F.w.cell? _ = _
         rw [hFw, hcw, if_pos (by omega), show R + k - (R + n * sz) = k - ds.length from by omega]
         exact h1
        ·rw [show n * sz + (k - ds.length) = k from by omega] at h2
         exact hlift h2
      refine iM (E' := F) (x := .slice A (n + m) cap) ?_ hK' (by rw [hF] at hob3 ⊢; exact kS hR3 hkn hob3) ?_
      ·rw [m5 ho (by rw [hxv, hy]; exact hrun), hFw]
      ·rw [hlen2]
       refine ⟨by rw [hFn]; exact Nat.lt_succ_self _, A, cap, rfl, hroom, fun _ => ⟨hroom, hroom, fun h hh => (by cases hh), .inr ⟨c2, e1, ?_, ?_, ?_, ?_⟩⟩⟩
       ·rw [hFρ, Nat.add_zero]
        exact hA
       ·rw [hFρ]
        exact hFo
       ·rw [hFρ, hFw]
        exact hc2
       ·rw [hFρ, Nat.add_zero]
        show R + cap * sz ≤ c2.size
        omega
   ·have hrun := oK (P := P) (w := E.w) (ty := o.type) (A := A) (n := n) (cap := cap) (olds := olds) ht hu hi hz (by rw [hol, hcl, hsz, hszz]) hlo' (by rw [hxl, hsz]) hlies (by omega) hle (by rw [hby]; exact hb) (m := m) (c := c)
    refine xH hR2 ho hw1 (by rw [hxv, hy]; exact hrun) (grownCap_ge _ _ _ _) ?_ ?_ hK'
    ·have := grownCap_ge E.w (n + m) cap e
     have hq : grownCap E.w (n + m) cap e * te.size = n * te.size + m * te.size + (grownCap E.w (n + m) cap e - (n + m)) * te.size := by rw [← Nat.add_mul, ← Nat.add_mul]; congr 1; omega
     simp only [Array.size_append, List.size_toArray, l0, hzs, hxl, hol, hcl, hszz]
     omega
    ·intro k v hk
     rw [hlen2]
     rcases Nat.lt_or_ge k ds.length with hlt | hge
     ·rw [List.getElem?_append_left hlt] at hk
      obtain ⟨v', h1, h2, h3⟩ := hold k v hk
      exact ⟨v', JL h1, h3⟩
     ·rw [List.getElem?_append_right hge] at hk
      obtain ⟨z', h1, h2⟩ := hsrc2 _ v hk
      refine ⟨z', ?_, ?_⟩
      ·rw [show k = ds.length + (k - ds.length) from by omega]
       exact x4 hol h1
      ·rwa [show n * sz + (k - ds.length) = k from by omega] at h2
  | zero =>
  obtain ⟨E1, m, src, s1, B, c, xs, hK, hR1, hw1, hm1, hl1, hy, hxl, hsl, hlies, hone, hcell⟩ := iX (kid := s.g.length) (start := n * sz) hR (Nat.le_refl _) h (cN hR y)
  simp only at hK
  cases hob : s1.ob i0 with
  | none => rw [hob] at hK; exact hK.elim
  | some ob =>
  obtain ⟨bx, cs⟩ := ob
  cases bx with
  | true => rw [hob] at hK; exact hK.elim
  | false =>
  rw [hob] at hK
  simp only at hK
  cases hbq : Nat.beq sz te.size with
  | false => rw [hbq] at hK; exact hK.elim
  | true =>
  have hszz : sz = te.size := Nat.eq_of_beq_eq_true hbq
  rw [hbq] at hK
  obtain ⟨hle, hcl, _, rfl, hK⟩ := hK
  have hv1 : Rv E1 .none (.own i0 sz 0 n lo hi0) (a.eval x) := hvx.slot hm1
  obtain ⟨hin, A, cap, hxv, hnc, hlv⟩ := hv1
  obtain ⟨hc, hlo, hhi, hbl⟩ := hlv (dA hR1 hob)
  have hk1 : s.g.length = E1.n := by rw [hR1.n, hl1]
  have hne : s.g.length ≠ i0 := by omega
  have hvals : ∃ olds : List Value, olds.length = cs.length ∧ GN E.w A olds ∧ ∀ k c, cs[k]? = some c → ∃ v, olds[k]? = some v ∧ E1.w.cell? ⟨(E1.ρ i0).1, (E1.ρ i0).2 + k, none⟩ = some v ∧ Rv (E1.mv i0 [s.g.length]).bare (.at [s.g.length, k]) c v := by
   by_cases hcs : cs = []
   ·subst hcs
    exact ⟨[], rfl, .inl rfl, by simp⟩
   ·rcases hR1.ob i0 _ hob with h0 | ⟨c', e1, hh, hl', hrow⟩
    ·exact absurd h0 hcs
    ·obtain ⟨olds, hol, hx⟩ := g9 hrow
     refine ⟨olds, hol, ?_, fun k v hk => ?_⟩
     ·rcases hbl with h0 | ⟨c1, e2, hA, _⟩
      ·have hn0 : n = 0 := by omega
       rw [hn0, Nat.zero_mul] at hcl
       exact absurd (List.eq_nil_of_length_eq_zero hcl) hcs
      ·refine .inr ⟨_, hA, fun j u hj => ?_⟩
       have hlt := eB hol hj
       obtain ⟨v', h1, h2, _⟩ := hx j _ (List.getElem?_eq_getElem hlt)
       rw [hj] at h1
       cases h1
       rw [cV, ← hw1]
       exact h2
     ·obtain ⟨v', h1, h2, h3⟩ := hx k v hk
      refine ⟨v', h1, h2, ?_⟩
      rw [Nat.zero_add] at h3
      exact Rv.move (oV hR1 i0 [s.g.length]).bare ((o5 i0 [s.g.length]).child k) h3
  obtain ⟨olds, hol, hlo', hold⟩ := hvals
  have hR2 := FF hR1 hob [s.g.length]
  have hlen2 : (s1.put i0 none).g.length = s.g.length := by rw [jM, hl1]
  have hsrc2 : ∀ k c, src[k]? = some c → ∃ z, xs[k]? = some z ∧ Rv (E1.mv i0 [s.g.length]).bare (.at [s.g.length, n * sz + k]) c z := by
   intro k c hk
   obtain ⟨z', h1, h2⟩ := hcell k c hk
   exact ⟨z', h1, Rv.mono (oV hR1 i0 [s.g.length]).bare (fun q hq => by cases hq; exact uT hne) (fun q j hq _ => by cases hq) h2⟩
  have hK' : K (.own (s1.put i0 none).g.length sz 0 (n + m) (n + m) none) ((s1.put i0 none).add ⟨false, cs ++ src⟩) := by rw [hlen2, ← hl1]; exact hK
  by_cases hroom : n + m ≤ cap
  ·rcases Nat.eq_zero_or_pos cap with hc0 | hcp
   ·have hn0 : n = 0 := by omega
    have hm0 : m = 0 := by omega
    subst hn0; subst hm0; subst hc0
    have hsrc : src = [] := List.eq_nil_of_length_eq_zero (by rw [hsl, hxl]; simp)
    have hcs0 : cs = [] := List.eq_nil_of_length_eq_zero (by rw [hcl]; simp)
    have hxs : xs = [] := List.eq_nil_of_length_eq_zero (by rw [hxl]; simp)
    subst hsrc; subst hcs0; subst hxs
    refine uF (A := A) (sz := sz) hR2 ho hw1 ?_ hK'
    rw [hxv, hy]
    exact hJ (cap := 0) (n := 0) (m := 0) ht hu hi (by simp) (.inl rfl) (Nat.le_refl _) (fun ad h => by simp [storeCells]) (fun _ => rfl)
   ·rcases hbl with h0 | ⟨c1, e1, hA, hol1, hh1, hsz1⟩
    ·omega
    ·rw [Nat.add_zero] at hA hsz1
     rw [hw1] at hh1
     have hmn : n * sz + m * sz ≤ cap * sz := by rw [← Nat.add_mul]; exact Nat.mul_le_mul_right _ hroom
     obtain ⟨w', hst, hwr⟩ := iD P xs E.w (E1.ρ i0).1 ((E1.ρ i0).2 + n * sz) 0 c1 e1 hh1 (by rw [hxl, ← hszz]; omega) hone
     rw [Nat.add_zero] at hwr
     have hrun := hJ (P := P) (w := E.w) (w' := w') (ty := o.type) (A := A) (n := n) (cap := cap) (m := m) (c := c) ht hu hi (by rw [hxl, hsz]) hlies hroom (fun ad h => by rw [hA] at h; cases h; rw [cV, hsz, ← hszz]; exact hst) (fun h => by rw [hA] at h; cases h)
     have hlab2 : (E1.mv i0 [s.g.length]).o (E1.ρ i0).1 = some (s.g.length :: []) := by
      have := (o5 (E := E1) i0 [s.g.length] (E1.ρ i0).1 [] (by simpa using hol1)).1
      simpa using this
     have hwr2 : Wrote (E1.mv i0 [s.g.length]).w w' (E1.ρ i0).1 ((E1.ρ i0).2 + n * sz) xs := by
      show Wrote E1.w _ _ _ _
      rw [hw1]
      exact hwr
     have hR3 := LI hR2 hwr2 hlab2 (by show E1.n ≤ _; omega)
     have hm3 := yW hR2 hwr2 hlab2 (by show E1.n ≤ _; omega)
     have hcw := jX hwr hh1
     obtain ⟨c2, hc2, hcs2, _⟩ := hwr.row c1 e1 hh1
     have hkn : ((E1.mv i0 [s.g.length]).wrx w').n = s.g.length := hk1.symm
     obtain ⟨F, hF⟩ : ∃ F, F = ((E1.mv i0 [s.g.length]).wrx w').addO ((E1.ρ i0).1, (E1.ρ i0).2) ⟨false, cs ++ src⟩ := ⟨_, rfl⟩
     have hFρ : F.ρ s.g.length = ((E1.ρ i0).1, (E1.ρ i0).2) := by rw [hF]; simp only [Env.addO, hkn, if_true]
     have hFw : F.w = w' := by rw [hF]; rfl
     have hFn : F.n = s.g.length + 1 := by rw [hF]; simp only [Env.addO, hkn]
     have hFo : F.o (E1.ρ i0).1 = some [s.g.length] := by rw [hF]; exact hlab2
     have hlift : ∀ {k : Nat} {v : V} {y : Value}, Rv (E1.mv i0 [s.g.length]).bare (.at [s.g.length, k]) v y → Rv F.bare (.at [s.g.length, k]) v y := by
      intro k v y hv
      have h1 : Rv ((E1.mv i0 [s.g.length]).wrx w').bare (.at [s.g.length, k]) v y := Rv.mono hm3.bare (fun q hq => by cases hq; exact yV hwr2 hlab2 (fun r hr => by simp at hr)) (fun q j hq _ => by cases hq) hv
      rw [hF]
      exact Rv.mono (iI ((E1.mv i0 [s.g.length]).wrx w') ((E1.ρ i0).1, (E1.ρ i0).2) ⟨false, cs ++ src⟩).bare (fun q hq => by cases hq; exact pP _ ((E1.ρ i0).1, (E1.ρ i0).2) ⟨false, cs ++ src⟩ _) (fun q j hq _ => by cases hq) h1
     have hob3 : ObR F s.g.length ⟨false, cs ++ src⟩ := by
      refine .inr ⟨c2, e1, by rw [hFρ, hFw]; exact hc2, by rw [hFρ]; exact hFo, ?_⟩
      rw [hFρ]
      refine cD fun k v hk => ?_
      rw [Nat.zero_add]
      rcases Nat.lt_or_ge k cs.length with hlt | hge
      ·rw [List.getElem?_append_left hlt] at hk
       obtain ⟨v', h1, h2, h3⟩ := hold k v hk
       refine ⟨v', ?_, hlift h3⟩
       show F.w.cell? _ = _
       rw [hFw, hcw, if_neg (by omega), ← hw1]
       exact h2
      ·rw [List.getElem?_append_right hge] at hk
       obtain ⟨z', h1, h2⟩ := hsrc2 _ v hk
       have hklt := eB rfl h1
       refine ⟨z', ?_, ?_⟩
       ·show F.w.cell? _ = _
        rw [hFw, hcw, if_pos (by omega), show (E1.ρ i0).2 + k - ((E1.ρ i0).2 + n * sz) = k - cs.length from by omega]
        exact h1
       ·rw [show n * sz + (k - cs.length) = k from by omega] at h2
        exact hlift h2
     refine iM (E' := F) (x := .slice A (n + m) cap) ?_ hK' (by rw [hF] at hob3 ⊢; exact kS hR3 hkn hob3) ?_
     ·rw [m5 ho (by rw [hxv, hy]; exact hrun), hFw]
     ·rw [hlen2]
      refine ⟨by rw [hFn]; exact Nat.lt_succ_self _, A, cap, rfl, hroom, fun _ => ⟨hroom, hroom, fun h hh => (by cases hh), .inr ⟨c2, e1, ?_, ?_, ?_, ?_⟩⟩⟩
      ·rw [hFρ, Nat.add_zero]
       exact hA
      ·rw [hFρ]
       exact hFo
      ·rw [hFρ, hFw]
       exact hc2
      ·rw [hFρ, Nat.add_zero]
       show (E1.ρ i0).2 + cap * sz ≤ c2.size
       omega
  ·have hrun := oK (P := P) (w := E.w) (ty := o.type) (A := A) (n := n) (cap := cap) (olds := olds) ht hu hi hz (by rw [hol, hcl, hsz, hszz]) hlo' (by rw [hxl, hsz]) hlies (by omega) hle (by rw [hby]; exact hb) (m := m) (c := c)
   refine xH hR2 ho hw1 (by rw [hxv, hy]; exact hrun) (grownCap_ge _ _ _ _) ?_ ?_ hK'
   ·have := grownCap_ge E.w (n + m) cap e
    have hq : grownCap E.w (n + m) cap e * te.size = n * te.size + m * te.size + (grownCap E.w (n + m) cap e - (n + m)) * te.size := by rw [← Nat.add_mul, ← Nat.add_mul]; congr 1; omega
    simp only [Array.size_append, List.size_toArray, l0, hzs, hxl, hol, hcl, hszz]
    omega
   ·intro k v hk
    rw [hlen2]
    rcases Nat.lt_or_ge k cs.length with hlt | hge
    ·rw [List.getElem?_append_left hlt] at hk
     obtain ⟨v', h1, h2, h3⟩ := hold k v hk
     exact ⟨v', JL h1, h3⟩
    ·rw [List.getElem?_append_right hge] at hk
     obtain ⟨z', h1, h2⟩ := hsrc2 _ v hk
     refine ⟨z', ?_, ?_⟩
     ·rw [show k = cs.length + (k - cs.length) from by omega]
      exact x4 hol h1
     ·rwa [show n * sz + (k - cs.length) = k from by omega] at h2
 | ro _ _ => exfalso; obtain ⟨_, _, _, _, _, _, _, hf, _⟩ := iX (kid := s.g.length) (start := 0) hR (Nat.le_refl _) h (cN hR y); exact hf
 | tr _ _ _ => exfalso; obtain ⟨_, _, _, _, _, _, _, hf, _⟩ := iX (kid := s.g.length) (start := 0) hR (Nat.le_refl _) h (cN hR y); exact hf
 | sub _ _ => exfalso; obtain ⟨_, _, _, _, _, _, _, hf, _⟩ := iX (kid := s.g.length) (start := 0) hR (Nat.le_refl _) h (cN hR y); exact hf
 | bp _ => exfalso; obtain ⟨_, _, _, _, _, _, _, hf, _⟩ := iX (kid := s.g.length) (start := 0) hR (Nat.le_refl _) h (cN hR y); exact hf
 | sp _ _ _ => exfalso; obtain ⟨_, _, _, _, _, _, _, hf, _⟩ := iX (kid := s.g.length) (start := 0) hR (Nat.le_refl _) h (cN hR y); exact hf
 | mref _ => exfalso; obtain ⟨_, _, _, _, _, _, _, hf, _⟩ := iX (kid := s.g.length) (start := 0) hR (Nat.le_refl _) h (cN hR y); exact hf
 | ptr _ _ => exfalso; obtain ⟨_, _, _, _, _, _, _, hf, _⟩ := iX (kid := s.g.length) (start := 0) hR (Nat.le_refl _) h (cN hR y); exact hf
 | rp _ => exfalso; obtain ⟨_, _, _, _, _, _, _, hf, _⟩ := iX (kid := s.g.length) (start := 0) hR (Nat.le_refl _) h (cN hR y); exact hf
 | agg _ => exfalso; obtain ⟨_, _, _, _, _, _, _, hf, _⟩ := iX (kid := s.g.length) (start := 0) hR (Nat.le_refl _) h (cN hR y); exact hf
 | tup _ => exfalso; obtain ⟨_, _, _, _, _, _, _, hf, _⟩ := iX (kid := s.g.length) (start := 0) hR (Nat.le_refl _) h (cN hR y); exact hf
 | fn _ _ => exfalso; obtain ⟨_, _, _, _, _, _, _, hf, _⟩ := iX (kid := s.g.length) (start := 0) hR (Nat.le_refl _) h (cN hR y); exact hf
 | any => exfalso; obtain ⟨_, _, _, _, _, _, _, hf, _⟩ := iX (kid := s.g.length) (start := 0) hR (Nat.le_refl _) h (cN hR y); exact hf
theorem F2 {x y : Operand} {t u e e' : TypeId} {ti tu te : TI} (ho : o.op = .call { callee := .builtin .append, args := #[x, y], argTypes := #[t, u] }) (hR : Rel C E s a) (hT : TIOk P t ti) (he : ti.elem = some e) (hE : TIOk P e te) (hU : TIOk P u tu) (he' : tu.elem = some e') (hb : te.bytes ≤ 64) (hz0 : te.size ≠ 0)
  (hsb : TJ (ev s x) (ev s y) = true) (h : IV s te.size (ev s x) (ev s y) K) : cX P C E s a o K := by
 obtain ⟨i, z, hi, hsz, hby, hz, hzc⟩ := hE.info
 have ht := f4 (te := te) hT he
 have hu := f4 (te := te) hU he'
 have hzs : z.cells.size = te.size := by rw [← Array.length_toList, hzc, hE.zlen]
 generalize hxe : ev s x = vx at h hsb
 generalize hye : ev s y = vy at h hsb
 have hvx := cN hR x
 have hvy := cN hR y
 rw [hxe] at hvx
 rw [hye] at hvy
 unfold IV at h
 split at h
 rotate_left
 ·exact h.elim
 rename_i i0 sz n lo hi0 j0 sz' off m lo2 hi2
 obtain rfl : i0 = j0 := Nat.eq_of_beq_eq_true hsb
 cases hob : s.ob i0 with
 | none => rw [hob] at h; exact h.elim
 | some ob =>
 obtain ⟨bx, cs⟩ := ob
 cases bx with
 | true => rw [hob] at h; exact h.elim
 | false =>
 rw [hob] at h
 simp only at h
 cases hbq : Nat.beq sz te.size && Nat.beq sz' te.size with
 | false => rw [hbq] at h; exact h.elim
 | true =>
 rw [hbq] at h
 simp only [Bool.and_eq_true] at hbq
 have hszz : sz = te.size := Nat.eq_of_beq_eq_true hbq.1
 obtain rfl : sz' = sz := (Nat.eq_of_beq_eq_true hbq.2).trans hszz.symm
 obtain ⟨⟨hle, hoff, hpre⟩, src, hr, hsol, _, rfl, hK⟩ := h
 obtain ⟨hle2, hreq, hrl⟩ := e8 hr
 obtain ⟨hin, A, cap, hxv, hnc, hlv⟩ := hvx
 obtain ⟨hc, hlo, hhi, hbl⟩ := hlv (dA hR hob)
 obtain ⟨_, B, cap2, hyv, _, hlv2⟩ := hvy
 obtain ⟨hc2, _, _, hbl2⟩ := hlv2 (dA hR hob)
 have hk1 : s.g.length = E.n := by rw [hR.n]
 have hne : s.g.length ≠ i0 := by have := eK (g := s.g) hob; omega
 obtain ⟨d, rfl⟩ : ∃ d, off = n * sz' + d := ⟨off - n * sz', by omega⟩
 have hprel : (cs.take (n * sz')).length = n * sz' := by simp; omega
 have hrc : ∀ k c, src[k]? = some c → cs[n * sz' + d + k]? = some c := by
  intro k c hk
  rw [hreq, List.getElem?_take] at hk
  split at hk
  ·rwa [List.getElem?_drop] at hk
  ·cases hk
 have hpc : ∀ k c, (cs.take (n * sz'))[k]? = some c → k < n * sz' ∧ cs[k]? = some c := by
  intro k c hk
  rw [List.getElem?_take] at hk
  split at hk
  ·rename_i hlt; exact ⟨hlt, hk⟩
  ·cases hk
 have hvals : ∃ xs : List Value, xs.length = src.length ∧ GN E.w B xs ∧ (∀ u ∈ xs, u.oneCell' = true) ∧ ∀ k c, src[k]? = some c → ∃ v, xs[k]? = some v ∧ Rv (E.mva i0 (n * sz') d s.g.length).bare (.at [s.g.length, n * sz' + k]) c v := by
  by_cases hne : src = []
  ·subst hne
   exact ⟨[], rfl, .inl rfl, by simp, by simp⟩
  ·have hrp : 0 < src.length := List.length_pos_iff.2 hne
   rcases hbl2 with h0 | ⟨c, e, hA, ho, hh, hs⟩
   ·have hm0 : m = 0 := by omega
    rw [hm0, Nat.zero_mul] at hrl
    omega
   ·rcases hR.ob i0 _ hob with h0 | ⟨c', e', hh', hl', hrow⟩
    ·rw [h0] at hle2; simp at hle2; omega
    ·obtain ⟨xs, hxl, hx⟩ := g9 hrow
     have hxr : ((xs.drop (n * sz' + d)).take (m * sz')).length = src.length := by rw [hrl]; simp; omega
     have hget : ∀ k c, src[k]? = some c → ∃ v, ((xs.drop (n * sz' + d)).take (m * sz'))[k]? = some v ∧ E.w.cell? ⟨(E.ρ i0).1, (E.ρ i0).2 + (n * sz' + d + k), none⟩ = some v ∧ Rv E.bare (.at [i0, n * sz' + d + k]) c v := by
      intro k c hk
      obtain ⟨v', h1, h2, h3⟩ := hx _ _ (hrc k _ hk)
      refine ⟨v', ?_, h2, by simpa [Md.child] using h3⟩
      rw [List.getElem?_take, if_pos (by have := eB rfl hk; omega), List.getElem?_drop, h1]
     refine ⟨(xs.drop (n * sz' + d)).take (m * sz'), hxr, .inr ⟨_, hA, fun k u hk => ?_⟩, fun u hu => ?_, fun k c hk => ?_⟩
     ·have hlt := eB hxr hk
      obtain ⟨v', h1, h2, _⟩ := hget k _ (List.getElem?_eq_getElem hlt)
      rw [hk] at h1
      cases h1
      rw [cV, Nat.add_assoc]
      exact h2
     ·obtain ⟨k, hk⟩ := List.getElem?_of_mem hu
      have hlt := eB hxr hk
      obtain ⟨v', h1, _, h3⟩ := hget k _ (List.getElem?_eq_getElem hlt)
      rw [hk] at h1
      cases h1
      exact kG (hsol _ (List.getElem_mem hlt)) h3
     ·obtain ⟨v', h1, _, h3⟩ := hget k c hk
      exact ⟨v', h1, Rv.move (qE hR i0 (n * sz') d s.g.length).bare (ET i0 (n * sz') d s.g.length k) h3⟩
 obtain ⟨xs, hxsl, hlies, hone, hsrc2⟩ := hvals
 have hxl : xs.length = m * sz' := hxsl.trans hrl
 have holds : ∃ olds : List Value, olds.length = n * sz' ∧ GN E.w A olds ∧ ∀ k c, (cs.take (n * sz'))[k]? = some c → ∃ v, olds[k]? = some v ∧ E.w.cell? ⟨(E.ρ i0).1, (E.ρ i0).2 + k, none⟩ = some v ∧ Rv (E.mva i0 (n * sz') d s.g.length).bare (.at [s.g.length, k]) c v := by
  by_cases hn0 : n * sz' = 0
  ·rw [hn0]
   exact ⟨[], rfl, .inl rfl, by simp⟩
  ·rcases hR.ob i0 _ hob with h0 | ⟨c', e1, hh, hl', hrow⟩
   ·rw [h0] at hpre; simp at hpre; omega
   ·obtain ⟨olds, hol, hx⟩ := g9 hrow
    have holl : (olds.take (n * sz')).length = n * sz' := by simp; omega
    have hget : ∀ k c, (cs.take (n * sz'))[k]? = some c → ∃ v, (olds.take (n * sz'))[k]? = some v ∧ E.w.cell? ⟨(E.ρ i0).1, (E.ρ i0).2 + k, none⟩ = some v ∧ Rv E.bare (.at [i0, k]) c v := by
     intro k c hk
     obtain ⟨hlt, hk⟩ := hpc k c hk
     obtain ⟨v', h1, h2, h3⟩ := hx k c hk
     exact ⟨v', by rw [List.getElem?_take, if_pos hlt, h1], h2, by simpa [Md.child] using h3⟩
    refine ⟨olds.take (n * sz'), holl, ?_, fun k c hk => ?_⟩
    ·rcases hbl with h0 | ⟨c1, e2, hA, _⟩
     ·have hn0' : n = 0 := by omega
      rw [hn0', Nat.zero_mul] at hn0
      exact absurd rfl hn0
     ·refine .inr ⟨_, hA, fun j u hj => ?_⟩
      have hlt := eB holl hj
      obtain ⟨v', h1, h2, _⟩ := hget j _ (List.getElem?_eq_getElem (by omega))
      rw [hj] at h1
      cases h1
      rw [cV, Nat.add_zero]
      exact h2
    ·obtain ⟨v', h1, h2, h3⟩ := hget k c hk
     exact ⟨v', h1, h2, Rv.move (qE hR i0 (n * sz') d s.g.length).bare (a0B i0 (n * sz') d s.g.length (hpc k c hk).1) h3⟩
 obtain ⟨olds, hol, hlo', hold⟩ := holds
 have hR2 := LG hR hob (n * sz') d s.g.length
 have hlen2 : (s.put i0 none).g.length = s.g.length := by rw [jM]
 have hK' : K (.own (s.put i0 none).g.length sz' 0 (n + m) (n + m) none) ((s.put i0 none).add ⟨false, cs.take (n * sz') ++ src⟩) := by rw [hlen2]; exact hK
 by_cases hroom : n + m ≤ cap
 ·rcases Nat.eq_zero_or_pos cap with hc0 | hcp
  ·have hn0 : n = 0 := by omega
   have hm0 : m = 0 := by omega
   subst hn0; subst hm0; subst hc0
   have hsrc : src = [] := List.eq_nil_of_length_eq_zero (by rw [hrl]; simp)
   have hxs : xs = [] := List.eq_nil_of_length_eq_zero (by rw [hxl]; simp)
   subst hsrc; subst hxs
   rw [Nat.zero_mul, List.take_zero] at hK'
   refine uF (A := A) (sz := sz') (E0 := E) (s0 := s) hR2 ho rfl ?_ hK'
   rw [hxv, hyv]
   exact hJ (cap := 0) (n := 0) (m := 0) ht hu hi (by simp) (.inl rfl) (Nat.le_refl _) (fun ad h => by simp [storeCells]) (fun _ => rfl)
  ·rcases hbl with h0 | ⟨c1, e1, hA, hol1, hh1, hsz1⟩
   ·omega
   ·rw [Nat.add_zero] at hA hsz1
    have hmn : n * sz' + m * sz' ≤ cap * sz' := by rw [← Nat.add_mul]; exact Nat.mul_le_mul_right _ hroom
    obtain ⟨w', hst, hwr⟩ := iD P xs E.w (E.ρ i0).1 ((E.ρ i0).2 + n * sz') 0 c1 e1 hh1 (by omega) hone
    rw [Nat.add_zero] at hwr
    have hrun := hJ (P := P) (w := E.w) (w' := w') (ty := o.type) (A := A) (n := n) (cap := cap) (m := m) (c := cap2) ht hu hi (by rw [hxl, hsz, hszz]) hlies hroom (fun ad h => by rw [hA] at h; cases h; rw [cV, hsz, ← hszz]; exact hst) (fun h => by rw [hA] at h; cases h)
    have hlab2 : (E.mva i0 (n * sz') d s.g.length).o (E.ρ i0).1 = some (s.g.length :: []) := by
     show fB _ _ _ _ (E.o (E.ρ i0).1) = _
     rw [hol1]
     simp [fB]
    have hwr2 : Wrote (E.mva i0 (n * sz') d s.g.length).w w' (E.ρ i0).1 ((E.ρ i0).2 + n * sz') xs := hwr
    have hR3 := LI hR2 hwr2 hlab2 (by show E.n ≤ _; omega)
    have hm3 := yW hR2 hwr2 hlab2 (by show E.n ≤ _; omega)
    have hcw := jX hwr hh1
    obtain ⟨c2, hc2', hcs2, _⟩ := hwr.row c1 e1 hh1
    have hkn : ((E.mva i0 (n * sz') d s.g.length).wrx w').n = s.g.length := hk1.symm
    obtain ⟨F, hF⟩ : ∃ F, F = ((E.mva i0 (n * sz') d s.g.length).wrx w').addO ((E.ρ i0).1, (E.ρ i0).2) ⟨false, cs.take (n * sz') ++ src⟩ := ⟨_, rfl⟩
    have hFρ : F.ρ s.g.length = ((E.ρ i0).1, (E.ρ i0).2) := by rw [hF]; simp only [Env.addO, hkn, if_true]
    have hFw : F.w = w' := by rw [hF]; rfl
    have hFn : F.n = s.g.length + 1 := by rw [hF]; simp only [Env.addO, hkn]
    have hFo : F.o (E.ρ i0).1 = some [s.g.length] := by rw [hF]; exact hlab2
    have hlift : ∀ {k : Nat} {v : V} {y : Value}, Rv (E.mva i0 (n * sz') d s.g.length).bare (.at [s.g.length, k]) v y → Rv F.bare (.at [s.g.length, k]) v y := by
     intro k v y hv
     have h1 : Rv ((E.mva i0 (n * sz') d s.g.length).wrx w').bare (.at [s.g.length, k]) v y := Rv.mono hm3.bare (fun q hq => by cases hq; exact yV hwr2 hlab2 (fun r hr => by simp at hr)) (fun q j hq _ => by cases hq) hv
     rw [hF]
     exact Rv.mono (iI ((E.mva i0 (n * sz') d s.g.length).wrx w') ((E.ρ i0).1, (E.ρ i0).2) ⟨false, cs.take (n * sz') ++ src⟩).bare (fun q hq => by cases hq; exact pP _ ((E.ρ i0).1, (E.ρ i0).2) ⟨false, cs.take (n * sz') ++ src⟩ _) (fun q j hq _ => by cases hq) h1
    have hob3 : ObR F s.g.length ⟨false, cs.take (n * sz') ++ src⟩ := by
     refine .inr ⟨c2, e1, by rw [hFρ, hFw]; exact hc2', by rw [hFρ]; exact hFo, ?_⟩
     rw [hFρ]
     refine cD fun k v hk => ?_
     rw [Nat.zero_add]
     rcases Nat.lt_or_ge k (cs.take (n * sz')).length with hlt | hge
     ·rw [List.getElem?_append_left hlt] at hk
      obtain ⟨v', h1, h2, h3⟩ := hold k v hk
      refine ⟨v', ?_, hlift h3⟩
      show F.w.cell? _ = _
      rw [hFw, hcw, if_neg (by omega)]
      exact h2
     ·rw [List.getElem?_append_right hge] at hk
      obtain ⟨z', h1, h2⟩ := hsrc2 _ v hk
      have hklt := eB rfl h1
      refine ⟨z', ?_, ?_⟩
      ·show F.w.cell? _ = _
       rw [hFw, hcw, if_pos (by omega), show (E.ρ i0).2 + k - ((E.ρ i0).2 + n * sz') = k - (cs.take (n * sz')).length from by omega]
       exact h1
      ·rw [show n * sz' + (k - (cs.take (n * sz')).length) = k from by omega] at h2
       exact hlift h2
    refine iM (E' := F) (x := .slice A (n + m) cap) ?_ hK' (by rw [hF] at hob3 ⊢; exact kS hR3 hkn hob3) ?_
    ·rw [m5 ho (by rw [hxv, hyv]; exact hrun), hFw]
    ·rw [hlen2]
     refine ⟨by rw [hFn]; exact Nat.lt_succ_self _, A, cap, rfl, hroom, fun _ => ⟨hroom, hroom, fun h hh => (by cases hh), .inr ⟨c2, e1, ?_, ?_, ?_, ?_⟩⟩⟩
     ·rw [hFρ, Nat.add_zero]
      exact hA
     ·rw [hFρ]
      exact hFo
     ·rw [hFρ, hFw]
      exact hc2'
     ·rw [hFρ, Nat.add_zero]
      show (E.ρ i0).2 + cap * sz' ≤ c2.size
      omega
 ·have hrun := oK (P := P) (w := E.w) (ty := o.type) (A := A) (n := n) (cap := cap) (olds := olds) ht hu hi hz (by rw [hol, hsz, hszz]) hlo' (by rw [hxl, hsz, hszz]) hlies (by omega) hle (by rw [hby]; exact hb) (m := m) (c := cap2)
  refine xH (E0 := E) (s0 := s) hR2 ho rfl (by rw [hxv, hyv]; exact hrun) (grownCap_ge _ _ _ _) ?_ ?_ hK'
  ·have := grownCap_ge E.w (n + m) cap e
   have hq : grownCap E.w (n + m) cap e * te.size = n * te.size + m * te.size + (grownCap E.w (n + m) cap e - (n + m)) * te.size := by rw [← Nat.add_mul, ← Nat.add_mul]; congr 1; omega
   simp only [Array.size_append, List.size_toArray, l0, hzs, hxl, hol, hszz]
   omega
  ·intro k v hk
   rw [hlen2]
   rcases Nat.lt_or_ge k (cs.take (n * sz')).length with hlt | hge
   ·rw [List.getElem?_append_left hlt] at hk
    obtain ⟨v', h1, h2, h3⟩ := hold k v hk
    exact ⟨v', JL h1, h3⟩
   ·rw [List.getElem?_append_right hge] at hk
    obtain ⟨z', h1, h2⟩ := hsrc2 _ v hk
    refine ⟨z', ?_, ?_⟩
    ·rw [show k = n * sz' + (k - (cs.take (n * sz')).length) from by omega]
     exact x4 hol h1
    ·rwa [show n * sz' + (k - (cs.take (n * sz')).length) = k from by omega] at h2
theorem KY {t e : TypeId} {ti te : TI} {x : Operand} {lo : Option Operand} {i sz off n lo0 : Nat} {hi0 : Option Nat} {l : Int} (ho : o.op = .slice t x lo none none) (hR : Rel C E s a) (hT : TIOk P t ti) (he : ti.elem = some e) (hE : TIOk P e te)
  (hx : ev s x = .own i sz off n lo0 hi0) (hl : eY s 0 lo = some l) (h : WO s te.size i sz off n l K) : cX P C E s a o K := by
 unfold WO at h
 split at h
 rotate_left
 ·exact h.elim
 rename_i cs hob
 cases hz : Nat.beq sz te.size with
 | false => rw [hz] at h; exact h.elim
 | true =>
 rw [hz] at h
 obtain ⟨hb, hcl, _, rfl, hK⟩ := h
 have hsz : sz = te.size := Nat.eq_of_beq_eq_true hz
 have hv := cN hR x
 rw [hx] at hv
 obtain ⟨hin, A, cap, hv, hnc, hlv⟩ := hv
 obtain ⟨hc, hlo, hhi, hbl⟩ := hlv (dA hR hob)
 have hk1 : s.g.length = E.n := by rw [hR.n]
 obtain ⟨ds, hds⟩ : ∃ ds, ds = cs.drop (l.toNat * sz) := ⟨_, rfl⟩
 rw [← hds] at hK
 have hdg : ∀ k, ds[k]? = cs[l.toNat * sz + k]? := fun k => by rw [hds, List.getElem?_drop]
 have hR2 := LG hR hob 0 (l.toNat * sz) s.g.length
 have hlen2 : (s.put i none).g.length = s.g.length := by rw [jM]
 have hkn : (E.mva i 0 (l.toNat * sz) s.g.length).n = s.g.length := hk1.symm
 have hrun := AJ (hi := none) ho hR hT he hE hv hc hl (h := n) (by simp [eY]) ⟨hb.1, hb.2, Int.le_refl _⟩
 obtain ⟨F, hF⟩ : ∃ F, F = (E.mva i 0 (l.toNat * sz) s.g.length).addO ((E.ρ i).1, (E.ρ i).2 + l.toNat * sz) ⟨false, ds⟩ := ⟨_, rfl⟩
 have hFρ : F.ρ s.g.length = ((E.ρ i).1, (E.ρ i).2 + l.toNat * sz) := by rw [hF]; simp only [Env.addO, hkn, if_true]
 have hFw : F.w = E.w := by rw [hF]; rfl
 have hFn : F.n = s.g.length + 1 := by rw [hF]; simp only [Env.addO, hkn]
 have hlift : ∀ {k : Nat} {v : V} {y : Value}, Rv (E.mva i 0 (l.toNat * sz) s.g.length).bare (.at [s.g.length, k]) v y → Rv F.bare (.at [s.g.length, k]) v y := by
  intro k v y hv
  rw [hF]
  exact Rv.mono (iI (E.mva i 0 (l.toNat * sz) s.g.length) ((E.ρ i).1, (E.ρ i).2 + l.toNat * sz) ⟨false, ds⟩).bare (fun q hq => by cases hq; exact pP _ ((E.ρ i).1, (E.ρ i).2 + l.toNat * sz) ⟨false, ds⟩ _) (fun q j hq _ => by cases hq) hv
 have hlab : ∀ b, E.o b = some [i] → F.o b = some [s.g.length] := fun b hb => by
  rw [hF]
  show fB _ _ _ _ (E.o b) = _
  rw [hb]
  simp [fB]
 have hob3 : ObR F s.g.length ⟨false, ds⟩ := by
  rcases hR.ob i _ hob with h0 | ⟨c', e1, hh, hl', hrow⟩
  ·left
   rw [hds, h0]
   simp
  ·refine .inr ⟨c', e1, by rw [hFρ, hFw]; exact hh, by rw [hFρ]; exact hlab _ hl', ?_⟩
   rw [hFρ]
   obtain ⟨xs, hxl, hxs⟩ := g9 hrow
   refine cD fun k v hk => ?_
   rw [hdg] at hk
   obtain ⟨v', h1, h2, h3⟩ := hxs _ v hk
   rw [Nat.zero_add] at h3 ⊢
   have h4 : Rv E.bare (.at [i, 0 + l.toNat * sz + k]) v v' := by rw [Nat.zero_add]; simpa [Md.child] using h3
   have h5 := Rv.move (qE hR i 0 (l.toNat * sz) s.g.length).bare (ET i 0 (l.toNat * sz) s.g.length k) h4
   rw [Nat.zero_add] at h5
   refine ⟨v', ?_, hlift h5⟩
   show F.w.cell? _ = _
   rw [hFw, Nat.add_assoc]
   exact h2
 have hK' : K (.own (s.put i none).g.length sz 0 (n - l.toNat) (n - l.toNat) none) ((s.put i none).add ⟨false, ds⟩) := by rw [hlen2]; exact hK
 refine iM (E' := F) (x := .slice (if cap = l.toNat then A else A.map (·.add (l.toNat * te.size))) ((n : Int).toNat - l.toNat) (cap - l.toNat)) ?_ hK' (by rw [hF] at hob3 ⊢; exact kS hR2 hkn hob3) ?_
 ·rw [hFw]
  have he2 : execOp a.eval o = (do pure (Next.value (← Instr.sliceAt t (a.eval x) (lo.map a.eval) ((none : Option Operand).map a.eval) ((none : Option Operand).map a.eval)))) := by simp only [execOp, ho]
  rw [he2]
  exact nO hrun
 ·rw [hlen2, Int.toNat_natCast]
  refine ⟨by rw [hFn]; exact Nat.lt_succ_self _, _, _, rfl, by omega, fun _ => ⟨by omega, by omega, fun h hh => (by cases hh), ?_⟩⟩
  by_cases hlt : cap = l.toNat
  ·left; omega
  ·rcases hbl with h0 | ⟨c, e', hA, hol, hhe, hsz'⟩
   ·left; omega
   ·right
    refine ⟨c, e', ?_, ?_, ?_, ?_⟩
    ·rw [if_neg hlt, hA, Option.map_some, cV, hFρ, Nat.add_zero, Nat.add_zero, hsz]
    ·rw [hFρ]
     exact hlab _ hol
    ·rw [hFρ, hFw]
     exact hhe
    ·rw [hFρ, Nat.add_zero]
     rw [Nat.add_zero] at hsz'
     have h1 : l.toNat * sz + (cap - l.toNat) * sz = cap * sz := by rw [← Nat.add_mul]; congr 1; omega
     show (E.ρ i).2 + l.toNat * sz + (cap - l.toNat) * sz ≤ c.size
     omega
end
end Go.Proofs.YtboolngaahifdaaGreatD
namespace Go.Proofs.YtboolngaahifdaaGreatD
open Go Go.RowKit
def aZ (w : World) (o : Lab) : Env := ⟨w, o, fun _ => (0, 0), fun _ => none, 0, fun b => o b = none⟩
def a1O (w : World) (o : Lab) : Prop := ∀ b p, o b = some p → p = [] ∧ b < w.heap.size
def Enters (P : Program) (f : FuncId) : Prop := ∃ fn c, P.funcs[f]? = some fn ∧ (fn.name == "runtime.NumGoroutine") = false ∧ fn.body = some c
def yX (o0 : Lab) (b : Nat) : Prop := ∃ k r, o0 b = some (k :: r)
structure BelowD (w w' : World) : Prop where
 os : w'.os = w.os
 tape : w'.tape = w.tape
 output : w'.output = w.output
 size : w.heap.size ≤ w'.heap.size
 block : ∀ k, k < w.heap.size → w'.heap[k]? = w.heap[k]?
 drawn : w.drawn ≤ w'.drawn
structure Grown (w w' : World) (L : Nat → Prop) : Prop where
 os : w'.os = w.os
 tape : w'.tape = w.tape
 output : w'.output = w.output
 size : w.heap.size ≤ w'.heap.size
 block : ∀ k, k < w.heap.size → ¬ L k → w'.heap[k]? = w.heap[k]?
 shape : ∀ (b : Nat) (c : Array Value) (e : TypeId), w.heap[b]? = some (.cells c e (0, 0)) → ∃ c' : Array Value, w'.heap[b]? = some (.cells c' e (0, 0)) ∧ c'.size = c.size
 drawn : w.drawn ≤ w'.drawn
def rS (P : Program) : Nat → List V → V → List V → Prop := fun f as r outs => Enters P f ∧ match outs with
 | [] => ∀ (w : World) (o0 : Lab) (xs : List Value), a1O w o0 → Rvs (aZ w o0) .none as xs → Calls P f xs.toArray w fun e w' =>
  match e with
  | .returned x => BelowD w w' ∧ ∃ o' : Lab, (∀ b, b < w.heap.size → o' b = o0 b) ∧ (∀ b p, o' b = some p → b < w'.heap.size) ∧ ∃ k0, Rv (aZ w' o') (.top k0) r x
  | _ => False
 | o :: os => ∀ (w : World) (o0 : Lab) (xs : List Value), (∀ b p, o0 b = some p → b < w.heap.size) → Rvs (aZ w o0) (.top 0) as xs → Calls P f xs.toArray w fun e w' =>
  match e with
  | .returned x => Grown w w' (yX o0) ∧ ∃ o' : Lab, (∀ b, b < w.heap.size → ¬ yX o0 b → o' b = o0 b) ∧ (∀ b p, o' b = some p → b < w'.heap.size) ∧ Rvs (aZ w' o') (.top 0) (o :: os) xs ∧ ∃ k0, nls as ≤ k0 ∧ Rv (aZ w' o') (.top k0) r x
  | _ => False
abbrev bI (P : Program) (f : Nat) (as : List V) (r : V) : Prop := rS P f as r []
structure GIn (E0 : Env) (g : List (Option Obj)) : Prop where
 gq : E0.g = aX g
 n : E0.n = g.length
 ob : ∀ i ob, aX g i = some ob → ObR E0 i ob
 okb : E0.okb = fun b => E0.o b = none
 lab : ∀ b p, E0.o b = some p → b < E0.w.heap.size
structure GOut (E0 E2 : Env) (g g2 : List (Option Obj)) : Prop where
 gq : E2.g = aX g2
 n : E2.n = g2.length
 ob : ∀ i ob, aX g2 i = some ob → ObR E2 i ob
 okb : E2.okb = fun b => E2.o b = none
 lab : ∀ b p, E2.o b = some p → b < E2.w.heap.size
 grown : Grown E0.w E2.w (yX E0.o)
 old : ∀ b, b < E0.w.heap.size → ¬ yX E0.o b → E2.o b = E0.o b
 pin : ∀ k, k < g.length → (aX g2 k).isSome = true → E2.ρ k = E0.ρ k ∧ (E0.o (E0.ρ k).1 = some [k] → E2.o (E0.ρ k).1 = some [k])
 len : g.length ≤ g2.length
def SpecG (P : Program) : Nat → List V → List (Option Obj) → (V → List (Option Obj) → Prop) → Prop := fun f as g Post => Enters P f ∧ ∀ (E0 : Env) (xs : List Value), GIn E0 g → Rvs E0 .none as xs → Calls P f xs.toArray E0.w fun e w' =>
 match e with
 | .returned x => ∃ (r : V) (g2 : List (Option Obj)) (E2 : Env), Post r g2 ∧ E2.w = w' ∧ GOut E0 E2 g g2 ∧ Rv E2.bare (.top g2.length) r x
 | _ => False
structure Exs where
 ex : Nat → Bool
 hid : Nat → Bool
 cut : Nat → Bool := fun _ => false
 giv : Bool := false
 gvr : Nat → Bool := fun _ => false
def bU (P : Program) (ex : Exs) : CallRel := ⟨rS P, SpecG P, ex.ex, ex.hid, ex.cut, ex.giv, ex.gvr⟩
mutual
theorem Rv.freeze : ∀ {G F : Env} (hn : G.n = 0) (hw : F.w = G.w) {full : Prop} (h1 : full → ∀ b, G.okb b → F.okb b) (h2 : ∀ b q, q ≠ [] → G.o b = some q → F.okb b) {m : Md} {v : V} {x : Value}, (∀ q, m = .at q → q ≠ []) → full ∨ pD v → Rv G m v x → Rv F .none (roV v) x
 | G, F, hn, hw, full, h1, h2, m, .sc v, x, hm, hc, h => h
 | G, F, hn, hw, full, h1, h2, m, .ro n cs, x, hm, hc, h => by
  obtain ⟨A, cap, rfl, hcap, hr⟩ := h
  refine ⟨A, cap, rfl, hcap, fun hne => ?_⟩
  have hne' : cs ≠ [] := by intro h; subst h; exact hne rfl
  obtain ⟨b, off, hA, hok, hb, hrow⟩ := hr hne'
  have hf : full := hc.resolve_right hne'
  exact ⟨b, off, hA, h1 hf b hok, by rw [hw]; exact hb, Rrow.freeze (G := G.bare) (F := F.bare) rfl hw h1 h2 (m := .none) (fun q hq => by cases hq) (.inl hf) hrow⟩
 | G, F, hn, hw, full, h1, h2, m, .tr sz n cs, x, hm, hc, h => by
  obtain ⟨A, cap, rfl, hcap, hl, hr⟩ := h
  refine ⟨A, cap, rfl, hcap, fun hne => ?_⟩
  have hne' : cs ≠ [] := by intro h; subst h; exact hne rfl
  rcases hr with hr | ⟨b, off, q, c, e, hA, hq, ho, hh, hs, hrow⟩
  ·have hn0 : n = 0 := by omega
   rw [hn0, Nat.zero_mul] at hl
   exact absurd (List.eq_nil_of_length_eq_zero hl) hne'
  ·have hq0 : q ≠ [] := by
    cases m with
    | none => simp [Md.leaf] at hq
    | top k => simp [Md.leaf] at hq; rw [← hq]; simp
    | «at» q' => simp [Md.leaf] at hq; rw [← hq]; exact hm _ rfl
   exact ⟨b, off, hA, h2 b q hq0 ho, by rw [hw]; exact cY hh, Rrow.freeze (G := G.bare) (F := F.bare) rfl hw h1 h2 (m := .at q) (fun q' hq' => by cases hq'; exact hq0) hc hrow⟩
 | G, F, hn, hw, full, h1, h2, m, .own i sz off n lo hi, x, hm, hc, h => absurd h.1 (by rw [hn]; exact Nat.not_lt_zero _)
 | G, F, hn, hw, full, h1, h2, m, .sub i j, x, hm, hc, h => absurd h.1 (by rw [hn]; exact Nat.not_lt_zero _)
 | G, F, hn, hw, full, h1, h2, m, .ptr i off, x, hm, hc, h => absurd h.1 (by rw [hn]; exact Nat.not_lt_zero _)
 | G, F, hn, hw, full, h1, h2, m, .rp cs, x, hm, hc, h => by
  obtain ⟨b, off, rfl, hok, hb, hrow⟩ := h
  have hf : full := hc.resolve_right id
  exact ⟨b, off, rfl, h1 hf b hok, by rw [hw]; exact hb, Rrow.freeze (G := G.bare) (F := F.bare) rfl hw h1 h2 (m := .none) (fun q hq => by cases hq) (.inl hf) hrow⟩
 | G, F, hn, hw, full, h1, h2, m, .bp cs, x, hm, hc, h => by
  obtain ⟨b, off, q, c, e, rfl, hq, ho, hh, hne, hrow⟩ := h
  have hq0 : q ≠ [] := by
   cases m with
   | none => simp [Md.leaf] at hq
   | top k => simp [Md.leaf] at hq; rw [← hq]; simp
   | «at» q' => simp [Md.leaf] at hq; rw [← hq]; exact hm _ rfl
  exact ⟨b, off, rfl, h2 b q hq0 ho, by rw [hw]; exact cY hh, Rrow.freeze (G := G.bare) (F := F.bare) rfl hw h1 h2 (m := .at q) (fun q' hq' => by cases hq'; exact hq0) hc hrow⟩
 | G, F, hn, hw, full, h1, h2, m, .sp i j off, x, hm, hc, h => absurd h.1 (by rw [hn]; exact Nat.not_lt_zero _)
 | G, F, hn, hw, full, h1, h2, m, .mref i, x, hm, hc, h => absurd h.1 (by rw [hn]; exact Nat.not_lt_zero _)
 | G, F, hn, hw, full, h1, h2, m, .agg cs, x, hm, hc, h => by
  obtain ⟨xs, rfl, hr⟩ := h
  exact ⟨xs, rfl, Rvs.freeze hn hw h1 h2 (m := m.part) (fun q hq => by cases m <;> simp [Md.part] at hq) hc hr⟩
 | G, F, hn, hw, full, h1, h2, m, .tup cs, x, hm, hc, h => by
  obtain ⟨xs, rfl, hr⟩ := h
  exact ⟨xs, rfl, Rvs.freeze hn hw h1 h2 (m := m.part) (fun q hq => by cases m <;> simp [Md.part] at hq) hc hr⟩
 | G, F, hn, hw, full, h1, h2, m, .fn f cs, x, hm, hc, h => by
  obtain ⟨xs, rfl, hr⟩ := h
  exact ⟨xs, rfl, Rvs.freeze hn hw h1 h2 (m := m.part) (fun q hq => by cases m <;> simp [Md.part] at hq) hc hr⟩
 | G, F, hn, hw, full, h1, h2, m, .any, x, hm, hc, h => trivial
theorem Rrow.freeze : ∀ {G F : Env} (hn : G.n = 0) (hw : F.w = G.w) {full : Prop} (h1 : full → ∀ b, G.okb b → F.okb b) (h2 : ∀ b q, q ≠ [] → G.o b = some q → F.okb b) {m : Md} {b off j j' : Nat} {cs : List V}, (∀ q, m = .at q → q ≠ []) → full ∨ f7 cs → Rrow G m b off j cs → Rrow F .none b off j' (dM cs)
 | G, F, hn, hw, full, h1, h2, m, b, off, j, j', [], hm, hc, h => trivial
 | G, F, hn, hw, full, h1, h2, m, b, off, j, j', c :: cs, hm, hc, h => by
  obtain ⟨⟨v, hv, hr⟩, hs⟩ := h
  refine ⟨⟨v, by rw [hw]; exact hv, ?_⟩, Rrow.freeze hn hw h1 h2 hm (hc.imp id And.right) hs⟩
  exact Rv.freeze hn hw h1 h2 (m := m.child j) (fun q hq => by cases m <;> simp [Md.child] at hq; rw [← hq]; simp) (hc.imp id And.left) hr
theorem Rvs.freeze : ∀ {G F : Env} (hn : G.n = 0) (hw : F.w = G.w) {full : Prop} (h1 : full → ∀ b, G.okb b → F.okb b) (h2 : ∀ b q, q ≠ [] → G.o b = some q → F.okb b) {m : Md} {cs : List V} {xs : List Value}, (∀ q, m = .at q → q ≠ []) → full ∨ f7 cs → Rvs G m cs xs → Rvs F .none (dM cs) xs
 | G, F, hn, hw, full, h1, h2, m, [], [], hm, hc, h => trivial
 | G, F, hn, hw, full, h1, h2, m, c :: cs, x :: xs, hm, hc, h =>
  ⟨Rv.freeze hn hw h1 h2 hm (hc.imp id And.left) h.1, Rvs.freeze hn hw h1 h2 (m := m.next (nl c)) (fun q hq => by cases m <;> simp [Md.next] at hq) (hc.imp id And.right) h.2⟩
 | G, F, hn, hw, full, h1, h2, m, [], _ :: _, hm, hc, h => h.elim
 | G, F, hn, hw, full, h1, h2, m, _ :: _, [], hm, hc, h => h.elim
end
def shift (k0 N : Nat) : List Nat → List Nat
 | [] => []
 | h :: t => (N + (h - k0)) :: t
theorem LR {k0 N : Nat} {q r : List Nat} (h : q ≠ []) : shift k0 N (q ++ r) = shift k0 N q ++ r := by cases q <;> simp_all [shift]
def Md.sh (k0 N : Nat) : Md → Md
 | .none => .none
 | .top k => .top (N + (k - k0))
 | .at q => .at (shift k0 N q)
def Md.okk (k0 : Nat) : Md → Prop
 | .none => True
 | .top k => k0 ≤ k
 | .at q => q ≠ []
theorem Md.okk_part {k0 : Nat} {m : Md} (h : m.okk k0) : m.part.okk k0 := by cases m <;> first | exact h | trivial
theorem Md.okk_next {k0 d : Nat} {m : Md} (h : m.okk k0) : (m.next d).okk k0 := by
 cases m with
 | none => trivial
 | top k => exact Nat.le_trans h (Nat.le_add_right _ _)
 | «at» q => trivial
theorem Md.okk_child {k0 j : Nat} {m : Md} (h : m.okk k0) : (m.child j).okk k0 := by
 cases m with
 | none => trivial
 | top k => trivial
 | «at» q => simp [Md.child, Md.okk]
theorem Md.sh_part {k0 N : Nat} {m : Md} : (m.sh k0 N).part = m.part.sh k0 N := by cases m <;> rfl
theorem Md.sh_next {k0 N d : Nat} {m : Md} (h : m.okk k0) : (m.sh k0 N).next d = (m.next d).sh k0 N := by
 cases m with
 | none => rfl
 | top k =>
  simp only [Md.okk] at h
  simp only [Md.sh, Md.next]
  congr 1
  omega
 | «at» q => rfl
theorem Md.sh_child {k0 N j : Nat} {m : Md} (h : m.okk k0) : (m.sh k0 N).child j = (m.child j).sh k0 N := by
 cases m with
 | none => rfl
 | top k => rfl
 | «at» q => simp [Md.sh, Md.child, LR h]
theorem Md.sh_leaf {k0 N : Nat} {m : Md} {q : List Nat} (h : m.leaf = some q) : (m.sh k0 N).leaf = some (shift k0 N q) := by
 cases m <;> simp_all [Md.leaf, Md.sh]
 ·rw [← h]; rfl
mutual
theorem Rv.sh : ∀ {G F : Env} (hn : G.n = 0) (hw : F.w = G.w) {k0 N : Nat} {full : Prop} (h1 : full → ∀ b, G.okb b → F.okb b) (h2 : ∀ b q, q ≠ [] → G.o b = some q → F.o b = some (shift k0 N q)) {m : Md} {v : V} {x : Value}, m.okk k0 → full ∨ pD v → Rv G m v x → Rv F.bare (m.sh k0 N) v x
 | G, F, hn, hw, k0, N, full, h1, h2, m, .sc v, x, hm, hc, h => h
 | G, F, hn, hw, k0, N, full, h1, h2, m, .ro n cs, x, hm, hc, h => by
  obtain ⟨A, cap, rfl, hcap, hr⟩ := h
  refine ⟨A, cap, rfl, hcap, fun hne => ?_⟩
  obtain ⟨b, off, hA, hok, hb, hrow⟩ := hr hne
  have hf : full := hc.resolve_right hne
  exact ⟨b, off, hA, h1 hf b hok, by show b < F.w.heap.size; rw [hw]; exact hb, Rrow.sh (G := G.bare) (F := F.bare) rfl hw h1 h2 (m := .none) trivial (.inl hf) hrow⟩
 | G, F, hn, hw, k0, N, full, h1, h2, m, .tr sz n cs, x, hm, hc, h => by
  obtain ⟨A, cap, rfl, hcap, hl, hr⟩ := h
  refine ⟨A, cap, rfl, hcap, hl, ?_⟩
  rcases hr with hr | ⟨b, off, q, c, e, hA, hq, ho, hh, hs, hrow⟩
  ·exact .inl hr
  ·have hq0 : q ≠ [] := by
    cases m with
    | none => simp [Md.leaf] at hq
    | top k => simp [Md.leaf] at hq; rw [← hq]; simp
    | «at» q' => simp [Md.leaf] at hq; rw [← hq]; exact hm
   exact .inr ⟨b, off, shift k0 N q, c, e, hA, Md.sh_leaf hq, h2 b q hq0 ho, by show F.w.heap[b]? = _; rw [hw]; exact hh, hs, Rrow.sh (G := G.bare) (F := F.bare) rfl hw h1 h2 (m := .at q) hq0 hc hrow⟩
 | G, F, hn, hw, k0, N, full, h1, h2, m, .own i sz off n lo hi, x, hm, hc, h => absurd h.1 (by rw [hn]; exact Nat.not_lt_zero _)
 | G, F, hn, hw, k0, N, full, h1, h2, m, .sub i j, x, hm, hc, h => absurd h.1 (by rw [hn]; exact Nat.not_lt_zero _)
 | G, F, hn, hw, k0, N, full, h1, h2, m, .ptr i off, x, hm, hc, h => absurd h.1 (by rw [hn]; exact Nat.not_lt_zero _)
 | G, F, hn, hw, k0, N, full, h1, h2, m, .rp cs, x, hm, hc, h => by
  obtain ⟨b, off, rfl, hok, hb, hrow⟩ := h
  have hf : full := hc.resolve_right id
  exact ⟨b, off, rfl, h1 hf b hok, by show b < F.w.heap.size; rw [hw]; exact hb, Rrow.sh (G := G.bare) (F := F.bare) rfl hw h1 h2 (m := .none) trivial (.inl hf) hrow⟩
 | G, F, hn, hw, k0, N, full, h1, h2, m, .bp cs, x, hm, hc, h => by
  obtain ⟨b, off, q, c, e, rfl, hq, ho, hh, hne, hrow⟩ := h
  have hq0 : q ≠ [] := by
   cases m with
   | none => simp [Md.leaf] at hq
   | top k => simp [Md.leaf] at hq; rw [← hq]; simp
   | «at» q' => simp [Md.leaf] at hq; rw [← hq]; exact hm
  exact ⟨b, off, shift k0 N q, c, e, rfl, Md.sh_leaf hq, h2 b q hq0 ho, by show F.w.heap[b]? = _; rw [hw]; exact hh, hne, Rrow.sh (G := G.bare) (F := F.bare) rfl hw h1 h2 (m := .at q) hq0 hc hrow⟩
 | G, F, hn, hw, k0, N, full, h1, h2, m, .sp i j off, x, hm, hc, h => absurd h.1 (by rw [hn]; exact Nat.not_lt_zero _)
 | G, F, hn, hw, k0, N, full, h1, h2, m, .mref i, x, hm, hc, h => absurd h.1 (by rw [hn]; exact Nat.not_lt_zero _)
 | G, F, hn, hw, k0, N, full, h1, h2, m, .agg cs, x, hm, hc, h => by
  obtain ⟨xs, rfl, hr⟩ := h
  exact ⟨xs, rfl, by rw [Md.sh_part]; exact Rvs.sh hn hw h1 h2 (m := m.part) (Md.okk_part hm) hc hr⟩
 | G, F, hn, hw, k0, N, full, h1, h2, m, .tup cs, x, hm, hc, h => by
  obtain ⟨xs, rfl, hr⟩ := h
  exact ⟨xs, rfl, by rw [Md.sh_part]; exact Rvs.sh hn hw h1 h2 (m := m.part) (Md.okk_part hm) hc hr⟩
 | G, F, hn, hw, k0, N, full, h1, h2, m, .fn f cs, x, hm, hc, h => by
  obtain ⟨xs, rfl, hr⟩ := h
  exact ⟨xs, rfl, by rw [Md.sh_part]; exact Rvs.sh hn hw h1 h2 (m := m.part) (Md.okk_part hm) hc hr⟩
 | G, F, hn, hw, k0, N, full, h1, h2, m, .any, x, hm, hc, h => trivial
theorem Rrow.sh : ∀ {G F : Env} (hn : G.n = 0) (hw : F.w = G.w) {k0 N : Nat} {full : Prop} (h1 : full → ∀ b, G.okb b → F.okb b) (h2 : ∀ b q, q ≠ [] → G.o b = some q → F.o b = some (shift k0 N q)) {m : Md} {b off j : Nat} {cs : List V}, m.okk k0 → full ∨ f7 cs → Rrow G m b off j cs → Rrow F.bare (m.sh k0 N) b off j cs
 | G, F, hn, hw, k0, N, full, h1, h2, m, b, off, j, [], hm, hc, h => trivial
 | G, F, hn, hw, k0, N, full, h1, h2, m, b, off, j, c :: cs, hm, hc, h => by
  obtain ⟨⟨v, hv, hr⟩, hs⟩ := h
  refine ⟨⟨v, by show F.w.cell? _ = _; rw [hw]; exact hv, ?_⟩, Rrow.sh hn hw h1 h2 hm (hc.imp id And.right) hs⟩
  rw [Md.sh_child hm]
  exact Rv.sh hn hw h1 h2 (m := m.child j) (Md.okk_child hm) (hc.imp id And.left) hr
theorem Rvs.sh : ∀ {G F : Env} (hn : G.n = 0) (hw : F.w = G.w) {k0 N : Nat} {full : Prop} (h1 : full → ∀ b, G.okb b → F.okb b) (h2 : ∀ b q, q ≠ [] → G.o b = some q → F.o b = some (shift k0 N q)) {m : Md} {cs : List V} {xs : List Value}, m.okk k0 → full ∨ f7 cs → Rvs G m cs xs → Rvs F.bare (m.sh k0 N) cs xs
 | G, F, hn, hw, k0, N, full, h1, h2, m, [], [], hm, hc, h => trivial
 | G, F, hn, hw, k0, N, full, h1, h2, m, c :: cs, x :: xs, hm, hc, h =>
  ⟨Rv.sh hn hw h1 h2 hm (hc.imp id And.left) h.1, by rw [Md.sh_next hm]; exact Rvs.sh hn hw h1 h2 (m := m.next (nl c)) (Md.okk_next hm) (hc.imp id And.right) h.2⟩
 | G, F, hn, hw, k0, N, full, h1, h2, m, [], _ :: _, hm, hc, h => h.elim
 | G, F, hn, hw, k0, N, full, h1, h2, m, _ :: _, [], hm, hc, h => h.elim
end
section
variable {P : Program} {Γ : Tab} {C : Ctx} {E : Env} {s : St} {a : Act} {o : Oper} {K : V → St → Prop}
def dull (E : Env) (ro : Bool) : Lab := fun b => bif ro then (E.o b).map fun _ => [] else none
theorem JZ (hR : Rel C E s a) (ro : Bool) : a1O E.w (dull E ro) := by
 intro b p h
 cases ro with
 | false => simp [dull] at h
 | true =>
  simp only [dull, cond_true, Option.map_eq_some_iff] at h
  obtain ⟨q, hq, rfl⟩ := h
  exact ⟨rfl, (hR.lab b q hq).1⟩
mutual
def inP (D : Nat → Prop) : V → Prop
 | .own i .. => D i
 | .sub i _ => D i
 | .ptr i _ => D i
 | .sp i _ _ => D i
 | .mref i => D i
 | .agg cs => EE D cs
 | .tup cs => EE D cs
 | .fn _ cs => EE D cs
 | _ => True
def EE (D : Nat → Prop) : List V → Prop
 | [] => True
 | c :: cs => inP D c ∧ EE D cs
end
theorem NA {D : Nat → Prop} : ∀ {cs : List V} {c : V}, EE D cs → c ∈ cs → inP D c
 | c :: cs, d, h, hm => by
  simp only [List.mem_cons] at hm
  rcases hm with rfl | hm
  ·exact h.1
  ·exact NA h.2 hm
mutual
theorem a29 {D : Nat → Prop} : ∀ {v : V}, rD v = true → inP D v
 | .sc _, _ => trivial
 | .ro _ _, _ => trivial
 | .rp _, _ => trivial
 | .agg cs, h => CR (cs := cs) h
 | .fn _ cs, h => CR (cs := cs) h
 | .tr _ _ _, _ => trivial
 | .bp _, _ => trivial
 | .any, _ => trivial
 | .own .., h => by simp [rD] at h
 | .sub .., h => by simp [rD] at h
 | .ptr .., h => by simp [rD] at h
 | .sp .., h => by simp [rD] at h
 | .mref .., h => by simp [rD] at h
 | .tup .., h => by simp [rD] at h
theorem CR {D : Nat → Prop} : ∀ {cs : List V}, jN cs = true → EE D cs
 | [], _ => trivial
 | c :: cs, h => by
  simp only [jN, Bool.and_eq_true] at h
  exact ⟨a29 h.1, CR h.2⟩
end
mutual
theorem SD {D : Nat → Prop} (hD : ∀ i, D i) : ∀ (v : V), inP D v
 | .sc _ => trivial
 | .ro _ _ => trivial
 | .rp _ => trivial
 | .agg cs => m8 hD cs
 | .tup cs => m8 hD cs
 | .fn _ cs => m8 hD cs
 | .tr _ _ _ => trivial
 | .bp _ => trivial
 | .any => trivial
 | .own .. => hD _
 | .sub .. => hD _
 | .ptr .. => hD _
 | .sp .. => hD _
 | .mref .. => hD _
theorem m8 {D : Nat → Prop} (hD : ∀ i, D i) : ∀ (cs : List V), EE D cs
 | [] => trivial
 | c :: cs => ⟨SD hD c, m8 hD cs⟩
end
mutual
theorem XA {D : List Nat} : ∀ {v : V}, inD D v = true → inP (fun i => dY D i = true) v
 | .sc _, _ => trivial
 | .ro _ _, _ => trivial
 | .rp _, _ => trivial
 | .agg cs, h => r3 (cs := cs) h
 | .tup cs, h => r3 (cs := cs) h
 | .fn _ cs, h => r3 (cs := cs) h
 | .tr _ _ _, _ => trivial
 | .bp _, _ => trivial
 | .any, _ => trivial
 | .own .., h => h
 | .sub .., h => h
 | .ptr .., h => h
 | .sp .., h => h
 | .mref .., h => h
theorem r3 {D : List Nat} : ∀ {cs : List V}, GW D cs = true → EE (fun i => dY D i = true) cs
 | [], _ => trivial
 | c :: cs, h => by
  simp only [GW, Bool.and_eq_true] at h
  exact ⟨XA h.1, r3 h.2⟩
end
def Env.only (E : Env) (i : Nat) : Env := { E.bare with o := fun b => match E.o b with
 | some (h :: t) => if h = i then some (h :: t) else some []
 | x => x }
theorem IJ (E : Env) (i : Nat) : Mono E.bare (E.only i) :=
 ⟨Nat.le_refl _, fun _ _ h => ⟨h, rfl⟩, Nat.le_refl _, fun _ h _ => absurd h (Nat.not_lt_zero _), fun _ _ h _ => absurd h (Nat.not_lt_zero _)⟩
theorem II (E : Env) (i : Nat) (p : List Nat) : Kept E.bare (E.only i) (i :: p) := fun b r hb => by
 have hb' : E.o b = some (i :: (p ++ r)) := hb
 refine ⟨?_, rfl⟩
 show (match E.o b with
  | some (h :: t) => if h = i then some (h :: t) else some []
  | x => x) = _
 rw [hb']
 simp
theorem F1 {i b off j : Nat} {p : List Nat} {cs : List V} (h : Rrow E.bare (.at (i :: p)) b off j cs) : Rrow (E.only i) (.at (i :: p)) b off j cs :=
 Rrow.mono (IJ E i) (fun q hq => by cases hq; exact II E i p) rfl h
theorem a0F {i : Nat} {p : List Nat} {v : V} {x : Value} (h : Rv E.bare (.at (i :: p)) v x) : Rv (E.only i) (.at (i :: p)) v x :=
 Rv.mono (IJ E i) (fun q hq => by cases hq; exact II E i p) (fun k j hq => by cases hq) h
theorem xZ {i : Nat} {o0 : Lab} (hD : ∀ b r, E.o b = some (i :: r) → o0 b = none) : ∀ b q, q ≠ [] → (E.only i).o b = some q → o0 b = none := by
 intro b q hq h
 have h' : (match E.o b with
  | some (h :: t) => if h = i then some (h :: t) else some []
  | x => x) = some q := h
 cases ho : E.o b with
 | none => rw [ho] at h'; cases h'
 | some p =>
  rw [ho] at h'
  cases p with
  | nil => cases h'; exact absurd rfl hq
  | cons a t =>
   simp only at h'
   split at h'
   ·rename_i ha
    subst ha
    exact hD b t ho
   ·cases h'; exact absurd rfl hq
structure SeeD (E : Env) (s : St) (o0 : Lab) (D : Nat → Prop) : Prop where
 free : ∀ b, E.okb b → o0 b = none
 obj : ∀ i, D i → ∀ b r, E.o b = some (i :: r) → o0 b = none
 box : ∀ i, D i → ∀ cs, s.ob i = some ⟨true, cs⟩ → EE D cs
theorem SeeD.mono {o0 : Lab} {D : Nat → Prop} (h : SeeD E s o0 D) : Mono E.bare (aZ E.w o0).bare :=
 ⟨Nat.le_refl _, fun b _ hok => ⟨h.free b hok, rfl⟩, Nat.le_refl _, fun _ h _ => absurd h (Nat.not_lt_zero _), fun _ _ h _ => absurd h (Nat.not_lt_zero _)⟩
theorem LM {o0 : Lab} {D : Nat → Prop} (hS : SeeD E s o0 D) {m : Md} {n : Nat} {cs : List V} {x : Value} (h : Rv E m (.ro n cs) x) : Rv (aZ E.w o0) .none (.ro n cs) x := by
 obtain ⟨A, cap, rfl, hc, hr⟩ := h
 refine ⟨A, cap, rfl, hc, fun hne => ?_⟩
 obtain ⟨b, d, hA, hok, hb', hrw⟩ := hr hne
 exact ⟨b, d, hA, hS.free b hok, hb', Rrow.mono hS.mono (eM _ _) rfl hrw⟩
theorem TF {o0 : Lab} {D : Nat → Prop} (hS : SeeD E s o0 D) {m : Md} {cs : List V} {x : Value} (h : Rv E m (.rp cs) x) : Rv (aZ E.w o0) .none (.rp cs) x := by
 obtain ⟨b, off, rfl, hok, hb, hrow⟩ := h
 exact ⟨b, off, rfl, hS.free b hok, hb, Rrow.mono hS.mono (eM _ _) rfl hrow⟩
theorem YQ (hR : Rel C E s a) {o0 : Lab} {D : Nat → Prop} (hS : SeeD E s o0 D) : ∀ (d : Nat) {v : V} {x : Value}, inP D v → Rv E .none v x → Rv (aZ E.w o0) .none (lA s.g d v) x := by
 intro d
 induction d with
 | zero => intro v x _ h; exact trivial
 | succ d ih =>
  intro v x hin h
  cases v with
  | sc v => exact h
  | ro n cs => exact LM hS h
  | rp cs => exact TF hS h
  | fn f cs =>
   obtain ⟨xs, rfl, hr⟩ := h
   refine ⟨xs, rfl, ?_⟩
   show Rvs _ .none (cs.map (lA s.g d)) xs
   have hr' : Rvs E .none cs xs := hr
   have hin' : EE D cs := hin
   clear hr hin
   induction cs generalizing xs with
   | nil => cases xs with
    | nil => trivial
    | cons y ys => exact hr'.elim
   | cons c cs ih2 =>
    cases xs with
    | nil => exact hr'.elim
    | cons y ys => exact ⟨ih hin'.1 hr'.1, ih2 ys hr'.2 hin'.2⟩
  | ptr i off =>
   show Rv _ .none (match aX s.g i with
    | some ⟨true, cs⟩ => bif eG cs then .any else .rp ((cs.drop off).map (lA s.g d))
    | _ => .any) x
   cases hob : aX s.g i with
   | none => exact trivial
   | some ob =>
   obtain ⟨bx, cs⟩ := ob
   cases bx with
   | false => exact trivial
   | true =>
    obtain ⟨_, ad, hx, hlv⟩ := h
    have had := hlv (dA hR hob)
    subst had
    show Rv _ .none (bif eG cs then .any else .rp ((cs.drop off).map (lA s.g d))) x
    cases hnm : eG cs with
    | true => exact trivial
    | false =>
    obtain ⟨c, e, hh, h0, hl, hrow⟩ := lT (hR.ob i _ hob) hnm
    refine ⟨(E.ρ i).1, (E.ρ i).2 + off, hx, hS.obj i hin _ _ hl, cY hh, cD fun k v hk => ?_⟩
    rw [List.getElem?_map, List.getElem?_drop] at hk
    cases hck : cs[off + k]? with
    | none => rw [hck] at hk; cases hk
    | some u =>
     rw [hck] at hk
     cases hk
     obtain ⟨z, hz, hrz⟩ := bR hrow (off + k) u hck
     exact ⟨z, by rw [h0, Nat.zero_add]; rw [Nat.zero_add] at hz; exact hz, ih (NA (hS.box i hin cs hob) (List.mem_of_getElem? hck)) hrz⟩
  | _ => exact trivial
theorem a1G {b : Bool} {p : Prop} (h : bif b then False else p) : b = false ∧ p := by cases b <;> simp_all
mutual
theorem FU (hR : Rel C E s a) {o0 : Lab} {D : Nat → Prop} (hS : SeeD E s o0 D) : ∀ {v : V} {x : Value} {K : V → Prop}, inP D v → rZ s v K → Rv E .none v x → ∃ u, K u ∧ Rv (aZ E.w o0) .none u x
 | .sc v, x, K, hro, h, hv => by
  rcases lI h with h1 | ⟨rfl, h1⟩
  ·exact ⟨_, h1, hv⟩
  ·exact ⟨_, h1, by rw [hv.1]; exact ⟨none, 0, rfl, Nat.le_refl _, fun h => absurd rfl h⟩⟩
 | .ro n cs, x, K, hro, h, hv => ⟨_, h, LM hS hv⟩
 | .own i sz off n lo hi, x, K, hro, h, hv => by
  simp only [rZ] at h
  cases hob : s.ob i with
  | none => rw [hob] at h; exact h.elim
  | some ob =>
  obtain ⟨bx, cs⟩ := ob
  cases bx with
  | true => rw [hob] at h; exact h.elim
  | false =>
  rw [hob] at h
  obtain ⟨r, r', hr, rfl, hK⟩ := h
  refine ⟨_, hK, ?_⟩
  obtain ⟨hle, hreq, hrl⟩ := e8 hr
  obtain ⟨hin, A, cap, rfl, hnc, hlv⟩ := hv
  obtain ⟨hc, hlo, hhi, hbl⟩ := hlv (dA hR hob)
  refine ⟨A, cap, rfl, hc, fun hne => ?_⟩
  have hne' : r ≠ [] := by intro h; subst h; exact hne rfl
  have hrp : 0 < r.length := List.length_pos_iff.2 hne'
  rcases hbl with h0 | ⟨c, e, hA, ho, hh, hs⟩
  ·have hn0 : n = 0 := by omega
   rw [hn0, Nat.zero_mul] at hrl
   omega
  ·rcases hR.ob i _ hob with h0 | ⟨c', e', hh', hl', hrow⟩
   ·rw [h0] at hle; simp at hle; omega
   ·refine ⟨(E.ρ i).1, (E.ρ i).2 + off, hA, hS.obj i hro _ _ ho, cY hh, ?_⟩
    have hrow2 : Rrow E.bare (.at [i]) (E.ρ i).1 ((E.ρ i).2 + off) off r := cD fun k c hk => by
     have hck : cs[off + k]? = some c := by
      rw [hreq, List.getElem?_take] at hk
      split at hk
      ·rwa [List.getElem?_drop] at hk
      ·cases hk
     obtain ⟨v', h1, h2⟩ := bR hrow (off + k) c hck
     exact ⟨v', by rw [Nat.add_assoc]; exact h1, by rw [Nat.zero_add] at h2; exact h2⟩
    exact Rrow.freeze (G := E.only i) (F := (aZ E.w o0).bare) rfl rfl (full := True) (fun _ b h => hS.free b h) (xZ (hS.obj i hro)) (m := .at [i]) (fun q hq => by cases hq; simp) (.inl trivial) (F1 hrow2)
 | .sub i j, x, K, hro, h, hv => by
  simp only [rZ] at h
  cases hob : s.ob i with
  | none => rw [hob] at h; exact h.elim
  | some ob =>
  obtain ⟨bx, cs⟩ := ob
  cases bx with
  | true => rw [hob] at h; exact h.elim
  | false =>
  rw [hob] at h
  obtain ⟨sz, n, r, r', hj, rfl, hK⟩ := h
  refine ⟨_, hK, ?_⟩
  have hcell := hv.2.2 ⟨cs, sz, n, r, by rw [hR.g]; exact hob, hj⟩
  rcases hR.ob i _ hob with h0 | ⟨c', e', hh', hl', hrow⟩
  ·rw [h0] at hj; simp at hj
  ·obtain ⟨v', h1, h2⟩ := bR hrow j _ hj
   have hx : x = v' := by
    have h1' : E.w.cell? ⟨(E.ρ i).1, (E.ρ i).2 + j, none⟩ = some v' := h1
    rw [hcell] at h1'
    exact Option.some.inj h1'
   rw [hx]
   exact Rv.freeze (G := E.only i) (F := aZ E.w o0) rfl rfl (full := True) (fun _ b h => hS.free b h) (xZ (hS.obj i hro)) (m := .at [i, 0 + j]) (fun q hq => by cases hq; simp) (.inl trivial) (a0F h2)
 | .agg cs, x, K, hro, h, hv => by
  obtain ⟨xs, rfl, hr⟩ := hv
  obtain ⟨us, hK, hu⟩ := nN hR hS hro h hr
  exact ⟨_, hK, xs, rfl, hu⟩
 | .fn f cs, x, K, hro, h, hv => by
  obtain ⟨xs, rfl, hr⟩ := hv
  obtain ⟨us, hK, hu⟩ := nN hR hS hro h hr
  exact ⟨_, hK, xs, rfl, hu⟩
 | .rp cs, x, K, hro, h, hv => ⟨_, h, TF hS hv⟩
 | .ptr i off, x, K, hro, h, hv => by
  simp only [rZ] at h
  cases hob : s.ob i with
  | none => rw [hob] at h; exact h.elim
  | some ob =>
  obtain ⟨bx, cs⟩ := ob
  rw [hob] at h
  obtain ⟨hin, ad, hx, hlv⟩ := hv
  have had := hlv (dA hR hob)
  subst had
  cases bx with
  | true =>
   simp only at h
   cases hb : cs.all fT with
   | false =>
    rw [hb] at h
    obtain ⟨d, r, rfl, hK⟩ := h
    exact ⟨_, hK, YQ hR hS d (v := .ptr i off) hro ⟨hin, _, hx, hlv⟩⟩
   | true =>
   rw [hb] at h
   obtain ⟨r, rfl, hK⟩ := h
   obtain ⟨c, e, hh, h0, hl, hrow⟩ := lT (hR.ob i _ hob) (DY hb)
   refine ⟨_, hK, (E.ρ i).1, (E.ρ i).2 + off, hx, hS.obj i hro _ _ hl, cY hh, cD fun k v hk => ?_⟩
   rw [List.getElem?_drop] at hk
   obtain ⟨u, hu, hru⟩ := bR hrow (off + k) v hk
   refine ⟨u, by rw [h0, Nat.zero_add]; rw [Nat.zero_add] at hu; exact hu, ?_⟩
   have hfl := List.all_eq_true.1 hb v (List.mem_of_getElem? hk)
   cases v <;> simp only [fT, reduceCtorEq] at hfl
   ·exact hru
   ·exact LM hS hru
  | false =>
   obtain ⟨hne0, r, rfl, hK⟩ := a1G h
   rcases hR.ob i _ hob with h0 | ⟨c, e, hh, hl, hrow⟩
   ·rw [h0] at hne0; simp at hne0
   ·refine ⟨_, hK, (E.ρ i).1, (E.ρ i).2 + off, hx, hS.obj i hro _ _ hl, cY hh, ?_⟩
    have hrow2 : Rrow E.bare (.at [i]) (E.ρ i).1 ((E.ρ i).2 + off) off (cs.drop off) := cD fun k v hk => by
     rw [List.getElem?_drop] at hk
     obtain ⟨u, hu, hru⟩ := bR hrow (off + k) v hk
     exact ⟨u, by rw [Nat.add_assoc]; exact hu, by rw [Nat.zero_add] at hru; exact hru⟩
    exact Rrow.freeze (G := E.only i) (F := (aZ E.w o0).bare) rfl rfl (full := True) (fun _ b h => hS.free b h) (xZ (hS.obj i hro)) (m := .at [i]) (fun q hq => by cases hq; simp) (.inl trivial) (F1 hrow2)
 | .tr _ _ _, x, K, hro, h, hv => h.elim
 | .bp _, x, K, hro, h, hv => h.elim
 | .sp _ _ _, x, K, hro, h, hv => h.elim
 | .mref _, x, K, hro, h, hv => h.elim
 | .tup _, x, K, hro, h, hv => h.elim
 | .any, x, K, hro, h, hv => h.elim
theorem nN (hR : Rel C E s a) {o0 : Lab} {D : Nat → Prop} (hS : SeeD E s o0 D) : ∀ {vs : List V} {xs : List Value} {K : List V → Prop}, EE D vs → oB s vs K → Rvs E .none vs xs → ∃ us, K us ∧ Rvs (aZ E.w o0) .none us xs
 | [], [], K, hro, h, hv => ⟨[], h, trivial⟩
 | v :: vs, x :: xs, K, hro, h, hv => by
  obtain ⟨u, h1, hu⟩ := FU hR hS hro.1 h hv.1
  obtain ⟨us, h2, hus⟩ := nN hR hS hro.2 h1 hv.2
  exact ⟨u :: us, h2, hu, hus⟩
 | [], _ :: _, K, hro, h, hv => hv.elim
 | _ :: _, [], K, hro, h, hv => hv.elim
end
theorem YR (hR : Rel C E s a) {ro : Bool} {vs : List V} {xs : List Value} {K : List V → Prop} (hro : ro = true → jN vs = true) (h : oB s vs K) (hv : Rvs E .none vs xs) : ∃ us, K us ∧ Rvs (aZ E.w (dull E ro)) .none us xs := by
 refine nN hR (D := fun _ => ro = false) ⟨fun b hok => ?_, fun i hD b r ho => ?_, fun i hD cs _ => ?_⟩ ?_ h hv
 ·rw [hR.okb] at hok
  cases ro <;> simp [dull, hok]
 ·subst hD
  rfl
 ·exact m8 (fun _ => hD) cs
 ·cases ro with
  | false => exact m8 (fun _ => rfl) vs
  | true => exact CR (hro rfl)
def pV (D : List Nat) : Option (List Nat) → Option (List Nat)
 | some (h :: t) => if dY D h then none else some (h :: t)
 | x => x
def Env.frz (E : Env) (D : List Nat) : Env :=
 {E with o := fun b => pV D (E.o b), g := fun i => if dY D i then none else E.g i, okb := fun b => pV D (E.o b) = none }
theorem xE (D : List Nat) : ∀ (g : List (Option Obj)) (k i : Nat), aX (eR D k g) i = if dY D (k + i) then none else aX g i
 | [], k, i => by simp [eR, aX]
 | o :: r, k, 0 => by
  simp only [eR, aX, Nat.add_zero]
  cases dY D k <;> rfl
 | o :: r, k, i + 1 => by
  simp only [eR, aX, xE D r (k + 1) i]
  rw [show k + 1 + i = k + (i + 1) from by omega]
theorem zL (D : List Nat) : ∀ (g : List (Option Obj)) (k : Nat), (eR D k g).length = g.length
 | [], k => rfl
 | o :: r, k => by simp [eR, zL D r]
theorem E7 (hR : Rel C E s a) (D : List Nat) : Mono E (E.frz D) := by
 refine ⟨Nat.le_refl _, fun b _ hok => ⟨?_, rfl⟩, Nat.le_refl _, fun i hi hl => ?_, fun i j hi ht => ?_⟩
 ·rw [hR.okb] at hok
  show pV D (E.o b) = none
  rw [hok]; rfl
 ·have hni : dY D i = false := by
   cases hm : dY D i with
   | false => rfl
   | true => simp [Env.frz, hm] at hl
  refine ⟨by simpa [Env.frz, hni] using hl, rfl, fun ho => ?_, fun c e h => ⟨c, h, rfl⟩⟩
  show pV D (E.o (E.ρ i).1) = _
  rw [ho]
  simp [pV, hni]
 ·obtain ⟨cs, sz, n, r, hg, hk⟩ := ht
  have hni : dY D i = false := by
   cases hm : dY D i with
   | false => rfl
   | true => simp [Env.frz, hm] at hg
  exact ⟨⟨cs, sz, n, r, by simpa [Env.frz, hni] using hg, hk⟩, rfl⟩
theorem X5 {D : List Nat} {i : Nat} {p : List Nat} (h : dY D i = false) : Kept E (E.frz D) (i :: p) := fun b r hb => by
 refine ⟨?_, rfl⟩
 show pV D (E.o b) = _
 rw [hb]
 simp [pV, h]
theorem LF (hR : Rel C E s a) (D : List Nat) : Rel C (E.frz D) { s with g := eR D 0 s.g } a := by
 have hm := E7 hR D
 refine ⟨hR.size, hR.nd, fun k => (hR.slot k).slot hm, ?_, ?_, fun i x hx => ?_, rfl, fun b p hp => ?_, hR.fr, fun b hb hl => ?_, hR.pin.mono hm⟩
 ·funext i
  show (if dY D i then none else E.g i) = aX (eR D 0 s.g) i
  rw [xE, Nat.zero_add, hR.g]
  rfl
 ·show E.n = (eR D 0 s.g).length
  rw [zL]
  exact hR.n
 ·have hx' : aX (eR D 0 s.g) i = some x := hx
  rw [xE, Nat.zero_add] at hx'
  cases hi : dY D i with
  | true => rw [hi] at hx'; cases hx'
  | false =>
   rw [hi] at hx'
   exact ObR.mono hm rfl (X5 hi) (hR.ob i x hx')
 ·have hp' : pV D (E.o b) = some p := hp
  cases ho : E.o b with
  | none => rw [ho] at hp'; cases hp'
  | some q =>
   rw [ho] at hp'
   have := hR.lab b q ho
   cases q with
   | nil => cases hp'; exact this
   | cons h t =>
    simp only [pV] at hp'
    split at hp'
    ·cases hp'
    ·cases hp'; exact this
 ·have h := hR.old b hb hl
  show pV D (E.o b) = _
  rw [h]
  cases ho : C.o0 b with
  | none => rfl
  | some q => rw [C.dull b q hl ho]; rfl
theorem zC {D : List Nat} : ∀ {g : List (Option Obj)} {k : Nat}, x9 D k g = true → ∀ i cs, aX g i = some ⟨true, cs⟩ → dY D (k + i) = true → GW D cs = true
 | [], k, h, i, cs, ho, hm => by simp [aX] at ho
 | o :: r, k, h, 0, cs, ho, hm => by
  simp only [aX] at ho
  subst ho
  simp only [x9, Bool.and_eq_true, Bool.or_eq_true, Bool.not_eq_true'] at h
  rw [Nat.add_zero] at hm
  rcases h.1 with h1 | h1
  ·rw [hm] at h1; cases h1
  ·exact h1
 | o :: r, k, h, i + 1, cs, ho, hm => by
  have h' : x9 D (k + 1) r = true := by
   cases o with
   | none => exact h
   | some ob =>
    obtain ⟨bx, ds⟩ := ob
    cases bx with
    | false => exact h
    | true =>
     simp only [x9, Bool.and_eq_true] at h
     exact h.2
  exact zC h' i cs ho (by rw [show k + 1 + i = k + (i + 1) from by omega]; exact hm)
theorem VJ (hR : Rel C E s a) {D : List Nat} {vs : List V} {xs : List Value} {K : List V → Prop} (hD : (GW D vs && x9 D 0 s.g) = true) (h : oB s vs K) (hv : Rvs E .none vs xs) : ∃ us, K us ∧ Rvs (aZ (E.frz D).w (dull (E.frz D) true)) .none us xs := by
 simp only [Bool.and_eq_true] at hD
 refine nN hR (D := fun i => dY D i = true) (o0 := dull (E.frz D) true) ⟨fun b hok => ?_, fun i hi b r ho => ?_, fun i hi cs ho => ?_⟩ (r3 hD.1) h hv
 ·have := ((E7 hR D).free b)
  rw [hR.okb] at hok
  have : (E.frz D).o b = none := by
   show pV D (E.o b) = none
   rw [hok]; rfl
  simp [dull, this]
 ·have : (E.frz D).o b = none := by
   show pV D (E.o b) = none
   rw [ho]
   simp [pV, hi]
  simp [dull, this]
 ·exact r3 (zC hD.2 i cs ho (by rw [Nat.zero_add]; exact hi))
end
end Go.Proofs.YtboolngaahifdaaGreatD
namespace Go.Proofs.YtboolngaahifdaaGreatD
open Go Go.RowKit
section
variable {P : Program} {ex : Exs} {Γ : Tab} {C : Ctx} {E : Env} {s : St} {a : Act} {o : Oper} {K : V → St → Prop}
def Env.ret (E : Env) (w' : World) (lf : Lab) : Env :=
 {E with w := w', o := fun b => if b < E.w.heap.size then E.o b else lf b, okb := fun b => (if b < E.w.heap.size then E.o b else lf b) = none }
theorem YK (hR : Rel C E s a) {w' : World} (hb : BelowD E.w w') (lf : Lab) : Mono E (E.ret w' lf) := by
 have hlab : ∀ b p, E.o b = some p → (E.ret w' lf).o b = some p := by
  intro b p h
  simp only [Env.ret, if_pos (hR.lab b p h).1]
  exact h
 refine ⟨hb.size, fun b hlt hok => ⟨?_, hb.block b hlt⟩, Nat.le_refl _, fun i hi hl => ⟨hl, rfl, fun h => hlab _ _ h, fun c e hc => ⟨c, ?_, rfl⟩⟩, fun i j hi ht => ⟨ht, dQ (hb.block _ (qL hR ht))⟩⟩
 ·rw [hR.okb] at hok
  simp only [Env.ret, if_pos hlt]
  exact hok
 ·have := hb.block _ (cY hc)
  exact this.trans hc
theorem YJ (hR : Rel C E s a) {w' : World} (hb : BelowD E.w w') (lf : Lab) (q : List Nat) : Kept E (E.ret w' lf) q := fun b r h => by
 have hlt := (hR.lab _ _ h).1
 exact ⟨by simp only [Env.ret, if_pos hlt]; exact h, hb.block b hlt⟩
theorem TB (hR : Rel C E s a) {w' : World} (hb : BelowD E.w w') {lf : Lab} (hlf : ∀ b p, lf b = some p → b < w'.heap.size) : Rel C (E.ret w' lf) s a := by
 have hm := YK hR hb lf
 refine ⟨hR.size, hR.nd, fun k => (hR.slot k).slot hm, hR.g, hR.n, fun i x hx => ObR.mono hm rfl (YJ hR hb lf _) (hR.ob i x hx), rfl, fun b p h => ?_, ?_, fun b hb' hl => by have := hR.fr.size; simp only [Env.ret]; rw [if_pos (by omega)]; exact hR.old b hb' hl, hR.pin.mono hm⟩
 ·by_cases hlt : b < E.w.heap.size
  ·simp only [Env.ret, if_pos hlt] at h
   obtain ⟨h1, h2⟩ := hR.lab b p h
   exact ⟨Nat.lt_of_lt_of_le h1 hb.size, h2⟩
  ·simp only [Env.ret, if_neg hlt] at h
   exact ⟨hlf b p h, .inr (.inl (by have := hR.fr.size; omega))⟩
 ·have hf := hR.fr
  exact ⟨hb.os.trans hf.os, hb.tape.trans hf.tape, hb.output.trans hf.output, Nat.le_trans hf.size hb.size, fun k hk hl => (hb.block k (Nat.lt_of_lt_of_le hk hf.size)).trans (hf.block k hk hl), fun b c e hc => by
   obtain ⟨c1, h1, h2⟩ := hf.shape b c e hc
   exact ⟨c1, (hb.block b (cY h1)).trans h1, h2⟩, Nat.le_trans hf.drawn hb.drawn⟩
def Env.addN (E : Env) : Env := { E with g := fun i => if i = E.n then none else E.g i, n := E.n + 1 }
theorem k4 (E : Env) : Mono E E.addN := by
 refine ⟨Nat.le_refl _, fun _ _ h => ⟨h, rfl⟩, Nat.le_succ _, fun i hi hl => ?_, fun i j hi ht => ?_⟩
 ·have hne : i ≠ E.n := Nat.ne_of_lt hi
  simp only [Env.addN, if_neg hne] at hl ⊢
  exact ⟨hl, trivial, id, fun c e h => ⟨c, h, rfl⟩⟩
 ·have hne : i ≠ E.n := Nat.ne_of_lt hi
  obtain ⟨cs, sz, n, r, hg, hj⟩ := ht
  simp only [Env.addN, if_neg hne] at hg
  exact ⟨⟨cs, sz, n, r, hg, hj⟩, rfl⟩
theorem yB (hR : Rel C E s a) : Rel C E.addN { s with g := s.g ++ [none] } a := by
 have hm := k4 E
 refine ⟨hR.size, hR.nd, fun k => (hR.slot k).slot hm, ?_, ?_, ?_, hR.okb, hR.lab, hR.fr, hR.old, hR.pin.mono hm⟩
 ·funext i
  simp only [Env.addN, St.ob, eD, hR.n]
  rw [hR.g]
  rfl
 ·simp [Env.addN, hR.n]
 ·intro i x hx
  simp only [St.ob, eD] at hx
  split at hx
  ·cases hx
  ·exact ObR.mono hm rfl (fun _ _ h => ⟨h, rfl⟩) (hR.ob i x hx)
theorem W8 {E E' : Env} (hw : E'.w = E.w) (ho : E'.o = E.o) (hk : ∀ b, E.okb b → E'.okb b) {m : Md} {vs : List V} {xs : List Value} (h : Rvs E.bare m vs xs) : Rvs E'.bare m vs xs := by
 have hm : Mono E.bare E'.bare := ⟨by show E.w.heap.size ≤ E'.w.heap.size; rw [hw]; exact Nat.le_refl _, fun b _ h => ⟨hk b h, by show E'.w.heap[b]? = E.w.heap[b]?; rw [hw]⟩, Nat.le_refl _, fun _ h _ => absurd h (Nat.not_lt_zero _), fun _ _ h _ => absurd h (Nat.not_lt_zero _)⟩
 have hkp : ∀ q, Kept E.bare E'.bare q := fun q b r h => ⟨by show E'.o b = _; rw [ho]; exact h, by show E'.w.heap[b]? = E.w.heap[b]?; rw [hw]⟩
 exact Rvs.mono hm (fun q _ => hkp q) (fun k j _ _ => hkp _) h
theorem GA {E : Env} {k : Nat} {v : V} {x : Value} (h : Rv E.bare (.top k) v x) (hn : vM v = true) (ha : ∀ cs, v ≠ .agg cs ∧ v ≠ .tup cs ∧ ∀ f, v ≠ .fn f cs) : Rv E .none v x := by
 have h2 := Rv.unbare h
 cases v <;> try exact h2
 ·simp [vM] at hn
 ·simp [vM] at hn
 ·exact absurd rfl (ha _).1
 ·exact absurd rfl (ha _).2.1
 ·exact absurd rfl ((ha _).2.2 _)
mutual
theorem K7 : ∀ {r : V} {x : Value} {E : Env} {s : St}, Rel C E s a → Rv E.bare (.top s.g.length) r x →
  ∃ E', Rel C E' { s with g := s.g ++ pG r } a ∧ E'.w = E.w ∧ E'.o = E.o ∧ Mono E E' ∧ Rv E' .none (C3 s.g.length r) x ∧ (pG r).length = nl r
 | .tr sz n cs, x, E, s, hR, h => by
  obtain ⟨A, cap, rfl, hc, hl, hr⟩ := h
  have key : ∀ p : Nat × Nat, ObR (E.addO p ⟨false, cs⟩) s.g.length ⟨false, cs⟩ → (cap = 0 ∨ ∃ c e, A = some ⟨p.1, p.2, none⟩ ∧ E.o p.1 = some [s.g.length] ∧ E.w.heap[p.1]? = some (.cells c e (0, 0)) ∧ p.2 + cap * sz ≤ c.size) →
    ∃ E', Rel C E' { s with g := s.g ++ pG (.tr sz n cs) } a ∧ E'.w = E.w ∧ E'.o = E.o ∧ Mono E E' ∧ Rv E' .none (C3 s.g.length (.tr sz n cs)) (.slice A n cap) ∧ (pG (.tr sz n cs)).length = nl (.tr sz n cs) := by
   intro p hob hv
   refine ⟨E.addO p ⟨false, cs⟩, kS hR hR.n hob, rfl, rfl, iI _ _ _, ?_, rfl⟩
   refine ⟨by show s.g.length < E.n + 1; rw [hR.n]; exact Nat.lt_succ_self _, A, cap, rfl, hc, fun _ => ⟨hc, hc, fun h hh => (by cases hh), ?_⟩⟩
   have hρ : (E.addO p ⟨false, cs⟩).ρ s.g.length = p := by simp only [Env.addO, hR.n, if_true]
   rcases hv with hv | ⟨c, e, h1, h2, h3, h4⟩
   ·exact .inl hv
   ·exact .inr ⟨c, e, by rw [hρ]; exact h1, by rw [hρ]; exact h2, by rw [hρ]; exact h3, by rw [hρ, Nat.add_zero]; exact h4⟩
  rcases hr with hr | ⟨b, off, q, c, e, hA, hq, ho, hh, hs, hrow⟩
  ·refine key (0, 0) (.inl ?_) (.inl hr)
   have hn0 : n = 0 := by omega
   rw [hn0, Nat.zero_mul] at hl
   exact List.eq_nil_of_length_eq_zero hl
  ·simp only [Md.leaf, Option.some.injEq] at hq
   subst hq
   have hρ : (E.addO (b, off) ⟨false, cs⟩).ρ s.g.length = (b, off) := by simp only [Env.addO, hR.n, if_true]
   refine key (b, off) (.inr ⟨c, e, by rw [hρ]; exact hh, by rw [hρ]; exact ho, ?_⟩) (.inr ⟨c, e, hA, ho, hh, hs⟩)
   rw [hρ]
   exact Rrow.mono (E := E.bare) (iI E (b, off) ⟨false, cs⟩).bare (fun q _ => fun _ _ h => ⟨h, rfl⟩) rfl hrow
 | .sc v, x, E, s, hR, h => ⟨E.addN, yB hR, rfl, rfl, k4 E, (GA h rfl (fun cs => ⟨nofun, nofun, nofun⟩)).slot (k4 E), rfl⟩
 | .ro n cs, x, E, s, hR, h => ⟨E.addN, yB hR, rfl, rfl, k4 E, (GA h rfl (fun cs => ⟨nofun, nofun, nofun⟩)).slot (k4 E), rfl⟩
 | .rp cs, x, E, s, hR, h => ⟨E.addN, yB hR, rfl, rfl, k4 E, (GA h rfl (fun cs => ⟨nofun, nofun, nofun⟩)).slot (k4 E), rfl⟩
 | .bp cs, x, E, s, hR, h => by
  obtain ⟨b, off, q, c, e, rfl, hq, ho, hh, hne, hrow⟩ := h
  simp only [Md.leaf, Option.some.injEq] at hq
  subst hq
  have hρ : (E.addO (b, off) ⟨false, cs⟩).ρ s.g.length = (b, off) := by simp only [Env.addO, hR.n, if_true]
  have hob : ObR (E.addO (b, off) ⟨false, cs⟩) s.g.length ⟨false, cs⟩ := by
   refine .inr ⟨c, e, by rw [hρ]; exact hh, by rw [hρ]; exact ho, ?_⟩
   rw [hρ]
   exact Rrow.mono (E := E.bare) (iI E (b, off) ⟨false, cs⟩).bare (fun q _ => fun _ _ h => ⟨h, rfl⟩) rfl hrow
  exact ⟨E.addO (b, off) ⟨false, cs⟩, kS hR hR.n hob, rfl, rfl, iI _ _ _, ⟨by show s.g.length < E.n + 1; rw [hR.n]; exact Nat.lt_succ_self _, _, rfl, fun _ => by rw [hρ]; rfl⟩, rfl⟩
 | .fn f cs, x, E, s, hR, h => by
  obtain ⟨xs, rfl, hr⟩ := h
  obtain ⟨E', h1, h2, h3, h4, h5, h6⟩ := xN hR hr
  exact ⟨E', h1, h2, h3, h4, ⟨xs, rfl, h5⟩, h6⟩
 | .sp i j off, x, E, s, hR, h => absurd h.1 (Nat.not_lt_zero _)
 | .mref i, x, E, s, hR, h => absurd h.1 (Nat.not_lt_zero _)
 | .any, x, E, s, hR, h => ⟨E.addN, yB hR, rfl, rfl, k4 E, trivial, rfl⟩
 | .own i sz off n lo hi, x, E, s, hR, h => absurd h.1 (Nat.not_lt_zero _)
 | .sub i j, x, E, s, hR, h => absurd h.1 (Nat.not_lt_zero _)
 | .ptr i off, x, E, s, hR, h => absurd h.1 (Nat.not_lt_zero _)
 | .agg cs, x, E, s, hR, h => by
  obtain ⟨xs, rfl, hr⟩ := h
  obtain ⟨E', h1, h2, h3, h4, h5, h6⟩ := xN hR hr
  exact ⟨E', h1, h2, h3, h4, ⟨xs, rfl, h5⟩, h6⟩
 | .tup cs, x, E, s, hR, h => by
  obtain ⟨xs, rfl, hr⟩ := h
  obtain ⟨E', h1, h2, h3, h4, h5, h6⟩ := xN hR hr
  exact ⟨E', h1, h2, h3, h4, ⟨xs, rfl, h5⟩, h6⟩
theorem xN : ∀ {rs : List V} {xs : List Value} {E : Env} {s : St}, Rel C E s a → Rvs E.bare (.top s.g.length) rs xs →
  ∃ E', Rel C E' { s with g := s.g ++ k9 rs } a ∧ E'.w = E.w ∧ E'.o = E.o ∧ Mono E E' ∧ Rvs E' .none (rV s.g.length rs) xs ∧ (k9 rs).length = nls rs
 | [], [], E, s, hR, h => ⟨E, by simp only [k9, List.append_nil]; exact hR, rfl, rfl, eO E, trivial, rfl⟩
 | r :: rs, x :: xs, E, s, hR, h => by
  obtain ⟨E1, h1, h2, h3, h4, h5, h6⟩ := K7 hR h.1
  have hlen : ({ s with g := s.g ++ pG r } : St).g.length = s.g.length + nl r := by simp [h6]
  have hr : Rvs E1.bare (.top ({ s with g := s.g ++ pG r } : St).g.length) rs xs := by
   rw [hlen]
   refine W8 h2 h3 (fun b hb => ?_) h.2
   rw [h1.okb, h3]
   rw [hR.okb] at hb
   exact hb
  obtain ⟨E2, g1, g2, g3, g4, g5, g6⟩ := xN h1 hr
  refine ⟨E2, ?_, g2.trans h2, g3.trans h3, ?_, ⟨h5.slot g4, ?_⟩, ?_⟩
  ·simp only [k9, ← List.append_assoc]
   exact g1
  ·refine ⟨Nat.le_trans h4.sz g4.sz, fun b hb hok => ?_, Nat.le_trans h4.n g4.n, fun i hi hl => ?_, fun i j hi ht => ?_⟩
   ·obtain ⟨a1, a2⟩ := h4.free b hb hok
    obtain ⟨b1, b2⟩ := g4.free b (Nat.lt_of_lt_of_le hb h4.sz) a1
    exact ⟨b1, b2.trans a2⟩
   ·obtain ⟨a1, a2, a3, a4⟩ := g4.ref i (Nat.lt_of_lt_of_le hi h4.n) hl
    obtain ⟨b1, b2, b3, b4⟩ := h4.ref i hi a1
    rw [b2] at a2 a3 a4
    exact ⟨b1, a2, fun ho => a3 (b3 ho), fun c e hc => by obtain ⟨c', h1', h2'⟩ := b4 c e hc; obtain ⟨c'', h3', h4'⟩ := a4 c' e h1'; exact ⟨c'', h3', h4'.trans h2'⟩⟩
   ·obtain ⟨a1, a2⟩ := g4.sub i j (Nat.lt_of_lt_of_le hi h4.n) ht
    obtain ⟨b1, b2⟩ := h4.sub i j hi a1
    refine ⟨b1, ?_⟩
    rw [g2, h2]
  ·rw [hlen] at g5
   exact g5
  ·simp [k9, nls, h6, g6]
 | [], _ :: _, E, s, hR, h => h.elim
 | _ :: _, [], E, s, hR, h => h.elim
end
theorem zN (hR : Rel C E s a) : ∀ args : List Operand, Rvs E .none (args.map (ev s)) (args.map a.eval)
 | [] => trivial
 | x :: r => ⟨cN hR x, zN hR r⟩
theorem f0 {f : FuncId} (h : Enters P f) (args : Array Value) (w : World) : (callFunc f args).run P w = .ok (.enter f args) w := by
 obtain ⟨fn, c, hf, hn, hb⟩ := h
 have hn' : ¬ fn.name = "runtime.NumGoroutine" := by simpa using hn
 simp [callFunc, hf, hn', hb]
theorem I1 {f : FuncId} {args : Array Operand} {ts : Array TypeId} (ho : o.op = .call { callee := .value (.func f), args, argTypes := ts }) (h : Enters P f) (w : World) : (execOp a.eval o).run P w = .ok (.enter f (args.toList.map a.eval).toArray) w := by
 have he : ((args.toList.map a.eval).toArray : Array Value) = args.map a.eval := by
  apply Array.toList_inj.1; simp
 rw [he]
 simp only [execOp, ho, resolve, Act.eval, Deferred.ofValue, Sem.run_bind, Sem.run_pure, Result.andThen_ok, invoke, Array.append_empty, Array.empty_append]
 exact f0 h _ _
theorem RO (hR : Rel C E s a) {ro : Bool} {w' : World} (hb : BelowD E.w w') {o' : Lab} (ho : ∀ b, b < E.w.heap.size → o' b = dull E ro b) (hl : ∀ b p, o' b = some p → b < w'.heap.size) {r : V} {x : Value} {k0 : Nat} (hv : Rv (aZ w' o') (.top k0) r x)
  (hc : ro = true ∨ pD r) {K : V → St → Prop} (hK : K (roV r) s ∨ K (C3 s.g.length r) { s with g := s.g ++ pG r }) : ∃ E' v s', E'.w = w' ∧ K v s' ∧ Rel C E' s' a ∧ Rv E' .none v x := by
 have hold : ∀ b, b < E.w.heap.size → ∀ q, o' b = some q → q = [] := by
  intro b hlt q hq
  rw [ho b hlt] at hq
  exact (JZ hR ro b q hq).1
 have hfree : ∀ (lf : Lab), (∀ b, o' b = none → lf b = none) → ro = true → ∀ b, (aZ w' o').okb b → (E.ret w' lf).okb b := by
  intro lf hlf hro b hok
  have hok' : o' b = none := hok
  show (if b < E.w.heap.size then E.o b else lf b) = none
  by_cases hlt : b < E.w.heap.size
  ·rw [if_pos hlt]
   rw [ho b hlt] at hok'
   subst hro
   simpa [dull] using hok'
  ·rw [if_neg hlt]
   exact hlf b hok'
 rcases hK with hK | hK
 ·refine ⟨E.ret w' fun _ => none, _, _, rfl, hK, TB hR hb (fun b p h => by cases h), ?_⟩
  refine Rv.freeze (G := aZ w' o') (F := E.ret w' fun _ => none) (full := ro = true) rfl rfl (hfree _ fun _ _ => rfl) (fun b q hq0 hq => ?_) (m := .top k0) (fun q hq => by cases hq) hc hv
  show (if b < E.w.heap.size then E.o b else none) = none
  by_cases hlt : b < E.w.heap.size
  ·exact absurd (hold b hlt q hq) hq0
  ·rw [if_neg hlt]
 ·have hlf : ∀ b p, (o' b).map (shift k0 s.g.length) = some p → b < w'.heap.size := by
   intro b p h
   simp only [Option.map_eq_some_iff] at h
   obtain ⟨q, hq, _⟩ := h
   exact hl b q hq
  have hR1 := TB hR hb (lf := fun b => (o' b).map (shift k0 s.g.length)) hlf
  have hv1 : Rv (E.ret w' fun b => (o' b).map (shift k0 s.g.length)).bare (.top s.g.length) r x := by
   have e : Md.sh k0 s.g.length (.top k0) = .top s.g.length := by simp [Md.sh]
   rw [← e]
   refine Rv.sh (G := aZ w' o') (F := E.ret w' fun b => (o' b).map (shift k0 s.g.length)) (full := ro = true) rfl rfl (hfree _ fun b h => by simp [h]) (fun b q hq0 hq => ?_) (m := .top k0) (k0 := k0) (N := s.g.length) (Nat.le_refl _) hc hv
   show (if b < E.w.heap.size then E.o b else (o' b).map (shift k0 s.g.length)) = _
   by_cases hlt : b < E.w.heap.size
   ·exact absurd (hold b hlt q hq) hq0
   ·have hq' : o' b = some q := hq
    rw [if_neg hlt, hq']
    rfl
  obtain ⟨E', h1, h2, h3, h4, h5, h6⟩ := K7 hR1 hv1
  exact ⟨E', _, _, h2, hK, h1, h5⟩
end
end Go.Proofs.YtboolngaahifdaaGreatD
namespace Go.Proofs.YtboolngaahifdaaGreatD
open Go Go.RowKit
abbrev eV := List (Nat × List Nat)
def fwd : eV → List Nat → Option (List Nat)
 | [], _ => none
 | (k, q) :: r, p => if q.isPrefixOf p then some (k :: p.drop q.length) else fwd r p
def bwd : eV → Nat → Option (List Nat)
 | [], _ => none
 | (k, q) :: r, h => if k = h then some q else bwd r h
structure Inc (τ : eV) : Prop where
 inc : ∀ k q k' q', (k, q) ∈ τ → (k', q') ∈ τ → q <+: q' → k = k' ∧ q = q'
 fn : ∀ k q q', (k, q) ∈ τ → (k, q') ∈ τ → q = q'
theorem N3 {τ : eV} {p r : List Nat} (h : fwd τ p = some r) : ∃ k q t, (k, q) ∈ τ ∧ p = q ++ t ∧ r = k :: t := by
 induction τ with
 | nil => cases h
 | cons e τ ih =>
  obtain ⟨k, q⟩ := e
  simp only [fwd] at h
  split at h
  ·rename_i hp
   obtain ⟨t, ht⟩ := List.isPrefixOf_iff_prefix.1 hp
   cases h
   exact ⟨k, q, t, by simp, ht.symm, by rw [← ht]; simp⟩
  ·obtain ⟨k', q', t, h1, h2, h3⟩ := ih h
   exact ⟨k', q', t, by simp [h1], h2, h3⟩
theorem pW {τ : eV} {p : List Nat} (h : ∀ k q t, (k, q) ∈ τ → p ≠ q ++ t) : fwd τ p = none := by
 cases hf : fwd τ p with
 | none => rfl
 | some r =>
  obtain ⟨k, q, t, h1, h2, _⟩ := N3 hf
  exact absurd h2 (h k q t h1)
theorem a26 {τ : eV} (hi : Inc τ) {k : Nat} {q t : List Nat} (h : (k, q) ∈ τ) : fwd τ (q ++ t) = some (k :: t) := by
 cases hf : fwd τ (q ++ t) with
 | none =>
  exfalso
  have : ∀ σ : eV, (k, q) ∈ σ → fwd σ (q ++ t) ≠ none := by
   intro σ
   induction σ with
   | nil => intro h; cases h
   | cons e σ ih =>
    intro h
    obtain ⟨k', q'⟩ := e
    simp only [fwd]
    split
    ·simp
    ·rename_i hn
     simp only [List.mem_cons, Prod.mk.injEq] at h
     rcases h with ⟨_, rfl⟩ | h
     ·exact absurd (List.isPrefixOf_iff_prefix.2 (List.prefix_append _ _)) hn
     ·exact ih h
  exact this τ h hf
 | some r =>
  obtain ⟨k', q', t', h1, h2, rfl⟩ := N3 hf
  have hcmp : q <+: q' ∨ q' <+: q := List.prefix_or_prefix_of_prefix (l₃ := q ++ t) (List.prefix_append _ _) (by rw [h2]; exact List.prefix_append _ _)
  have hkq : k = k' ∧ q = q' := by
   rcases hcmp with hc | hc
   ·exact hi.inc _ _ _ _ h h1 hc
   ·have := hi.inc _ _ _ _ h1 h hc
    exact ⟨this.1.symm, this.2.symm⟩
  obtain ⟨rfl, rfl⟩ := hkq
  have := List.append_cancel_left h2
  rw [this]
theorem a1Y {τ : eV} (hi : Inc τ) {k : Nat} {q : List Nat} (h : (k, q) ∈ τ) : bwd τ k = some q := by
 have key : ∀ σ : eV, (∀ e ∈ σ, e ∈ τ) → (k, q) ∈ σ → bwd σ k = some q := by
  intro σ
  induction σ with
  | nil => intro _ h; cases h
  | cons e σ ih =>
   intro hs hm
   obtain ⟨k', q'⟩ := e
   simp only [bwd]
   split
   ·rename_i hk
    subst hk
    rw [hi.fn _ q' q (hs _ (by simp)) h]
   ·rename_i hk
    simp only [List.mem_cons, Prod.mk.injEq] at hm
    rcases hm with ⟨rfl, _⟩ | hm
    ·exact absurd rfl hk
    ·exact ih (fun e he => hs e (by simp [he])) hm
 exact key τ (fun e he => he) h
section
variable {P : Program} {Γ : Tab} {C : Ctx} {E : Env} {s : St} {a : Act} {o : Oper} {K : V → St → Prop}
def sE (E : Env) (τ : eV) : Lab := fun b => (E.o b).map fun p => (fwd τ p).getD []
structure Tgt (s : St) (X : bM) (τ : eV) (kid : Nat) : Prop where
 inc : Inc τ
 lt : ∀ k q, (k, q) ∈ τ → k < kid
 at_ : ∀ k q, (k, q) ∈ τ → (∃ i, q = [i] ∧ (i, none) ∈ X) ∨ (∃ i j, q = [i, j] ∧ (i, some j) ∈ X)
 row : ∀ i, (i, none) ∈ X → ∃ cs, s.ob i = some ⟨false, cs⟩
 ex : ∀ i j, (i, some j) ∈ X → (i, none) ∉ X
theorem Tgt.le {X : bM} {τ : eV} {kid kid' : Nat} (h : Tgt s X τ kid) (hk : kid ≤ kid') : Tgt s X τ kid' := ⟨h.inc, fun k q hm => Nat.lt_of_lt_of_le (h.lt k q hm) hk, h.at_, h.row, h.ex⟩
structure Ext (X : bM) (τ τf : eV) (m : Nat) : Prop where
 sub : ∀ e ∈ τ, e ∈ τf
 new : ∀ k q, (k, q) ∈ τf → k < m → (k, q) ∈ τ
 fix : ∀ l, (l, none) ∈ X → ∀ k, (k, [l]) ∈ τf → (k, [l]) ∈ τ
theorem rA {X : bM} {i : Nat} (h : tK X i = true) : ∀ x, (i, x) ∉ X := by
 induction X with
 | nil => intro x hx; cases hx
 | cons e X ih =>
  obtain ⟨k, l⟩ := e
  simp only [tK, Bool.and_eq_true, Bool.not_eq_true'] at h
  intro x hx
  simp only [List.mem_cons, Prod.mk.injEq] at hx
  rcases hx with ⟨rfl, _⟩ | hx
  ·simp at h
  ·exact ih h.2 x hx
theorem BN {X : bM} {i : Nat} (h : gG X i = true) : (i, none) ∉ X := by
 induction X with
 | nil => intro hx; cases hx
 | cons e X ih =>
  obtain ⟨k, l⟩ := e
  intro hx
  simp only [List.mem_cons, Prod.mk.injEq] at hx
  cases l with
  | none =>
   simp only [gG, Bool.and_eq_true, Bool.not_eq_true'] at h
   rcases hx with ⟨rfl, _⟩ | hx
   ·simp at h
   ·exact ih h.2 hx
  | some l =>
   simp only [gG] at h
   rcases hx with ⟨_, hx⟩ | hx
   ·cases hx
   ·exact ih h hx
theorem TZ {X : bM} {i j : Nat} (h : wY X i j) : (i, some j) ∉ X := by
 induction X with
 | nil => intro hx; cases hx
 | cons e X ih =>
  obtain ⟨k, l⟩ := e
  intro hx
  simp only [List.mem_cons, Prod.mk.injEq] at hx
  cases l with
  | none =>
   simp only [wY] at h
   rcases hx with ⟨_, hx⟩ | hx
   ·cases hx
   ·exact ih h hx
  | some l =>
   simp only [wY] at h
   cases hb : Nat.beq k i with
   | true =>
    rw [hb] at h
    rcases hx with ⟨_, hx⟩ | hx
    ·cases hx; exact h.1 rfl
    ·exact ih h.2 hx
   | false =>
    rw [hb] at h
    rcases hx with ⟨rfl, _⟩ | hx
    ·simp at hb
    ·exact ih h hx
structure LC (E : Env) (τ : eV) (E3 : Env) (w' : World) (o' : Lab) : Prop where
 w : E3.w = w'
 ρ : E3.ρ = E.ρ
 moved : ∀ k q, (k, q) ∈ τ → Moved (aZ w' o') E3.bare [k] q
 mono : Mono (aZ w' o') E3.bare
 keep : ∀ b p, E.o b = some p → fwd τ p = none → E3.o b = some p ∧ w'.heap[b]? = E.w.heap[b]?
 free : ∀ b, b < E.w.heap.size → E.o b = none → E3.okb b ∧ w'.heap[b]? = E.w.heap[b]?
 size : E.w.heap.size ≤ w'.heap.size
def Pd (τ : eV) (kid : Nat) (q : List Nat) : Prop := ∃ k, kid ≤ k ∧ (k, q) ∈ τ
structure RI (E : Env) (s : St) (X : bM) (τ : eV) (E3 : Env) (kid : Nat) (st : St) : Prop where
 t : st.t = s.t
 N : st.N = s.N
 len : st.g.length = s.g.length
 box : ∀ i cs, st.ob i = some ⟨true, cs⟩ → s.ob i = some ⟨true, cs⟩
 live : ∀ i, (st.ob i).isSome = true → (s.ob i).isSome = true
 tr : ∀ i j, hZ st.ob i j → hZ s.ob i j ∨ (i, none) ∈ X
 lab : ∀ i, (st.ob i).isSome = true → ¬ Pd τ kid [i] → E.o (E.ρ i).1 = some [i] → E3.o (E.ρ i).1 = some [i]
 row : ∀ i cs, st.ob i = some ⟨false, cs⟩ → ¬ Pd τ kid [i] → cs = [] ∨ ∃ c e, E3.w.heap[(E.ρ i).1]? = some (.cells c e (0, 0)) ∧ E3.o (E.ρ i).1 = some [i] ∧
  ∀ k v, cs[k]? = some v → ∃ u, E3.w.cell? ⟨(E.ρ i).1, (E.ρ i).2 + k, none⟩ = some u ∧ (¬ Pd τ kid [i, k] → Rv E3.bare (.at [i, k]) v u)
 sub : ∀ i j x, hZ s.ob i j → (i, none) ∉ X → E.w.cell? ⟨(E.ρ i).1, (E.ρ i).2 + j, none⟩ = some x → E3.w.cell? ⟨(E.ρ i).1, (E.ρ i).2 + j, none⟩ = some x
theorem RI.next {X : bM} {τ : eV} {E3 : Env} {kid kid' : Nat} {st : St} (h : RI E s X τ E3 kid st) (hk : ∀ k q, (k, q) ∈ τ → kid ≤ k → kid' ≤ k) : RI E s X τ E3 kid' st := by
 have hp : ∀ q, ¬ Pd τ kid' q → ¬ Pd τ kid q := fun q hn ⟨k, h1, h2⟩ => hn ⟨k, hk k q h2 h1, h2⟩
 exact ⟨h.t, h.N, h.len, h.box, h.live, h.tr, fun i hi hn => h.lab i hi (hp _ hn), fun i cs hi hn => by
  rcases h.row i cs hi (hp _ hn) with h0 | ⟨c, e, h1, h2, h3⟩
  ·exact .inl h0
  ·exact .inr ⟨c, e, h1, h2, fun k v hk' => by obtain ⟨u, hu, hr⟩ := h3 k v hk'; exact ⟨u, hu, fun hn' => hr (hp _ hn')⟩⟩, h.sub⟩
theorem G8 {X : bM} {τ : eV} {kid : Nat} (hT : Tgt s X τ kid) {i : Nat} (hi : (i, none) ∉ X) : fwd τ [i] = none := by
 refine pW fun k q t hm he => ?_
 rcases hT.at_ k q hm with ⟨i', rfl, hx⟩ | ⟨i', j', rfl, hx⟩
 ·simp at he
  obtain ⟨rfl, _⟩ := he
  exact hi hx
 ·simp at he
theorem LW {X : bM} {τ : eV} {kid : Nat} (hT : Tgt s X τ kid) {i j : Nat} {r : List Nat} (hi : ∀ k, (k, [i]) ∉ τ) (hj : ∀ k, (k, [i, j]) ∉ τ) : fwd τ (i :: j :: r) = none := by
 refine pW fun k q t hm he => ?_
 rcases hT.at_ k q hm with ⟨i', rfl, hx⟩ | ⟨i', j', rfl, hx⟩
 ·simp at he
  obtain ⟨rfl, _⟩ := he
  exact hi k hm
 ·simp at he
  obtain ⟨rfl, rfl, _⟩ := he
  exact hj k hm
theorem RI.start (hR : Rel C E s a) {X : bM} {τ : eV} {kid : Nat} (hT : Tgt s X τ kid) {E3 : Env} {w' : World} {o' : Lab} (hL : LC E τ E3 w' o') : RI E s X τ E3 0 s := by
 have hnP : ∀ i, ¬ Pd τ 0 [i] → fwd τ [i] = none := by
  intro i hn
  refine pW fun k q t hm he => ?_
  rcases hT.at_ k q hm with ⟨i', rfl, hx⟩ | ⟨i', j', rfl, hx⟩
  ·simp at he
   obtain ⟨rfl, _⟩ := he
   exact hn ⟨k, Nat.zero_le _, hm⟩
  ·simp at he
 refine ⟨rfl, rfl, rfl, fun _ _ h => h, fun _ h => h, fun _ _ h => .inl h, fun i hi hn ho => (hL.keep _ _ ho (hnP i hn)).1, fun i cs hi hn => ?_, fun i j x ht hx hc => ?_⟩
 ·rcases hR.ob i _ hi with h0 | ⟨c, e, hh, hl, hrow⟩
  ·exact .inl h0
  ·obtain ⟨h1, h2⟩ := hL.keep _ _ hl (hnP i hn)
   refine .inr ⟨c, e, by rw [hL.w, h2]; exact hh, h1, fun k v hk => ?_⟩
   obtain ⟨u, hu, hr⟩ := bR hrow k v hk
   refine ⟨u, by rw [hL.w]; exact (dQ h2).trans hu, fun hn' => ?_⟩
   rw [Nat.zero_add] at hr
   have hm : Mono E.bare E3.bare := ⟨by show E.w.heap.size ≤ E3.w.heap.size; rw [hL.w]; exact hL.size, fun b hb hok => by
    have hok' : E.okb b := hok
    rw [hR.okb] at hok'
    obtain ⟨g1, g2⟩ := hL.free b hb hok'
    exact ⟨g1, by show E3.w.heap[b]? = E.w.heap[b]?; rw [hL.w]; exact g2⟩, Nat.le_refl _, fun _ h _ => absurd h (Nat.not_lt_zero _), fun _ _ h _ => absurd h (Nat.not_lt_zero _)⟩
   refine Rv.mono hm (fun q hq b r hb => ?_) (fun q j hq _ => by cases hq) hr
   cases hq
   have hf : fwd τ (i :: k :: r) = none := LW hT (fun k' hm => hn ⟨k', Nat.zero_le _, hm⟩) (fun k' hm => hn' ⟨k', Nat.zero_le _, hm⟩)
   obtain ⟨g1, g2⟩ := hL.keep b _ hb hf
   exact ⟨g1, by show E3.w.heap[b]? = E.w.heap[b]?; rw [hL.w]; exact g2⟩
 ·obtain ⟨cs, sz, n, r, hg, hj⟩ := ht
  rcases hR.ob i _ hg with h0 | ⟨c, e, hh, hl, hrow⟩
  ·rw [h0] at hj; simp at hj
  ·obtain ⟨h1, h2⟩ := hL.keep _ _ hl (G8 hT hx)
   rw [hL.w]
   exact (dQ h2).trans hc
theorem RI.done {X : bM} {τ : eV} {E3 : Env} {kid : Nat} {st : St} (h : RI E s X τ E3 kid st) (hT : ∀ k q, (k, q) ∈ τ → k < kid) (hρ : E3.ρ = E.ρ) : ∀ i cs, st.ob i = some ⟨false, cs⟩ → ObR E3 i ⟨false, cs⟩ := by
 have hp : ∀ q, ¬ Pd τ kid q := fun q ⟨k, h1, h2⟩ => by have := hT k q h2; omega
 intro i cs hi
 rcases h.row i cs hi (hp _) with h0 | ⟨c, e, h1, h2, h3⟩
 ·exact .inl h0
 ·refine .inr ⟨c, e, by rw [hρ]; exact h1, by rw [hρ]; exact h2, cD fun k v hk => ?_⟩
  obtain ⟨u, hu, hr⟩ := h3 k v hk
  exact ⟨u, by rw [hρ]; exact hu, by rw [Nat.zero_add]; exact hr (hp _)⟩
end
end Go.Proofs.YtboolngaahifdaaGreatD
namespace Go.Proofs.YtboolngaahifdaaGreatD
open Go Go.RowKit
section
variable {P : Program} {Γ : Tab} {C : Ctx} {E : Env} {s : St} {a : Act} {o : Oper} {K : V → St → Prop}
theorem o3 (hR : Rel C E s a) (τ : eV) : Mono E.bare (aZ E.w (sE E τ)) := by
 refine ⟨Nat.le_refl _, fun b _ hok => ⟨?_, rfl⟩, Nat.le_refl _, fun _ h _ => absurd h (Nat.not_lt_zero _), fun _ _ h _ => absurd h (Nat.not_lt_zero _)⟩
 have hok' : E.okb b := hok
 rw [hR.okb] at hok'
 show sE E τ b = none
 simp [sE, hok']
theorem nL {τ : eV} (hi : Inc τ) {k : Nat} {q : List Nat} (h : (k, q) ∈ τ) : Moved E.bare (aZ E.w (sE E τ)) q [k] := fun b r hb => by
 have hb' : E.o b = some (q ++ r) := hb
 refine ⟨?_, rfl⟩
 show sE E τ b = _
 simp [sE, hb', a26 hi h]
structure Leaf (E : Env) (s : St) (v : V) (x : Value) (X : bM) (τ : eV) (kid : Nat) (u : V) (X' : bM) (τ' : eV) : Prop where
 tgt : Tgt s X' τ' (kid + nl u)
 subX : ∀ e ∈ X, e ∈ X'
 subT : ∀ e ∈ τ, e ∈ τ'
 new : ∀ k q, (k, q) ∈ τ' → (k, q) ∈ τ ∨ kid ≤ k
 fix : ∀ l, (l, none) ∈ X → ∀ k, (k, [l]) ∈ τ' → (k, [l]) ∈ τ
 give : ∀ τf, Ext X' τ' τf (kid + nl u) → Inc τf → Rv (aZ E.w (sE E τf)) (.top kid) u x
 back : ∀ {Xf : bM} {τf : eV} {E3 : Env} {w' : World} {o' : Lab} {st : St} {out : V} {K' : St → Prop} {M : Nat}, (∀ e ∈ X', e ∈ Xf) → Ext X' τ' τf (kid + nl u) → Tgt s Xf τf M → LC E τf E3 w' o' → RI E s Xf τf E3 kid st → Rv (aZ w' o') (.top kid) out x → eN st v out K' →
  nl out = nl u ∧ ∃ st', K' st' ∧ RI E s Xf τf E3 (kid + nl u) st'
structure Leaves (E : Env) (s : St) (vs : List V) (xs : List Value) (X : bM) (τ : eV) (kid : Nat) (us : List V) (X' : bM) (τ' : eV) : Prop where
 tgt : Tgt s X' τ' (kid + nls us)
 subX : ∀ e ∈ X, e ∈ X'
 subT : ∀ e ∈ τ, e ∈ τ'
 new : ∀ k q, (k, q) ∈ τ' → (k, q) ∈ τ ∨ kid ≤ k
 fix : ∀ l, (l, none) ∈ X → ∀ k, (k, [l]) ∈ τ' → (k, [l]) ∈ τ
 give : ∀ τf, Ext X' τ' τf (kid + nls us) → Inc τf → Rvs (aZ E.w (sE E τf)) (.top kid) us xs
 back : ∀ {Xf : bM} {τf : eV} {E3 : Env} {w' : World} {o' : Lab} {st : St} {outs : List V} {K' : St → Prop} {M : Nat}, (∀ e ∈ X', e ∈ Xf) → Ext X' τ' τf (kid + nls us) → Tgt s Xf τf M → LC E τf E3 w' o' → RI E s Xf τf E3 kid st → Rvs (aZ w' o') (.top kid) outs xs → pB st vs outs K' →
  nls outs = nls us ∧ ∃ st', K' st' ∧ RI E s Xf τf E3 (kid + nls us) st'
theorem a0T {Xf : bM} {τ τf : eV} {E3 : Env} {kid m : Nat} {st : St} (hT : ∀ k q, (k, q) ∈ τ → k < kid) {X : bM} (he : Ext X τ τf m) (h : RI E s Xf τf E3 kid st) : RI E s Xf τf E3 m st :=
 h.next fun k q hm hk => by
  rcases Nat.lt_or_ge k m with h1 | h1
  ·have := hT k q (he.new k q hm h1)
   omega
  ·exact h1
theorem r7 {v : V} {x : Value} {X : bM} {τ : eV} {kid : Nat} {u : V} (hT : Tgt s X τ kid) (hn : nl u = 1) (hg : ∀ τf, Inc τf → Rv (aZ E.w (sE E τf)) (.top kid) u x)
  (hb : ∀ {st : St} {out : V} {K' : St → Prop}, eN st v out K' → nl out = 1 ∧ K' st) : Leaf E s v x X τ kid u X τ where
 tgt := hT.le (Nat.le_add_right _ _)
 subX := fun e h => h
 subT := fun e h => h
 new := fun k q h => .inl h
 fix := fun l _ k h => h
 give := fun τf _ hi => hg τf hi
 back := fun {Xf τf E3 w' o' st out K' M} _ he _ _ hI _ hk => by
  obtain ⟨h1, h2⟩ := hb hk
  exact ⟨h1.trans hn.symm, st, h2, a0T hT.lt he hI⟩
theorem fO {st : St} {i : Nat} {x : Option Obj} (hlt : i < st.g.length) (j : Nat) : (st.put i x).ob j = if j = i then x else st.ob j := by
 simp only [St.ob, St.put, i7]
 by_cases hj : j = i
 ·rw [if_pos ⟨hj, hlt⟩, if_pos hj]
 ·rw [if_neg (fun h => hj h.1), if_neg hj]
theorem AE {Xf : bM} {τf : eV} {E3 : Env} {kid i : Nat} {st : St} {x : Option Obj} (hi : i < s.g.length) (hob : (s.ob i).isSome = true) (hX : (i, none) ∈ Xf) (hkey : ∀ k q, (k, q) ∈ τf → kid ≤ k → q = [i] ∨ kid + 1 ≤ k) (hI : RI E s Xf τf E3 kid st)
  (hb : ∀ cs, x ≠ some ⟨true, cs⟩) (hlab : x.isSome = true → E.o (E.ρ i).1 = some [i] → E3.o (E.ρ i).1 = some [i])
  (hrow : ∀ cs, x = some ⟨false, cs⟩ → cs = [] ∨ ∃ c e, E3.w.heap[(E.ρ i).1]? = some (.cells c e (0, 0)) ∧ E3.o (E.ρ i).1 = some [i] ∧ Rrow E3.bare (.at [i]) (E.ρ i).1 (E.ρ i).2 0 cs) : RI E s Xf τf E3 (kid + 1) (st.put i x) := by
 have hlt : i < st.g.length := by rw [hI.len]; exact hi
 have hpd : ∀ l, l ≠ i → ∀ r, ¬ Pd τf (kid + 1) (l :: r) → ¬ Pd τf kid (l :: r) := by
  rintro l hl r hn ⟨k, h1, h2⟩
  rcases hkey k _ h2 h1 with h3 | h3
  ·simp at h3; exact hl h3.1
  ·exact hn ⟨k, h3, h2⟩
 refine ⟨hI.t, hI.N, by rw [jM]; exact hI.len, fun l cs h => ?_, fun l h => ?_, fun l j h => ?_, fun l h hn ho => ?_, fun l cs h hn => ?_, hI.sub⟩
 ·rw [fO hlt] at h
  by_cases hl : l = i
  ·rw [if_pos hl] at h; exact absurd h (hb cs)
  ·rw [if_neg hl] at h; exact hI.box l cs h
 ·rw [fO hlt] at h
  by_cases hl : l = i
  ·rw [hl]; exact hob
  ·rw [if_neg hl] at h; exact hI.live l h
 ·by_cases hl : l = i
  ·right; rw [hl]; exact hX
  ·obtain ⟨cs, sz, n, r, hg, hj⟩ := h
   rw [fO hlt, if_neg hl] at hg
   exact hI.tr l j ⟨cs, sz, n, r, hg, hj⟩
 ·rw [fO hlt] at h
  by_cases hl : l = i
  ·subst hl
   rw [if_pos rfl] at h
   exact hlab h ho
  ·rw [if_neg hl] at h
   exact hI.lab l h (hpd l hl [] hn) ho
 ·rw [fO hlt] at h
  by_cases hl : l = i
  ·subst hl
   rw [if_pos rfl] at h
   rcases hrow cs h with h0 | ⟨c, e, h1, h2, h3⟩
   ·exact .inl h0
   ·refine .inr ⟨c, e, h1, h2, fun k v hk => ?_⟩
    obtain ⟨u, hu, hr⟩ := bR h3 k v hk
    exact ⟨u, hu, fun _ => by rw [Nat.zero_add] at hr; exact hr⟩
  ·rw [if_neg hl] at h
   rcases hI.row l cs h (hpd l hl [] hn) with h0 | ⟨c, e, h1, h2, h3⟩
   ·exact .inl h0
   ·refine .inr ⟨c, e, h1, h2, fun k v hk => ?_⟩
    obtain ⟨u, hu, hr⟩ := h3 k v hk
    exact ⟨u, hu, fun hn' => hr (hpd l hl [k] hn')⟩
theorem AO {X : bM} {τ : eV} {kid i : Nat} {cs : List V} (hT : Tgt s X τ kid) (hob : s.ob i = some ⟨false, cs⟩) (hno : tK X i = true) (act : Bool) : Tgt s ((i, none) :: X) (if act then (kid, [i]) :: τ else τ) (kid + 1) := by
 have hm := rA hno
 have hne : ∀ k q, (k, q) ∈ τ → ∀ r, q ≠ i :: r := by
  intro k q h r he
  rcases hT.at_ k q h with ⟨i', rfl, hx⟩ | ⟨i', j', rfl, hx⟩
  ·simp at he; obtain ⟨rfl, _⟩ := he; exact hm _ hx
  ·simp at he; obtain ⟨rfl, _⟩ := he; exact hm _ hx
 have hne' : ∀ k q, (k, q) ∈ τ → q ≠ [] := by
  intro k q h he
  rcases hT.at_ k q h with ⟨i', rfl, hx⟩ | ⟨i', j', rfl, hx⟩ <;> simp at he
 refine ⟨?_, ?_, ?_, ?_, ?_⟩
 ·cases act with
  | false => exact hT.inc
  | true =>
   refine ⟨fun k q k' q' h h' hp => ?_, fun k q q' h h' => ?_⟩
   ·simp only [if_true, List.mem_cons, Prod.mk.injEq] at h h'
    rcases h with ⟨rfl, rfl⟩ | h <;> rcases h' with ⟨rfl, rfl⟩ | h'
    ·exact ⟨rfl, rfl⟩
    ·obtain ⟨t, ht⟩ := hp
     exact absurd ht.symm (hne _ _ h' t)
    ·obtain ⟨t, ht⟩ := hp
     cases q with
     | nil => exact absurd rfl (hne' _ _ h)
     | cons z q =>
      simp at ht
      exact absurd (by rw [ht.1]) (hne _ _ h q)
    ·exact hT.inc.inc _ _ _ _ h h' hp
   ·simp only [if_true, List.mem_cons, Prod.mk.injEq] at h h'
    rcases h with ⟨rfl, rfl⟩ | h <;> rcases h' with ⟨hk, rfl⟩ | h'
    ·rfl
    ·exact absurd (hT.lt _ _ h') (Nat.lt_irrefl _)
    ·subst hk; exact absurd (hT.lt _ _ h) (Nat.lt_irrefl _)
    ·exact hT.inc.fn _ _ _ h h'
 ·intro k q h
  cases act with
  | false => exact Nat.lt_succ_of_lt (hT.lt k q h)
  | true =>
   simp only [if_true, List.mem_cons, Prod.mk.injEq] at h
   rcases h with ⟨rfl, _⟩ | h
   ·exact Nat.lt_succ_self _
   ·exact Nat.lt_succ_of_lt (hT.lt k q h)
 ·intro k q h
  have old : (k, q) ∈ τ → (∃ i', q = [i'] ∧ (i', none) ∈ (i, none) :: X) ∨ (∃ i' j, q = [i', j] ∧ (i', some j) ∈ (i, none) :: X) := by
   intro h
   rcases hT.at_ k q h with ⟨i', rfl, hx⟩ | ⟨i', j', rfl, hx⟩
   ·exact .inl ⟨i', rfl, by simp [hx]⟩
   ·exact .inr ⟨i', j', rfl, by simp [hx]⟩
  cases act with
  | false => exact old h
  | true =>
   simp only [if_true, List.mem_cons, Prod.mk.injEq] at h
   rcases h with ⟨_, rfl⟩ | h
   ·exact .inl ⟨i, rfl, by simp⟩
   ·exact old h
 ·intro l h
  simp only [List.mem_cons, Prod.mk.injEq, and_true] at h
  rcases h with rfl | h
  ·exact ⟨cs, hob⟩
  ·exact hT.row l h
 ·intro l j h h'
  simp only [List.mem_cons, Prod.mk.injEq, reduceCtorEq, and_false, false_or, and_true] at h h'
  rcases h' with rfl | h'
  ·exact hm _ h
  ·exact hT.ex l j h h'
theorem P9 {X : bM} {τ : eV} {kid i j : Nat} (hT : Tgt s X τ kid) (hno : gG X i = true) (hap : wY X i j) (act : Bool) : Tgt s ((i, some j) :: X) (if act then (kid, [i, j]) :: τ else τ) (kid + 1) := by
 have hm := BN hno
 have hm2 := TZ hap
 have hne : ∀ k q, (k, q) ∈ τ → ¬ [i, j] <+: q ∧ ¬ q <+: [i, j] := by
  intro k q h
  rcases hT.at_ k q h with ⟨i', rfl, hx⟩ | ⟨i', j', rfl, hx⟩
  ·refine ⟨fun ⟨t, ht⟩ => by simp at ht, fun ⟨t, ht⟩ => ?_⟩
   simp at ht
   rw [ht.1] at hx
   exact hm hx
  ·refine ⟨fun ⟨t, ht⟩ => ?_, fun ⟨t, ht⟩ => ?_⟩
   ·simp at ht
    rw [← ht.1, ← ht.2.1] at hx
    exact hm2 hx
   ·simp at ht
    rw [ht.1, ht.2.1] at hx
    exact hm2 hx
 refine ⟨?_, ?_, ?_, ?_, ?_⟩
 ·cases act with
  | false => exact hT.inc
  | true =>
   refine ⟨fun k q k' q' h h' hp => ?_, fun k q q' h h' => ?_⟩
   ·simp only [if_true, List.mem_cons, Prod.mk.injEq] at h h'
    rcases h with ⟨rfl, rfl⟩ | h <;> rcases h' with ⟨rfl, rfl⟩ | h'
    ·exact ⟨rfl, rfl⟩
    ·exact absurd hp (hne _ _ h').1
    ·exact absurd hp (hne _ _ h).2
    ·exact hT.inc.inc _ _ _ _ h h' hp
   ·simp only [if_true, List.mem_cons, Prod.mk.injEq] at h h'
    rcases h with ⟨rfl, rfl⟩ | h <;> rcases h' with ⟨hk, rfl⟩ | h'
    ·rfl
    ·exact absurd (hT.lt _ _ h') (Nat.lt_irrefl _)
    ·subst hk; exact absurd (hT.lt _ _ h) (Nat.lt_irrefl _)
    ·exact hT.inc.fn _ _ _ h h'
 ·intro k q h
  cases act with
  | false => exact Nat.lt_succ_of_lt (hT.lt k q h)
  | true =>
   simp only [if_true, List.mem_cons, Prod.mk.injEq] at h
   rcases h with ⟨rfl, _⟩ | h
   ·exact Nat.lt_succ_self _
   ·exact Nat.lt_succ_of_lt (hT.lt k q h)
 ·intro k q h
  have old : (k, q) ∈ τ → (∃ i', q = [i'] ∧ (i', none) ∈ (i, some j) :: X) ∨ (∃ i' j', q = [i', j'] ∧ (i', some j') ∈ (i, some j) :: X) := by
   intro h
   rcases hT.at_ k q h with ⟨i', rfl, hx⟩ | ⟨i', j', rfl, hx⟩
   ·exact .inl ⟨i', rfl, by simp [hx]⟩
   ·exact .inr ⟨i', j', rfl, by simp [hx]⟩
  cases act with
  | false => exact old h
  | true =>
   simp only [if_true, List.mem_cons, Prod.mk.injEq] at h
   rcases h with ⟨_, rfl⟩ | h
   ·exact .inr ⟨i, j, rfl, by simp⟩
   ·exact old h
 ·intro l h
  simp only [List.mem_cons, Prod.mk.injEq, reduceCtorEq, and_false, false_or] at h
  exact hT.row l h
 ·intro l l' h h'
  simp only [List.mem_cons, Prod.mk.injEq, reduceCtorEq, and_false, false_or, Option.some.injEq] at h h'
  rcases h with ⟨rfl, _⟩ | h
  ·exact hm h'
  ·exact hT.ex l l' h h'
end
end Go.Proofs.YtboolngaahifdaaGreatD
