/- Contracts and plain laws of this seat; no condition. -/
import Derived.Test.YtboolngaahifdaaGreatQ7
import Derived.Deep.Slices
import Derived.ChangeArms
import Derived.ChangeSame
set_option linter.unusedVariables false
set_option linter.unusedSimpArgs false
namespace Go.Proofs.YtboolngaahifdaaGreatD
open Go Go.RowKit
section
variable {P : Program} {ex : Exs} {Γ : Tab} {C : Ctx} {E : Env} {s : St} {a : Act}
theorem a1X {E : Env} {k sz n : Nat} {cs : List V} {x : Value} (h : Rv E (.at [k]) (.tr sz n cs) x) : Rv E (.top k) (.tr sz n cs) x := h
theorem MZ {E : Env} {k : Nat} {v : V} {x : Value} (hf : fT v = true) (h : Rv E .none v x) : Rv E.bare (.top k) v x := k8 hf h
theorem RD {E E1 E2 : Env} (h1 : Mono E E1) (h2 : Mono E1 E2) (hw1 : E1.w = E.w) (hw2 : E2.w = E1.w) (hρ : ∀ i, E1.ρ i = E.ρ i) : Mono E E2 := by
 refine ⟨Nat.le_trans h1.sz h2.sz, fun b hb hok => ?_, Nat.le_trans h1.n h2.n, fun i hi hl => ?_, fun i j hi ht => ?_⟩
 ·obtain ⟨a1, a2⟩ := h1.free b hb hok
  obtain ⟨b1, b2⟩ := h2.free b (Nat.lt_of_lt_of_le hb h1.sz) a1
  exact ⟨b1, b2.trans a2⟩
 ·obtain ⟨a1, a2, a3, a4⟩ := h2.ref i (Nat.lt_of_lt_of_le hi h1.n) hl
  obtain ⟨b1, b2, b3, b4⟩ := h1.ref i hi a1
  rw [b2] at a2 a3 a4
  exact ⟨b1, a2, fun ho => a3 (b3 ho), fun c e hc => by obtain ⟨c', h1', h2'⟩ := b4 c e hc; obtain ⟨c'', h3', h4'⟩ := a4 c' e h1'; exact ⟨c'', h3', h4'.trans h2'⟩⟩
 ·obtain ⟨a1, a2⟩ := h2.sub i j (Nat.lt_of_lt_of_le hi h1.n) ht
  obtain ⟨b1, b2⟩ := h1.sub i j hi a1
  exact ⟨b1, by rw [hw2, hw1]⟩
mutual
theorem a2M : ∀ {v : V} {x : Value} {E : Env} {s : St} {K : V → St → Prop} {M kid : Nat}, Rel C E s a → s.g.length ≤ M → M ≤ kid → a0J s v K → Rv E .none v x →
  ∃ E' u s', K u s' ∧ Rel C E' s' a ∧ E'.w = E.w ∧ E'.ρ = E.ρ ∧ Mono E E' ∧ s'.g.length = s.g.length ∧ (∀ k q, M ≤ k → Kept E E' (k :: q)) ∧ Rv E'.bare (.top kid) u x
 | .sc v, x, E, s, K, M, kid, hR, hM, hk, h, hv => by
  rcases lI h with h1 | ⟨rfl, sz, h1⟩
  ·exact ⟨E, _, s, h1, hR, rfl, rfl, eO E, rfl, fun k q _ => lH E _, MZ rfl hv⟩
  ·exact ⟨E, _, s, h1, hR, rfl, rfl, eO E, rfl, fun k q _ => lH E _, by rw [hv.1]; exact RC sz⟩
 | .ro n cs, x, E, s, K, M, kid, hR, hM, hk, h, hv => ⟨E, _, s, h, hR, rfl, rfl, eO E, rfl, fun k q _ => lH E _, MZ rfl hv⟩
 | .own i sz 0 n lo hi, x, E, s, K, M, kid, hR, hM, hk, h, hv => by
  simp only [a0J] at h
  cases hob : s.ob i with
  | none => rw [hob] at h; exact h.elim
  | some ob =>
  obtain ⟨bx, cs⟩ := ob
  cases bx with
  | true => rw [hob] at h; exact h.elim
  | false =>
  rw [hob] at h
  obtain ⟨hl, hK⟩ := h
  have hlt := eK (g := s.g) hob
  exact ⟨E.mv i [kid], _, _, hK, FF hR hob _, rfl, rfl, oV hR _ _, jM _ _ _, fun k q hq => uT (by omega), a1X (J6 hR hob hl hv _)⟩
 | .own i sz (_ + 1) n lo hi, x, E, s, K, M, kid, hR, hM, hk, h, hv => h.elim
 | .agg cs, x, E, s, K, M, kid, hR, hM, hk, h, hv => by
  obtain ⟨xs, rfl, hr⟩ := hv
  obtain ⟨E', us, s', h1, h2, h3, h4, h5, h6, h7, h8⟩ := y7 hR hM hk h hr
  exact ⟨E', _, s', h1, h2, h3, h4, h5, h6, h7, xs, rfl, h8⟩
 | .tr _ _ _, x, E, s, K, M, kid, hR, hM, hk, h, hv => h.elim
 | .sub _ _, x, E, s, K, M, kid, hR, hM, hk, h, hv => h.elim
 | .ptr i 0, x, E, s, K, M, kid, hR, hM, hk, h, hv => by
  simp only [a0J] at h
  cases hob : s.ob i with
  | none => rw [hob] at h; exact h.elim
  | some ob =>
  obtain ⟨bx, cs⟩ := ob
  cases bx with
  | false =>
   cases cs with
   | nil => rw [hob] at h; exact h.elim
   | cons c cs =>
   rw [hob] at h
   have hK : K (.bp (c :: cs)) (s.put i none) := h
   have hlt := eK (g := s.g) hob
   obtain ⟨_, ad, rfl, hlv⟩ := hv
   have had := hlv (dA hR hob)
   subst had
   rcases hR.ob i _ hob with h0 | ⟨c', e', hh, ho, hrow⟩
   ·cases h0
   ·have hm := oV hR i [kid]
    refine ⟨E.mv i [kid], _, _, hK, FF hR hob _, rfl, rfl, hm, jM _ _ _, fun k q hq => uT (by omega), (E.ρ i).1, (E.ρ i).2, [kid], c', e', ?_, rfl, ?_, hh, by simp, ?_⟩
    ·rw [Nat.add_zero]
    ·have := (o5 (E := E) i [kid] (E.ρ i).1 [] (by simpa using ho)).1
     show (E.mv i [kid]).o (E.ρ i).1 = some [kid]
     simpa using this
    ·exact Rrow.move hm.bare (o5 i [kid]) rfl hrow
  | true =>
  cases cs with
  | nil => rw [hob] at h; exact h.elim
  | cons c cs =>
  rw [hob] at h
  obtain ⟨hf0, hf, hK⟩ := h
  have hlt := eK (g := s.g) hob
  obtain ⟨_, ad, rfl, hlv⟩ := hv
  have had := hlv (dA hR hob)
  subst had
  obtain ⟨c', e', hh, h0, ho, hrow⟩ := lT (hR.ob i _ hob) (DY (by simp [hf0, hf]))
  have hm := oV hR i [kid]
  refine ⟨E.mv i [kid], _, _, hK, FF hR hob _, rfl, rfl, hm, jM _ _ _, fun k q hq => uT (by omega), (E.ρ i).1, (E.ρ i).2, [kid], c', e', rfl, rfl, ?_, hh, by simp, ?_⟩
  ·have := (o5 (E := E) i [kid] (E.ρ i).1 [] (by simpa using ho)).1
   show (E.mv i [kid]).o (E.ρ i).1 = some [kid]
   simpa using this
  ·refine cD fun k v hk => ?_
   obtain ⟨u, hu, hr⟩ := bR hrow k v hk
   refine ⟨u, by rw [h0]; exact hu, ?_⟩
   show Rv (E.mv i [kid]).bare _ v u
   have hcf : (c :: cs).all fT = true := by simp [hf0, hf]
   exact k8 (m := .none) (List.all_eq_true.1 hcf v (List.mem_of_getElem? hk)) (hr.slot hm)
 | .ptr _ (_ + 1), x, E, s, K, M, kid, hR, hM, hk, h, hv => h.elim
 | .bp _, x, E, s, K, M, kid, hR, hM, hk, h, hv => h.elim
 | .sp _ _ _, x, E, s, K, M, kid, hR, hM, hk, h, hv => h.elim
 | .mref _, x, E, s, K, M, kid, hR, hM, hk, h, hv => h.elim
 | .rp _, x, E, s, K, M, kid, hR, hM, hk, h, hv => h.elim
 | .tup _, x, E, s, K, M, kid, hR, hM, hk, h, hv => h.elim
 | .fn _ _, x, E, s, K, M, kid, hR, hM, hk, h, hv => h.elim
 | .any, x, E, s, K, M, kid, hR, hM, hk, h, hv => h.elim
theorem y7 : ∀ {vs : List V} {xs : List Value} {E : Env} {s : St} {K : List V → St → Prop} {M kid : Nat}, Rel C E s a → s.g.length ≤ M → M ≤ kid → IM s vs K → Rvs E .none vs xs →
  ∃ E' us s', K us s' ∧ Rel C E' s' a ∧ E'.w = E.w ∧ E'.ρ = E.ρ ∧ Mono E E' ∧ s'.g.length = s.g.length ∧ (∀ k q, M ≤ k → Kept E E' (k :: q)) ∧ Rvs E'.bare (.top kid) us xs
 | [], [], E, s, K, M, kid, hR, hM, hk, h, hv => ⟨E, [], s, h, hR, rfl, rfl, eO E, rfl, fun k q _ => lH E _, trivial⟩
 | v :: vs, x :: xs, E, s, K, M, kid, hR, hM, hk, h, hv => by
  obtain ⟨E1, u, s1, h1, h2, h3, h4, h5, h6, h7, h8⟩ := a2M (kid := kid) hR hM hk h hv.1
  obtain ⟨E2, us, s2, g1, g2, g3, g4, g5, g6, g7, g8⟩ := y7 (kid := kid + nl u) h2 (by rw [h6]; exact hM) (by omega) h1 (Rvs.mono h5 (eM _ _) (i6 _ _) hv.2)
  refine ⟨E2, u :: us, s2, g1, g2, g3.trans h3, g4.trans h4, RD h5 g5 h3 g3 (fun i => by rw [h4]), g6.trans h6, fun k q hq b r hb => ?_, ?_, g8⟩
  ·obtain ⟨a1, a2⟩ := h7 k q hq b r hb
   obtain ⟨b1, b2⟩ := g7 k q hq b r a1
   exact ⟨b1, b2.trans a2⟩
  ·exact Rv.mono g5.bare (fun q hq => by cases hq) (fun k j hq hj => by cases hq; exact g7 j [] (by omega)) h8
 | [], _ :: _, E, s, K, M, kid, hR, hM, hk, h, hv => hv.elim
 | _ :: _, [], E, s, K, M, kid, hR, hM, hk, h, hv => hv.elim
end
def OR (tmps : Array Value) : ResultVar → Sem Value
 | .tmp t => pure (tmps.getD t undef)
 | .cell a t => do loadVar t (← asAddr (tmps.getD a undef))
theorem FJ (hΓ : fD P Γ) (hR : Rel C E s a) : ∀ {l : List ResultVar} {K : List V → Prop}, QW Γ s l K → ∃ vs xs, K vs ∧ Rvs E .none vs xs ∧ (l.mapM (OR a.tmps)).run P E.w = .ok xs E.w
 | [], K, h => ⟨[], [], h, trivial, by simp⟩
 | .tmp t :: r, K, h => by
  obtain ⟨vs, xs, h1, h2, h3⟩ := FJ hΓ hR (l := r) h
  refine ⟨_, a.tmps.getD t undef :: xs, h1, ⟨hR.slot t, h2⟩, ?_⟩
  simp only [List.mapM_cons, OR, Sem.run_bind, Sem.run_pure, Result.andThen_ok, h3]
 | .cell x t :: r, K, h => by
  simp only [QW] at h
  split at h
  ·rename_i i off ti hx ht
   split at h
   ·rename_i cs hob
    obtain ⟨hnm, h⟩ := GO h
    split at h
    ·rename_i c hc
     obtain ⟨vs, xs, h1, h2, h3⟩ := FJ hΓ hR (l := r) h
     have hs := hR.slot x
     rw [hx] at hs
     obtain ⟨_, ad, hv, hl⟩ := hs
     have hT := hΓ _ _ ht
     obtain ⟨c', e, hh, h0, hlab, hrow⟩ := lT (hR.ob i _ hob) hnm
     obtain ⟨hle, hreq, hlen⟩ := e8 hc
     have hrow' : Rrow E .none (E.ρ i).1 (0 + off) 0 c := by rw [hreq]; exact pO (jY hrow)
     rw [Nat.zero_add] at hrow'
     obtain ⟨z, hz, hrz⟩ := mA (P := P) hT hrow' hlen (fun hf => by rw [hlen]; exact hT.one1 hf)
     refine ⟨_, z :: xs, h1, ⟨hrz, h2⟩, ?_⟩
     have had := hl (dA hR hob)
     rw [h0, Nat.zero_add] at had
     simp only [List.mapM_cons, OR, Sem.run_bind, Sem.run_pure, Result.andThen_ok, hv, had, asAddr, hz, h3]
    ·exact h.elim
   ·exact h.elim
  ·exact h.elim
theorem tP {fn : Func} {w : World} {xs : List Value} (h : (fn.results.toList.mapM (OR a.tmps)).run P w = .ok xs w) : (results fn a.tmps).run P w = .ok (match xs with | [x] => x | xs => .tuple xs.toArray) w := by
 have he : (results fn a.tmps) = (do let vs ← fn.results.mapM (OR a.tmps); pure (if h : vs.size = 1 then vs[0] else .tuple vs)) := by
  unfold results
  rfl
 rw [he, Array.mapM_eq_mapM_toList]
 simp only [Sem.run_bind, Sem.run_map, h, Result.andThen_ok, Sem.run_pure]
 match xs with
 | [] => simp
 | [x] => simp
 | x :: y :: r => simp
theorem CL : ∀ (vs : List V) (j k : Nat), lk (x3 j vs) k = if j ≤ k then (vs[k - j]?).getD .any else .any
 | [], j, k => by simp [x3, lk]
 | v :: vs, j, k => by
  simp only [x3, lk]
  cases h : Nat.beq j k with
  | true =>
   have := Nat.eq_of_beq_eq_true h
   subst this
   simp
  | false =>
   have hne : j ≠ k := fun he => by rw [he] at h; simp at h
   simp only [cond_false]
   rw [CL vs (j + 1) k]
   by_cases hjk : j ≤ k
   ·rw [if_pos (by omega), if_pos hjk, show k - j = (k - (j + 1)) + 1 from by omega, List.getElem?_cons_succ]
   ·rw [if_neg (by omega), if_neg hjk]
theorem M7 (hmx : P.follows .mixedOrders = true) (hΓ : fD P Γ) {f : FuncId} {fn : Func} {args : List V} {r : V} (hf : P.funcs[f]? = some fn) (hn : (fn.name == "runtime.NumGoroutine") = false) (h : a1Q Γ (bU P ex) fn args r) : bI P f args r := by
 unfold a1Q at h
 cases hb : fn.body with
 | none => rw [hb] at h; exact h.elim
 | some c =>
 rw [hb] at h
 obtain ⟨hle, h⟩ := dK h
 rw [KS, CK] at h
 have hle := Nat.le_of_ble_eq_true hle
 refine ⟨⟨fn, c, hf, hn, hb⟩, fun w o0 xs hD hv => calls_of_wp hf hb ?_⟩
 have hlen := gF hv
 let C : Ctx := ⟨w, fun _ => False, o0, fun b p _ hp => (hD b p hp).1, 0, fun _ => (0, 0), fun _ => False⟩
 have hR : Rel C (aZ w o0) (YT fn args) { tmps := xs.toArray ++ Array.replicate (fn.ntmps - xs.toArray.size) undef, defers := [] } := by
  refine ⟨?_, rfl, fun k => ?_, ?_, rfl, fun i ob hi => (by cases hi), rfl, fun b p hp => ⟨(hD b p hp).2, .inl (hD b p hp).1⟩, ⟨rfl, rfl, rfl, Nat.le_refl _, fun _ _ _ => rfl, fun b c e h => ⟨c, h, rfl⟩, Nat.le_refl _⟩, fun _ _ _ => rfl, Nat.zero_le _, fun k hk => absurd hk (Nat.not_lt_zero _)⟩
  ·simp [YT, ← hlen]
   omega
  ·show Rv _ .none (lk (x3 0 args) k) _
   rw [CL]
   simp only [Nat.zero_le, if_true, Nat.sub_zero]
   cases hk : args[k]? with
   | none => trivial
   | some v =>
    obtain ⟨x, hx, hr⟩ := gE hv k v hk
    have hlt : k < xs.length := (List.getElem?_eq_some_iff.1 hx).1
    have : (xs.toArray ++ Array.replicate (fn.ntmps - xs.toArray.size) undef).getD k undef = x := by
     rw [Array.getD_eq_getD_getElem?, Array.getElem?_append_left (by simpa using hlt)]
     simp [hx]
    simp only [Option.getD_some]
    rw [this]
    exact hr
  ·funext i; rfl
 refine vX hmx hΓ (Nat.zero_le _) c hR h fun e s' E' a' he hR' => ?_
 have key : a1E Γ fn r s' → a'.defers = [] ∧ ∃ v, (results fn a'.tmps).run P E'.w = .ok v E'.w ∧ (BelowD w E'.w ∧ ∃ o' : Lab, (∀ b, b < w.heap.size → o' b = o0 b) ∧ (∀ b p, o' b = some p → b < E'.w.heap.size) ∧ ∃ k0, Rv (aZ E'.w o') (.top k0) r v) := by
  intro hret
  refine ⟨hR'.nd, ?_⟩
  obtain ⟨vs, ys, h1, h2, h3⟩ := FJ hΓ hR' hret
  obtain ⟨E2, us, s2, g1, g2, g3, g4, g5, g6, g7, g8⟩ := y7 (M := s'.g.length) (kid := s'.g.length) hR' (Nat.le_refl _) (Nat.le_refl _) h1 h2
  refine ⟨_, tP h3, ⟨hR'.fr.os, hR'.fr.tape, hR'.fr.output, hR'.fr.size, fun k hk => hR'.fr.block k hk id, hR'.fr.drawn⟩, E2.o, fun b hb => g2.old b hb id, fun b p hp => by rw [← g3]; exact (g2.lab b p hp).1, s'.g.length, ?_⟩
  have hbase : Rvs (aZ E'.w E2.o) (.top s'.g.length) us ys := by
   have hm : Mono E2.bare (aZ E'.w E2.o) := ⟨by show E2.w.heap.size ≤ E'.w.heap.size; rw [g3]; exact Nat.le_refl _, fun b _ hok => ⟨by have h' : E2.okb b := hok; rw [g2.okb] at h'; exact h', by show E'.w.heap[b]? = E2.w.heap[b]?; rw [g3]⟩, Nat.le_refl _, fun _ h _ => absurd h (Nat.not_lt_zero _), fun _ _ h _ => absurd h (Nat.not_lt_zero _)⟩
   have hkp : ∀ q, Kept E2.bare (aZ E'.w E2.o) q := fun q b r h => ⟨h, by show E'.w.heap[b]? = E2.w.heap[b]?; rw [g3]⟩
   exact Rvs.mono hm (fun q _ => hkp q) (fun k j _ _ => hkp _) g8
  subst g1
  match us, ys, hbase with
  | [], [], hb => exact ⟨[], rfl, trivial⟩
  | [u], [y], hb => exact hb.1
  | u :: u' :: us, y :: y' :: ys, hb => exact ⟨y :: y' :: ys, rfl, hb⟩
  | [_], [], hb => exact hb.elim
  | [_], _ :: _ :: _, hb => exact hb.2.elim
  | [], _ :: _, hb => exact hb.elim
  | _ :: _ :: _, [], hb => exact hb.elim
  | _ :: _ :: _, [_], hb => exact hb.2.elim
 cases e with
 | normal => exact key he
 | ret => exact key he
 | exit id => exact he.elim
mutual
theorem N9 : ∀ v : V, (pG v).length = nl v
 | .tr _ _ _ => rfl
 | .bp _ => rfl
 | .agg cs => uK cs
 | .tup cs => uK cs
 | .fn _ cs => uK cs
 | .sc _ => rfl
 | .ro _ _ => rfl
 | .own _ _ _ _ _ _ => rfl
 | .sub _ _ => rfl
 | .ptr _ _ => rfl
 | .rp _ => rfl
 | .sp _ _ _ => rfl
 | .mref _ => rfl
 | .any => rfl
theorem uK : ∀ vs : List V, (k9 vs).length = nls vs
 | [] => rfl
 | v :: vs => by simp only [k9, nls, List.length_append, N9 v, uK vs]
end
theorem KU : ∀ {pre : List (Option Obj)} {k : Nat} {x : Option Obj} {post : List (Option Obj)}, pre.length = k → aX (pre ++ x :: post) k = x
 | [], k, x, post, h => by subst h; rfl
 | p :: pre, k, x, post, h => by
  subst h
  exact KU (pre := pre) rfl
structure Fin2 (C : Ctx) (E1 E2 : Env) (s1 s2 : St) (o0 : Lab) : Prop where
 g1 : E1.g = s1.ob
 w1 : E1.w = C.w0
 o1 : E1.o = o0
 pp : C.pp = E1.ρ
 oo : C.o0 = o0
 pl : ∀ k, o0 (E1.ρ k).1 = some [k] → C.pl k
 mono : Mono (aZ C.w0 o0) (aZ E2.w E2.o)
mutual
theorem a23 {E2 : Env} {s1 s2 : St} {o0 : Lab} {a2 : Act} (hF : Fin2 C E E2 s1 s2 o0) (hR : Rel C E2 s2 a2) : ∀ {v : V} {x : Value} {k : Nat} {K : V → Prop} {pre post : List (Option Obj)}, s1.g = pre ++ (pG v ++ post) → pre.length = k → k + nl v ≤ C.np → Rv E .none (C3 k v) x → Rv (aZ C.w0 o0) (.top k) v x → ZS s2 k v K → ∃ u, K u ∧ nl u = nl v ∧ Rv (aZ E2.w E2.o) (.top k) u x
 | .tr sz n cs, x, k, K, pre, post, hg, hpre, hnp, hi, hv, h => by
  have hk : k < C.np := by simp only [nl] at hnp; omega
  have hal : (E.g k).isSome = true := by rw [hF.g1]; show (aX s1.g k).isSome = true; rw [hg]; simp only [pG, List.cons_append, List.nil_append]; rw [KU hpre]; rfl
  obtain ⟨_, A, cap, rfl, hnc, hlv⟩ := hi
  obtain ⟨hc, _, _, hbl⟩ := hlv hal
  simp only [ZS] at h
  cases hob : s2.ob k with
  | none => rw [hob] at h; exact ⟨_, h, rfl, trivial⟩
  | some ob =>
  obtain ⟨bx, cs'⟩ := ob
  rw [hob] at h
  cases bx with
  | true => exact h.elim
  | false =>
  obtain ⟨hl, hK⟩ := h
  refine ⟨_, hK, rfl, A, cap, rfl, hc, hl, ?_⟩
  rcases hbl with h0 | ⟨c, e, hA, ho, hh, hs⟩
  ·exact .inl h0
  ·right
   obtain ⟨g1, g2⟩ := hR.pin.2 k hk (dA hR hob)
   have hpp : C.pp k = E.ρ k := by rw [hF.pp]
   rw [hpp] at g1 g2
   have hlab : E2.o (E.ρ k).1 = some [k] := g2 (hF.pl k (by rw [← hF.o1]; exact ho))
   obtain ⟨c', hc', hsz⟩ := hR.fr.shape _ c e (by rw [← hF.w1]; exact hh)
   refine ⟨(E.ρ k).1, (E.ρ k).2, [k], c', e, by rw [hA, Nat.add_zero], rfl, hlab, hc', by rw [hsz]; omega, ?_⟩
   rcases hR.ob k _ hob with h0 | ⟨c2, e2, _, _, hrow⟩
   ·rw [h0]; trivial
   ·rw [g1] at hrow
    have hm : Mono E2.bare (aZ E2.w E2.o) := ⟨Nat.le_refl _, fun b _ hok => ⟨by have h' : E2.okb b := hok; rw [hR.okb] at h'; exact h', rfl⟩, Nat.le_refl _, fun _ h _ => absurd h (Nat.not_lt_zero _), fun _ _ h _ => absurd h (Nat.not_lt_zero _)⟩
    exact Rrow.mono (E' := aZ E2.w E2.o) hm (fun q _ b r h => ⟨h, rfl⟩) rfl hrow
 | .bp cs, x, k, K, pre, post, hg, hpre, hnp, hi, hv, h => by
  have hk : k < C.np := by simp only [nl] at hnp; omega
  have hal : (E.g k).isSome = true := by rw [hF.g1]; show (aX s1.g k).isSome = true; rw [hg]; simp only [pG, List.cons_append, List.nil_append]; rw [KU hpre]; rfl
  obtain ⟨_, ad, rfl, hlv⟩ := hi
  have had := hlv hal
  subst had
  simp only [ZS] at h
  cases hob : s2.ob k with
  | none => rw [hob] at h; exact ⟨_, h, rfl, trivial⟩
  | some ob =>
  obtain ⟨bx, cs'⟩ := ob
  rw [hob] at h
  cases bx with
  | true => exact h.elim
  | false =>
  obtain ⟨hne, hK⟩ := h
  obtain ⟨g1, g2⟩ := hR.pin.2 k hk (dA hR hob)
  have hpp : C.pp k = E.ρ k := by rw [hF.pp]
  rw [hpp] at g1
  rcases hR.ob k _ hob with h0 | ⟨c2, e2, hh, hl, hrow⟩
  ·exact absurd h0 hne
  ·rw [g1] at hrow hh hl
   have hm : Mono E2.bare (aZ E2.w E2.o) := ⟨Nat.le_refl _, fun b _ hok => ⟨by have h' : E2.okb b := hok; rw [hR.okb] at h'; exact h', rfl⟩, Nat.le_refl _, fun _ h _ => absurd h (Nat.not_lt_zero _), fun _ _ h _ => absurd h (Nat.not_lt_zero _)⟩
   exact ⟨_, hK, rfl, (E.ρ k).1, (E.ρ k).2, [k], c2, e2, rfl, rfl, hl, hh, hne, Rrow.mono (E' := aZ E2.w E2.o) hm (fun q _ b r h => ⟨h, rfl⟩) rfl hrow⟩
 | .sc v, x, k, K, pre, post, hg, hpre, hnp, hi, hv, h => ⟨_, h, rfl, hv⟩
 | .ro n cs, x, k, K, pre, post, hg, hpre, hnp, hi, hv, h => by
  refine ⟨_, h, rfl, ?_⟩
  have : Rv (aZ C.w0 o0) .none (.ro n cs) x := hv
  have h2 : Rv (aZ E2.w E2.o) .none (.ro n cs) x := Rv.mono hF.mono (eM _ _) (i6 _ _) this
  exact h2
 | .rp cs, x, k, K, pre, post, hg, hpre, hnp, hi, hv, h => by
  refine ⟨_, h, rfl, ?_⟩
  have : Rv (aZ C.w0 o0) .none (.rp cs) x := hv
  have h2 : Rv (aZ E2.w E2.o) .none (.rp cs) x := Rv.mono hF.mono (eM _ _) (i6 _ _) this
  exact h2
 | .agg cs, x, k, K, pre, post, hg, hpre, hnp, hi, hv, h => by
  obtain ⟨xs, rfl, hr⟩ := hi
  obtain ⟨xs', hx, hr'⟩ := hv
  simp only [Value.agg.injEq] at hx
  have hxx : xs = xs' := by simpa using congrArg Array.toList hx
  subst hxx
  obtain ⟨us, h1, h2, h3⟩ := CQ hF hR hg hpre hnp hr hr' h
  exact ⟨_, h1, h2, xs, rfl, h3⟩
 | .fn f cs, x, k, K, pre, post, hg, hpre, hnp, hi, hv, h => by
  obtain ⟨xs, rfl, hr⟩ := hi
  obtain ⟨xs', hx, hr'⟩ := hv
  simp only [Value.func.injEq] at hx
  have hxx : xs = xs' := by simpa using congrArg Array.toList hx.2.2
  subst hxx
  obtain ⟨us, h1, h2, h3⟩ := CQ hF hR hg hpre hnp hr hr' h
  exact ⟨_, h1, h2, xs, rfl, h3⟩
 | .own _ _ _ _ _ _, x, k, K, pre, post, hg, hpre, hnp, hi, hv, h => h.elim
 | .sub _ _, x, k, K, pre, post, hg, hpre, hnp, hi, hv, h => h.elim
 | .ptr _ _, x, k, K, pre, post, hg, hpre, hnp, hi, hv, h => h.elim
 | .sp _ _ _, x, k, K, pre, post, hg, hpre, hnp, hi, hv, h => h.elim
 | .mref _, x, k, K, pre, post, hg, hpre, hnp, hi, hv, h => h.elim
 | .tup _, x, k, K, pre, post, hg, hpre, hnp, hi, hv, h => h.elim
 | .any, x, k, K, pre, post, hg, hpre, hnp, hi, hv, h => h.elim
theorem CQ {E2 : Env} {s1 s2 : St} {o0 : Lab} {a2 : Act} (hF : Fin2 C E E2 s1 s2 o0) (hR : Rel C E2 s2 a2) : ∀ {vs : List V} {xs : List Value} {k : Nat} {K : List V → Prop} {pre post : List (Option Obj)}, s1.g = pre ++ (k9 vs ++ post) → pre.length = k → k + nls vs ≤ C.np → Rvs E .none (rV k vs) xs → Rvs (aZ C.w0 o0) (.top k) vs xs → MW s2 k vs K → ∃ us, K us ∧ nls us = nls vs ∧ Rvs (aZ E2.w E2.o) (.top k) us xs
 | [], [], k, K, pre, post, hg, hpre, hnp, hi, hv, h => ⟨[], h, rfl, trivial⟩
 | v :: vs, x :: xs, k, K, pre, post, hg, hpre, hnp, hi, hv, h => by
  have hlen : (pG v).length = nl v := N9 v
  simp only [nls] at hnp
  obtain ⟨u, h1, h2, h3⟩ := a23 hF hR (v := v) (pre := pre) (post := k9 vs ++ post) (by rw [hg]; simp [k9]) hpre (by omega) hi.1 hv.1 h
  obtain ⟨us, h4, h5, h6⟩ := CQ hF hR (vs := vs) (pre := pre ++ pG v) (post := post) (k := k + nl v) (by rw [hg]; simp [k9]) (by simp [hpre, hlen]) (by omega) hi.2 hv.2 h1
  exact ⟨u :: us, h4, by simp only [nls, h2, h5], h3, by rw [show Md.next (nl u) (.top k) = .top (k + nl v) from by simp [Md.next, h2]]; exact h6⟩
 | [], _ :: _, k, K, pre, post, hg, hpre, hnp, hi, hv, h => hv.elim
 | _ :: _, [], k, K, pre, post, hg, hpre, hnp, hi, hv, h => hv.elim
end
theorem TX (hmx : P.follows .mixedOrders = true) (hΓ : fD P Γ) {f : FuncId} {fn : Func} {args : List V} {r o1 : V} {os : List V} (np : Nat) (hf : P.funcs[f]? = some fn) (hn : (fn.name == "runtime.NumGoroutine") = false) (hnp : nls args = np) (hn90 : np ≤ 90) (h : VX np Γ (bU P ex) fn args r (o1 :: os)) : rS P f args r (o1 :: os) := by
 unfold VX at h
 cases hb : fn.body with
 | none => rw [hb] at h; exact h.elim
 | some c =>
 rw [hb] at h
 obtain ⟨hle, h⟩ := dK h
 rw [KS, nJ, nI, CK] at h
 have hle := Nat.le_of_ble_eq_true hle
 refine ⟨⟨fn, c, hf, hn, hb⟩, fun w o0 xs hD hv => calls_of_wp hf hb ?_⟩
 have hlen := gF hv
 let C0 : Ctx := ⟨w, yX o0, o0, fun b p hnl hp => by
  cases p with
  | nil => rfl
  | cons k r => exact absurd ⟨k, r, hp⟩ hnl, 0, fun _ => (0, 0), fun _ => False⟩
 let a0 : Act := { tmps := xs.toArray ++ Array.replicate (fn.ntmps - xs.toArray.size) undef, defers := [] }
 have hR0 : Rel C0 (aZ w o0) ⟨fn.ntmps, [], []⟩ a0 := by
  refine ⟨?_, rfl, fun k => trivial, ?_, rfl, fun i ob hi => (by cases hi), rfl, fun b p hp => ⟨hD b p hp, ?_⟩, ⟨rfl, rfl, rfl, Nat.le_refl _, fun _ _ _ => rfl, fun b c e h => ⟨c, h, rfl⟩, Nat.le_refl _⟩, fun _ _ _ => rfl, Nat.zero_le _, fun k hk => absurd hk (Nat.not_lt_zero _)⟩
  ·simp [a0, ← hlen]
   omega
  ·funext i; rfl
  ·cases p with
   | nil => exact .inl rfl
   | cons k r => exact .inr (.inr ⟨k, r, hp⟩)
 obtain ⟨E1, hR1, hw1, ho1, hm1, hv1, hl1⟩ := xN hR0 (rs := args) (xs := xs) hv
 let C : Ctx := ⟨w, yX o0, o0, C0.dull, np, E1.ρ, fun k => o0 (E1.ρ k).1 = some [k]⟩
 have hn1 : E1.n = np := by rw [hR1.n]; simp [hl1, hnp]
 have hR : Rel C E1 ⟨fn.ntmps, x3 0 (rV 0 args), k9 args⟩ a0 := by
  have hob : ∀ i, ({ N := fn.ntmps, t := [], g := [] ++ k9 args } : St).ob i = ({ N := fn.ntmps, t := x3 0 (rV 0 args), g := k9 args } : St).ob i := fun i => rfl
  refine ⟨hR1.size, hR1.nd, fun k => ?_, by rw [hR1.g]; funext i; exact hob i, hR1.n, fun i ob hi => hR1.ob i ob hi, hR1.okb, hR1.lab, ⟨hR1.fr.os, hR1.fr.tape, hR1.fr.output, hR1.fr.size, hR1.fr.block, hR1.fr.shape, hR1.fr.drawn⟩, hR1.old, Nat.le_of_eq hn1.symm, fun k hk hs => ⟨rfl, fun h => by rw [ho1]; exact h⟩⟩
  show Rv E1 .none (lk (x3 0 (rV 0 args)) k) _
  rw [CL]
  simp only [Nat.zero_le, if_true, Nat.sub_zero]
  cases hk : (rV 0 args)[k]? with
  | none => trivial
  | some v =>
   obtain ⟨x, hx, hr⟩ := gE hv1 k v hk
   have hlt : k < xs.length := (List.getElem?_eq_some_iff.1 hx).1
   have : a0.tmps.getD k undef = x := by
    show (xs.toArray ++ Array.replicate (fn.ntmps - xs.toArray.size) undef).getD k undef = x
    rw [Array.getD_eq_getD_getElem?, Array.getElem?_append_left (by simpa using hlt)]
    simp [hx]
   simp only [Option.getD_some]
   rw [this]
   exact hr
 have hgen : ∀ w1, w1 = w → ∀ Q, Code.wp P c Q a0 w1 → Code.wp P c Q a0 w := fun w1 h Q hq => h ▸ hq
 refine hgen E1.w hw1 _ ?_
 refine vX (C := C) hmx hΓ hn90 c hR h fun e s' E' a' he hR' => ?_
 have key : W1 Γ fn args r (o1 :: os) s' → a'.defers = [] ∧ ∃ v, (results fn a'.tmps).run P E'.w = .ok v E'.w ∧ (Grown w E'.w (yX o0) ∧ ∃ o' : Lab, (∀ b, b < w.heap.size → ¬ yX o0 b → o' b = o0 b) ∧ (∀ b p, o' b = some p → b < E'.w.heap.size) ∧ Rvs (aZ E'.w o') (.top 0) (o1 :: os) xs ∧ ∃ k0, nls args ≤ k0 ∧ Rv (aZ E'.w o') (.top k0) r v) := by
  intro hret
  refine ⟨hR'.nd, ?_⟩
  obtain ⟨vs, ys, h1, h2, h3⟩ := FJ hΓ hR' hret
  obtain ⟨E2, us, s2, ⟨g1, gf⟩, g2, g3, g4, g5, g6, g7, g8⟩ := y7 (M := s'.g.length) (kid := s'.g.length) hR' (Nat.le_refl _) (Nat.le_refl _) h1 h2
  have hbm : Mono (aZ w o0) (aZ E2.w E2.o) := ⟨g2.fr.size, fun b hb hok => by
   have hok' : o0 b = none := hok
   have hnl : ¬ yX o0 b := fun ⟨k, t, hk⟩ => by rw [hok'] at hk; cases hk
   exact ⟨by show E2.o b = none; rw [g2.old b hb hnl]; exact hok', g2.fr.block b hb hnl⟩, Nat.le_refl _, fun _ h _ => absurd h (Nat.not_lt_zero _), fun _ _ h _ => absurd h (Nat.not_lt_zero _)⟩
  obtain ⟨fs, f1, _, f3⟩ := CQ (C := C) (E := E1) (E2 := E2) (s1 := ⟨fn.ntmps, x3 0 (rV 0 args), k9 args⟩) (s2 := s2) (o0 := o0) ⟨hR.g, hw1, ho1, rfl, rfl, fun _ h => h, hbm⟩ g2 (vs := args) (xs := xs) (k := 0) (pre := []) (post := []) (by simp) rfl (by show 0 + nls args ≤ np; omega) hv1 hv gf
  subst f1
  refine ⟨_, tP h3, ⟨hR'.fr.os, hR'.fr.tape, hR'.fr.output, hR'.fr.size, fun k hk hl => hR'.fr.block k hk hl, hR'.fr.shape, hR'.fr.drawn⟩, E2.o, fun b hb hl => g2.old b hb hl, fun b p hp => by rw [← g3]; exact (g2.lab b p hp).1, by rw [← g3]; exact f3, s'.g.length, by rw [hnp, ← hR'.n]; exact hR'.pin.1, ?_⟩
  have hbase : Rvs (aZ E'.w E2.o) (.top s'.g.length) us ys := by
   have hm : Mono E2.bare (aZ E'.w E2.o) := ⟨by show E2.w.heap.size ≤ E'.w.heap.size; rw [g3]; exact Nat.le_refl _, fun b _ hok => ⟨by have h' : E2.okb b := hok; rw [g2.okb] at h'; exact h', by show E'.w.heap[b]? = E2.w.heap[b]?; rw [g3]⟩, Nat.le_refl _, fun _ h _ => absurd h (Nat.not_lt_zero _), fun _ _ h _ => absurd h (Nat.not_lt_zero _)⟩
   have hkp : ∀ q, Kept E2.bare (aZ E'.w E2.o) q := fun q b r h => ⟨h, by show E'.w.heap[b]? = E2.w.heap[b]?; rw [g3]⟩
   exact Rvs.mono hm (fun q _ => hkp q) (fun k j _ _ => hkp _) g8
  subst g1
  match us, ys, hbase with
  | [], [], hb => exact ⟨[], rfl, trivial⟩
  | [u], [y], hb => exact hb.1
  | u :: u' :: us, y :: y' :: ys, hb => exact ⟨y :: y' :: ys, rfl, hb⟩
  | [_], [], hb => exact hb.elim
  | [_], _ :: _ :: _, hb => exact hb.2.elim
  | [], _ :: _, hb => exact hb.elim
  | _ :: _ :: _, [], hb => exact hb.elim
  | _ :: _ :: _, [_], hb => exact hb.2.elim
 cases e with
 | normal => exact key he
 | ret => exact key he
 | exit id => exact he.elim
def a2F : Exs := { ex := fun _ => false, hid := fun _ => false }
theorem aF (hmx : P.follows .mixedOrders = true) (hΓ : fD P Γ) {f : FuncId} {fn : Func} {args : List V} {r : V} (hf : P.funcs[f]? = some fn) (hn : (fn.name == "runtime.NumGoroutine") = false) (h : a1Q Γ (bU P a2F) fn args r) : bI P f args r := M7 hmx hΓ hf hn h
theorem lY (hmx : P.follows .mixedOrders = true) (hΓ : fD P Γ) {f : FuncId} {fn : Func} {args : List V} {r o1 : V} {os : List V} (np : Nat) (hf : P.funcs[f]? = some fn) (hn : (fn.name == "runtime.NumGoroutine") = false) (hnp : nls args = np) (hn90 : np ≤ 90) (h : VX np Γ (bU P a2F) fn args r (o1 :: os)) : rS P f args r (o1 :: os) := TX hmx hΓ np hf hn hnp hn90 h
theorem DA (N : Nat) : ∀ (l : List Nat), ∀ i ∈ rT N l, i < N
 | [], i, h => by cases h
 | j :: r, i, h => by
  simp only [rT] at h
  cases hb : Nat.blt j N with
  | false => rw [hb] at h; exact DA N r i h
  | true =>
   rw [hb] at h
   have hj : j < N := Nat.le_of_ble_eq_true hb
   rcases List.mem_cons.1 h with rfl | h
   ·exact hj
   ·exact DA N r i h
theorem zA (N : Nat) : ∀ (l m : List Nat), rT N (l ++ m) = rT N l ++ rT N m
 | [], m => rfl
 | j :: r, m => by
  simp only [List.cons_append, rT]
  cases Nat.blt j N with
  | false => exact zA N r m
  | true => simp only [cond_true, List.cons_append, zA N r m]
theorem DB (N : Nat) : ∀ (n j : Nat), j + n ≤ N → rT N (iP n j) = iP n j
 | 0, j, _ => rfl
 | n + 1, j, h => by
  have hb : Nat.blt j N = true := Nat.ble_eq_true_of_le (by omega)
  simp only [iP, rT, hb, cond_true]
  rw [DB N n (j + 1) (by omega)]
theorem IN : ∀ {π : List Nat} {j i k : Nat}, cH j π i = some k → i ∈ π
 | [], j, i, k, h => by simp [cH] at h
 | p :: r, j, i, k, h => by
  simp only [cH] at h
  cases hb : Nat.beq p i with
  | true => rw [Nat.eq_of_beq_eq_true hb]; exact List.mem_cons_self ..
  | false => rw [hb] at h; exact List.mem_cons_of_mem _ (IN (π := r) h)
theorem z7 (hmx : P.follows .mixedOrders = true) (hΓ : fD P Γ) {f : FuncId} {fn : Func} {args : List V} {g : List (Option Obj)} {Post : V → List (Option Obj) → Prop} (np : Nat) (hf : P.funcs[f]? = some fn) (hn : (fn.name == "runtime.NumGoroutine") = false) (hnp : g.length = np) (hn90 : np ≤ 90) (h : VW np Γ (bU P ex) fn args g Post) : SpecG P f args g Post := by
 unfold VW at h
 cases hb : fn.body with
 | none => rw [hb] at h; exact h.elim
 | some c =>
 rw [hb] at h
 obtain ⟨hle, h⟩ := dK h
 rw [KS, CK] at h
 have hle := Nat.le_of_ble_eq_true hle
 refine ⟨⟨fn, c, hf, hn, hb⟩, fun E0 xs hin hv => calls_of_wp hf hb ?_⟩
 have hlen := gF hv
 let C : Ctx := ⟨E0.w, yX E0.o, E0.o, fun b p hnl hp => by
  cases p with
  | nil => rfl
  | cons k r => exact absurd ⟨k, r, hp⟩ hnl, np, E0.ρ, fun k => E0.o (E0.ρ k).1 = some [k]⟩
 let a0 : Act := { tmps := xs.toArray ++ Array.replicate (fn.ntmps - xs.toArray.size) undef, defers := [] }
 have hR : Rel C E0 ⟨fn.ntmps, x3 0 args, g⟩ a0 := by
  refine ⟨?_, rfl, fun k => ?_, by rw [hin.gq]; rfl, hin.n, fun i ob hi => hin.ob i ob hi, hin.okb, fun b p hp => ⟨hin.lab b p hp, ?_⟩, ⟨rfl, rfl, rfl, Nat.le_refl _, fun _ _ _ => rfl, fun b c e h => ⟨c, h, rfl⟩, Nat.le_refl _⟩, fun _ _ _ => rfl, by show np ≤ E0.n; rw [hin.n, hnp]; exact Nat.le_refl _, fun k hk hs => ⟨rfl, fun h => h⟩⟩
  ·simp [a0, ← hlen]
   omega
  ·show Rv E0 .none (lk (x3 0 args) k) _
   rw [CL]
   simp only [Nat.zero_le, if_true, Nat.sub_zero]
   cases hk : args[k]? with
   | none => trivial
   | some v =>
    obtain ⟨x, hx, hr⟩ := gE hv k v hk
    have hlt : k < xs.length := (List.getElem?_eq_some_iff.1 hx).1
    have : a0.tmps.getD k undef = x := by
     show (xs.toArray ++ Array.replicate (fn.ntmps - xs.toArray.size) undef).getD k undef = x
     rw [Array.getD_eq_getD_getElem?, Array.getElem?_append_left (by simpa using hlt)]
     simp [hx]
    simp only [Option.getD_some]
    rw [this]
    exact hr
  ·cases p with
   | nil => exact .inl rfl
   | cons k r => exact .inr (.inr ⟨k, r, hp⟩)
 refine vX (C := C) (ex := ex) hmx hΓ hn90 c hR h fun e s' E' a' he hR' => ?_
 have key : W0 np Γ fn Post s' → a'.defers = [] ∧ ∃ v, (results fn a'.tmps).run P E'.w = .ok v E'.w ∧ ∃ (r : V) (g2 : List (Option Obj)) (E2 : Env), Post r g2 ∧ E2.w = E'.w ∧ GOut E0 E2 g g2 ∧ Rv E2.bare (.top g2.length) r v := by
  rintro ⟨ks, hret⟩
  refine ⟨hR'.nd, ?_⟩
  obtain ⟨E1, hR1, hw1⟩ := oZ ks hR'
  generalize jL s' ks = s1 at hR1 hret
  obtain ⟨vs, ys, h1, h2, h3⟩ := FJ hΓ hR1 hret
  obtain ⟨E2, us, s2, gf, g2, g3, g4, g5, g6, g7, g8⟩ := y7 (M := s1.g.length) (kid := s1.g.length) hR1 (Nat.le_refl _) (Nat.le_refl _) h1 h2
  rw [nI, zP] at gf
  rw [hw1] at h3
  have hnp2 : np ≤ s2.g.length := by
   have := g2.pin.1
   rw [g2.n] at this
   exact this
  obtain ⟨q, hq⟩ := wK (s := s2) np 0 100 [] (by omega)
  have hπ : C.np ≤ (i4 np s2).length ∧ ∀ k, k < C.np → cH 0 (i4 np s2) k = some k := by
   have hk : i4 np s2 = iP np 0 ++ rT s2.g.length q := by
    unfold i4
    rw [List.append_nil] at hq
    have hq' : oY s2 100 (iP np 0) [] = iP (0 + np) 0 ++ q := hq
    rw [hq', Nat.zero_add, zA, DB _ _ _ (by omega)]
   rw [hk]
   refine ⟨by simp [GE, C], fun k hk => wI np 0 k _ (Nat.zero_le _) (by simpa using hk)⟩
  have hR3 := LH (kp := some s1.g.length) g2 (i4 np s2) [] hπ
  have hlt : ∀ h, s1.g.length ≤ h → cH 0 (i4 np s2) h = none := by
   intro h hh
   cases hp : cH 0 (i4 np s2) h with
   | none => rfl
   | some k =>
    have := DA _ _ _ (IN hp)
    omega
  have hlg : (jU (i4 np s2) s2 0 (i4 np s2)).length = (i4 np s2).length := yE _ _ _ _
  obtain ⟨v, hres, hvv⟩ : ∃ v, (results fn a'.tmps).run P E'.w = .ok v E'.w ∧ Rv E2.bare (.top s1.g.length) (one us) v := by
   refine ⟨_, tP h3, ?_⟩
   match us, ys, g8 with
   | [], [], hb => exact ⟨[], rfl, trivial⟩
   | [u], [y], hb => exact hb.1
   | u :: u' :: us, y :: y' :: ys, hb => exact ⟨y :: y' :: ys, rfl, hb⟩
   | [_], [], hb => exact hb.elim
   | [_], _ :: _ :: _, hb => exact hb.2.elim
   | [], _ :: _, hb => exact hb.elim
   | _ :: _ :: _, [], hb => exact hb.elim
   | _ :: _ :: _, [_], hb => exact hb.2.elim
  refine ⟨v, hres, one us, jU (i4 np s2) s2 0 (i4 np s2), E2.ren (some s1.g.length) (i4 np s2) (l5 (i4 np s2) [] s2), gf, by show E2.w = E'.w; rw [g3, hw1], ?_, ?_⟩
  ·have hf := hR3.fr
   exact ⟨rfl, hlg.symm, fun i ob hi => hR3.ob i ob hi, rfl, fun b p hp => (hR3.lab b p hp).1, ⟨hf.os, hf.tape, hf.output, hf.size, hf.block, hf.shape, hf.drawn⟩, fun b hb hl => hR3.old b hb hl, fun k hk hs => hR3.pin.2 k (by show k < np; rw [← hnp]; exact hk) hs, by rw [hlg, hnp]; exact hπ.1⟩
  ·rw [hlg]
   have hrR : Rv (aZ E2.w (gY s1.g.length E2.o)) (.top s1.g.length) (one us) v := by
    refine Rv.mono (E := E2.bare) (E' := aZ E2.w (gY s1.g.length E2.o)) ⟨Nat.le_refl _, fun b _ hok => ⟨?_, rfl⟩, Nat.le_refl _, fun _ h _ => absurd h (Nat.not_lt_zero _), fun _ _ h _ => absurd h (Nat.not_lt_zero _)⟩ (fun q hq => by cases hq) (fun k j hk hj b t hb => ⟨?_, rfl⟩) hvv
    ·have hok' : E2.okb b := hok
     rw [g2.okb] at hok'
     have hok2 : E2.o b = none := hok'
     show gY s1.g.length E2.o b = none
     simp [gY, hok2]
    ·cases hk
     have hb' : E2.o b = some (j :: t) := hb
     show gY s1.g.length E2.o b = _
     simp [gY, hb', hj]
   have e : Md.sh s1.g.length (i4 np s2).length (.top s1.g.length) = .top (i4 np s2).length := by simp [Md.sh]
   rw [← e]
   refine Rv.sh (G := aZ E2.w (gY s1.g.length E2.o)) (F := E2.ren (some s1.g.length) (i4 np s2) (l5 (i4 np s2) [] s2)) rfl rfl (full := True) (fun _ b hok => ?_) (fun b q hq ho => ?_) (m := .top s1.g.length) (k0 := s1.g.length) (N := (i4 np s2).length) (Nat.le_refl _) (.inl trivial) hrR
   ·have hok' : gY s1.g.length E2.o b = none := hok
    show rC (some s1.g.length) (i4 np s2) (E2.o b) = none
    rw [qJ]
    unfold gY at hok'
    split at hok'
    ·split at hok' <;> cases hok'
    ·exact hok'
   ·have ho' : gY s1.g.length E2.o b = some q := ho
    show rC (some s1.g.length) (i4 np s2) (E2.o b) = _
    unfold gY at ho'
    split at ho'
    ·rename_i h t hho
     split at ho'
     ·rename_i hle2
      cases ho'
      rw [hho]
      simp only [rC, hlt h hle2, shift]
      rw [if_pos hle2]
     ·cases ho'; exact absurd rfl hq
    ·rename_i hne
     cases q with
     | nil => exact absurd rfl hq
     | cons h t => exact absurd ho' (hne h t)
 cases e with
 | normal => exact key he
 | ret => exact key he
 | exit id => exact he.elim
theorem cU (hmx : P.follows .mixedOrders = true) (hΓ : fD P Γ) {f : FuncId} {fn : Func} {args : List V} {g : List (Option Obj)} {Post : V → List (Option Obj) → Prop} (np : Nat) (hf : P.funcs[f]? = some fn) (hn : (fn.name == "runtime.NumGoroutine") = false) (hnp : g.length = np) (hn90 : np ≤ 90) (h : VW np Γ (bU P a2F) fn args g Post) : SpecG P f args g Post := z7 hmx hΓ np hf hn hnp hn90 h
end
end Go.Proofs.YtboolngaahifdaaGreatD
namespace Go.Proofs.YtboolngaahifdaaGreatD
open Go
def a2A (P : Program) (k : TypeId) : Bool := match P.underlying k with
  | some (.int .i64) => true
  | _ => false
def ZD (P : Program) (e : TypeId) : Bool := match P.info? e with
  | some i => match i.zero with
    | some (.int .i64 n) => n == 0
    | _ => false
  | none => false
theorem ZZ {P : Program} {k : TypeId} (h : a2A P k = true) : P.underlying k = some (.int .i64) := by
  unfold a2A at h
  split at h
  · assumption
  · cases h
theorem ZE {P : Program} {e : TypeId} (h : ZD P e = true) : ∃ i, P.info? e = some i ∧ i.zero = some (.int .i64 0) := by
  unfold ZD at h
  split at h
  · rename_i i hi
    split at h
    · rename_i n hz
      simp at h
      exact ⟨i, hi, by rw [hz, h]⟩
    · cases h
  · cases h
def a31 (P : Program) (t : TypeId) : Option TI :=
  match P.info? t, P.underlying t with
  | some i, some d => match i.zero with
    | some z => bif z.cells.toList.all Value.oneCell' && Nat.beq z.cells.toList.length i.size then
        match d with
        | .struct fs => bif fs.toList.all fun f => match P.info? f.type with
            | some j => !(Nat.beq j.size 0)
            | none => false then some ⟨true, i.size, i.bytes, z.cells.toList, none, fs.toList.map (·.offset), fs.toList.map (fun f => P.cellsOf f.type), none, false, false, fs.toList.map (·.type)⟩ else none
        | .array n e => some ⟨true, i.size, i.bytes, z.cells.toList, none, [], [n, e], none, false, false, []⟩
        | .slice e => bif Nat.beq i.size 1 then some ⟨false, i.size, i.bytes, z.cells.toList, some e, [], [], none, false, false, []⟩ else none
        | .int k => bif Nat.beq i.size 1 then some ⟨false, i.size, i.bytes, z.cells.toList, none, [], [], some k, false, false, []⟩ else none
        | .string => bif Nat.beq i.size 1 then some ⟨false, i.size, i.bytes, z.cells.toList, none, [], [], none, true, false, []⟩ else none
        | .bool => bif Nat.beq i.size 1 then some ⟨false, i.size, i.bytes, z.cells.toList, none, [], [], none, false, true, []⟩ else none
        | .map k e => bif Nat.beq i.size 1 && a2A P k && ZD P e then some ⟨false, i.size, i.bytes, z.cells.toList, none, [], [1], none, false, false, []⟩ else none
        | .pointer _ | .func .. => bif Nat.beq i.size 1 then some ⟨false, i.size, i.bytes, z.cells.toList, none, [], [], none, false, false, []⟩ else none
        | _ => none
      else none
    | none => none
  | _, _ => none
theorem DC {α : Type} {b : Bool} {x : Option α} {y : α} (h : (bif b then x else none) = some y) : b = true ∧ x = some y := by cases b <;> simp_all
theorem a16 {P : Program} {t : TypeId} {ti : TI} (h : a31 P t = some ti) : TIOk P t ti := by
  unfold a31 at h
  split at h <;> try (cases h; done)
  rename_i i d hi hd
  split at h <;> try (cases h; done)
  rename_i z hz
  obtain ⟨hb, h⟩ := DC h
  simp only [Bool.and_eq_true] at hb
  have hl := Nat.eq_of_beq_eq_true hb.2
  have hone := List.all_eq_true.1 hb.1
  split at h <;> try (cases h; done)
  · rename_i fs
    obtain ⟨hf, h⟩ := DC h
    cases h
    refine ⟨⟨i, z, hi, rfl, rfl, hz, rfl⟩, hone, hl, fun h => (by cases h), ⟨_, hd, rfl, rfl, rfl, rfl, fun f hf' => ?_, rfl, rfl, rfl⟩, fun h => (by cases h), fun fs' h' => (by rw [hd] at h'; cases h'; rfl)⟩
    have := List.all_eq_true.1 hf f hf'
    split at this
    · rename_i j hj
      refine ⟨j, hj, fun h0 => ?_⟩
      rw [h0] at this
      simp at this
    · cases this
  · cases h
    exact ⟨⟨i, z, hi, rfl, rfl, hz, rfl⟩, hone, hl, fun h => (by cases h), ⟨_, hd, rfl, rfl, rfl, rfl, rfl, rfl, rfl⟩, fun h => (by cases h), fun fs' h' => (by rw [hd] at h'; cases h')⟩
  all_goals
    obtain ⟨hs, h⟩ := DC h
    cases h
    first
    | exact ⟨⟨i, z, hi, rfl, rfl, hz, rfl⟩, hone, hl, fun _ => Nat.eq_of_beq_eq_true hs, ⟨_, hd, rfl, rfl, rfl, rfl, rfl, rfl⟩, fun _ h => (by cases h), fun fs' h' => (by rw [hd] at h'; cases h')⟩
    | (simp only [Bool.and_eq_true] at hs
       obtain ⟨ie, h1, h2⟩ := ZE hs.2
       exact ⟨⟨i, z, hi, rfl, rfl, hz, rfl⟩, hone, hl, fun _ => Nat.eq_of_beq_eq_true hs.1.1, ⟨_, hd, rfl, rfl, rfl, rfl, rfl, rfl⟩, fun _ _ => ⟨_, _, ie, hd, ZZ hs.1.2, h1, h2⟩, fun fs' h' => (by rw [hd] at h'; cases h')⟩)
def a15 : List (Nat × TI) → Tab
  | [], _ => none
  | (k, v) :: r, t => bif Nat.beq k t then some v else a15 r t
theorem TR {P : Program} : ∀ {l : List (Nat × TI)}, (∀ p ∈ l, a31 P p.1 = some p.2) → fD P (a15 l)
  | [], _, t, ti, h => by cases h
  | (k, v) :: r, hl, t, ti, h => by
    simp only [a15] at h
    cases hb : Nat.beq k t with
    | true =>
      rw [hb] at h
      cases h
      have hk := Nat.eq_of_beq_eq_true hb
      subst hk
      exact a16 (hl (k, v) (by simp))
    | false =>
      rw [hb] at h
      exact TR (fun p hp => hl p (by simp [hp])) t ti h
end Go.Proofs.YtboolngaahifdaaGreatD
namespace Go.Proofs.YtboolngaahifdaaGreatD
open Go
section
variable {α : Type}
def aB (f : α → List V) : List α → List V
 | [] => []
 | x :: xs => f x ++ aB f xs
theorem fH (f : α → List V) (ys : List α) : ∀ xs : List α, aB f (xs ++ ys) = aB f xs ++ aB f ys
 | [] => rfl
 | x :: xs => by simp [aB, fH f ys xs]
theorem a6 {f : α → List V} {n : Nat} (h : ∀ x, (f x).length = n) : ∀ xs : List α, (aB f xs).length = xs.length * n
 | [] => by simp [aB]
 | x :: xs => by simp [aB, a6 h xs, h, Nat.succ_mul, Nat.add_comm]
theorem uY {f : α → List V} {n : Nat} (h : ∀ x, (f x).length = n) : ∀ (xs : List α) (k : Nat), (aB f xs).drop (k * n) = aB f (xs.drop k)
 | [], k => by simp [aB]
 | x :: xs, 0 => by simp
 | x :: xs, k + 1 => by
  simp only [aB, List.drop_succ_cons]
  rw [← uY h xs k, Nat.succ_mul, Nat.add_comm, ← List.drop_drop, ← h x, List.drop_left]
theorem rE {f : α → List V} {n : Nat} (h : ∀ x, (f x).length = n) (xs : List α) (k : Nat) (hk : k < xs.length) : (aB f xs).drop (k * n) = f xs[k] ++ aB f (xs.drop (k + 1)) := by
 rw [uY h, List.drop_eq_getElem_cons hk]
 rfl
theorem qP {cs r : List V} {off n : Nat} (h : off + n ≤ cs.length) (hr : (cs.drop off).take n = r) : dP cs off n = some r := by
 unfold dP
 rw [show Nat.ble (off + n) cs.length = true from by simpa using h]
 simp [hr]
theorem aD {f : α → List V} {n : Nat} (h : ∀ x, (f x).length = n) {xs : List α} {k : Nat} (hk : k < xs.length) : dP ((aB f xs).drop (k * n)) 0 n = some (f xs[k]) := by
 rw [rE h xs k hk]
 refine qP (by simp [h]) ?_
 rw [List.drop_zero, ← h xs[k], List.take_left]
theorem aR {f : α → List V} {n d m : Nat} (h : ∀ x, (f x).length = n) {xs : List α} {k : Nat} {r : List V} (hk : k < xs.length) (hd : d + m ≤ n) (hr : ((f xs[k]).drop d).take m = r) : dP (((aB f xs).drop (k * n)).drop d) 0 m = some r := by
 rw [rE h xs k hk]
 have hl := h xs[k]
 refine qP (by simp; omega) ?_
 rw [List.drop_zero, List.drop_append_of_le_length (by omega), List.take_append_of_le_length (by simp; omega)]
 exact hr
theorem b7 {f : α → List V} {n d m o : Nat} (h : ∀ x, (f x).length = n) {xs : List α} {k : Nat} {r : List V} (ho : o = k * n + d) (hk : k < xs.length) (hd : d + m ≤ n) (hr : ((f xs[k]).drop d).take m = r) : dP (aB f xs) o m = some r := by
 subst ho
 have hl := h xs[k]
 have hlen := a6 h xs
 have hmul : (k + 1) * n ≤ xs.length * n := Nat.mul_le_mul_right _ hk
 rw [Nat.succ_mul] at hmul
 refine qP (by omega) ?_
 rw [← List.drop_drop, rE h xs k hk, List.drop_append_of_le_length (by omega), List.take_append_of_le_length (by simp; omega)]
 exact hr
theorem aN {cs : List V} {n : Nat} (h : cs.length = n) : dP cs 0 n = some cs := qP (by omega) (by rw [List.drop_zero, ← h, List.take_length])
theorem BT : ∀ cs ds : List V, dM (cs ++ ds) = dM cs ++ dM ds
 | [], ds => rfl
 | c :: cs, ds => by simp [dM, BT cs ds]
theorem bF {f g : α → List V} (h : ∀ x, dM (f x) = g x) : ∀ xs : List α, dM (aB f xs) = aB g xs
 | [] => rfl
 | x :: xs => by simp [aB, BT, h, bF h xs]
theorem sP : ∀ {cs ds : List V}, f7 cs → f7 ds → f7 (cs ++ ds)
 | [], _, _, h => h
 | c :: cs, ds, h, h' => ⟨h.1, sP h.2 h'⟩
theorem dG {f : α → List V} (h : ∀ x, f7 (f x)) : ∀ xs : List α, f7 (aB f xs)
 | [] => trivial
 | x :: xs => sP (h x) (dG h xs)
theorem D2 {f : α → List V} {p : V → Prop} (h : ∀ x, ∀ c ∈ f x, p c) : ∀ (xs : List α), ∀ c ∈ aB f xs, p c
 | [], c, hc => by cases hc
 | x :: xs, c, hc => by
  simp only [aB, List.mem_append] at hc
  rcases hc with hc | hc
  ·exact h x c hc
  ·exact D2 h xs c hc
theorem iO {f : α → List V} {n : Nat} (h : ∀ x, (f x).length = n) (hn : n ≠ 0) {xs : List α} {k : Nat} (hk : k < xs.length) (y : α) : e7 (aB f xs) (k * n) (f y) = aB f (xs.set k y) := by
 have hlen := a6 h xs
 have hmul : (k + 1) * n ≤ xs.length * n := Nat.mul_le_mul_right _ hk
 rw [Nat.succ_mul] at hmul
 apply List.ext_getElem?
 intro i
 rw [iB (by rw [h]; omega), h]
 have hsplit : ∀ zs : List α, zs.length = xs.length → aB f zs = aB f (zs.take k) ++ (aB f (zs.drop k)) := by
  intro zs _
  rw [← fH, List.take_append_drop]
 have e1 := hsplit xs rfl
 have e2 := hsplit (xs.set k y) (by simp)
 have t2 : (xs.set k y).take k = xs.take k := by rw [List.take_set_of_le (Nat.le_refl _)]
 have d1 : xs.drop k = xs[k] :: xs.drop (k + 1) := List.drop_eq_getElem_cons hk
 have d2 : (xs.set k y).drop k = y :: xs.drop (k + 1) := by
  rw [List.drop_eq_getElem_cons (by simpa using hk)]
  congr 1
  ·simp
  ·apply List.ext_getElem?
   intro j
   rw [List.getElem?_drop, List.getElem?_drop, List.getElem?_set, if_neg (by omega)]
 rw [e2, t2, d2]
 rw [e1, d1]
 have hk1 : (aB f (xs.take k)).length = k * n := by rw [a6 h, List.length_take, Nat.min_eq_left (by omega)]
 simp only [aB]
 by_cases ha : k * n ≤ i ∧ i < k * n + n
 ·rw [if_pos ha, List.getElem?_append_right (by omega), hk1, List.getElem?_append_left (by rw [h]; omega)]
 ·rw [if_neg ha]
  by_cases hb : i < k * n
  ·rw [List.getElem?_append_left (by omega), List.getElem?_append_left (by omega)]
  ·have h1 := h xs[k]
   have h2 := h y
   rw [List.getElem?_append_right (by omega), List.getElem?_append_right (by omega), hk1, List.getElem?_append_right (by omega), List.getElem?_append_right (by omega), h1, h2, hk1]
end
def ci (x : Int) : V := .sc (.int .i64 x)
def cb (b : Bool) : V := .sc (.bool b)
def cs (b : ByteArray) : V := .sc (.string b)
def cG : V := .sc (.slice none 0 0)
def ciL (x : Int) : List V := [ci x]
def aW (xs : List Int) : V := .ro xs.length (aB ciL xs)
def bE (xs : List Int) : V := .tr 1 xs.length (aB ciL xs)
theorem a7 (x : Int) : (ciL x).length = 1 := rfl
theorem a8 {x : Int} (h1 : -9223372036854775808 ≤ x) (h2 : x ≤ 9223372036854775807) : IntKind.i64.wrap x = x := by
 have hb : (2 : Int) ^ IntKind.i64.bits = 18446744073709551616 := by decide
 have hc : (2 : Int) ^ (IntKind.i64.bits - 1) = 9223372036854775808 := by decide
 simp only [IntKind.wrap, IntKind.signed, hb, hc, Bool.true_and, decide_eq_true_eq]
 split <;> omega
end Go.Proofs.YtboolngaahifdaaGreatD
namespace Go.Proofs.YtboolngaahifdaaGreatD
open Go Go.RowKit Go.Deep
def OC (w : World) : Env := aZ w fun _ => none
def Opens {α : Type} (P : Program) (t : TypeId) (mk : α → List V) (q : α → Prop) : Prop :=
 ∀ (H : Type) (enc : TypeId × Value → H) (w : World) (spare : Nat → Bool) (held : Bool) (fuel : Nat) (cs : List Value) (x : DataW H × List MemPlace),
  DataW.trod enc P w 0 spare held fuel t cs = some x → ∃ a, Rvs (OC w) .none (mk a) cs ∧ q a
theorem V6 {P : Program} {t : TypeId} {k : IntKind} (ht : P.underlying t = some (.int k)) : Opens P t (fun x => [.sc (.int k x)]) (fun x => (Lit.int k x).wf = true) := by
 intro H enc w spare held fuel cs x h
 obtain ⟨n, rfl, _, hw⟩ := DataW.trod_int ht h
 exact ⟨n, ⟨⟨rfl, rfl⟩, trivial⟩, hw⟩
theorem SJ {α : Type} {p : Nat → α → Prop} : ∀ n : Nat, (∀ i, i < n → ∃ x, p i x) → ∃ ys : List α, ys.length = n ∧ ∀ j y, ys[j]? = some y → p j y
 | 0, _ => ⟨[], rfl, fun j y h => by simp at h⟩
 | n + 1, h => by
  obtain ⟨ys, hl, hp⟩ := SJ n (fun i hi => h i (Nat.lt_succ_of_lt hi))
  obtain ⟨x, hx⟩ := h n (Nat.lt_succ_self n)
  refine ⟨ys ++ [x], by simp [hl], fun j y hj => ?_⟩
  rcases Nat.lt_or_ge j ys.length with hlt | hge
  ·rw [List.getElem?_append_left hlt] at hj
   exact hp j y hj
  ·rw [List.getElem?_append_right hge] at hj
   have hj0 : j - ys.length = 0 := by
    rcases Nat.eq_zero_or_pos (j - ys.length) with h0 | h0
    ·exact h0
    ·rw [List.getElem?_eq_none (by simp; omega)] at hj
     cases hj
   rw [hj0] at hj
   simp at hj
   subst hj
   have : j = n := by omega
   subst this
   exact hx
theorem FL {α : Type} {f : α → List V} {n : Nat} (h : ∀ x, (f x).length = n) {xs : List α} {m : Nat} {v : V} (hm : (aB f xs)[m]? = some v) : ∃ y, xs[m / n]? = some y ∧ (f y)[m % n]? = some v := by
 have hlt : m < xs.length * n := by rw [← a6 h]; exact (List.getElem?_eq_some_iff.1 hm).1
 have hn : 0 < n := by
  rcases Nat.eq_zero_or_pos n with h0 | h0
  ·rw [h0] at hlt; simp at hlt
  ·exact h0
 have hk : m / n < xs.length := Nat.div_lt_of_lt_mul (by rw [Nat.mul_comm]; exact hlt)
 refine ⟨xs[m / n], List.getElem?_eq_getElem hk, ?_⟩
 have h1 := rE h xs (m / n) hk
 have h2 : m = m / n * n + m % n := by rw [Nat.mul_comm]; exact (Nat.div_add_mod m n).symm
 have hmod : m % n < n := Nat.mod_lt _ hn
 rw [h2, ← List.getElem?_drop, h1, List.getElem?_append_left (by rw [h]; exact hmod)] at hm
 exact hm
theorem OD {α : Type} {P : Program} {t e : TypeId} {mk : α → List V} {q : α → Prop} {sz : Nat} (ht : P.underlying t = some (.slice e)) (hs : P.cellsOf e = sz) (hmk : ∀ a, (mk a).length = sz) (he : Opens P e mk q) :
  Opens P t (fun xs => [.ro xs.length (aB mk xs)]) (fun xs => xs.length ≤ maxLen ∧ ∀ x ∈ xs, q x) := by
 intro H enc w spare held fuel cs x h
 rcases open_slice ht h with ⟨rfl, _⟩ | ⟨a, len, cap, m, n, D, Pl, rfl, hb, hl, hm, hmm, _, hel⟩
 ·exact ⟨[], ⟨⟨none, 0, rfl, Nat.le_refl _, fun h => absurd rfl h⟩, trivial⟩, by simp, by simp⟩
 ·have hlm : len ≤ m := by rw [hmm]; split <;> omega
  obtain ⟨ys, hyl, hy⟩ := SJ (p := fun i (y : α) => (∃ c : List Value, Rvs (OC w) .none (mk y) c ∧ ∀ j u, c[j]? = some u → w.cell? (a.add (i * sz + j)) = some u) ∧ q y) len (fun i hi => by
   obtain ⟨cs', hc, hr⟩ := hel i (Nat.lt_of_lt_of_le hi hlm)
   obtain ⟨y, hk, hq⟩ := he H enc w spare held n cs' _ hr
   refine ⟨y, ⟨cs', hk, fun j u hu => ?_⟩, hq⟩
   have hlt : j < cs'.length := (List.getElem?_eq_some_iff.1 hu).1
   have hlen : cs'.length = sz := (gF hk).symm.trans (hmk y)
   have := (World.cells?_some hc).2.2 j (by rw [hs, ← hlen]; exact hlt)
   rw [Go.Deep.add_add, hs] at this
   rw [this, hu])
  subst hyl
  refine ⟨ys, ⟨⟨some a, cap, rfl, hl, fun hne => ?_⟩, trivial⟩, by omega, fun y hmem => ?_⟩
  ·
   have hget : ∀ k v, (aB mk ys)[k]? = some v → ∃ u, w.cell? (a.add k) = some u ∧ Rv (OC w) .none v u := by
    intro k v hk
    obtain ⟨y, h1, h2⟩ := FL hmk hk
    obtain ⟨⟨c, hc, hcell⟩, _⟩ := hy _ y h1
    obtain ⟨u, hu, hru⟩ := gE hc _ v h2
    have := hcell _ u hu
    rw [Nat.mul_comm, Nat.div_add_mod] at this
    exact ⟨u, this, hru⟩
   have h0 : 0 < (aB mk ys).length := List.length_pos_iff.2 hne
   obtain ⟨u0, hu0, _⟩ := hget 0 _ (List.getElem?_eq_getElem h0)
   obtain ⟨b, off, spot⟩ := a
   have hspot : spot = none := by
    simp only [Addr.add, if_true, World.cell?] at hu0
    cases spot with
    | none => rfl
    | some s =>
     split at hu0
     ·simp at hu0
     ·cases hu0
   subst hspot
   have hblt : b < w.heap.size := by
    simp only [Addr.add, if_true, World.cell?] at hu0
    split at hu0
    ·rename_i hh; exact cY hh
    ·cases hu0
   refine ⟨b, off, rfl, rfl, hblt, cD fun k v hk => ?_⟩
   obtain ⟨u, hu, hru⟩ := hget k v hk
   rw [cV] at hu
   exact ⟨u, hu, hru⟩
  ·obtain ⟨j, hj⟩ := List.getElem?_of_mem hmem
   exact (hy j y hj).2
theorem Opens.cell_in {α : Type} {P : Program} {t : TypeId} {mk : α → V} {q : α → Prop} (h : Opens P t (fun a => [mk a]) q) {H : Type} {enc : TypeId × Value → H} {w : World} {spare : Nat → Bool} {held : Bool} {v : Value} {dd : DataW H} {ps : List MemPlace}
  (ht : DataW.Trod enc P w 0 spare held t v dd ps) (hv : v.cells = #[v]) : ∃ a, Rv (OC w) .none (mk a) v ∧ q a := by
 obtain ⟨fuel, hf⟩ := ht
 obtain ⟨a, ha, hq⟩ := h H enc w spare held fuel _ _ hf
 rw [hv] at ha
 exact ⟨a, ha.1, hq⟩
theorem US {P : Program} {f : FuncId} {as : List V} {xs : List Value} {w : World} (h : bI P f as (cb true)) (hv : Rvs (OC w) .none as xs) : Calls P f xs.toArray w fun e w' => e = .returned (.bool true) ∧ Below w.heap.size w w' := by
 refine Calls.mono (h.2 w (fun _ => none) xs (fun b p hp => by cases hp) hv) fun e w' he => ?_
 cases e with
 | returned x =>
  obtain ⟨hb, o', _, _, k0, hx⟩ := he
  exact ⟨by rw [hx.1], ⟨hb.os, hb.tape, hb.output, hb.size, hb.block⟩⟩
 | panicked chain => exact he.elim
 | outgrown => exact he.elim
end Go.Proofs.YtboolngaahifdaaGreatD
