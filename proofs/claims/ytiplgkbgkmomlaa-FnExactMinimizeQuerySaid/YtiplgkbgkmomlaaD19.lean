/- A function keeps its contract where its conditions hold. -/
import Derived.Test.YtiplgkbgkmomlaaD18
set_option linter.unusedVariables false
set_option linter.unusedSimpArgs false
namespace Go.Proofs.YtiplgkbgkmomlaaD
open Go Go.RowKit

section
variable {P : Program} {Γ : Tab} {C : Ctx} {E : Env} {s : St} {a : Act}

theorem at_top {E : Env} {k sz n : Nat} {cs : List V} {x : Value} (h : Rv E (.at [k]) (.tr sz n cs) x) : Rv E (.top k) (.tr sz n cs) x := h
theorem flat_top {E : Env} {k : Nat} {v : V} {x : Value} (hf : flat v = true) (h : Rv E .none v x) : Rv E.bare (.top k) v x := flat_bare hf h

theorem trans_mono {E E1 E2 : Env} (h1 : Mono E E1) (h2 : Mono E1 E2) (hw1 : E1.w = E.w) (hw2 : E2.w = E1.w) (hρ : ∀ i, E1.ρ i = E.ρ i) : Mono E E2 := by
  refine ⟨Nat.le_trans h1.sz h2.sz, fun b hb hok => ?_, Nat.le_trans h1.n h2.n, fun i hi hl => ?_, fun i j hi ht => ?_⟩
  · obtain ⟨a1, a2⟩ := h1.free b hb hok
    obtain ⟨b1, b2⟩ := h2.free b (Nat.lt_of_lt_of_le hb h1.sz) a1
    exact ⟨b1, b2.trans a2⟩
  · obtain ⟨a1, a2, a3, a4⟩ := h2.ref i (Nat.lt_of_lt_of_le hi h1.n) hl
    obtain ⟨b1, b2, b3, b4⟩ := h1.ref i hi a1
    rw [b2] at a2 a3 a4
    exact ⟨b1, a2, fun ho => a3 (b3 ho), fun c e hc => by obtain ⟨c', h1', h2'⟩ := b4 c e hc; obtain ⟨c'', h3', h4'⟩ := a4 c' e h1'; exact ⟨c'', h3', h4'.trans h2'⟩⟩
  · obtain ⟨a1, a2⟩ := h2.sub i j (Nat.lt_of_lt_of_le hi h1.n) ht
    obtain ⟨b1, b2⟩ := h1.sub i j hi a1
    exact ⟨b1, by rw [hw2, hw1]⟩

mutual
theorem out_ok : ∀ {v : V} {x : Value} {E : Env} {s : St} {K : V → St → Prop} {M kid : Nat}, Rel C E s a → s.g.length ≤ M → M ≤ kid → outK s v K → Rv E .none v x →
    ∃ E' u s', K u s' ∧ Rel C E' s' a ∧ E'.w = E.w ∧ E'.ρ = E.ρ ∧ Mono E E' ∧ s'.g.length = s.g.length ∧ (∀ k q, M ≤ k → Kept E E' (k :: q)) ∧ Rv E'.bare (.top kid) u x
  | .sc v, x, E, s, K, M, kid, hR, hM, hk, h, hv => by
    rcases nilK_cases h with h1 | ⟨rfl, sz, h1⟩
    · exact ⟨E, _, s, h1, hR, rfl, rfl, mono_refl E, rfl, fun k q _ => kept_refl E _, flat_top rfl hv⟩
    · exact ⟨E, _, s, h1, hR, rfl, rfl, mono_refl E, rfl, fun k q _ => kept_refl E _, by rw [hv.1]; exact tr_nil sz⟩
  | .ro n cs, x, E, s, K, M, kid, hR, hM, hk, h, hv => ⟨E, _, s, h, hR, rfl, rfl, mono_refl E, rfl, fun k q _ => kept_refl E _, flat_top rfl hv⟩
  | .own i sz 0 n lo hi, x, E, s, K, M, kid, hR, hM, hk, h, hv => by
    simp only [outK] at h
    cases hob : s.ob i with
    | none => rw [hob] at h; exact h.elim
    | some ob =>
    obtain ⟨bx, cs⟩ := ob
    cases bx with
    | true => rw [hob] at h; exact h.elim
    | false =>
    rw [hob] at h
    obtain ⟨hl, hK⟩ := h
    have hlt := obOf_lt (g := s.g) hob
    exact ⟨E.mv i [kid], _, _, hK, rel_mv hR hob _, rfl, rfl, mv_mono hR _ _, put_len _ _ _, fun k q hq => mv_kept (by omega), at_top (tr_of_own hR hob hl hv _)⟩
  | .own i sz (_ + 1) n lo hi, x, E, s, K, M, kid, hR, hM, hk, h, hv => h.elim
  | .agg cs, x, E, s, K, M, kid, hR, hM, hk, h, hv => by
    obtain ⟨xs, rfl, hr⟩ := hv
    obtain ⟨E', us, s', h1, h2, h3, h4, h5, h6, h7, h8⟩ := outs_ok hR hM hk h hr
    exact ⟨E', _, s', h1, h2, h3, h4, h5, h6, h7, xs, rfl, h8⟩
  | .tr _ _ _, x, E, s, K, M, kid, hR, hM, hk, h, hv => h.elim
  | .sub _ _, x, E, s, K, M, kid, hR, hM, hk, h, hv => h.elim
  | .ptr _ _, x, E, s, K, M, kid, hR, hM, hk, h, hv => h.elim
  | .bp _, x, E, s, K, M, kid, hR, hM, hk, h, hv => h.elim
  | .sp _ _ _, x, E, s, K, M, kid, hR, hM, hk, h, hv => h.elim
  | .rp _, x, E, s, K, M, kid, hR, hM, hk, h, hv => h.elim
  | .tup _, x, E, s, K, M, kid, hR, hM, hk, h, hv => h.elim
  | .fn _ _, x, E, s, K, M, kid, hR, hM, hk, h, hv => h.elim
  | .any, x, E, s, K, M, kid, hR, hM, hk, h, hv => h.elim
theorem outs_ok : ∀ {vs : List V} {xs : List Value} {E : Env} {s : St} {K : List V → St → Prop} {M kid : Nat}, Rel C E s a → s.g.length ≤ M → M ≤ kid → outsK s vs K → Rvs E .none vs xs →
    ∃ E' us s', K us s' ∧ Rel C E' s' a ∧ E'.w = E.w ∧ E'.ρ = E.ρ ∧ Mono E E' ∧ s'.g.length = s.g.length ∧ (∀ k q, M ≤ k → Kept E E' (k :: q)) ∧ Rvs E'.bare (.top kid) us xs
  | [], [], E, s, K, M, kid, hR, hM, hk, h, hv => ⟨E, [], s, h, hR, rfl, rfl, mono_refl E, rfl, fun k q _ => kept_refl E _, trivial⟩
  | v :: vs, x :: xs, E, s, K, M, kid, hR, hM, hk, h, hv => by
    obtain ⟨E1, u, s1, h1, h2, h3, h4, h5, h6, h7, h8⟩ := out_ok (kid := kid) hR hM hk h hv.1
    obtain ⟨E2, us, s2, g1, g2, g3, g4, g5, g6, g7, g8⟩ := outs_ok (kid := kid + nl u) h2 (by rw [h6]; exact hM) (by omega) h1 (Rvs.mono h5 (noneKM _ _) (noneKT _ _) hv.2)
    refine ⟨E2, u :: us, s2, g1, g2, g3.trans h3, g4.trans h4, trans_mono h5 g5 h3 g3 (fun i => by rw [h4]), g6.trans h6, fun k q hq b r hb => ?_, ?_, g8⟩
    · obtain ⟨a1, a2⟩ := h7 k q hq b r hb
      obtain ⟨b1, b2⟩ := g7 k q hq b r a1
      exact ⟨b1, b2.trans a2⟩
    · exact Rv.mono g5.bare (fun q hq => by cases hq) (fun k j hq hj => by cases hq; exact g7 j [] (by omega)) h8
  | [], _ :: _, E, s, K, M, kid, hR, hM, hk, h, hv => hv.elim
  | _ :: _, [], E, s, K, M, kid, hR, hM, hk, h, hv => hv.elim
end

def resOf (tmps : Array Value) : ResultVar → Sem Value
  | .tmp t => pure (tmps.getD t undef)
  | .cell a t => do loadVar t (← asAddr (tmps.getD a undef))
theorem res_ok (hΓ : TabOk P Γ) (hR : Rel C E s a) : ∀ {l : List ResultVar} {K : List V → Prop}, resK Γ s l K → ∃ vs xs, K vs ∧ Rvs E .none vs xs ∧ (l.mapM (resOf a.tmps)).run P E.w = .ok xs E.w
  | [], K, h => ⟨[], [], h, trivial, by simp⟩
  | .tmp t :: r, K, h => by
    obtain ⟨vs, xs, h1, h2, h3⟩ := res_ok hΓ hR (l := r) h
    refine ⟨_, a.tmps.getD t undef :: xs, h1, ⟨hR.slot t, h2⟩, ?_⟩
    simp only [List.mapM_cons, resOf, Sem.run_bind, Sem.run_pure, Result.andThen_ok, h3]
  | .cell x t :: r, K, h => by
    simp only [resK] at h
    split at h
    · rename_i i off ti hx ht
      split at h
      · rename_i cs hob
        split at h
        · rename_i c hc
          obtain ⟨vs, xs, h1, h2, h3⟩ := res_ok hΓ hR (l := r) h
          have hs := hR.slot x
          rw [hx] at hs
          obtain ⟨_, ad, hv, hl⟩ := hs
          have hT := hΓ _ _ ht
          obtain ⟨c', e, hh, h0, hlab, hrow⟩ := hR.ob i _ hob
          obtain ⟨hle, hreq, hlen⟩ := takeN_some hc
          have hrow' : Rrow E .none (E.ρ i).1 (0 + off) 0 c := by rw [hreq]; exact Rrow_take (Rrow_drop hrow)
          rw [Nat.zero_add] at hrow'
          obtain ⟨z, hz, hrz⟩ := loadVar_run (P := P) hT hrow' hlen (fun hf => by rw [hlen]; exact hT.one1 hf)
          refine ⟨_, z :: xs, h1, ⟨hrz, h2⟩, ?_⟩
          have had := hl (ob_live hR hob)
          rw [h0, Nat.zero_add] at had
          simp only [List.mapM_cons, resOf, Sem.run_bind, Sem.run_pure, Result.andThen_ok, hv, had, asAddr, hz, h3]
        · exact h.elim
      · exact h.elim
    · exact h.elim
theorem results_run {fn : Func} {w : World} {xs : List Value} (h : (fn.results.toList.mapM (resOf a.tmps)).run P w = .ok xs w) : (results fn a.tmps).run P w = .ok (match xs with | [x] => x | xs => .tuple xs.toArray) w := by
  have he : (results fn a.tmps) = (do let vs ← fn.results.mapM (resOf a.tmps); pure (if h : vs.size = 1 then vs[0] else .tuple vs)) := by
    unfold results
    rfl
  rw [he, Array.mapM_eq_mapM_toList]
  simp only [Sem.run_bind, Sem.run_map, h, Result.andThen_ok, Sem.run_pure]
  match xs with
  | [] => simp
  | [x] => simp
  | x :: y :: r => simp

theorem argT_lk : ∀ (vs : List V) (j k : Nat), lk (argT j vs) k = if j ≤ k then (vs[k - j]?).getD .any else .any
  | [], j, k => by simp [argT, lk]
  | v :: vs, j, k => by
    simp only [argT, lk]
    cases h : Nat.beq j k with
    | true =>
      have := Nat.eq_of_beq_eq_true h
      subst this
      simp
    | false =>
      have hne : j ≠ k := fun he => by rw [he] at h; simp at h
      simp only [cond_false]
      rw [argT_lk vs (j + 1) k]
      by_cases hjk : j ≤ k
      · rw [if_pos (by omega), if_pos hjk, show k - j = (k - (j + 1)) + 1 from by omega, List.getElem?_cons_succ]
      · rw [if_neg (by omega), if_neg hjk]

theorem Spec_of (hmx : P.follows .mixedOrders = true) (hΓ : TabOk P Γ) {f : FuncId} {fn : Func} {args : List V} {r : V} (hf : P.funcs[f]? = some fn) (hn : (fn.name == "runtime.NumGoroutine") = false) (h : FnVC Γ (SpecR P) fn args r) : Spec P f args r := by
  unfold FnVC at h
  cases hb : fn.body with
  | none => rw [hb] at h; exact h.elim
  | some c =>
  rw [hb] at h
  obtain ⟨hle, h⟩ := bif_true h
  rw [natK_eq, argK_eq] at h
  have hle := Nat.le_of_ble_eq_true hle
  refine ⟨⟨fn, c, hf, hn, hb⟩, fun w o0 xs hD hv => calls_of_wp hf hb ?_⟩
  have hlen := Rvs_len hv
  let C : Ctx := ⟨w, fun _ => False, o0, fun b p _ hp => (hD b p hp).1, 0, fun _ => (0, 0)⟩
  have hR : Rel C (baseE w o0) (startS fn args) { tmps := xs.toArray ++ Array.replicate (fn.ntmps - xs.toArray.size) undef, defers := [] } := by
    refine ⟨?_, rfl, fun k => ?_, ?_, rfl, fun i ob hi => (by cases hi), rfl, fun b p hp => ⟨(hD b p hp).2, .inl (hD b p hp).1⟩, ⟨rfl, rfl, rfl, Nat.le_refl _, fun _ _ _ => rfl, fun b c e h => ⟨c, h, rfl⟩⟩, fun _ _ _ => rfl, Nat.zero_le _, fun k hk => absurd hk (Nat.not_lt_zero _)⟩
    · simp [startS, ← hlen]
      omega
    · show Rv _ .none (lk (argT 0 args) k) _
      rw [argT_lk]
      simp only [Nat.zero_le, if_true, Nat.sub_zero]
      cases hk : args[k]? with
      | none => trivial
      | some v =>
        obtain ⟨x, hx, hr⟩ := Rvs_get hv k v hk
        have hlt : k < xs.length := (List.getElem?_eq_some_iff.1 hx).1
        have : (xs.toArray ++ Array.replicate (fn.ntmps - xs.toArray.size) undef).getD k undef = x := by
          rw [Array.getD_eq_getD_getElem?, Array.getElem?_append_left (by simpa using hlt)]
          simp [hx]
        simp only [Option.getD_some]
        rw [this]
        exact hr
    · funext i; rfl
  refine code_sound hmx hΓ (Nat.zero_le _) c hR h fun e s' E' a' he hR' => ?_
  have key : RetVC Γ fn r s' → a'.defers = [] ∧ ∃ v, (results fn a'.tmps).run P E'.w = .ok v E'.w ∧ (Below w.heap.size w E'.w ∧ ∃ o' : Lab, (∀ b, b < w.heap.size → o' b = o0 b) ∧ (∀ b p, o' b = some p → b < E'.w.heap.size) ∧ ∃ k0, Rv (baseE E'.w o') (.top k0) r v) := by
    intro hret
    refine ⟨hR'.nd, ?_⟩
    obtain ⟨vs, ys, h1, h2, h3⟩ := res_ok hΓ hR' hret
    obtain ⟨E2, us, s2, g1, g2, g3, g4, g5, g6, g7, g8⟩ := outs_ok (M := s'.g.length) (kid := s'.g.length) hR' (Nat.le_refl _) (Nat.le_refl _) h1 h2
    refine ⟨_, results_run h3, ⟨hR'.fr.os, hR'.fr.tape, hR'.fr.output, hR'.fr.size, fun k hk => hR'.fr.block k hk id⟩, E2.o, fun b hb => g2.old b hb id, fun b p hp => by rw [← g3]; exact (g2.lab b p hp).1, s'.g.length, ?_⟩
    have hbase : Rvs (baseE E'.w E2.o) (.top s'.g.length) us ys := by
      have hm : Mono E2.bare (baseE E'.w E2.o) := ⟨by show E2.w.heap.size ≤ E'.w.heap.size; rw [g3]; exact Nat.le_refl _, fun b _ hok => ⟨by have h' : E2.okb b := hok; rw [g2.okb] at h'; exact h', by show E'.w.heap[b]? = E2.w.heap[b]?; rw [g3]⟩, Nat.le_refl _, fun _ h _ => absurd h (Nat.not_lt_zero _), fun _ _ h _ => absurd h (Nat.not_lt_zero _)⟩
      have hkp : ∀ q, Kept E2.bare (baseE E'.w E2.o) q := fun q b r h => ⟨h, by show E'.w.heap[b]? = E2.w.heap[b]?; rw [g3]⟩
      exact Rvs.mono hm (fun q _ => hkp q) (fun k j _ _ => hkp _) g8
    subst g1
    match us, ys, hbase with
    | [], [], hb => exact ⟨[], rfl, trivial⟩
    | [u], [y], hb => exact hb.1
    | u :: u' :: us, y :: y' :: ys, hb => exact ⟨y :: y' :: ys, rfl, hb⟩
    | [_], [], hb => exact hb.elim
    | [_], _ :: _ :: _, hb => exact hb.2.elim
    | [], _ :: _, hb => exact hb.elim
    | _ :: _ :: _, [], hb => exact hb.elim
    | _ :: _ :: _, [_], hb => exact hb.2.elim
  cases e with
  | normal => exact key he
  | ret => exact key he
  | exit id => exact he.elim

/-! ### Functions that write to what they are lent -/
mutual
theorem impO_len : ∀ v : V, (impO v).length = nl v
  | .tr _ _ _ => rfl
  | .bp _ => rfl
  | .agg cs => impOs_len cs
  | .tup cs => impOs_len cs
  | .fn _ cs => impOs_len cs
  | .sc _ => rfl
  | .ro _ _ => rfl
  | .own _ _ _ _ _ _ => rfl
  | .sub _ _ => rfl
  | .ptr _ _ => rfl
  | .rp _ => rfl
  | .sp _ _ _ => rfl
  | .any => rfl
theorem impOs_len : ∀ vs : List V, (impOs vs).length = nls vs
  | [] => rfl
  | v :: vs => by simp only [impOs, nls, List.length_append, impO_len v, impOs_len vs]
end
theorem obOf_at : ∀ {pre : List (Option Obj)} {k : Nat} {x : Option Obj} {post : List (Option Obj)}, pre.length = k → obOf (pre ++ x :: post) k = x
  | [], k, x, post, h => by subst h; rfl
  | p :: pre, k, x, post, h => by
    subst h
    exact obOf_at (pre := pre) rfl
structure Fin2 (C : Ctx) (E1 E2 : Env) (s1 s2 : St) (o0 : Lab) : Prop where
  g1 : E1.g = s1.ob
  w1 : E1.w = C.w0
  o1 : E1.o = o0
  pp : C.pp = E1.ρ
  oo : C.o0 = o0
  mono : Mono (baseE C.w0 o0) (baseE E2.w E2.o)
mutual
theorem fin_ok {E2 : Env} {s1 s2 : St} {o0 : Lab} {a2 : Act} (hF : Fin2 C E E2 s1 s2 o0) (hR : Rel C E2 s2 a2) : ∀ {v : V} {x : Value} {k : Nat} {K : V → Prop} {pre post : List (Option Obj)}, s1.g = pre ++ (impO v ++ post) → pre.length = k → k + nl v ≤ C.np → Rv E .none (impV k v) x → Rv (baseE C.w0 o0) (.top k) v x → finK s2 k v K → ∃ u, K u ∧ nl u = nl v ∧ Rv (baseE E2.w E2.o) (.top k) u x
  | .tr sz n cs, x, k, K, pre, post, hg, hpre, hnp, hi, hv, h => by
    have hk : k < C.np := by simp only [nl] at hnp; omega
    have hal : (E.g k).isSome = true := by rw [hF.g1]; show (obOf s1.g k).isSome = true; rw [hg]; simp only [impO, List.cons_append, List.nil_append]; rw [obOf_at hpre]; rfl
    obtain ⟨_, A, cap, rfl, hlv⟩ := hi
    obtain ⟨hc, _, _, hbl⟩ := hlv hal
    simp only [finK] at h
    cases hob : s2.ob k with
    | none => rw [hob] at h; exact ⟨_, h, rfl, trivial⟩
    | some ob =>
    obtain ⟨bx, cs'⟩ := ob
    rw [hob] at h
    cases bx with
    | true => exact h.elim
    | false =>
    obtain ⟨hl, hK⟩ := h
    refine ⟨_, hK, rfl, A, cap, rfl, hc, hl, ?_⟩
    rcases hbl with h0 | ⟨c, e, hA, ho, hh, hs⟩
    · exact .inl h0
    · right
      obtain ⟨g1, g2⟩ := hR.pin.2 k hk (ob_live hR hob)
      have hpp : C.pp k = E.ρ k := by rw [hF.pp]
      rw [hpp] at g1 g2
      have hlab : E2.o (E.ρ k).1 = some [k] := g2 (by rw [hF.oo, ← hF.o1]; exact ho)
      obtain ⟨c', hc', hsz⟩ := hR.fr.shape _ c e (by rw [← hF.w1]; exact hh)
      refine ⟨(E.ρ k).1, (E.ρ k).2, [k], c', e, by rw [hA, Nat.add_zero], rfl, hlab, hc', by rw [hsz]; omega, ?_⟩
      rcases hR.ob k _ hob with h0 | ⟨c2, e2, _, _, hrow⟩
      · rw [h0]; trivial
      · rw [g1] at hrow
        have hm : Mono E2.bare (baseE E2.w E2.o) := ⟨Nat.le_refl _, fun b _ hok => ⟨by have h' : E2.okb b := hok; rw [hR.okb] at h'; exact h', rfl⟩, Nat.le_refl _, fun _ h _ => absurd h (Nat.not_lt_zero _), fun _ _ h _ => absurd h (Nat.not_lt_zero _)⟩
        exact Rrow.mono (E' := baseE E2.w E2.o) hm (fun q _ b r h => ⟨h, rfl⟩) rfl hrow
  | .bp cs, x, k, K, pre, post, hg, hpre, hnp, hi, hv, h => by
    have hk : k < C.np := by simp only [nl] at hnp; omega
    have hal : (E.g k).isSome = true := by rw [hF.g1]; show (obOf s1.g k).isSome = true; rw [hg]; simp only [impO, List.cons_append, List.nil_append]; rw [obOf_at hpre]; rfl
    obtain ⟨_, ad, rfl, hlv⟩ := hi
    have had := hlv hal
    subst had
    simp only [finK] at h
    cases hob : s2.ob k with
    | none => rw [hob] at h; exact ⟨_, h, rfl, trivial⟩
    | some ob =>
    obtain ⟨bx, cs'⟩ := ob
    rw [hob] at h
    cases bx with
    | true => exact h.elim
    | false =>
    obtain ⟨hne, hK⟩ := h
    obtain ⟨g1, g2⟩ := hR.pin.2 k hk (ob_live hR hob)
    have hpp : C.pp k = E.ρ k := by rw [hF.pp]
    rw [hpp] at g1
    rcases hR.ob k _ hob with h0 | ⟨c2, e2, hh, hl, hrow⟩
    · exact absurd h0 hne
    · rw [g1] at hrow hh hl
      have hm : Mono E2.bare (baseE E2.w E2.o) := ⟨Nat.le_refl _, fun b _ hok => ⟨by have h' : E2.okb b := hok; rw [hR.okb] at h'; exact h', rfl⟩, Nat.le_refl _, fun _ h _ => absurd h (Nat.not_lt_zero _), fun _ _ h _ => absurd h (Nat.not_lt_zero _)⟩
      exact ⟨_, hK, rfl, (E.ρ k).1, (E.ρ k).2, [k], c2, e2, rfl, rfl, hl, hh, hne, Rrow.mono (E' := baseE E2.w E2.o) hm (fun q _ b r h => ⟨h, rfl⟩) rfl hrow⟩
  | .sc v, x, k, K, pre, post, hg, hpre, hnp, hi, hv, h => ⟨_, h, rfl, hv⟩
  | .ro n cs, x, k, K, pre, post, hg, hpre, hnp, hi, hv, h => by
    refine ⟨_, h, rfl, ?_⟩
    have : Rv (baseE C.w0 o0) .none (.ro n cs) x := hv
    have h2 : Rv (baseE E2.w E2.o) .none (.ro n cs) x := Rv.mono hF.mono (noneKM _ _) (noneKT _ _) this
    exact h2
  | .rp cs, x, k, K, pre, post, hg, hpre, hnp, hi, hv, h => by
    refine ⟨_, h, rfl, ?_⟩
    have : Rv (baseE C.w0 o0) .none (.rp cs) x := hv
    have h2 : Rv (baseE E2.w E2.o) .none (.rp cs) x := Rv.mono hF.mono (noneKM _ _) (noneKT _ _) this
    exact h2
  | .agg cs, x, k, K, pre, post, hg, hpre, hnp, hi, hv, h => by
    obtain ⟨xs, rfl, hr⟩ := hi
    obtain ⟨xs', hx, hr'⟩ := hv
    simp only [Value.agg.injEq] at hx
    have hxx : xs = xs' := by simpa using congrArg Array.toList hx
    subst hxx
    obtain ⟨us, h1, h2, h3⟩ := fins_ok hF hR hg hpre hnp hr hr' h
    exact ⟨_, h1, h2, xs, rfl, h3⟩
  | .fn f cs, x, k, K, pre, post, hg, hpre, hnp, hi, hv, h => by
    obtain ⟨xs, rfl, hr⟩ := hi
    obtain ⟨xs', hx, hr'⟩ := hv
    simp only [Value.func.injEq] at hx
    have hxx : xs = xs' := by simpa using congrArg Array.toList hx.2.2
    subst hxx
    obtain ⟨us, h1, h2, h3⟩ := fins_ok hF hR hg hpre hnp hr hr' h
    exact ⟨_, h1, h2, xs, rfl, h3⟩
  | .own _ _ _ _ _ _, x, k, K, pre, post, hg, hpre, hnp, hi, hv, h => h.elim
  | .sub _ _, x, k, K, pre, post, hg, hpre, hnp, hi, hv, h => h.elim
  | .ptr _ _, x, k, K, pre, post, hg, hpre, hnp, hi, hv, h => h.elim
  | .sp _ _ _, x, k, K, pre, post, hg, hpre, hnp, hi, hv, h => h.elim
  | .tup _, x, k, K, pre, post, hg, hpre, hnp, hi, hv, h => h.elim
  | .any, x, k, K, pre, post, hg, hpre, hnp, hi, hv, h => h.elim
theorem fins_ok {E2 : Env} {s1 s2 : St} {o0 : Lab} {a2 : Act} (hF : Fin2 C E E2 s1 s2 o0) (hR : Rel C E2 s2 a2) : ∀ {vs : List V} {xs : List Value} {k : Nat} {K : List V → Prop} {pre post : List (Option Obj)}, s1.g = pre ++ (impOs vs ++ post) → pre.length = k → k + nls vs ≤ C.np → Rvs E .none (impVs k vs) xs → Rvs (baseE C.w0 o0) (.top k) vs xs → finsK s2 k vs K → ∃ us, K us ∧ nls us = nls vs ∧ Rvs (baseE E2.w E2.o) (.top k) us xs
  | [], [], k, K, pre, post, hg, hpre, hnp, hi, hv, h => ⟨[], h, rfl, trivial⟩
  | v :: vs, x :: xs, k, K, pre, post, hg, hpre, hnp, hi, hv, h => by
    have hlen : (impO v).length = nl v := impO_len v
    simp only [nls] at hnp
    obtain ⟨u, h1, h2, h3⟩ := fin_ok hF hR (v := v) (pre := pre) (post := impOs vs ++ post) (by rw [hg]; simp [impOs]) hpre (by omega) hi.1 hv.1 h
    obtain ⟨us, h4, h5, h6⟩ := fins_ok hF hR (vs := vs) (pre := pre ++ impO v) (post := post) (k := k + nl v) (by rw [hg]; simp [impOs]) (by simp [hpre, hlen]) (by omega) hi.2 hv.2 h1
    exact ⟨u :: us, h4, by simp only [nls, h2, h5], h3, by rw [show Md.next (nl u) (.top k) = .top (k + nl v) from by simp [Md.next, h2]]; exact h6⟩
  | [], _ :: _, k, K, pre, post, hg, hpre, hnp, hi, hv, h => hv.elim
  | _ :: _, [], k, K, pre, post, hg, hpre, hnp, hi, hv, h => hv.elim
end

theorem SpecL_of (hmx : P.follows .mixedOrders = true) (hΓ : TabOk P Γ) {f : FuncId} {fn : Func} {args : List V} {r o1 : V} {os : List V} (np : Nat) (hf : P.funcs[f]? = some fn) (hn : (fn.name == "runtime.NumGoroutine") = false) (hnp : nls args = np) (hn90 : np ≤ 90) (h : FnVCL np Γ (SpecR P) fn args r (o1 :: os)) : SpecR P f args r (o1 :: os) := by
  unfold FnVCL at h
  cases hb : fn.body with
  | none => rw [hb] at h; exact h.elim
  | some c =>
  rw [hb] at h
  obtain ⟨hle, h⟩ := bif_true h
  rw [natK_eq, forceL_eq, forceG_eq, argK_eq] at h
  have hle := Nat.le_of_ble_eq_true hle
  refine ⟨⟨fn, c, hf, hn, hb⟩, fun w o0 xs hD hv => calls_of_wp hf hb ?_⟩
  have hlen := Rvs_len hv
  let C0 : Ctx := ⟨w, Lent o0, o0, fun b p hnl hp => by
    cases p with
    | nil => rfl
    | cons k r => exact absurd ⟨k, r, hp⟩ hnl, 0, fun _ => (0, 0)⟩
  let a0 : Act := { tmps := xs.toArray ++ Array.replicate (fn.ntmps - xs.toArray.size) undef, defers := [] }
  have hR0 : Rel C0 (baseE w o0) ⟨fn.ntmps, [], []⟩ a0 := by
    refine ⟨?_, rfl, fun k => trivial, ?_, rfl, fun i ob hi => (by cases hi), rfl, fun b p hp => ⟨hD b p hp, ?_⟩, ⟨rfl, rfl, rfl, Nat.le_refl _, fun _ _ _ => rfl, fun b c e h => ⟨c, h, rfl⟩⟩, fun _ _ _ => rfl, Nat.zero_le _, fun k hk => absurd hk (Nat.not_lt_zero _)⟩
    · simp [a0, ← hlen]
      omega
    · funext i; rfl
    · cases p with
      | nil => exact .inl rfl
      | cons k r => exact .inr (.inr ⟨k, r, hp⟩)
  obtain ⟨E1, hR1, hw1, ho1, hm1, hv1, hl1⟩ := imps_ok hR0 (rs := args) (xs := xs) hv
  let C : Ctx := ⟨w, Lent o0, o0, C0.dull, np, E1.ρ⟩
  have hn1 : E1.n = np := by rw [hR1.n]; simp [hl1, hnp]
  have hR : Rel C E1 ⟨fn.ntmps, argT 0 (impVs 0 args), impOs args⟩ a0 := by
    have hob : ∀ i, ({ N := fn.ntmps, t := [], g := [] ++ impOs args } : St).ob i = ({ N := fn.ntmps, t := argT 0 (impVs 0 args), g := impOs args } : St).ob i := fun i => rfl
    refine ⟨hR1.size, hR1.nd, fun k => ?_, by rw [hR1.g]; funext i; exact hob i, hR1.n, fun i ob hi => hR1.ob i ob hi, hR1.okb, hR1.lab, ⟨hR1.fr.os, hR1.fr.tape, hR1.fr.output, hR1.fr.size, hR1.fr.block, hR1.fr.shape⟩, hR1.old, Nat.le_of_eq hn1.symm, fun k hk hs => ⟨rfl, fun h => by rw [ho1]; exact h⟩⟩
    show Rv E1 .none (lk (argT 0 (impVs 0 args)) k) _
    rw [argT_lk]
    simp only [Nat.zero_le, if_true, Nat.sub_zero]
    cases hk : (impVs 0 args)[k]? with
    | none => trivial
    | some v =>
      obtain ⟨x, hx, hr⟩ := Rvs_get hv1 k v hk
      have hlt : k < xs.length := (List.getElem?_eq_some_iff.1 hx).1
      have : a0.tmps.getD k undef = x := by
        show (xs.toArray ++ Array.replicate (fn.ntmps - xs.toArray.size) undef).getD k undef = x
        rw [Array.getD_eq_getD_getElem?, Array.getElem?_append_left (by simpa using hlt)]
        simp [hx]
      simp only [Option.getD_some]
      rw [this]
      exact hr
  have hgen : ∀ w1, w1 = w → ∀ Q, Code.wp P c Q a0 w1 → Code.wp P c Q a0 w := fun w1 h Q hq => h ▸ hq
  refine hgen E1.w hw1 _ ?_
  refine code_sound (C := C) hmx hΓ hn90 c hR h fun e s' E' a' he hR' => ?_
  have key : RetVCL Γ fn args r (o1 :: os) s' → a'.defers = [] ∧ ∃ v, (results fn a'.tmps).run P E'.w = .ok v E'.w ∧ (Grown w E'.w (Lent o0) ∧ ∃ o' : Lab, (∀ b, b < w.heap.size → ¬ Lent o0 b → o' b = o0 b) ∧ (∀ b p, o' b = some p → b < E'.w.heap.size) ∧ Rvs (baseE E'.w o') (.top 0) (o1 :: os) xs ∧ ∃ k0, nls args ≤ k0 ∧ Rv (baseE E'.w o') (.top k0) r v) := by
    intro hret
    refine ⟨hR'.nd, ?_⟩
    obtain ⟨vs, ys, h1, h2, h3⟩ := res_ok hΓ hR' hret
    obtain ⟨E2, us, s2, ⟨g1, gf⟩, g2, g3, g4, g5, g6, g7, g8⟩ := outs_ok (M := s'.g.length) (kid := s'.g.length) hR' (Nat.le_refl _) (Nat.le_refl _) h1 h2
    have hbm : Mono (baseE w o0) (baseE E2.w E2.o) := ⟨g2.fr.size, fun b hb hok => by
      have hok' : o0 b = none := hok
      have hnl : ¬ Lent o0 b := fun ⟨k, t, hk⟩ => by rw [hok'] at hk; cases hk
      exact ⟨by show E2.o b = none; rw [g2.old b hb hnl]; exact hok', g2.fr.block b hb hnl⟩, Nat.le_refl _, fun _ h _ => absurd h (Nat.not_lt_zero _), fun _ _ h _ => absurd h (Nat.not_lt_zero _)⟩
    obtain ⟨fs, f1, _, f3⟩ := fins_ok (C := C) (E := E1) (E2 := E2) (s1 := ⟨fn.ntmps, argT 0 (impVs 0 args), impOs args⟩) (s2 := s2) (o0 := o0) ⟨hR.g, hw1, ho1, rfl, rfl, hbm⟩ g2 (vs := args) (xs := xs) (k := 0) (pre := []) (post := []) (by simp) rfl (by show 0 + nls args ≤ np; omega) hv1 hv gf
    subst f1
    refine ⟨_, results_run h3, ⟨hR'.fr.os, hR'.fr.tape, hR'.fr.output, hR'.fr.size, fun k hk hl => hR'.fr.block k hk hl, hR'.fr.shape⟩, E2.o, fun b hb hl => g2.old b hb hl, fun b p hp => by rw [← g3]; exact (g2.lab b p hp).1, by rw [← g3]; exact f3, s'.g.length, by rw [hnp, ← hR'.n]; exact hR'.pin.1, ?_⟩
    have hbase : Rvs (baseE E'.w E2.o) (.top s'.g.length) us ys := by
      have hm : Mono E2.bare (baseE E'.w E2.o) := ⟨by show E2.w.heap.size ≤ E'.w.heap.size; rw [g3]; exact Nat.le_refl _, fun b _ hok => ⟨by have h' : E2.okb b := hok; rw [g2.okb] at h'; exact h', by show E'.w.heap[b]? = E2.w.heap[b]?; rw [g3]⟩, Nat.le_refl _, fun _ h _ => absurd h (Nat.not_lt_zero _), fun _ _ h _ => absurd h (Nat.not_lt_zero _)⟩
      have hkp : ∀ q, Kept E2.bare (baseE E'.w E2.o) q := fun q b r h => ⟨h, by show E'.w.heap[b]? = E2.w.heap[b]?; rw [g3]⟩
      exact Rvs.mono hm (fun q _ => hkp q) (fun k j _ _ => hkp _) g8
    subst g1
    match us, ys, hbase with
    | [], [], hb => exact ⟨[], rfl, trivial⟩
    | [u], [y], hb => exact hb.1
    | u :: u' :: us, y :: y' :: ys, hb => exact ⟨y :: y' :: ys, rfl, hb⟩
    | [_], [], hb => exact hb.elim
    | [_], _ :: _ :: _, hb => exact hb.2.elim
    | [], _ :: _, hb => exact hb.elim
    | _ :: _ :: _, [], hb => exact hb.elim
    | _ :: _ :: _, [_], hb => exact hb.2.elim
  cases e with
  | normal => exact key he
  | ret => exact key he
  | exit id => exact he.elim
end
end Go.Proofs.YtiplgkbgkmomlaaD
