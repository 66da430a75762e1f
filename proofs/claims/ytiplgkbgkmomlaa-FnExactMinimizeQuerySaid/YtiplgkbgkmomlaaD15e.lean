/- A call that writes, carried out. -/
import Derived.Test.YtiplgkbgkmomlaaD15d
set_option linter.unusedVariables false
set_option linter.unusedSimpArgs false
namespace Go.Proofs.YtiplgkbgkmomlaaD
open Go Go.RowKit

mutual
theorem back_det : ∀ {v u : V} {s : St} {K : St → Prop}, backK s v u K → ∃ st, K st ∧ ∀ K' : St → Prop, K' st → backK s v u K'
  | .own i sz off n lo hi, u, s, K, h => by
    cases u <;> simp only [backK] at h ⊢ <;> first | exact h.elim | exact ⟨_, h, fun K' h => h⟩
  | .ptr i off, u, s, K, h => by
    cases u <;> simp only [backK] at h ⊢ <;> first | exact h.elim | exact ⟨_, h, fun K' h => h⟩
  | .sub i j, u, s, K, h => by
    cases u <;> simp only [backK] at h ⊢ <;> try exact h.elim
    · split at h
      · obtain ⟨cs', hc, h⟩ := h
        exact ⟨_, h, fun K' h => ⟨cs', hc, h⟩⟩
      · exact h.elim
    · split at h
      · exact ⟨_, h, fun K' h => h⟩
      · exact h.elim
  | .sc v, u, s, K, h => by
    cases u <;> simp only [backK] at h ⊢ <;> first | exact h.elim | exact ⟨_, h, fun K' h => h⟩
  | .ro n cs, u, s, K, h => by
    cases u <;> simp only [backK] at h ⊢ <;> first | exact h.elim | exact ⟨_, h, fun K' h => h⟩
  | .rp cs, u, s, K, h => by
    cases u <;> simp only [backK] at h ⊢ <;> first | exact h.elim | exact ⟨_, h, fun K' h => h⟩
  | .agg cs, u, s, K, h => by
    cases u <;> simp only [backK] at h ⊢ <;> try exact h.elim
    exact backs_det h
  | .fn f cs, u, s, K, h => by
    cases u <;> simp only [backK] at h ⊢ <;> try exact h.elim
    exact backs_det h
  | .tr _ _ _, u, s, K, h => h.elim
  | .bp _, u, s, K, h => h.elim
  | .sp _ _ _, u, s, K, h => h.elim
  | .tup _, u, s, K, h => h.elim
  | .any, u, s, K, h => h.elim
theorem backs_det : ∀ {vs us : List V} {s : St} {K : St → Prop}, backsK s vs us K → ∃ st, K st ∧ ∀ K' : St → Prop, K' st → backsK s vs us K'
  | [], [], s, K, h => ⟨s, h, fun K' h => h⟩
  | v :: vs, u :: us, s, K, h => by
    obtain ⟨s1, h1, h2⟩ := back_det (v := v) (u := u) h
    obtain ⟨s2, h3, h4⟩ := backs_det (vs := vs) h1
    exact ⟨s2, h3, fun K' hk => h2 _ (h4 _ hk)⟩
  | [], _ :: _, s, K, h => h.elim
  | _ :: _, [], s, K, h => h.elim
end

section
variable {P : Program} {Γ : Tab} {C : Ctx} {E : Env} {s : St} {a : Act} {o : Oper} {K : V → St → Prop}

def backP (τ : Tgts) (m k0 N : Nat) (fz : Bool) : Option (List Nat) → Option (List Nat)
  | none => none
  | some [] => some []
  | some (h :: t) => if h < m then (match bwd τ h with
      | some q => some (q ++ t)
      | none => some []) else if k0 ≤ h then (if fz then none else some ((N + (h - k0)) :: t)) else some []
def lab3 (E : Env) (τ : Tgts) (m k0 N : Nat) (fz : Bool) (o' : Lab) : Lab := fun b => if b < E.w.heap.size ∧ (E.o b).bind (fwd τ) = none then E.o b else backP τ m k0 N fz (o' b)
def Env.lc (E : Env) (τ : Tgts) (m k0 N : Nat) (fz : Bool) (w' : World) (o' : Lab) (g : Nat → Option Obj) : Env :=
  { w := w', o := lab3 E τ m k0 N fz o', ρ := E.ρ, g := g, n := E.n, okb := fun b => lab3 E τ m k0 N fz o' b = none }
def labR (k0 : Nat) (o' : Lab) : Lab := fun b => match o' b with
  | some (h :: t) => if k0 ≤ h then some (h :: t) else some []
  | x => x

theorem lcall_ok (hR : Rel C E s a) {vs : List V} {xs : List Value} (hv : Rvs E .none vs xs) {f : FuncId} (h : lcallK (SpecR P) s f vs K) :
    Enters P f ∧ Calls P f xs.toArray E.w fun e w' => match e with
      | .returned x => ∃ E' v s', E'.w = w' ∧ K v s' ∧ Rel C E' s' a ∧ Rv E' .none v x
      | _ => False := by
  unfold lcallK at h
  obtain ⟨us, X, τ, hK, hL⟩ := lends_ok hR (X := []) (τ := []) (kid := 0) h hv ⟨⟨fun k q k' q' h => (by cases h), fun k q q' h => (by cases h)⟩, fun k q h => (by cases h), fun k q h => (by cases h), fun i h => (by cases h), fun i j h => (by cases h)⟩
  obtain ⟨hns, r, o1, os, ⟨hen, hspec⟩, hback⟩ := bifTr hK
  simp only [Bool.and_eq_true] at hns
  obtain ⟨st0, hK0, hdet⟩ := backs_det hback
  refine ⟨hen, ?_⟩
  have hext : Ext X τ τ (0 + nls us) := ⟨fun e h => h, fun k q h _ => h, fun l _ k h => h⟩
  have hgive := hL.give τ hext hL.tgt.inc
  have hlt : ∀ b p, E.o b = some p → b < E.w.heap.size := fun b p h => (hR.lab b p h).1
  refine Calls.mono (hspec E.w (lab0 E τ) xs (fun b p h => by
    simp only [lab0, Option.map_eq_some_iff] at h
    obtain ⟨q, hq, _⟩ := h
    exact hlt b q hq) hgive) fun e w' he => ?_
  cases e with
  | panicked chain => exact he.elim
  | outgrown => exact he.elim
  | returned x =>
  obtain ⟨hG, o', hold', hbd, houts, k0, hk0, hr⟩ := he
  -- lent blocks
  have hnl : ∀ b, (E.o b).bind (fwd τ) = none → ¬ Lent (lab0 E τ) b := by
    rintro b hb ⟨k, t, hk⟩
    simp only [lab0, Option.map_eq_some_iff] at hk
    obtain ⟨q, hq, hqq⟩ := hk
    rw [hq] at hb
    simp only [Option.bind_some] at hb
    rw [hb] at hqq
    simp at hqq
  have hlab0 : ∀ b, (E.o b).bind (fwd τ) = none → lab0 E τ b = none ∨ lab0 E τ b = some [] := by
    intro b hb
    cases ho : E.o b with
    | none => left; simp [lab0, ho]
    | some p => right; rw [ho] at hb; simp only [Option.bind_some] at hb; simp [lab0, ho, hb]
  have hno' : ∀ b, b < E.w.heap.size → (E.o b).bind (fwd τ) = none → ∀ h t, o' b ≠ some (h :: t) := by
    intro b hb hn h t ho
    rw [hold' b hb (hnl b hn)] at ho
    rcases hlab0 b hn with h1 | h1 <;> rw [h1] at ho <;> cases ho
  have hfree' : ∀ b, b < E.w.heap.size → (E.o b).bind (fwd τ) = none → o' b = none → E.o b = none := by
    intro b hb hn ho
    rw [hold' b hb (hnl b hn)] at ho
    simpa [lab0] using ho
  have hm : 0 + nls us = nls us := Nat.zero_add _
  have hLC : ∀ fz g, LC E τ (E.lc τ (nls us) k0 s.g.length fz w' o' g) w' o' := by
    intro fz g
    refine ⟨rfl, rfl, fun k q hkq b t hb => ⟨?_, rfl⟩, ⟨Nat.le_refl _, fun b _ hok => ⟨?_, rfl⟩, Nat.le_refl _, fun _ h _ => absurd h (Nat.not_lt_zero _), fun _ _ h _ => absurd h (Nat.not_lt_zero _)⟩, fun b p ho hf => ?_, fun b hb ho => ?_, hG.size⟩
    · have hb' : o' b = some (k :: t) := by simpa [baseE] using hb
      show lab3 E τ (nls us) k0 s.g.length fz o' b = some (q ++ t)
      unfold lab3
      rw [if_neg (fun hc => hno' b hc.1 hc.2 _ _ hb'), hb']
      have hklt := hL.tgt.lt k q hkq
      simp only [backP]
      rw [if_pos (by omega), bwd_of hL.tgt.inc hkq]
    · have hok' : o' b = none := hok
      show lab3 E τ (nls us) k0 s.g.length fz o' b = none
      unfold lab3
      split
      · rename_i hc; exact hfree' b hc.1 hc.2 hok'
      · rw [hok']; rfl
    · have hb := hlt b p ho
      have hbn : (E.o b).bind (fwd τ) = none := by rw [ho]; exact hf
      refine ⟨?_, hG.block b hb (hnl b hbn)⟩
      show lab3 E τ (nls us) k0 s.g.length fz o' b = _
      unfold lab3
      rw [if_pos ⟨hb, hbn⟩, ho]
    · have hbn : (E.o b).bind (fwd τ) = none := by rw [ho]; rfl
      refine ⟨?_, hG.block b hb (hnl b hbn)⟩
      show lab3 E τ (nls us) k0 s.g.length fz o' b = none
      unfold lab3
      rw [if_pos ⟨hb, hbn⟩, ho]
  have hRI : ∀ fz g, RI E s X τ (E.lc τ (nls us) k0 s.g.length fz w' o' g) (0 + nls us) st0 := by
    intro fz g
    obtain ⟨_, st', hst, hI⟩ := hL.back (K' := fun st => st = st0) (fun e h => h) hext hL.tgt (hLC fz g) (RI.start hR hL.tgt (hLC fz g)) houts (hdet _ rfl)
    rw [← hst]
    exact hI
  have hnoP : ∀ q, ¬ Pd τ (0 + nls us) q := fun q ⟨k, h1, h2⟩ => by have := hL.tgt.lt k q h2; omega
  have hRel : ∀ fz, Rel C (E.lc τ (nls us) k0 s.g.length fz w' o' st0.ob) st0 a := by
    intro fz
    have hI := hRI fz st0.ob
    have hLc := hLC fz st0.ob
    have hdl : ∀ b, b < C.w0.heap.size → ¬ C.lent b → (E.o b).bind (fwd τ) = none := by
      intro b hb hl
      have ho := hR.old b hb hl
      cases hq : C.o0 b with
      | none => rw [ho, hq]; rfl
      | some q =>
        have := C.dull b q hl hq
        subst this
        rw [ho, hq]
        simp only [Option.bind_some]
        refine fwd_none fun k q t hm he => ?_
        rcases hL.tgt.at_ k q hm with ⟨i', rfl, _⟩ | ⟨i', j', rfl, _⟩ <;> simp at he
    refine Rel.ofX (X := X) hR ⟨hG.size, fun b hb hok => ?_, Nat.le_refl _, fun i hi hs => ⟨by rw [hR.g]; exact hI.live i hs, rfl, fun ho => .inl (hI.lab i hs (hnoP _) ho), fun c e hc => hG.shape _ c e hc⟩, fun i j hnw hi ht => ?_⟩ hI.N hI.t hns.1 hns.2 rfl (by show E.n = _; rw [hR.n, hI.len]) (fun i cs hi => ?_) (hI.done hL.tgt.lt rfl) rfl (fun b p hp => ?_) ?_ (fun b hb hl => ?_)
    · rw [hR.okb] at hok
      exact hLc.free b hb hok
    · have hX := noWhole_mem hnw
      have ht' := (hI.tr i j ht).resolve_right hX
      refine ⟨by rw [hR.g]; exact ht', ?_⟩
      obtain ⟨cs, sz, n, rr, hob, hj⟩ := ht'
      obtain ⟨A, cap, hc, _⟩ := sub_row hR hob hj
      rw [hc]
      exact hI.sub i j _ ⟨cs, sz, n, rr, hob, hj⟩ hX hc
    · have hs := hI.box i cs hi
      refine ⟨hs, ?_⟩
      obtain ⟨c, e, hh, _, hl, _⟩ := hR.ob i _ hs
      refine (hLc.keep _ _ hl (tgt_fwd_ne hL.tgt (i := i) fun hx => ?_)).2
      obtain ⟨cs', hcs⟩ := hL.tgt.row i hx
      rw [hs] at hcs
      cases hcs
    · have hp' : lab3 E τ (nls us) k0 s.g.length fz o' b = some p := hp
      have hsz : E.w.heap.size ≤ w'.heap.size := hG.size
      by_cases hb : b < E.w.heap.size
      · refine ⟨Nat.lt_of_lt_of_le hb hsz, ?_⟩
        unfold lab3 at hp'
        split at hp'
        · exact (hR.lab b p hp').2
        · rename_i hc
          cases ho : E.o b with
          | none => exact absurd ⟨hb, by rw [ho]; rfl⟩ hc
          | some q =>
            rcases (hR.lab b q ho).2 with rfl | h2
            · exfalso
              refine hc ⟨hb, ?_⟩
              rw [ho]
              simp only [Option.bind_some]
              refine fwd_none fun k q t hm he => ?_
              rcases hL.tgt.at_ k q hm with ⟨i', rfl, _⟩ | ⟨i', j', rfl, _⟩ <;> simp at he
            · exact .inr h2
      · refine ⟨?_, .inr (.inl (by have := hR.fr.size; omega))⟩
        unfold lab3 at hp'
        rw [if_neg (fun hc => hb hc.1)] at hp'
        cases ho : o' b with
        | none => rw [ho] at hp'; cases hp'
        | some q => exact hbd b q ho
    · have hf := hR.fr
      exact ⟨hG.os.trans hf.os, hG.tape.trans hf.tape, hG.output.trans hf.output, Nat.le_trans hf.size hG.size, fun k hk hl => (hG.block k (Nat.lt_of_lt_of_le hk hf.size) (hnl k (hdl k hk hl))).trans (hf.block k hk hl), fun b c e hc => by
        obtain ⟨c1, g1, g2⟩ := hf.shape b c e hc
        obtain ⟨c2, g3, g4⟩ := hG.shape b c1 e g1
        exact ⟨c2, g3, g4.trans g2⟩⟩
    · show lab3 E τ (nls us) k0 s.g.length fz o' b = _
      unfold lab3
      rw [if_pos ⟨Nat.lt_of_lt_of_le hb hR.fr.size, hdl b hb hl⟩]
      exact hR.old b hb hl
  -- the result
  have hrR : Rv (baseE w' (labR k0 o')) (.top k0) r x := by
    refine Rv.mono (E := baseE w' o') (E' := baseE w' (labR k0 o')) ⟨Nat.le_refl _, fun b _ hok => ⟨?_, rfl⟩, Nat.le_refl _, fun _ h _ => absurd h (Nat.not_lt_zero _), fun _ _ h _ => absurd h (Nat.not_lt_zero _)⟩ (fun q hq => by cases hq) (fun k j hk hj b t hb => ⟨?_, rfl⟩) hr
    · have hok' : o' b = none := hok
      show labR k0 o' b = none
      simp [labR, hok']
    · cases hk
      have hb' : o' b = some (j :: t) := by simpa [baseE] using hb
      show labR k0 o' b = _
      simp [labR, hb', hj]
  have hres : ∀ b q, q ≠ [] → labR k0 o' b = some q → ∃ h t, q = h :: t ∧ o' b = some (h :: t) ∧ k0 ≤ h := by
    intro b q hq hb
    unfold labR at hb
    split at hb
    · rename_i h t ho
      split at hb
      · rename_i hle
        cases hb
        exact ⟨h, t, rfl, ho, hle⟩
      · cases hb; exact absurd rfl hq
    · rename_i hne
      cases q with
      | nil => exact absurd rfl hq
      | cons h t => exact absurd hb (hne h t)
  have hnone : ∀ b, labR k0 o' b = none → o' b = none := by
    intro b hb
    unfold labR at hb
    split at hb
    · split at hb <;> cases hb
    · exact hb
  have hfr : ∀ fz b, labR k0 o' b = none → (E.lc τ (nls us) k0 s.g.length fz w' o' st0.ob).okb b := by
    intro fz b hb
    have ho := hnone b hb
    show lab3 E τ (nls us) k0 s.g.length fz o' b = none
    unfold lab3
    split
    · rename_i hc; exact hfree' b hc.1 hc.2 ho
    · rw [ho]; rfl
  have hnew : ∀ fz b h t, o' b = some (h :: t) → k0 ≤ h → lab3 E τ (nls us) k0 s.g.length fz o' b = if fz then none else some ((s.g.length + (h - k0)) :: t) := by
    intro fz b h t ho hle
    unfold lab3
    rw [if_neg (fun hc => hno' b hc.1 hc.2 _ _ ho), ho]
    simp only [backP]
    rw [if_neg (by omega), if_pos hle]
  rcases hK0 with hK0 | hK0
  · refine ⟨_, _, st0, rfl, hK0, hRel true, ?_⟩
    refine Rv.freeze (G := baseE w' (labR k0 o')) (F := E.lc τ (nls us) k0 s.g.length true w' o' st0.ob) (full := True) rfl rfl (fun _ b hb => hfr true b hb) (fun b q hq hb => ?_) (m := .top k0) (fun q hq => by cases hq) (.inl trivial) hrR
    obtain ⟨h, t, rfl, ho, hle⟩ := hres b q hq hb
    exact hnew true b h t ho hle
  · have hlen : st0.g.length = s.g.length := (hRI false st0.ob).len
    have hv1 : Rv (E.lc τ (nls us) k0 s.g.length false w' o' st0.ob).bare (.top st0.g.length) r x := by
      have e : Md.sh k0 s.g.length (.top k0) = .top st0.g.length := by simp [Md.sh, hlen]
      rw [← e]
      refine Rv.sh (G := baseE w' (labR k0 o')) (F := E.lc τ (nls us) k0 s.g.length false w' o' st0.ob) (full := True) rfl rfl (fun _ b hb => hfr false b hb) (fun b q hq hb => ?_) (m := .top k0) (k0 := k0) (N := s.g.length) (Nat.le_refl _) (.inl trivial) hrR
      obtain ⟨h, t, rfl, ho, hle⟩ := hres b q hq hb
      exact hnew false b h t ho hle
    obtain ⟨E', h1, h2, h3, h4, h5, h6⟩ := imp_ok (hRel false) hv1
    exact ⟨E', _, _, h2, hK0, h1, h5⟩

/-- A call, of a function or of a function value. -/
theorem op_calls {f : FuncId} (hR : Rel C E s a) (l : Bool) {vs : List V} {xs : List Value} (hv : Rvs E .none vs xs) (hx : ∀ w, Enters P f → (execOp a.eval o).run P w = .ok (.enter f xs.toArray) w) (h : callsK (SpecR P) l s f vs K) : OpOk P C E s a o K := by
  have plain : callK (SpecR P) s f vs K → OpOk P C E s a o K := by
    intro h
    unfold callK at h
    obtain ⟨us, ⟨r, ⟨hen, hspec⟩, hc, hK⟩, hu⟩ := snaps_ok hR (ro := roOnlys vs) (fun h => h) h hv
    intro next Q hn
    rw [hx _ hen]
    show Calls P f _ E.w _
    refine Calls.mono (hspec E.w (dull E (roOnlys vs)) _ (dull_ok hR _) hu) fun e w' he => ?_
    cases e with
    | returned x =>
      obtain ⟨hb, o', h1, h2, k0, h3⟩ := he
      obtain ⟨E', v, s', hw, hK', hR', hv'⟩ := back_ok hR hb h1 h2 h3 hc hK
      have := hn v s' E' x hK' hR' hv'
      rwa [hw] at this
    | panicked chain => exact he.elim
    | outgrown => exact he.elim
  have lent : lcallK (SpecR P) s f vs K → OpOk P C E s a o K := by
    intro h
    obtain ⟨hen, hcalls⟩ := lcall_ok hR hv h
    intro next Q hn
    rw [hx _ hen]
    show Calls P f _ E.w _
    refine Calls.mono hcalls fun e w' he => ?_
    cases e with
    | returned x =>
      obtain ⟨E', v, s', hw, hK', hR', hv'⟩ := he
      have := hn v s' E' x hK' hR' hv'
      rwa [hw] at this
    | panicked chain => exact he.elim
    | outgrown => exact he.elim
  unfold callsK at h
  split at h
  · exact plain h
  · exact h.elim plain lent
theorem op_callsV {f : FuncId} (hR : Rel C E s a) (l : Bool) {vs : List V} {xs : List Value} (hv : Rvs E .none vs xs) (hx : ∀ w, Enters P f → (execOp a.eval o).run P w = .ok (.enter f xs.toArray) w) (h : callsV (SpecR P) l s f vs K) : OpOk P C E s a o K := by
  have given : fcallK (SpecR P) s f vs K → OpOk P C E s a o K := by
    rintro ⟨D, hD, h⟩
    obtain ⟨us, ⟨r, ⟨hen, hspec⟩, g, rfl, hK⟩, hu⟩ := snaps_frz hR hD h hv
    have hR1 := rel_frz hR D
    have hK' : K (roV r) { s with g := dropG D 0 s.g } ∨ K (impV (dropG D 0 s.g).length r) { s with g := dropG D 0 s.g ++ impO r } := by
      rw [dropG_len]
      exact hK
    intro next Q hn
    rw [hx _ hen]
    show Calls P f _ E.w _
    refine Calls.mono (hspec E.w (dull (E.frz D) true) _ (dull_ok hR1 true) hu) fun e w' he => ?_
    cases e with
    | returned x =>
      obtain ⟨hb, o', h1, h2, k0, h3⟩ := he
      obtain ⟨E', v, s', hw, hK', hR', hv'⟩ := back_ok hR1 hb h1 h2 h3 (.inl rfl) hK'
      have := hn v s' E' x hK' hR' hv'
      rwa [hw] at this
    | panicked chain => exact he.elim
    | outgrown => exact he.elim
  have two : callsK (SpecR P) l s f vs K → OpOk P C E s a o K := op_calls hR l hv hx
  unfold callsV at h
  unfold callsK at two
  cases hb : roOnlys vs || !l with
  | true =>
    rw [hb] at h two
    exact two h
  | false =>
    rw [hb] at h two
    rcases h with h | h | h
    · exact two (.inl h)
    · exact two (.inr h)
    · exact given h
theorem Rvs_app {E : Env} : ∀ {cs ds : List V} {xs ys : List Value}, Rvs E .none cs xs → Rvs E .none ds ys → Rvs E .none (cs ++ ds) (xs ++ ys)
  | [], ds, [], ys, _, h => h
  | c :: cs, ds, x :: xs, ys, h1, h2 => ⟨h1.1, Rvs_app h1.2 h2⟩
  | [], _, _ :: _, _, h, _ => h.elim
  | _ :: _, _, [], _, h, _ => h.elim
theorem exec_callV {f : FuncId} {t : Nat} {args : Array Operand} {ts : Array TypeId} {ys : List Value} (ho : o.op = .call { callee := .value (.tmp t), args, argTypes := ts }) (hf : a.eval (.tmp t) = .func (.func f) #[] ys.toArray) (h : Enters P f) (w : World) : (execOp a.eval o).run P w = .ok (.enter f (args.toList.map a.eval ++ ys).toArray) w := by
  have he : ((args.toList.map a.eval ++ ys).toArray : Array Value) = args.map a.eval ++ ys.toArray := by
    apply Array.toList_inj.1; simp
  rw [he]
  simp only [execOp, ho, resolve, hf, Deferred.ofValue, Sem.run_bind, Sem.run_pure, Result.andThen_ok, invoke, Array.append_empty, Array.empty_append]
  exact run_callFunc_enter h _ _
theorem op_makeFunc {f : FuncId} {first captured : Array Operand} (ho : o.op = .makeFunc (.func f) first captured) (h0 : first.toList = []) (hR : Rel C E s a) (h : K (.fn f (captured.toList.map (ev s))) s) : OpOk P C E s a o K := by
  have hf : first = #[] := Array.toList_inj.1 h0
  subst hf
  refine opOk_sem hR (c := Instr.makeFunc (.func f) (#[] : Array Value) (captured.map a.eval)) (x := .func (.func f) #[] (captured.map a.eval)) (by simp only [execOp, ho, Array.map_empty]) (by simp [Instr.makeFunc]) h ?_
  exact ⟨captured.toList.map a.eval, by congr 1; apply Array.toList_inj.1; simp, evs_ok hR captured.toList⟩
end
end Go.Proofs.YtiplgkbgkmomlaaD
