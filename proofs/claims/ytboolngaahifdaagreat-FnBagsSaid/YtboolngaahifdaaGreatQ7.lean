/- Contracts and plain laws of this seat; no condition. -/
import Derived.Test.YtboolngaahifdaaGreatQ5
import Derived.Test.YtboolngaahifdaaGreatQ6
import Derived.Orders
set_option linter.unusedVariables false
set_option linter.unusedSimpArgs false
namespace Go.Proofs.YtboolngaahifdaaGreatD
open Go Go.RowKit
section
variable {P : Program} {ex : Exs} {Γ : Tab} {C : Ctx} {E : Env} {s : St} {a : Act} {o : Oper} {K : V → St → Prop}
theorem KH (p : Nat → Prop) (h : ∃ n, p n) : ∃ n, p n ∧ ∀ m, p m → n ≤ m := by
 obtain ⟨n, hn⟩ := h
 induction n using Nat.strongRecOn with
 | _ n ih =>
  by_cases hx : ∃ m, m < n ∧ p m
  ·obtain ⟨m, hm, hp⟩ := hx
   exact ih m hm hp
  ·exact ⟨n, hn, fun m hm => Nat.le_of_not_lt fun hlt => hx ⟨m, hlt, hm⟩⟩
theorem XO : ∀ (t : List (Nat × V)) (d : Nat) (v : V) (k : Nat), lk (up t d v) k = if k = d then v else lk t k
 | [], d, v, k => by
  simp only [up, lk]
  cases h : Nat.beq d k with
  | true => rw [if_pos (Nat.eq_of_beq_eq_true h).symm]; rfl
  | false => rw [if_neg (fun he => by rw [he] at h; simp at h)]; rfl
 | (j, u) :: r, d, v, k => by
  simp only [up]
  cases h1 : Nat.beq j d with
  | true =>
   have hjd := Nat.eq_of_beq_eq_true h1
   subst hjd
   simp only [cond_true, lk]
   cases h : Nat.beq j k with
   | true => rw [if_pos (Nat.eq_of_beq_eq_true h).symm]; rfl
   | false => rw [if_neg (fun he => by rw [he] at h; simp at h)]; rfl
  | false =>
   simp only [cond_false]
   cases h2 : Nat.blt d j with
   | true =>
    simp only [cond_true, lk]
    cases h : Nat.beq d k with
    | true => rw [if_pos (Nat.eq_of_beq_eq_true h).symm]; rfl
    | false => rw [if_neg (fun he => by rw [he] at h; simp at h)]; rfl
   | false =>
    simp only [cond_false, lk]
    cases h : Nat.beq j k with
    | true =>
     have hjk := Nat.eq_of_beq_eq_true h
     rw [if_neg (fun he => by rw [← he, ← hjk] at h1; simp at h1)]
     rfl
    | false =>
     simp only [cond_false]
     exact XO r d v k
theorem a2P (hR : Rel C E s a) {d : Nat} {v : V} {x : Value} (hd : d < s.N) (hv : Rv E .none v x) : Rel C E { s with t := up s.t d v } (a.put (some d) x) := by
 refine ⟨by simp [Act.put, hR.size], hR.nd, fun k => ?_, hR.g, hR.n, hR.ob, hR.okb, hR.lab, hR.fr, hR.old, hR.pin⟩
 rw [XO]
 have hsz := hR.size
 by_cases hk : k = d
 ·rw [if_pos hk]
  subst hk
  have : (a.put (some k) x).tmps.getD k undef = x := by
   simp [Act.put, Array.getD, hsz, hd]
  rw [this]
  exact hv
 ·rw [if_neg hk]
  have : (a.put (some d) x).tmps.getD k undef = a.tmps.getD k undef := by
   simp only [Act.put, Array.getD_eq_getD_getElem?, Array.getElem?_setIfInBounds]
   rw [if_neg (fun h => hk h.symm)]
  rw [this]
  exact hR.slot k
theorem pE (hR : Rel C E s a) {d : Option Nat} {v : V} {x : Value} {K : St → Prop} (h : sU s d v K) (hv : Rv E .none v x) : ∃ s', K s' ∧ Rel C E s' (a.put d x) := by
 rw [S7] at h
 cases d with
 | none => exact ⟨s, h, hR⟩
 | some d =>
  obtain ⟨h1, h2⟩ := dK h
  exact ⟨_, h2, a2P hR (by have := Nat.le_of_ble_eq_true h1; omega) hv⟩
theorem qT (hR : Rel C E s a) {ops : Array Oper} {yes no : Prop} (h : mJ s ops o yes no) : (Region.wanted o (yielded ops a.tmps) = true ∧ yes) ∨ (Region.wanted o (yielded ops a.tmps) = false ∧ no) := by
 rw [vT] at h
 unfold wX at h
 cases hg : o.guard with
 | none => rw [hg] at h; exact .inl ⟨by simp [Region.wanted, hg], h⟩
 | some jw =>
  obtain ⟨j, want⟩ := jw
  rw [hg] at h
  simp only at h
  split at h
  ·rename_i b hb
   cases hd : (ops[j]?).bind (·.dst) with
   | none => rw [hd] at hb; cases hb
   | some d =>
    rw [hd] at hb
    simp only [Option.map_some, Option.some.injEq] at hb
    have hs := hR.slot d
    rw [hb] at hs
    have hx : a.tmps.getD d undef = .bool b := hs.1
    have hlt : a.tmps[d]? = some (.bool b) := by
     rw [Array.getD_eq_getD_getElem?] at hx
     cases hq : a.tmps[d]? with
     | none => rw [hq] at hx; simp [undef] at hx
     | some y => rw [hq] at hx; simp at hx; rw [hx]
    have hy : yielded ops a.tmps j = some b := by simp [yielded, hd, hlt]
    cases b <;> cases want <;> simp_all [Region.wanted]
  ·rename_i hb
   right
   refine ⟨?_, h⟩
   cases hd : (ops[j]?).bind (·.dst) with
   | none => rw [hd] at hb; cases hb
   | some d =>
    rw [hd] at hb
    simp only [Option.map_some, Option.some.injEq] at hb
    have hs := hR.slot d
    rw [hb] at hs
    obtain ⟨xs, hx, hxs⟩ := hs
    have hxn : xs = [] := by
     cases xs with
     | nil => rfl
     | cons _ _ => exact hxs.elim
    rw [hxn] at hx
    have hy : yielded ops a.tmps j = none := by
     simp only [yielded, hd, Option.bind_some]
     rw [Array.getD_eq_getD_getElem?] at hx
     cases hq : a.tmps[d]? with
     | none => rfl
     | some y => rw [hq] at hx; simp at hx; rw [hx]
    simp [Region.wanted, hg, hy]
  ·exact h.elim
theorem A8 (hΓ : fD P Γ) {ops : Array Oper} {K : St → Prop} {Q : Exit → Act → World → Prop} (hQ : ∀ s' E' a', K s' → Rel C E' s' a' → Q .normal a' E'.w) :
  ∀ (os : List Oper) (l : List Nat) {s : St} {E : Env} {a : Act}, l.map (ops[·]?) = os.map some → Rel C E s a → T2 Γ (bU P ex) ops os s K → wpOps P ops Q l a E.w
 | [], [], s, E, a, _, hR, h => hQ s E a h hR
 | [], _ :: _, s, E, a, hl, hR, h => by simp at hl
 | _ :: _, [], s, E, a, hl, hR, h => by simp at hl
 | o :: os, i :: l, s, E, a, hl, hR, h => by
  simp only [List.map_cons, List.cons.injEq] at hl
  obtain ⟨ho, hl⟩ := hl
  unfold wpOps
  rw [ho]
  simp only
  rcases qT hR h with ⟨hw, h⟩ | ⟨hw, h⟩
  ·rw [if_pos hw]
   left
   refine tN hΓ hR h _ Q fun v s' E' x hK hR' hv => ?_
   obtain ⟨s2, h2, hR2⟩ := pE hR' hK hv
   exact A8 hΓ hQ os l hl hR2 h2
  ·rw [if_neg (by rw [hw]; simp)]
   obtain ⟨s2, h2, hR2⟩ := pE hR h (x := undef) ⟨[], rfl, trivial⟩
   exact A8 hΓ hQ os l hl hR2 h2
theorem V9 (ops : Array Oper) : (List.range ops.size).map (ops[·]?) = ops.toList.map some := by
 apply List.ext_getElem?
 intro i
 simp only [List.getElem?_map, List.getElem?_range', List.getElem?_range]
 by_cases h : i < ops.size
 ·simp [List.getElem?_range h, h]
 ·have h1 : (List.range ops.size)[i]? = none := by simp; omega
  have h2 : ops.toList[i]? = none := by simp; omega
  rw [h1, h2]; rfl
theorem Rel.eqv {s s' : St} (hR : Rel C E s a) (h : Eqv s s') : Rel C E s' a := by
 have hob : ∀ i, s'.ob i = s.ob i := fun i => by simp only [St.ob, h.2.1]
 exact ⟨by rw [← h.1]; exact hR.size, hR.nd, fun k => by rw [← h.2.2 k]; exact hR.slot k, by rw [hR.g]; funext i; exact (hob i).symm, by rw [← h.2.1]; exact hR.n, fun i ob hi => hR.ob i ob (by rw [← hob i]; exact hi), hR.okb, hR.lab, hR.fr, hR.old, hR.pin⟩
theorem V7 (hR : Rel C E s a) (h : IK (bU P ex) o s K) : cX P C E s a o K := by
 unfold IK at h
 split at h
 ·rename_i f args ts hop
  exact IL hR (zN hR args.toList) (fun w hen => I1 hop hen w) h
 ·rename_i t args ts hop
  split at h
  ·rename_i f cs hf
   have hv := hR.slot t
   rw [hf] at hv
   obtain ⟨ys, hy, hys⟩ := hv
   exact IL hR (JH (zN hR args.toList) hys) (fun w hen => DV hop hy hen w) h
  ·exact h.elim
 ·exact h.elim
theorem UT (hΓ : fD P Γ) (hR : Rel C E s a) (h : EQ Γ o s K) : cX P C E s a o K := by
 unfold EQ at h
 split at h
 ·rename_i t len parts hop
  split at h
  ·rename_i te ht
   obtain ⟨ti, e, hT, he, hE⟩ := jJ hΓ ht
   obtain ⟨hb, h⟩ := dK h
   simp only [Bool.and_eq_true, Bool.not_eq_true'] at hb
   split at h
   ·rename_i cs hf
    obtain ⟨hfl, h⟩ := dK h
    exact O5 hop hR hT he hE (Nat.le_of_ble_eq_true hb.1) (nS hb.2) hf hfl h
   ·exact h.elim
  ·exact h.elim
 ·exact h.elim
theorem A7 (hΓ : fD P Γ) {f : Bool} (hR : Rel C E s a) (h : mD Γ (bU P ex) f o s K) : cX P C E s a o K := by
 unfold mD at h
 cases hf : (f && Nat.beq (wc o.op) 0) with
 | false =>
  cases hc : (f && dD o.op) with
  | false =>
   cases hs : (f && m9 o.op) with
   | true =>
    simp only [hf, hc, hs, cond_false, cond_true] at h
    exact tN hΓ hR h.2
   | false =>
    cases hl : (f && nZ o.op) with
    | true =>
     simp only [hf, hc, hs, hl, cond_false, cond_true] at h
     exact UT hΓ hR h
    | false =>
     simp only [hf, hc, hs, hl, cond_false] at h
     exact tN hΓ hR h
  | true =>
   simp only [hf, hc, cond_false, cond_true] at h
   exact V7 hR h
 | true =>
  simp only [hf, cond_true] at h
  simp only [Bool.and_eq_true] at hf
  obtain ⟨v, h1, h2⟩ := FB (Nat.eq_of_beq_eq_true hf.2) h
  refine tN hΓ hR (h2 s (fun x _ => by cases x <;> rfl) (LeG.ofBoxes _) K h1)
theorem lK {ops : Array Oper} {fl : Nat → Bool} {K K' : St → Prop} (hK : ∀ s, K s → K' s) : ∀ (l : List Nat) {s : St}, cA Γ (bU P ex) ops fl l s K → cA Γ (bU P ex) ops fl l s K'
 | [], s, h => hK s h
 | i :: r, s, h => by
  simp only [cA] at h ⊢
  split at h
  ·exact G2 h fun s1 h1 => lK hK r h1
  ·exact lK hK r h
theorem sT (hΓ : fD P Γ) {ops : Array Oper} {fl : Nat → Bool} {K : St → Prop} {Q : Exit → Act → World → Prop} (hK : ∀ s s', Eqv s s' → K s → K s') (hQ : ∀ s' E' a', K s' → Rel C E' s' a' → Q .normal a' E'.w)
  (he : uE ops = true) {lm : Bool} (hfl : fl = fA lm ops (fE ops.toList [])) :
  ∀ (n : Nat) (os : List Nat) (listed : Array Bool) {s : St} {E : Env} {a : Act}, os.length = n → listed.size = ops.size → (∀ i, i ∈ os ↔ i < ops.size ∧ listed.getD i true = false) →
   os.Pairwise (fun j i => eI lm ops (fE ops.toList []) j i = true) → (∀ i o, ops[i]? = some o → listed.getD i false = true → ∀ e ∈ o.after, Region.binds .any e = true → listed.getD e.on false = true) →
   (∀ i ∈ os, ∀ o, ops[i]? = some o → (fl i && dD o.op) = false) → Rel C E s a → cA Γ (bU P ex) ops fl os s K → wpAny P .any ops Q n listed a E.w
 | 0, os, listed, s, E, a, hl, hsz, hm, hp, hd, hnc, hR, h => by
  have hos := List.eq_nil_of_length_eq_zero hl
  subst hos
  refine ⟨?_, hQ s E a h hR⟩
  rw [List.eq_nil_iff_forall_not_mem]
  intro j hj
  rw [mem_ready] at hj
  obtain ⟨h0, o, ho, _⟩ := hj
  have := (hm j).2 ⟨(Array.getElem?_eq_some_iff.1 ho).1, h0⟩
  cases this
 | n + 1, os, listed, s, E, a, hl, hsz, hm, hp, hd, hnc, hR, h => by
  have hgd : ∀ i, i < ops.size → ∀ b, listed.getD i b = listed.getD i true := by
   intro i hi b
   simp [Array.getD_eq_getD_getElem?, hsz, hi]
  refine ⟨fun hr => ?_, fun i hi => ?_⟩
  ·
   exfalso
   obtain ⟨i0, hi0⟩ : ∃ i, i ∈ os := by
    cases os with
    | nil => simp at hl
    | cons x xs => exact ⟨x, by simp⟩
   obtain ⟨i, hi, hmin⟩ := KH (fun i => i ∈ os) ⟨i0, hi0⟩
   obtain ⟨hlt, hnl⟩ := (hm i).1 hi
   have : i ∈ Region.ready .any ops listed := by
    rw [mem_ready]
    refine ⟨hnl, ops[i], by simp [hlt], fun e hee hb => ?_⟩
    have hel : e.on < i := by
     have := eW he i hlt
     simp only [Array.getElem?_eq_getElem hlt, List.all_eq_true] at this
     have := this e (by simpa using hee)
     rw [hb] at this
     have := Nat.le_of_ble_eq_true this
     omega
    cases hq : listed.getD e.on true with
    | true => rw [hgd _ (by omega) false]; exact hq
    | false => exact absurd (hmin e.on ((hm e.on).2 ⟨by omega, hq⟩)) (by omega)
   rw [hr] at this
   cases this
  ·have hi' := hi
   rw [mem_ready] at hi
   obtain ⟨hnl, o, ho, hedge⟩ := hi
   have hlt := (Array.getElem?_eq_some_iff.1 ho).1
   have hmem := (hm i).2 ⟨hlt, hnl⟩
   obtain ⟨pre, post, rfl⟩ := List.append_of_mem hmem
   have hpre : ∀ j ∈ pre, ∃ oj, ops[j]? = some oj ∧ yS ops oj o (fl j) (fl i) = true := by
    intro j hj
    have hpair : eI lm ops (fE ops.toList []) j i = true := by
     rw [List.pairwise_append] at hp
     exact hp.2.2 j hj i (by simp)
    obtain ⟨hjlt, hjn⟩ := (hm j).1 (by simp [hj])
    simp only [eI, Bool.and_eq_true, Bool.or_eq_true] at hpair
    rcases hpair.2 with hb | hb
    ·have := nR (listed := listed) hd i j o ho hedge hb
     rw [hgd j hjlt false] at this
     rw [hjn] at this
     cases this
    ·rw [ho, Array.getElem?_eq_getElem hjlt] at hb
     exact ⟨_, Array.getElem?_eq_getElem hjlt, by rw [hfl]; exact hb⟩
   have hne : ∀ j, j ∈ pre ∨ j ∈ post → j ≠ i := by
    intro j hj hji
    subst hji
    rw [List.pairwise_append] at hp
    have hcontra : eI lm ops (fE ops.toList []) j j = true := by
     rcases hj with hj | hj
     ·exact hp.2.2 j hj j (by simp)
     ·exact (List.pairwise_cons.1 hp.2.1).1 j hj
    simp [eI] at hcontra
   have hrest : ∀ {s2 : St} {E2 : Env} {a2 : Act}, cA Γ (bU P ex) ops fl (pre ++ post) s2 K → Rel C E2 s2 a2 → wpAny P .any ops Q n (listed.setIfInBounds i true) a2 E2.w := by
    intro s2 E2 a2 h2 hR2
    refine sT hΓ hK hQ he hfl n (pre ++ post) _ (by simp at hl ⊢; omega) (by simpa using hsz) (fun j => ?_) ?_ (fun j oj hoj hjl e hee hb => ?_) (fun j hj => hnc j (by simp at hj ⊢; rcases hj with hj | hj; exact .inl hj; exact .inr (.inr hj))) hR2 h2
    ·constructor
     ·intro hj
      have hji := hne j (by simpa using hj)
      obtain ⟨h3, h4⟩ := (hm j).1 (by simp at hj ⊢; rcases hj with hj | hj; exact .inl hj; exact .inr (.inr hj))
      exact ⟨h3, by rw [getD_set_ne true (Ne.symm hji)]; exact h4⟩
     ·rintro ⟨h3, h4⟩
      have hji : j ≠ i := by
       rintro rfl
       have : (listed.setIfInBounds j true).getD j true = true := by simp [Array.getD_eq_getD_getElem?, hsz, h3]
       rw [this] at h4
       cases h4
      rw [getD_set_ne true (Ne.symm hji)] at h4
      have := (hm j).2 ⟨h3, h4⟩
      simp at this ⊢
      rcases this with h5 | h5 | h5
      ·exact .inl h5
      ·exact absurd h5 hji
      ·exact .inr h5
    ·rw [List.pairwise_append] at hp ⊢
     exact ⟨hp.1, (List.pairwise_cons.1 hp.2.1).2, fun a ha b hb => hp.2.2 a ha b (by simp [hb])⟩
    ·by_cases hji : j = i
     ·subst hji
      rw [ho] at hoj
      cases hoj
      exact getD_set_true (hedge e hee hb)
     ·rw [getD_set_ne false (Ne.symm hji)] at hjl
      exact getD_set_true (hd j oj hoj hjl e hee hb)
   have hstep := N2 hK ho (hnc i hmem o ho) pre hpre h
   unfold wpOp
   rw [ho]
   simp only
   rcases qT hR hstep with ⟨hw, h2⟩ | ⟨hw, h2⟩
   ·rw [if_pos hw]
    left
    refine A7 hΓ hR h2 _ Q fun v s' E' x hK' hR' hv => ?_
    obtain ⟨s2, h3, hR2⟩ := pE hR' hK' hv
    exact hrest h3 hR2
   ·rw [if_neg (by rw [hw]; simp)]
    obtain ⟨s2, h3, hR2⟩ := pE hR h2 (x := undef) ⟨[], rfl, trivial⟩
    exact hrest h3 hR2
theorem AW (hΓ : fD P Γ) {ops : Array Oper} {fl : Nat → Bool} {K : St → Prop} {Q : Exit → Act → World → Prop} (hK : ∀ s s', Eqv s s' → K s → K s') (hQ : ∀ s' E' a' (listed : Array Bool), K s' → Rel C E' s' a' → listed.size = ops.size → (∀ i, i < ops.size - 1 → listed.getD i true = true) → listed.getD (ops.size - 1) true = false → (∀ i o, ops[i]? = some o → listed.getD i false = true → ∀ e ∈ o.after, Region.binds .any e = true → listed.getD e.on false = true) → wpAny P .any ops Q 1 listed a' E'.w)
  (he : uE ops = true) (hpos : 0 < ops.size) (hlast : ∀ i, i < ops.size - 1 → Nat.testBit ((fE ops.toList []).getD (ops.size - 1) 0) i = true) {lm : Bool} (hfl : fl = fA lm ops (fE ops.toList [])) :
  ∀ (n : Nat) (os : List Nat) (listed : Array Bool) {s : St} {E : Env} {a : Act}, os.length = n → listed.size = ops.size → (∀ i, i ∈ os ↔ i < ops.size - 1 ∧ listed.getD i true = false) → listed.getD (ops.size - 1) true = false →
   os.Pairwise (fun j i => eI lm ops (fE ops.toList []) j i = true) → (∀ i o, ops[i]? = some o → listed.getD i false = true → ∀ e ∈ o.after, Region.binds .any e = true → listed.getD e.on false = true) →
   (∀ i ∈ os, ∀ o, ops[i]? = some o → (fl i && dD o.op) = false) → Rel C E s a → cA Γ (bU P ex) ops fl os s K → wpAny P .any ops Q (n + 1) listed a E.w
 | 0, os, listed, s, E, a, hl, hsz, hm, hll, hp, hd, hnc, hR, h => by
  have hos := List.eq_nil_of_length_eq_zero hl
  subst hos
  refine hQ s E a listed h hR hsz (fun i hi => ?_) hll hd
  cases hq : listed.getD i true with
  | true => rfl
  | false =>
   have := (hm i).2 ⟨hi, hq⟩
   cases this
 | n + 1, os, listed, s, E, a, hl, hsz, hm, hll, hp, hd, hnc, hR, h => by
  have hgd : ∀ i, i < ops.size → ∀ b, listed.getD i b = listed.getD i true := by
   intro i hi b
   simp [Array.getD_eq_getD_getElem?, hsz, hi]
  refine ⟨fun hr => ?_, fun i hi => ?_⟩
  ·
   exfalso
   obtain ⟨i0, hi0⟩ : ∃ i, i ∈ os := by
    cases os with
    | nil => simp at hl
    | cons x xs => exact ⟨x, by simp⟩
   obtain ⟨i, hi, hmin⟩ := KH (fun i => i ∈ os) ⟨i0, hi0⟩
   obtain ⟨hlt', hnl⟩ := (hm i).1 hi
   have hlt : i < ops.size := by omega
   have : i ∈ Region.ready .any ops listed := by
    rw [mem_ready]
    refine ⟨hnl, ops[i], by simp [hlt], fun e hee hb => ?_⟩
    have hel : e.on < i := by
     have := eW he i hlt
     simp only [Array.getElem?_eq_getElem hlt, List.all_eq_true] at this
     have := this e (by simpa using hee)
     rw [hb] at this
     have := Nat.le_of_ble_eq_true this
     omega
    cases hq : listed.getD e.on true with
    | true => rw [hgd _ (by omega) false]; exact hq
    | false => exact absurd (hmin e.on ((hm e.on).2 ⟨by omega, hq⟩)) (by omega)
   rw [hr] at this
   cases this
  ·have hi' := hi
   rw [mem_ready] at hi
   obtain ⟨hnl, o, ho, hedge⟩ := hi
   have hlt := (Array.getElem?_eq_some_iff.1 ho).1
   have hnlast : i ≠ ops.size - 1 := by
    rintro rfl
    obtain ⟨j, hj⟩ : ∃ j, j ∈ os := by
     cases os with
     | nil => simp at hl
     | cons x xs => exact ⟨x, by simp⟩
    obtain ⟨hjlt, hjn⟩ := (hm j).1 hj
    have := nR (listed := listed) hd (ops.size - 1) j o ho hedge (hlast j hjlt)
    rw [hgd j (by omega) false] at this
    rw [hjn] at this
    cases this
   have hmem := (hm i).2 ⟨by omega, hnl⟩
   obtain ⟨pre, post, rfl⟩ := List.append_of_mem hmem
   have hpre : ∀ j ∈ pre, ∃ oj, ops[j]? = some oj ∧ yS ops oj o (fl j) (fl i) = true := by
    intro j hj
    have hpair : eI lm ops (fE ops.toList []) j i = true := by
     rw [List.pairwise_append] at hp
     exact hp.2.2 j hj i (by simp)
    obtain ⟨hjlt', hjn⟩ := (hm j).1 (by simp [hj])
    have hjlt : j < ops.size := by omega
    simp only [eI, Bool.and_eq_true, Bool.or_eq_true] at hpair
    rcases hpair.2 with hb | hb
    ·have := nR (listed := listed) hd i j o ho hedge hb
     rw [hgd j hjlt false] at this
     rw [hjn] at this
     cases this
    ·rw [ho, Array.getElem?_eq_getElem hjlt] at hb
     exact ⟨_, Array.getElem?_eq_getElem hjlt, by rw [hfl]; exact hb⟩
   have hne : ∀ j, j ∈ pre ∨ j ∈ post → j ≠ i := by
    intro j hj hji
    subst hji
    rw [List.pairwise_append] at hp
    have hcontra : eI lm ops (fE ops.toList []) j j = true := by
     rcases hj with hj | hj
     ·exact hp.2.2 j hj j (by simp)
     ·exact (List.pairwise_cons.1 hp.2.1).1 j hj
    simp [eI] at hcontra
   have hrest : ∀ {s2 : St} {E2 : Env} {a2 : Act}, cA Γ (bU P ex) ops fl (pre ++ post) s2 K → Rel C E2 s2 a2 → wpAny P .any ops Q (n + 1) (listed.setIfInBounds i true) a2 E2.w := by
    intro s2 E2 a2 h2 hR2
    refine AW hΓ hK hQ he hpos hlast hfl n (pre ++ post) _ (by simp at hl ⊢; omega) (by simpa using hsz) (fun j => ?_) (by rw [getD_set_ne true hnlast]; exact hll) ?_ (fun j oj hoj hjl e hee hb => ?_) (fun j hj => hnc j (by simp at hj ⊢; rcases hj with hj | hj; exact .inl hj; exact .inr (.inr hj))) hR2 h2
    ·constructor
     ·intro hj
      have hji := hne j (by simpa using hj)
      obtain ⟨h3, h4⟩ := (hm j).1 (by simp at hj ⊢; rcases hj with hj | hj; exact .inl hj; exact .inr (.inr hj))
      exact ⟨h3, by rw [getD_set_ne true (Ne.symm hji)]; exact h4⟩
     ·rintro ⟨h3, h4⟩
      have hji : j ≠ i := by
       rintro rfl
       have : (listed.setIfInBounds j true).getD j true = true := by simp [Array.getD_eq_getD_getElem?, hsz, hlt]
       rw [this] at h4
       cases h4
      rw [getD_set_ne true (Ne.symm hji)] at h4
      have := (hm j).2 ⟨h3, h4⟩
      simp at this ⊢
      rcases this with h5 | h5 | h5
      ·exact .inl h5
      ·exact absurd h5 hji
      ·exact .inr h5
    ·rw [List.pairwise_append] at hp ⊢
     exact ⟨hp.1, (List.pairwise_cons.1 hp.2.1).2, fun a ha b hb => hp.2.2 a ha b (by simp [hb])⟩
    ·by_cases hji : j = i
     ·subst hji
      rw [ho] at hoj
      cases hoj
      exact getD_set_true (hedge e hee hb)
     ·rw [getD_set_ne false (Ne.symm hji)] at hjl
      exact getD_set_true (hd j oj hoj hjl e hee hb)
   have hstep := N2 hK ho (hnc i hmem o ho) pre hpre h
   unfold wpOp
   rw [ho]
   simp only
   rcases qT hR hstep with ⟨hw, h2⟩ | ⟨hw, h2⟩
   ·rw [if_pos hw]
    left
    refine A7 hΓ hR h2 _ Q fun v s' E' x hK' hR' hv => ?_
    obtain ⟨s2, h3, hR2⟩ := pE hR' hK' hv
    exact hrest h3 hR2
   ·rw [if_neg (by rw [hw]; simp)]
    obtain ⟨s2, h3, hR2⟩ := pE hR h2 (x := undef) ⟨[], rfl, trivial⟩
    exact hrest h3 hR2
theorem a0L (E : Env) : ∀ b p, ¬ (∃ k r, E.o b = some (k :: r)) → E.o b = some p → p = [] := fun b p hn hp => by
 cases p with
 | nil => rfl
 | cons k r => exact absurd ⟨k, r, hp⟩ hn
def Ctx.re (C : Ctx) (E : Env) : Ctx := ⟨E.w, fun b => ∃ k r, E.o b = some (k :: r), E.o, a0L E, C.np, C.pp, C.pl⟩
theorem LB {α : Type} {R : α → α → Prop} (hs : ∀ x y, R x y → R y x) : ∀ {l : List α}, l.Pairwise R → ∀ x ∈ l, ∀ y ∈ l, x ≠ y → R x y
 | [], _, x, hx, y, hy, hne => by cases hx
 | z :: l, h, x, hx, y, hy, hne => by
  obtain ⟨h1, h2⟩ := List.pairwise_cons.1 h
  simp only [List.mem_cons] at hx hy
  rcases hx with rfl | hx
  ·rcases hy with rfl | hy
   ·exact absurd rfl hne
   ·exact h1 y hy
  ·rcases hy with rfl | hy
   ·exact hs _ _ (h1 x hx)
   ·exact LB hs h2 x hx y hy hne
theorem a2S (hR : Rel C E s a) : Rel (C.re E) E s a := by
 refine ⟨hR.size, hR.nd, hR.slot, hR.g, hR.n, hR.ob, hR.okb, fun b p hp => ⟨(hR.lab b p hp).1, ?_⟩, ⟨rfl, rfl, rfl, Nat.le_refl _, fun _ _ _ => rfl, fun b c e h => ⟨c, h, rfl⟩, Nat.le_refl _⟩, fun _ _ _ => rfl, hR.pin⟩
 cases p with
 | nil => exact .inl rfl
 | cons k r => exact .inr (.inr ⟨k, r, hp⟩)
theorem YE (hR : Rel C E s a) {b : Nat} (hb : b < C.w0.heap.size) (hl : ¬ C.lent b) : ¬ (C.re E).lent b := by
 rintro ⟨k, r, hk⟩
 have h := hR.old b hb hl
 rw [hk] at h
 have := C.dull b _ hl h.symm
 cases this
theorem a2U {E' : Env} {s' : St} {a' : Act} (hR : Rel C E s a) (h : Rel (C.re E) E' s' a') : Rel C E' s' a' := by
 have hf := hR.fr
 have hg := h.fr
 refine ⟨h.size, h.nd, h.slot, h.g, h.n, h.ob, h.okb, fun b p hp => ?_, ⟨hg.os.trans hf.os, hg.tape.trans hf.tape, hg.output.trans hf.output, Nat.le_trans hf.size hg.size, fun k hk hl => ?_, fun b c e hc => ?_, Nat.le_trans hf.drawn hg.drawn⟩, fun b hb hl => ?_, h.pin⟩
 ·obtain ⟨h1, h2⟩ := h.lab b p hp
  refine ⟨h1, ?_⟩
  rcases h2 with h2 | h2 | ⟨k, r, h2⟩
  ·exact .inl h2
  ·exact .inr (.inl (Nat.le_trans hf.size h2))
  ·exact .inr ((hR.lab b _ h2).2.resolve_left (by simp))
 ·exact (hg.block k (Nat.lt_of_lt_of_le hk hf.size) (YE hR hk hl)).trans (hf.block k hk hl)
 ·obtain ⟨c1, h1, h2⟩ := hf.shape b c e hc
  obtain ⟨c2, h3, h4⟩ := hg.shape b c1 e h1
  exact ⟨c2, h3, h4.trans h2⟩
 ·exact (h.old b (Nat.lt_of_lt_of_le hb hf.size) (YE hR hb hl)).trans (hR.old b hb hl)
theorem ZA {E' : Env} {s' : St} {a' : Act} (h : Rel (C.re E) E' s' a') {b : Nat} (ho : E.o b = some []) (hb : b < E.w.heap.size) : E'.o b = some [] ∧ E'.w.heap[b]? = E.w.heap[b]? := by
 have hn : ¬ (C.re E).lent b := by
  rintro ⟨k, r, hk⟩
  rw [ho] at hk
  cases hk
 exact ⟨(h.old b hb hn).trans ho, h.fr.block b hb hn⟩
def a1U (Γ : Tab) (ops : Array Oper) (C : Ctx) (E : Env) (a : Act) (i b : Nat) : Prop :=
 ∃ o d t ti, ops[i]? = some o ∧ o.op = .alloc t ∧ o.guard = none ∧ o.dst = some d ∧ Γ t = some ti ∧ a.tmps.getD d undef = .pointer (some ⟨b, 0, none⟩) ∧ E.o b = some [] ∧ C.w0.heap.size ≤ b ∧ b < E.w.heap.size ∧ ∃ c e, E.w.heap[b]? = some (.cells c e (0, 0)) ∧ c.toList = ti.zero
theorem I4 {ops : Array Oper} {i : Nat} (h : N1 Γ ops i = true) : ∃ o d t ti, ops[i]? = some o ∧ o.op = .alloc t ∧ o.guard = none ∧ o.dst = some d ∧ Γ t = some ti := by
 unfold N1 at h
 split at h
 ·rename_i o ho
  unfold HN at h
  split at h
  ·rename_i t d h1 h2 h3
   cases hg : Γ t with
   | none => rw [hg] at h; cases h
   | some ti => exact ⟨o, d, t, ti, ho, h1, h2, h3, hg⟩
  ·cases h
 ·cases h
def Env.blk (E : Env) (c : Array Value) (e : TypeId) : Env :=
 {E with w := c9 E.w c e, o := fun b => if b = E.w.heap.size then some [] else E.o b, okb := fun b => (if b = E.w.heap.size then some [] else E.o b) = none }
theorem WD (hR : Rel C E s a) (c : Array Value) (e : TypeId) : Mono E (E.blk c e) := by
 refine ⟨by simp [Env.blk, c9], fun b hb hok => ?_, Nat.le_refl _, fun i hi hl => ⟨hl, rfl, fun ho => ?_, fun c' e' hh => ⟨c', ?_, rfl⟩⟩, fun i j hi ht => ⟨ht, dQ (cZ _ _ _ (qL hR ht))⟩⟩
 ·rw [hR.okb] at hok
  exact ⟨by simp only [Env.blk, if_neg (Nat.ne_of_lt hb)]; exact hok, cZ _ _ _ hb⟩
 ·show (if _ = E.w.heap.size then some [] else E.o _) = _
  rw [if_neg (Nat.ne_of_lt (hR.lab _ _ ho).1)]
  exact ho
 ·show (c9 E.w c e).heap[_]? = _
  rw [cZ _ _ _ (cY hh)]
  exact hh
theorem a0M (hR : Rel C E s a) (c : Array Value) (e : TypeId) {d : Nat} (hd : lk s.t d = .any) (x : Value) : Rel C (E.blk c e) s (a.put (some d) x) := by
 have hm := WD hR c e
 refine ⟨by simp [Act.put, hR.size], hR.nd, fun k => ?_, hR.g, hR.n, fun i ob hi => ObR.mono hm rfl (fun b r hb => ?_) (hR.ob i ob hi), rfl, fun b p hp => ?_, K3 hR.fr c e, fun b hb hl => ?_, hR.pin.mono hm⟩
 ·by_cases hk : k = d
  ·rw [hk, hd]; trivial
  ·have : (a.put (some d) x).tmps.getD k undef = a.tmps.getD k undef := by
    simp only [Act.put, Array.getD_eq_getD_getElem?, Array.getElem?_setIfInBounds]
    rw [if_neg (fun h => hk h.symm)]
   rw [this]
   exact (hR.slot k).slot hm
 ·have hlt := (hR.lab _ _ hb).1
  exact ⟨by simp only [Env.blk, if_neg (Nat.ne_of_lt hlt)]; exact hb, cZ _ _ _ hlt⟩
 ·have hp' : (if b = E.w.heap.size then some [] else E.o b) = some p := hp
  split at hp'
  ·rename_i hb
   cases hp'
   exact ⟨by rw [hb]; simp [Env.blk, c9], .inl rfl⟩
  ·obtain ⟨h1, h2⟩ := hR.lab b p hp'
   exact ⟨by simp only [Env.blk, c9, Array.size_push]; omega, h2⟩
 ·have := hR.fr.size
  show (if b = E.w.heap.size then some [] else E.o b) = _
  rw [if_neg (by omega)]
  exact hR.old b hb hl
def Env.born (E : Env) (b : Nat) (ob : Obj) : Env :=
 {E with o := fun b' => if b' = b then some [E.n] else E.o b', ρ := fun i => if i = E.n then (b, 0) else E.ρ i, g := fun i => if i = E.n then some ob else E.g i, n := E.n + 1, okb := fun b' => (if b' = b then some [E.n] else E.o b') = none }
theorem UA (hR : Rel C E s a) {b : Nat} (ob : Obj) (hb : E.o b = some []) : Mono E (E.born b ob) := by
 refine ⟨Nat.le_refl _, fun b' hb' hok => ⟨?_, rfl⟩, Nat.le_succ _, fun i hi hl => ?_, fun i j hi ht => ?_⟩
 ·rw [hR.okb] at hok
  show (if b' = b then some [E.n] else E.o b') = none
  rw [if_neg (fun h => by rw [h, hb] at hok; cases hok)]
  exact hok
 ·have hne : i ≠ E.n := Nat.ne_of_lt hi
  simp only [Env.born, if_neg hne] at hl ⊢
  refine ⟨hl, trivial, fun ho => ?_, fun c e h => ⟨c, h, rfl⟩⟩
  rw [if_neg (fun h => by rw [h, hb] at ho; cases ho)]
  exact ho
 ·have hne : i ≠ E.n := Nat.ne_of_lt hi
  obtain ⟨cs, sz, n, r, hg, hj⟩ := ht
  simp only [Env.born, if_neg hne] at hg
  exact ⟨⟨cs, sz, n, r, hg, hj⟩, rfl⟩
theorem YF (hR : Rel C E s a) {b d : Nat} {ti : TI} {c : Array Value} {e : TypeId} (hb : E.o b = some []) (hcb : C.w0.heap.size ≤ b) (hlt : b < E.w.heap.size) (hh : E.w.heap[b]? = some (.cells c e (0, 0))) (hc : c.toList = ti.zero) (hone : ∀ v ∈ ti.zero, v.oneCell' = true) (hx : a.tmps.getD d undef = .pointer (some ⟨b, 0, none⟩)) :
  Rel C (E.born b ⟨true, ti.zero.map .sc⟩) (St.upd (s.add ⟨true, ti.zero.map .sc⟩) (some d) (.ptr s.g.length 0)) a := by
 have hm := UA hR ⟨true, ti.zero.map .sc⟩ hb
 have hn : E.n = s.g.length := hR.n
 refine ⟨hR.size, hR.nd, fun k => ?_, ?_, ?_, fun i x hi => ?_, rfl, fun b' p hp => ?_, hR.fr, fun b' hb' hl => ?_, hR.pin.mono hm⟩
 ·have e1 : lk (St.upd (s.add ⟨true, ti.zero.map .sc⟩) (some d) (.ptr s.g.length 0)).t k = if some d = some k then .ptr s.g.length 0 else lk s.t k := iY _ _ _ _
  rw [e1]
  by_cases hk : d = k
  ·subst hk
   rw [if_pos rfl, hx]
   exact ⟨by simp [Env.born, hn], _, rfl, fun _ => by simp [Env.born, hn]⟩
  ·rw [if_neg (fun h => hk (Option.some.inj h))]
   exact (hR.slot k).slot hm
 ·funext i
  simp only [Env.born, St.upd, St.ob, St.add, eD, hR.n]
  rw [hR.g]
  rfl
 ·simp [Env.born, St.upd, St.add, hR.n]
 ·have hi' : aX (s.g ++ [some ⟨true, ti.zero.map .sc⟩]) i = some x := hi
  rw [eD] at hi'
  split at hi'
  ·rename_i hie
   cases hi'
   rw [hie, ← hn]
   refine .inl ⟨Y3 ti.zero, c, e, ?_, ?_, ?_, ?_⟩
   ·simp only [Env.born, if_true]; exact hh
   ·simp [Env.born]
   ·simp [Env.born]
   ·refine cD fun k v hk => ?_
    rw [List.getElem?_map] at hk
    cases hz : ti.zero[k]? with
    | none => rw [hz] at hk; cases hk
    | some z =>
     rw [hz] at hk
     cases hk
     refine ⟨z, ?_, rfl, hone z (List.mem_of_getElem? hz)⟩
     have : c[k]? = some z := by rw [← Array.getElem?_toList, hc]; exact hz
     simp only [Env.born, if_true, World.cell?, hh, Nat.zero_add]
     simpa using this
  ·have hlt' := C6 hR (show s.ob i = some x from hi')
   refine ObR.mono hm (by simp only [Env.born, if_neg (Nat.ne_of_lt hlt')]) (fun b' r hb' => ⟨?_, rfl⟩) (hR.ob i x hi')
   show (if b' = b then some [E.n] else E.o b') = _
   rw [if_neg (fun h => by rw [h, hb] at hb'; cases hb')]
   exact hb'
 ·have hp' : (if b' = b then some [E.n] else E.o b') = some p := hp
  split at hp'
  ·rename_i hbb
   subst hbb
   exact ⟨hlt, .inr (.inl hcb)⟩
  ·exact hR.lab b' p hp'
 ·show (if b' = b then some [E.n] else E.o b') = _
  rw [if_neg (by omega)]
  exact hR.old b' hb' hl
theorem y6 {ops : Array Oper} {fl : Nat → Bool} {K : St → Prop} : ∀ (l m : List Nat) {s : St}, cA Γ (bU P ex) ops fl (l ++ m) s K = cA Γ (bU P ex) ops fl l s fun s => cA Γ (bU P ex) ops fl m s K
 | [], m, s => rfl
 | i :: l, m, s => by
  simp only [List.cons_append, cA]
  split
  ·congr 1
   funext s2
   exact y6 l m
  ·exact y6 l m
theorem WC (hΓ : fD P Γ) {ops : Array Oper} {fl : Nat → Bool} {K : St → Prop} (hK : ∀ s s', Eqv s s' → K s → K s') {pend : List (Nat × Nat)} (hfun : pend.Pairwise fun p q => p.2 ≠ q.2) {os L2 : List Nat} : ∀ (AL : List Nat) {s : St} {E : Env}, (∀ i ∈ AL, ∀ oi, ops[i]? = some oi → ∀ j ∈ os, ∃ oj, ops[j]? = some oj ∧ P6 ops oj oi (fl j) = true) → AL.Nodup → (∀ i ∈ AL, ∃ b, (i, b) ∈ pend ∧ a1U Γ ops C E a i b) → Rel C E s a → cA Γ (bU P ex) ops fl (os ++ (AL ++ L2)) s K → ∃ s' E', cA Γ (bU P ex) ops fl (os ++ L2) s' K ∧ Rel C E' s' a ∧ E'.w = E.w
 | [], s, E, hsw, hnd, hp, hR, h => ⟨s, E, h, hR, rfl⟩
 | i :: AL, s, E, hsw, hnd, hp, hR, h0 => by
  obtain ⟨b, hib, o, d, t, ti, ho, hop, hg, hd, ht, hx, hb, hcb, hlt, c, e, hh, hc⟩ := hp i (by simp)
  have hnc : (fl i && dD o.op) = false := by rw [hop]; cases fl i <;> rfl
  have h := N2 hK ho hnc os (fun j hj => by
   obtain ⟨oj, q1, q2⟩ := hsw i (by simp) o ho j hj
   exact ⟨oj, q1, by unfold yS; rw [hnc, hop]; simp only [m9, Bool.and_false, cond_false]; exact q2⟩) h0
  simp only [dO, mJ, hg] at h
  have h1 : cM Γ (bU P ex) false o s (fun v s' => sU s' o.dst v fun s2 => cA Γ (bU P ex) ops fl (os ++ (AL ++ L2)) s2 K) := by
   unfold mD at h
   rw [show Nat.beq (wc o.op) 0 = false from by rw [hop]; rfl, hnc, show m9 o.op = false from by rw [hop]; rfl, show nZ o.op = false from by rw [hop]; rfl] at h
   simpa using h
  unfold cM at h1
  rw [hop] at h1
  simp only [ht, hd] at h1
  obtain ⟨h2, h3⟩ := (cR _ _ _ _).1 h1
  have hR1 := YF hR hb hcb hlt hh hc (hΓ _ _ ht).one hx
  obtain ⟨hnd1, hnd2⟩ := List.nodup_cons.1 hnd
  obtain ⟨s', E', k1, k2, k3⟩ := WC hΓ hK hfun AL (fun k hk => hsw k (by simp [hk])) hnd2 (fun j hj => by
   obtain ⟨b', hjb, o', d', t', ti', q1, q2, q3, q4, q5, q6, q7, q8, q9, q10⟩ := hp j (by simp [hj])
   have hne : b' ≠ b := by
    intro hbb
    have hij : (i, b) ≠ (j, b') := fun hh => by cases hh; exact hnd1 hj
    exact LB (fun x y hxy hh => hxy hh.symm) hfun (i, b) hib (j, b') hjb hij hbb.symm
   refine ⟨b', hjb, o', d', t', ti', q1, q2, q3, q4, q5, q6, ?_, q8, q9, q10⟩
   show (if b' = b then some [E.n] else E.o b') = _
   rw [if_neg hne]
   exact q7) hR1 h3
  exact ⟨s', E', k1, k2, k3⟩
theorem SU : ∀ {l : List Nat} {i : Nat}, i ∈ l → dY l i = true
 | k :: r, i, h => by
  simp only [List.mem_cons] at h
  simp only [dY]
  cases hb : Nat.beq k i with
  | true => rfl
  | false =>
   rcases h with rfl | h
   ·simp at hb
   ·exact SU h
theorem KQ {ops : Array Oper} : ∀ (AL : List Nat) {s : St} {E : Env} {K : St → Prop}, Rel C E s a → BL ops AL s K → ∃ s' E', Rel C E' s' a ∧ K s' ∧ E'.w = E.w ∧ ∀ i ∈ AL, ∀ o d, ops[i]? = some o → o.dst = some d → lk s'.t d = .any ∧ d < a.tmps.size
 | [], s, E, K, hR, h => ⟨s, E, hR, h, rfl, fun i hi => by cases hi⟩
 | i :: AL, s, E, K, hR, h => by
  have keep : ∀ (AL : List Nat) {s : St} {K : St → Prop} (d : Nat), lk s.t d = .any → BL ops AL s K → BL ops AL s fun s' => K s' ∧ lk s'.t d = .any := by
   intro AL
   induction AL with
   | nil => intro s K d hd h; exact ⟨h, hd⟩
   | cons j AL ih =>
    intro s K d hd h
    simp only [BL] at h ⊢
    split at h
    ·rename_i o ho
     obtain ⟨h1, h2⟩ := (cR _ _ _ _).1 h
     refine (cR _ _ _ _).2 ⟨h1, ih d ?_ h2⟩
     rw [iY]
     split
     ·rfl
     ·exact hd
    ·exact h.elim
  simp only [BL] at h
  split at h
  ·rename_i o ho
   obtain ⟨h1, h2⟩ := (cR _ _ _ _).1 h
   have hR1 : Rel C E (s.upd o.dst .any) a := by
    refine ⟨by rw [PB]; exact hR.size, hR.nd, fun k => ?_, ?_, by rw [n5]; exact hR.n, fun j x hj => hR.ob j x (by simpa only [St.ob, n5] using hj), hR.okb, hR.lab, hR.fr, hR.old, hR.pin⟩
    ·rw [iY]
     split
     ·trivial
     ·exact hR.slot k
    ·rw [hR.g]
     funext j
     simp only [St.ob, n5]
   cases hd : o.dst with
   | none =>
    rw [hd] at h2 hR1
    obtain ⟨s', E', g1, g2, g3, g4⟩ := KQ AL hR1 h2
    refine ⟨s', E', g1, g2, g3, fun k hk ok d hok hdd => ?_⟩
    simp only [List.mem_cons] at hk
    rcases hk with rfl | hk
    ·rw [ho] at hok
     cases hok
     rw [hd] at hdd
     cases hdd
    ·exact g4 k hk ok d hok hdd
   | some d0 =>
    rw [hd] at h2 hR1
    obtain ⟨s', E', g1, ⟨g2, g5⟩, g3, g4⟩ := KQ AL hR1 (keep AL d0 (by rw [iY, if_pos rfl]) h2)
    refine ⟨s', E', g1, g2, g3, fun k hk ok d hok hdd => ?_⟩
    simp only [List.mem_cons] at hk
    rcases hk with rfl | hk
    ·rw [ho] at hok
     cases hok
     rw [hd] at hdd
     cases hdd
     exact ⟨g5, by rw [hR.size]; exact h1 _ hd⟩
    ·exact g4 k hk ok d hok hdd
  ·exact h.elim
theorem x7 {ops : Array Oper} {j i : Nat} {oj oi : Oper} (h : x6 ops j i = true) (hj : ops[j]? = some oj) (hi : ops[i]? = some oi) : ∀ d, oi.dst = some d → oj.dst ≠ some d := by
 intro d hd he
 unfold x6 at h
 rw [hj, hi] at h
 simp only [Bool.and_eq_true, Bool.not_eq_true'] at h
 rw [hd, he] at h
 simp [vO] at h
theorem OG (a : Act) (d : Option Nat) (x : Value) : (a.put d x).tmps.size = a.tmps.size := by cases d <;> simp [Act.put]
theorem IP (a : Act) (d : Option Nat) (x : Value) {k : Nat} (h : d ≠ some k) : (a.put d x).tmps.getD k undef = a.tmps.getD k undef := by
 cases d with
 | none => rfl
 | some d =>
  simp only [Act.put, Array.getD_eq_getD_getElem?, Array.getElem?_setIfInBounds]
  rw [if_neg (fun hh => h (by rw [hh]))]
theorem L9 (hΓ : fD P Γ) {lm : Bool} {ops : Array Oper} {fl : Nat → Bool} {K : St → Prop} {Q : Exit → Act → World → Prop} (hK : ∀ s s', Eqv s s' → K s → K s') (hQ : ∀ s' E' a', K s' → Rel C E' s' a' → Q .normal a' E'.w)
  (he : uE ops = true) (hfl : fl = fA lm ops (fE ops.toList [])) {L1 AL L2 : List Nat} (hL2 : ∀ i ∈ L2, ∀ o, ops[i]? = some o → dD o.op = false) (hdis1 : lm = true → ∀ j ∈ L1, ∀ k ∈ L1, j ≠ k → ∀ oj ok d, ops[j]? = some oj → ops[k]? = some ok → ok.dst = some d → oj.dst ≠ some d) (hp2 : L2.Pairwise (fun j i => eI lm ops (fE ops.toList []) j i = true)) (hfree : ∀ i ∈ AL, N1 Γ ops i = true) (haw : ∀ j ∈ L1, ∀ i ∈ AL, x6 ops j i = true)
  (haa : ∀ i ∈ AL, ∀ k ∈ AL, i ≠ k → ∀ oi ok d, ops[i]? = some oi → ops[k]? = some ok → ok.dst = some d → oi.dst ≠ some d) (hnd : AL.Nodup) (hancA : ∀ i ∈ L2, ∀ j ∈ AL, Nat.testBit ((fE ops.toList []).getD i 0) j = true) (hanc1 : ∀ i ∈ L2, ∀ j ∈ L1, Nat.testBit ((fE ops.toList []).getD i 0) j = true ∨ xL lm ops (fE ops.toList []) AL L2 j = true) (hdis : ∀ i ∈ AL, i ∉ L1) :
  ∀ (n : Nat) (os rem : List Nat) (pend : List (Nat × Nat)) (listed : Array Bool) {s : St} {E : Env} {a : Act}, n = os.length + rem.length + L2.length → listed.size = ops.size → (∀ i, (i ∈ os ∨ i ∈ rem ∨ i ∈ L2) ↔ i < ops.size ∧ listed.getD i true = false) →
   os.Pairwise (fun j i => eI lm ops (fE ops.toList []) j i = true) → (∀ j ∈ os, j ∈ L1) → (∀ i ∈ rem, i ∈ AL) → rem.Nodup → (∀ i o, ops[i]? = some o → listed.getD i false = true → ∀ e ∈ o.after, Region.binds .any e = true → listed.getD e.on false = true) →
   (∀ i ∈ AL, i ∈ rem ∨ ∃ b, (i, b) ∈ pend) → (pend.Pairwise fun p q => p.2 ≠ q.2) → (∀ p ∈ pend, p.1 ∈ AL ∧ p.1 ∉ rem ∧ a1U Γ ops C E a p.1 p.2) → (∀ i ∈ AL, ∀ o d, ops[i]? = some o → o.dst = some d → lk s.t d = .any ∧ d < a.tmps.size) → (lm = true → ∀ j ∈ os, ∀ oj d, ops[j]? = some oj → oj.dst = some d → lk s.t d = .any) →
   Rel C E s a → cA Γ (bU P ex) ops fl (os ++ (AL ++ L2)) s K → wpAny P .any ops Q n listed a E.w := by
 have fin : ∀ (n : Nat) (os : List Nat) (pend : List (Nat × Nat)) (listed : Array Bool) {s : St} {E : Env} {a : Act}, n = os.length + L2.length → listed.size = ops.size → (∀ i, (i ∈ os ∨ i ∈ L2) ↔ i < ops.size ∧ listed.getD i true = false) → os.Pairwise (fun j i => eI lm ops (fE ops.toList []) j i = true) → (∀ i o, ops[i]? = some o → listed.getD i false = true → ∀ e ∈ o.after, Region.binds .any e = true → listed.getD e.on false = true) → (∀ i ∈ AL, ∃ b, (i, b) ∈ pend ∧ a1U Γ ops C E a i b) → (pend.Pairwise fun p q => p.2 ≠ q.2) → (∀ j ∈ os, xL lm ops (fE ops.toList []) AL L2 j = true) → Rel C E s a → cA Γ (bU P ex) ops fl (os ++ (AL ++ L2)) s K → wpAny P .any ops Q n listed a E.w := by
  intro n os pend listed s E a hn hsz hm hp hd hpd hpw hgood hR h
  obtain ⟨s', E', k1, k2, k3⟩ := WC hΓ hK hpw AL (fun i hi oi hoi j hj => by
   have hg := hgood j hj
   unfold xL at hg
   split at hg
   ·rename_i oj hoj
    simp only [Bool.and_eq_true] at hg
    have h1 := List.all_eq_true.1 hg.1.2 i hi
    rw [hoi] at h1
    exact ⟨oj, hoj, by rw [hfl]; exact h1⟩
   ·cases hg) hnd hpd hR h
  rw [← k3]
  refine sT hΓ hK hQ he hfl n (os ++ L2) listed (by rw [List.length_append]; exact hn.symm) hsz (fun i => by rw [List.mem_append]; exact hm i) ?_ hd (fun i hi o ho => ?_) k2 k1
  ·rw [List.pairwise_append]
   refine ⟨hp, hp2, fun j hj i hi => ?_⟩
   have hg := hgood j hj
   unfold xL at hg
   split at hg
   ·simp only [Bool.and_eq_true] at hg
    exact List.all_eq_true.1 hg.2 i hi
   ·cases hg
  ·have : dD o.op = false := by
    rcases List.mem_append.1 hi with hi | hi
    ·have hg := hgood i hi
     unfold xL at hg
     rw [ho] at hg
     simp only [Bool.and_eq_true, Bool.not_eq_true'] at hg
     exact hg.1.1
    ·exact hL2 i hi o ho
   rw [this]
   simp
 intro n
 induction n with
 | zero =>
  intro os rem pend listed s E a hn hsz hm hp hos hrem hrnd hd hcov hpw hpd hany hanyO hR h
  have ho : os = [] := List.eq_nil_of_length_eq_zero (by omega)
  have hr : rem = [] := List.eq_nil_of_length_eq_zero (by omega)
  subst ho; subst hr
  exact fin 0 [] pend listed (by simp at hn ⊢; omega) hsz (fun i => by have := hm i; simpa using this) hp hd (fun i hi => by
   rcases hcov i hi with h1 | ⟨b, hb⟩
   ·cases h1
   ·exact ⟨b, hb, (hpd _ hb).2.2⟩) hpw (fun j hj => by cases hj) hR h
 | succ n ih =>
  intro os rem pend listed s E a hn hsz hm hp hos hrem hrnd hd hcov hpw hpd hany hanyO hR h
  by_cases hdone : rem = [] ∧ ∀ j ∈ os, xL lm ops (fE ops.toList []) AL L2 j = true
  ·obtain ⟨hr, hgood⟩ := hdone
   subst hr
   exact fin (n + 1) os pend listed (by simp at hn ⊢; omega) hsz (fun i => by have := hm i; simpa using this) hp hd (fun i hi => by
    rcases hcov i hi with h1 | ⟨b, hb⟩
    ·cases h1
    ·exact ⟨b, hb, (hpd _ hb).2.2⟩) hpw hgood hR h
  have hgd : ∀ i, i < ops.size → ∀ b, listed.getD i b = listed.getD i true := by
   intro i hi b
   simp [Array.getD_eq_getD_getElem?, hsz, hi]
  obtain ⟨j0, hj0, hj0'⟩ : ∃ j, (j ∈ os ∨ j ∈ rem) ∧ ∀ i ∈ L2, Nat.testBit ((fE ops.toList []).getD i 0) j = true := by
   cases hr : rem with
   | cons x xs => exact ⟨x, .inr (by simp), fun i hi => hancA i hi x (hrem x (by rw [hr]; simp))⟩
   | nil =>
    have : ∃ j ∈ os, ¬ xL lm ops (fE ops.toList []) AL L2 j = true := by
     refine Classical.byContradiction fun hno => hdone ⟨hr, fun j hj => ?_⟩
     exact Classical.byContradiction fun hg => hno ⟨j, hj, hg⟩
    obtain ⟨j, hj, hg⟩ := this
    exact ⟨j, .inl hj, fun i hi => (hanc1 i hi j (hos j hj)).resolve_right hg⟩
  refine ⟨fun hr => ?_, fun i hi => ?_⟩
  ·exfalso
   obtain ⟨i, hi, hmin⟩ := KH (fun i => i ∈ os ∨ i ∈ rem ∨ i ∈ L2) ⟨j0, hj0.imp id .inl⟩
   obtain ⟨hlt, hnl⟩ := (hm i).1 hi
   have : i ∈ Region.ready .any ops listed := by
    rw [mem_ready]
    refine ⟨hnl, ops[i], by simp [hlt], fun e hee hb => ?_⟩
    have hel : e.on < i := by
     have := eW he i hlt
     simp only [Array.getElem?_eq_getElem hlt, List.all_eq_true] at this
     have := this e (by simpa using hee)
     rw [hb] at this
     have := Nat.le_of_ble_eq_true this
     omega
    cases hq : listed.getD e.on true with
    | true => rw [hgd _ (by omega) false]; exact hq
    | false => exact absurd (hmin e.on ((hm e.on).2 ⟨by omega, hq⟩)) (by omega)
   rw [hr] at this
   cases this
  ·rw [mem_ready] at hi
   obtain ⟨hnl, o, ho, hedge⟩ := hi
   have hlt := (Array.getElem?_eq_some_iff.1 ho).1
   have hmem := (hm i).2 ⟨hlt, hnl⟩
   have hn2 : i ∉ L2 := by
    intro hi2
    have := nR (listed := listed) hd i j0 o ho hedge (hj0' i hi2)
    obtain ⟨h3, h4⟩ := (hm j0).1 (hj0.imp id .inl)
    rw [hgd j0 h3 false] at this
    rw [h4] at this
    cases this
   have hd' : ∀ j oj, ops[j]? = some oj → (listed.setIfInBounds i true).getD j false = true → ∀ e ∈ oj.after, Region.binds .any e = true → (listed.setIfInBounds i true).getD e.on false = true := by
    intro j oj hoj hjl e hee hb
    by_cases hji : j = i
    ·subst hji
     rw [ho] at hoj
     cases hoj
     exact getD_set_true (hedge e hee hb)
    ·rw [getD_set_ne false (Ne.symm hji)] at hjl
     exact getD_set_true (hd j oj hoj hjl e hee hb)
   have hm' : ∀ (os' rem' : List Nat), (∀ j, (j ∈ os' ∨ j ∈ rem') ↔ (j ∈ os ∨ j ∈ rem) ∧ j ≠ i) → ∀ j, (j ∈ os' ∨ j ∈ rem' ∨ j ∈ L2) ↔ j < ops.size ∧ (listed.setIfInBounds i true).getD j true = false := by
    intro os' rem' hor j
    have key : (j ∈ os' ∨ j ∈ rem' ∨ j ∈ L2) ↔ (j ∈ os ∨ j ∈ rem ∨ j ∈ L2) ∧ j ≠ i := by
     constructor
     ·rintro (h1 | h1 | h1)
      ·obtain ⟨h2, h3⟩ := (hor j).1 (.inl h1)
       exact ⟨h2.imp id .inl, h3⟩
      ·obtain ⟨h2, h3⟩ := (hor j).1 (.inr h1)
       exact ⟨h2.imp id .inl, h3⟩
      ·exact ⟨.inr (.inr h1), fun hh => hn2 (hh ▸ h1)⟩
     ·rintro ⟨h1 | h1 | h1, h2⟩
      ·exact ((hor j).2 ⟨.inl h1, h2⟩).imp id .inl
      ·exact ((hor j).2 ⟨.inr h1, h2⟩).imp id .inl
      ·exact .inr (.inr h1)
    rw [key, hm j]
    by_cases hji : j = i
    ·subst hji
     have : (listed.setIfInBounds j true).getD j true = true := by simp [Array.getD_eq_getD_getElem?, hsz, hlt]
     rw [this]
     simp
    ·rw [getD_set_ne true (Ne.symm hji)]
     simp [hji]
   by_cases hio : i ∈ os
   ·
    have hir : i ∉ rem := fun hh => hdis i (hrem i hh) (hos i hio)
    obtain ⟨pre, post, rfl⟩ := List.append_of_mem hio
    have hpre : ∀ j ∈ pre, ∃ oj, ops[j]? = some oj ∧ yS ops oj o (fl j) (fl i) = true := by
     intro j hj
     have hpair : eI lm ops (fE ops.toList []) j i = true := by
      rw [List.pairwise_append] at hp
      exact hp.2.2 j hj i (by simp)
     obtain ⟨hjlt, hjn⟩ := (hm j).1 (.inl (by simp [hj]))
     simp only [eI, Bool.and_eq_true, Bool.or_eq_true] at hpair
     rcases hpair.2 with hb | hb
     ·have := nR (listed := listed) hd i j o ho hedge hb
      rw [hgd j hjlt false] at this
      rw [hjn] at this
      cases this
     ·rw [ho, Array.getElem?_eq_getElem hjlt] at hb
      exact ⟨_, Array.getElem?_eq_getElem hjlt, by rw [hfl]; exact hb⟩
    have hne : ∀ j, j ∈ pre ∨ j ∈ post → j ≠ i := by
     intro j hj hji
     subst hji
     rw [List.pairwise_append] at hp
     have hcontra : eI lm ops (fE ops.toList []) j j = true := by
      rcases hj with hj | hj
      ·exact hp.2.2 j hj j (by simp)
      ·exact (List.pairwise_cons.1 hp.2.1).1 j hj
     simp [eI] at hcontra
    have hdst : ∀ k ∈ AL, ∀ ok d, ops[k]? = some ok → ok.dst = some d → o.dst ≠ some d := fun k hk ok d hok hd => x7 (haw i (hos i hio) k hk) ho hok d hd
    have hrest : ∀ {s2 : St} {E2 : Env} {x : Value}, (cA Γ (bU P ex) ops fl (pre ++ post ++ (AL ++ L2)) s2 K) → (∀ k, o.dst ≠ some k → lk s2.t k = lk s.t k) → (∀ p ∈ pend, E.o p.2 = some [] → p.2 < E.w.heap.size → E2.o p.2 = some [] ∧ E2.w.heap[p.2]? = E.w.heap[p.2]? ∧ p.2 < E2.w.heap.size) → Rel C E2 s2 (a.put o.dst x) → wpAny P .any ops Q n (listed.setIfInBounds i true) (a.put o.dst x) E2.w := by
     intro s2 E2 x h2 hsl hfr hR2
     refine ih (pre ++ post) rem pend _ (by simp at hn ⊢; omega) (by simpa using hsz) (hm' (pre ++ post) rem fun j => ?_) ?_ (fun j hj => hos j (by simp at hj ⊢; rcases hj with hj | hj; exact .inl hj; exact .inr (.inr hj))) hrem hrnd hd' hcov hpw (fun p hp' => ?_) (fun k hk ok d hok hdd => ?_) (fun hlm k hk ok d hok hdd => ?_) hR2 h2
     ·constructor
      ·rintro (hj | hj)
       ·exact ⟨.inl (by simp at hj ⊢; rcases hj with hj | hj; exact .inl hj; exact .inr (.inr hj)), hne j (by simpa using hj)⟩
       ·exact ⟨.inr hj, fun hh => hir (hh ▸ hj)⟩
      ·rintro ⟨hj | hj, hji⟩
       ·left
        simp at hj ⊢
        rcases hj with hj | hj | hj
        ·exact .inl hj
        ·exact absurd hj hji
        ·exact .inr hj
       ·exact .inr hj
     ·rw [List.pairwise_append] at hp ⊢
      exact ⟨hp.1, (List.pairwise_cons.1 hp.2.1).2, fun a ha b hb => hp.2.2 a ha b (by simp [hb])⟩
     ·obtain ⟨q0, qr, o', d', t', ti', q1, q2, q3, q4, q5, q6, q7, q8, q9, c, e, q10, q11⟩ := hpd p hp'
      obtain ⟨g1, g2, g3⟩ := hfr p hp' q7 q9
      exact ⟨q0, qr, o', d', t', ti', q1, q2, q3, q4, q5, by rw [IP a o.dst x (hdst p.1 q0 o' d' q1 q4)]; exact q6, g1, q8, g3, c, e, g2.trans q10, q11⟩
     ·rw [hsl d (hdst k hk ok d hok hdd)]
      obtain ⟨g1, g2⟩ := hany k hk ok d hok hdd
      exact ⟨g1, by rw [OG]; exact g2⟩
     ·have hk' : k ∈ pre ++ i :: post := by simp at hk ⊢; rcases hk with hk | hk; exact .inl hk; exact .inr (.inr hk)
      rw [hsl d (hdis1 hlm i (hos i hio) k (hos k hk') (fun h => hne k (by simpa using hk) h.symm) o ok d ho hok hdd)]
      exact hanyO hlm k hk' ok d hok hdd
    rw [List.append_assoc, List.cons_append] at h
    have hfront : dO Γ (bU P ex) ops (fl i) o s fun s1 => cA Γ (bU P ex) ops fl (pre ++ (post ++ (AL ++ L2))) s1 K := by
     cases hc : (fl i && dD o.op) with
     | false => exact N2 hK ho hc pre hpre h
     | true =>
      have hlm : lm = true := by
       simp only [Bool.and_eq_true] at hc
       have h1 := hc.1
       rw [hfl] at h1
       unfold fA at h1
       rw [ho] at h1
       simp only [hc.2, cond_true] at h1
       exact h1
      refine X4 hK ho hc pre hpre (fun j hj oj d hoj hd => hanyO hlm j (by simp [hj]) oj d hoj hd) ?_ h
      rw [List.pairwise_append] at hp
      refine List.Pairwise.imp_of_mem (fun {j k} hj hk hjk oj ok d hoj hok hd => ?_) hp.1
      refine hdis1 hlm j (hos j (by simp [hj])) k (hos k (by simp [hk])) (fun h => ?_) oj ok d hoj hok hd
      rw [h] at hjk
      simp [eI] at hjk
    have hstep := TO hfront
    rw [← List.append_assoc] at hstep
    obtain ⟨C', hR', hback⟩ : ∃ C' : Ctx, Rel C' E s a ∧ ∀ E' s' a', Rel C' E' s' a' → Rel C E' s' a' ∧ ∀ p ∈ pend, E.o p.2 = some [] → p.2 < E.w.heap.size → E'.o p.2 = some [] ∧ E'.w.heap[p.2]? = E.w.heap[p.2]? ∧ p.2 < E'.w.heap.size := by
     refine ⟨C.re E, a2S hR, fun E' s' a' hR2 => ⟨a2U hR hR2, fun p hp' h1 h2 => ?_⟩⟩
     obtain ⟨g1, g2⟩ := ZA hR2 h1 h2
     exact ⟨g1, g2, Nat.lt_of_lt_of_le h2 hR2.fr.size⟩
    unfold wpOp
    rw [ho]
    simp only
    rcases qT hR' hstep with ⟨hw, h2⟩ | ⟨hw, h2⟩
    ·rw [if_pos hw]
     left
     refine A7 hΓ hR' h2 _ Q fun v s' E' x hK' hRx hv => ?_
     obtain ⟨s2, ⟨h3, hsl⟩, hR2⟩ := pE hRx hK' hv
     exact hrest h3 hsl (hback _ _ _ hR2).2 (hback _ _ _ hR2).1
    ·rw [if_neg (by rw [hw]; simp)]
     obtain ⟨s2, ⟨h3, hsl⟩, hR2⟩ := pE hR' h2 (x := undef) ⟨[], rfl, trivial⟩
     exact hrest h3 hsl (hback _ _ _ hR2).2 (hback _ _ _ hR2).1
   ·
    have hir : i ∈ rem := (hmem.resolve_left hio).resolve_right hn2
    have hiA := hrem i hir
    obtain ⟨o', d, t, ti, ho', hop, hg, hdd, ht⟩ := I4 (hfree i hiA)
    rw [ho] at ho'
    cases ho'
    obtain ⟨inf, z, hi1, _, _, hz, hzc⟩ := (hΓ _ _ ht).info
    unfold wpOp
    rw [ho]
    simp only
    rw [if_pos (by simp [Region.wanted, hg])]
    left
    have hrun : (execOp a.eval o).run P E.w = .ok (.value (.pointer (some ⟨E.w.heap.size, 0, none⟩))) (E.blk z.cells t).w := by
     simp only [execOp, hop]
     simp [Instr.alloc, zeroValue, dI hi1, hz, newVar, newRow, Env.blk, c9]
    unfold Oper.wp
    rw [hrun]
    show wpAny P .any ops Q n (listed.setIfInBounds i true) (a.put o.dst _) (E.blk z.cells t).w
    rw [hdd]
    have hdA : ∀ k ∈ AL, k ≠ i → ∀ ok dk, ops[k]? = some ok → ok.dst = some dk → (some d : Option Nat) ≠ some dk := fun k hk hki ok dk hok hdk => by
     rw [← hdd]
     exact haa i hiA k hk (Ne.symm hki) o ok dk ho hok hdk
    have hR2 := a0M hR z.cells t (hany i hiA o d ho hdd).1 (.pointer (some ⟨E.w.heap.size, 0, none⟩))
    have hszd := (hany i hiA o d ho hdd).2
    refine ih os (rem.erase i) ((i, E.w.heap.size) :: pend) _ (by rw [List.length_erase_of_mem hir]; have := List.length_pos_of_mem hir; omega) (by simpa using hsz) (hm' os (rem.erase i) fun j => ?_) hp hos (fun j hj => hrem j (List.mem_of_mem_erase hj)) (hrnd.erase i) hd' (fun k hk => ?_) (List.pairwise_cons.2 ⟨fun p hp' => ?_, hpw⟩) (fun p hp' => ?_) (fun k hk ok dk hok hdk => by
     obtain ⟨g1, g2⟩ := hany k hk ok dk hok hdk
     exact ⟨g1, by rw [OG]; exact g2⟩) hanyO hR2 h
    ·rw [hrnd.mem_erase_iff]
     constructor
     ·rintro (hj | ⟨h1, h2⟩)
      ·exact ⟨.inl hj, fun hh => hio (hh ▸ hj)⟩
      ·exact ⟨.inr h2, h1⟩
     ·rintro ⟨hj | hj, hji⟩
      ·exact .inl hj
      ·exact .inr ⟨hji, hj⟩
    ·by_cases hki : k = i
     ·subst hki
      exact .inr ⟨E.w.heap.size, .head _⟩
     ·rcases hcov k hk with h1 | ⟨b, hb⟩
      ·exact .inl ((hrnd.mem_erase_iff).2 ⟨hki, h1⟩)
      ·exact .inr ⟨b, by simp [hb]⟩
    ·obtain ⟨_, _, _, _, _, _, _, _, _, _, _, _, _, _, q9, _⟩ := hpd p hp'
     show E.w.heap.size ≠ p.2
     omega
    ·simp only [List.mem_cons] at hp'
     rcases hp' with rfl | hp'
     ·refine ⟨hiA, fun hh => ((hrnd.mem_erase_iff).1 hh).1 rfl, o, d, t, ti, ho, hop, hg, hdd, ht, ?_, ?_, hR.fr.size, ?_, z.cells, t, ?_, hzc⟩
      ·simp [Act.put, Array.getD, hszd]
      ·simp [Env.blk]
      ·simp [Env.blk, c9]
      ·exact eJ _ _ _
     ·obtain ⟨q0, qr, o', d', t', ti', q1, q2, q3, q4, q5, q6, q7, q8, q9, c, e, q10, q11⟩ := hpd p hp'
      have hpi : p.1 ≠ i := fun hh => qr (hh ▸ hir)
      refine ⟨q0, fun hh => qr (List.mem_of_mem_erase hh), o', d', t', ti', q1, q2, q3, q4, q5, by rw [IP a (some d) _ (hdA p.1 q0 hpi o' d' q1 q4)]; exact q6, ?_, q8, ?_, c, e, (cZ _ _ _ q9).trans q10, q11⟩
      ·show (if p.2 = E.w.heap.size then some [] else E.o p.2) = _
       rw [if_neg (Nat.ne_of_lt q9)]
       exact q7
      ·simp only [Env.blk, c9, Array.size_push]
       omega
theorem IR (hR : Rel C E s a) {i : Nat} {cs cs' : List V} (hob : s.ob i = some ⟨true, cs⟩) (hnm : eG cs = false) (hnm' : eG cs' = false) (h : ∀ k v, cs'[k]? = some v → cs[k]? = some v ∨ ∃ u, E.w.cell? ⟨(E.ρ i).1, k, none⟩ = some u ∧ Rv E .none v u) : ∃ E', Rel C E' (s.put i (some ⟨true, cs'⟩)) a ∧ E'.w = E.w := by
 let E' : Env := { E with g := fun j => if j = i then some ⟨true, cs'⟩ else E.g j }
 have hm : Mono E E' := by
  refine ⟨Nat.le_refl _, fun _ _ h => ⟨h, rfl⟩, Nat.le_refl _, fun l hl hs => ⟨?_, rfl, id, fun c e h => ⟨c, h, rfl⟩⟩, fun l k hl ht => ⟨?_, rfl⟩⟩
  ·by_cases hli : l = i
   ·rw [hli]; exact dA hR hob
   ·simpa [E', hli] using hs
  ·obtain ⟨ds, sz, n, r, hg, hk⟩ := ht
   by_cases hli : l = i
   ·simp [E', hli] at hg
   ·exact ⟨ds, sz, n, r, by simpa [E', hli] using hg, hk⟩
 refine ⟨E', ⟨hR.size, hR.nd, fun k => (hR.slot k).slot hm, ?_, ?_, fun l x hl => ?_, hR.okb, hR.lab, hR.fr, hR.old, hR.pin.mono hm⟩, rfl⟩
 ·funext l
  rw [lP hob]
  simp only [E', hR.g]
 ·simp [E', St.put, dB, hR.n]
 ·rw [lP hob] at hl
  by_cases hli : l = i
  ·rw [if_pos hli] at hl
   cases hl
   subst hli
   obtain ⟨c, e, hh, h0, hlab, hrow⟩ := lT (hR.ob l _ hob) hnm
   refine .inl ⟨hnm', c, e, hh, h0, hlab, cD fun k v hk => ?_⟩
   rcases h k v hk with h1 | ⟨u, h1, h2⟩
   ·obtain ⟨u, hu, hr⟩ := bR hrow k v h1
    exact ⟨u, hu, hr.slot hm⟩
   ·exact ⟨u, by rw [Nat.zero_add]; exact h1, h2.slot hm⟩
  ·rw [if_neg hli] at hl
   exact ObR.mono hm rfl (fun _ _ h => ⟨h, rfl⟩) (hR.ob l x hl)
theorem OJ (hR : Rel C E s a) {i f j z n lo : Nat} {hi : Option Nat} {cs : List V} (hob : s.ob i = some ⟨true, cs⟩) (hc : cs[f]? = some (.own j z 0 n lo hi)) : ∃ E', Rel C E' (K4 s i cs f j z n) a ∧ E'.w = E.w := by
 unfold K4
 split
 ·rename_i r hobj
  ·have hij : ¬ i = j := by
    intro h
    rw [h, hobj] at hob
    cases hob
   have hmi : dY [j] i = false := by
    have hb : Nat.beq j i = false := by
     cases hb : Nat.beq j i with
     | false => rfl
     | true => exact absurd (Nat.eq_of_beq_eq_true hb).symm hij
    simp [dY, hb]
   have hR1 := LF hR [j]
   have hob1 : ({ s with g := eR [j] 0 s.g } : St).ob i = some ⟨true, cs⟩ := by
    show aX (eR [j] 0 s.g) i = _
    rw [xE, Nat.zero_add, hmi, if_neg (by simp)]
    exact hob
   have hnm := zR hc rfl
   obtain ⟨c, e, hh, h0, hlab, hrow⟩ := lT (hR.ob i _ hob) hnm
   refine IR hR1 hob1 hnm (IY hc rfl rfl) (cs' := cs.set f (.ro n (dM (r.take (n * z))))) (fun k v hk => ?_)
   rw [List.getElem?_set] at hk
   split at hk
   ·rename_i hf
    subst hf
    right
    split at hk
    ·cases hk
     obtain ⟨u, hu, hv⟩ := bR hrow _ _ hc
     refine ⟨u, by rw [Nat.zero_add] at hu; exact hu, ?_⟩
     obtain ⟨hin, A, cap, rfl, hnc, hlv⟩ := hv
     obtain ⟨hc', hlo, hhi, hbl⟩ := hlv (dA hR hobj)
     have hmj : dY [j] j = true := by simp [dY]
     refine ⟨A, cap, rfl, hc', fun hne => ?_⟩
     have hne' : r.take (n * z) ≠ [] := by intro h; rw [h] at hne; exact hne rfl
     have hn0 : n ≠ 0 := by
      intro h
      rw [h, Nat.zero_mul] at hne'
      exact hne' rfl
     have hrne : r ≠ [] := by
      intro h
      rw [h] at hne'
      simp at hne'
     rcases hbl with h0 | ⟨c, e, hA, ho, hh, hs⟩
     ·omega
     ·rcases hR.ob j _ hobj with h0 | ⟨c', e', hh', hl', hrow2⟩
      ·exact absurd h0 hrne
      ·have hobjl : ∀ (b : Nat) (q : List Nat), E.o b = some (j :: q) → pV [j] (E.o b) = none := fun b q ho => by
        rw [ho]
        simp [pV, hmj]
       refine ⟨(E.ρ j).1, (E.ρ j).2 + 0, hA, hobjl _ _ ho, cY hh, ?_⟩
       have hrow3 : Rrow E.bare (.at [j]) (E.ρ j).1 ((E.ρ j).2 + 0) 0 (r.take (n * z)) := cD fun k c hk => by
        have hck : r[0 + k]? = some c := by
         rw [List.getElem?_take] at hk
         split at hk
         ·rw [Nat.zero_add]; exact hk
         ·cases hk
        obtain ⟨v', h1, h2⟩ := bR hrow2 (0 + k) c hck
        exact ⟨v', by rw [Nat.add_assoc]; exact h1, by rw [Nat.zero_add] at h2; exact h2⟩
       exact Rrow.freeze (G := E.only j) (F := (E.frz [j]).bare) rfl rfl (full := True) (fun _ b h => by
        have h' : E.okb b := h
        rw [hR.okb] at h'
        show pV [j] (E.o b) = none
        rw [h']; rfl) (xZ (E := E) (i := j) (o0 := fun b => pV [j] (E.o b)) hobjl) (m := .at [j]) (fun q hq => by cases hq; simp) (.inl trivial) (F1 hrow3)
    ·cases hk
   ·exact .inl hk
 ·exact ⟨E, hR, rfl⟩
theorem OK (hR : Rel C E s a) (k sz : Nat) : ∃ E', Rel C E' (KR s k sz) a ∧ E'.w = E.w := by
 unfold KR
 split
 ·rename_i hk
  have hR1 := kS (p := (0, 0)) (ob := ⟨false, []⟩) hR rfl (.inl rfl)
  refine ⟨_, ⟨hR1.size, hR1.nd, fun j => ?_, hR1.g, hR1.n, hR1.ob, hR1.okb, hR1.lab, hR1.fr, hR1.old, hR1.pin⟩, rfl⟩
  show Rv _ .none (lk (up s.t k _) j) _
  rw [XO]
  by_cases hj : j = k
  ·rw [if_pos hj]
   have hs := hR.slot k
   rw [hk] at hs
   rw [hj, hs.1, ← hR.n]
   exact ⟨by simp [Env.addO], none, 0, rfl, Nat.le_refl _, fun _ => ⟨Nat.le_refl _, Nat.le_refl _, fun h hh => (by cases hh), .inl rfl⟩⟩
  ·rw [if_neg hj]
   exact hR1.slot j
 ·rename_i i hslot
  split
  ·rename_i cs hob
   split
   ·rename_i hc
    have hR1 := kS (p := (0, 0)) (ob := ⟨false, []⟩) hR rfl (.inl rfl)
    have hilt : i < s.g.length := eK (g := s.g) hob
    have hob1 : (s.add ⟨false, []⟩).ob i = some ⟨true, cs⟩ := by
     show aX (s.g ++ [some ⟨false, []⟩]) i = _
     rw [eD, if_neg (by omega)]
     exact hob
    have hne : i ≠ E.n := by rw [hR.n]; omega
    have hnm := zR hc rfl
    obtain ⟨c, e, hh, h0, hlab, hrow⟩ := lT (hR.ob i _ hob) hnm
    obtain ⟨E2, h2, hw2⟩ := IR hR1 hob1 hnm (IY hc rfl rfl) (cs' := cs.set (Nat.pred (Nat.div sz 100)) (.own s.g.length (Nat.mod sz 100) 0 0 0 none)) (fun k v hk => by
     rw [List.getElem?_set] at hk
     split at hk
     ·rename_i hf
      subst hf
      right
      split at hk
      ·cases hk
       obtain ⟨u, hu, hr⟩ := bR hrow _ _ hc
       refine ⟨u, ?_, ?_⟩
       ·have hρ : (E.addO (0, 0) ⟨false, []⟩).ρ i = E.ρ i := by simp only [Env.addO, if_neg hne]
        rw [hρ]
        rw [Nat.zero_add] at hu
        exact hu
       ·rw [hr.1, ← hR.n]
        exact ⟨by simp [Env.addO], none, 0, rfl, Nat.le_refl _, fun _ => ⟨Nat.le_refl _, Nat.le_refl _, fun h hh => (by cases hh), .inl rfl⟩⟩
      ·cases hk
     ·exact .inl hk)
    exact ⟨E2, h2, hw2⟩
   ·rename_i j z n _ _ hc
    cases Nat.beq (Nat.mod sz 100) 99 with
    | true => exact OJ hR hob hc
    | false => exact ⟨E, hR, rfl⟩
   ·exact ⟨E, hR, rfl⟩
  ·exact ⟨E, hR, rfl⟩
 ·exact ⟨E, hR, rfl⟩
theorem oZ : ∀ (ks : List (Nat × Nat)) {s : St} {E : Env}, Rel C E s a → ∃ E', Rel C E' (jL s ks) a ∧ E'.w = E.w
 | [], s, E, hR => ⟨E, hR, rfl⟩
 | (k, sz) :: r, s, E, hR => by
  simp only [jL]
  cases Nat.beq sz 0 with
  | true => exact oZ r hR
  | false =>
   obtain ⟨E1, h1, hw1⟩ := OK hR k sz
   obtain ⟨E2, h2, hw2⟩ := oZ r h1
   exact ⟨E2, h2, hw2.trans hw1⟩
theorem JB : ∀ (n j : Nat), iP n j ++ [j + n] = iP (n + 1) j
 | 0, j => rfl
 | n + 1, j => by
  show j :: (iP n (j + 1) ++ [j + (n + 1)]) = j :: iP (n + 1) (j + 1)
  rw [← JB n (j + 1)]
  congr 3
  omega
theorem GE : ∀ (n j : Nat), (iP n j).length = n
 | 0, j => rfl
 | n + 1, j => by simp [iP, GE n (j + 1)]
theorem JA : ∀ (n j i : Nat), j + n ≤ i → dY (iP n j) i = false
 | 0, j, i, h => rfl
 | n + 1, j, i, h => by
  simp only [iP, dY]
  have hb : Nat.beq j i = false := by
   cases hb : Nat.beq j i with
   | false => rfl
   | true => have := Nat.eq_of_beq_eq_true hb; omega
  rw [hb]
  exact JA n (j + 1) i (by omega)
theorem AB : ∀ (f : Nat) (l d : List Nat), ∃ r, oY s f l d = d ++ r
 | 0, l, d => ⟨[], by simp [oY]⟩
 | f + 1, [], d => ⟨[], by simp [oY]⟩
 | f + 1, i :: l, d => by
  simp only [oY]
  cases dY d i with
  | true => exact AB f l d
  | false =>
   obtain ⟨r, hr⟩ := AB f (l ++ OI (s.ob i)) (d ++ [i])
   exact ⟨i :: r, by rw [cond_false, hr, List.append_assoc]; rfl⟩
theorem wK : ∀ (n j f : Nat) (l : List Nat), n ≤ f → ∃ r, oY s f (iP n j ++ l) (iP j 0) = iP (j + n) 0 ++ r
 | 0, j, f, l, h => AB f l (iP j 0)
 | n + 1, j, 0, l, h => by omega
 | n + 1, j, f + 1, l, h => by
  have h1 : iP j 0 ++ [j] = iP (j + 1) 0 := by have := JB j 0; rwa [Nat.zero_add] at this
  have hs : oY s (f + 1) (iP (n + 1) j ++ l) (iP j 0) = oY s f (iP n (j + 1) ++ (l ++ OI (s.ob j))) (iP (j + 1) 0) := by
   show (bif dY (iP j 0) j then _ else oY s f ((iP n (j + 1) ++ l) ++ OI (s.ob j)) (iP j 0 ++ [j])) = _
   rw [JA j 0 j (by omega), cond_false, h1, List.append_assoc]
  obtain ⟨r, hr⟩ := wK n (j + 1) f (l ++ OI (s.ob j)) (by omega)
  exact ⟨r, by rw [hs, hr, show j + 1 + n = j + (n + 1) from by omega]⟩
theorem wI : ∀ (n j k : Nat) (r : List Nat), j ≤ k → k < j + n → cH j (iP n j ++ r) k = some k
 | 0, j, k, r, h1, h2 => by omega
 | n + 1, j, k, r, h1, h2 => by
  simp only [iP, List.cons_append, cH]
  cases hb : Nat.beq j k with
  | true => rw [Nat.eq_of_beq_eq_true hb]; rfl
  | false =>
   have : j ≠ k := fun h => by rw [h] at hb; simp at hb
   exact wI n (j + 1) k r (by omega) (by omega)
theorem FG (hR : Rel C E s a) (hnp : C.np ≤ 90) (ks : List (Nat × Nat)) : ∃ E', Rel C E' (a0D C.np ks s) a ∧ E'.w = E.w := by
 obtain ⟨E1, h1, hw1⟩ := oZ ks hR
 refine ⟨_, LH (kp := none) h1 _ _ ?_, hw1⟩
 obtain ⟨r, hr⟩ := wK (s := jL s ks) C.np 0 100 (T9 (jL s ks).t (ZV ks)) (by omega)
 have hr' : oY (jL s ks) 100 (iP C.np 0 ++ T9 (jL s ks).t (ZV ks)) [] = iP C.np 0 ++ r := by
  have := hr
  rw [Nat.zero_add] at this
  exact this
 rw [hr']
 exact ⟨by rw [List.length_append, GE]; omega, fun k hk => wI C.np 0 k r (Nat.zero_le _) (by omega)⟩
end
def X.exit' : X → Exit
 | .normal => .normal
 | .exit id => .exit id
 | .ret => .ret
theorem XK (p : Nat → Prop) (h : ∃ n, p n) : ∃ n, p n ∧ ∀ m, p m → n ≤ m := by
 obtain ⟨n, hn⟩ := h
 induction n using Nat.strongRecOn with
 | _ n ih =>
  by_cases hx : ∃ m, m < n ∧ p m
  ·obtain ⟨m, hm, hp⟩ := hx
   exact ih m hm hp
  ·exact ⟨n, hn, fun m hm => Nat.le_of_not_lt fun hlt => hx ⟨m, hlt, hm⟩⟩
theorem yA {P : Program} {ex : Exs} {Γ : Tab} {C : Ctx} (hΓ : fD P Γ) {ops : Array Oper} {L : List Nat} {np : Nat} {s : St} {E : Env} {a : Act} {K0 : St → Prop} {Q' : Exit → Act → World → Prop}
  (hR : Rel C E s a) (hL : JX np Γ ops (fE ops.toList []) L = true) (h : DR Γ (bU P ex) ops (fE ops.toList []) L s K0) (hQ : ∀ s' E' a', K0 s' → Rel C E' s' a' → Q' .normal a' E'.w) :
  wpAny P .any ops Q' ops.size (Array.replicate ops.size false) a { E.w with drawn := E.w.drawn + 1 } := by
 unfold JX at hL
 unfold DR at h
 let K' : St → Prop := fun s => ∃ s', Eqv s' s ∧ K0 s'
 have hK' : ∀ s s', Eqv s s' → K' s → K' s' := fun s s' he ⟨s0, h0, hq⟩ => ⟨s0, h0.trans he, hq⟩
 have hRd := TA hR
 have hrep : ∀ (i : Nat) (o : Oper), ops[i]? = some o → (Array.replicate ops.size false).getD i false = true → ∀ e ∈ o.after, Region.binds .any e = true → (Array.replicate ops.size false).getD e.on false = true := fun i o ho hl => by
  have hi := (Array.getElem?_eq_some_iff.1 ho).1
  simp [Array.getD_eq_getD_getElem?, hi] at hl
 cases hml : zT L with
 | true =>
  rw [hml] at hL h
  simp only [cond_true, Bool.and_eq_true, XF, Nat.pred_eq_sub_one] at hL h
  obtain ⟨⟨⟨⟨⟨h0, h1⟩, h2⟩, h3⟩, h4⟩, h5⟩ := hL
  generalize TS L = M at *
  have hpos : 0 < ops.size := by
   rcases Nat.eq_zero_or_pos ops.size with hz | hz
   ·rw [hz] at h0; simp at h0
   ·exact hz
  have hp := iN h1
  have hmem : ∀ i, i ∈ M ↔ i < ops.size - 1 := by
   intro i
   constructor
   ·intro hi
    have := List.all_eq_true.1 h3 i hi
    have := Nat.le_of_ble_eq_true this
    omega
   ·intro hi
    exact qD (eW h2 i hi)
  have hlen : M.length = ops.size - 1 := by
   have hnd : M.Nodup := hp.imp fun {a b} hab he => by subst he; simp [eI] at hab
   have hperm : List.Perm M (List.range (ops.size - 1)) := (List.perm_ext_iff_of_nodup hnd List.nodup_range).2 fun i => by rw [hmem, List.mem_range]
   simpa using hperm.length_eq
  let K1 : St → Prop := fun s => ∃ s0, Eqv s0 s ∧ SG Γ (bU P ex) ops s0 (K0)
  suffices key : wpAny P .any ops Q' (ops.size - 1 + 1) (Array.replicate ops.size false) a E.drw.w by
   rw [show ops.size - 1 + 1 = ops.size from by omega] at key
   exact key
  refine AW (ex := ex) (K := K1) hΓ (fun s s' he ⟨s0, h0, hq⟩ => ⟨s0, h0.trans he, hq⟩) (fun s' E' a' listed hk hR' hls hall hll hd => ?_) h4 hpos (fun i hi => eW h5 i hi) rfl (ops.size - 1) M (Array.replicate ops.size false) (s := s) (E := E.drw) hlen (by simp) (fun i => ?_) ?_ hp hrep (fun i hi o ho => ?_) hRd ?_
  ·obtain ⟨s0, he0, hk⟩ := hk
   have hR0 := hR'.eqv he0.symm
   have hgd : ∀ i, i < ops.size → ∀ b, listed.getD i b = listed.getD i true := by
    intro i hi b
    simp [Array.getD_eq_getD_getElem?, hls, hi]
   unfold SG at hk
   rw [Nat.pred_eq_sub_one, Array.getElem?_eq_getElem (by omega)] at hk
   simp only at hk
   refine ⟨fun hr => ?_, fun i hi => ?_⟩
   ·exfalso
    have : ops.size - 1 ∈ Region.ready .any ops listed := by
     rw [mem_ready]
     refine ⟨hll, ops[ops.size - 1], by simp [hpos], fun e hee hb => ?_⟩
     have hel : e.on < ops.size - 1 := by
      have := eW h4 (ops.size - 1) (by omega)
      simp only [Array.getElem?_eq_getElem (show ops.size - 1 < ops.size by omega), List.all_eq_true] at this
      have := this e (by simpa using hee)
      rw [hb] at this
      have := Nat.le_of_ble_eq_true this
      omega
     rw [hgd _ (by omega) false]
     exact hall _ hel
    rw [hr] at this
    cases this
   ·rw [mem_ready] at hi
    obtain ⟨hnl, o, ho, hedge⟩ := hi
    have hlt := (Array.getElem?_eq_some_iff.1 ho).1
    have hil : i = ops.size - 1 := by
     rcases Nat.lt_or_ge i (ops.size - 1) with hc | hc
     ·rw [hall i hc] at hnl; cases hnl
     ·omega
    subst hil
    have hoo : o = ops[ops.size - 1] := (Array.getElem?_eq_some_iff.1 ho).2.symm
    have hend : ∀ {s2 : St} {E2 : Env} {a2 : Act}, K0 s2 → Rel C E2 s2 a2 → wpAny P .any ops Q' 0 (listed.setIfInBounds (ops.size - 1) true) a2 E2.w := by
     intro s2 E2 a2 hq2 hR2
     refine ⟨?_, hQ s2 E2 a2 hq2 hR2⟩
     rw [List.eq_nil_iff_forall_not_mem]
     intro j hj
     rw [mem_ready] at hj
     obtain ⟨hj0, oj, hoj, _⟩ := hj
     have hjlt := (Array.getElem?_eq_some_iff.1 hoj).1
     by_cases hjl : j = ops.size - 1
     ·subst hjl
      have : (listed.setIfInBounds (ops.size - 1) true).getD (ops.size - 1) true = true := by simp [Array.getD_eq_getD_getElem?, hls, hlt]
      rw [this] at hj0
      cases hj0
     ·rw [getD_set_ne true (Ne.symm hjl), hall j (by omega)] at hj0
      cases hj0
    unfold wpOp
    rw [ho]
    simp only
    rw [← hoo] at hk
    rcases qT hR0 hk with ⟨hw, h2⟩ | ⟨hw, h2⟩
    ·rw [if_pos hw]
     left
     refine tN hΓ hR0 h2 _ Q' fun v s' E' x hK' hR' hv => ?_
     obtain ⟨s2, h3, hR2⟩ := pE hR' hK' hv
     exact hend h3 hR2
    ·rw [if_neg (by rw [hw]; simp)]
     obtain ⟨s2, h3, hR2⟩ := pE hR0 h2 (x := undef) ⟨[], rfl, trivial⟩
     exact hend h3 hR2
  ·rw [hmem]
   constructor
   ·intro hi
    exact ⟨hi, by simp [Array.getD_eq_getD_getElem?, show i < ops.size by omega]⟩
   ·exact fun h => h.1
  ·simp [Array.getD_eq_getD_getElem?, show ops.size - 1 < ops.size by omega]
  ·cases hc : dD o.op with
   | false => simp
   | true =>
    unfold fA
    rw [ho]
    simp only [hc, cond_true]
    rfl
  ·exact lK (fun s hq => ⟨s, Eqv.refl s, hq⟩) M h
 | false =>
 rw [hml] at hL h
 simp only [cond_false] at hL h
 cases hmb : dY L 1000 with
 | true =>
  rw [hmb] at hL h
  simp only [cond_true, Bool.and_eq_true, T4] at hL h
  obtain ⟨⟨⟨⟨⟨⟨⟨⟨⟨⟨⟨h1, h2⟩, h3⟩, h4⟩, h5⟩, h6⟩, h7⟩, h8⟩, h9⟩, h10⟩, h12⟩, h13⟩ := hL
  generalize hlmE : BF L = lm at *
  generalize zJ (J2 L) = L1 at *
  generalize zJ (vY L) = AL at *
  generalize vY (vY L) = L2 at *
  obtain ⟨s1, E1, g1, g2, g3, g4⟩ := KQ (ops := ops) (AL ++ (bif lm then L1 else [])) hRd h
  have hL2c : ∀ i ∈ L2, ∀ o, ops[i]? = some o → dD o.op = false := fun i hi o ho => by
   have := List.all_eq_true.1 h12 i hi
   unfold a1H at this
   rw [ho] at this
   simpa using this
  have hdis1 : lm = true → ∀ j ∈ L1, ∀ k ∈ L1, j ≠ k → ∀ oj ok d, ops[j]? = some oj → ops[k]? = some ok → ok.dst = some d → oj.dst ≠ some d := fun hlm j hj k hk hjk oj ok d hoj hok hd he => by
   rw [hlm] at h13
   simp only [Bool.not_true, Bool.false_or] at h13
   have hsym : ∀ x y, D4 ops x y = true → D4 ops y x = true := fun x y hxy => by
    unfold D4 at hxy ⊢
    cases hx : ops[x]? <;> cases hy : ops[y]? <;> rw [hx, hy] at hxy <;> simp_all
    rename_i a b
    cases ha : a.dst <;> cases hb : b.dst <;> simp_all [vO]
    rename_i u v
    cases hq : Nat.beq v u with
    | false => rfl
    | true =>
     rw [Nat.eq_of_beq_eq_true hq] at hxy
     simp at hxy
   have := LB hsym (iN h13) j hj k hk hjk
   unfold D4 at this
   rw [hoj, hok] at this
   simp only [he, hd, vO] at this
   simp at this
  have hfree : ∀ i ∈ AL, N1 Γ ops i = true := fun i hi => List.all_eq_true.1 h6 i hi
  have hancA : ∀ i ∈ L2, ∀ j ∈ AL, Nat.testBit ((fE ops.toList []).getD i 0) j = true ∧ i ≠ j := fun i hi j hj => by
   have := List.all_eq_true.1 h9 i hi
   simp only [Bool.and_eq_true] at this
   have := List.all_eq_true.1 this.1 j hj
   simp only [Bool.and_eq_true, Bool.not_eq_true'] at this
   exact ⟨this.1, fun hh => by have := this.2; rw [hh] at this; simp at this⟩
  have hanc1 : ∀ i ∈ L2, ∀ j ∈ L1, (Nat.testBit ((fE ops.toList []).getD i 0) j = true ∨ xL lm ops (fE ops.toList []) AL L2 j = true) ∧ i ≠ j := fun i hi j hj => by
   have := List.all_eq_true.1 h9 i hi
   simp only [Bool.and_eq_true] at this
   have := List.all_eq_true.1 this.2 j hj
   simp only [Bool.and_eq_true, Bool.or_eq_true, Bool.not_eq_true'] at this
   exact ⟨this.1, fun hh => by have := this.2; rw [hh] at this; simp at this⟩
  have hdis : ∀ i ∈ AL, i ∉ L1 := fun i hi hh => by
   have := List.all_eq_true.1 h10 i hi
   rw [SU hh] at this
   cases this
  have haw2 := iN h8
  have hnd1 : L1.Nodup := (iN h1).imp fun {a b} hab he => by subst he; simp [eI] at hab
  have hnd2 : L2.Nodup := (iN h2).imp fun {a b} hab he => by subst he; simp [eI] at hab
  have hndA : AL.Nodup := by
   refine List.Pairwise.imp_of_mem (fun {a b} ha hb hab he => ?_) haw2
   subst he
   obtain ⟨o, d, t, ti, ho, _, _, hd, _⟩ := I4 (hfree a ha)
   exact x7 hab ho ho d hd hd
  have hall : ∀ i, (i ∈ L1 ∨ i ∈ AL ∨ i ∈ L2) ↔ i < ops.size := by
   intro i
   constructor
   ·intro hi
    have := List.all_eq_true.1 h4 i (by
     simp only [List.mem_append]
     rcases hi with hi | hi | hi
     ·exact .inl (.inl hi)
     ·exact .inl (.inr hi)
     ·exact .inr hi)
    have := Nat.le_of_ble_eq_true this
    omega
   ·intro hi
    have := eW h3 i hi
    simp only [Bool.or_eq_true] at this
    rcases this with (h | h) | h
    ·exact .inl (qD h)
    ·exact .inr (.inl (qD h))
    ·exact .inr (.inr (qD h))
  have hlen : ops.size = L1.length + AL.length + L2.length := by
   have hnd : (L1 ++ (AL ++ L2)).Nodup := by
    rw [List.nodup_append]
    refine ⟨hnd1, ?_, fun a ha b hb hab => ?_⟩
    ·rw [List.nodup_append]
     exact ⟨hndA, hnd2, fun a ha b hb hab => (hancA b hb a ha).2 hab.symm⟩
    ·subst hab
     simp only [List.mem_append] at hb
     rcases hb with hb | hb
     ·exact hdis a hb ha
     ·exact (hanc1 a hb a ha).2 rfl
   have hperm : List.Perm (L1 ++ (AL ++ L2)) (List.range ops.size) := (List.perm_ext_iff_of_nodup hnd List.nodup_range).2 fun i => by simp [hall]
   have := hperm.length_eq
   simp at this
   omega
  suffices key : wpAny P .any ops Q' ops.size (Array.replicate ops.size false) a E1.w by
   rw [g3] at key
   exact key
  refine L9 (ex := ex) (K := K') hΓ hK' (fun s' E' a' ⟨s0, h0, hq⟩ hR' => hQ s0 E' a' hq (hR'.eqv h0.symm)) h5 rfl (L1 := L1) (AL := AL) (L2 := L2) hL2c hdis1 (iN h2) hfree (fun j hj i hi => List.all_eq_true.1 (List.all_eq_true.1 h7 j hj) i hi) ?_ hndA (fun i hi j hj => (hancA i hi j hj).1) (fun i hi j hj => (hanc1 i hi j hj).1) hdis ops.size L1 AL [] (Array.replicate ops.size false) hlen (by simp) (fun i => ?_) (iN h1) (fun j hj => hj) (fun j hj => hj) hndA hrep (fun i hi => .inl hi) List.Pairwise.nil (fun p hp => by cases hp) (fun i hi => g4 i (by simp [hi])) (fun hlm j hj oj d hoj hd => (g4 j (by rw [hlm]; simp [hj]) oj d hoj hd).1) g1 ?_
  ·intro i hi k hk hik oi ok d hoi hok hd he
   have hsym : ∀ x y : Nat, x6 ops x y = true ∨ x6 ops y x = true → ∀ ox oy, ops[x]? = some ox → ops[y]? = some oy → oy.dst = some d → ox.dst ≠ some d := by
    rintro x y (h | h) ox oy hx hy hd1 hd2
    ·exact x7 h hx hy d hd1 hd2
    ·exact x7 h hy hx d hd2 hd1
   have := LB (R := fun x y : Nat => x6 ops x y = true ∨ x6 ops y x = true) (fun x y hxy => hxy.symm) (haw2.imp fun hxy => .inl hxy) i hi k hk hik
   exact hsym i k this oi ok hoi hok hd he
  ·rw [hall]
   constructor
   ·intro hi
    exact ⟨hi, by simp [Array.getD_eq_getD_getElem?, hi]⟩
   ·exact fun h => h.1
  ·rw [y6, show (fun s => cA Γ (bU P ex) ops (fA lm ops (fE ops.toList [])) (AL ++ L2) s K') = fun s => cA Γ (bU P ex) ops (fA lm ops (fE ops.toList [])) AL s fun s => cA Γ (bU P ex) ops (fA lm ops (fE ops.toList [])) L2 s K' from funext fun s => y6 AL L2]
   exact lK (fun s hs => lK (fun s hs => lK (fun s hq => ⟨s, Eqv.refl s, hq⟩) L2 hs) AL hs) L1 g2
 | false =>
 rw [hmb] at hL h
 simp only [cond_false, S6, Bool.and_eq_true] at hL h
 obtain ⟨⟨⟨h1, h2⟩, h3⟩, h4⟩ := hL
 have hp := iN h1
 have hmem : ∀ i, i ∈ L ↔ i < ops.size := by
  intro i
  constructor
  ·intro hi
   have := List.all_eq_true.1 h3 i hi
   have := Nat.le_of_ble_eq_true this
   omega
  ·intro hi
   exact qD (eW h2 i hi)
 have hlen : L.length = ops.size := by
  have hnd : L.Nodup := hp.imp fun {a b} hab he => by subst he; simp [eI] at hab
  have hperm : List.Perm L (List.range ops.size) := (List.perm_ext_iff_of_nodup hnd List.nodup_range).2 fun i => by rw [hmem, List.mem_range]
  simpa using hperm.length_eq
 refine sT (ex := ex) (K := K') hΓ hK' (fun s' E' a' ⟨s0, h0, hq⟩ hR' => hQ s0 E' a' hq (hR'.eqv h0.symm)) h4 rfl ops.size L (Array.replicate ops.size false) (s := s) (E := E.drw) hlen (by simp) (fun i => ?_) hp hrep (fun i hi o ho => ?_) hRd ?_
 ·rw [hmem]
  constructor
  ·intro hi
   exact ⟨hi, by simp [Array.getD_eq_getD_getElem?, hi]⟩
  ·exact fun h => h.1
 ·cases hc : dD o.op with
  | false => simp
  | true =>
   unfold fA
   rw [ho]
   simp only [hc, cond_true]
   rfl
 ·exact lK (fun s hq => ⟨s, Eqv.refl s, hq⟩) L h
section
variable {C : Ctx} {E : Env} {s : St} {a : Act}
def Away (ops : Array Oper) (a a' : Act) : Prop := a'.tmps.size = a.tmps.size ∧ ∀ k, (∀ (i : Nat) (o : Oper), ops[i]? = some o → o.dst ≠ some k) → a'.tmps.getD k undef = a.tmps.getD k undef
theorem Away.refl (ops : Array Oper) (a : Act) : Away ops a a := ⟨rfl, fun _ _ => rfl⟩
theorem Away.put {ops : Array Oper} {a a' : Act} (h : Away ops a a') {i : Nat} {o : Oper} (ho : ops[i]? = some o) (x : Value) : Away ops a (a'.put o.dst x) := by
 refine ⟨?_, fun k hk => ?_⟩
 ·rw [← h.1]
  cases o.dst <;> simp [Act.put]
 ·rw [← h.2 k hk]
  cases hd : o.dst with
  | none => rfl
  | some d =>
   have hne : d ≠ k := fun he => hk i o ho (by rw [hd, he])
   simp only [Act.put, Array.getD_eq_getD_getElem?, Array.getElem?_setIfInBounds]
   rw [if_neg hne]
def SL (ops : Array Oper) (a : Act) (Q : Exit → Act → World → Prop) : Exit → Act → World → Prop
 | .normal, x, w => Away ops a x → Q .normal x w
 | e, x, w => Q e x w
theorem xT {ops : Array Oper} {a : Act} {Q : Exit → Act → World → Prop} (h : LetsOut (SL ops a Q)) : LetsOut Q := h
theorem VQ {P : Program} {ops : Array Oper} {a0 a : Act} {Q : Exit → Act → World → Prop} {i : Nat} {o : Oper} (ho : ops[i]? = some o) (ha : Away ops a0 a) {next next' : Act → World → Prop} (hn : ∀ a' w', Away ops a0 a' → next a' w' → next' a' w') {r : Result Next} (h : o.upon P a next (SL ops a0 Q) r) : o.upon P a next' Q r := by
 cases r with
 | ok n w' =>
  cases n <;> simp only [Oper.upon] at h ⊢
  case value v => exact hn _ _ (ha.put ho v) h
  case skip => exact hn _ _ (ha.put ho _) h
  case defer d => exact hn _ _ (Away.put (a' := { a with defers := d :: a.defers }) ⟨ha.1, ha.2⟩ ho _) h
  case enter f args =>
   refine Calls.mono h fun e w'' he => ?_
   cases e with
   | returned v => exact hn _ _ (ha.put ho v) he
   | panicked c => exact he
   | outgrown => exact xT he
  case row row args => exact Rows.mono h fun v w'' he => hn _ _ (ha.put ho v) he
 | halt x w' => cases x <;> simp only [Oper.upon] at h ⊢ <;> exact h
theorem GL {P : Program} {md : Region.Mode} {ops : Array Oper} {a0 : Act} {Q : Exit → Act → World → Prop} : ∀ (fuel : Nat) (listed : Array Bool) (a : Act) (w : World), Away ops a0 a → wpAny P md ops (SL ops a0 Q) fuel listed a w → wpAny P md ops Q fuel listed a w
 | 0, listed, a, w, ha, h => ⟨h.1, h.2 ha⟩
 | fuel + 1, listed, a, w, ha, h => by
  refine ⟨fun hr => h.1 hr ha, fun i hi => ?_⟩
  have h2 := h.2 i hi
  have hmono : ∀ a' w', Away ops a0 a' → wpAny P md ops (SL ops a0 Q) fuel (listed.setIfInBounds i true) a' w' → wpAny P md ops Q fuel (listed.setIfInBounds i true) a' w' := fun a' w' ha' h' => GL fuel _ a' w' ha' h'
  unfold wpOp at h2 ⊢
  cases ho : ops[i]? with
  | none => rw [ho] at h2; exact hmono a w ha h2
  | some o =>
   rw [ho] at h2
   simp only at h2 ⊢
   split
   ·rename_i hw
    rw [if_pos hw] at h2
    exact h2.imp (fun h3 => VQ ho ha hmono h3) fun h3 => ⟨h3.1, xT h3.2⟩
   ·rename_i hw
    rw [if_neg hw] at h2
    exact hmono _ w (ha.put ho _) h2
theorem a2Y (hR : Rel C E s a) : SeeD E s (fun _ => none) (fun _ => True) := by
 exact ⟨fun _ _ => rfl, fun _ _ _ _ _ => rfl, fun i _ cs _ => m8 (fun _ => trivial) cs⟩
theorem a09 (hR : Rel C E s a) {v : V} {x : Value} {K : V → Prop} (h : XP s v K) (hv : Rv E .none v x) : ∃ u, K u ∧ Rv (aZ E.w fun _ => none) .none u x := by
 have hS := a2Y hR
 unfold XP at h
 split at h
 ·rename_i i off
  split at h
  ·rename_i cs hob
   obtain ⟨hnm, h⟩ := a1G h
   obtain ⟨hin, ad, hx, hlv⟩ := hv
   have had := hlv (dA hR hob)
   subst had
   obtain ⟨c, e, hh, h0, hl, hrow⟩ := lT (hR.ob i _ hob) hnm
   have hrow2 : Rrow E .none (E.ρ i).1 ((E.ρ i).2 + off) 0 (cs.drop off) := cD fun k u hk => by
    rw [List.getElem?_drop] at hk
    obtain ⟨z, hz, hrz⟩ := bR hrow (off + k) u hk
    exact ⟨z, by rw [h0, Nat.zero_add]; rw [Nat.zero_add] at hz; exact hz, hrz⟩
   obtain ⟨xs, _, h2, h1⟩ := yZ hrow2
   obtain ⟨us, hK, hu⟩ := nN hR hS (m8 (fun _ => trivial) _) h h1
   refine ⟨_, hK, (E.ρ i).1, (E.ρ i).2 + off, hx, rfl, cY hh, cD fun k u hk => ?_⟩
   obtain ⟨z, hz, hrz⟩ := gE hu k u hk
   exact ⟨z, h2 k z hz, hrz⟩
  ·exact h.elim
 ·exact FU hR hS (SD (fun _ => trivial) v) h hv
theorem NS (hR : Rel C E s a) : ∀ (ks : List Nat) {K : List (Nat × V) → Prop}, KK s ks K → ∃ vs, K vs ∧ ∀ k, Rv (aZ E.w fun _ => none) .none (lk vs k) (a.tmps.getD k undef)
 | [], K, h => ⟨[], h, fun k => trivial⟩
 | k :: r, K, h => by
  obtain ⟨v, h1, hv⟩ := a09 hR h (hR.slot k)
  obtain ⟨vs, h2, hvs⟩ := NS hR r h1
  refine ⟨_, h2, fun j => ?_⟩
  simp only [lk]
  cases hb : Nat.beq k j with
  | true => rw [← Nat.eq_of_beq_eq_true hb]; exact hv
  | false => exact hvs j
def Ctx.look (E : Env) : Ctx := ⟨E.w, fun _ => False, fun _ => none, (fun _ _ _ h => by cases h), 0, fun _ => (0, 0), fun _ => False⟩
theorem YG (hR : Rel C E s a) {vs : List (Nat × V)} (hv : ∀ k, Rv (aZ E.w fun _ => none) .none (lk vs k) (a.tmps.getD k undef)) : Rel (Ctx.look E) (aZ E.w fun _ => none) ⟨s.N, vs, []⟩ a := by
 refine ⟨hR.size, hR.nd, hv, ?_, rfl, fun i ob hi => ?_, rfl, (fun b p hp => by cases hp), ⟨rfl, rfl, rfl, Nat.le_refl _, fun _ _ _ => rfl, fun b c e h => ⟨c, h, rfl⟩, Nat.le_refl _⟩, fun _ _ _ => rfl, ⟨Nat.le_refl _, fun k hk => absurd hk (Nat.not_lt_zero _)⟩⟩
 ·funext i; rfl
 ·cases i <;> cases hi
theorem zU (s2 : St) (k : Nat) : ∀ (os : List Oper) (s : St), (lk (lG s2 os s).t k = lk s.t k ∧ ∀ o ∈ os, o.dst ≠ some k) ∨ lk (lG s2 os s).t k = a0W (lk s2.t k)
 | [], s => .inl ⟨rfl, fun o h => by cases h⟩
 | o :: r, s => by
  unfold lG
  cases hd : o.dst with
  | none =>
   simp only
   rcases zU s2 k r s with ⟨h1, h2⟩ | h
   ·exact .inl ⟨h1, fun o' ho' => by
     rcases List.mem_cons.1 ho' with rfl | ho'
     ·rw [hd]; simp
     ·exact h2 o' ho'⟩
   ·exact .inr h
  | some d =>
   simp only
   rcases zU s2 k r { s with t := up s.t d (a0W (lk s2.t d)) } with ⟨h1, h2⟩ | h
   ·by_cases hk : k = d
    ·right
     rw [h1]
     show lk (up s.t d _) k = _
     rw [KJ, if_pos hk, hk]
    ·left
     refine ⟨?_, fun o' ho' => ?_⟩
     ·rw [h1]
      show lk (up s.t d _) k = _
      rw [KJ, if_neg hk]
     ·rcases List.mem_cons.1 ho' with rfl | ho'
      ·rw [hd]; exact fun he => hk (Option.some.inj he).symm
      ·exact h2 o' ho'
   ·exact .inr h
theorem zV (s2 : St) : ∀ (os : List Oper) (s : St), (lG s2 os s).N = s.N ∧ (lG s2 os s).g = s.g
 | [], s => ⟨rfl, rfl⟩
 | o :: r, s => by
  unfold lG
  cases o.dst with
  | none => exact zV s2 r s
  | some d => exact zV s2 r _
theorem QU (hR : Rel C E s a) {ops : Array Oper} {E2 : Env} {s2 : St} {a2 : Act} (h : Rel (Ctx.look E) E2 s2 a2) (haw : Away ops a a2) : Rel C { E with w := E2.w } (lG s2 ops.toList s) a2 := by
 have hf := hR.fr
 have hg := h.fr
 have hb : ∀ b, b < E.w.heap.size → E2.w.heap[b]? = E.w.heap[b]? := fun b hb => hg.block b hb (fun h => h)
 have hsz : E.w.heap.size ≤ E2.w.heap.size := hg.size
 have hm : Mono E { E with w := E2.w } := by
  refine ⟨hsz, fun b hb' hok => ⟨hok, hb b hb'⟩, Nat.le_refl _, fun i hi hl => ⟨hl, rfl, fun ho => ho, fun c e hh => ⟨c, ?_, rfl⟩⟩, fun i j hi ht => ⟨ht, dQ (hb _ (qL hR ht))⟩⟩
  show E2.w.heap[_]? = _
  rw [hb _ (cY hh)]
  exact hh
 obtain ⟨hN, hgg⟩ := zV s2 ops.toList s
 have hob : ∀ i, (lG s2 ops.toList s).ob i = s.ob i := fun i => by simp only [St.ob, hgg]
 refine ⟨by rw [haw.1, hR.size, hN], h.nd, fun k => ?_, by rw [show ({ E with w := E2.w } : Env).g = E.g from rfl, hR.g]; funext i; exact (hob i).symm, by rw [hgg]; exact hR.n, fun i ob hi => ?_, hR.okb, fun b p hp => ?_, ⟨hg.os.trans hf.os, hg.tape.trans hf.tape, hg.output.trans hf.output, Nat.le_trans hf.size hsz, fun k hk hl => (hb k (Nat.lt_of_lt_of_le hk hf.size)).trans (hf.block k hk hl), fun b c e hc => ?_, Nat.le_trans hf.drawn hg.drawn⟩, hR.old, hR.pin.mono hm⟩
 ·rcases zU s2 k ops.toList s with ⟨h1, h2⟩ | h1
  ·rw [h1, haw.2 k (fun i o ho => h2 o (by
    have := Array.mem_of_getElem? ho
    exact Array.mem_toList_iff.2 this))]
   exact (hR.slot k).slot hm
  ·rw [h1]
   have hs := h.slot k
   cases hv : lk s2.t k with
   | sc v => rw [hv] at hs; exact hs
   | _ => trivial
 ·rw [hob] at hi
  exact ObR.mono hm rfl (fun b r hb' => ⟨hb', hb b (hR.lab _ _ hb').1⟩) (hR.ob i ob hi)
 ·obtain ⟨h1, h2⟩ := hR.lab b p hp
  exact ⟨Nat.lt_of_lt_of_le h1 hsz, h2⟩
 ·obtain ⟨c1, h1, h2⟩ := hf.shape b c e hc
  exact ⟨c1, by show E2.w.heap[b]? = _; rw [hb b (cY h1)]; exact h1, h2⟩
theorem EM (s2 : St) {K : St → Prop} : ∀ (os : List Oper) (s : St), I7 s2 os s K → K (lG s2 os s)
 | [], s, h => h
 | o :: r, s, h => by
  unfold I7 at h
  unfold lG
  cases hd : o.dst with
  | none => rw [hd] at h; exact EM s2 r s h
  | some d =>
   rw [hd] at h
   simp only at h ⊢
   exact EM s2 r _ ((cR _ _ _ _).1 h).2
theorem QB {P : Program} {ex : Exs} {Γ : Tab} {C : Ctx} (hΓ : fD P Γ) {ops : Array Oper} {L ks : List Nat} {np : Nat} {s : St} {E : Env} {a : Act} {K0 : St → Prop} {Q' : Exit → Act → World → Prop}
  (hR : Rel C E s a) (hL : JX np Γ ops (fE ops.toList []) L = true) (h : KK s ks fun vs => DR Γ (bU P ex) ops (fE ops.toList []) L ⟨s.N, vs, []⟩ fun s2 => I7 s2 ops.toList s K0) (hQ : ∀ s' E' a', K0 s' → Rel C E' s' a' → Q' .normal a' E'.w) :
  wpAny P .any ops Q' ops.size (Array.replicate ops.size false) a { E.w with drawn := E.w.drawn + 1 } := by
 obtain ⟨vs, hV, hv⟩ := NS hR ks h
 refine GL _ _ _ _ (Away.refl ops a) ?_
 exact yA (E := aZ E.w fun _ => none) hΓ (YG hR hv) hL hV fun s' E' a' hk hR' haw => hQ (lG s' ops.toList s) { E with w := E'.w } a' (EM s' ops.toList s hk) (QU hR hR' haw)
end
def iJ (i : Nat) : Option (List Nat) → Option (List Nat)
 | some (h :: k :: r) => if h = i then none else some (h :: k :: r)
 | x => x
def Env.cool (E : Env) (i : Nat) (cs : List V) : Env := { E with o := fun b => iJ i (E.o b), g := fun j => if j = i then some ⟨false, cs⟩ else E.g j, okb := fun b => iJ i (E.o b) = none }
theorem JV {i : Nat} {x : Option (List Nat)} {p : List Nat} (h : iJ i x = some p) : x = some p := by
 unfold iJ at h
 split at h
 ·split at h
  ·cases h
  ·exact h
 ·exact h
theorem LL : ∀ {cs : List V} {k : Nat} {v : V}, (dM cs)[k]? = some v → ∃ u, cs[k]? = some u ∧ v = roV u
 | c :: cs, 0, v, h => by simp [dM] at h; exact ⟨c, rfl, h.symm⟩
 | c :: cs, k + 1, v, h => by
  obtain ⟨u, h1, h2⟩ := LL (cs := cs) (k := k) (by simpa [dM] using h)
  exact ⟨u, by simpa using h1, h2⟩
 | [], k, v, h => by simp [dM] at h
theorem VF {u : V} {sz n : Nat} {r : List V} (h : V.tr sz n r = roV u) : False := by
 cases u <;> simp [roV] at h
theorem YM {E : Env} {v : V} {x : Value} {q : List Nat} (h : Rv E .none (roV v) x) : Rv E (.at q) (roV v) x := by
 cases v <;> exact h
theorem UF {C : Ctx} {E : Env} {s : St} {a : Act} (hR : Rel C E s a) {i : Nat} {cs : List V} (hob : s.ob i = some ⟨false, cs⟩) : Mono E (E.cool i (dM cs)) := by
 refine ⟨Nat.le_refl _, fun b _ hok => ⟨?_, rfl⟩, Nat.le_refl _, fun j hj hl => ?_, fun j k hj ht => ?_⟩
 ·rw [hR.okb] at hok
  show iJ i (E.o b) = none
  rw [hok]
  rfl
 ·refine ⟨?_, rfl, fun ho => ?_, fun c e h => ⟨c, h, rfl⟩⟩
  ·by_cases hji : j = i
   ·subst hji
    rw [hR.g, hob]
    rfl
   ·simpa [Env.cool, hji] using hl
  ·show iJ i (E.o (E.ρ j).1) = some [j]
   rw [ho]
   rfl
 ·obtain ⟨cs', sz, n, r, hg, hk⟩ := ht
  by_cases hji : j = i
  ·subst hji
   simp only [Env.cool, if_true, Option.some.injEq] at hg
   cases hg
   obtain ⟨u, _, hu⟩ := LL hk
   exact (VF hu).elim
  ·exact ⟨⟨cs', sz, n, r, by simpa [Env.cool, hji] using hg, hk⟩, rfl⟩
theorem ZR {C : Ctx} {E : Env} {s : St} {a : Act} (hR : Rel C E s a) {i : Nat} {cs : List V} (hob : s.ob i = some ⟨false, cs⟩) : Rel C (E.cool i (dM cs)) (s.put i (some ⟨false, dM cs⟩)) a := by
 have hm := UF hR hob
 refine ⟨hR.size, hR.nd, fun k => (hR.slot k).slot hm, ?_, ?_, fun j x hx => ?_, rfl, fun b p hp => ?_, hR.fr, fun b hb hl => ?_, hR.pin.mono hm⟩
 ·funext j
  rw [lP hob]
  simp only [Env.cool, hR.g]
 ·simp [Env.cool, St.put, dB, hR.n]
 ·rw [lP hob] at hx
  by_cases hji : j = i
  ·subst hji
   rw [if_pos rfl] at hx
   cases hx
   rcases hR.ob j _ hob with h0 | ⟨c, e, hh, ho, hrow⟩
   ·left
    rw [h0]
    rfl
   ·refine .inr ⟨c, e, hh, ?_, cD fun k v hk => ?_⟩
    ·show iJ j (E.o (E.ρ j).1) = some [j]
     rw [ho]
     rfl
    ·obtain ⟨u, hu, rfl⟩ := LL hk
     obtain ⟨y, hy, hr⟩ := bR hrow k u hu
     refine ⟨y, hy, YM ?_⟩
     let G : Env := { E.bare with o := fun b => match E.o b with
      | some (h :: k' :: r) => if h = j then some (h :: k' :: r) else none
      | _ => none }
     have hG : Mono E.bare G := ⟨Nat.le_refl _, fun b _ h => ⟨h, rfl⟩, Nat.le_refl _, fun _ h _ => absurd h (Nat.not_lt_zero _), fun _ _ h _ => absurd h (Nat.not_lt_zero _)⟩
     have hmv : Moved E.bare G [j, 0 + k] [j, 0 + k] := fun b r hb => by
      refine ⟨?_, rfl⟩
      have hb' : E.o b = some (j :: (0 + k) :: r) := hb
      show (match E.o b with
       | some (h :: k' :: r) => if h = j then some (h :: k' :: r) else none
       | _ => none) = _
      rw [hb']
      simp
     have h1 : Rv G (.at [j, 0 + k]) u y := Rv.move hG hmv hr
     refine Rv.freeze (G := G) (F := (E.cool j (dM cs)).bare) rfl rfl (full := True) (fun _ b h => ?_) (fun b q hq h => ?_) (m := .at [j, 0 + k]) (fun q hq => by cases hq; simp) (.inl trivial) h1
     ·have h' : E.okb b := h
      rw [hR.okb] at h'
      show iJ j (E.o b) = none
      rw [h']
      rfl
     ·have h' : (match E.o b with
       | some (h :: k' :: r) => if h = j then some (h :: k' :: r) else none
       | _ => none) = some q := h
      show iJ j (E.o b) = none
      split at h'
      ·rename_i h0 k' r he
       rw [he]
       by_cases hj0 : h0 = j
       ·simp [iJ, hj0]
       ·rw [if_neg hj0] at h'
        cases h'
      ·cases h'
  ·rw [if_neg hji] at hx
   refine ObR.mono hm rfl (fun b r hb => ⟨?_, rfl⟩) (hR.ob j x hx)
   show iJ i (E.o b) = _
   rw [hb]
   cases r with
   | nil => rfl
   | cons r0 r => simp [iJ, hji]
 ·have := JV hp
  exact hR.lab b p this
 ·show iJ i (E.o b) = _
  rw [hR.old b hb hl]
  cases ho : C.o0 b with
  | none => rfl
  | some q => rw [C.dull b q hl ho]; rfl
theorem HY {C : Ctx} {a : Act} : ∀ {E : Env} {s : St}, Rel C E s a → ∀ D : List Nat, ∃ E', Rel C E' (JU D s) a ∧ E'.w = E.w
 | E, s, hR, [] => ⟨E, hR, rfl⟩
 | E, s, hR, i :: D => by
  unfold JU
  have : ∃ E1, Rel C E1 (PM i s) a ∧ E1.w = E.w := by
   unfold PM
   split
   ·rename_i cs hob
    exact ⟨_, ZR hR hob, rfl⟩
   ·exact ⟨E, hR, rfl⟩
  obtain ⟨E1, h1, hw⟩ := this
  obtain ⟨E2, h2, hw2⟩ := HY h1 D
  exact ⟨E2, h2, hw2.trans hw⟩
theorem vX {P : Program} {ex : Exs} {Γ : Tab} {C : Ctx} (hmx : P.follows .mixedOrders = true) (hΓ : fD P Γ) (hnp : C.np ≤ 90) : ∀ (c : Code) {s : St} {E : Env} {a : Act} {Q : X → St → Prop} {Q' : Exit → Act → World → Prop},
  Rel C E s a → VC C.np Γ (bU P ex) c Q s → (∀ e s' E' a', Q e s' → Rel C E' s' a' → Q' e.exit' a' E'.w) → c.wp P Q' a E.w := by
 intro c
 induction c with
 | skip => intro s E a Q Q' hR h hQ; exact wp_skip (hQ .normal s E a h hR)
 | region id ops draw =>
  intro s0 E0 a Q Q' hR0 h hQ
  have hcut : ∃ (s : St) (E : Env) (ex : Exs), Rel C E s a ∧ E.w = E0.w ∧ HJ C.np Γ (bU P ex) ops draw Q s := by
   unfold VC at h
   cases hgv : (bU P ex).gvr id with
   | true =>
    rw [hgv] at h
    exact ⟨s0, E0, { ex with giv := true }, hR0, rfl, h⟩
   | false =>
   rw [hgv] at h
   simp only [cond_false] at h
   cases hc : (bU P ex).cut id with
   | false => rw [hc] at h; exact ⟨s0, E0, ex, hR0, rfl, h⟩
   | true =>
    rw [hc] at h
    obtain ⟨ks, D, _, _, rfl, rfl, h⟩ := h
    obtain ⟨E0', hR0', hw0⟩ := FG hR0 hnp ks
    obtain ⟨E1, hR1, hw1'⟩ := HY hR0' D
    have hw1 := hw1'.trans hw0
    exact ⟨_, E1, ex, hR1, hw1, h⟩
  obtain ⟨s, E, ex, hR, hw0, h⟩ := hcut
  rw [← hw0]
  clear hw0 hR0
  unfold HJ at h
  cases draw with
  | false => exact wp_region (A8 hΓ (fun s' E' a' hK hR' => hQ .normal s' E' a' hK hR') _ _ (V9 ops) hR h)
  | true =>
   obtain ⟨L0, hL, h⟩ := h
   have h : XS Γ (bU P { ex with hid := a3F L0 }) ops (fE ops.toList []) L0 s (Q .normal) := h
   refine wp_region_any hmx ?_
   simp only [Bool.and_eq_true] at hL
   obtain ⟨hL, hFl⟩ := hL
   unfold XS at h
   simp only [UI (X0 hFl)] at h
   cases hlk : XR L0 with
   | true =>
    rw [hlk] at h
    simp only [cond_true] at h
    exact QB hΓ hR hL h fun s' E' a' hk hR' => hQ .normal s' E' a' hk hR'
   | false =>
    rw [hlk] at h
    simp only [cond_false] at h
    exact yA hΓ hR hL h fun s' E' a' hk hR' => hQ .normal s' E' a' hk hR'
 | seq x y ihx ihy =>
  intro s E a Q Q' hR h hQ
  refine wp_seq (ihx hR h fun e s' E' a' he hR' => ?_)
  cases e with
  | normal => exact ihy hR' he hQ
  | exit id => exact hQ (.exit id) s' E' a' he hR'
  | ret => exact hQ .ret s' E' a' he hR'
 | cond c x y ihx ihy =>
  intro s E a Q Q' hR h hQ
  unfold VC at h
  split at h
  ·rename_i b hb
   have hv := eS hR hb
   exact wp_cond_split hv (fun hb => by subst hb; exact ihx hR h hQ) (fun hb => by subst hb; exact ihy hR h hQ)
  ·exact h.elim
 | block id c ih =>
  intro s E a Q Q' hR h hQ
  refine wp_block (ih hR h fun e s' E' a' he hR' => ?_)
  cases e with
  | normal => exact hQ .normal s' E' a' he hR'
  | ret => exact hQ .ret s' E' a' he hR'
  | exit i =>
   simp only [WE] at he
   simp only [X.exit', Exit.inBlock]
   cases hb : Nat.beq i id with
   | true =>
    rw [hb] at he
    rw [if_pos (Nat.eq_of_beq_eq_true hb)]
    exact hQ .normal s' E' a' he hR'
   | false =>
    rw [hb] at he
    rw [if_neg (fun hi => by rw [hi] at hb; simp at hb)]
    exact hQ (.exit i) s' E' a' he hR'
 | loop c ih =>
  intro s E a Q Q' hR h hQ
  obtain ⟨ks, I, m, h0, hround⟩ := h
  classical
  let p : Act → World → Nat → Prop := fun a w n => ∃ s E, I n s ∧ Rel C E s a ∧ E.w = w
  refine wp_loop (fun a w => ∃ n, p a w n) (fun a w => if h : ∃ n, p a w n then Classical.choose (XK (p a w) h) else 0) ?_ ?_
  ·obtain ⟨E1, hR1, hw1⟩ := FG hR hnp ks
   exact ⟨_, _, E1, h0, hR1, hw1⟩
  ·intro a1 w1 hI
   obtain ⟨⟨s1, E1, hI1, hR1, hw1⟩, hmin⟩ := Classical.choose_spec (XK (p a1 w1) hI)
   rw [dif_pos hI]
   subst hw1
   refine ih hR1 (hround _ s1 hI1) fun e s' E' a' he hR' => ?_
   cases e with
   | normal =>
    obtain ⟨m', hlt, hI2⟩ := he
    obtain ⟨E2, hR2, hw2⟩ := FG hR' hnp ks
    have hp : p a' E'.w m' := ⟨_, E2, hI2, hR2, hw2⟩
    refine ⟨⟨_, hp⟩, ?_⟩
    rw [dif_pos ⟨_, hp⟩]
    have := (Classical.choose_spec (XK (p a' E'.w) ⟨_, hp⟩)).2 _ hp
    omega
   | exit id => exact hQ (.exit id) s' E' a' he hR'
   | ret => exact hQ .ret s' E' a' he hR'
 | exit id => intro s E a Q Q' hR h hQ; exact wp_exit (hQ (.exit id) s E a h hR)
 | ret => intro s E a Q Q' hR h hQ; exact wp_ret (hQ .ret s E a h hR)
 | _ => intro s E a Q Q' hR h hQ; exact h.elim
end Go.Proofs.YtboolngaahifdaaGreatD
