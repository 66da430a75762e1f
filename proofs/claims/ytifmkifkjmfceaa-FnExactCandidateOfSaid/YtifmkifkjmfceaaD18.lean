/- Code does what its condition says. -/
import Derived.Test.YtifmkifkjmfceaaD16
import Derived.Test.YtifmkifkjmfceaaD17e
import Derived.Orders
set_option linter.unusedVariables false
set_option linter.unusedSimpArgs false
namespace Go.Proofs.YtifmkifkjmfceaaD
open Go Go.RowKit

section
variable {P : Program} {Γ : Tab} {C : Ctx} {E : Env} {s : St} {a : Act} {o : Oper} {K : V → St → Prop}

theorem leastOf (p : Nat → Prop) (h : ∃ n, p n) : ∃ n, p n ∧ ∀ m, p m → n ≤ m := by
  obtain ⟨n, hn⟩ := h
  induction n using Nat.strongRecOn with
  | _ n ih =>
    by_cases hx : ∃ m, m < n ∧ p m
    · obtain ⟨m, hm, hp⟩ := hx
      exact ih m hm hp
    · exact ⟨n, hn, fun m hm => Nat.le_of_not_lt fun hlt => hx ⟨m, hlt, hm⟩⟩
theorem lk_up : ∀ (t : List (Nat × V)) (d : Nat) (v : V) (k : Nat), lk (up t d v) k = if k = d then v else lk t k
  | [], d, v, k => by
    simp only [up, lk]
    cases h : Nat.beq d k with
    | true => rw [if_pos (Nat.eq_of_beq_eq_true h).symm]; rfl
    | false => rw [if_neg (fun he => by rw [he] at h; simp at h)]; rfl
  | (j, u) :: r, d, v, k => by
    simp only [up]
    cases h1 : Nat.beq j d with
    | true =>
      have hjd := Nat.eq_of_beq_eq_true h1
      subst hjd
      simp only [cond_true, lk]
      cases h : Nat.beq j k with
      | true => rw [if_pos (Nat.eq_of_beq_eq_true h).symm]; rfl
      | false => rw [if_neg (fun he => by rw [he] at h; simp at h)]; rfl
    | false =>
      simp only [cond_false]
      cases h2 : Nat.blt d j with
      | true =>
        simp only [cond_true, lk]
        cases h : Nat.beq d k with
        | true => rw [if_pos (Nat.eq_of_beq_eq_true h).symm]; rfl
        | false => rw [if_neg (fun he => by rw [he] at h; simp at h)]; rfl
      | false =>
        simp only [cond_false, lk]
        cases h : Nat.beq j k with
        | true =>
          have hjk := Nat.eq_of_beq_eq_true h
          rw [if_neg (fun he => by rw [← he, ← hjk] at h1; simp at h1)]
          rfl
        | false =>
          simp only [cond_false]
          exact lk_up r d v k

theorem put_ok (hR : Rel C E s a) {d : Nat} {v : V} {x : Value} (hd : d < s.N) (hv : Rv E .none v x) : Rel C E { s with t := up s.t d v } (a.put (some d) x) := by
  refine ⟨by simp [Act.put, hR.size], hR.nd, fun k => ?_, hR.g, hR.n, hR.ob, hR.okb, hR.lab, hR.fr, hR.old, hR.pin⟩
  rw [lk_up]
  have hsz := hR.size
  by_cases hk : k = d
  · rw [if_pos hk]
    subst hk
    have : (a.put (some k) x).tmps.getD k undef = x := by
      simp [Act.put, Array.getD, hsz, hd]
    rw [this]
    exact hv
  · rw [if_neg hk]
    have : (a.put (some d) x).tmps.getD k undef = a.tmps.getD k undef := by
      simp only [Act.put, Array.getD_eq_getD_getElem?, Array.getElem?_setIfInBounds]
      rw [if_neg (fun h => hk h.symm)]
    rw [this]
    exact hR.slot k
theorem dst_ok (hR : Rel C E s a) {d : Option Nat} {v : V} {x : Value} {K : St → Prop} (h : dstK s d v K) (hv : Rv E .none v x) : ∃ s', K s' ∧ Rel C E s' (a.put d x) := by
  rw [dstK_eq] at h
  cases d with
  | none => exact ⟨s, h, hR⟩
  | some d =>
    obtain ⟨h1, h2⟩ := bif_true h
    exact ⟨_, h2, put_ok hR (by have := Nat.le_of_ble_eq_true h1; omega) hv⟩

theorem wanted_ok (hR : Rel C E s a) {ops : Array Oper} {yes no : Prop} (h : Wanted s ops o yes no) : (Region.wanted o (yielded ops a.tmps) = true ∧ yes) ∨ (Region.wanted o (yielded ops a.tmps) = false ∧ no) := by
  rw [Wanted_old] at h
  unfold WantedO at h
  cases hg : o.guard with
  | none => rw [hg] at h; exact .inl ⟨by simp [Region.wanted, hg], h⟩
  | some jw =>
    obtain ⟨j, want⟩ := jw
    rw [hg] at h
    simp only at h
    split at h
    · rename_i b hb
      cases hd : (ops[j]?).bind (·.dst) with
      | none => rw [hd] at hb; cases hb
      | some d =>
        rw [hd] at hb
        simp only [Option.map_some, Option.some.injEq] at hb
        have hs := hR.slot d
        rw [hb] at hs
        have hx : a.tmps.getD d undef = .bool b := hs.1
        have hlt : a.tmps[d]? = some (.bool b) := by
          rw [Array.getD_eq_getD_getElem?] at hx
          cases hq : a.tmps[d]? with
          | none => rw [hq] at hx; simp [undef] at hx
          | some y => rw [hq] at hx; simp at hx; rw [hx]
        have hy : yielded ops a.tmps j = some b := by simp [yielded, hd, hlt]
        cases b <;> cases want <;> simp_all [Region.wanted]
    · rename_i hb
      right
      refine ⟨?_, h⟩
      cases hd : (ops[j]?).bind (·.dst) with
      | none => rw [hd] at hb; cases hb
      | some d =>
        rw [hd] at hb
        simp only [Option.map_some, Option.some.injEq] at hb
        have hs := hR.slot d
        rw [hb] at hs
        obtain ⟨xs, hx, hxs⟩ := hs
        have hxn : xs = [] := by
          cases xs with
          | nil => rfl
          | cons _ _ => exact hxs.elim
        rw [hxn] at hx
        have hy : yielded ops a.tmps j = none := by
          simp only [yielded, hd, Option.bind_some]
          rw [Array.getD_eq_getD_getElem?] at hx
          cases hq : a.tmps[d]? with
          | none => rfl
          | some y => rw [hq] at hx; simp at hx; rw [hx]
        simp [Region.wanted, hg, hy]
    · exact h.elim

theorem ops_sound (hΓ : TabOk P Γ) {ops : Array Oper} {K : St → Prop} {Q : Exit → Act → World → Prop} (hQ : ∀ s' E' a', K s' → Rel C E' s' a' → Q .normal a' E'.w) :
    ∀ (os : List Oper) (l : List Nat) {s : St} {E : Env} {a : Act}, l.map (ops[·]?) = os.map some → Rel C E s a → opsVC Γ (SpecR P) ops os s K → wpOps P ops Q l a E.w
  | [], [], s, E, a, _, hR, h => hQ s E a h hR
  | [], _ :: _, s, E, a, hl, hR, h => by simp at hl
  | _ :: _, [], s, E, a, hl, hR, h => by simp at hl
  | o :: os, i :: l, s, E, a, hl, hR, h => by
    simp only [List.map_cons, List.cons.injEq] at hl
    obtain ⟨ho, hl⟩ := hl
    unfold wpOps
    rw [ho]
    simp only
    rcases wanted_ok hR h with ⟨hw, h⟩ | ⟨hw, h⟩
    · rw [if_pos hw]
      left
      refine op_sound hΓ hR h _ Q fun v s' E' x hK hR' hv => ?_
      obtain ⟨s2, h2, hR2⟩ := dst_ok hR' hK hv
      exact ops_sound hΓ hQ os l hl hR2 h2
    · rw [if_neg (by rw [hw]; simp)]
      obtain ⟨s2, h2, hR2⟩ := dst_ok hR h (x := undef) ⟨[], rfl, trivial⟩
      exact ops_sound hΓ hQ os l hl hR2 h2
theorem range_ops (ops : Array Oper) : (List.range ops.size).map (ops[·]?) = ops.toList.map some := by
  apply List.ext_getElem?
  intro i
  simp only [List.getElem?_map, List.getElem?_range', List.getElem?_range]
  by_cases h : i < ops.size
  · simp [List.getElem?_range h, h]
  · have h1 : (List.range ops.size)[i]? = none := by simp; omega
    have h2 : ops.toList[i]? = none := by simp; omega
    rw [h1, h2]; rfl

theorem Rel.eqv {s s' : St} (hR : Rel C E s a) (h : Eqv s s') : Rel C E s' a := by
  have hob : ∀ i, s'.ob i = s.ob i := fun i => by simp only [St.ob, h.2.1]
  exact ⟨by rw [← h.1]; exact hR.size, hR.nd, fun k => by rw [← h.2.2 k]; exact hR.slot k, by rw [hR.g]; funext i; exact (hob i).symm, by rw [← h.2.1]; exact hR.n, fun i ob hi => hR.ob i ob (by rw [← hob i]; exact hi), hR.okb, hR.lab, hR.fr, hR.old, hR.pin⟩
theorem opf_sound (hΓ : TabOk P Γ) {f : Bool} (hR : Rel C E s a) (h : opVCf Γ (SpecR P) f o s K) : OpOk P C E s a o K := by
  unfold opVCf at h
  cases hf : (f && Nat.beq (wc o.op) 0) with
  | false =>
    simp only [hf, cond_false] at h
    exact op_sound hΓ hR h
  | true =>
    simp only [hf, cond_true] at h
    simp only [Bool.and_eq_true] at hf
    obtain ⟨v, h1, h2⟩ := pure_sum (Nat.eq_of_beq_eq_true hf.2) h
    refine op_sound hΓ hR (h2 s (fun x _ => by cases x <;> rfl) (LeG.ofBoxes _) K h1)
theorem opsf_mono {ops : Array Oper} {fl : Nat → Bool} {K K' : St → Prop} (hK : ∀ s, K s → K' s) : ∀ (l : List Nat) {s : St}, opsVCf Γ (SpecR P) ops fl l s K → opsVCf Γ (SpecR P) ops fl l s K'
  | [], s, h => hK s h
  | i :: r, s, h => by
    simp only [opsVCf] at h ⊢
    split at h
    · rename_i o ho
      by_cases h0 : wc o.op = 0
      · obtain ⟨v, h1, h2, h3⟩ := pure_step h0 h
        exact h3 s (Agree.ofEqv (Eqv.refl s)) (.inr (LeG.refl _)) _ (opsf_mono hK r h2)
      · exact w_step h0 h (Agree.ofEqv (Eqv.refl s)) rfl fun v g' _ h1 => opsf_mono hK r h1
    · exact opsf_mono hK r h
theorem drawn_sound (hΓ : TabOk P Γ) {ops : Array Oper} {fl : Nat → Bool} {K : St → Prop} {Q : Exit → Act → World → Prop} (hK : ∀ s s', Eqv s s' → K s → K s') (hQ : ∀ s' E' a', K s' → Rel C E' s' a' → Q .normal a' E'.w)
    (he : edgesOk ops = true) (hfl : fl = flagOf ops (ancs ops.toList [])) :
    ∀ (n : Nat) (os : List Nat) (listed : Array Bool) {s : St} {E : Env} {a : Act}, os.length = n → listed.size = ops.size → (∀ i, i ∈ os ↔ i < ops.size ∧ listed.getD i true = false) →
      os.Pairwise (fun j i => pairOk ops (ancs ops.toList []) j i = true) → (∀ i o, ops[i]? = some o → listed.getD i false = true → ∀ e ∈ o.after, Region.binds .any e = true → listed.getD e.on false = true) →
      Rel C E s a → opsVCf Γ (SpecR P) ops fl os s K → wpAny P .any ops Q n listed a E.w
  | 0, os, listed, s, E, a, hl, hsz, hm, hp, hd, hR, h => by
    have hos := List.eq_nil_of_length_eq_zero hl
    subst hos
    refine ⟨?_, hQ s E a h hR⟩
    rw [List.eq_nil_iff_forall_not_mem]
    intro j hj
    rw [mem_ready] at hj
    obtain ⟨h0, o, ho, _⟩ := hj
    have := (hm j).2 ⟨(Array.getElem?_eq_some_iff.1 ho).1, h0⟩
    cases this
  | n + 1, os, listed, s, E, a, hl, hsz, hm, hp, hd, hR, h => by
    have hgd : ∀ i, i < ops.size → ∀ b, listed.getD i b = listed.getD i true := by
      intro i hi b
      simp [Array.getD_eq_getD_getElem?, hsz, hi]
    refine ⟨fun hr => ?_, fun i hi => ?_⟩
    · -- one is always ready
      exfalso
      obtain ⟨i0, hi0⟩ : ∃ i, i ∈ os := by
        cases os with
        | nil => simp at hl
        | cons x xs => exact ⟨x, by simp⟩
      obtain ⟨i, hi, hmin⟩ := leastOf (fun i => i ∈ os) ⟨i0, hi0⟩
      obtain ⟨hlt, hnl⟩ := (hm i).1 hi
      have : i ∈ Region.ready .any ops listed := by
        rw [mem_ready]
        refine ⟨hnl, ops[i], by simp [hlt], fun e hee hb => ?_⟩
        have hel : e.on < i := by
          have := allBelow_get he i hlt
          simp only [Array.getElem?_eq_getElem hlt, List.all_eq_true] at this
          have := this e (by simpa using hee)
          have := Nat.le_of_ble_eq_true this
          omega
        cases hq : listed.getD e.on true with
        | true => rw [hgd _ (by omega) false]; exact hq
        | false => exact absurd (hmin e.on ((hm e.on).2 ⟨by omega, hq⟩)) (by omega)
      rw [hr] at this
      cases this
    · have hi' := hi
      rw [mem_ready] at hi
      obtain ⟨hnl, o, ho, hedge⟩ := hi
      have hlt := (Array.getElem?_eq_some_iff.1 ho).1
      have hmem := (hm i).2 ⟨hlt, hnl⟩
      obtain ⟨pre, post, rfl⟩ := List.append_of_mem hmem
      have hpre : ∀ j ∈ pre, ∃ oj, ops[j]? = some oj ∧ swapB ops oj o (fl j) = true := by
        intro j hj
        have hpair : pairOk ops (ancs ops.toList []) j i = true := by
          rw [List.pairwise_append] at hp
          exact hp.2.2 j hj i (by simp)
        obtain ⟨hjlt, hjn⟩ := (hm j).1 (by simp [hj])
        simp only [pairOk, Bool.and_eq_true, Bool.or_eq_true] at hpair
        rcases hpair.2 with hb | hb
        · have := anc_listed (listed := listed) hd i j o ho hedge hb
          rw [hgd j hjlt false] at this
          rw [hjn] at this
          cases this
        · rw [ho, Array.getElem?_eq_getElem hjlt] at hb
          exact ⟨_, Array.getElem?_eq_getElem hjlt, by rw [hfl]; exact hb⟩
      have hne : ∀ j, j ∈ pre ∨ j ∈ post → j ≠ i := by
        intro j hj hji
        subst hji
        rw [List.pairwise_append] at hp
        have hcontra : pairOk ops (ancs ops.toList []) j j = true := by
          rcases hj with hj | hj
          · exact hp.2.2 j hj j (by simp)
          · exact (List.pairwise_cons.1 hp.2.1).1 j hj
        simp [pairOk] at hcontra
      have hrest : ∀ {s2 : St} {E2 : Env} {a2 : Act}, opsVCf Γ (SpecR P) ops fl (pre ++ post) s2 K → Rel C E2 s2 a2 → wpAny P .any ops Q n (listed.setIfInBounds i true) a2 E2.w := by
        intro s2 E2 a2 h2 hR2
        refine drawn_sound hΓ hK hQ he hfl n (pre ++ post) _ (by simp at hl ⊢; omega) (by simpa using hsz) (fun j => ?_) ?_ (fun j oj hoj hjl e hee hb => ?_) hR2 h2
        · constructor
          · intro hj
            have hji := hne j (by simpa using hj)
            obtain ⟨h3, h4⟩ := (hm j).1 (by simp at hj ⊢; rcases hj with hj | hj; exact .inl hj; exact .inr (.inr hj))
            exact ⟨h3, by rw [getD_set_ne true (Ne.symm hji)]; exact h4⟩
          · rintro ⟨h3, h4⟩
            have hji : j ≠ i := by
              rintro rfl
              have : (listed.setIfInBounds j true).getD j true = true := by simp [Array.getD_eq_getD_getElem?, hsz, h3]
              rw [this] at h4
              cases h4
            rw [getD_set_ne true (Ne.symm hji)] at h4
            have := (hm j).2 ⟨h3, h4⟩
            simp at this ⊢
            rcases this with h5 | h5 | h5
            · exact .inl h5
            · exact absurd h5 hji
            · exact .inr h5
        · rw [List.pairwise_append] at hp ⊢
          exact ⟨hp.1, (List.pairwise_cons.1 hp.2.1).2, fun a ha b hb => hp.2.2 a ha b (by simp [hb])⟩
        · by_cases hji : j = i
          · subst hji
            rw [ho] at hoj
            cases hoj
            exact getD_set_true (hedge e hee hb)
          · rw [getD_set_ne false (Ne.symm hji)] at hjl
            exact getD_set_true (hd j oj hoj hjl e hee hb)
      have hstep := front hK ho pre hpre h
      unfold wpOp
      rw [ho]
      simp only
      rcases wanted_ok hR hstep with ⟨hw, h2⟩ | ⟨hw, h2⟩
      · rw [if_pos hw]
        left
        refine opf_sound hΓ hR h2 _ Q fun v s' E' x hK' hR' hv => ?_
        obtain ⟨s2, h3, hR2⟩ := dst_ok hR' hK' hv
        exact hrest h3 hR2
      · rw [if_neg (by rw [hw]; simp)]
        obtain ⟨s2, h3, hR2⟩ := dst_ok hR h2 (x := undef) ⟨[], rfl, trivial⟩
        exact hrest h3 hR2

/-! ### Renaming -/
theorem posAt_some : ∀ {π : List Nat} {j i k : Nat}, posAt j π i = some k → j ≤ k ∧ k < j + π.length
  | [], j, i, k, h => by simp [posAt] at h
  | p :: r, j, i, k, h => by
    simp only [posAt] at h
    cases hb : Nat.beq p i with
    | true => rw [hb] at h; simp at h; subst h; simp
    | false =>
      rw [hb] at h
      have := posAt_some (π := r) (j := j + 1) h
      simp; omega
theorem posAt_get : ∀ {π : List Nat} {j i k : Nat}, posAt j π i = some (j + k) → π[k]? = some i
  | [], j, i, k, h => by simp [posAt] at h
  | p :: r, j, i, k, h => by
    simp only [posAt] at h
    cases hb : Nat.beq p i with
    | true =>
      rw [hb] at h
      simp at h
      subst h
      simp [Nat.eq_of_beq_eq_true hb]
    | false =>
      rw [hb] at h
      have h' : posAt (j + 1) r i = some (j + k) := h
      have h1 := posAt_some h'
      obtain ⟨k', rfl⟩ : ∃ k', k = k' + 1 := ⟨k - 1, by omega⟩
      have := posAt_get (π := r) (j := j + 1) (k := k') (by rw [h']; congr 1; omega)
      simpa using this
theorem renG_len (π : List Nat) (s : St) : ∀ (l : List Nat) (j : Nat), (renG π s j l).length = l.length
  | [], _ => rfl
  | _ :: r, j => by simp [renG, renG_len π s r (j + 1)]
theorem renG_ob (π : List Nat) (s : St) : ∀ (l : List Nat) (j k : Nat) (ob : Obj), obOf (renG π s j l) k = some ob → ∃ i, l[k]? = some i ∧ posAt 0 π i = some (j + k) ∧ renO π (s.ob i) = some ob
  | [], j, k, ob, h => by simp [renG, obOf] at h
  | i :: r, j, 0, ob, h => by
    simp only [renG, obOf] at h
    cases hb : isAt j (posAt 0 π i) with
    | false => rw [hb] at h; cases h
    | true =>
      rw [hb] at h
      refine ⟨i, rfl, ?_, h⟩
      unfold isAt at hb
      split at hb
      · rename_i k hk; rw [hk, Nat.eq_of_beq_eq_true hb]; rfl
      · cases hb
  | i :: r, j, k + 1, ob, h => by
    simp only [renG, obOf] at h
    obtain ⟨i', h1, h2, h3⟩ := renG_ob π s r (j + 1) k ob h
    exact ⟨i', by simpa using h1, by rw [h2]; congr 1; omega, h3⟩

def renL (π : List Nat) : Option (List Nat) → Option (List Nat)
  | some (h :: t) => match posAt 0 π h with
    | some k => some (k :: t)
    | none => some []
  | x => x
theorem renL_none {π : List Nat} {x : Option (List Nat)} : renL π x = none ↔ x = none := by
  unfold renL
  split
  · split <;> simp
  · rfl
def Env.ren (E : Env) (π : List Nat) (s' : St) : Env :=
  { w := E.w, o := fun b => renL π (E.o b), ρ := fun k => E.ρ (π.getD k 0), g := s'.ob, n := π.length, okb := fun b => renL π (E.o b) = none }

theorem ren_bare (hR : Rel C E s a) (π : List Nat) (s' : St) : Mono E.bare (E.ren π s').bare :=
  ⟨Nat.le_refl _, fun b _ h => ⟨by have h' : E.okb b := h; rw [hR.okb] at h'; exact renL_none.2 h', rfl⟩, Nat.le_refl _, fun _ h _ => absurd h (Nat.not_lt_zero _), fun _ _ h _ => absurd h (Nat.not_lt_zero _)⟩
theorem ren_moved {π : List Nat} {i k : Nat} (s' : St) (h : posAt 0 π i = some k) : Moved E (E.ren π s') [i] [k] := fun b r hb => by
  refine ⟨?_, rfl⟩
  show renL π (E.o b) = _
  rw [hb]
  simp [renL, h]
theorem ren_ρ {π : List Nat} {i k : Nat} (s' : St) (h : posAt 0 π i = some k) : (E.ren π s').ρ k = E.ρ i := by
  have := posAt_get (j := 0) (k := k) (by simpa using h)
  simp [Env.ren, List.getD_eq_getElem?_getD, this]
theorem ren_live {π : List Nat} {i k : Nat} {ks : List Nat} (hR : Rel C E s a) (h : posAt 0 π i = some k) (hl : ((E.ren π (renS π ks s)).g k).isSome = true) : (E.g i).isSome = true ∧ ∀ ob, s.ob i = some ob → ob.box = false → (E.ren π (renS π ks s)).g k = some ob := by
  have hg : (E.ren π (renS π ks s)).g k = obOf (renG π s 0 π) k := rfl
  rw [hg] at hl ⊢
  cases ho : obOf (renG π s 0 π) k with
  | none => rw [ho] at hl; cases hl
  | some ob =>
    obtain ⟨i', h1, h2, h3⟩ := renG_ob π s π 0 k ob ho
    have hii : i' = i := by
      have := posAt_get (j := 0) (k := k) (by simpa using h)
      rw [this] at h1
      exact (Option.some.inj h1).symm
    subst hii
    rw [hR.g]
    cases hs : s.ob i' with
    | none => rw [hs] at h3; simp [renO] at h3
    | some ob' =>
      refine ⟨rfl, fun ob2 h4 h5 => ?_⟩
      cases h4
      rw [hs] at h3
      obtain ⟨bx, cs⟩ := ob'
      simp only at h5
      subst h5
      simp only [renO] at h3
      exact h3.symm

theorem ren_tr {π : List Nat} {i j k : Nat} {ks : List Nat} (hR : Rel C E s a) (hp : posAt 0 π i = some k) (hl : isTr (E.ren π (renS π ks s)).g k j) : isTr E.g i j := by
  obtain ⟨cs, sz, n, r, hg, hj⟩ := hl
  have hgo : (E.ren π (renS π ks s)).g k = obOf (renG π s 0 π) k := rfl
  obtain ⟨i', h1, h2, h3⟩ := renG_ob π s π 0 k _ (hgo ▸ hg)
  have hii : i' = i := by
    have := posAt_get (j := 0) (k := k) (by simpa using hp)
    rw [this] at h1
    exact (Option.some.inj h1).symm
  subst hii
  refine ⟨cs, sz, n, r, ?_, hj⟩
  rw [hR.g]
  cases hs : s.ob i' with
  | none => rw [hs] at h3; simp [renO] at h3
  | some ob' =>
    obtain ⟨bx, cs'⟩ := ob'
    rw [hs] at h3
    cases bx <;> simp [renO] at h3
    rw [h3]
mutual
theorem Rv.ren (hR : Rel C E s a) (π ks : List Nat) : ∀ {v : V} {x : Value}, Rv E .none v x → Rv (E.ren π (renS π ks s)) .none (renV π v) x
  | .sc v, x, h => h
  | .ro n cs, x, h => by
    obtain ⟨A, cap, rfl, hc, hr⟩ := h
    refine ⟨A, cap, rfl, hc, fun hne => ?_⟩
    obtain ⟨b, off, hA, hok, hb, hrow⟩ := hr hne
    have hm := ren_bare hR π (renS π ks s)
    exact ⟨b, off, hA, (hm.free b hb hok).1, hb, Rrow.mono hm (noneKM _ _) rfl hrow⟩
  | .tr sz n cs, x, h => by
    obtain ⟨A, cap, rfl, hc, hl, hr⟩ := h
    refine ⟨A, cap, rfl, hc, hl, ?_⟩
    rcases hr with hr | ⟨b, off, q, c, e, hA, hq, _⟩
    · exact .inl hr
    · simp [Md.leaf] at hq
  | .own i sz off n lo hi, x, h => by
    simp only [renV]
    cases hp : posAt 0 π i with
    | none => trivial
    | some k =>
    obtain ⟨hin, A, cap, rfl, hlv⟩ := h
    refine ⟨by have := (posAt_some hp).2; simpa [Env.ren] using this, A, cap, rfl, fun hl => ?_⟩
    obtain ⟨hg, _⟩ := ren_live hR hp hl
    obtain ⟨hc, hlo, hhi, hr⟩ := hlv hg
    refine ⟨hc, hc, fun h hh => (by cases hh), ?_⟩
    rcases hr with hr | ⟨c, e, hA, ho, hh, hs⟩
    · exact .inl hr
    · refine .inr ⟨c, e, by rw [ren_ρ _ hp]; exact hA, ?_, by rw [ren_ρ _ hp]; exact hh, by rw [ren_ρ _ hp]; exact hs⟩
      rw [ren_ρ _ hp]
      have := (ren_moved (E := E) (renS π ks s) hp (E.ρ i).1 [] (by simpa using ho)).1
      simpa using this
  | .sub i j, x, h => by
    simp only [renV]
    cases hp : posAt 0 π i with
    | none => trivial
    | some k =>
    obtain ⟨hin, hsl, hlv⟩ := h
    refine ⟨by have := (posAt_some hp).2; simpa [Env.ren] using this, hsl, fun hl => ?_⟩
    obtain ⟨cs, sz, n, r, hg, hj⟩ := hl
    have hl1 : ((E.ren π (renS π ks s)).g k).isSome = true := by rw [hg]; rfl
    have hgo : (E.ren π (renS π ks s)).g k = obOf (renG π s 0 π) k := rfl
    obtain ⟨i', h1, h2, h3⟩ := renG_ob π s π 0 k _ (hgo ▸ hg)
    have hii : i' = i := by
      have := posAt_get (j := 0) (k := k) (by simpa using hp)
      rw [this] at h1
      exact (Option.some.inj h1).symm
    subst hii
    rw [ren_ρ _ hp]
    refine hlv ⟨cs, sz, n, r, ?_, hj⟩
    rw [hR.g]
    cases hs : s.ob i' with
    | none => rw [hs] at h3; simp [renO] at h3
    | some ob' =>
      obtain ⟨bx, cs'⟩ := ob'
      rw [hs] at h3
      cases bx <;> simp [renO] at h3
      rw [h3]
  | .ptr i off, x, h => by
    simp only [renV]
    cases hp : posAt 0 π i with
    | none => trivial
    | some k =>
    obtain ⟨hin, ad, hx, hlv⟩ := h
    refine ⟨by have := (posAt_some hp).2; simpa [Env.ren] using this, ad, hx, fun hl => ?_⟩
    rw [ren_ρ _ hp]
    exact hlv (ren_live hR hp hl).1
  | .bp cs, x, h => by
    obtain ⟨b, off, q, c, e, rfl, hq, _⟩ := h
    simp [Md.leaf] at hq
  | .sp i j off, x, h => by
    simp only [renV]
    cases hp : posAt 0 π i with
    | none => trivial
    | some k =>
    obtain ⟨hin, ad, hx, hlv⟩ := h
    refine ⟨by have := (posAt_some hp).2; simpa [Env.ren] using this, ad, hx, fun hl => ?_⟩
    rw [ren_ρ _ hp]
    exact hlv (ren_tr hR hp hl)
  | .rp cs, x, h => by
    obtain ⟨b, off, rfl, hok, hb, hrow⟩ := h
    have hm := ren_bare hR π (renS π ks s)
    exact ⟨b, off, rfl, (hm.free b hb hok).1, hb, Rrow.mono hm (noneKM _ _) rfl hrow⟩
  | .agg cs, x, h => by
    obtain ⟨xs, rfl, hr⟩ := h
    exact ⟨xs, rfl, Rvs.ren hR π ks hr⟩
  | .tup cs, x, h => by
    obtain ⟨xs, rfl, hr⟩ := h
    exact ⟨xs, rfl, Rvs.ren hR π ks hr⟩
  | .fn f cs, x, h => by
    obtain ⟨xs, rfl, hr⟩ := h
    exact ⟨xs, rfl, Rvs.ren hR π ks hr⟩
  | .any, x, h => trivial
theorem Rvs.ren (hR : Rel C E s a) (π ks : List Nat) : ∀ {vs : List V} {xs : List Value}, Rvs E .none vs xs → Rvs (E.ren π (renS π ks s)) .none (renVs π vs) xs
  | [], [], h => trivial
  | v :: vs, x :: xs, h => ⟨Rv.ren hR π ks h.1, Rvs.ren hR π ks h.2⟩
  | [], _ :: _, h => h.elim
  | _ :: _, [], h => h.elim
end
theorem renVs_get (π : List Nat) : ∀ (cs : List V) (k : Nat), (renVs π cs)[k]? = (cs[k]?).map (renV π)
  | [], k => by simp [renVs]
  | c :: cs, 0 => by simp [renVs]
  | c :: cs, k + 1 => by simp [renVs, renVs_get π cs k]
theorem lk_keep (π : List Nat) (t : List (Nat × V)) (k : Nat) : ∀ ks : List Nat, lk (keepT π t ks) k = .any ∨ lk (keepT π t ks) k = renV π (lk t k)
  | [] => .inl rfl
  | j :: r => by
    simp only [keepT, lk]
    cases h : Nat.beq j k with
    | true => right; rw [Nat.eq_of_beq_eq_true h]; rfl
    | false => simpa using lk_keep π t k r

theorem rel_ren (hR : Rel C E s a) (π ks : List Nat) (hπ : C.np ≤ π.length ∧ ∀ k, k < C.np → posAt 0 π k = some k) : Rel C (E.ren π (renS π ks s)) (renS π ks s) a := by
  refine ⟨hR.size, hR.nd, fun k => ?_, rfl, ?_, fun k ob hk => ?_, rfl, fun b p hp => ?_, hR.fr, fun b hb hl => ?_, hπ.1, fun k hk hs => ?_⟩
  · rcases lk_keep π s.t k ks with h | h
    · rw [show (renS π ks s).t = keepT π s.t ks from rfl, h]; trivial
    · rw [show (renS π ks s).t = keepT π s.t ks from rfl, h]
      exact Rv.ren hR π ks (hR.slot k)
  · show π.length = (renG π s 0 π).length
    rw [renG_len]
  · obtain ⟨i, h1, h2, h3⟩ := renG_ob π s π 0 k ob hk
    rw [Nat.zero_add] at h2
    cases hs : s.ob i with
    | none => rw [hs] at h3; simp [renO] at h3
    | some ob' =>
      obtain ⟨bx, cs⟩ := ob'
      rw [hs] at h3
      have hob := hR.ob i _ hs
      cases bx with
      | true =>
        simp only [renO, Option.some.injEq] at h3
        subst h3
        obtain ⟨c, e, hh, h0, hl, hr⟩ := hob
        refine ⟨c, e, by rw [ren_ρ _ h2]; exact hh, by rw [ren_ρ _ h2]; exact h0, ?_, ?_⟩
        · rw [ren_ρ _ h2]
          have := (ren_moved (E := E) (renS π ks s) h2 (E.ρ i).1 [] (by simpa using hl)).1
          simpa using this
        · rw [ren_ρ _ h2]
          refine Rrow_mk fun j v hj => ?_
          rw [renVs_get] at hj
          cases hc : cs[j]? with
          | none => rw [hc] at hj; cases hj
          | some v' =>
            rw [hc] at hj
            cases hj
            obtain ⟨u, hu, hru⟩ := Rrow_get hr j v' hc
            exact ⟨u, hu, Rv.ren hR π ks hru⟩
      | false =>
        simp only [renO, Option.some.injEq] at h3
        subst h3
        rcases hob with h0 | ⟨c, e, hh, hl, hr⟩
        · exact .inl h0
        · refine .inr ⟨c, e, by rw [ren_ρ _ h2]; exact hh, ?_, ?_⟩
          · rw [ren_ρ _ h2]
            have := (ren_moved (E := E) (renS π ks s) h2 (E.ρ i).1 [] (by simpa using hl)).1
            simpa using this
          · rw [ren_ρ _ h2]
            exact Rrow.move (ren_bare hR π (renS π ks s)) (ren_moved (E := E) (renS π ks s) h2) rfl hr
  · have hne : E.o b ≠ none := by
      intro h
      simp only [Env.ren, h, renL] at hp
      cases hp
    cases h : E.o b with
    | none => exact absurd h hne
    | some q =>
      obtain ⟨h1, h2⟩ := hR.lab b q h
      refine ⟨h1, ?_⟩
      rcases h2 with rfl | h2
      · left
        simp only [Env.ren, h, renL, Option.some.injEq] at hp
        exact hp.symm
      · exact .inr h2
  · have h := hR.old b hb hl
    show renL π (E.o b) = _
    rw [h]
    cases ho : C.o0 b with
    | none => rfl
    | some q => rw [C.dull b q hl ho]; rfl
  · have hp := hπ.2 k hk
    obtain ⟨g1, g2⟩ := hR.pin.2 k hk (ren_live hR hp hs).1
    rw [ren_ρ _ hp]
    refine ⟨g1, fun ho => ?_⟩
    have := (ren_moved (E := E) (renS π ks s) hp (C.pp k).1 [] (by simpa using g2 ho)).1
    simpa using this

/-- A box's cells, told otherwise. -/
theorem rel_rebox (hR : Rel C E s a) {i : Nat} {cs cs' : List V} (hob : s.ob i = some ⟨true, cs⟩) (h : ∀ k v, cs'[k]? = some v → cs[k]? = some v ∨ ∃ u, E.w.cell? ⟨(E.ρ i).1, k, none⟩ = some u ∧ Rv E .none v u) : ∃ E', Rel C E' (s.put i (some ⟨true, cs'⟩)) a ∧ E'.w = E.w := by
  let E' : Env := { E with g := fun j => if j = i then some ⟨true, cs'⟩ else E.g j }
  have hm : Mono E E' := by
    refine ⟨Nat.le_refl _, fun _ _ h => ⟨h, rfl⟩, Nat.le_refl _, fun l hl hs => ⟨?_, rfl, id, fun c e h => ⟨c, h, rfl⟩⟩, fun l k hl ht => ⟨?_, rfl⟩⟩
    · by_cases hli : l = i
      · rw [hli]; exact ob_live hR hob
      · simpa [E', hli] using hs
    · obtain ⟨ds, sz, n, r, hg, hk⟩ := ht
      by_cases hli : l = i
      · simp [E', hli] at hg
      · exact ⟨ds, sz, n, r, by simpa [E', hli] using hg, hk⟩
  refine ⟨E', ⟨hR.size, hR.nd, fun k => (hR.slot k).slot hm, ?_, ?_, fun l x hl => ?_, hR.okb, hR.lab, hR.fr, hR.old, hR.pin.mono hm⟩, rfl⟩
  · funext l
    rw [put_ob hob]
    simp only [E', hR.g]
  · simp [E', St.put, setOb_length, hR.n]
  · rw [put_ob hob] at hl
    by_cases hli : l = i
    · rw [if_pos hli] at hl
      cases hl
      subst hli
      obtain ⟨c, e, hh, h0, hlab, hrow⟩ := hR.ob l _ hob
      refine ⟨c, e, hh, h0, hlab, Rrow_mk fun k v hk => ?_⟩
      rcases h k v hk with h1 | ⟨u, h1, h2⟩
      · obtain ⟨u, hu, hr⟩ := Rrow_get hrow k v h1
        exact ⟨u, hu, hr.slot hm⟩
      · exact ⟨u, by rw [Nat.zero_add]; exact h1, h2.slot hm⟩
    · rw [if_neg hli] at hl
      exact ObR.mono hm rfl (fun _ _ h => ⟨h, rfl⟩) (hR.ob l x hl)
theorem rel_nameOne (hR : Rel C E s a) (k sz : Nat) : ∃ E', Rel C E' (nameOne s k sz) a ∧ E'.w = E.w := by
  unfold nameOne
  split
  · rename_i hk
    have hR1 := rel_addO (p := (0, 0)) (ob := ⟨false, []⟩) hR rfl (.inl rfl)
    refine ⟨_, ⟨hR1.size, hR1.nd, fun j => ?_, hR1.g, hR1.n, hR1.ob, hR1.okb, hR1.lab, hR1.fr, hR1.old, hR1.pin⟩, rfl⟩
    show Rv _ .none (lk (up s.t k _) j) _
    rw [lk_up]
    by_cases hj : j = k
    · rw [if_pos hj]
      have hs := hR.slot k
      rw [hk] at hs
      rw [hj, hs.1, ← hR.n]
      exact ⟨by simp [Env.addO], none, 0, rfl, fun _ => ⟨Nat.le_refl _, Nat.le_refl _, fun h hh => (by cases hh), .inl rfl⟩⟩
    · rw [if_neg hj]
      exact hR1.slot j
  · rename_i i hslot
    split
    · rename_i cs hob
      split
      · rename_i hc
        have hR1 := rel_addO (p := (0, 0)) (ob := ⟨false, []⟩) hR rfl (.inl rfl)
        have hilt : i < s.g.length := obOf_lt (g := s.g) hob
        have hob1 : (s.add ⟨false, []⟩).ob i = some ⟨true, cs⟩ := by
          show obOf (s.g ++ [some ⟨false, []⟩]) i = _
          rw [obOf_append, if_neg (by omega)]
          exact hob
        have hne : i ≠ E.n := by rw [hR.n]; omega
        obtain ⟨c, e, hh, h0, hlab, hrow⟩ := hR.ob i _ hob
        obtain ⟨E2, h2, hw2⟩ := rel_rebox hR1 hob1 (cs' := cs.set (Nat.pred (Nat.div sz 100)) (.own s.g.length (Nat.mod sz 100) 0 0 0 none)) (fun k v hk => by
          rw [List.getElem?_set] at hk
          split at hk
          · rename_i hf
            subst hf
            right
            split at hk
            · cases hk
              obtain ⟨u, hu, hr⟩ := Rrow_get hrow _ _ hc
              refine ⟨u, ?_, ?_⟩
              · have hρ : (E.addO (0, 0) ⟨false, []⟩).ρ i = E.ρ i := by simp only [Env.addO, if_neg hne]
                rw [hρ]
                rw [Nat.zero_add] at hu
                exact hu
              · rw [hr.1, ← hR.n]
                exact ⟨by simp [Env.addO], none, 0, rfl, fun _ => ⟨Nat.le_refl _, Nat.le_refl _, fun h hh => (by cases hh), .inl rfl⟩⟩
            · cases hk
          · exact .inl hk)
        exact ⟨E2, h2, hw2⟩
      · exact ⟨E, hR, rfl⟩
    · exact ⟨E, hR, rfl⟩
  · exact ⟨E, hR, rfl⟩
theorem rel_nameNil : ∀ (ks : List (Nat × Nat)) {s : St} {E : Env}, Rel C E s a → ∃ E', Rel C E' (nameNil s ks) a ∧ E'.w = E.w
  | [], s, E, hR => ⟨E, hR, rfl⟩
  | (k, sz) :: r, s, E, hR => by
    simp only [nameNil]
    cases Nat.beq sz 0 with
    | true => exact rel_nameNil r hR
    | false =>
      obtain ⟨E1, h1, hw1⟩ := rel_nameOne hR k sz
      obtain ⟨E2, h2, hw2⟩ := rel_nameNil r h1
      exact ⟨E2, h2, hw2.trans hw1⟩
theorem upto_snoc : ∀ (n j : Nat), upto n j ++ [j + n] = upto (n + 1) j
  | 0, j => rfl
  | n + 1, j => by
    show j :: (upto n (j + 1) ++ [j + (n + 1)]) = j :: upto (n + 1) (j + 1)
    rw [← upto_snoc n (j + 1)]
    congr 3
    omega
theorem upto_len : ∀ (n j : Nat), (upto n j).length = n
  | 0, j => rfl
  | n + 1, j => by simp [upto, upto_len n (j + 1)]
theorem upto_memb : ∀ (n j i : Nat), j + n ≤ i → memb (upto n j) i = false
  | 0, j, i, h => rfl
  | n + 1, j, i, h => by
    simp only [upto, memb]
    have hb : Nat.beq j i = false := by
      cases hb : Nat.beq j i with
      | false => rfl
      | true => have := Nat.eq_of_beq_eq_true hb; omega
    rw [hb]
    exact upto_memb n (j + 1) i (by omega)
theorem reach_pre : ∀ (f : Nat) (l d : List Nat), ∃ r, reach s f l d = d ++ r
  | 0, l, d => ⟨[], by simp [reach]⟩
  | f + 1, [], d => ⟨[], by simp [reach]⟩
  | f + 1, i :: l, d => by
    simp only [reach]
    cases memb d i with
    | true => exact reach_pre f l d
    | false =>
      obtain ⟨r, hr⟩ := reach_pre f (l ++ refsO (s.ob i)) (d ++ [i])
      exact ⟨i :: r, by rw [cond_false, hr, List.append_assoc]; rfl⟩
theorem reach_upto : ∀ (n j f : Nat) (l : List Nat), n ≤ f → ∃ r, reach s f (upto n j ++ l) (upto j 0) = upto (j + n) 0 ++ r
  | 0, j, f, l, h => reach_pre f l (upto j 0)
  | n + 1, j, 0, l, h => by omega
  | n + 1, j, f + 1, l, h => by
    have h1 : upto j 0 ++ [j] = upto (j + 1) 0 := by have := upto_snoc j 0; rwa [Nat.zero_add] at this
    have hs : reach s (f + 1) (upto (n + 1) j ++ l) (upto j 0) = reach s f (upto n (j + 1) ++ (l ++ refsO (s.ob j))) (upto (j + 1) 0) := by
      show (bif memb (upto j 0) j then _ else reach s f ((upto n (j + 1) ++ l) ++ refsO (s.ob j)) (upto j 0 ++ [j])) = _
      rw [upto_memb j 0 j (by omega), cond_false, h1, List.append_assoc]
    obtain ⟨r, hr⟩ := reach_upto n (j + 1) f (l ++ refsO (s.ob j)) (by omega)
    exact ⟨r, by rw [hs, hr, show j + 1 + n = j + (n + 1) from by omega]⟩
theorem posAt_upto : ∀ (n j k : Nat) (r : List Nat), j ≤ k → k < j + n → posAt j (upto n j ++ r) k = some k
  | 0, j, k, r, h1, h2 => by omega
  | n + 1, j, k, r, h1, h2 => by
    simp only [upto, List.cons_append, posAt]
    cases hb : Nat.beq j k with
    | true => rw [Nat.eq_of_beq_eq_true hb]; rfl
    | false =>
      have : j ≠ k := fun h => by rw [h] at hb; simp at hb
      exact posAt_upto n (j + 1) k r (by omega) (by omega)
theorem rel_norm (hR : Rel C E s a) (hnp : C.np ≤ 90) (ks : List (Nat × Nat)) : ∃ E', Rel C E' (norm C.np ks s) a ∧ E'.w = E.w := by
  obtain ⟨E1, h1, hw1⟩ := rel_nameNil ks hR
  refine ⟨_, rel_ren h1 _ _ ?_, hw1⟩
  obtain ⟨r, hr⟩ := reach_upto (s := nameNil s ks) C.np 0 100 (refsT (nameNil s ks).t (fsts ks)) (by omega)
  have hr' : reach (nameNil s ks) 100 (upto C.np 0 ++ refsT (nameNil s ks).t (fsts ks)) [] = upto C.np 0 ++ r := by
    have := hr
    rw [Nat.zero_add] at this
    exact this
  rw [hr']
  exact ⟨by rw [List.length_append, upto_len]; omega, fun k hk => posAt_upto C.np 0 k r (Nat.zero_le _) (by omega)⟩
end

/-! ### Code -/
def X.exit' : X → Exit
  | .normal => .normal
  | .exit id => .exit id
  | .ret => .ret

theorem least (p : Nat → Prop) (h : ∃ n, p n) : ∃ n, p n ∧ ∀ m, p m → n ≤ m := by
  obtain ⟨n, hn⟩ := h
  induction n using Nat.strongRecOn with
  | _ n ih =>
    by_cases hx : ∃ m, m < n ∧ p m
    · obtain ⟨m, hm, hp⟩ := hx
      exact ih m hm hp
    · exact ⟨n, hn, fun m hm => Nat.le_of_not_lt fun hlt => hx ⟨m, hlt, hm⟩⟩

theorem code_sound {P : Program} {Γ : Tab} {C : Ctx} (hmx : P.follows .mixedOrders = true) (hΓ : TabOk P Γ) (hnp : C.np ≤ 90) : ∀ (c : Code) {s : St} {E : Env} {a : Act} {Q : X → St → Prop} {Q' : Exit → Act → World → Prop},
    Rel C E s a → VC C.np Γ (SpecR P) c Q s → (∀ e s' E' a', Q e s' → Rel C E' s' a' → Q' e.exit' a' E'.w) → c.wp P Q' a E.w := by
  intro c
  induction c with
  | skip => intro s E a Q Q' hR h hQ; exact wp_skip (hQ .normal s E a h hR)
  | region id ops draw =>
    intro s E a Q Q' hR h hQ
    cases draw with
    | false => exact wp_region (ops_sound hΓ (fun s' E' a' hK hR' => hQ .normal s' E' a' hK hR') _ _ (range_ops ops) hR h)
    | true =>
      obtain ⟨L, hL, h⟩ := h
      simp only [drawnOk, Bool.and_eq_true] at hL
      obtain ⟨⟨⟨h1, h2⟩, h3⟩, h4⟩ := hL
      have hp := pairs_get h1
      have hmem : ∀ i, i ∈ L ↔ i < ops.size := by
        intro i
        constructor
        · intro hi
          have := List.all_eq_true.1 h3 i hi
          have := Nat.le_of_ble_eq_true this
          omega
        · intro hi
          exact memb_mem (allBelow_get h2 i hi)
      have hlen : L.length = ops.size := by
        have hnd : L.Nodup := hp.imp fun {a b} hab he => by subst he; simp [pairOk] at hab
        have hperm : List.Perm L (List.range ops.size) := (List.perm_ext_iff_of_nodup hnd List.nodup_range).2 fun i => by rw [hmem, List.mem_range]
        simpa using hperm.length_eq
      refine wp_region_any hmx ?_
      let K' : St → Prop := fun s => ∃ s', Eqv s' s ∧ Q .normal s'
      have hK' : ∀ s s', Eqv s s' → K' s → K' s' := fun s s' he ⟨s0, h0, hq⟩ => ⟨s0, h0.trans he, hq⟩
      have hRd := rel_drw hR
      refine drawn_sound (K := K') hΓ hK' (fun s' E' a' ⟨s0, h0, hq⟩ hR' => hQ .normal s0 E' a' hq (hR'.eqv h0.symm)) h4 rfl ops.size L (Array.replicate ops.size false) (s := s) (E := E.drw) hlen (by simp) (fun i => ?_) hp (fun i o ho hl => ?_) hRd ?_
      · rw [hmem]
        constructor
        · intro hi
          exact ⟨hi, by simp [Array.getD_eq_getD_getElem?, hi]⟩
        · exact fun h => h.1
      · have hi := (Array.getElem?_eq_some_iff.1 ho).1
        simp [Array.getD_eq_getD_getElem?, hi] at hl
      · exact opsf_mono (fun s hq => ⟨s, Eqv.refl s, hq⟩) L h
  | seq x y ihx ihy =>
    intro s E a Q Q' hR h hQ
    refine wp_seq (ihx hR h fun e s' E' a' he hR' => ?_)
    cases e with
    | normal => exact ihy hR' he hQ
    | exit id => exact hQ (.exit id) s' E' a' he hR'
    | ret => exact hQ .ret s' E' a' he hR'
  | cond c x y ihx ihy =>
    intro s E a Q Q' hR h hQ
    unfold VC at h
    split at h
    · rename_i b hb
      have hv := ev_sc hR hb
      exact wp_cond_split hv (fun hb => by subst hb; exact ihx hR h hQ) (fun hb => by subst hb; exact ihy hR h hQ)
    · exact h.elim
  | block id c ih =>
    intro s E a Q Q' hR h hQ
    refine wp_block (ih hR h fun e s' E' a' he hR' => ?_)
    cases e with
    | normal => exact hQ .normal s' E' a' he hR'
    | ret => exact hQ .ret s' E' a' he hR'
    | exit i =>
      simp only [blockK] at he
      simp only [X.exit', Exit.inBlock]
      cases hb : Nat.beq i id with
      | true =>
        rw [hb] at he
        rw [if_pos (Nat.eq_of_beq_eq_true hb)]
        exact hQ .normal s' E' a' he hR'
      | false =>
        rw [hb] at he
        rw [if_neg (fun hi => by rw [hi] at hb; simp at hb)]
        exact hQ (.exit i) s' E' a' he hR'
  | loop c ih =>
    intro s E a Q Q' hR h hQ
    obtain ⟨ks, I, m, h0, hround⟩ := h
    classical
    let p : Act → World → Nat → Prop := fun a w n => ∃ s E, I n s ∧ Rel C E s a ∧ E.w = w
    refine wp_loop (fun a w => ∃ n, p a w n) (fun a w => if h : ∃ n, p a w n then Classical.choose (least (p a w) h) else 0) ?_ ?_
    · obtain ⟨E1, hR1, hw1⟩ := rel_norm hR hnp ks
      exact ⟨_, _, E1, h0, hR1, hw1⟩
    · intro a1 w1 hI
      obtain ⟨⟨s1, E1, hI1, hR1, hw1⟩, hmin⟩ := Classical.choose_spec (least (p a1 w1) hI)
      rw [dif_pos hI]
      subst hw1
      refine ih hR1 (hround _ s1 hI1) fun e s' E' a' he hR' => ?_
      cases e with
      | normal =>
        obtain ⟨m', hlt, hI2⟩ := he
        obtain ⟨E2, hR2, hw2⟩ := rel_norm hR' hnp ks
        have hp : p a' E'.w m' := ⟨_, E2, hI2, hR2, hw2⟩
        refine ⟨⟨_, hp⟩, ?_⟩
        rw [dif_pos ⟨_, hp⟩]
        have := (Classical.choose_spec (least (p a' E'.w) ⟨_, hp⟩)).2 _ hp
        omega
      | exit id => exact hQ (.exit id) s' E' a' he hR'
      | ret => exact hQ .ret s' E' a' he hR'
  | exit id => intro s E a Q Q' hR h hQ; exact wp_exit (hQ (.exit id) s E a h hR)
  | ret => intro s E a Q Q' hR h hQ; exact wp_ret (hQ .ret s E a h hR)
  | _ => intro s E a Q Q' hR h hQ; exact h.elim
end Go.Proofs.YtifmkifkjmfceaaD
