/- Operations that may be turned round. -/
import Derived.Test.YtiplgkbgkmomlaaD17c
set_option linter.unusedVariables false
set_option linter.unusedSimpArgs false
namespace Go.Proofs.YtiplgkbgkmomlaaD
open Go

theorem lk_up' : ∀ (t : List (Nat × V)) (d : Nat) (v : V) (k : Nat), lk (up t d v) k = if k = d then v else lk t k
  | [], d, v, k => by
    simp only [up, lk]
    cases h : Nat.beq d k with
    | true => rw [if_pos (Nat.eq_of_beq_eq_true h).symm]; rfl
    | false => rw [if_neg (fun he => by rw [he] at h; simp at h)]; rfl
  | (j, u) :: r, d, v, k => by
    simp only [up]
    cases h1 : Nat.beq j d with
    | true =>
      have hjd := Nat.eq_of_beq_eq_true h1
      subst hjd
      simp only [cond_true, lk]
      cases h : Nat.beq j k with
      | true => rw [if_pos (Nat.eq_of_beq_eq_true h).symm]; rfl
      | false => rw [if_neg (fun he => by rw [he] at h; simp at h)]; rfl
    | false =>
      simp only [cond_false]
      cases h2 : Nat.blt d j with
      | true =>
        simp only [cond_true, lk]
        cases h : Nat.beq d k with
        | true => rw [if_pos (Nat.eq_of_beq_eq_true h).symm]; rfl
        | false => rw [if_neg (fun he => by rw [he] at h; simp at h)]; rfl
      | false =>
        simp only [cond_false, lk]
        cases h : Nat.beq j k with
        | true =>
          have hjk := Nat.eq_of_beq_eq_true h
          rw [if_neg (fun he => by rw [← he, ← hjk] at h1; simp at h1)]
          rfl
        | false =>
          simp only [cond_false]
          exact lk_up' r d v k

section
variable {Γ : Tab} {spec : CallRel} {ops : Array Oper} {o : Oper} {f : Bool}

def St.upd (s : St) (d : Option Nat) (v : V) : St := match d with
  | none => s
  | some d => { s with t := up s.t d v }
def fits (s : St) (d : Option Nat) : Prop := ∀ k, d = some k → k < s.N
theorem dstK_iff (s : St) (d : Option Nat) (v : V) (K : St → Prop) : dstK s d v K ↔ fits s d ∧ K (s.upd d v) := by
  rw [dstK_eq]
  cases d with
  | none => exact ⟨fun h => ⟨fun k hk => (by cases hk), h⟩, fun h => h.2⟩
  | some d =>
    constructor
    · intro h
      obtain ⟨h1, h2⟩ := bifT h
      exact ⟨fun k hk => by cases hk; have := Nat.le_of_ble_eq_true h1; omega, h2⟩
    · rintro ⟨h1, h2⟩
      have : Nat.blt d s.N = true := by
        have := h1 d rfl
        simp only [Nat.blt]
        exact Nat.ble_eq_true_of_le this
      simp only [this, cond_true]
      exact h2
def Eqv (s s' : St) : Prop := s.N = s'.N ∧ s.g = s'.g ∧ ∀ k, lk s.t k = lk s'.t k
theorem Eqv.refl (s : St) : Eqv s s := ⟨rfl, rfl, fun _ => rfl⟩
theorem Eqv.symm {s s' : St} (h : Eqv s s') : Eqv s' s := ⟨h.1.symm, h.2.1.symm, fun k => (h.2.2 k).symm⟩
theorem Eqv.trans {a b c : St} (h : Eqv a b) (k : Eqv b c) : Eqv a c := ⟨h.1.trans k.1, h.2.1.trans k.2.1, fun i => (h.2.2 i).trans (k.2.2 i)⟩
theorem upd_lk (s : St) (d : Option Nat) (v : V) (k : Nat) : lk (s.upd d v).t k = if d = some k then v else lk s.t k := by
  cases d with
  | none => simp [St.upd]
  | some d =>
    simp only [St.upd, lk_up', Option.some.injEq]
    by_cases h : k = d
    · rw [if_pos h, if_pos h.symm]
    · rw [if_neg h, if_neg (fun he => h he.symm)]
theorem upd_N (s : St) (d : Option Nat) (v : V) : (s.upd d v).N = s.N := by cases d <;> rfl
theorem upd_g (s : St) (d : Option Nat) (v : V) : (s.upd d v).g = s.g := by cases d <;> rfl
theorem Eqv.upd {s s' : St} (h : Eqv s s') (d : Option Nat) (v : V) : Eqv (s.upd d v) (s'.upd d v) :=
  ⟨by rw [upd_N, upd_N]; exact h.1, by rw [upd_g, upd_g]; exact h.2.1, fun k => by rw [upd_lk, upd_lk, h.2.2 k]⟩
theorem Eqv.ev {s s' : St} (h : Eqv s s') (x : Operand) : ev s x = ev s' x := by
  cases x with
  | tmp t => exact h.2.2 t
  | _ => rfl
theorem upd_comm (s : St) {d e : Option Nat} (v u : V) (h : ∀ k, d = some k → e ≠ some k) : Eqv ((s.upd d v).upd e u) ((s.upd e u).upd d v) := by
  refine ⟨by simp [upd_N], by simp [upd_g], fun k => ?_⟩
  rw [upd_lk, upd_lk, upd_lk, upd_lk]
  by_cases h1 : e = some k
  · rw [if_pos h1, if_neg (fun hd => h k hd h1), if_pos h1]
  · rw [if_neg h1]
    by_cases h2 : d = some k
    · rw [if_pos h2, if_pos h2]
    · rw [if_neg h2, if_neg h2, if_neg h1]

/-- Two states agree on what o looks at. -/
structure Agree (ops : Array Oper) (o : Oper) (s s' : St) : Prop where
  N : s'.N = s.N
  ev : ∀ x ∈ opnds o.op, ev s x = ev s' x
  gd : ∀ j w, o.guard = some (j, w) → ∀ d, (ops[j]?).bind (·.dst) = some d → lk s.t d = lk s'.t d
theorem Agree.ofEqv {s s' : St} (h : Eqv s s') : Agree ops o s s' := ⟨h.1.symm, fun x _ => h.ev x, fun _ _ _ d _ => h.2.2 d⟩
theorem Agree.symm {s s' : St} (h : Agree ops o s s') : Agree ops o s' s := ⟨h.N.symm, fun x hx => (h.ev x hx).symm, fun j w hg d hd => (h.gd j w hg d hd).symm⟩
theorem wanted_agree {s s' : St} (h : Agree ops o s s') {yes no yes' no' : Prop} (hw : Wanted s ops o yes no) (hy : yes → yes') (hn : no → no') : Wanted s' ops o yes' no' := by
  rw [Wanted_old] at hw ⊢
  unfold WantedO at hw ⊢
  cases hg : o.guard with
  | none => rw [hg] at hw; exact hy hw
  | some jw =>
    obtain ⟨j, w⟩ := jw
    rw [hg] at hw
    simp only at hw ⊢
    cases hd : (ops[j]?).bind (·.dst) with
    | none => rw [hd] at hw; exact hw.elim
    | some d =>
      rw [hd] at hw
      simp only [Option.map_some] at hw ⊢
      rw [← h.gd j w hg d hd]
      split at hw
      · exact ⟨fun hb => hy (hw.1 hb), fun hb => hn (hw.2 hb)⟩
      · exact hn hw
      · exact hw.elim
theorem wanted_cases {s : St} {yes no : Prop} (hw : Wanted s ops o yes no) : (Wanted s ops o True False ∧ yes) ∨ (Wanted s ops o False True ∧ no) := by
  simp only [Wanted_old] at hw ⊢
  unfold WantedO at hw ⊢
  cases hg : o.guard with
  | none => rw [hg] at hw; exact .inl ⟨trivial, hw⟩
  | some jw =>
    obtain ⟨j, w⟩ := jw
    rw [hg] at hw
    simp only at hw ⊢
    split at hw
    · rename_i b hb
      by_cases hbw : b = w
      · exact .inl ⟨⟨fun _ => trivial, fun h => by rw [hbw] at h; cases w <;> cases h⟩, hw.1 hbw⟩
      · exact .inr ⟨⟨fun h => absurd h hbw, fun _ => trivial⟩, hw.2 (by cases b <;> cases w <;> simp_all)⟩
    · exact .inr ⟨trivial, hw⟩
    · exact hw.elim

/-- An operation that writes nothing, at work: its value, and that it has this value wherever its grounds are the same. -/
theorem pure_step {s : St} {K : St → Prop} (h0 : wc o.op = 0) (h : stepF Γ spec ops f o s K) :
    ∃ v, fits s o.dst ∧ K (s.upd o.dst v) ∧ ∀ s' : St, Agree ops o s s' → (f = true ∧ LeB s.g s'.g ∨ LeG s.g s'.g) → ∀ K' : St → Prop, K' (s'.upd o.dst v) → stepF Γ spec ops f o s' K' := by
  have hfit : ∀ {s' : St}, Agree ops o s s' → fits s o.dst → fits s' o.dst := fun ha hf k hk => by rw [ha.N]; exact hf k hk
  unfold stepF at h
  rcases wanted_cases h with ⟨hw, hy⟩ | ⟨hw, hn⟩
  · -- its value
    have hval : ∃ v, dstK s o.dst v K ∧ ∀ s' : St, Agree ops o s s' → (f = true ∧ LeB s.g s'.g ∨ LeG s.g s'.g) → ∀ K' : V → St → Prop, K' v s' → opVCf Γ spec f o s' K' := by
      unfold opVCf at hy
      cases hf : (f && Nat.beq (wc o.op) 0) with
      | false =>
        simp only [hf, cond_false] at hy
        obtain ⟨v, h1, h2⟩ := pure_sum h0 hy
        refine ⟨v, h1, fun s' ha hle K' hk => ?_⟩
        unfold opVCf
        simp only [hf, cond_false]
        refine h2 s' ha.ev ?_ K' hk
        rcases hle with ⟨hft, _⟩ | hle
        · rw [hft, h0] at hf; simp at hf
        · exact hle
      | true =>
        simp only [hf, cond_true] at hy
        obtain ⟨v, h1, h2⟩ := pure_sum h0 hy
        refine ⟨v, h1, fun s' ha hle K' hk => ?_⟩
        unfold opVCf
        simp only [hf, cond_true]
        refine h2 { s' with g := boxesG s'.g } (fun x hx => ?_) ?_ (fun v _ => K' v s') hk
        · have := ha.ev x hx
          cases x <;> exact this
        · rcases hle with ⟨_, hle⟩ | hle
          · exact hle.boxes
          · exact hle.b.boxes
    obtain ⟨v, h1, h2⟩ := hval
    obtain ⟨h3, h4⟩ := (dstK_iff _ _ _ _).1 h1
    refine ⟨v, h3, h4, fun s' ha hle K' hk => ?_⟩
    unfold stepF
    exact wanted_agree ha hw (fun _ => h2 s' ha hle _ ((dstK_iff _ _ _ _).2 ⟨hfit ha h3, hk⟩)) False.elim
  · obtain ⟨h5, h6⟩ := (dstK_iff _ _ _ _).1 hn
    refine ⟨.tup [], h5, h6, fun s' ha hle K' hk => ?_⟩
    unfold stepF
    exact wanted_agree ha hw False.elim fun _ => (dstK_iff _ _ _ _).2 ⟨hfit ha h5, hk⟩

theorem slot_sum {s : St} {K : V → St → Prop} (h0 : slotOnly o.op = true) (h : opVC Γ spec false o s K) : ∃ v, K v s ∧ ∀ s' : St, (∀ x ∈ opnds o.op, ev s x = ev s' x) → ∀ K' : V → St → Prop, K' v s' → opVC Γ spec false o s' K' := by
  unfold opVC at h
  cases hop : o.op <;> rw [hop] at h0 <;> simp only [slotOnly, Bool.false_eq_true] at h0
  case move x =>
    rw [hop] at h
    refine ⟨_, h, fun s' h1 K' hk => ?_⟩
    unfold opVC; rw [hop]
    rw [h1 x (by simp [opnds])] at hk
    exact hk
  case assign x =>
    rw [hop] at h
    refine ⟨_, h, fun s' h1 K' hk => ?_⟩
    unfold opVC; rw [hop]
    rw [h1 x (by simp [opnds])] at hk
    exact hk
  case pick c x y =>
    rw [hop] at h
    simp only at h
    split at h
    · rename_i t hc
      refine ⟨if t then ev s x else ev s y, ?_, fun s' h1 K' hk => ?_⟩
      · cases t with
        | true => exact h
        | false => exact h
      · unfold opVC; rw [hop]
        simp only [← h1 c (by simp [opnds]), ← h1 x (by simp [opnds]), ← h1 y (by simp [opnds]), hc]
        cases t with
        | true => exact hk
        | false => exact hk
    · exact h.elim
  case extract x ix =>
    rw [hop] at h
    simp only at h
    split at h
    · rename_i vs hx
      split at h
      · rename_i v hv
        refine ⟨_, h, fun s' h1 K' hk => ?_⟩
        unfold opVC; rw [hop]
        simp only [← h1 x (by simp [opnds]), hx, hv]
        exact hk
      · exact h.elim
    · exact h.elim
theorem slot_wc {op : Op} (h : slotOnly op = true) : wc op = 0 := by cases op <;> simp_all [slotOnly, wc]
/-- An operation that looks at slots alone, at work. -/
theorem slot_step {s : St} {K : St → Prop} (h0 : slotOnly o.op = true) (h : stepF Γ spec ops f o s K) :
    ∃ v, fits s o.dst ∧ K (s.upd o.dst v) ∧ ∀ s' : St, Agree ops o s s' → ∀ K' : St → Prop, K' (s'.upd o.dst v) → stepF Γ spec ops f o s' K' := by
  have hfit : ∀ {s' : St}, Agree ops o s s' → fits s o.dst → fits s' o.dst := fun ha hf k hk => by rw [ha.N]; exact hf k hk
  unfold stepF at h
  rcases wanted_cases h with ⟨hw, hy⟩ | ⟨hw, hn⟩
  · have hval : ∃ v, dstK s o.dst v K ∧ ∀ s' : St, Agree ops o s s' → ∀ K' : V → St → Prop, K' v s' → opVCf Γ spec f o s' K' := by
      unfold opVCf at hy
      cases hf : (f && Nat.beq (wc o.op) 0) with
      | false =>
        simp only [hf, cond_false] at hy
        obtain ⟨v, h1, h2⟩ := slot_sum h0 hy
        refine ⟨v, h1, fun s' ha K' hk => ?_⟩
        unfold opVCf
        simp only [hf, cond_false]
        exact h2 s' ha.ev K' hk
      | true =>
        simp only [hf, cond_true] at hy
        obtain ⟨v, h1, h2⟩ := slot_sum h0 hy
        refine ⟨v, h1, fun s' ha K' hk => ?_⟩
        unfold opVCf
        simp only [hf, cond_true]
        refine h2 { s' with g := boxesG s'.g } (fun x hx => ?_) (fun v _ => K' v s') hk
        have := ha.ev x hx
        cases x <;> exact this
    obtain ⟨v, h1, h2⟩ := hval
    obtain ⟨h3, h4⟩ := (dstK_iff _ _ _ _).1 h1
    refine ⟨v, h3, h4, fun s' ha K' hk => ?_⟩
    unfold stepF
    exact wanted_agree ha hw (fun _ => h2 s' ha _ ((dstK_iff _ _ _ _).2 ⟨hfit ha h3, hk⟩)) False.elim
  · obtain ⟨h5, h6⟩ := (dstK_iff _ _ _ _).1 hn
    refine ⟨.tup [], h5, h6, fun s' ha K' hk => ?_⟩
    unfold stepF
    exact wanted_agree ha hw False.elim fun _ => (dstK_iff _ _ _ _).2 ⟨hfit ha h5, hk⟩

/-- The others, at work in a state that agrees. -/
theorem w_step {s s' : St} {K K' : St → Prop} (h0 : wc o.op ≠ 0) (h : stepF Γ spec ops f o s K) (ha : Agree ops o s s') (hg : s'.g = s.g) (hK : ∀ v g', Keep (wc o.op) s.g g' → K (St.upd { s with g := g' } o.dst v) → K' (St.upd { s' with g := g' } o.dst v)) : stepF Γ spec ops f o s' K' := by
  have hfit : fits s o.dst → fits s' o.dst := fun hf k hk => by rw [ha.N]; exact hf k hk
  have hb : (f && Nat.beq (wc o.op) 0) = false := by
    have : Nat.beq (wc o.op) 0 = false := by
      cases hq : Nat.beq (wc o.op) 0 with
      | false => rfl
      | true => exact absurd (Nat.eq_of_beq_eq_true hq) h0
    rw [this]; simp
  unfold stepF at h ⊢
  refine wanted_agree ha h (fun hy => ?_) (fun hn => ?_)
  · unfold opVCf at hy ⊢
    simp only [hb, cond_false] at hy ⊢
    obtain ⟨N, t, g⟩ := s
    obtain ⟨N', t', g'⟩ := s'
    simp only at hg
    subst hg
    refine w_congr h0 ha.ev hy fun v g2 hkeep h1 => ?_
    obtain ⟨h2, h3⟩ := (dstK_iff _ _ _ _).1 h1
    exact (dstK_iff _ _ _ _).2 ⟨fun k hk => by have := h2 k hk; rw [show ({ N := N', t := t', g := g2 } : St).N = N from ha.N]; exact this, hK v g2 hkeep h3⟩
  · obtain ⟨h2, h3⟩ := (dstK_iff _ _ _ _).1 hn
    refine (dstK_iff _ _ _ _).2 ⟨hfit h2, ?_⟩
    have := hK (.tup []) s.g ⟨fun _ => LeG.refl _, fun _ => LeB.refl _⟩ h3
    rw [← hg] at this
    exact this
end
end Go.Proofs.YtiplgkbgkmomlaaD
