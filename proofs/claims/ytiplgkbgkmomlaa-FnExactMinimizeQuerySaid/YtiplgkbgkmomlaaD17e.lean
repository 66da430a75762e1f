/- An operation to the front; what stands in the tables. -/
import Derived.Test.YtiplgkbgkmomlaaD17d
set_option linter.unusedVariables false
set_option linter.unusedSimpArgs false
namespace Go.Proofs.YtiplgkbgkmomlaaD
open Go

section
variable {Γ : Tab} {spec : CallRel} {ops : Array Oper} {o oi oj : Oper} {f fi fj : Bool}

theorem isTmp_not : ∀ {l : List Operand} {d : Nat}, isTmp d l = false → Operand.tmp d ∉ l
  | [], d, _, h => by cases h
  | .tmp t :: r, d, h, hm => by
    simp only [isTmp] at h
    cases hb : Nat.beq t d with
    | true => rw [hb] at h; cases h
    | false =>
      rw [hb] at h
      simp only [List.mem_cons] at hm
      rcases hm with hm | hm
      · cases hm; simp at hb
      · exact isTmp_not h hm
  | .const v :: r, d, h, hm => by
    simp only [List.mem_cons, reduceCtorEq, false_or] at hm
    exact isTmp_not (l := r) h hm
  | .global v :: r, d, h, hm => by
    simp only [List.mem_cons, reduceCtorEq, false_or] at hm
    exact isTmp_not (l := r) h hm
  | .func v :: r, d, h, hm => by
    simp only [List.mem_cons, reduceCtorEq, false_or] at hm
    exact isTmp_not (l := r) h hm
theorem agree_upd {d : Option Nat} (h : looksD ops o d = false) (s : St) (g : List (Option Obj)) (v : V) : Agree ops o s (St.upd { s with g := g } d v) := by
  refine ⟨by rw [upd_N], fun x hx => ?_, fun j w hg e he => ?_⟩
  · cases x with
    | tmp t =>
      show lk s.t t = lk (St.upd { s with g := g } d v).t t
      rw [upd_lk]
      split
      · rename_i hd
        subst hd
        simp only [looksD, looks, Bool.or_eq_false_iff] at h
        exact absurd hx (isTmp_not h.1)
      · rfl
    | _ => rfl
  · rw [upd_lk]
    split
    · rename_i hd
      subst hd
      simp only [looksD, looks, Bool.or_eq_false_iff, hg, he] at h
      have := h.2
      simp at this
    · rfl

theorem step_eqv {s s' : St} {K K' : St → Prop} (he : Eqv s s') (h : stepF Γ spec ops f o s K) (hK : ∀ s1 s1', Eqv s1 s1' → K s1 → K' s1') : stepF Γ spec ops f o s' K' := by
  by_cases h0 : wc o.op = 0
  · obtain ⟨v, h1, h2, h3⟩ := pure_step h0 h
    refine h3 s' (Agree.ofEqv he) (.inr ?_) K' (hK _ _ (he.upd _ _) h2)
    rw [he.2.1]
    exact LeG.refl _
  · refine w_step h0 h (Agree.ofEqv he) he.2.1.symm fun v g' _ h1 => hK _ _ ?_ h1
    exact Eqv.upd (s := { s with g := g' }) (s' := { s' with g := g' }) ⟨he.1, rfl, he.2.2⟩ _ _
theorem ops_eqv {fl : Nat → Bool} {K : St → Prop} (hK : ∀ s s', Eqv s s' → K s → K s') : ∀ (l : List Nat) {s s' : St}, Eqv s s' → opsVCf Γ spec ops fl l s K → opsVCf Γ spec ops fl l s' K
  | [], s, s', he, h => hK _ _ he h
  | i :: r, s, s', he, h => by
    simp only [opsVCf] at h ⊢
    split at h
    · exact step_eqv he h fun s1 s1' he1 h1 => ops_eqv hK r he1 h1
    · exact ops_eqv hK r he h

theorem swap {s : St} {K : St → Prop} (hK : ∀ s s', Eqv s s' → K s → K s') (hsw : swapB ops oj oi fj = true) (h : stepF Γ spec ops fj oj s fun s1 => stepF Γ spec ops fi oi s1 K) : stepF Γ spec ops fi oi s fun s1 => stepF Γ spec ops fj oj s1 K := by
  simp only [swapB, classOk, Bool.and_eq_true, Bool.or_eq_true, Bool.not_eq_true'] at hsw
  obtain ⟨⟨⟨hcl, hl1⟩, hl2⟩, hd⟩ := hsw
  have hne : ∀ k, oi.dst = some k → oj.dst ≠ some k := by
    intro k hk he
    rw [hk, he] at hd
    simp [sameD] at hd
  rcases hcl with ⟨h0, hc⟩ | hso
  rotate_left
  · obtain ⟨vj, hf, hi, hrep⟩ := slot_step hso h
    by_cases hi0 : wc oi.op = 0
    · obtain ⟨vi, hfi, hKi, hrepi⟩ := pure_step hi0 hi
      refine hrepi s (Agree.symm (agree_upd hl2 s s.g vj)) (.inr (by rw [upd_g]; exact LeG.refl _)) _ ?_
      refine hrep _ (agree_upd hl1 s s.g vi) _ ?_
      exact hK _ _ (Eqv.symm (upd_comm s vi vj hne)) hKi
    · refine w_step hi0 hi (Agree.symm (agree_upd hl2 s s.g vj)) (upd_g s oj.dst vj).symm fun v g' hkeep h1 => ?_
      refine hrep _ (agree_upd hl1 s g' v) _ ?_
      refine hK _ _ ?_ h1
      refine Eqv.trans ?_ (Eqv.symm (upd_comm { s with g := g' } v vj hne))
      have he : ({ s.upd oj.dst vj with g := g' } : St) = St.upd { s with g := g' } oj.dst vj := by cases oj.dst <;> rfl
      rw [he]
      exact Eqv.refl _
  have h0 := Nat.eq_of_beq_eq_true h0
  obtain ⟨vj, hf, hi, hrep⟩ := pure_step h0 h
  by_cases hi0 : wc oi.op = 0
  · obtain ⟨vi, hfi, hKi, hrepi⟩ := pure_step hi0 hi
    refine hrepi s (Agree.symm (agree_upd hl2 s s.g vj)) (.inr (by rw [upd_g]; exact LeG.refl _)) _ ?_
    refine hrep _ (agree_upd hl1 s s.g vi) (.inr (by rw [upd_g]; exact LeG.refl _)) _ ?_
    exact hK _ _ (Eqv.symm (upd_comm s vi vj hne)) hKi
  · refine w_step hi0 hi (Agree.symm (agree_upd hl2 s s.g vj)) (upd_g s oj.dst vj).symm fun v g' hkeep h1 => ?_
    rw [upd_g] at hkeep
    refine hrep _ (agree_upd hl1 s g' v) ?_ _ ?_
    · rw [upd_g]
      rcases hc with (hc | hc) | ⟨hc, hfj⟩
      · exact absurd (Nat.eq_of_beq_eq_true hc) hi0
      · exact .inr (hkeep.1 (Nat.eq_of_beq_eq_true hc))
      · exact .inl ⟨hfj, hkeep.2 (Nat.eq_of_beq_eq_true hc)⟩
    · refine hK _ _ ?_ h1
      refine Eqv.trans ?_ (Eqv.symm (upd_comm { s with g := g' } v vj hne))
      have he : ({ s.upd oj.dst vj with g := g' } : St) = St.upd { s with g := g' } oj.dst vj := by cases oj.dst <;> rfl
      rw [he]
      exact Eqv.refl _

theorem front {fl : Nat → Bool} {K : St → Prop} (hK : ∀ s s', Eqv s s' → K s → K s') {i : Nat} (hi : ops[i]? = some oi) {post : List Nat} : ∀ (pre : List Nat) {s : St}, (∀ j ∈ pre, ∃ oj, ops[j]? = some oj ∧ swapB ops oj oi (fl j) = true) →
    opsVCf Γ spec ops fl (pre ++ i :: post) s K → stepF Γ spec ops (fl i) oi s fun s1 => opsVCf Γ spec ops fl (pre ++ post) s1 K
  | [], s, _, h => by
    simp only [List.nil_append, opsVCf, hi] at h
    exact h
  | j :: pre, s, hp, h => by
    obtain ⟨oj, hj, hsw⟩ := hp j (by simp)
    simp only [List.cons_append, opsVCf, hj] at h ⊢
    refine swap (fun s s' he h => ops_eqv hK _ he h) hsw ?_
    refine step_eqv (Eqv.refl s) h fun s1 s1' he h1 => ?_
    exact front hK hi pre (fun j' hj' => hp j' (by simp [hj'])) (ops_eqv hK _ he h1)

/-! ### The tables -/
theorem allBelow_get {p : Nat → Bool} : ∀ {n : Nat}, allBelow p n = true → ∀ i, i < n → p i = true
  | n + 1, h, i, hi => by
    simp only [allBelow, Bool.and_eq_true] at h
    rcases Nat.lt_succ_iff_lt_or_eq.1 hi with h1 | rfl
    · exact allBelow_get h.2 i h1
    · exact h.1
theorem memb_mem : ∀ {l : List Nat} {i : Nat}, memb l i = true → i ∈ l
  | [], i, h => by cases h
  | k :: r, i, h => by
    simp only [memb] at h
    cases hb : Nat.beq k i with
    | true => rw [Nat.eq_of_beq_eq_true hb]; simp
    | false => rw [hb] at h; simp [memb_mem (l := r) h]
theorem pairs_get {p : Nat → Nat → Bool} : ∀ {l : List Nat}, pairsAll p l = true → l.Pairwise fun j i => p j i = true
  | [], _ => List.Pairwise.nil
  | j :: r, h => by
    simp only [pairsAll, Bool.and_eq_true] at h
    exact List.Pairwise.cons (fun i hi => List.all_eq_true.1 h.1 i hi) (pairs_get h.2)
theorem edgeMask_bit (acc : List Nat) (j : Nat) : ∀ (es : List Edge), Nat.testBit (edgeMask acc es) j = true → ∃ e ∈ es, Region.binds .any e = true ∧ (e.on = j ∨ Nat.testBit (acc.getD e.on 0) j = true)
  | [], h => by simp [edgeMask] at h
  | e :: r, h => by
    simp only [edgeMask] at h
    cases hb : Region.binds .any e with
    | false =>
      rw [hb] at h
      obtain ⟨e', h1, h2⟩ := edgeMask_bit acc j r h
      exact ⟨e', by simp [h1], h2⟩
    | true =>
      rw [hb] at h
      have h' : ((1 <<< e.on ||| acc.getD e.on 0) ||| edgeMask acc r).testBit j = true := h
      rw [Nat.testBit_or, Nat.testBit_or] at h'
      simp only [Bool.or_eq_true] at h'
      rcases h' with (h' | h') | h'
      · refine ⟨e, by simp, hb, .inl ?_⟩
        rw [Nat.shiftLeft_eq, Nat.one_mul, Nat.testBit_two_pow] at h'
        exact of_decide_eq_true h'
      · exact ⟨e, by simp, hb, .inr h'⟩
      · obtain ⟨e', h1, h2⟩ := edgeMask_bit acc j r h'
        exact ⟨e', by simp [h1], h2⟩
theorem ancs_get : ∀ (os : List Oper) (acc : List Nat) (i j : Nat), Nat.testBit ((ancs os acc).getD i 0) j = true → (i < acc.length ∧ Nat.testBit (acc.getD i 0) j = true) ∨ (∃ o, acc.length ≤ i ∧ os[i - acc.length]? = some o ∧ ∃ e ∈ o.after.toList, Region.binds .any e = true ∧ (e.on = j ∨ (e.on < i ∧ Nat.testBit ((ancs os acc).getD e.on 0) j = true)))
  | [], acc, i, j, h => by
    simp only [ancs] at h
    left
    refine ⟨?_, h⟩
    rcases Nat.lt_or_ge i acc.length with h1 | h1
    · exact h1
    · rw [List.getD_eq_getElem?_getD, List.getElem?_eq_none h1] at h
      simp at h
  | o :: os, acc, i, j, h => by
    -- what stands in front stays
    have hpre : ∀ (os : List Oper) (acc : List Nat) (k : Nat), k < acc.length → (ancs os acc).getD k 0 = acc.getD k 0 := by
      intro os
      induction os with
      | nil => intro acc k hk; rfl
      | cons o os ih =>
        intro acc k hk
        simp only [ancs]
        rw [ih _ k (by simp; omega)]
        simp only [List.getD_eq_getElem?_getD, List.getElem?_append_left hk]
    have h' := h
    simp only [ancs] at h ⊢
    rcases ancs_get os _ i j h with ⟨h1, h2⟩ | ⟨o', h1, h2, e, he, hb, h3⟩
    · simp only [List.length_append, List.length_cons, List.length_nil, Nat.zero_add] at h1
      rcases Nat.lt_succ_iff_lt_or_eq.1 h1 with h4 | h4
      · left
        refine ⟨h4, ?_⟩
        rw [List.getD_eq_getElem?_getD, List.getElem?_append_left h4] at h2
        rw [List.getD_eq_getElem?_getD]
        exact h2
      · right
        subst h4
        rw [List.getD_eq_getElem?_getD, List.getElem?_append_right (Nat.le_refl _)] at h2
        simp only [Nat.sub_self, List.getElem?_cons_zero, Option.getD_some] at h2
        obtain ⟨e, he, hb, h3⟩ := edgeMask_bit acc j _ h2
        refine ⟨o, Nat.le_refl _, by simp, e, he, hb, h3.imp id fun h5 => ?_⟩
        have hlt : e.on < acc.length := by
          rcases Nat.lt_or_ge e.on acc.length with h6 | h6
          · exact h6
          · rw [List.getD_eq_getElem?_getD, List.getElem?_eq_none h6] at h5
            simp at h5
        refine ⟨hlt, ?_⟩
        rw [hpre os (acc ++ [edgeMask acc o.after.toList]) e.on (by simp; omega), List.getD_eq_getElem?_getD, List.getElem?_append_left hlt]
        rwa [List.getD_eq_getElem?_getD] at h5
    · right
      simp only [List.length_append, List.length_cons, List.length_nil, Nat.zero_add] at h1 h2
      refine ⟨o', by omega, ?_, e, he, hb, h3⟩
      rw [show i - acc.length = (i - (acc.length + 1)) + 1 from by omega, List.getElem?_cons_succ]
      exact h2
/-- What a row of the table names is listed ahead. -/
theorem anc_listed {listed : Array Bool} (hd : ∀ i o, ops[i]? = some o → listed.getD i false = true → ∀ e ∈ o.after, Region.binds .any e = true → listed.getD e.on false = true) :
    ∀ (i j : Nat) (o : Oper), ops[i]? = some o → (∀ e ∈ o.after, Region.binds .any e = true → listed.getD e.on false = true) → Nat.testBit ((ancs ops.toList []).getD i 0) j = true → listed.getD j false = true := by
  intro i
  induction i using Nat.strongRecOn with
  | _ i ih =>
    intro j o ho hr h
    rcases ancs_get ops.toList [] i j h with ⟨h1, _⟩ | ⟨o', _, h2, e, he, hb, h3⟩
    · simp at h1
    · have hoo : o' = o := by
        simp at h2
        rw [ho] at h2
        exact (Option.some.inj h2).symm
      subst hoo
      have hl := hr e (by simpa using he) hb
      rcases h3 with rfl | ⟨h4, h5⟩
      · exact hl
      · cases hoe : ops[e.on]? with
        | none =>
          have hi := (Array.getElem?_eq_some_iff.1 ho).1
          rw [Array.getElem?_eq_none_iff] at hoe
          omega
        | some oe => exact ih e.on h4 j oe hoe (hd e.on oe hoe hl) h5
end
end Go.Proofs.YtiplgkbgkmomlaaD
