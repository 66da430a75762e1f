/- Containment and equivalence: the first program. -/
import Derived.Test.YtbnikloglnkddaaFMap2
set_option linter.unusedVariables false
set_option linter.unusedSimpArgs false
set_option maxRecDepth 100000
namespace Go.Proofs.YtbnikloglnkddaaD
open Go Go.Proofs

def emptyM : List Int := List.replicate 20 (-1000)
def mapP (f t : QueryT) : Option (List Int) :=
  if (f.1.length : Int) != t.1.length then none else if (uniK emptyM f.1 t.1 f.1.length).2 then srch t.2 f.2 (uniK emptyM f.1 t.1 f.1.length).1 else none
theorem isQuery_fine {s : List Int} {q : QueryT} (h : isQuery s q = true) : fineT q.1 ∧ fineA q.2 := by
  simp only [isQuery, fineQ, terms3, Bool.and_eq_true, List.all_eq_true] at h
  obtain ⟨_, ⟨h1, _⟩, _, h2, _⟩ := h
  have ht : ∀ t, isTerm t = true → t < 20 := fun t ht => by
    simp only [isTerm, inR, Bool.and_eq_true, decide_eq_true_eq] at ht
    omega
  refine ⟨fun t hm => ht t (h1 t hm), fun a ha t hm => ht t ?_⟩
  have := h2 a ha
  simp only [isAtom, Bool.and_eq_true, List.all_eq_true] at this
  exact this.2 t hm
theorem snoc_rep (n : Nat) (x : Int) : rows ciL (List.replicate n x) ++ [ci x] = rows ciL (List.replicate (n + 1) x) := by
  rw [List.replicate_succ', rows_append]
  rfl
theorem l7Empty_spec : Spec Try.prog 185 [] (intsT emptyM) := by
  refine Spec_of mx Γ_ok Try.func185 rfl ?_
  conv => whnf
  refine ⟨[(0,0),(1,0),(2,0)], fun j s => ∃ (k n : Nat) (e : Int) (r : List V), e = k ∧ j + k = 20 ∧ n = k ∧ r = rows ciL (List.replicate k (-1000)) ∧
    s = ⟨12, [(0, cnil), (1, .own 0 1 0 n n none), (2, ci e)], [some ⟨false, r⟩]⟩, 20, ⟨0, 0, 0, _, rfl, rfl, rfl, rfl, rfl⟩, ?_⟩
  rintro j s ⟨k, n, _, _, rfl, hj, rfl, rfl, rfl⟩
  conv => whnf
  split <;> rename_i h3
  all_goals simp only [decide_eq_true_eq, decide_eq_false_iff_not] at h3
  · conv => whnf
    refine ⟨_, rfl, .inl ⟨flat1 rfl, ?_⟩⟩
    conv => whnf
    refine ⟨by omega, by rw [rows_len ciL_len, List.length_replicate], _, snoc_rep n (-1000), ?_⟩
    conv => whnf
    exact ⟨j - 1, by omega, n + 1, _, _, _, wrap_id (by omega) (by omega), by omega, rfl, rfl, rfl⟩
  · conv => whnf
    have : n = 20 := by omega
    subst this
    refine ⟨by rw [rows_len ciL_len, List.length_replicate], ?_⟩
    rfl
theorem emptyM_len : emptyM.length = 20 := List.length_replicate
def wFind (o : Option (List Int)) : V := .tup [intsT (o.getD []), cb o.isSome]
set_option maxHeartbeats 4000000 in
theorem l7Find_spec (f t : QueryT) (hf : cQuery f ≤ 1048576) (ht : cQuery t ≤ 1048576) (hfh : fineT f.1) (hfa : fineA f.2) : Spec Try.prog 144 [vQuery f, vQuery t] (wFind (mapP f t)) := by
  have hf' := hf
  have ht' := ht
  unfold cQuery cAtomS at hf' ht'
  refine Spec_of mx Γ_ok Try.func144 rfl ?_
  conv => whnf
  unfold mapP
  generalize hb1 : ((f.1.length : Int) != (t.1.length : Int)) = b1
  cases b1 with
  | true =>
    conv => whnf
    exact ⟨rfl, rfl⟩
  | false =>
  have hlen : f.1.length = t.1.length := by
    have h9 : (f.1.length : Int) = t.1.length := (by simpa using hb1)
    omega
  rw [if_neg (by simp)]
  conv => whnf
  refine ⟨List.range 11, by kernel_rfl, ?_⟩
  conv => whnf
  refine ⟨_, l7Empty_spec, .inl rfl, .inl ?_⟩
  rw [intsT_ro]
  conv => whnf
  refine ⟨_, l7Unify_spec f.1 t.1 emptyM emptyM_len hlen (by omega) hfh, .inl rfl, .inl ?_⟩
  generalize hu : uniK emptyM f.1 t.1 f.1.length = r
  have hul : r.1.length = 20 := by rw [← hu, uniK_len, emptyM_len]
  obtain ⟨x, ok⟩ := r
  simp only [roV, roVs, intsT_ro, ci_ro]
  cases ok with
  | false =>
    conv => whnf
    exact ⟨rfl, rfl⟩
  | true =>
  rw [if_pos rfl]
  conv => whnf
  refine ⟨_, l7Search_spec f t hf ht hfa f.2.length 0 x (by omega) hul, .inl rfl, .inl ?_⟩
  rw [List.drop_zero]
  generalize hs : srch t.2 f.2 x = o
  cases o with
  | none =>
    simp only [wS, roV, roVs, ints_ro, ci_ro]
    conv => whnf
    exact ⟨rfl, rfl⟩
  | some y =>
    have hyl := srch_len hs
    simp only at hul
    simp only [wS, roV, roVs, ints_ro, ci_ro]
    conv => whnf
    refine ⟨rows_len ciL_len _, solid_ci _, ?_⟩
    conv => whnf
    refine ⟨by omega, rfl, _, app_ci [] y, ?_⟩
    conv => whnf
    refine ⟨by rw [rows_len ciL_len, List.nil_append, Nat.zero_add]; rfl, ?_⟩
    show V.tup [V.tr 1 (0 + y.length) (rows ciL ([] ++ y)), cb true] = _
    rw [List.nil_append, Nat.zero_add]
    rfl
def contP (s : List Int) (a b : QueryT) : Bool := isQuery s b && isQuery s a && (mapP b a).isSome
def wFindQ (s : List Int) (f t : QueryT) : V := wFind (if isQuery s f && isQuery s t then mapP f t else none)
theorem specFindMapping_spec (s : List Int) (f t : QueryT) (hs : cSchema s ≤ 1048576) (hf : cQuery f ≤ 1048576) (ht : cQuery t ≤ 1048576) : Spec Try.prog 162 [vSchema s, vQuery f, vQuery t] (wFindQ s f t) := by
  refine Spec_of mx Γ_ok Try.func162 rfl ?_
  conv => whnf
  refine ⟨_, specIsQuery_spec s f hs hf, .inl rfl, .inl ?_⟩
  conv => whnf
  unfold wFindQ
  generalize hb1 : isQuery s f = b1
  cases b1 with
  | false =>
    conv => whnf
    exact ⟨rfl, rfl⟩
  | true =>
  conv => whnf
  refine ⟨_, specIsQuery_spec s t hs ht, .inl rfl, .inl ?_⟩
  conv => whnf
  generalize hb2 : isQuery s t = b2
  cases b2 with
  | false =>
    conv => whnf
    exact ⟨rfl, rfl⟩
  | true =>
  conv => whnf
  obtain ⟨h1, h2⟩ := isQuery_fine hb1
  rw [Bool.true_and, if_pos rfl]
  refine ⟨_, l7Find_spec f t hf ht h1 h2, .inl rfl, .inr ?_⟩
  conv => whnf
  generalize mapP f t = o
  refine ⟨by rw [rows_len ciL_len], ?_⟩
  rfl
theorem specIsContained_spec (s : List Int) (a b : QueryT) (hs : cSchema s ≤ 1048576) (ha : cQuery a ≤ 1048576) (hb : cQuery b ≤ 1048576) : Spec Try.prog 99 [vSchema s, vQuery a, vQuery b] (cb (contP s a b)) := by
  refine Spec_of mx Γ_ok Try.func99 rfl ?_
  conv => whnf
  refine ⟨_, specFindMapping_spec s b a hs hb ha, .inl rfl, .inl ?_⟩
  conv => whnf
  unfold contP
  generalize isQuery s b = b1
  generalize isQuery s a = b2
  generalize mapP b a = o
  cases b1 <;> cases b2 <;> rfl
end Go.Proofs.YtbnikloglnkddaaD
