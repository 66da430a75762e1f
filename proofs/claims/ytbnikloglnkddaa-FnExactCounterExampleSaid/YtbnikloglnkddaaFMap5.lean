/- Containment and equivalence: the second program. -/
import Derived.Test.YtbnikloglnkddaaFMap4
set_option linter.unusedVariables false
set_option linter.unusedSimpArgs false
set_option maxRecDepth 100000
namespace Go.Proofs.YtbnikloglnkddaaD
open Go Go.Proofs

theorem snapF_self {g : List (Option Obj)} {f t : QueryT} {i0 i1 i2 : Nat} (h0 : obOf g i0 = some ⟨true, rQuery f⟩) (h1 : obOf g i1 = some ⟨true, rQuery t⟩) (h2 : obOf g i2 = some ⟨true, [.fn 188 [.ptr i0 0, .ptr i1 0, .ptr i2 0]]⟩) :
    ∀ n, snapF g (2 * n + 2) (.ptr i2 0) = selfM f t (snapF g 2 (.ptr i2 0)) n
  | 0 => rfl
  | n + 1 => by
    have ih := snapF_self h0 h1 h2 n
    rw [selfM, ← ih, show 2 * (n + 1) + 2 = (2 * n + 2) + 1 + 1 from by omega]
    have e1 : ∀ d, snapF g (d + 1) (.ptr i2 0) = .rp [snapF g d (.fn 188 [.ptr i0 0, .ptr i1 0, .ptr i2 0])] := fun d => by
      show (match obOf g i2 with
        | some ⟨true, cs⟩ => V.rp ((cs.drop 0).map (snapF g d))
        | _ => .any) = _
      rw [h2]
      rfl
    have e2 : ∀ (d i : Nat) (q : QueryT), obOf g i = some ⟨true, rQuery q⟩ → snapF g (d + 2) (.ptr i 0) = .rp (rQuery q) := fun d i q hq => by
      show (match obOf g i with
        | some ⟨true, cs⟩ => V.rp ((cs.drop 0).map (snapF g (d + 1)))
        | _ => .any) = _
      rw [hq]
      rfl
    rw [e1]
    show V.rp [.fn _ [snapF g (2 * n + 2) (.ptr i0 0), snapF g (2 * n + 2) (.ptr i1 0), snapF g (2 * n + 2) (.ptr i2 0)]] = _
    rw [e2 _ _ _ h0, e2 _ _ _ h1]
    rfl
def fillM (k : Nat) : List Int := List.replicate k (-1000) ++ List.replicate (20 - k) 0
theorem fillM_len {k : Nat} (h : k ≤ 20) : (fillM k).length = 20 := by simp [fillM]; omega
theorem fillM_set {k : Nat} (h : k < 20) : (fillM k).set k (-1000) = fillM (k + 1) := by
  rw [fillM, List.set_append_right _ _ (by simp)]
  obtain ⟨r, hr⟩ : ∃ r, 20 - k = r + 1 := ⟨19 - k, by omega⟩
  rw [hr, List.length_replicate, Nat.sub_self, List.replicate_succ, List.set_cons_zero, fillM, List.replicate_succ', show 20 - (k + 1) = r from by omega, List.append_assoc]
  rfl
def wMap : Option (List Int) → V
  | none => .tup [intsT [], cb false]
  | some y => .tup [ints y, cb true]
set_option maxHeartbeats 8000000 in
theorem mapping_spec (f t : QueryT) (hf : cQuery f ≤ 1048576) (ht : cQuery t ≤ 1048576) (hfh : fineT f.1) (hfa : fineA f.2) : Spec Try.prog 145 [vQuery f, vQuery t] (wMap (mapP f t)) := by
  have hf' := hf
  have ht' := ht
  unfold cQuery cAtomS at hf' ht'
  refine Spec_of mx Γ_ok Try.func145 rfl ?_
  conv => whnf
  unfold mapP
  generalize hb1 : ((f.1.length : Int) != (t.1.length : Int)) = b1
  cases b1 with
  | true =>
    conv => whnf
    exact ⟨rfl, rfl⟩
  | false =>
  have hlen : f.1.length = t.1.length := by
    have h9 : (f.1.length : Int) = t.1.length := (by simpa using hb1)
    omega
  rw [if_neg (by simp)]
  conv => whnf
  refine ⟨by omega, rows ciL (fillM 0), rfl, ?_⟩
  conv => whnf
  refine ⟨[(2,0),(3,0),(4,0),(5,0),(6,0),(22,0),(23,0)], fun j s => ∃ (k n : Nat) (e : Int) (r : List V), e = k ∧ j + k = 20 ∧ n = 20 ∧ r = rows ciL (fillM k) ∧
    s = ⟨57, [(2, .ptr 0 0), (3, .ptr 1 0), (4, cnil), (5, cb false), (6, .own 2 1 0 n n none), (22, ci 20), (23, ci e)], [some ⟨true, rQuery f⟩, some ⟨true, rQuery t⟩, some ⟨false, r⟩]⟩, 20, ⟨0, 20, 0, _, rfl, rfl, rfl, rfl, rfl⟩, ?_⟩
  rintro j s ⟨k, n, _, _, rfl, hj, rfl, rfl, rfl⟩
  conv => whnf
  split <;> rename_i h3
  all_goals simp only [decide_eq_true_eq, decide_eq_false_iff_not] at h3
  · conv => whnf
    have hk : k < 20 := by omega
    refine ⟨by omega, ?_⟩
    conv => whnf
    have hkl : k < (fillM k).length := by rw [fillM_len (by omega)]; exact hk
    refine ⟨_, takeN_own (k := k) (d := 0) (xs := fillM k) ciL_len (Nat.zero_add _) hkl (Nat.le_refl _) rfl, _, (set_ciL hkl (-1000)).trans (congrArg (rows ciL) (fillM_set hk)), ?_⟩
    conv => whnf
    exact ⟨j - 1, by omega, k + 1, 20, _, _, wrap_id (by omega) (by omega), by omega, rfl, rfl, rfl⟩
  · conv => whnf
    obtain rfl : k = 20 := by omega
    rw [show fillM 20 = emptyM from rfl]
    refine ⟨[(2,0),(3,0),(4,0),(5,0),(6,0),(31,0),(32,0),(33,0)], fun j s => ∃ (k n : Nat) (e : Int) (M : List Int) (r : List V), e = k ∧ j + k = f.1.length ∧ n = 20 ∧ uniK emptyM f.1 t.1 k = (M, true) ∧ r = rows ciL M ∧
      s = ⟨57, [(2, .ptr 0 0), (3, .ptr 1 0), (4, cnil), (5, cb false), (6, .own 2 1 0 n n none), (31, ints f.1), (32, ci f.1.length), (33, ci e)], [some ⟨true, rQuery f⟩, some ⟨true, rQuery t⟩, some ⟨false, r⟩]⟩, f.1.length, ⟨0, 20, 0, emptyM, _, rfl, rfl, rfl, rfl, rfl, rfl⟩, ?_⟩
    rintro j s ⟨k, n, _, M, _, rfl, hj, rfl, hu, rfl, rfl⟩
    have hul : M.length = 20 := by
      have := uniK_len emptyM f.1 t.1 k
      rw [hu, emptyM_len] at this
      exact this
    conv => whnf
    split <;> rename_i h4
    all_goals simp only [decide_eq_true_eq, decide_eq_false_iff_not] at h4
    · conv => whnf
      have hk : k < f.1.length := by omega
      have hkb : k < t.1.length := by omega
      have hnx := uniK_succ (m := emptyM) (xs := f.1) (ys := t.1) (k := k) (by rw [hu])
      rw [hu, getD_int hk, getD_int hkb] at hnx
      simp only at hnx
      refine ⟨by omega, rows_len ciL_len _, ?_⟩
      conv => whnf
      refine ⟨_, takeN_rp (k := k) ciL_len hk, ?_⟩
      conv => whnf
      refine ⟨by omega, rows_len ciL_len _, ?_⟩
      conv => whnf
      refine ⟨_, takeN_rp (k := k) ciL_len hkb, ?_⟩
      conv => whnf
      refine .inr (.inl ?_)
      conv => whnf
      refine ⟨by rw [rows_len ciL_len, hul], ?_⟩
      conv => whnf
      have hs := send_spec M f.1[k] t.1[k] hul
      have hsl : (sendP M f.1[k] t.1[k]).1.length = 20 := by rw [sendP_len, hul]
      generalize hsp : sendP M f.1[k] t.1[k] = r at hs hnx hsl
      obtain ⟨M2, ok⟩ := r
      simp only at hsl
      unfold intsT at hs
      simp only at hs
      rw [hsl, hul] at hs
      refine ⟨_, _, _, hs, ?_⟩
      conv => whnf
      refine .inl ?_
      conv => whnf
      cases ok with
      | false =>
        conv => whnf
        have := uniK_false (m := emptyM) (xs := f.1) (ys := t.1) (k := k + 1) (by rw [hnx]) f.1.length (by omega)
        rw [this, hnx]
        exact ⟨rfl, rfl⟩
      | true =>
        conv => whnf
        exact ⟨j - 1, by omega, k + 1, 20, _, M2, _, wrap_id (by omega) (by omega), by omega, rfl, hnx, rfl, rfl⟩
    · conv => whnf
      have hkk : k = f.1.length := by omega
      subst hkk
      rw [hu]
      simp only [if_true]
      refine .inr (.inr (.inl ⟨[0,1,2,3], rfl, ?_⟩))
      conv => whnf
      refine ⟨_, _, takeN_all (by rw [rows_len ciL_len, hul]), roVs_ci _, ?_⟩
      conv => whnf
      refine ⟨_, rfl, ?_⟩
      conv => whnf
      refine ⟨_, rfl, ?_⟩
      conv => whnf
      refine ⟨2 * (f.2.length + 1) + 2, _, snapF_self (f := f) (t := t) (i0 := 0) (i1 := 1) (i2 := 3) rfl rfl rfl (f.2.length + 1), ?_⟩
      conv => whnf
      generalize snapF _ 2 _ = z
      have hq := mapTry_spec f t z hf ht hfa f.2.length 0 (f.2.length + 1) M (by omega) (by omega) hul
      rw [List.drop_zero] at hq
      unfold ints at hq
      rw [hul] at hq
      refine ⟨_, hq, _, rfl, .inl ?_⟩
      rw [optM_ro]
      generalize hso : srch t.2 f.2 M = o
      cases o with
      | some y =>
        have hyl := srch_len hso
        conv => whnf
        refine ⟨fun h0 => ?_, ?_⟩
        · have h7 : y.length * 1 = 0 := (rows_len ciL_len y).symm.trans (congrArg List.length h0)
          omega
        conv => whnf
        rfl
      | none =>
        conv => whnf
        exact ⟨rfl, rfl⟩
theorem implFindMapping_spec (s : List Int) (f t : QueryT) (hs : cSchema s ≤ 1048576) (hf : cQuery f ≤ 1048576) (ht : cQuery t ≤ 1048576) : Spec Try.prog 163 [vSchema s, vQuery f, vQuery t] (if isQuery s f && isQuery s t then roV (wMap (mapP f t)) else wMap none) := by
  refine Spec_of mx Γ_ok Try.func163 rfl ?_
  conv => whnf
  refine ⟨_, implIsQuery_spec s f hs hf, .inl rfl, .inl ?_⟩
  conv => whnf
  generalize hb1 : isQuery s f = b1
  cases b1 with
  | false =>
    conv => whnf
    exact ⟨rfl, rfl⟩
  | true =>
  conv => whnf
  refine ⟨_, implIsQuery_spec s t hs ht, .inl rfl, .inl ?_⟩
  conv => whnf
  generalize hb2 : isQuery s t = b2
  cases b2 with
  | false =>
    conv => whnf
    exact ⟨rfl, rfl⟩
  | true =>
  conv => whnf
  obtain ⟨h1, h2⟩ := isQuery_fine hb1
  rw [Bool.true_and, if_pos rfl]
  refine ⟨_, mapping_spec f t hf ht h1 h2, .inl rfl, .inl ?_⟩
  generalize mapP f t = o
  cases o with
  | none =>
    conv => whnf
    rfl
  | some y =>
    simp only [wMap, roV, roVs, ints_ro, ci_ro]
    conv => whnf
    rfl
theorem implIsContained_spec (s : List Int) (a b : QueryT) (hs : cSchema s ≤ 1048576) (ha : cQuery a ≤ 1048576) (hb : cQuery b ≤ 1048576) : Spec Try.prog 100 [vSchema s, vQuery a, vQuery b] (cb (contP s a b)) := by
  refine Spec_of mx Γ_ok Try.func100 rfl ?_
  conv => whnf
  refine ⟨_, implFindMapping_spec s b a hs hb ha, .inl rfl, .inl ?_⟩
  conv => whnf
  unfold contP
  generalize isQuery s b = b1
  generalize isQuery s a = b2
  generalize mapP b a = o
  cases b1 <;> cases b2 <;> cases o
  all_goals
    conv => whnf
    rfl
end Go.Proofs.YtbnikloglnkddaaD
