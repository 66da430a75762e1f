/- The search for a mapping: the second program. -/
import Derived.Test.YtbnikloglnkddaaFMap3
set_option linter.unusedVariables false
set_option linter.unusedSimpArgs false
set_option maxRecDepth 100000
namespace Go.Proofs.YtbnikloglnkddaaD
open Go Go.Proofs

def capsM (f t : QueryT) (z : V) : V := .fn 188 [.rp (rQuery f), .rp (rQuery t), z]
def selfM (f t : QueryT) (z : V) : Nat → V
  | 0 => z
  | d + 1 => .rp [capsM f t (selfM f t z d)]
def optM : Option (List Int) → V
  | none => cnil
  | some y => ints y
theorem optM_ro (o : Option (List Int)) : roV (optM o) = optM o := by
  cases o with
  | none => rfl
  | some y => exact ints_ro y
set_option maxHeartbeats 8000000 in
theorem mapTry_spec (f t : QueryT) (z : V) (hf : cQuery f ≤ 1048576) (ht : cQuery t ≤ 1048576) (hfa : fineA f.2) : ∀ (n i d : Nat) (m : List Int), i + n = f.2.length → n < d → m.length = 20 → Spec Try.prog 188 [ints m, ci i, .rp (rQuery f), .rp (rQuery t), selfM f t z d] (optM (srch t.2 (f.2.drop i) m)) := by
  have hf' := hf
  have ht' := ht
  unfold cQuery cAtomS at hf' ht'
  intro n
  induction n with
  | zero =>
    intro i d m hi hd hm
    obtain rfl : i = f.2.length := by omega
    rw [List.drop_of_length_le (Nat.le_refl _)]
    refine Spec_of mx Γ_ok Try.func188 rfl ?_
    conv => whnf
    refine ⟨_, rfl, ?_⟩
    conv => whnf
    rw [beq_self_eq_true]
    conv => whnf
    rfl
  | succ n ih =>
    intro i d m hi hd hm
    obtain ⟨d, rfl⟩ : ∃ d', d = d' + 2 := ⟨d - 2, by omega⟩
    have hil : i < f.2.length := by omega
    have hb1 := sumB_one (f := cAtom) hil
    have hcb1 : cAtom f.2[i] = f.2[i].2.length := rfl
    have hfi : fineT f.2[i].2 := hfa _ (List.getElem_mem hil)
    rw [srch_drop hil]
    generalize ha : f.2[i] = a at hb1 hcb1 hfi
    refine Spec_of mx Γ_ok Try.func188 rfl ?_
    rw [show selfM f t z (d + 2) = .rp [capsM f t (.rp [capsM f t (selfM f t z d)])] from rfl]
    conv => whnf
    refine ⟨_, rfl, ?_⟩
    conv => whnf
    rw [show ((i : Int) == (f.2.length : Int)) = false from by simp; omega]
    conv => whnf
    refine ⟨_, rfl, ?_⟩
    conv => whnf
    refine ⟨by omega, rows_len rAtom_len _, ?_⟩
    conv => whnf
    refine ⟨_, takeN_rp (k := i) rAtom_len hil, ?_⟩
    rw [ha]
    conv => whnf
    refine ⟨_, rfl, ?_⟩
    conv => whnf
    refine ⟨[(0,0),(1,0),(2,0),(3,0),(4,0),(7,0),(8,0),(28,0),(29,0),(30,0)], fun j s => ∃ (k : Nat) (e : Int), e = k ∧ j + k = t.2.length ∧ ((t.2.take k).findSome? fun b => (stepM a b m).bind fun x => srch t.2 (f.2.drop (i + 1)) x) = none ∧
      s = ⟨81, [(0, ints m), (1, ci i), (2, .rp (rQuery f)), (3, .rp (rQuery t)), (4, .rp [capsM f t (.rp [capsM f t (selfM f t z d)])]), (7, cnil), (8, .ptr 0 0), (28, vAtomS t.2), (29, ci t.2.length), (30, ci e)], [some ⟨true, rAtom a⟩]⟩, t.2.length, ⟨0, 0, rfl, rfl, rfl, rfl⟩, ?_⟩
    rintro j s ⟨k, _, rfl, hj, hnone, rfl⟩
    conv => whnf
    split <;> rename_i h3
    all_goals simp only [decide_eq_true_eq, decide_eq_false_iff_not] at h3
    · conv => whnf
      have hk : k < t.2.length := by omega
      have hb2 := sumB_one (f := cAtom) hk
      have hcb2 : cAtom t.2[k] = t.2[k].2.length := rfl
      have hnx := first_take hk hnone
      generalize hbb : t.2[k] = b at hb2 hcb2 hnx
      refine ⟨by omega, rows_len rAtom_len _, ?_⟩
      conv => whnf
      refine ⟨_, takeN_rp (k := k) rAtom_len hk, ?_⟩
      rw [hbb]
      conv => whnf
      have hskip : stepM a b m = none → ∃ m', m' < j ∧ ∃ (k' : Nat) (e : Int), e = k' ∧ m' + k' = t.2.length ∧ ((t.2.take k').findSome? fun b => (stepM a b m).bind fun x => srch t.2 (f.2.drop (i + 1)) x) = none ∧ (⟨81, [(0, ints m), (1, ci i), (2, .rp (rQuery f)), (3, .rp (rQuery t)), (4, .rp [capsM f t (.rp [capsM f t (selfM f t z d)])]), (7, cnil), (8, .ptr 0 0), (28, vAtomS t.2), (29, ci t.2.length), (30, ci (IntKind.i64.wrap ((k : Int) + 1)))], [some ⟨true, rAtom a⟩]⟩ : St) = ⟨81, [(0, ints m), (1, ci i), (2, .rp (rQuery f)), (3, .rp (rQuery t)), (4, .rp [capsM f t (.rp [capsM f t (selfM f t z d)])]), (7, cnil), (8, .ptr 0 0), (28, vAtomS t.2), (29, ci t.2.length), (30, ci e)], [some ⟨true, rAtom a⟩]⟩ := by
        intro hs
        rw [hs] at hnx
        exact ⟨j - 1, by omega, k + 1, _, wrap_id (by omega) (by omega), by omega, hnx, rfl⟩
      generalize hb3 : (a.1 != b.1) = b3
      cases b3 with
      | true =>
        conv => whnf
        exact hskip (by rw [stepM, hb3]; rfl)
      | false =>
      conv => whnf
      generalize hb4 : ((a.2.length : Int) != (b.2.length : Int)) = b4
      cases b4 with
      | true =>
        conv => whnf
        exact hskip (by rw [stepM, hb3, hb4]; rfl)
      | false =>
      conv => whnf
      have hlen : a.2.length = b.2.length := by
        have h9 : (a.2.length : Int) = b.2.length := (by simpa using hb4)
        omega
      refine ⟨_, copyInts_spec m (by omega), .inl rfl, .inr ?_⟩
      conv => whnf
      refine ⟨[(0,0),(1,0),(2,0),(3,0),(4,0),(7,0),(8,0),(10,0),(11,0),(12,0),(28,0),(29,0),(30,0),(51,0),(52,0),(53,0)], fun j' s => ∃ (p n20 : Nat) (e : Int) (r : List V) (fl : Bool), e = p ∧ j' + p = a.2.length ∧ n20 = 20 ∧ r = rows ciL (uniK m a.2 b.2 p).1 ∧ fl = (uniK m a.2 b.2 p).2 ∧
        s = ⟨81, [(0, ints m), (1, ci i), (2, .rp (rQuery f)), (3, .rp (rQuery t)), (4, .rp [capsM f t (.rp [capsM f t (selfM f t z d)])]), (7, cnil), (8, .ptr 0 0), (10, .ptr 1 0), (11, .own 2 1 0 n20 n20 none), (12, cb fl), (28, vAtomS t.2), (29, ci t.2.length), (30, ci k), (51, ints a.2), (52, ci a.2.length), (53, ci e)], [some ⟨true, rAtom a⟩, some ⟨true, rAtom b⟩, some ⟨false, r⟩]⟩, a.2.length, ⟨0, m.length, 0, _, true, rfl, rfl, hm, rfl, rfl, rfl⟩, ?_⟩
      rintro j' s ⟨p, n20, _, _, _, rfl, hj', rfl, rfl, rfl, rfl⟩
      have hul : (uniK m a.2 b.2 p).1.length = 20 := by rw [uniK_len, hm]
      conv => whnf
      split <;> rename_i h5
      all_goals simp only [decide_eq_true_eq, decide_eq_false_iff_not] at h5
      · conv => whnf
        have hp : p < a.2.length := by omega
        have hpb : p < b.2.length := by omega
        refine ⟨by omega, rows_len ciL_len _, ?_⟩
        conv => whnf
        refine ⟨_, takeN_rp (k := p) ciL_len hp, ?_⟩
        conv => whnf
        generalize hu : uniK m a.2 b.2 p = r at hul
        obtain ⟨M, fl⟩ := r
        simp only at hul ⊢
        cases fl with
        | false =>
          conv => whnf
          have := uniK_false (m := m) (xs := a.2) (ys := b.2) (k := p) (by rw [hu]) (p + 1) (by omega)
          rw [hu] at this
          exact ⟨j' - 1, by omega, p + 1, 20, _, _, _, wrap_id (by omega) (by omega), by omega, rfl, by rw [this], by rw [this], rfl⟩
        | true =>
          conv => whnf
          have hnx2 := uniK_succ (m := m) (xs := a.2) (ys := b.2) (k := p) (by rw [hu])
          rw [hu, getD_int hp, getD_int hpb] at hnx2
          simp only at hnx2
          refine ⟨by omega, rows_len ciL_len _, ?_⟩
          conv => whnf
          refine ⟨_, takeN_rp (k := p) ciL_len hpb, ?_⟩
          conv => whnf
          refine .inr (.inl ?_)
          conv => whnf
          refine ⟨by rw [rows_len ciL_len, hul], ?_⟩
          conv => whnf
          have hs := send_spec M a.2[p] b.2[p] hul
          unfold intsT at hs
          rw [sendP_len, hul] at hs
          refine ⟨_, _, _, hs, ?_⟩
          conv => whnf
          refine .inl ?_
          conv => whnf
          exact ⟨j' - 1, by omega, p + 1, 20, _, _, _, wrap_id (by omega) (by omega), by omega, rfl, by rw [hnx2], by rw [hnx2], rfl⟩
      · conv => whnf
        have hpp : p = a.2.length := by omega
        subst hpp
        generalize hu : uniK m a.2 b.2 a.2.length = r at hul
        obtain ⟨x, ok⟩ := r
        simp only at hul ⊢
        have hst : stepM a b m = if ok then some x else none := by rw [stepM, hb3, hb4, hu]; rfl
        cases ok with
        | false =>
          conv => whnf
          exact hskip (by rw [hst]; rfl)
        | true =>
        conv => whnf
        refine ⟨_, rfl, ?_⟩
        conv => whnf
        rw [show IntKind.i64.wrap ((i : Int) + 1) = ((i + 1 : Nat) : Int) from wrap_id (by omega) (by omega)]
        refine .inr (.inr (.inl ⟨[2], rfl, ?_⟩))
        conv => whnf
        refine ⟨_, _, takeN_all (by rw [rows_len ciL_len, hul]), roVs_ci _, ?_⟩
        conv => whnf
        have hq := ih (i + 1) (d + 1) x (by omega) (by omega) hul
        unfold ints at hq
        rw [hul] at hq
        refine ⟨_, hq, _, rfl, .inl ?_⟩
        rw [optM_ro]
        rw [hst, if_pos rfl] at hnx
        simp only [Option.bind_some] at hnx
        generalize hso : srch t.2 (f.2.drop (i + 1)) x = o at hnx
        cases o with
        | some y =>
          have hyl := srch_len hso
          conv => whnf
          refine ⟨fun h0 => ?_, ?_⟩
          · have h7 : y.length * 1 = 0 := (rows_len ciL_len y).symm.trans (congrArg List.length h0)
            omega
          conv => whnf
          rw [first_some hnx]
          rfl
        | none =>
          conv => whnf
          exact ⟨j - 1, by omega, k + 1, _, wrap_id (by omega) (by omega), by omega, hnx, rfl⟩
    · conv => whnf
      have hkk : k = t.2.length := by omega
      rw [hkk, List.take_length] at hnone
      rw [hnone]
      exact .inl rfl
end Go.Proofs.YtbnikloglnkddaaD
