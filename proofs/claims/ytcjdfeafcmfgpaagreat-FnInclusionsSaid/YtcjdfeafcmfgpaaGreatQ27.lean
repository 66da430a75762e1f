/- Contracts and plain laws of this seat; no condition. -/
import Derived.Test.YtcjdfeafcmfgpaaGreatQ26
set_option linter.unusedVariables false
set_option linter.unusedSimpArgs false
set_option maxRecDepth 100000
namespace Go.Proofs.YtcjdfeafcmfgpaaGreatD
open Go Go.Proofs
def emptyM : List Int := List.replicate 20 (-1000)
def mapP (f t : QueryT) : Option (List Int) :=
 if (f.1.length : Int) != t.1.length then none else if (uniK emptyM f.1 t.1 f.1.length).2 then srch t.2 f.2 (uniK emptyM f.1 t.1 f.1.length).1 else none
theorem isQuery_fine {s : List Int} {q : QueryT} (h : isQuery s q = true) : fineT q.1 ∧ fineA q.2 := by
 simp only [isQuery, fineQ, terms3, Bool.and_eq_true, List.all_eq_true] at h
 obtain ⟨_, ⟨h1, _⟩, _, h2, _⟩ := h
 have ht : ∀ t, isTerm t = true → t < 20 := fun t ht => by
  simp only [isTerm, inR, Bool.and_eq_true, decide_eq_true_eq] at ht
  omega
 refine ⟨fun t hm => ht t (h1 t hm), fun a ha t hm => ht t ?_⟩
 have := h2 a ha
 simp only [isAtom, Bool.and_eq_true, List.all_eq_true] at this
 exact this.2 t hm
theorem snoc_rep (n : Nat) (x : Int) : rows ciL (List.replicate n x) ++ [ci x] = rows ciL (List.replicate (n + 1) x) := by
 rw [List.replicate_succ', rows_append]
 rfl
theorem l7Empty_spec : Spec Tryz.prog 227 [] (intsT emptyM) := by
 refine Spec_of mx Γ_ok Tryz.func227 rfl ?_
 conv => whnf
 refine ⟨[(0,0),(1,0),(2,0)], fun j s => ∃ (k n : Nat) (e : Int) (r : List V), e = k ∧ j + k = 20 ∧ n = k ∧ r = rows ciL (List.replicate k (-1000)) ∧
  s = ⟨12, [(0, cnil), (1, .own 0 1 0 n n none), (2, ci e)], [some ⟨false, r⟩]⟩, 20, ⟨0, 0, 0, _, rfl, rfl, rfl, rfl, rfl⟩, ?_⟩
 rintro j s ⟨k, n, _, _, rfl, hj, rfl, rfl, rfl⟩
 conv => whnf
 split <;> rename_i h3
 all_goals simp only [decide_eq_true_eq, decide_eq_false_iff_not] at h3
 ·conv => whnf
  refine ⟨_, rfl, .inl ⟨flat1 rfl, ?_⟩⟩
  conv => whnf
  refine ⟨by omega, by rw [rows_len ciL_len, List.length_replicate], _, snoc_rep n (-1000), ?_⟩
  conv => whnf
  exact ⟨j - 1, by omega, n + 1, _, _, _, wrap_id (by omega) (by omega), by omega, rfl, rfl, rfl⟩
 ·conv => whnf
  have : n = 20 := by omega
  subst this
  refine ⟨by rw [rows_len ciL_len, List.length_replicate], ?_⟩
  rfl
theorem emptyM_len : emptyM.length = 20 := List.length_replicate
def wFind (o : Option (List Int)) : V := .tup [intsT (o.getD []), cb o.isSome]
set_option maxHeartbeats 4000000 in
theorem l7Find_spec (f t : QueryT) (hf : cQuery f ≤ 1048576) (ht : cQuery t ≤ 1048576) (hfh : fineT f.1) (hfa : fineA f.2) : Spec Tryz.prog 120 [vQuery f, vQuery t] (wFind (mapP f t)) := by
 have hf' := hf
 have ht' := ht
 unfold cQuery cAtomS at hf' ht'
 refine Spec_of mx Γ_ok Tryz.func120 rfl ?_
 conv => whnf
 unfold mapP
 generalize hb1 : ((f.1.length : Int) != (t.1.length : Int)) = b1
 cases b1 with
 | true =>
  conv => whnf
  exact ⟨rfl, rfl⟩
 | false =>
 have hlen : f.1.length = t.1.length := by
  have h9 : (f.1.length : Int) = t.1.length := (by simpa using hb1)
  omega
 rw [if_neg (by simp)]
 conv => whnf
 refine ⟨List.range 11, by kernel_rfl, ?_⟩
 conv => whnf
 refine ⟨_, l7Empty_spec, .inl rfl, .inl ?_⟩
 rw [intsT_ro]
 conv => whnf
 refine ⟨_, l7Unify_spec f.1 t.1 emptyM emptyM_len hlen (by omega) hfh, .inl rfl, .inl ?_⟩
 generalize hu : uniK emptyM f.1 t.1 f.1.length = r
 have hul : r.1.length = 20 := by rw [← hu, uniK_len, emptyM_len]
 obtain ⟨x, ok⟩ := r
 simp only [roV, roVs, intsT_ro, ci_ro]
 cases ok with
 | false =>
  conv => whnf
  exact ⟨rfl, rfl⟩
 | true =>
 rw [if_pos rfl]
 conv => whnf
 refine ⟨_, l7Search_spec f t hf ht hfa f.2.length 0 x (by omega) hul, .inl rfl, .inl ?_⟩
 rw [List.drop_zero]
 generalize hs : srch t.2 f.2 x = o
 cases o with
 | none =>
  simp only [wS, roV, roVs, ints_ro, ci_ro]
  conv => whnf
  exact ⟨rfl, rfl⟩
 | some y =>
  have hyl := srch_len hs
  simp only at hul
  simp only [wS, roV, roVs, ints_ro, ci_ro]
  conv => whnf
  refine ⟨rows_len ciL_len _, solid_ci _, ?_⟩
  conv => whnf
  refine ⟨by omega, rfl, _, app_ci [] y, ?_⟩
  conv => whnf
  refine ⟨by rw [rows_len ciL_len, List.nil_append, Nat.zero_add]; rfl, ?_⟩
  show V.tup [V.tr 1 (0 + y.length) (rows ciL ([] ++ y)), cb true] = _
  rw [List.nil_append, Nat.zero_add]
  rfl
def capsM (f t : QueryT) (z : V) : V := .fn 225 [.rp (rQuery f), .rp (rQuery t), z]
def selfM (f t : QueryT) (z : V) : Nat → V
 | 0 => z
 | d + 1 => .rp [capsM f t (selfM f t z d)]
def optM : Option (List Int) → V
 | none => cnil
 | some y => ints y
theorem optM_ro (o : Option (List Int)) : roV (optM o) = optM o := by
 cases o with
 | none => rfl
 | some y => exact ints_ro y
set_option maxHeartbeats 8000000 in
theorem mapTry_spec (f t : QueryT) (z : V) (hf : cQuery f ≤ 1048576) (ht : cQuery t ≤ 1048576) (hfa : fineA f.2) : ∀ (n i d : Nat) (m : List Int), i + n = f.2.length → n < d → m.length = 20 → Spec Tryz.prog 225 [ints m, ci i, .rp (rQuery f), .rp (rQuery t), selfM f t z d] (optM (srch t.2 (f.2.drop i) m)) := by
 have hf' := hf
 have ht' := ht
 unfold cQuery cAtomS at hf' ht'
 intro n
 induction n with
 | zero =>
  intro i d m hi hd hm
  obtain rfl : i = f.2.length := by omega
  rw [List.drop_of_length_le (Nat.le_refl _)]
  refine Spec_of mx Γ_ok Tryz.func225 rfl ?_
  conv => whnf
  refine ⟨_, rfl, ?_⟩
  conv => whnf
  rw [beq_self_eq_true]
  conv => whnf
  rfl
 | succ n ih =>
  intro i d m hi hd hm
  obtain ⟨d, rfl⟩ : ∃ d', d = d' + 2 := ⟨d - 2, by omega⟩
  have hil : i < f.2.length := by omega
  have hb1 := sumB_one (f := cAtom) hil
  have hcb1 : cAtom f.2[i] = f.2[i].2.length := rfl
  have hfi : fineT f.2[i].2 := hfa _ (List.getElem_mem hil)
  rw [srch_drop hil]
  generalize ha : f.2[i] = a at hb1 hcb1 hfi
  refine Spec_of mx Γ_ok Tryz.func225 rfl ?_
  rw [show selfM f t z (d + 2) = .rp [capsM f t (.rp [capsM f t (selfM f t z d)])] from rfl]
  conv => whnf
  refine ⟨_, rfl, ?_⟩
  conv => whnf
  rw [show ((i : Int) == (f.2.length : Int)) = false from by simp; omega]
  conv => whnf
  refine ⟨_, rfl, ?_⟩
  conv => whnf
  refine ⟨by omega, rows_len rAtom_len _, ?_⟩
  conv => whnf
  refine ⟨_, takeN_rp (k := i) rAtom_len hil, ?_⟩
  rw [ha]
  conv => whnf
  refine ⟨_, rfl, ?_⟩
  conv => whnf
  refine ⟨[(0,0),(1,0),(2,0),(3,0),(4,0),(7,0),(8,0),(28,0),(29,0),(30,0)], fun j s => ∃ (k : Nat) (e : Int), e = k ∧ j + k = t.2.length ∧ ((t.2.take k).findSome? fun b => (stepM a b m).bind fun x => srch t.2 (f.2.drop (i + 1)) x) = none ∧
   s = ⟨81, [(0, ints m), (1, ci i), (2, .rp (rQuery f)), (3, .rp (rQuery t)), (4, .rp [capsM f t (.rp [capsM f t (selfM f t z d)])]), (7, cnil), (8, .ptr 0 0), (28, vAtomS t.2), (29, ci t.2.length), (30, ci e)], [some ⟨true, rAtom a⟩]⟩, t.2.length, ⟨0, 0, rfl, rfl, rfl, rfl⟩, ?_⟩
  rintro j s ⟨k, _, rfl, hj, hnone, rfl⟩
  conv => whnf
  split <;> rename_i h3
  all_goals simp only [decide_eq_true_eq, decide_eq_false_iff_not] at h3
  ·conv => whnf
   have hk : k < t.2.length := by omega
   have hb2 := sumB_one (f := cAtom) hk
   have hcb2 : cAtom t.2[k] = t.2[k].2.length := rfl
   have hnx := first_take hk hnone
   generalize hbb : t.2[k] = b at hb2 hcb2 hnx
   refine ⟨by omega, rows_len rAtom_len _, ?_⟩
   conv => whnf
   refine ⟨_, takeN_rp (k := k) rAtom_len hk, ?_⟩
   rw [hbb]
   conv => whnf
   have hskip : stepM a b m = none → ∃ m', m' < j ∧ ∃ (k' : Nat) (e : Int), e = k' ∧ m' + k' = t.2.length ∧ ((t.2.take k').findSome? fun b => (stepM a b m).bind fun x => srch t.2 (f.2.drop (i + 1)) x) = none ∧ (⟨81, [(0, ints m), (1, ci i), (2, .rp (rQuery f)), (3, .rp (rQuery t)), (4, .rp [capsM f t (.rp [capsM f t (selfM f t z d)])]), (7, cnil), (8, .ptr 0 0), (28, vAtomS t.2), (29, ci t.2.length), (30, ci (IntKind.i64.wrap ((k : Int) + 1)))], [some ⟨true, rAtom a⟩]⟩ : St) = ⟨81, [(0, ints m), (1, ci i), (2, .rp (rQuery f)), (3, .rp (rQuery t)), (4, .rp [capsM f t (.rp [capsM f t (selfM f t z d)])]), (7, cnil), (8, .ptr 0 0), (28, vAtomS t.2), (29, ci t.2.length), (30, ci e)], [some ⟨true, rAtom a⟩]⟩ := by
    intro hs
    rw [hs] at hnx
    exact ⟨j - 1, by omega, k + 1, _, wrap_id (by omega) (by omega), by omega, hnx, rfl⟩
   generalize hb3 : (a.1 != b.1) = b3
   cases b3 with
   | true =>
    conv => whnf
    exact hskip (by rw [stepM, hb3]; rfl)
   | false =>
   conv => whnf
   generalize hb4 : ((a.2.length : Int) != (b.2.length : Int)) = b4
   cases b4 with
   | true =>
    conv => whnf
    exact hskip (by rw [stepM, hb3, hb4]; rfl)
   | false =>
   conv => whnf
   have hlen : a.2.length = b.2.length := by
    have h9 : (a.2.length : Int) = b.2.length := (by simpa using hb4)
    omega
   refine ⟨_, copyInts_spec m (by omega), .inl rfl, .inr ?_⟩
   conv => whnf
   refine ⟨[(0,0),(1,0),(2,0),(3,0),(4,0),(7,0),(8,0),(10,0),(11,0),(12,0),(28,0),(29,0),(30,0),(51,0),(52,0),(53,0)], fun j' s => ∃ (p n20 : Nat) (e : Int) (r : List V) (fl : Bool), e = p ∧ j' + p = a.2.length ∧ n20 = 20 ∧ r = rows ciL (uniK m a.2 b.2 p).1 ∧ fl = (uniK m a.2 b.2 p).2 ∧
    s = ⟨81, [(0, ints m), (1, ci i), (2, .rp (rQuery f)), (3, .rp (rQuery t)), (4, .rp [capsM f t (.rp [capsM f t (selfM f t z d)])]), (7, cnil), (8, .ptr 0 0), (10, .ptr 1 0), (11, .own 2 1 0 n20 n20 none), (12, cb fl), (28, vAtomS t.2), (29, ci t.2.length), (30, ci k), (51, ints a.2), (52, ci a.2.length), (53, ci e)], [some ⟨true, rAtom a⟩, some ⟨true, rAtom b⟩, some ⟨false, r⟩]⟩, a.2.length, ⟨0, m.length, 0, _, true, rfl, rfl, hm, rfl, rfl, rfl⟩, ?_⟩
   rintro j' s ⟨p, n20, _, _, _, rfl, hj', rfl, rfl, rfl, rfl⟩
   have hul : (uniK m a.2 b.2 p).1.length = 20 := by rw [uniK_len, hm]
   conv => whnf
   split <;> rename_i h5
   all_goals simp only [decide_eq_true_eq, decide_eq_false_iff_not] at h5
   ·conv => whnf
    have hp : p < a.2.length := by omega
    have hpb : p < b.2.length := by omega
    refine ⟨by omega, rows_len ciL_len _, ?_⟩
    conv => whnf
    refine ⟨_, takeN_rp (k := p) ciL_len hp, ?_⟩
    conv => whnf
    generalize hu : uniK m a.2 b.2 p = r at hul
    obtain ⟨M, fl⟩ := r
    simp only at hul ⊢
    cases fl with
    | false =>
     conv => whnf
     have := uniK_false (m := m) (xs := a.2) (ys := b.2) (k := p) (by rw [hu]) (p + 1) (by omega)
     rw [hu] at this
     exact ⟨j' - 1, by omega, p + 1, 20, _, _, _, wrap_id (by omega) (by omega), by omega, rfl, by rw [this], by rw [this], rfl⟩
    | true =>
     conv => whnf
     have hnx2 := uniK_succ (m := m) (xs := a.2) (ys := b.2) (k := p) (by rw [hu])
     rw [hu, getD_int hp, getD_int hpb] at hnx2
     simp only at hnx2
     refine ⟨by omega, rows_len ciL_len _, ?_⟩
     conv => whnf
     refine ⟨_, takeN_rp (k := p) ciL_len hpb, ?_⟩
     conv => whnf
     refine .inr (.inl ?_)
     conv => whnf
     refine ⟨by rw [rows_len ciL_len, hul], ?_⟩
     conv => whnf
     have hs := send_spec M a.2[p] b.2[p] hul
     unfold intsT at hs
     rw [sendP_len, hul] at hs
     refine ⟨_, _, _, hs, ?_⟩
     conv => whnf
     refine .inl ?_
     conv => whnf
     exact ⟨j' - 1, by omega, p + 1, 20, _, _, _, wrap_id (by omega) (by omega), by omega, rfl, by rw [hnx2], by rw [hnx2], rfl⟩
   ·conv => whnf
    have hpp : p = a.2.length := by omega
    subst hpp
    generalize hu : uniK m a.2 b.2 a.2.length = r at hul
    obtain ⟨x, ok⟩ := r
    simp only at hul ⊢
    have hst : stepM a b m = if ok then some x else none := by rw [stepM, hb3, hb4, hu]; rfl
    cases ok with
    | false =>
     conv => whnf
     exact hskip (by rw [hst]; rfl)
    | true =>
    conv => whnf
    refine ⟨_, rfl, ?_⟩
    conv => whnf
    rw [show IntKind.i64.wrap ((i : Int) + 1) = ((i + 1 : Nat) : Int) from wrap_id (by omega) (by omega)]
    refine .inr (.inr (.inl ⟨[2], rfl, ?_⟩))
    conv => whnf
    refine ⟨_, _, takeN_all (by rw [rows_len ciL_len, hul]), roVs_ci _, ?_⟩
    conv => whnf
    have hq := ih (i + 1) (d + 1) x (by omega) (by omega) hul
    unfold ints at hq
    rw [hul] at hq
    refine ⟨_, hq, _, rfl, .inl ?_⟩
    rw [optM_ro]
    rw [hst, if_pos rfl] at hnx
    simp only [Option.bind_some] at hnx
    generalize hso : srch t.2 (f.2.drop (i + 1)) x = o at hnx
    cases o with
    | some y =>
     have hyl := srch_len hso
     conv => whnf
     refine ⟨fun h0 => ?_, ?_⟩
     ·have h7 : y.length * 1 = 0 := (rows_len ciL_len y).symm.trans (congrArg List.length h0)
      omega
     conv => whnf
     rw [first_some hnx]
     rfl
    | none =>
     conv => whnf
     exact ⟨j - 1, by omega, k + 1, _, wrap_id (by omega) (by omega), by omega, hnx, rfl⟩
  ·conv => whnf
   have hkk : k = t.2.length := by omega
   rw [hkk, List.take_length] at hnone
   rw [hnone]
   exact .inl rfl
theorem snapF_self {g : List (Option Obj)} {f t : QueryT} {i0 i1 i2 : Nat} (h0 : obOf g i0 = some ⟨true, rQuery f⟩) (h1 : obOf g i1 = some ⟨true, rQuery t⟩) (h2 : obOf g i2 = some ⟨true, [.fn 225 [.ptr i0 0, .ptr i1 0, .ptr i2 0]]⟩) :
  ∀ n, snapF g (2 * n + 2) (.ptr i2 0) = selfM f t (snapF g 2 (.ptr i2 0)) n
 | 0 => rfl
 | n + 1 => by
  have ih := snapF_self h0 h1 h2 n
  rw [selfM, ← ih, show 2 * (n + 1) + 2 = (2 * n + 2) + 1 + 1 from by omega]
  have e1 : ∀ d, snapF g (d + 1) (.ptr i2 0) = .rp [snapF g d (.fn 225 [.ptr i0 0, .ptr i1 0, .ptr i2 0])] := fun d => by
   show (match obOf g i2 with
    | some ⟨true, cs⟩ => bif mapIs cs then V.any else V.rp ((cs.drop 0).map (snapF g d))
    | _ => .any) = _
   rw [h2]
   rfl
  have e2 : ∀ (d i : Nat) (q : QueryT), obOf g i = some ⟨true, rQuery q⟩ → snapF g (d + 2) (.ptr i 0) = .rp (rQuery q) := fun d i q hq => by
   show (match obOf g i with
    | some ⟨true, cs⟩ => bif mapIs cs then V.any else V.rp ((cs.drop 0).map (snapF g (d + 1)))
    | _ => .any) = _
   rw [hq]
   rfl
  rw [e1]
  show V.rp [.fn _ [snapF g (2 * n + 2) (.ptr i0 0), snapF g (2 * n + 2) (.ptr i1 0), snapF g (2 * n + 2) (.ptr i2 0)]] = _
  rw [e2 _ _ _ h0, e2 _ _ _ h1]
  rfl
def fillM (k : Nat) : List Int := List.replicate k (-1000) ++ List.replicate (20 - k) 0
theorem fillM_len {k : Nat} (h : k ≤ 20) : (fillM k).length = 20 := by simp [fillM]; omega
theorem fillM_set {k : Nat} (h : k < 20) : (fillM k).set k (-1000) = fillM (k + 1) := by
 rw [fillM, List.set_append_right _ _ (by simp)]
 obtain ⟨r, hr⟩ : ∃ r, 20 - k = r + 1 := ⟨19 - k, by omega⟩
 rw [hr, List.length_replicate, Nat.sub_self, List.replicate_succ, List.set_cons_zero, fillM, List.replicate_succ', show 20 - (k + 1) = r from by omega, List.append_assoc]
 rfl
def wMap : Option (List Int) → V
 | none => .tup [intsT [], cb false]
 | some y => .tup [ints y, cb true]
set_option maxHeartbeats 8000000 in
theorem mapping_spec (f t : QueryT) (hf : cQuery f ≤ 1048576) (ht : cQuery t ≤ 1048576) (hfh : fineT f.1) (hfa : fineA f.2) : Spec Tryz.prog 118 [vQuery f, vQuery t] (wMap (mapP f t)) := by
 have hf' := hf
 have ht' := ht
 unfold cQuery cAtomS at hf' ht'
 refine Spec_of mx Γ_ok Tryz.func118 rfl ?_
 conv => whnf
 unfold mapP
 generalize hb1 : ((f.1.length : Int) != (t.1.length : Int)) = b1
 cases b1 with
 | true =>
  conv => whnf
  exact ⟨rfl, rfl⟩
 | false =>
 have hlen : f.1.length = t.1.length := by
  have h9 : (f.1.length : Int) = t.1.length := (by simpa using hb1)
  omega
 rw [if_neg (by simp)]
 conv => whnf
 refine ⟨by omega, rows ciL (fillM 0), rfl, ?_⟩
 conv => whnf
 refine ⟨[(2,0),(3,0),(4,0),(5,0),(6,0),(22,0),(23,0)], fun j s => ∃ (k n : Nat) (e : Int) (r : List V), e = k ∧ j + k = 20 ∧ n = 20 ∧ r = rows ciL (fillM k) ∧
  s = ⟨57, [(2, .ptr 0 0), (3, .ptr 1 0), (4, cnil), (5, cb false), (6, .own 2 1 0 n n none), (22, ci 20), (23, ci e)], [some ⟨true, rQuery f⟩, some ⟨true, rQuery t⟩, some ⟨false, r⟩]⟩, 20, ⟨0, 20, 0, _, rfl, rfl, rfl, rfl, rfl⟩, ?_⟩
 rintro j s ⟨k, n, _, _, rfl, hj, rfl, rfl, rfl⟩
 conv => whnf
 split <;> rename_i h3
 all_goals simp only [decide_eq_true_eq, decide_eq_false_iff_not] at h3
 ·conv => whnf
  have hk : k < 20 := by omega
  refine ⟨by omega, ?_⟩
  conv => whnf
  have hkl : k < (fillM k).length := by rw [fillM_len (by omega)]; exact hk
  refine ⟨_, takeN_own (k := k) (d := 0) (xs := fillM k) ciL_len (Nat.zero_add _) hkl (Nat.le_refl _) rfl, _, (set_ciL hkl (-1000)).trans (congrArg (rows ciL) (fillM_set hk)), ?_⟩
  conv => whnf
  exact ⟨j - 1, by omega, k + 1, 20, _, _, wrap_id (by omega) (by omega), by omega, rfl, rfl, rfl⟩
 ·conv => whnf
  obtain rfl : k = 20 := by omega
  rw [show fillM 20 = emptyM from rfl]
  refine ⟨[(2,0),(3,0),(4,0),(5,0),(6,0),(31,0),(32,0),(33,0)], fun j s => ∃ (k n : Nat) (e : Int) (M : List Int) (r : List V), e = k ∧ j + k = f.1.length ∧ n = 20 ∧ uniK emptyM f.1 t.1 k = (M, true) ∧ r = rows ciL M ∧
   s = ⟨57, [(2, .ptr 0 0), (3, .ptr 1 0), (4, cnil), (5, cb false), (6, .own 2 1 0 n n none), (31, ints f.1), (32, ci f.1.length), (33, ci e)], [some ⟨true, rQuery f⟩, some ⟨true, rQuery t⟩, some ⟨false, r⟩]⟩, f.1.length, ⟨0, 20, 0, emptyM, _, rfl, rfl, rfl, rfl, rfl, rfl⟩, ?_⟩
  rintro j s ⟨k, n, _, M, _, rfl, hj, rfl, hu, rfl, rfl⟩
  have hul : M.length = 20 := by
   have := uniK_len emptyM f.1 t.1 k
   rw [hu, emptyM_len] at this
   exact this
  conv => whnf
  split <;> rename_i h4
  all_goals simp only [decide_eq_true_eq, decide_eq_false_iff_not] at h4
  ·conv => whnf
   have hk : k < f.1.length := by omega
   have hkb : k < t.1.length := by omega
   have hnx := uniK_succ (m := emptyM) (xs := f.1) (ys := t.1) (k := k) (by rw [hu])
   rw [hu, getD_int hk, getD_int hkb] at hnx
   simp only at hnx
   refine ⟨by omega, rows_len ciL_len _, ?_⟩
   conv => whnf
   refine ⟨_, takeN_rp (k := k) ciL_len hk, ?_⟩
   conv => whnf
   refine ⟨by omega, rows_len ciL_len _, ?_⟩
   conv => whnf
   refine ⟨_, takeN_rp (k := k) ciL_len hkb, ?_⟩
   conv => whnf
   refine .inr (.inl ?_)
   conv => whnf
   refine ⟨by rw [rows_len ciL_len, hul], ?_⟩
   conv => whnf
   have hs := send_spec M f.1[k] t.1[k] hul
   have hsl : (sendP M f.1[k] t.1[k]).1.length = 20 := by rw [sendP_len, hul]
   generalize hsp : sendP M f.1[k] t.1[k] = r at hs hnx hsl
   obtain ⟨M2, ok⟩ := r
   simp only at hsl
   unfold intsT at hs
   simp only at hs
   rw [hsl, hul] at hs
   refine ⟨_, _, _, hs, ?_⟩
   conv => whnf
   refine .inl ?_
   conv => whnf
   cases ok with
   | false =>
    conv => whnf
    have := uniK_false (m := emptyM) (xs := f.1) (ys := t.1) (k := k + 1) (by rw [hnx]) f.1.length (by omega)
    rw [this, hnx]
    exact ⟨rfl, rfl⟩
   | true =>
    conv => whnf
    exact ⟨j - 1, by omega, k + 1, 20, _, M2, _, wrap_id (by omega) (by omega), by omega, rfl, hnx, rfl, rfl⟩
  ·conv => whnf
   have hkk : k = f.1.length := by omega
   subst hkk
   rw [hu]
   simp only [if_true]
   refine .inr (.inr (.inl ⟨[0,1,2,3], rfl, ?_⟩))
   conv => whnf
   refine ⟨_, _, takeN_all (by rw [rows_len ciL_len, hul]), roVs_ci _, ?_⟩
   conv => whnf
   refine ⟨_, rfl, ?_⟩
   conv => whnf
   refine ⟨_, rfl, ?_⟩
   conv => whnf
   refine ⟨2 * (f.2.length + 1) + 2, _, snapF_self (f := f) (t := t) (i0 := 0) (i1 := 1) (i2 := 3) rfl rfl rfl (f.2.length + 1), ?_⟩
   conv => whnf
   generalize snapF _ 2 _ = z
   have hq := mapTry_spec f t z hf ht hfa f.2.length 0 (f.2.length + 1) M (by omega) (by omega) hul
   rw [List.drop_zero] at hq
   unfold ints at hq
   rw [hul] at hq
   refine ⟨_, hq, _, rfl, .inl ?_⟩
   rw [optM_ro]
   generalize hso : srch t.2 f.2 M = o
   cases o with
   | some y =>
    have hyl := srch_len hso
    conv => whnf
    refine ⟨fun h0 => ?_, ?_⟩
    ·have h7 : y.length * 1 = 0 := (rows_len ciL_len y).symm.trans (congrArg List.length h0)
     omega
    conv => whnf
    rfl
   | none =>
    conv => whnf
    exact ⟨rfl, rfl⟩
end Go.Proofs.YtcjdfeafcmfgpaaGreatD
