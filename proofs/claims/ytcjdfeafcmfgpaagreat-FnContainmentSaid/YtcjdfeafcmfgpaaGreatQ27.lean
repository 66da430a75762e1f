/- Part 27 of the proof of the statement FnContainment: contracts of functions and plain laws; no condition. -/
import Derived.Test.YtcjdfeafcmfgpaaGreatQ26
import Derived.Test.YtcjdfeafcmfgpaaGreatQ25
import Derived.Test.YtcjdfeafcmfgpaaGreatQ15
import Derived.Test.YtcjdfeafcmfgpaaGreatQ19
set_option linter.unusedVariables false
set_option linter.unusedSimpArgs false
set_option maxRecDepth 100000
namespace Go.Proofs.YtcjdfeafcmfgpaaGreatD
open Go Go.Proofs
theorem snapF_self {g : List (Option Obj)} {f t : QueryT} {i0 i1 i2 : Nat} (h0 : obOf g i0 = some ⟨true, rQuery f⟩) (h1 : obOf g i1 = some ⟨true, rQuery t⟩) (h2 : obOf g i2 = some ⟨true, [.fn 225 [.ptr i0 0, .ptr i1 0, .ptr i2 0]]⟩) :
    ∀ n, snapF g (2 * n + 2) (.ptr i2 0) = selfM f t (snapF g 2 (.ptr i2 0)) n
  | 0 => rfl
  | n + 1 => by
    have ih := snapF_self h0 h1 h2 n
    rw [selfM, ← ih, show 2 * (n + 1) + 2 = (2 * n + 2) + 1 + 1 from by omega]
    have e1 : ∀ d, snapF g (d + 1) (.ptr i2 0) = .rp [snapF g d (.fn 225 [.ptr i0 0, .ptr i1 0, .ptr i2 0])] := fun d => by
      show (match obOf g i2 with
        | some ⟨true, cs⟩ => bif mapIs cs then V.any else V.rp ((cs.drop 0).map (snapF g d))
        | _ => .any) = _
      rw [h2]
      rfl
    have e2 : ∀ (d i : Nat) (q : QueryT), obOf g i = some ⟨true, rQuery q⟩ → snapF g (d + 2) (.ptr i 0) = .rp (rQuery q) := fun d i q hq => by
      show (match obOf g i with
        | some ⟨true, cs⟩ => bif mapIs cs then V.any else V.rp ((cs.drop 0).map (snapF g (d + 1)))
        | _ => .any) = _
      rw [hq]
      rfl
    rw [e1]
    show V.rp [.fn _ [snapF g (2 * n + 2) (.ptr i0 0), snapF g (2 * n + 2) (.ptr i1 0), snapF g (2 * n + 2) (.ptr i2 0)]] = _
    rw [e2 _ _ _ h0, e2 _ _ _ h1]
    rfl
def fillM (k : Nat) : List Int := List.replicate k (-1000) ++ List.replicate (20 - k) 0
theorem fillM_len {k : Nat} (h : k ≤ 20) : (fillM k).length = 20 := by simp [fillM]; omega
theorem fillM_set {k : Nat} (h : k < 20) : (fillM k).set k (-1000) = fillM (k + 1) := by
  rw [fillM, List.set_append_right _ _ (by simp)]
  obtain ⟨r, hr⟩ : ∃ r, 20 - k = r + 1 := ⟨19 - k, by omega⟩
  rw [hr, List.length_replicate, Nat.sub_self, List.replicate_succ, List.set_cons_zero, fillM, List.replicate_succ', show 20 - (k + 1) = r from by omega, List.append_assoc]
  rfl
def wMap : Option (List Int) → V
  | none => .tup [intsT [], cb false]
  | some y => .tup [ints y, cb true]
set_option maxHeartbeats 8000000 in
theorem mapping_spec (f t : QueryT) (hf : cQuery f ≤ 1048576) (ht : cQuery t ≤ 1048576) (hfh : fineT f.1) (hfa : fineA f.2) : Spec Tryz.prog 118 [vQuery f, vQuery t] (wMap (mapP f t)) := by
  have hf' := hf
  have ht' := ht
  unfold cQuery cAtomS at hf' ht'
  refine Spec_of mx Γ_ok Tryz.func118 rfl ?_
  conv => whnf
  unfold mapP
  generalize hb1 : ((f.1.length : Int) != (t.1.length : Int)) = b1
  cases b1 with
  | true =>
    conv => whnf
    exact ⟨rfl, rfl⟩
  | false =>
  have hlen : f.1.length = t.1.length := by
    have h9 : (f.1.length : Int) = t.1.length := (by simpa using hb1)
    omega
  rw [if_neg (by simp)]
  conv => whnf
  refine ⟨by omega, rows ciL (fillM 0), rfl, ?_⟩
  conv => whnf
  refine ⟨[(2,0),(3,0),(4,0),(5,0),(6,0),(22,0),(23,0)], fun j s => ∃ (k n : Nat) (e : Int) (r : List V), e = k ∧ j + k = 20 ∧ n = 20 ∧ r = rows ciL (fillM k) ∧
    s = ⟨57, [(2, .ptr 0 0), (3, .ptr 1 0), (4, cnil), (5, cb false), (6, .own 2 1 0 n n none), (22, ci 20), (23, ci e)], [some ⟨true, rQuery f⟩, some ⟨true, rQuery t⟩, some ⟨false, r⟩]⟩, 20, ⟨0, 20, 0, _, rfl, rfl, rfl, rfl, rfl⟩, ?_⟩
  rintro j s ⟨k, n, _, _, rfl, hj, rfl, rfl, rfl⟩
  conv => whnf
  split <;> rename_i h3
  all_goals simp only [decide_eq_true_eq, decide_eq_false_iff_not] at h3
  · conv => whnf
    have hk : k < 20 := by omega
    refine ⟨by omega, ?_⟩
    conv => whnf
    have hkl : k < (fillM k).length := by rw [fillM_len (by omega)]; exact hk
    refine ⟨_, takeN_own (k := k) (d := 0) (xs := fillM k) ciL_len (Nat.zero_add _) hkl (Nat.le_refl _) rfl, _, (set_ciL hkl (-1000)).trans (congrArg (rows ciL) (fillM_set hk)), ?_⟩
    conv => whnf
    exact ⟨j - 1, by omega, k + 1, 20, _, _, wrap_id (by omega) (by omega), by omega, rfl, rfl, rfl⟩
  · conv => whnf
    obtain rfl : k = 20 := by omega
    rw [show fillM 20 = emptyM from rfl]
    refine ⟨[(2,0),(3,0),(4,0),(5,0),(6,0),(31,0),(32,0),(33,0)], fun j s => ∃ (k n : Nat) (e : Int) (M : List Int) (r : List V), e = k ∧ j + k = f.1.length ∧ n = 20 ∧ uniK emptyM f.1 t.1 k = (M, true) ∧ r = rows ciL M ∧
      s = ⟨57, [(2, .ptr 0 0), (3, .ptr 1 0), (4, cnil), (5, cb false), (6, .own 2 1 0 n n none), (31, ints f.1), (32, ci f.1.length), (33, ci e)], [some ⟨true, rQuery f⟩, some ⟨true, rQuery t⟩, some ⟨false, r⟩]⟩, f.1.length, ⟨0, 20, 0, emptyM, _, rfl, rfl, rfl, rfl, rfl, rfl⟩, ?_⟩
    rintro j s ⟨k, n, _, M, _, rfl, hj, rfl, hu, rfl, rfl⟩
    have hul : M.length = 20 := by
      have := uniK_len emptyM f.1 t.1 k
      rw [hu, emptyM_len] at this
      exact this
    conv => whnf
    split <;> rename_i h4
    all_goals simp only [decide_eq_true_eq, decide_eq_false_iff_not] at h4
    · conv => whnf
      have hk : k < f.1.length := by omega
      have hkb : k < t.1.length := by omega
      have hnx := uniK_succ (m := emptyM) (xs := f.1) (ys := t.1) (k := k) (by rw [hu])
      rw [hu, getD_int hk, getD_int hkb] at hnx
      simp only at hnx
      refine ⟨by omega, rows_len ciL_len _, ?_⟩
      conv => whnf
      refine ⟨_, takeN_rp (k := k) ciL_len hk, ?_⟩
      conv => whnf
      refine ⟨by omega, rows_len ciL_len _, ?_⟩
      conv => whnf
      refine ⟨_, takeN_rp (k := k) ciL_len hkb, ?_⟩
      conv => whnf
      refine .inr (.inl ?_)
      conv => whnf
      refine ⟨by rw [rows_len ciL_len, hul], ?_⟩
      conv => whnf
      have hs := send_spec M f.1[k] t.1[k] hul
      have hsl : (sendP M f.1[k] t.1[k]).1.length = 20 := by rw [sendP_len, hul]
      generalize hsp : sendP M f.1[k] t.1[k] = r at hs hnx hsl
      obtain ⟨M2, ok⟩ := r
      simp only at hsl
      unfold intsT at hs
      simp only at hs
      rw [hsl, hul] at hs
      refine ⟨_, _, _, hs, ?_⟩
      conv => whnf
      refine .inl ?_
      conv => whnf
      cases ok with
      | false =>
        conv => whnf
        have := uniK_false (m := emptyM) (xs := f.1) (ys := t.1) (k := k + 1) (by rw [hnx]) f.1.length (by omega)
        rw [this, hnx]
        exact ⟨rfl, rfl⟩
      | true =>
        conv => whnf
        exact ⟨j - 1, by omega, k + 1, 20, _, M2, _, wrap_id (by omega) (by omega), by omega, rfl, hnx, rfl, rfl⟩
    · conv => whnf
      have hkk : k = f.1.length := by omega
      subst hkk
      rw [hu]
      simp only [if_true]
      refine .inr (.inr (.inl ⟨[0,1,2,3], rfl, ?_⟩))
      conv => whnf
      refine ⟨_, _, takeN_all (by rw [rows_len ciL_len, hul]), roVs_ci _, ?_⟩
      conv => whnf
      refine ⟨_, rfl, ?_⟩
      conv => whnf
      refine ⟨_, rfl, ?_⟩
      conv => whnf
      refine ⟨2 * (f.2.length + 1) + 2, _, snapF_self (f := f) (t := t) (i0 := 0) (i1 := 1) (i2 := 3) rfl rfl rfl (f.2.length + 1), ?_⟩
      conv => whnf
      generalize snapF _ 2 _ = z
      have hq := mapTry_spec f t z hf ht hfa f.2.length 0 (f.2.length + 1) M (by omega) (by omega) hul
      rw [List.drop_zero] at hq
      unfold ints at hq
      rw [hul] at hq
      refine ⟨_, hq, _, rfl, .inl ?_⟩
      rw [optM_ro]
      generalize hso : srch t.2 f.2 M = o
      cases o with
      | some y =>
        have hyl := srch_len hso
        conv => whnf
        refine ⟨fun h0 => ?_, ?_⟩
        · have h7 : y.length * 1 = 0 := (rows_len ciL_len y).symm.trans (congrArg List.length h0)
          omega
        conv => whnf
        rfl
      | none =>
        conv => whnf
        exact ⟨rfl, rfl⟩
theorem implFindMapping_spec (s : List Int) (f t : QueryT) (hs : cSchema s ≤ 1048576) (hf : cQuery f ≤ 1048576) (ht : cQuery t ≤ 1048576) : Spec Tryz.prog 105 [vSchema s, vQuery f, vQuery t] (if isQuery s f && isQuery s t then roV (wMap (mapP f t)) else wMap none) := by
  refine Spec_of mx Γ_ok Tryz.func105 rfl ?_
  conv => whnf
  refine ⟨_, implIsQuery_spec s f hs hf, .inl rfl, .inl ?_⟩
  conv => whnf
  generalize hb1 : isQuery s f = b1
  cases b1 with
  | false =>
    conv => whnf
    exact ⟨rfl, rfl⟩
  | true =>
  conv => whnf
  refine ⟨_, implIsQuery_spec s t hs ht, .inl rfl, .inl ?_⟩
  conv => whnf
  generalize hb2 : isQuery s t = b2
  cases b2 with
  | false =>
    conv => whnf
    exact ⟨rfl, rfl⟩
  | true =>
  conv => whnf
  obtain ⟨h1, h2⟩ := isQuery_fine hb1
  rw [Bool.true_and, if_pos rfl]
  refine ⟨_, mapping_spec f t hf ht h1 h2, .inl rfl, .inl ?_⟩
  generalize mapP f t = o
  cases o with
  | none =>
    conv => whnf
    rfl
  | some y =>
    simp only [wMap, roV, roVs, ints_ro, ci_ro]
    conv => whnf
    rfl
theorem implIsContained_spec (s : List Int) (a b : QueryT) (hs : cSchema s ≤ 1048576) (ha : cQuery a ≤ 1048576) (hb : cQuery b ≤ 1048576) : Spec Tryz.prog 14 [vSchema s, vQuery a, vQuery b] (cb (contP s a b)) := by
  refine Spec_of mx Γ_ok Tryz.func14 rfl ?_
  conv => whnf
  refine ⟨_, implFindMapping_spec s b a hs hb ha, .inl rfl, .inl ?_⟩
  conv => whnf
  unfold contP
  generalize isQuery s b = b1
  generalize isQuery s a = b2
  generalize mapP b a = o
  cases b1 <;> cases b2 <;> cases o
  all_goals
    conv => whnf
    rfl
theorem implIsEquivalent_spec (s : List Int) (a b : QueryT) (hs : cSchema s ≤ 1048576) (ha : cQuery a ≤ 1048576) (hb : cQuery b ≤ 1048576) : Spec Tryz.prog 16 [vSchema s, vQuery a, vQuery b] (cb (contP s a b && contP s b a)) := by
  refine Spec_of mx Γ_ok Tryz.func16 rfl ?_
  conv => whnf
  refine ⟨_, implIsContained_spec s a b hs ha hb, .inl rfl, .inl ?_⟩
  conv => whnf
  generalize contP s a b = b1
  cases b1 with
  | false =>
    conv => whnf
    rfl
  | true =>
    conv => whnf
    refine ⟨_, implIsContained_spec s b a hs hb ha, .inl rfl, .inl ?_⟩
    conv => whnf
    rfl
end Go.Proofs.YtcjdfeafcmfgpaaGreatD
set_option linter.unusedVariables false
set_option linter.unusedSimpArgs false
set_option maxRecDepth 100000
namespace Go.Proofs.YtcjdfeafcmfgpaaGreatD
open Go Go.Proofs
def cexOk (s : List Int) (a b : QueryT) : Bool := isQuery s a && isQuery s b && decide (a.1.length = b.1.length) && !contP s a b
def pCounterExample (s : List Int) (a b : QueryT) : List FactC × List Int × Bool := if cexOk s a b then ((pFreeze a).1, (pFreeze a).2, true) else ([], [], false)
theorem implCounterExample_spec (s : List Int) (a b : QueryT) (hs : cSchema s ≤ 1048576) (ha : cQuery a ≤ 1048576) (hb : cQuery b ≤ 1048576) : Spec Tryz.prog 20 [vSchema s, vQuery a, vQuery b] (.tup [wFactS (pCounterExample s a b).1, intsT (pCounterExample s a b).2.1, cb (pCounterExample s a b).2.2]) := by
  refine Spec_of mx Γ_ok Tryz.func20 rfl ?_
  conv => whnf
  refine ⟨_, implIsQuery_spec s a hs ha, .inl rfl, .inl ?_⟩
  conv => whnf
  unfold pCounterExample cexOk
  generalize isQuery s a = b1
  cases b1 with
  | false =>
    conv => whnf
    exact ⟨rfl, rfl, rfl⟩
  | true =>
    conv => whnf
    refine ⟨_, implIsQuery_spec s b hs hb, .inl rfl, .inl ?_⟩
    conv => whnf
    generalize isQuery s b = b2
    cases b2 with
    | false =>
      conv => whnf
      exact ⟨rfl, rfl, rfl⟩
    | true =>
      conv => whnf
      have he : ((a.1.length : Int) != (b.1.length : Int)) = !decide (a.1.length = b.1.length) := by
        rw [Bool.eq_iff_iff]; simp; omega
      rw [he]
      generalize decide (a.1.length = b.1.length) = b3
      cases b3 with
      | false =>
        conv => whnf
        exact ⟨rfl, rfl, rfl⟩
      | true =>
        conv => whnf
        refine ⟨_, implIsContained_spec s a b hs ha hb, .inl rfl, .inl ?_⟩
        conv => whnf
        generalize contP s a b = b4
        cases b4 with
        | true =>
          conv => whnf
          exact ⟨rfl, rfl, rfl⟩
        | false =>
          conv => whnf
          refine ⟨_, implFreeze_spec a ha, .inl rfl, .inr ?_⟩
          conv => whnf
          refine ⟨by rw [rows_len tFact_len], by rw [rows_len ciL_len], rfl⟩
end Go.Proofs.YtcjdfeafcmfgpaaGreatD
set_option linter.unusedVariables false
set_option linter.unusedSimpArgs false
set_option maxRecDepth 100000
namespace Go.Proofs.YtcjdfeafcmfgpaaGreatD
open Go Go.Proofs
def val (v : Int → Int) (t : Int) : Int := if isVar t then v t else -1 - t
def valA (v : Int → Int) (a : FactC) : FactC := (a.1, a.2.map (val v))
def Sat (v : Int → Int) (db body : List FactC) : Prop := ∀ a ∈ body, valA v a ∈ db
def Under (b : Bnd) (v : Int → Int) : Prop := ∀ (k : Nat) (u : Int), b k = some u → v (k : Int) = u
def fnOf (b : Bnd) (t : Int) : Int := ba b t.toNat
def ExtB (b b2 : Bnd) : Prop := ∀ (k : Nat) (u : Int), b k = some u → b2 k = some u
theorem term_rng {t : Int} (h : isTerm t = true) : -80 ≤ t ∧ t ≤ 19 := by simpa [isTerm, inR] using h
theorem var_iff {t : Int} (h : isTerm t = true) : isVar t = true ↔ 0 ≤ t := by
  have := term_rng h
  simp only [isVar, inR, Bool.and_eq_true, decide_eq_true_eq]
  omega
theorem val_neg {v : Int → Int} {t : Int} (h : t < 0) : val v t = -1 - t := by
  unfold val
  rw [if_neg (by simp [isVar, inR]; omega)]
theorem val_pos {v : Int → Int} {t : Int} (ht : isTerm t = true) (h : ¬ t < 0) : val v t = v t := by
  unfold val
  rw [if_pos ((var_iff ht).2 (by omega))]
theorem bindGo_ext : ∀ (ts vs : List Int) (b b2 : Bnd), bindGo ts vs b = (b2, true) → ExtB b b2
  | [], vs, b, b2, h => by
    have : b = b2 := by cases vs <;> simpa [bindGo] using h
    subst this
    exact fun _ _ h => h
  | t :: ts, [], b, b2, h => by
    have : b = b2 := by simpa [bindGo] using h
    subst this
    exact fun _ _ h => h
  | t :: ts, x :: vs, b, b2, h => by
    simp only [bindGo] at h
    split at h
    · split at h
      · exact bindGo_ext ts vs b b2 h
      · cases h
    · split at h
      · rename_i hb
        have ih := bindGo_ext ts vs _ b2 h
        intro k u hk
        refine ih k u ?_
        simp only [bset]
        split
        · rename_i he; subst he; rw [hb] at hk; cases hk
        · exact hk
      · split at h
        · exact bindGo_ext ts vs b b2 h
        · cases h
theorem bindGo_sound : ∀ (ts vs : List Int) (b b2 : Bnd), ts.length = vs.length → ts.all isTerm = true → bindGo ts vs b = (b2, true) → ts.map (val (fnOf b2)) = vs ∧ ∀ t ∈ ts, 0 ≤ t → (b2 t.toNat).isSome = true
  | [], vs, b, b2, hl, _, h => by
    have : vs = [] := List.length_eq_zero_iff.1 (by simpa using hl.symm)
    subst this
    exact ⟨rfl, fun t ht => by cases ht⟩
  | t :: ts, [], b, b2, hl, _, h => by simp at hl
  | t :: ts, x :: vs, b, b2, hl, ha, h => by
    have hl' : ts.length = vs.length := by simpa using hl
    simp only [List.all_cons, Bool.and_eq_true] at ha
    simp only [bindGo] at h
    split at h
    · rename_i hneg
      split at h
      · rename_i he
        obtain ⟨i1, i2⟩ := bindGo_sound ts vs b b2 hl' ha.2 h
        refine ⟨by rw [List.map_cons, i1, val_neg hneg, he], fun u hu h0 => ?_⟩
        rcases List.mem_cons.1 hu with rfl | hu
        · omega
        · exact i2 u hu h0
      · cases h
    · rename_i hneg
      have key : ∀ b1 : Bnd, b1 t.toNat = some x → bindGo ts vs b1 = (b2, true) → (t :: ts).map (val (fnOf b2)) = x :: vs ∧ ∀ u ∈ t :: ts, 0 ≤ u → (b2 u.toNat).isSome = true := by
        intro b1 hb1 hb
        obtain ⟨i1, i2⟩ := bindGo_sound ts vs b1 b2 hl' ha.2 hb
        have h2 := bindGo_ext ts vs b1 b2 hb _ _ hb1
        refine ⟨?_, fun u hu h0 => ?_⟩
        · rw [List.map_cons, i1, val_pos ha.1 hneg]
          unfold fnOf ba
          rw [h2]
          rfl
        · rcases List.mem_cons.1 hu with rfl | hu
          · rw [h2]; rfl
          · exact i2 u hu h0
      split at h
      · rename_i hb
        exact key _ (by simp [bset]) h
      · rename_i u hb
        split at h
        · rename_i he
          subst he
          exact key b hb h
        · cases h
theorem bindGo_complete {v : Int → Int} : ∀ (ts vs : List Int) (b : Bnd), Under b v → ts.all isTerm = true → ts.map (val v) = vs → (bindGo ts vs b).2 = true ∧ Under (bindGo ts vs b).1 v
  | [], vs, b, hu, _, h => by
    subst h
    exact ⟨rfl, hu⟩
  | t :: ts, vs, b, hu, ha, h => by
    subst h
    simp only [List.all_cons, Bool.and_eq_true] at ha
    simp only [List.map_cons, bindGo]
    split
    · rename_i hneg
      rw [if_pos (val_neg hneg).symm]
      exact bindGo_complete ts _ b hu ha.2 rfl
    · rename_i hneg
      have hr := term_rng ha.1
      have ht : ((t.toNat : Nat) : Int) = t := by omega
      rw [val_pos ha.1 hneg]
      cases hb : b t.toNat with
      | none =>
        refine bindGo_complete ts _ _ (fun k u hk => ?_) ha.2 rfl
        simp only [bset] at hk
        split at hk
        · rename_i he
          subst he
          cases hk
          rw [ht]
        · exact hu k u hk
      | some u =>
        have := hu _ _ hb
        rw [ht] at this
        simp only
        rw [if_pos this.symm]
        exact bindGo_complete ts _ b hu ha.2 rfl
theorem val_ext {b b2 : Bnd} (h : ExtB b b2) {t : Int} (hb : 0 ≤ t → (b t.toNat).isSome = true) : val (fnOf b2) t = val (fnOf b) t := by
  unfold val
  cases hv : isVar t with
  | false => rfl
  | true =>
    have h0 : 0 ≤ t := by
      simp only [isVar, inR, Bool.and_eq_true, decide_eq_true_eq] at hv
      exact hv.1
    obtain ⟨u, hu⟩ := Option.isSome_iff_exists.1 (hb h0)
    simp only [if_true]
    unfold fnOf ba
    rw [hu, h _ _ hu]
theorem visitL_sound (db : List FactC) : ∀ (body : List FactC) (b b2 : Bnd), (∀ a ∈ body, a.2.all isTerm = true) → b2 ∈ visitL db body b → ExtB b b2 ∧ Sat (fnOf b2) db body ∧ ∀ a ∈ body, ∀ t ∈ a.2, 0 ≤ t → (b2 t.toNat).isSome = true
  | [], b, b2, _, h => by
    have : b2 = b := by simpa [visitL] using h
    subst this
    exact ⟨fun _ _ h => h, (fun a ha => by cases ha), (fun a ha => by cases ha)⟩
  | a :: r, b, b2, ht, h => by
    simp only [visitL, List.mem_flatMap] at h
    obtain ⟨f, hf, h⟩ := h
    split at h
    · rename_i hm
      obtain ⟨i1, i2, i3⟩ := visitL_sound db r _ b2 (fun c hc => ht c (by simp [hc])) h
      unfold mch at hm h i1
      by_cases hc : a.1 = f.1 ∧ a.2.length = f.2.length
      · rw [if_pos hc] at hm i1
        have hb : bindGo a.2 f.2 b = ((bindGo a.2 f.2 b).1, true) := Prod.ext rfl hm
        have e1 := bindGo_ext _ _ _ _ hb
        obtain ⟨s1, s2⟩ := bindGo_sound _ _ _ _ hc.2 (ht a (by simp)) hb
        refine ⟨fun k u hk => i1 k u (e1 k u hk), fun c hcm => ?_, fun c hcm t hct h0 => ?_⟩
        · rcases List.mem_cons.1 hcm with rfl | hcm
          · have : valA (fnOf b2) c = f := by
              refine Prod.ext hc.1 ?_
              show c.2.map (val (fnOf b2)) = f.2
              rw [← s1]
              exact List.map_congr_left fun t ht' => val_ext i1 (s2 t ht')
            rw [this]
            exact hf
          · exact i2 c hcm
        · rcases List.mem_cons.1 hcm with rfl | hcm
          · obtain ⟨u, hu⟩ := Option.isSome_iff_exists.1 (s2 t hct h0)
            rw [i1 _ _ hu]
            rfl
          · exact i3 c hcm t hct h0
      · rw [if_neg hc] at hm
        cases hm
    · cases h
theorem visitL_complete {v : Int → Int} (db : List FactC) : ∀ (body : List FactC) (b : Bnd), (∀ a ∈ body, a.2.all isTerm = true) → Under b v → Sat v db body → ∃ b2 ∈ visitL db body b, Under b2 v
  | [], b, _, hu, _ => ⟨b, by simp [visitL], hu⟩
  | a :: r, b, ht, hu, hs => by
    obtain ⟨c1, c2⟩ := bindGo_complete a.2 (a.2.map (val v)) b hu (ht a (by simp)) rfl
    have hm : mch b a (valA v a) = bindGo a.2 (a.2.map (val v)) b := by
      unfold mch valA
      rw [if_pos ⟨rfl, by simp⟩]
    obtain ⟨b2, h1, h2⟩ := visitL_complete db r (bindGo a.2 (a.2.map (val v)) b).1 (fun c hc => ht c (by simp [hc])) c2 (fun c hc => hs c (by simp [hc]))
    refine ⟨b2, ?_, h2⟩
    simp only [visitL, List.mem_flatMap]
    refine ⟨valA v a, hs a (by simp), ?_⟩
    rw [hm, if_pos c1]
    exact h1
theorem under_val {b : Bnd} {v : Int → Int} (hu : Under b v) {t : Int} (hb : isVar t = true → (b t.toNat).isSome = true) : val (fnOf b) t = val v t := by
  unfold val
  cases hv : isVar t with
  | false => rfl
  | true =>
    obtain ⟨u, h⟩ := Option.isSome_iff_exists.1 (hb hv)
    have h0 : 0 ≤ t := by
      simp only [isVar, inR, Bool.and_eq_true, decide_eq_true_eq] at hv
      exact hv.1
    have := hu _ _ h
    simp only [if_true]
    unfold fnOf ba
    rw [h]
    have ht : ((t.toNat : Nat) : Int) = t := by omega
    rw [ht] at this
    exact this.symm
end Go.Proofs.YtcjdfeafcmfgpaaGreatD
set_option linter.unusedVariables false
set_option linter.unusedSimpArgs false
set_option maxRecDepth 100000
namespace Go.Proofs.YtcjdfeafcmfgpaaGreatD
open Go Go.Proofs
theorem valOf_val (b : Bnd) {t : Int} (ht : isTerm t = true) : valOf b t = val (fnOf b) t := by
  have hr := term_rng ht
  unfold valOf val fnOf
  cases hv : isVar t with
  | true => rfl
  | false =>
    have h0 : ¬ 0 ≤ t := fun h => by rw [(var_iff ht).2 h] at hv; cases hv
    simp only [Bool.false_eq_true, if_false]
    unfold constOf
    rw [if_pos (by simp [inR]; omega)]
theorem head_bound {s : List Int} {q : QueryE} {db : List FactC} (h : isQuery s q = true) {b : Bnd} (hb : b ∈ visitL db q.2 bNone) : ∀ t ∈ q.1, isVar t = true → (b t.toNat).isSome = true := by
  intro t ht hv
  obtain ⟨t1, t2, t3⟩ := isQuery_terms h
  simp only [isQuery, fineQ, Bool.and_eq_true] at h
  have hs := List.all_eq_true.1 h.2.2.2.2 t ht
  have hoc : occurs q t = true := by simpa [safeV, hv] using hs
  obtain ⟨a, ha, hx⟩ := List.any_eq_true.1 hoc
  obtain ⟨u, hu, he⟩ := List.any_eq_true.1 hx
  have hut : u = t := by
    have := he
    simp [eqV] at this
    first | exact this.symm | exact this
  subst hut
  exact (visitL_ok db q.2 bNone b hb).2 a ha u hu ((var_iff (List.all_eq_true.1 t1 u ht)).1 hv)
theorem under_none (v : Int → Int) : Under bNone v := fun k u h => by cases h
theorem ans_iff {s : List Int} {q : QueryE} {db : List FactC} (hq : isQuery s q = true) (hd : isDb s db = true) (x : List Int) : x ∈ answersS s q db ↔ ∃ v : Int → Int, Sat v db q.2 ∧ x = q.1.map (val v) := by
  obtain ⟨t1, t2, t3⟩ := isQuery_terms hq
  unfold answersS
  rw [hq, hd, Bool.and_self, if_pos rfl, (sortL_ok _).2 x]
  simp only [List.mem_map]
  constructor
  · rintro ⟨w, hw, rfl⟩
    obtain ⟨b, hb, rfl⟩ := (rawP_ok q db).1 w hw
    refine ⟨fnOf b, (visitL_sound db q.2 bNone b t2 hb).2.1, ?_⟩
    rw [safe_bound hq hb]
    exact List.map_congr_left fun t ht => valOf_val b (List.all_eq_true.1 t1 t ht)
  · rintro ⟨v, hv, rfl⟩
    obtain ⟨b, hb, hu⟩ := visitL_complete db q.2 bNone t2 (under_none v) hv
    refine ⟨sV b, (sortL_ok _).2 _ |>.2 (List.mem_map.2 ⟨b, hb, rfl⟩), ?_⟩
    rw [safe_bound hq hb]
    refine List.map_congr_left fun t ht => ?_
    rw [valOf_val b (List.all_eq_true.1 t1 t ht)]
    exact under_val hu (head_bound hq hb t ht)
end Go.Proofs.YtcjdfeafcmfgpaaGreatD
