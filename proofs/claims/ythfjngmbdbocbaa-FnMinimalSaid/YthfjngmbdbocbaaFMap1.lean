/- How a mapping is extended. -/
import Derived.Test.YthfjngmbdbocbaaFQueryOk2
import Derived.Test.YthfjngmbdbocbaaFCopyQ
set_option linter.unusedVariables false
set_option linter.unusedSimpArgs false
set_option maxRecDepth 100000
namespace Go.Proofs.YthfjngmbdbocbaaD
open Go Go.Proofs

def unm : Int := -1000
/-- One term is sent to another one. -/
def sendP (m : List Int) (t u : Int) : List Int × Bool :=
  if isVar t then (let m' := if m.getD t.toNat 0 == unm then m.set t.toNat u else m; (m', m'.getD t.toNat 0 == u)) else (m, t == u)
/-- The first terms of a list are sent to those of another one. -/
def uniK (m xs ys : List Int) : Nat → List Int × Bool
  | 0 => (m, true)
  | k + 1 => let r := uniK m xs ys k; if r.2 then sendP r.1 (xs.getD k 0) (ys.getD k 0) else r
theorem sendP_len (m : List Int) (t u : Int) : (sendP m t u).1.length = m.length := by
  unfold sendP
  split
  · dsimp only
    split <;> simp
  · rfl
theorem uniK_len (m xs ys : List Int) : ∀ k, (uniK m xs ys k).1.length = m.length
  | 0 => rfl
  | k + 1 => by
    simp only [uniK]
    split
    · rw [sendP_len, uniK_len m xs ys k]
    · exact uniK_len m xs ys k
theorem uniK_false {m xs ys : List Int} {k : Nat} (h : (uniK m xs ys k).2 = false) : ∀ j, k ≤ j → uniK m xs ys j = uniK m xs ys k
  | j, hj => by
    induction j with
    | zero => rw [show k = 0 from by omega]
    | succ j ih =>
      rcases Nat.lt_or_ge j k with h1 | h1
      · rw [show j + 1 = k from by omega]
      · simp only [uniK]
        rw [ih h1, if_neg (by rw [h]; simp)]
theorem uniK_succ {m xs ys : List Int} {k : Nat} (h : (uniK m xs ys k).2 = true) : uniK m xs ys (k + 1) = sendP (uniK m xs ys k).1 (xs.getD k 0) (ys.getD k 0) := by
  simp only [uniK]
  rw [if_pos h]
theorem getD_int {l : List Int} {k : Nat} (hk : k < l.length) : l.getD k 0 = l[k] := by simp [List.getD_eq_getElem?_getD, hk]
theorem isVar_nat {t : Int} (h : isVar t = true) : ∃ q : Nat, t = q ∧ q < 20 := by
  have : 0 ≤ t ∧ t ≤ 19 := by simpa [isVar, inR] using h
  exact ⟨t.toNat, by omega, by omega⟩
theorem set_ciL {m : List Int} {q : Nat} (hq : q < m.length) (u : Int) : setC (rows ciL m) (0 + q * 1) [ci u] = rows ciL (m.set q u) :=
  (congrArg (fun o => setC (rows ciL m) o (ciL u)) (Nat.zero_add _)).trans (setC_rows ciL_len (by omega) hq _)
set_option maxHeartbeats 1000000 in
theorem send_spec (m : List Int) (t u : Int) (hm : m.length = 20) : SpecR Try.prog 151 [intsT m, ci t, ci u] (cb (sendP m t u).2) [intsT (sendP m t u).1, ci t, ci u] := by
  refine SpecL_of mx Γ_ok 3 Try.func151 rfl rfl (by omega) ?_
  conv => whnf
  refine ⟨_, implIsVar_spec t, .inl rfl, .inl ?_⟩
  conv => whnf
  unfold sendP
  generalize hv : isVar t = b1
  cases b1 with
  | false =>
    conv => whnf
    refine ⟨rfl, by rw [rows_len ciL_len], ?_⟩
    rfl
  | true =>
  obtain ⟨q, rfl, hq⟩ := isVar_nat hv
  have hql : q < m.length := by omega
  conv => whnf
  refine ⟨by omega, ?_⟩
  conv => whnf
  refine ⟨_, takeN_own (k := q) (d := 0) (xs := m) ciL_len (Nat.zero_add _) hql (Nat.le_refl _) rfl, ?_⟩
  conv => whnf
  rw [if_pos rfl]
  simp only [Int.toNat_natCast, getD_int hql]
  rw [show unm = -1000 from rfl]
  generalize hb2 : (m[q] == (-1000 : Int)) = b2
  cases b2 with
  | true =>
    conv => whnf
    refine ⟨by omega, ?_⟩
    conv => whnf
    refine ⟨_, takeN_own (k := q) (d := 0) (xs := m) ciL_len (Nat.zero_add _) hql (Nat.le_refl _) rfl, _, set_ciL hql u, ?_⟩
    conv => whnf
    refine ⟨by omega, ?_⟩
    conv => whnf
    have hql2 : q < (m.set q u).length := by simpa using hql
    refine ⟨_, takeN_own (k := q) (d := 0) (xs := m.set q u) ciL_len (Nat.zero_add _) hql2 (Nat.le_refl _) rfl, ?_⟩
    conv => whnf
    simp only [if_true, getD_int hql2]
    refine ⟨rfl, by rw [rows_len ciL_len, List.length_set], ?_⟩
    unfold intsT
    rw [List.length_set]
    rfl
  | false =>
    conv => whnf
    refine ⟨by omega, ?_⟩
    conv => whnf
    refine ⟨_, takeN_own (k := q) (d := 0) (xs := m) ciL_len (Nat.zero_add _) hql (Nat.le_refl _) rfl, ?_⟩
    conv => whnf
    simp only [if_neg (show ¬ (false = true) from by simp), getD_int hql]
    refine ⟨rfl, by rw [rows_len ciL_len], ?_⟩
    rfl
def fineT (l : List Int) : Prop := ∀ t ∈ l, t < 20
set_option maxHeartbeats 2000000 in
theorem l7Unify_spec (xs ys m : List Int) (hm : m.length = 20) (hl : xs.length = ys.length) (hs : xs.length ≤ 1048576) (hf : fineT xs) : Spec Try.prog 153 [ints xs, ints ys, ints m] (.tup [intsT (uniK m xs ys xs.length).1, cb (uniK m xs ys xs.length).2]) := by
  refine Spec_of mx Γ_ok Try.func153 rfl ?_
  conv => whnf
  refine ⟨rows_len ciL_len _, solid_ci _, ?_⟩
  conv => whnf
  refine ⟨by omega, rfl, _, app_ci [] m, ?_⟩
  conv => whnf
  refine ⟨[(0,0),(1,0),(6,0),(7,0),(8,0),(9,0)], fun j s => ∃ (k n : Nat) (e : Int) (M : List Int) (r : List V), e = k ∧ j + k = xs.length ∧ n = 20 ∧ uniK m xs ys k = (M, true) ∧ r = rows ciL M ∧
    s = ⟨59, [(0, ints xs), (1, ints ys), (6, cnil), (7, cb false), (8, .own 0 1 0 n n none), (9, ci e)], [some ⟨false, r⟩]⟩, xs.length, ⟨0, 0 + m.length, 0, m, _, rfl, rfl, by omega, rfl, by rw [List.nil_append], rfl⟩, ?_⟩
  rintro j s ⟨k, n, _, M, _, rfl, hj, rfl, hu, rfl, rfl⟩
  have hM : M.length = 20 := by have := uniK_len m xs ys k; rw [hu] at this; simpa [hm] using this
  conv => whnf
  split <;> rename_i h3
  all_goals simp only [decide_eq_true_eq, decide_eq_false_iff_not] at h3
  · conv => whnf
    have hk : k < xs.length := by omega
    have hkb : k < ys.length := by omega
    have hlt := hf xs[k] (List.getElem_mem hk)
    have hnx := uniK_succ (m := m) (xs := xs) (ys := ys) (k := k) (by rw [hu])
    rw [hu, getD_int hk, getD_int hkb] at hnx
    simp only at hnx
    refine ⟨by omega, rows_len ciL_len _, ?_⟩
    conv => whnf
    refine ⟨_, takeN_rp (k := k) ciL_len hk, ?_⟩
    conv => whnf
    split <;> rename_i h4
    all_goals simp only [decide_eq_true_eq, decide_eq_false_iff_not] at h4
    · -- a constant
      conv => whnf
      have hnv : isVar xs[k] = false := by
        cases hq : isVar xs[k] with
        | false => rfl
        | true =>
          obtain ⟨q, h5, _⟩ := isVar_nat hq
          omega
      rw [sendP, hnv, if_neg (by simp)] at hnx
      refine ⟨by omega, rows_len ciL_len _, ?_⟩
      conv => whnf
      refine ⟨_, takeN_rp (k := k) ciL_len hkb, ?_⟩
      conv => whnf
      generalize hb : (xs[k] != ys[k]) = b
      have hb' : (xs[k] == ys[k]) = !b := by rw [← hb]; simp [bne]
      rw [hb'] at hnx
      cases b with
      | true =>
        conv => whnf
        have := uniK_false (m := m) (xs := xs) (ys := ys) (k := k + 1) (by rw [hnx]; rfl) xs.length (by omega)
        rw [this, hnx]
        refine ⟨by rw [rows_len ciL_len, hM], ?_⟩
        unfold intsT
        rw [hM]
        rfl
      | false =>
        conv => whnf
        exact ⟨j - 1, by omega, k + 1, 20, _, M, _, wrap_id (by omega) (by omega), by omega, rfl, by rw [hnx]; rfl, rfl, rfl⟩
    · -- a variable
      have hv : isVar xs[k] = true := by
        simp only [isVar, inR, Bool.and_eq_true, decide_eq_true_eq]
        omega
      obtain ⟨q, hqe, hq⟩ := isVar_nat hv
      have hql : q < M.length := by omega
      rw [hqe] at hnx ⊢
      rw [hqe] at hv
      rw [sendP, if_pos hv] at hnx
      simp only [Int.toNat_natCast, getD_int hql] at hnx
      conv => whnf
      refine ⟨by omega, ?_⟩
      conv => whnf
      refine ⟨_, takeN_own (k := q) (d := 0) (xs := M) ciL_len (Nat.zero_add _) hql (Nat.le_refl _) rfl, ?_⟩
      conv => whnf
      rw [show unm = -1000 from rfl] at hnx
      generalize hb2 : (M[q] == (-1000 : Int)) = b2
      rw [hb2] at hnx
      cases b2 with
      | true =>
        conv => whnf
        refine ⟨by omega, rows_len ciL_len _, ?_⟩
        conv => whnf
        refine ⟨_, takeN_rp (k := k) ciL_len hkb, ?_⟩
        conv => whnf
        refine ⟨by omega, ?_⟩
        conv => whnf
        refine ⟨_, takeN_own (k := q) (d := 0) (xs := M) ciL_len (Nat.zero_add _) hql (Nat.le_refl _) rfl, _, set_ciL hql ys[k], ?_⟩
        conv => whnf
        have hql2 : q < (M.set q ys[k]).length := by simpa using hql
        simp only [if_true, getD_int hql2, List.getElem_set_self, beq_self_eq_true] at hnx
        exact ⟨j - 1, by omega, k + 1, 20, _, _, _, wrap_id (by omega) (by omega), by omega, rfl, hnx, rfl, rfl⟩
      | false =>
        conv => whnf
        refine ⟨List.range 10, by kernel_rfl, ?_⟩
        conv => whnf
        refine ⟨by omega, ?_⟩
        conv => whnf
        refine ⟨_, takeN_own (k := q) (d := 0) (xs := M) ciL_len (Nat.zero_add _) hql (Nat.le_refl _) rfl, ?_⟩
        conv => whnf
        refine ⟨by omega, rows_len ciL_len _, ?_⟩
        conv => whnf
        refine ⟨_, takeN_rp (k := k) ciL_len hkb, ?_⟩
        conv => whnf
        simp only [if_neg (show ¬ (false = true) from by simp), getD_int hql] at hnx
        generalize hb : (M[q] != ys[k]) = b
        have hb' : (M[q] == ys[k]) = !b := by rw [← hb]; simp [bne]
        rw [hb'] at hnx
        cases b with
        | true =>
          conv => whnf
          have := uniK_false (m := m) (xs := xs) (ys := ys) (k := k + 1) (by rw [hnx]; rfl) xs.length (by omega)
          rw [this, hnx]
          refine ⟨by rw [rows_len ciL_len, hM], ?_⟩
          unfold intsT
          rw [hM]
          rfl
        | false =>
          conv => whnf
          exact ⟨j - 1, by omega, k + 1, 20, _, M, _, wrap_id (by omega) (by omega), by omega, rfl, by rw [hnx]; rfl, rfl, rfl⟩
  · conv => whnf
    have hkk : k = xs.length := by omega
    subst hkk
    rw [hu]
    refine ⟨by rw [rows_len ciL_len, hM], ?_⟩
    unfold intsT
    rw [hM]
    rfl
end Go.Proofs.YthfjngmbdbocbaaD
