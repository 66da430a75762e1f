/- Contracts of functions and plain laws that a proof of this seat rests on; no condition. -/
import Derived.Test.YtcjdfeafcmfgpaaGreatQ26
import Derived.Test.YtcjdfeafcmfgpaaGreatQ11
import Derived.Test.YtcjdfeafcmfgpaaGreatQ19
set_option linter.unusedVariables false
set_option linter.unusedSimpArgs false
set_option maxRecDepth 100000
namespace Go.Proofs.YtcjdfeafcmfgpaaGreatD
open Go Go.Proofs
abbrev QueryF := List Int × List FactC
def fzF (a : FactC) : FactC := (a.1, a.2.map fz)
def frzOk (q : QueryF) : Bool := terms3 q.1 && decide (q.2.length ≤ 8) && q.2.all fun a => terms3 a.2
def pFreeze (q : QueryF) : List FactC × List Int := if frzOk q then ((q.2.map fzF).foldl putF [], q.1.map fz) else ([], [])
def pFreezeV (q : QueryF) : V := .tup [wFactS (pFreeze q).1, intsT (pFreeze q).2]
theorem terms3_len {xs : List Int} (h : terms3 xs = true) : xs.length ≤ 3 := by
  unfold terms3 at h
  simp only [Bool.and_eq_true, decide_eq_true_eq] at h
  exact h.2
theorem terms3_all {xs : List Int} (h : terms3 xs = true) : xs.all isTerm = true := by
  unfold terms3 at h
  simp only [Bool.and_eq_true] at h
  exact h.1
theorem sumB_cap {α : Type} (f : α → Nat) (n : Nat) : ∀ (xs : List α), (∀ x ∈ xs, f x ≤ n) → sumB f xs ≤ n * xs.length
  | [], _ => by simp [sumB]
  | x :: xs, h => by
    have h1 := sumB_cap f n xs fun y hy => h y (by simp [hy])
    have h2 := h x (by simp)
    simp only [sumB, List.length_cons, Nat.mul_add, Nat.mul_one]
    omega
theorem mem_putGo (f a : FactC) : ∀ (l : List FactC) (p : Bool), a ∈ putGo f p l → a = f ∨ a ∈ l
  | [], p, h => by cases p <;> simp [putGo] at h; exact .inl h
  | x :: r, p, h => by
    have ih := mem_putGo f a r
    simp only [putGo] at h
    split at h
    · rcases List.mem_append.1 h with h1 | h1
      · split at h1
        · cases h1
        · exact .inl (by simpa using h1)
      · rcases List.mem_cons.1 h1 with rfl | h1
        · exact .inr (by simp)
        · rcases ih true h1 with h2 | h2
          · exact .inl h2
          · exact .inr (by simp [h2])
    · rcases List.mem_cons.1 h with rfl | h1
      · exact .inr (by simp)
      · rcases ih p h1 with h2 | h2
        · exact .inl h2
        · exact .inr (by simp [h2])
theorem short_fold : ∀ (fs db : List FactC), (∀ x ∈ fs, x.2.length ≤ 3) → (∀ x ∈ db, x.2.length ≤ 3) → (∀ x ∈ fs.foldl putF db, x.2.length ≤ 3) ∧ (fs.foldl putF db).length ≤ fs.length + db.length
  | [], db, _, h => ⟨h, by simp⟩
  | f :: fs, db, hf, h => by
    have h1 : ∀ x ∈ putF db f, x.2.length ≤ 3 := fun x hx => by
      rcases mem_putGo f x db false hx with rfl | h2
      · exact hf _ (by simp)
      · exact h x h2
    obtain ⟨i1, i2⟩ := short_fold fs (putF db f) (fun x hx => hf x (by simp [hx])) h1
    refine ⟨i1, ?_⟩
    have := putGo_length f db false
    rw [List.foldl_cons]
    have e : (putF db f).length ≤ db.length + 1 := this
    simp only [List.length_cons]
    omega
theorem terms3_eq (xs : List Int) : terms3 xs = (decide (xs.length ≤ 3) && xs.all isTerm) := by unfold terms3; rw [Bool.and_comm]
set_option maxHeartbeats 4000000 in
theorem implFreeze_spec (q : QueryF) (h : cQuery q ≤ 1048576) : Spec Tryz.prog 49 [vQuery q] (pFreezeV q) := by
  unfold cQuery cAtomS at h
  refine Spec_of mx Γ_ok Tryz.func49 rfl ?_
  conv => whnf
  have hok : (terms3 q.1 && decide (q.2.length ≤ 8)) = (decide ((q.2.length : Int) ≤ 8) && (decide ((q.1.length : Int) ≤ 3) && q.1.all isTerm)) := by
    have e1 : decide ((q.2.length : Int) ≤ 8) = decide (q.2.length ≤ 8) := by rw [decide_eq_decide]; omega
    have e2 : decide ((q.1.length : Int) ≤ 3) = decide (q.1.length ≤ 3) := by rw [decide_eq_decide]; omega
    rw [e1, e2, ← terms3_eq, Bool.and_comm]
  generalize decide ((q.2.length : Int) ≤ 8) = c1 at hok
  cases c1
  rotate_left
  conv => whnf
  generalize decide ((q.1.length : Int) ≤ 3) = c2 at hok
  cases c2
  rotate_left
  conv => whnf
  refine ⟨_, areTerms_spec q.1 (by omega), .inl rfl, .inl ?_⟩
  generalize q.1.all isTerm = c3 at hok
  all_goals simp only [Bool.false_and, Bool.true_and] at hok
  all_goals conv => whnf
  all_goals refine ⟨[(1,0),(2,0),(3,0),(4,0),(26,0),(27,0),(28,0)], fun m s => ∃ (k : Nat) (e : Int) (ok : Bool), e = k ∧ m + k = q.2.length ∧ ok = (terms3 q.1 && decide (q.2.length ≤ 8) && (q.2.take k).all fun a => terms3 a.2) ∧
        s = ⟨74, [(1, .ptr 0 0), (2, cnil), (3, cnil), (4, cb ok), (26, vAtomS q.2), (27, ci q.2.length), (28, ci e)], [some ⟨true, rQuery q⟩]⟩, q.2.length, ⟨0, 0, _, rfl, rfl, by rw [hok, List.take_zero, List.all_nil, Bool.and_true], rfl⟩, ?_⟩
  all_goals
   (rintro m s ⟨k, _, ok, rfl, hm, hok2, rfl⟩
    conv => whnf
    split <;> rename_i h1
    all_goals simp only [decide_eq_true_eq, decide_eq_false_iff_not] at h1
    · conv => whnf
      have hk : k < q.2.length := by omega
      have hb := sumB_one (f := cAtom) hk
      have hcb : cAtom q.2[k] = q.2[k].2.length := rfl
      have hstep : (q.2.take (k + 1)).all (fun a => terms3 a.2) = ((q.2.take k).all (fun a => terms3 a.2) && (decide ((q.2[k].2.length : Int) ≤ 3) && q.2[k].2.all isTerm)) := by
        have e2 : decide ((q.2[k].2.length : Int) ≤ 3) = decide (q.2[k].2.length ≤ 3) := by rw [decide_eq_decide]; omega
        rw [List.take_succ_eq_append_getElem hk, List.all_append, e2, ← terms3_eq]; simp
      refine ⟨by omega, rows_len rAtom_len _, ?_⟩
      conv => whnf
      refine ⟨_, takeN_rp (k := k) rAtom_len hk, ?_⟩
      conv => whnf
      cases ok with
      | false =>
        conv => whnf
        refine ⟨m - 1, by omega, k + 1, _, false, wrap_id (by omega) (by omega), by omega, ?_, rfl⟩
        rw [hstep, ← Bool.and_assoc, ← hok2]; rfl
      | true =>
        conv => whnf
        generalize decide ((q.2[k].2.length : Int) ≤ 3) = d1 at hstep
        cases d1 with
        | false =>
          conv => whnf
          refine ⟨m - 1, by omega, k + 1, _, false, wrap_id (by omega) (by omega), by omega, ?_, rfl⟩
          rw [hstep, ← Bool.and_assoc, ← hok2]; rfl
        | true =>
          conv => whnf
          refine ⟨_, areTerms_spec q.2[k].2 (by omega), .inl rfl, .inl ?_⟩
          generalize q.2[k].2.all isTerm = d2 at hstep
          conv => whnf
          refine ⟨m - 1, by omega, k + 1, _, d2, wrap_id (by omega) (by omega), by omega, ?_, rfl⟩
          rw [hstep, ← Bool.and_assoc, ← hok2]; rfl
    · conv => whnf
      have hkk : k = q.2.length := by omega
      rw [hkk, List.take_length] at hok2
      have hfr : frzOk q = ok := hok2.symm
      unfold pFreezeV pFreeze
      rw [hfr]
      cases ok with
      | false =>
        conv => whnf
        exact ⟨rfl, rfl, rfl⟩
      | true =>
        have hall : q.2.all (fun a => terms3 a.2) = true := by
          unfold frzOk at hfr
          simp only [Bool.and_eq_true] at hfr
          exact hfr.2
        have hlen : q.2.length ≤ 8 := by
          unfold frzOk at hfr
          simp only [Bool.and_eq_true, decide_eq_true_eq] at hfr
          exact hfr.1.2
        have hhd : terms3 q.1 = true := by
          unfold frzOk at hfr
          simp only [Bool.and_eq_true] at hfr
          exact hfr.1.1
        conv => whnf
        refine ⟨[(1,0),(2,0),(3,0),(7,0),(51,0),(52,0),(53,0)], fun m s => ∃ (k : Nat) (e : Int) (n : Nat) (r : List V), e = k ∧ m + k = q.2.length ∧ n = k ∧ r = rows tFact ((q.2.take k).map fzF) ∧
          s = ⟨74, [(1, .ptr 0 0), (2, cnil), (3, cnil), (7, .own 1 2 0 n n none), (51, vAtomS q.2), (52, ci q.2.length), (53, ci e)], [some ⟨true, rQuery q⟩, some ⟨false, r⟩]⟩, q.2.length, ⟨0, 0, 0, _, rfl, rfl, rfl, rfl, rfl⟩, ?_⟩
        rintro m s ⟨k, _, n, _, rfl, hm, rfl, rfl, rfl⟩
        conv => whnf
        split <;> rename_i h1
        all_goals simp only [decide_eq_true_eq, decide_eq_false_iff_not] at h1
        · conv => whnf
          have hk : n < q.2.length := by omega
          have hb := sumB_one (f := cAtom) hk
          have hcb : cAtom q.2[n] = q.2[n].2.length := rfl
          have ht : terms3 q.2[n].2 = true := List.all_eq_true.1 hall _ (List.getElem_mem hk)
          refine ⟨by omega, rows_len rAtom_len _, ?_⟩
          conv => whnf
          refine ⟨_, takeN_rp (k := n) rAtom_len hk, ?_⟩
          conv => whnf
          refine ⟨List.range 10, by kernel_rfl, ?_⟩
          conv => whnf
          refine ⟨_, frozenAll_spec q.2[n].2 (by omega) (terms3_all ht), .inl rfl, .inr ?_⟩
          conv => whnf
          refine ⟨by rw [rows_len ciL_len], ?_⟩
          conv => whnf
          refine ⟨_, rfl, .inr ⟨solid_tFact (fzF q.2[n]), ?_⟩⟩
          conv => whnf
          refine ⟨by omega, by rw [rows_len tFact_len, List.length_map, List.length_take]; congr 1; omega, _, snoc_rows tFact _ (fzF q.2[n]), ?_⟩
          conv => whnf
          refine ⟨m - 1, by omega, n + 1, _, _, _, wrap_id (by omega) (by omega), by omega, rfl, ?_, rfl⟩
          rw [List.take_succ_eq_append_getElem hk, List.map_append, List.map_singleton]
        · conv => whnf
          have hkk : n = q.2.length := by omega
          subst hkk
          rw [List.take_length]
          refine .inr (.inr ⟨[1], [], ?_⟩)
          conv => whnf
          have hsh : ∀ x ∈ q.2.map fzF, x.2.length ≤ 1099511627776 := fun x hx => by
            obtain ⟨y, hy, rfl⟩ := List.mem_map.1 hx
            have := terms3_len (List.all_eq_true.1 hall _ hy)
            simp only [fzF, List.length_map]; omega
          have hs := sortFacts_spec (q.2.map fzF) hsh (by rw [List.length_map]; omega)
          rw [List.length_map] at hs
          refine ⟨_, hs, fun r g2 hP => ?_⟩
          obtain ⟨rfl, ys, hp, hsrt, rfl⟩ := hP
          have hyl : q.2.length = ys.length := by rw [hp.length_eq, List.length_map]
          refine .inl ?_
          conv => whnf
          refine ⟨[1001, 0, 2, 3, 1, 4, 5, 6, 1000, 1000], by kernel_rfl, ?_⟩
          conv => whnf
          refine .inr (.inr ⟨[1], noSubT_lk (by kernel_rfl), rfl, ?_⟩)
          conv => whnf
          have hys : ∀ x ∈ ys, x.2.length ≤ 1099511627776 := fun x hx => hsh x (hp.mem_iff.1 hx)
          have hcs := compFacts_spec ys hys (by omega)
          rw [← hyl] at hcs
          refine ⟨_, hcs, fun r g2 hP => ?_⟩
          obtain ⟨rfl, rfl⟩ := hP
          refine .inr ?_
          conv => whnf
          refine .inl ?_
          conv => whnf
          refine ⟨_, frozenAll_spec q.1 (by omega) (terms3_all hhd), .inl rfl, .inr ?_⟩
          conv => whnf
          refine ⟨by rw [rows_len tFact_len], by rw [rows_len ciL_len], ?_⟩
          show one [_, _] = V.tup [wFactS ((q.2.map fzF).foldl putF []), intsT (q.1.map fz)]
          rw [← sort_comp (q.2.map fzF) ys hp hsrt]
          rfl)
theorem small_Freeze (x0 : QueryF) (h0 : cQuery x0 ≤ 1048576) : cFactS (pFreeze x0).1 ≤ 1048576 ∧ (pFreeze x0).2.length ≤ 1048576 := by
  unfold pFreeze
  split
  · rename_i hf
    unfold frzOk at hf
    simp only [Bool.and_eq_true, decide_eq_true_eq] at hf
    obtain ⟨⟨h1, h2⟩, h3⟩ := hf
    obtain ⟨s1, s2⟩ := short_fold (x0.2.map fzF) [] (fun x hx => by
      obtain ⟨y, hy, rfl⟩ := List.mem_map.1 hx
      have := terms3_len (List.all_eq_true.1 h3 _ hy)
      simpa [fzF] using this) (by simp)
    have h4 := sumB_cap cFact 3 _ s1
    have h5 := terms3_len h1
    rw [List.length_map, List.length_nil] at s2
    refine ⟨?_, ?_⟩
    · show ((x0.2.map fzF).foldl putF []).length + sumB cFact ((x0.2.map fzF).foldl putF []) ≤ _
      omega
    · show (x0.1.map fz).length ≤ _
      rw [List.length_map]; omega
  · exact ⟨by show (0 : Nat) + 0 ≤ _; omega, by show (0 : Nat) ≤ _; omega⟩
end Go.Proofs.YtcjdfeafcmfgpaaGreatD
set_option linter.unusedVariables false
set_option linter.unusedSimpArgs false
set_option maxRecDepth 100000
namespace Go.Proofs.YtcjdfeafcmfgpaaGreatD
open Go Go.Proofs
end Go.Proofs.YtcjdfeafcmfgpaaGreatD
set_option linter.unusedVariables false
set_option linter.unusedSimpArgs false
set_option maxRecDepth 100000
namespace Go.Proofs.YtcjdfeafcmfgpaaGreatD
open Go Go.Proofs
def unm : Int := -1000
def sendP (m : List Int) (t u : Int) : List Int × Bool :=
  if isVar t then (let m' := if m.getD t.toNat 0 == unm then m.set t.toNat u else m; (m', m'.getD t.toNat 0 == u)) else (m, t == u)
def uniK (m xs ys : List Int) : Nat → List Int × Bool
  | 0 => (m, true)
  | k + 1 => let r := uniK m xs ys k; if r.2 then sendP r.1 (xs.getD k 0) (ys.getD k 0) else r
theorem sendP_len (m : List Int) (t u : Int) : (sendP m t u).1.length = m.length := by
  unfold sendP
  split
  · dsimp only
    split <;> simp
  · rfl
theorem uniK_len (m xs ys : List Int) : ∀ k, (uniK m xs ys k).1.length = m.length
  | 0 => rfl
  | k + 1 => by
    simp only [uniK]
    split
    · rw [sendP_len, uniK_len m xs ys k]
    · exact uniK_len m xs ys k
theorem uniK_false {m xs ys : List Int} {k : Nat} (h : (uniK m xs ys k).2 = false) : ∀ j, k ≤ j → uniK m xs ys j = uniK m xs ys k
  | j, hj => by
    induction j with
    | zero => rw [show k = 0 from by omega]
    | succ j ih =>
      rcases Nat.lt_or_ge j k with h1 | h1
      · rw [show j + 1 = k from by omega]
      · simp only [uniK]
        rw [ih h1, if_neg (by rw [h]; simp)]
theorem uniK_succ {m xs ys : List Int} {k : Nat} (h : (uniK m xs ys k).2 = true) : uniK m xs ys (k + 1) = sendP (uniK m xs ys k).1 (xs.getD k 0) (ys.getD k 0) := by
  simp only [uniK]
  rw [if_pos h]
theorem getD_int {l : List Int} {k : Nat} (hk : k < l.length) : l.getD k 0 = l[k] := by simp [List.getD_eq_getElem?_getD, hk]
theorem isVar_nat {t : Int} (h : isVar t = true) : ∃ q : Nat, t = q ∧ q < 20 := by
  have : 0 ≤ t ∧ t ≤ 19 := by simpa [isVar, inR] using h
  exact ⟨t.toNat, by omega, by omega⟩
theorem set_ciL {m : List Int} {q : Nat} (hq : q < m.length) (u : Int) : setC (rows ciL m) (0 + q * 1) [ci u] = rows ciL (m.set q u) :=
  (congrArg (fun o => setC (rows ciL m) o (ciL u)) (Nat.zero_add _)).trans (setC_rows ciL_len (by omega) hq _)
set_option maxHeartbeats 1000000 in
theorem send_spec (m : List Int) (t u : Int) (hm : m.length = 20) : SpecR Tryz.prog 224 [intsT m, ci t, ci u] (cb (sendP m t u).2) [intsT (sendP m t u).1, ci t, ci u] := by
  refine SpecL_of mx Γ_ok 3 Tryz.func224 rfl rfl (by omega) ?_
  conv => whnf
  refine ⟨_, implIsVar_spec t, .inl rfl, .inl ?_⟩
  conv => whnf
  unfold sendP
  generalize hv : isVar t = b1
  cases b1 with
  | false =>
    conv => whnf
    refine ⟨rfl, by rw [rows_len ciL_len], ?_⟩
    rfl
  | true =>
  obtain ⟨q, rfl, hq⟩ := isVar_nat hv
  have hql : q < m.length := by omega
  conv => whnf
  refine ⟨by omega, ?_⟩
  conv => whnf
  refine ⟨_, takeN_own (k := q) (d := 0) (xs := m) ciL_len (Nat.zero_add _) hql (Nat.le_refl _) rfl, ?_⟩
  conv => whnf
  rw [if_pos rfl]
  simp only [Int.toNat_natCast, getD_int hql]
  rw [show unm = -1000 from rfl]
  generalize hb2 : (m[q] == (-1000 : Int)) = b2
  cases b2 with
  | true =>
    conv => whnf
    refine ⟨by omega, ?_⟩
    conv => whnf
    refine ⟨_, takeN_own (k := q) (d := 0) (xs := m) ciL_len (Nat.zero_add _) hql (Nat.le_refl _) rfl, _, set_ciL hql u, ?_⟩
    conv => whnf
    refine ⟨by omega, ?_⟩
    conv => whnf
    have hql2 : q < (m.set q u).length := by simpa using hql
    refine ⟨_, takeN_own (k := q) (d := 0) (xs := m.set q u) ciL_len (Nat.zero_add _) hql2 (Nat.le_refl _) rfl, ?_⟩
    conv => whnf
    simp only [if_true, getD_int hql2]
    refine ⟨rfl, by rw [rows_len ciL_len, List.length_set], ?_⟩
    unfold intsT
    rw [List.length_set]
    rfl
  | false =>
    conv => whnf
    refine ⟨by omega, ?_⟩
    conv => whnf
    refine ⟨_, takeN_own (k := q) (d := 0) (xs := m) ciL_len (Nat.zero_add _) hql (Nat.le_refl _) rfl, ?_⟩
    conv => whnf
    simp only [if_neg (show ¬ (false = true) from by simp), getD_int hql]
    refine ⟨rfl, by rw [rows_len ciL_len], ?_⟩
    rfl
def fineT (l : List Int) : Prop := ∀ t ∈ l, t < 20
set_option maxHeartbeats 2000000 in
theorem l7Unify_spec (xs ys m : List Int) (hm : m.length = 20) (hl : xs.length = ys.length) (hs : xs.length ≤ 1048576) (hf : fineT xs) : Spec Tryz.prog 226 [ints xs, ints ys, ints m] (.tup [intsT (uniK m xs ys xs.length).1, cb (uniK m xs ys xs.length).2]) := by
  refine Spec_of mx Γ_ok Tryz.func226 rfl ?_
  conv => whnf
  refine ⟨rows_len ciL_len _, solid_ci _, ?_⟩
  conv => whnf
  refine ⟨by omega, rfl, _, app_ci [] m, ?_⟩
  conv => whnf
  refine ⟨[(0,0),(1,0),(6,0),(7,0),(8,0),(9,0)], fun j s => ∃ (k n : Nat) (e : Int) (M : List Int) (r : List V), e = k ∧ j + k = xs.length ∧ n = 20 ∧ uniK m xs ys k = (M, true) ∧ r = rows ciL M ∧
    s = ⟨59, [(0, ints xs), (1, ints ys), (6, cnil), (7, cb false), (8, .own 0 1 0 n n none), (9, ci e)], [some ⟨false, r⟩]⟩, xs.length, ⟨0, 0 + m.length, 0, m, _, rfl, rfl, by omega, rfl, by rw [List.nil_append], rfl⟩, ?_⟩
  rintro j s ⟨k, n, _, M, _, rfl, hj, rfl, hu, rfl, rfl⟩
  have hM : M.length = 20 := by have := uniK_len m xs ys k; rw [hu] at this; simpa [hm] using this
  conv => whnf
  split <;> rename_i h3
  all_goals simp only [decide_eq_true_eq, decide_eq_false_iff_not] at h3
  · conv => whnf
    have hk : k < xs.length := by omega
    have hkb : k < ys.length := by omega
    have hlt := hf xs[k] (List.getElem_mem hk)
    have hnx := uniK_succ (m := m) (xs := xs) (ys := ys) (k := k) (by rw [hu])
    rw [hu, getD_int hk, getD_int hkb] at hnx
    simp only at hnx
    refine ⟨by omega, rows_len ciL_len _, ?_⟩
    conv => whnf
    refine ⟨_, takeN_rp (k := k) ciL_len hk, ?_⟩
    conv => whnf
    split <;> rename_i h4
    all_goals simp only [decide_eq_true_eq, decide_eq_false_iff_not] at h4
    ·
      conv => whnf
      have hnv : isVar xs[k] = false := by
        cases hq : isVar xs[k] with
        | false => rfl
        | true =>
          obtain ⟨q, h5, _⟩ := isVar_nat hq
          omega
      rw [sendP, hnv, if_neg (by simp)] at hnx
      refine ⟨by omega, rows_len ciL_len _, ?_⟩
      conv => whnf
      refine ⟨_, takeN_rp (k := k) ciL_len hkb, ?_⟩
      conv => whnf
      generalize hb : (xs[k] != ys[k]) = b
      have hb' : (xs[k] == ys[k]) = !b := by rw [← hb]; simp [bne]
      rw [hb'] at hnx
      cases b with
      | true =>
        conv => whnf
        have := uniK_false (m := m) (xs := xs) (ys := ys) (k := k + 1) (by rw [hnx]; rfl) xs.length (by omega)
        rw [this, hnx]
        refine ⟨by rw [rows_len ciL_len, hM], ?_⟩
        unfold intsT
        rw [hM]
        rfl
      | false =>
        conv => whnf
        exact ⟨j - 1, by omega, k + 1, 20, _, M, _, wrap_id (by omega) (by omega), by omega, rfl, by rw [hnx]; rfl, rfl, rfl⟩
    ·
      have hv : isVar xs[k] = true := by
        simp only [isVar, inR, Bool.and_eq_true, decide_eq_true_eq]
        omega
      obtain ⟨q, hqe, hq⟩ := isVar_nat hv
      have hql : q < M.length := by omega
      rw [hqe] at hnx ⊢
      rw [hqe] at hv
      rw [sendP, if_pos hv] at hnx
      simp only [Int.toNat_natCast, getD_int hql] at hnx
      conv => whnf
      refine ⟨by omega, ?_⟩
      conv => whnf
      refine ⟨_, takeN_own (k := q) (d := 0) (xs := M) ciL_len (Nat.zero_add _) hql (Nat.le_refl _) rfl, ?_⟩
      conv => whnf
      rw [show unm = -1000 from rfl] at hnx
      generalize hb2 : (M[q] == (-1000 : Int)) = b2
      rw [hb2] at hnx
      cases b2 with
      | true =>
        conv => whnf
        refine ⟨by omega, rows_len ciL_len _, ?_⟩
        conv => whnf
        refine ⟨_, takeN_rp (k := k) ciL_len hkb, ?_⟩
        conv => whnf
        refine ⟨by omega, ?_⟩
        conv => whnf
        refine ⟨_, takeN_own (k := q) (d := 0) (xs := M) ciL_len (Nat.zero_add _) hql (Nat.le_refl _) rfl, _, set_ciL hql ys[k], ?_⟩
        conv => whnf
        have hql2 : q < (M.set q ys[k]).length := by simpa using hql
        simp only [if_true, getD_int hql2, List.getElem_set_self, beq_self_eq_true] at hnx
        exact ⟨j - 1, by omega, k + 1, 20, _, _, _, wrap_id (by omega) (by omega), by omega, rfl, hnx, rfl, rfl⟩
      | false =>
        conv => whnf
        refine ⟨List.range 10, by kernel_rfl, ?_⟩
        conv => whnf
        refine ⟨by omega, ?_⟩
        conv => whnf
        refine ⟨_, takeN_own (k := q) (d := 0) (xs := M) ciL_len (Nat.zero_add _) hql (Nat.le_refl _) rfl, ?_⟩
        conv => whnf
        refine ⟨by omega, rows_len ciL_len _, ?_⟩
        conv => whnf
        refine ⟨_, takeN_rp (k := k) ciL_len hkb, ?_⟩
        conv => whnf
        simp only [if_neg (show ¬ (false = true) from by simp), getD_int hql] at hnx
        generalize hb : (M[q] != ys[k]) = b
        have hb' : (M[q] == ys[k]) = !b := by rw [← hb]; simp [bne]
        rw [hb'] at hnx
        cases b with
        | true =>
          conv => whnf
          have := uniK_false (m := m) (xs := xs) (ys := ys) (k := k + 1) (by rw [hnx]; rfl) xs.length (by omega)
          rw [this, hnx]
          refine ⟨by rw [rows_len ciL_len, hM], ?_⟩
          unfold intsT
          rw [hM]
          rfl
        | false =>
          conv => whnf
          exact ⟨j - 1, by omega, k + 1, 20, _, M, _, wrap_id (by omega) (by omega), by omega, rfl, by rw [hnx]; rfl, rfl, rfl⟩
  · conv => whnf
    have hkk : k = xs.length := by omega
    subst hkk
    rw [hu]
    refine ⟨by rw [rows_len ciL_len, hM], ?_⟩
    unfold intsT
    rw [hM]
    rfl
end Go.Proofs.YtcjdfeafcmfgpaaGreatD
set_option linter.unusedVariables false
set_option linter.unusedSimpArgs false
set_option maxRecDepth 100000
namespace Go.Proofs.YtcjdfeafcmfgpaaGreatD
open Go Go.Proofs
def stepM (a b : AtomC) (m : List Int) : Option (List Int) :=
  if a.1 != b.1 then none else if (a.2.length : Int) != b.2.length then none else if (uniK m a.2 b.2 a.2.length).2 then some (uniK m a.2 b.2 a.2.length).1 else none
def srch (ts : List AtomC) : List AtomC → List Int → Option (List Int)
  | [], m => some m
  | a :: fs, m => ts.findSome? fun b => (stepM a b m).bind fun x => srch ts fs x
theorem srch_drop {ts fs : List AtomC} {i : Nat} (hi : i < fs.length) (m : List Int) : srch ts (fs.drop i) m = ts.findSome? fun b => (stepM fs[i] b m).bind fun x => srch ts (fs.drop (i + 1)) x := by
  rw [List.drop_eq_getElem_cons hi]
  rfl
theorem first_take {α β : Type} {f : α → Option β} {ts : List α} {k : Nat} (hk : k < ts.length) (h : (ts.take k).findSome? f = none) : (ts.take (k + 1)).findSome? f = f ts[k] := by
  rw [List.take_succ_eq_append_getElem hk, List.findSome?_append, h]
  simp [List.findSome?]
  cases f ts[k] <;> rfl
theorem first_some {α β : Type} {f : α → Option β} {ts : List α} {k : Nat} {y : β} (h : (ts.take k).findSome? f = some y) : ts.findSome? f = some y := by
  have : ts = ts.take k ++ ts.drop k := (List.take_append_drop k ts).symm
  rw [this, List.findSome?_append, h]
  rfl
def fineA (fs : List AtomC) : Prop := ∀ a ∈ fs, fineT a.2
def wS (m : List Int) : Option (List Int) → V
  | some y => .tup [ints y, cb true]
  | none => .tup [ints m, cb false]
theorem ints_ro (xs : List Int) : roV (ints xs) = ints xs := by
  show V.ro _ (roVs (rows ciL xs)) = _
  rw [roVs_ci]
  rfl
theorem srch_len {ts : List AtomC} : ∀ {fs : List AtomC} {m y : List Int}, srch ts fs m = some y → y.length = m.length
  | [], m, y, h => by simp only [srch, Option.some.injEq] at h; rw [h]
  | a :: fs, m, y, h => by
    simp only [srch] at h
    obtain ⟨b, _, h⟩ := List.exists_of_findSome?_eq_some h
    cases hs : stepM a b m with
    | none => rw [hs] at h; cases h
    | some x =>
      rw [hs] at h
      rw [srch_len (m := x) h]
      unfold stepM at hs
      split at hs
      · cases hs
      · split at hs
        · cases hs
        · split at hs
          · cases hs
            exact uniK_len _ _ _ _
          · cases hs
set_option maxHeartbeats 8000000 in
theorem l7Search_spec (f t : QueryT) (hf : cQuery f ≤ 1048576) (ht : cQuery t ≤ 1048576) (hfa : fineA f.2) : ∀ (n i : Nat) (m : List Int), i + n = f.2.length → m.length = 20 → Spec Tryz.prog 228 [vQuery f, vQuery t, ci i, ints m] (wS m (srch t.2 (f.2.drop i) m)) := by
  have hf' := hf
  have ht' := ht
  unfold cQuery cAtomS at hf' ht'
  intro n
  induction n with
  | zero =>
    intro i m hi hm
    obtain rfl : i = f.2.length := by omega
    rw [List.drop_of_length_le (Nat.le_refl _)]
    refine Spec_of mx Γ_ok Tryz.func228 rfl ?_
    conv => whnf
    rw [beq_self_eq_true]
    conv => whnf
    rfl
  | succ n ih =>
    intro i m hi hm
    have hil : i < f.2.length := by omega
    have hb1 := sumB_one (f := cAtom) hil
    have hcb1 : cAtom f.2[i] = f.2[i].2.length := rfl
    have hfi : fineT f.2[i].2 := hfa _ (List.getElem_mem hil)
    rw [srch_drop hil]
    generalize ha : f.2[i] = a at hb1 hcb1 hfi
    refine Spec_of mx Γ_ok Tryz.func228 rfl ?_
    conv => whnf
    rw [show ((i : Int) == (f.2.length : Int)) = false from by simp; omega]
    conv => whnf
    refine ⟨by omega, rows_len rAtom_len _, ?_⟩
    conv => whnf
    refine ⟨_, takeN_rp (k := i) rAtom_len hil, ?_⟩
    rw [ha]
    conv => whnf
    refine ⟨[(2,0),(3,0),(4,0),(5,0),(8,0),(9,0),(10,0),(11,0)], fun j s => ∃ (k : Nat) (e : Int), e = k ∧ j + k = t.2.length ∧ ((t.2.take k).findSome? fun b => (stepM a b m).bind fun x => srch t.2 (f.2.drop (i + 1)) x) = none ∧
      s = ⟨77, [(2, ci i), (3, ints m), (4, .ptr 0 0), (5, .ptr 1 0), (8, cnil), (9, cb false), (10, .ptr 2 0), (11, ci e)], [some ⟨true, rQuery f⟩, some ⟨true, rQuery t⟩, some ⟨true, rAtom a⟩]⟩, t.2.length, ⟨0, 0, rfl, rfl, rfl, rfl⟩, ?_⟩
    rintro j s ⟨k, _, rfl, hj, hnone, rfl⟩
    conv => whnf
    split <;> rename_i h3
    all_goals simp only [decide_eq_true_eq, decide_eq_false_iff_not] at h3
    · conv => whnf
      have hk : k < t.2.length := by omega
      have hb2 := sumB_one (f := cAtom) hk
      have hcb2 : cAtom t.2[k] = t.2[k].2.length := rfl
      have hnx := first_take hk hnone
      generalize hbb : t.2[k] = b at hb2 hcb2 hnx
      refine ⟨by omega, rows_len rAtom_len _, ?_⟩
      conv => whnf
      refine ⟨_, takeN_rp (k := k) rAtom_len hk, ?_⟩
      rw [hbb]
      conv => whnf
      have hskip : stepM a b m = none → ∃ m', m' < j ∧ ∃ (k' : Nat) (e : Int), e = k' ∧ m' + k' = t.2.length ∧ ((t.2.take k').findSome? fun b => (stepM a b m).bind fun x => srch t.2 (f.2.drop (i + 1)) x) = none ∧ (⟨77, [(2, ci i), (3, ints m), (4, .ptr 0 0), (5, .ptr 1 0), (8, cnil), (9, cb false), (10, .ptr 2 0), (11, ci (IntKind.i64.wrap ((k : Int) + 1)))], [some ⟨true, rQuery f⟩, some ⟨true, rQuery t⟩, some ⟨true, rAtom a⟩]⟩ : St) = ⟨77, [(2, ci i), (3, ints m), (4, .ptr 0 0), (5, .ptr 1 0), (8, cnil), (9, cb false), (10, .ptr 2 0), (11, ci e)], [some ⟨true, rQuery f⟩, some ⟨true, rQuery t⟩, some ⟨true, rAtom a⟩]⟩ := by
        intro hs
        rw [hs] at hnx
        exact ⟨j - 1, by omega, k + 1, _, wrap_id (by omega) (by omega), by omega, hnx, rfl⟩
      generalize hb3 : (a.1 != b.1) = b3
      cases b3 with
      | true =>
        conv => whnf
        exact hskip (by rw [stepM, hb3]; rfl)
      | false =>
      conv => whnf
      generalize hb4 : ((a.2.length : Int) != (b.2.length : Int)) = b4
      cases b4 with
      | true =>
        conv => whnf
        exact hskip (by rw [stepM, hb3, hb4]; rfl)
      | false =>
      conv => whnf
      have hlen : a.2.length = b.2.length := by
        have h9 : (a.2.length : Int) = b.2.length := (by simpa using hb4)
        omega
      refine ⟨_, l7Unify_spec a.2 b.2 m hm hlen (by omega) hfi, .inl rfl, .inl ?_⟩
      generalize hu : uniK m a.2 b.2 a.2.length = r
      have hul : r.1.length = 20 := by rw [← hu, uniK_len, hm]
      obtain ⟨x, ok⟩ := r
      have hst : stepM a b m = if ok then some x else none := by rw [stepM, hb3, hb4, hu]; rfl
      simp only [roV, roVs, intsT_ro, ci_ro]
      cases ok with
      | false =>
        conv => whnf
        exact hskip (by rw [hst]; rfl)
      | true =>
      conv => whnf
      rw [show IntKind.i64.wrap ((i : Int) + 1) = ((i + 1 : Nat) : Int) from wrap_id (by omega) (by omega)]
      refine ⟨_, ih (i + 1) x (by omega) hul, .inl rfl, .inl ?_⟩
      rw [hst, if_pos rfl] at hnx
      simp only [Option.bind_some] at hnx
      generalize srch t.2 (f.2.drop (i + 1)) x = o at hnx
      cases o with
      | some y =>
        simp only [wS, roV, roVs, ints_ro, ci_ro]
        conv => whnf
        rw [first_some hnx]
        rfl
      | none =>
        simp only [wS, roV, roVs, ints_ro, ci_ro]
        conv => whnf
        exact ⟨j - 1, by omega, k + 1, _, wrap_id (by omega) (by omega), by omega, hnx, rfl⟩
    · conv => whnf
      have hkk : k = t.2.length := by omega
      rw [hkk, List.take_length] at hnone
      rw [hnone]
      rfl
end Go.Proofs.YtcjdfeafcmfgpaaGreatD
