/- Contracts and plain laws of this seat; no condition. -/
import Derived.Test.YtcjdfeafcmfgpaaGreatQ28
import Derived.Test.YtcjdfeafcmfgpaaGreatQ26
import Derived.Test.YtcjdfeafcmfgpaaGreatQ11
import Derived.Test.YtcjdfeafcmfgpaaGreatQ10
set_option linter.unusedVariables false
set_option linter.unusedSimpArgs false
set_option maxRecDepth 100000
namespace Go.Proofs.YtcjdfeafcmfgpaaGreatD
open Go Go.Proofs
def eqP (q : QueryT) (t u : Int) : Option QueryT :=
 if t == u then some q else if !isVar t && !isVar u then none
 else if !isVar t || (isVar u && decide (t < u)) then some (pReplaceTerm q u t) else some (pReplaceTerm q t u)
def wEq : Option QueryT → V
 | none => .tup [wQuery ([], []), cb false]
 | some y => .tup [wQuery y, cb true]
def wEqS (q : QueryT) : Option QueryT → V
 | none => .tup [vQuery q, cb false]
 | some y => .tup [wQuery y, cb true]
set_option maxHeartbeats 2000000 in
theorem equate_spec (q : QueryT) (t u : Int) (hq : cQuery q ≤ 1048576) (hne : t ≠ u) : Spec Tryz.prog 146 [vQuery q, ci t, ci u] (wEq (eqP q t u)) := by
 have h0 : (t == u) = false := by simpa using hne
 refine Spec_of mx Γ_ok Tryz.func146 rfl ?_
 conv => whnf
 rw [h0]
 conv => whnf
 refine ⟨_, implIsVar_spec t, .inl rfl, .inl ?_⟩
 conv => whnf
 unfold eqP
 rw [h0, if_neg (by simp)]
 generalize hb1 : isVar t = b1
 cases b1 with
 | false =>
  conv => whnf
  refine ⟨_, implIsVar_spec u, .inl rfl, .inl ?_⟩
  conv => whnf
  generalize hb2 : isVar u = b2
  cases b2 with
  | false =>
   conv => whnf
   exact .inr ⟨1, .inr ⟨2, rfl⟩⟩
  | true =>
   conv => whnf
   refine ⟨_, implIsVar_spec t, .inl rfl, .inl ?_⟩
   rw [hb1]
   conv => whnf
   refine ⟨_, implReplaceTerm_spec q u t hq, .inl rfl, .inr ?_⟩
   conv => whnf
   exact ⟨by rw [rows_len ciL_len], by rw [rows_len tAtom_len], rfl⟩
 | true =>
  conv => whnf
  refine ⟨_, implIsVar_spec t, .inl rfl, .inl ?_⟩
  rw [hb1]
  conv => whnf
  refine ⟨_, implIsVar_spec u, .inl rfl, .inl ?_⟩
  conv => whnf
  generalize hb2 : isVar u = b2
  cases b2 with
  | false =>
   conv => whnf
   refine ⟨_, implReplaceTerm_spec q t u hq, .inl rfl, .inr ?_⟩
   conv => whnf
   exact ⟨by rw [rows_len ciL_len], by rw [rows_len tAtom_len], rfl⟩
  | true =>
   conv => whnf
   generalize hb3 : decide (t < u) = b3
   cases b3 with
   | false =>
    conv => whnf
    refine ⟨_, implReplaceTerm_spec q t u hq, .inl rfl, .inr ?_⟩
    conv => whnf
    exact ⟨by rw [rows_len ciL_len], by rw [rows_len tAtom_len], rfl⟩
   | true =>
    conv => whnf
    refine ⟨_, implReplaceTerm_spec q u t hq, .inl rfl, .inr ?_⟩
    conv => whnf
    exact ⟨by rw [rows_len ciL_len], by rw [rows_len tAtom_len], rfl⟩
theorem isVar_iff {t : Int} (h : t < 20) : isVar t = decide (0 ≤ t) := by
 simp only [isVar, inR]
 by_cases h0 : 0 ≤ t
 ·rw [decide_eq_true h0, decide_eq_true (by omega)]
  rfl
 ·rw [decide_eq_false h0]
  rfl
set_option maxHeartbeats 2000000 in
theorem l13Equate_spec (q : QueryT) (t u : Int) (hq : cQuery q ≤ 1048576) (hne : t ≠ u) (ht : t < 20) (hu : u < 20) : Spec Tryz.prog 232 [vQuery q, ci t, ci u] (wEqS q (eqP q t u)) := by
 have h0 : (t == u) = false := by simpa using hne
 refine Spec_of mx Γ_ok Tryz.func232 rfl ?_
 conv => whnf
 rw [h0]
 conv => whnf
 unfold eqP
 rw [h0, if_neg (by simp), isVar_iff ht, isVar_iff hu]
 by_cases h1 : t < 0
 ·rw [decide_eq_true h1, decide_eq_false (show ¬ 0 ≤ t from by omega)]
  conv => whnf
  by_cases h2 : u < 0
  ·rw [decide_eq_true h2, decide_eq_false (show ¬ 0 ≤ u from by omega)]
   conv => whnf
   rfl
  ·rw [decide_eq_false h2, decide_eq_true (show 0 ≤ u from by omega)]
   conv => whnf
   rw [decide_eq_true h1]
   conv => whnf
   refine ⟨_, specReplaceTerm_spec q u t hq, .inl rfl, .inr ?_⟩
   conv => whnf
   exact ⟨by rw [rows_len ciL_len], by rw [rows_len tAtom_len], rfl⟩
 ·rw [decide_eq_false h1, decide_eq_true (show 0 ≤ t from by omega)]
  conv => whnf
  rw [decide_eq_false h1]
  conv => whnf
  by_cases h2 : u < 0
  ·rw [decide_eq_true h2, decide_eq_false (show ¬ 0 ≤ u from by omega)]
   conv => whnf
   refine ⟨_, specReplaceTerm_spec q t u hq, .inl rfl, .inr ?_⟩
   conv => whnf
   exact ⟨by rw [rows_len ciL_len], by rw [rows_len tAtom_len], rfl⟩
  ·rw [decide_eq_false h2, decide_eq_true (show 0 ≤ u from by omega)]
   conv => whnf
   by_cases h3 : t < u
   ·rw [if_pos (show u > t from h3), if_neg (show ¬ u < t from by omega), decide_eq_true h3]
    refine ⟨_, specReplaceTerm_spec q u t hq, .inl rfl, .inr ?_⟩
    conv => whnf
    exact ⟨by rw [rows_len ciL_len], by rw [rows_len tAtom_len], rfl⟩
   ·rw [if_neg (show ¬ u > t from h3), if_pos (show u < t from by omega), decide_eq_false h3]
    refine ⟨_, specReplaceTerm_spec q t u hq, .inl rfl, .inr ?_⟩
    conv => whnf
    exact ⟨by rw [rows_len ciL_len], by rw [rows_len tAtom_len], rfl⟩
theorem rep_size (q : QueryT) (a b : Int) : cQuery (pReplaceTerm q a b) = cQuery q := by
 unfold cQuery cAtomS
 simp only [pReplaceTerm, List.length_map]
 rw [sumB_map (c := cAtom) (d := cAtom) (fun x => by simp [cAtom, repA])]
theorem occurs_mem {q : QueryT} {v : Int} : occurs q v = true ↔ ∃ a ∈ q.2, v ∈ a.2 := by
 simp only [occurs, List.any_eq_true, hasA, has]
 constructor
 ·rintro ⟨a, ha, w, hw, he⟩
  have : w = v := by simpa [eqV] using he
  exact ⟨a, ha, this ▸ hw⟩
 ·rintro ⟨a, ha, hv⟩
  exact ⟨a, ha, v, hv, by simp [eqV]⟩
theorem occurs_rep {q : QueryT} {a b v : Int} (h : occurs (pReplaceTerm q a b) v = true) : (occurs q v = true ∧ v ≠ a) ∨ v = b := by
 obtain ⟨x, hx, hv⟩ := occurs_mem.1 h
 simp only [pReplaceTerm, List.mem_map] at hx
 obtain ⟨y, hy, rfl⟩ := hx
 simp only [repA, List.mem_map] at hv
 obtain ⟨w, hw, rfl⟩ := hv
 unfold rep1
 split
 ·exact .inr rfl
 ·rename_i hne
  exact .inl ⟨occurs_mem.2 ⟨y, hy, hw⟩, by simpa using hne⟩
def mu (q : QueryT) : Nat := ((List.range 20).filter fun v : Nat => occurs q (v : Int)).length
theorem filter_le {p q : Nat → Bool} : ∀ {l : List Nat}, (∀ v ∈ l, q v = true → p v = true) → (l.filter q).length ≤ (l.filter p).length
 | [], _ => Nat.le_refl _
 | x :: l, h => by
  have ih := filter_le (l := l) fun v hv => h v (by simp [hv])
  simp only [List.filter_cons]
  cases hq : q x with
  | true =>
   rw [h x (by simp) hq]
   simpa using ih
  | false =>
   cases hp : p x with
   | true => simp; omega
   | false => simpa using ih
theorem filter_lt {p q : Nat → Bool} : ∀ {l : List Nat} {a : Nat}, (∀ v ∈ l, q v = true → p v = true) → a ∈ l → p a = true → q a = false → (l.filter q).length < (l.filter p).length
 | x :: l, a, h, ha, hp, hq => by
  simp only [List.mem_cons] at ha
  have hl : ∀ v ∈ l, q v = true → p v = true := fun v hv => h v (by simp [hv])
  simp only [List.filter_cons]
  rcases ha with rfl | ha
  ·rw [hp, hq]
   have := filter_le hl
   simp
   omega
  ·have ih := filter_lt hl ha hp hq
   cases hqx : q x with
   | true =>
    rw [h x (by simp) hqx]
    simpa using ih
   | false =>
    cases hpx : p x with
    | true => simp; omega
    | false => simpa using ih
theorem mu_rep {q : QueryT} {a b : Int} (ha : isVar a = true) (hoa : occurs q a = true) (hab : a ≠ b) (hb : isVar b = true → occurs q b = true) : mu (pReplaceTerm q a b) < mu q := by
 obtain ⟨n, rfl, hn⟩ := isVar_nat ha
 refine filter_lt (p := fun v : Nat => occurs q (v : Int)) (q := fun v : Nat => occurs (pReplaceTerm q n b) (v : Int)) (a := n) (fun v hv h => ?_) (List.mem_range.2 hn) hoa ?_
 ·rcases occurs_rep h with ⟨h1, _⟩ | h1
  ·exact h1
  ·have hvb : isVar b = true := by
    rw [← h1, isVar_iff (by have := List.mem_range.1 hv; omega)]
    exact decide_eq_true (by omega)
   rw [h1]
   exact hb hvb
 ·cases h : occurs (pReplaceTerm q n b) n with
  | false => rfl
  | true =>
   rcases occurs_rep h with ⟨_, h1⟩ | h1
   ·exact absurd rfl h1
   ·exact absurd h1 hab
theorem mu_eqP {q y : QueryT} {t u : Int} (hne : t ≠ u) (ht : occurs q t = true) (hu : occurs q u = true) (h : eqP q t u = some y) : mu y < mu q ∧ cQuery y = cQuery q := by
 unfold eqP at h
 rw [show (t == u) = false from by simpa using hne, if_neg (by simp)] at h
 split at h
 ·cases h
 ·rename_i hv
  split at h
  ·rename_i hv2
   cases h
   have huv : isVar u = true := by
    cases h1 : isVar t <;> cases h2 : isVar u <;> simp_all
   exact ⟨mu_rep huv hu (fun h => hne h.symm) (fun _ => ht), rep_size _ _ _⟩
  ·rename_i hv2
   cases h
   have htv : isVar t = true := by
    cases h1 : isVar t <;> simp_all
   exact ⟨mu_rep htv ht hne (fun _ => hu), rep_size _ _ _⟩
def okA (l : List AtomC) : Prop := (∀ a ∈ l, ∀ b ∈ l, a.1 = b.1 → a.2.length = b.2.length) ∧ fineA l
theorem okA_rep {q : QueryT} {a b : Int} (h : okA q.2) (hb : b < 20) : okA (pReplaceTerm q a b).2 := by
 refine ⟨fun x hx y hy hxy => ?_, fun x hx t ht => ?_⟩
 ·simp only [pReplaceTerm, List.mem_map] at hx hy
  obtain ⟨x', hx', rfl⟩ := hx
  obtain ⟨y', hy', rfl⟩ := hy
  simpa [repA] using h.1 x' hx' y' hy' hxy
 ·simp only [pReplaceTerm, List.mem_map] at hx
  obtain ⟨x', hx', rfl⟩ := hx
  simp only [repA, List.mem_map] at ht
  obtain ⟨w, hw, rfl⟩ := ht
  unfold rep1
  split
  ·exact hb
  ·exact h.2 x' hx' w hw
theorem okA_eqP {q y : QueryT} {t u : Int} (h : okA q.2) (ht : t < 20) (hu : u < 20) (he : eqP q t u = some y) : okA y.2 := by
 unfold eqP at he
 split at he
 ·cases he; exact h
 ·split at he
  ·cases he
  ·split at he
   ·cases he; exact okA_rep h ht
   ·cases he; exact okA_rep h hu
abbrev QueryD := List Int × List AtomC
def eqA (a b : AtomC) : Bool := decide (a.1 = b.1) && decide (a.2 = b.2)
theorem eqA_comm (a b : AtomC) : eqA a b = eqA b a := by
 unfold eqA
 rw [show decide (a.1 = b.1) = decide (b.1 = a.1) from decide_eq_decide.2 eq_comm, show decide (a.2 = b.2) = decide (b.2 = a.2) from decide_eq_decide.2 eq_comm]
theorem specEqualAtoms_spec (a b : AtomC) (ha : a.2.length ≤ 1099511627776) (hb : b.2.length ≤ 1099511627776) : Spec Tryz.prog 130 [vAtom a, vAtom b] (cb (eqA a b)) := by
 refine Spec_of mx Γ_ok Tryz.func130 rfl ?_
 conv => whnf
 generalize hb1 : (a.1 == b.1) = b1
 cases b1 with
 | false =>
  conv => whnf
  rw [eqA, decide_eq_false (p := a.1 = b.1) (by simpa using hb1)]
  rfl
 | true =>
  conv => whnf
  refine ⟨_, l2Ints_spec a.2 b.2 ha hb, .inl rfl, .inl ?_⟩
  conv => whnf
  rw [eqA, decide_eq_true (p := a.1 = b.1) (by simpa using hb1)]
  rfl
theorem implEqualAtoms_spec (a b : AtomC) (ha : a.2.length ≤ 1099511627776) (hb : b.2.length ≤ 1099511627776) : Spec Tryz.prog 89 [vAtom a, vAtom b] (cb (eqA a b)) := by
 refine Spec_of mx Γ_ok Tryz.func89 rfl ?_
 conv => whnf
 generalize hb1 : (a.1 == b.1) = b1
 cases b1 with
 | false =>
  conv => whnf
  rw [eqA, decide_eq_false (p := a.1 = b.1) (by simpa using hb1)]
  rfl
 | true =>
  conv => whnf
  refine ⟨_, slicesEq_spec a.2 b.2 ha hb, .inl rfl, .inl ?_⟩
  conv => whnf
  rw [eqA, decide_eq_true (p := a.1 = b.1) (by simpa using hb1)]
  rfl
def dedS (acc : List AtomC) (a : AtomC) : List AtomC := if acc.any (eqA a) then acc else acc ++ [a]
def dedup (xs : List AtomC) : List AtomC := xs.foldl dedS []
def pDedupeAtoms (q : QueryD) : QueryD := (q.1, dedup q.2)
theorem dedup_at {xs : List AtomC} {k : Nat} (hk : k < xs.length) : dedup (xs.take (k + 1)) = dedS (dedup (xs.take k)) xs[k] := by
 unfold dedup
 rw [List.take_succ_eq_append_getElem hk, List.foldl_append]
 rfl
theorem dedS_bound (acc : List AtomC) (a : AtomC) (c : AtomC → Nat) : (dedS acc a).length ≤ acc.length + 1 ∧ sumB c (dedS acc a) ≤ sumB c acc + c a := by
 unfold dedS
 split
 ·exact ⟨by omega, by omega⟩
 ·refine ⟨by simp, ?_⟩
  have : ∀ l : List AtomC, sumB c (l ++ [a]) = sumB c l + c a := by
   intro l
   induction l with
   | nil => simp [sumB]
   | cons x l ih => simp only [List.cons_append, sumB, ih]; omega
  rw [this]
  exact Nat.le_refl _
theorem foldl_bound (c : AtomC → Nat) : ∀ (xs acc : List AtomC), (xs.foldl dedS acc).length ≤ acc.length + xs.length ∧ sumB c (xs.foldl dedS acc) ≤ sumB c acc + sumB c xs
 | [], acc => ⟨Nat.le_refl _, by simp [sumB]⟩
 | x :: xs, acc => by
  have h1 := dedS_bound acc x c
  have h2 := foldl_bound c xs (dedS acc x)
  simp only [List.foldl_cons, List.length_cons, sumB]
  omega
theorem dedup_bound (c : AtomC → Nat) (xs : List AtomC) : (dedup xs).length ≤ xs.length ∧ sumB c (dedup xs) ≤ sumB c xs := by
 have := foldl_bound c xs []
 simpa [dedup, sumB] using this
theorem dedup_take (c : AtomC → Nat) (xs : List AtomC) (k : Nat) : (dedup (xs.take k)).length ≤ xs.length ∧ sumB c (dedup (xs.take k)) ≤ sumB c xs := by
 have h1 := dedup_bound c (xs.take k)
 have h2 := sumB_take (f := c) xs k
 rw [List.length_take] at h1
 omega
set_option maxHeartbeats 4000000 in
theorem specDedupeAtoms_spec (x0 : QueryD) (h0 : cQuery x0 ≤ 1048576) : Spec Tryz.prog 202 [vQuery x0] (wQuery (pDedupeAtoms x0)) := by
 unfold cQuery cAtomS at h0
 refine Spec_of mx Γ_ok Tryz.func202 rfl ?_
 conv => whnf
 refine ⟨rows_len ciL_len _, solid_ci _, ?_⟩
 conv => whnf
 refine ⟨by omega, rfl, _, app_ci [] x0.1, ?_⟩
 conv => whnf
 refine ⟨[(1,0),(2,0),(3,202),(4,0)], fun m s => ∃ (k : Nat) (e : Int) (n1 n : Nat) (r1 r : List V), e = k ∧ m + k = x0.2.length ∧ n1 = x0.1.length ∧ n = (dedup (x0.2.take k)).length ∧ r1 = rows ciL x0.1 ∧ r = rows tAtom (dedup (x0.2.take k)) ∧
  s = ⟨63, [(1, .ptr 0 0), (2, .ptr 1 0), (3, .ptr 2 0), (4, ci e)], [some ⟨true, rQuery x0⟩, some ⟨true, [cnil, cnil]⟩, some ⟨true, [.own 3 1 0 n1 n1 none, .own 4 2 0 n n none]⟩, some ⟨false, r1⟩, some ⟨false, r⟩]⟩, x0.2.length, ⟨0, 0, 0 + x0.1.length, 0, _, _, rfl, rfl, Nat.zero_add _, rfl, by rw [List.nil_append], rfl, rfl⟩, ?_⟩
 rintro m s ⟨k, _, n1, n, _, _, rfl, hm, hn1, hn, rfl, rfl, rfl⟩
 conv => whnf
 split <;> rename_i h1
 all_goals simp only [decide_eq_true_eq, decide_eq_false_iff_not] at h1
 ·conv => whnf
  have hk : k < x0.2.length := by omega
  have hb := sumB_one (f := cAtom) hk
  have hcb : cAtom x0.2[k] = x0.2[k].2.length := rfl
  have hdt := dedup_take cAtom x0.2 k
  generalize hL : dedup (x0.2.take k) = L at hn hdt
  refine ⟨[(1,0),(2,0),(3,202),(4,0),(5,0),(6,0)], fun m s => ∃ (j : Nat) (e : Int) (fl : Bool), e = j ∧ m + j = L.length ∧ L.any (eqA x0.2[k]) = (fl || (L.drop j).any (eqA x0.2[k])) ∧
   s = ⟨63, [(1, .ptr 0 0), (2, .ptr 1 0), (3, .ptr 2 0), (4, ci k), (5, cb fl), (6, ci e)], [some ⟨true, rQuery x0⟩, some ⟨true, [cnil, cnil]⟩, some ⟨true, [.own 3 1 0 n1 n1 none, .own 4 2 0 n n none]⟩, some ⟨false, rows ciL x0.1⟩, some ⟨false, rows tAtom L⟩]⟩, L.length, ⟨0, 0, false, rfl, rfl, rfl, rfl⟩, ?_⟩
  rintro m' s ⟨j, _, fl, rfl, hm', hany, rfl⟩
  conv => whnf
  split <;> rename_i h2
  all_goals simp only [decide_eq_true_eq, decide_eq_false_iff_not] at h2
  ·conv => whnf
   have hj : j < L.length := by omega
   have hbj := sumB_one (f := cAtom) hj
   have hcj : cAtom L[j] = L[j].2.length := rfl
   rw [drop_any hj] at hany
   refine ⟨List.range 15, by kernel_rfl, ?_⟩
   conv => whnf
   cases fl with
   | true =>
    conv => whnf
    exact ⟨m' - 1, by omega, j + 1, _, true, wrap_id (by omega) (by omega), by omega, by rw [hany, Bool.true_or, Bool.true_or], rfl⟩
   | false =>
   conv => whnf
   rw [Bool.false_or] at hany
   refine ⟨by omega, ?_⟩
   conv => whnf
   refine ⟨_, takeN_own (k := j) (d := 0) (m := 2) (xs := L) tAtom_len (Nat.zero_add _) hj (by omega) rfl, ?_⟩
   conv => whnf
   refine ⟨by omega, rows_len rAtom_len _, ?_⟩
   conv => whnf
   refine ⟨_, takeN_rp (k := k) rAtom_len hk, ?_⟩
   conv => whnf
   refine ⟨_, _, _, _, rows_cell (v := intsT L[j].2) tAtom_len (k := j) (d := 1) (by show 0 + j * 2 + 1 = _; omega) hj rfl, roVs_ci _, ?_⟩
   conv => whnf
   refine ⟨_, specEqualAtoms_spec L[j] x0.2[k] (by omega) (by omega), .inr trivial, .inl ?_⟩
   conv => whnf
   refine ⟨m' - 1, by omega, j + 1, _, eqA L[j] x0.2[k], wrap_id (by omega) (by omega), by omega, ?_, rfl⟩
   rw [hany, eqA_comm]
  ·conv => whnf
   rw [drop_end (by omega), List.any_nil, Bool.or_false] at hany
   cases fl with
   | true =>
    conv => whnf
    refine ⟨m - 1, by omega, k + 1, _, n1, n, _, _, wrap_id (by omega) (by omega), by omega, hn1, ?_, rfl, ?_, rfl⟩
    ·rw [dedup_at hk, hL, dedS, hany, if_pos rfl, hn]
    ·rw [dedup_at hk, hL, dedS, hany, if_pos rfl]
   | false =>
   conv => whnf
   have hstep : dedup (x0.2.take (k + 1)) = L ++ [x0.2[k]] := by rw [dedup_at hk, hL, dedS, hany, if_neg (by simp)]
   refine ⟨[0, 1, 2, 3, 4, 5, 6, 7, 9, 10, 11, 12, 13, 14, 8, 15, 16, 17, 18, 19, 20], by kernel_rfl, ?_⟩
   conv => whnf
   refine ⟨by omega, rows_len rAtom_len _, ?_⟩
   conv => whnf
   refine ⟨_, takeN_rp_field (k := k) (d := 0) (m := 1) (r := [ci x0.2[k].1]) rAtom_len hk (by omega) rfl, ?_⟩
   conv => whnf
   refine ⟨by omega, rows_len rAtom_len _, ?_⟩
   conv => whnf
   refine ⟨_, takeN_rp_field (k := k) (d := 1) (m := 1) (r := [ints x0.2[k].2]) rAtom_len hk (by omega) rfl, ?_⟩
   conv => whnf
   refine ⟨rows_len ciL_len _, solid_ci _, ?_⟩
   conv => whnf
   refine ⟨by omega, rfl, _, app_ci [] _, ?_⟩
   conv => whnf
   refine ⟨by rw [rows_len ciL_len, List.nil_append, Nat.zero_add]; rfl, ?_⟩
   conv => whnf
   refine ⟨_, rfl, .inr ⟨fun c hc => ?_, ?_⟩⟩
   ·have hc : c ∈ [ci x0.2[k].1, V.tr 1 (0 + x0.2[k].2.length) (rows ciL ([] ++ x0.2[k].2))] := hc
    simp only [List.mem_cons, List.not_mem_nil, or_false] at hc
    rcases hc with rfl | rfl <;> rfl
   conv => whnf
   refine ⟨by omega, by rw [rows_len tAtom_len, hn], rows tAtom (L ++ [x0.2[k]]), ?_, ?_⟩
   ·rw [List.nil_append, Nat.zero_add]
    exact snoc_rows tAtom _ _
   conv => whnf
   refine ⟨m - 1, by omega, k + 1, _, n1, _, _, _, wrap_id (by omega) (by omega), by omega, hn1, ?_, rfl, ?_, rfl⟩
   ·rw [hstep, List.length_append, hn]
    rfl
   ·rw [hstep]
 ·conv => whnf
  have hkk : k = x0.2.length := by omega
  rw [hkk, List.take_length] at hn ⊢
  subst hn1
  subst hn
  refine ⟨by rw [rows_len ciL_len], by rw [rows_len tAtom_len], rfl⟩
def okT (q : QueryT) : Prop := q.1.all isTerm = true ∧ ∀ a ∈ q.2, a.2.all isTerm = true
structure IsImg (h : Int → Int) (q y : QueryT) : Prop where
 hom : IsHom h q y
 onto : ∀ a ∈ y.2, ∃ c ∈ q.2, appA h c = a
 trm : ∀ t, isTerm t = true → isTerm (app h t) = true
theorem appA_id (a : AtomC) : appA id a = a := Prod.ext rfl ((List.map_congr_left fun t _ => app_id t).trans (List.map_id _))
theorem appA_appA (h k : Int → Int) (a : AtomC) : appA k (appA h a) = appA (fun y => app k (h y)) a := by
 refine Prod.ext rfl ?_
 show (a.2.map (app h)).map (app k) = a.2.map _
 rw [List.map_map]
 exact List.map_congr_left fun t _ => app_app h k t
theorem img_id (q : QueryT) : IsImg id q q := ⟨hom_id q, fun a ha => ⟨a, ha, appA_id a⟩, fun t ht => by rw [app_id]; exact ht⟩
theorem img_comp {h k : Int → Int} {f g t : QueryT} (h1 : IsImg h f g) (h2 : IsImg k g t) : IsImg (fun y => app k (h y)) f t := by
 refine ⟨hom_comp h1.hom h2.hom, fun a ha => ?_, fun x hx => ?_⟩
 ·obtain ⟨c, hc, rfl⟩ := h2.onto a ha
  obtain ⟨d, hd, rfl⟩ := h1.onto c hc
  exact ⟨d, hd, (appA_appA h k d).symm⟩
 ·rw [← app_app]
  exact h2.trm _ (h1.trm x hx)
theorem img_okT {h : Int → Int} {q y : QueryT} (hi : IsImg h q y) (hq : okT q) : okT y := by
 refine ⟨?_, fun a ha => ?_⟩
 ·rw [← hi.hom.1]
  refine List.all_eq_true.2 fun x hx => ?_
  obtain ⟨t, ht, rfl⟩ := List.mem_map.1 hx
  exact hi.trm t (List.all_eq_true.1 hq.1 t ht)
 ·obtain ⟨c, hc, rfl⟩ := hi.onto a ha
  refine List.all_eq_true.2 fun x hx => ?_
  obtain ⟨t, ht, rfl⟩ := List.mem_map.1 hx
  exact hi.trm t (List.all_eq_true.1 (hq.2 c hc) t ht)
theorem app_rep {a b : Int} (ha : isVar a = true) (t : Int) : app (fun x => if x = a then b else x) t = rep1 a b t := by
 unfold app rep1
 by_cases h : t = a
 ·subst h
  rw [if_pos ha]
  simp
 ·cases hv : isVar t <;> simp [h]
theorem img_rep (q : QueryT) {a b : Int} (ha : isVar a = true) (hb : isTerm b = true) : IsImg (fun x => if x = a then b else x) q (pReplaceTerm q a b) := by
 have e : ∀ c : AtomC, appA (fun x => if x = a then b else x) c = repA a b c := fun c => Prod.ext rfl (List.map_congr_left fun t _ => app_rep ha t)
 refine ⟨⟨List.map_congr_left fun t _ => app_rep ha t, fun c hc => ?_⟩, fun c hc => ?_, fun t ht => ?_⟩
 ·rw [e]
  exact List.mem_map.2 ⟨c, hc, rfl⟩
 ·obtain ⟨d, hd, rfl⟩ := List.mem_map.1 hc
  exact ⟨d, hd, e d⟩
 ·rw [app_rep ha]
  unfold rep1
  split
  ·exact hb
  ·exact ht
theorem dedS_mem (acc : List AtomC) (x y : AtomC) : y ∈ dedS acc x ↔ y = x ∨ y ∈ acc := by
 unfold dedS
 split
 ·rename_i h
  obtain ⟨z, hz, he⟩ := List.any_eq_true.1 h
  have hxz : x = z := by
   simp only [eqA, Bool.and_eq_true, decide_eq_true_eq] at he
   exact Prod.ext he.1 he.2
  subst hxz
  exact ⟨.inr, fun h => h.elim (fun e => e ▸ hz) id⟩
 ·simp only [List.mem_append, List.mem_singleton]
  exact or_comm
theorem dedF_mem (y : AtomC) : ∀ (xs acc : List AtomC), y ∈ xs.foldl dedS acc ↔ y ∈ xs ∨ y ∈ acc
 | [], acc => by simp
 | x :: xs, acc => by
  rw [List.foldl_cons, dedF_mem y xs, dedS_mem, List.mem_cons]
  constructor
  ·rintro (h | h | h) <;> simp [h]
  ·rintro ((h | h) | h) <;> simp [h]
theorem mem_dedup (y : AtomC) (xs : List AtomC) : y ∈ dedup xs ↔ y ∈ xs := by
 unfold dedup
 rw [dedF_mem]
 simp
theorem img_dedup (q : QueryT) : IsImg id q (pDedupeAtoms q) := by
 refine ⟨⟨(List.map_congr_left fun t _ => app_id t).trans (List.map_id _), fun a ha => ?_⟩, fun a ha => ?_, fun t ht => by rw [app_id]; exact ht⟩
 ·rw [appA_id]
  exact (mem_dedup a q.2).2 ha
 ·exact ⟨a, (mem_dedup a q.2).1 ha, appA_id a⟩
theorem dedup_pos {xs : List AtomC} (h : 1 ≤ xs.length) : 1 ≤ (dedup xs).length := by
 cases xs with
 | nil => simp at h
 | cons x xs =>
  have := (mem_dedup x (x :: xs)).2 (by simp)
  exact List.length_pos_of_mem this
theorem nonvar_neg {t : Int} (ht : isTerm t = true) (h : isVar t = false) : t < 0 := by
 have := var_iff ht
 rw [h] at this
 by_cases h0 : 0 ≤ t
 ·exact absurd (this.2 h0) (by simp)
 ·omega
theorem eqP_img {q y : QueryT} {t u : Int} (ht : isTerm t = true) (hu : isTerm u = true) (h : eqP q t u = some y) : ∃ f, IsImg f q y ∧ y.2.length = q.2.length := by
 unfold eqP at h
 split at h
 ·cases h
  exact ⟨id, img_id _, rfl⟩
 ·split at h
  ·cases h
  ·rename_i hv
   split at h
   ·rename_i hc
    cases h
    have huv : isVar u = true := by
     cases h1 : isVar t <;> cases h2 : isVar u <;> simp_all
    exact ⟨_, img_rep q huv ht, by simp [pReplaceTerm]⟩
   ·rename_i hc
    cases h
    have htv : isVar t = true := by
     cases h1 : isVar t <;> simp_all
    exact ⟨_, img_rep q htv hu, by simp [pReplaceTerm]⟩
theorem val_rep {v : Int → Int} {a b : Int} (h : val v a = val v b) (x : Int) : val v (rep1 a b x) = val v x := by
 unfold rep1
 split
 ·rename_i he
  have : x = a := by simpa using he
  rw [this, h]
 ·rfl
theorem valA_rep {v : Int → Int} {a b : Int} (h : val v a = val v b) (c : AtomC) : valA v (repA a b c) = valA v c := by
 refine Prod.ext rfl ?_
 show (c.2.map _).map _ = c.2.map _
 rw [List.map_map]
 exact List.map_congr_left fun x _ => val_rep h x
theorem sat_rep {v : Int → Int} {a b : Int} {q : QueryT} {db : List FactC} (h : val v a = val v b) (hs : Sat v db q.2) : Sat v db (pReplaceTerm q a b).2 ∧ (pReplaceTerm q a b).1.map (val v) = q.1.map (val v) := by
 refine ⟨fun c hc => ?_, ?_⟩
 ·obtain ⟨d, hd, rfl⟩ := List.mem_map.1 hc
  rw [valA_rep h]
  exact hs d hd
 ·show (q.1.map _).map _ = q.1.map _
  rw [List.map_map]
  exact List.map_congr_left fun x _ => val_rep h x
theorem eqP_sat {v : Int → Int} {t u : Int} {q : QueryT} {db : List FactC} (ht : isTerm t = true) (hu : isTerm u = true) (h : val v t = val v u) (hs : Sat v db q.2) : ∃ y, eqP q t u = some y ∧ Sat v db y.2 ∧ y.1.map (val v) = q.1.map (val v) := by
 unfold eqP
 split
 ·exact ⟨q, rfl, hs, rfl⟩
 ·rename_i hne
  split
  ·rename_i hv
   simp only [Bool.and_eq_true, Bool.not_eq_true'] at hv
   have e1 := val_neg (v := v) (nonvar_neg ht hv.1)
   have e2 := val_neg (v := v) (nonvar_neg hu hv.2)
   rw [e1, e2] at h
   exact absurd (show (t == u) = true by simp; omega) hne
  ·split
   ·obtain ⟨h1, h2⟩ := sat_rep h.symm hs
    exact ⟨_, rfl, h1, h2⟩
   ·obtain ⟨h1, h2⟩ := sat_rep h hs
    exact ⟨_, rfl, h1, h2⟩
theorem sat_dedup {v : Int → Int} {q : QueryT} {db : List FactC} : Sat v db (pDedupeAtoms q).2 ↔ Sat v db q.2 :=
 ⟨fun h a ha => h a ((mem_dedup a q.2).2 ha), fun h a ha => h a ((mem_dedup a q.2).1 ha)⟩
theorem isQuery_iff (s : List Int) (q : QueryT) : isQuery s q = true ↔ isSchema s = true ∧ (q.1.all isTerm = true ∧ q.1.length ≤ 3) ∧ (1 ≤ q.2.length ∧ q.2.length ≤ 4) ∧ (∀ a ∈ q.2, takesS s a.1 a.2.length = true ∧ a.2.all isTerm = true) ∧ ∀ t ∈ q.1, isVar t = true → occurs q t = true := by
 simp only [isQuery, fineQ, terms3, Bool.and_eq_true, decide_eq_true_eq, List.all_eq_true, isAtom, safeV]
 constructor
 ·rintro ⟨h1, ⟨h2, h3⟩, h4, h5, h6⟩
  have h7 : (1 : Int) ≤ q.2.length ∧ (q.2.length : Int) ≤ 4 := by simpa [inR] using h4
  refine ⟨h1, ⟨h2, h3⟩, ⟨by omega, by omega⟩, h5, fun t ht hv => ?_⟩
  have := h6 t ht
  simpa [hv] using this
 ·rintro ⟨h1, ⟨h2, h3⟩, h4, h5, h6⟩
  refine ⟨h1, ⟨h2, h3⟩, by simp [inR]; omega, h5, fun t ht => ?_⟩
  cases hv : isVar t with
  | false => simp [hv]
  | true => simp [hv, h6 t ht hv]
theorem fineQT_of {q : QueryT} (h : okT q) : fineQT q := by
 have k : ∀ t, isTerm t = true → t ≠ unm := fun t ht e => by
  have := term_rng ht
  rw [e] at this
  unfold unm at this
  omega
 exact ⟨fun t ht => k t (List.all_eq_true.1 h.1 t ht), fun a ha t ht => k t (List.all_eq_true.1 (h.2 a ha) t ht)⟩
theorem isQuery_okT {s : List Int} {q : QueryT} (h : isQuery s q = true) : okT q := by
 obtain ⟨_, ⟨q2, _⟩, _, q5, _⟩ := (isQuery_iff s q).1 h
 exact ⟨q2, fun a ha => (q5 a ha).2⟩
end Go.Proofs.YtcjdfeafcmfgpaaGreatD
