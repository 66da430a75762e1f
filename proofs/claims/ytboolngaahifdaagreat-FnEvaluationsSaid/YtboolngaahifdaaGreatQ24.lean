/- Contracts and plain laws of this seat; no condition. -/
import Derived.Test.YtboolngaahifdaaGreatQ23
import Derived.Test.YtboolngaahifdaaGreatQ11
import Derived.Test.YtboolngaahifdaaGreatQ22
import Derived.Test.YtboolngaahifdaaGreatQ21
import Derived.Test.YtboolngaahifdaaGreatQ20
set_option linter.unusedVariables false
set_option linter.unusedSimpArgs false
set_option maxRecDepth 100000
namespace Go.Proofs.YtboolngaahifdaaGreatD
open Go Go.Proofs
def uCounts (l : List CountC) : V := .tr 2 l.length (rows tCounted l)
theorem solid_tC (x : CountC) : ∀ c ∈ tCounted x, solid c = true := by
 intro c hc
 simp only [tCounted, List.mem_cons, List.not_mem_nil, or_false] at hc
 rcases hc with rfl | rfl <;> rfl
theorem step_cs {cs : List V} {L : List (List Int)} {k : Nat} (h : ∀ p, k ≤ p → ∀ h : p < L.length, cs[p]? = some (intsT L[p])) : ∀ p, k + 1 ≤ p → ∀ h : p < L.length, (cs.set (0 + (k : Int).toNat * 1) .any)[p]? = some (intsT L[p]) := by
 intro p hp hl
 rw [List.getElem?_set_ne (by simp; omega)]
 exact h p (by omega) hl
theorem set_cntT (O : List CountC) (p : CountC) (n : Int) : setC (rows tCounted (O ++ [p])) (0 + O.length * 2 + 1) [ci n] = rows tCounted (O ++ [(p.1, n)]) := by
 have h1 : ∀ (A : List V) (x y z : V), setC (A ++ [x, y]) (A.length + 1) [z] = A ++ [x, z] := by
  intro A x y z
  induction A with
  | nil => rfl
  | cons a A ih => exact congrArg (a :: ·) ih
 have h2 : ∀ q : CountC, rows tCounted (O ++ [q]) = rows tCounted O ++ [intsT q.1, ci q.2] := fun q => (snoc_rows tCounted O q).symm
 rw [h2, h2]
 have h3 := rows_len tCounted_len O
 have h4 : 0 + O.length * 2 + 1 = (rows tCounted O).length + 1 := by rw [h3]; omega
 rw [h4]
 exact h1 _ _ _ _
theorem cntL_at (l : List (List Int)) {k : Nat} (hk : k < l.length) : cntL (l.take (k + 1)) = cntPut (cntL (l.take k)) l[k] := by
 unfold cntL
 rw [List.take_succ_eq_append_getElem hk, List.foldl_append]
 rfl
theorem cntPut_mem {out : List CountC} {t : List Int} {p : CountC} (h : p ∈ cntPut out t) : p ∈ out ∨ (∃ q ∈ out, p = (q.1, q.2 + 1)) ∨ p = (t, 1) := by
 rcases List.eq_nil_or_concat out with rfl | ⟨o, q, rfl⟩
 ·simp only [cntPut, List.getLast?_nil, List.mem_singleton] at h
  exact .inr (.inr h)
 ·rw [List.concat_eq_append, cntPut_snoc] at h
  rw [List.concat_eq_append]
  split at h
  ·rcases List.mem_append.1 h with h | h
   ·exact .inl (by simp [h])
   ·exact .inr (.inl ⟨q, by simp, List.mem_singleton.1 h⟩)
  ·rcases List.mem_append.1 h with h | h
   ·exact .inl h
   ·exact .inr (.inr (List.mem_singleton.1 h))
theorem cntPut_length (out : List CountC) (t : List Int) : (cntPut out t).length ≤ out.length + 1 := by
 rcases List.eq_nil_or_concat out with rfl | ⟨o, q, rfl⟩
 ·simp [cntPut]
 ·rw [List.concat_eq_append, cntPut_snoc]
  split <;> simp
theorem cntF_bd (B : Nat) : ∀ (l : List (List Int)) (out : List CountC), (∀ p ∈ out, 0 ≤ p.2 ∧ p.2 ≤ B) → ((l.foldl cntPut out).length ≤ out.length + l.length ∧ ∀ p ∈ l.foldl cntPut out, 0 ≤ p.2 ∧ p.2 ≤ ((B + l.length : Nat) : Int) ∧ (p.1 ∈ l ∨ ∃ q ∈ out, p.1 = q.1))
 | [], out, h => ⟨by simp, fun p hp => ⟨(h p hp).1, by have := (h p hp).2; simpa using this, .inr ⟨p, hp, rfl⟩⟩⟩
 | t :: l, out, h => by
  have ih := cntF_bd (B + 1) l (cntPut out t) fun p hp => by
   rcases cntPut_mem hp with h1 | ⟨q, h1, rfl⟩ | rfl
   ·have := h p h1; omega
   ·have := h q h1; show 0 ≤ q.2 + 1 ∧ q.2 + 1 ≤ _; omega
   ·show (0 : Int) ≤ 1 ∧ (1 : Int) ≤ _; omega
  have hl := cntPut_length out t
  rw [List.foldl_cons, List.length_cons]
  refine ⟨by omega, fun p hp => ?_⟩
  obtain ⟨h1, h2, h3⟩ := ih.2 p hp
  refine ⟨h1, by omega, ?_⟩
  rcases h3 with h3 | ⟨q, hq, h3⟩
  ·exact .inl (by simp [h3])
  ·rcases cntPut_mem hq with h4 | ⟨q', h4, rfl⟩ | rfl
   ·exact .inr ⟨q, h4, h3⟩
   ·exact .inr ⟨q', h4, h3⟩
   ·exact .inl (by simp [h3])
theorem cntL_bd (l : List (List Int)) : (cntL l).length ≤ l.length ∧ ∀ p ∈ cntL l, 0 ≤ p.2 ∧ p.2 ≤ (l.length : Int) ∧ p.1 ∈ l := by
 obtain ⟨h1, h2⟩ := cntF_bd 0 l [] fun p hp => by cases hp
 refine ⟨Nat.le_trans h1 (by simp), fun p hp => ?_⟩
 obtain ⟨h3, h4, h5⟩ := h2 p hp
 refine ⟨h3, by simpa using h4, ?_⟩
 rcases h5 with h5 | ⟨q, hq, _⟩
 ·exact h5
 ·cases hq
set_option maxHeartbeats 4000000 in
theorem specCountAnswers_spec (s : List Int) (q : QueryE) (db : List FactC) (hs : cSchema s ≤ 1048576) (hq : cQuery q ≤ 1048576) (hd : cFactS db ≤ 1048576) : Spec Tryz.prog 13 [vSchema s, vQuery q, vFactS db] (uCounts (countsS s q db)) := by
 refine Spec_of mx Γ_ok Tryz.func13 rfl ?_
 conv => whnf
 refine ⟨List.range 8, by kernel_rfl, ?_⟩
 conv => whnf
 refine ⟨_, specBindings_spec s q db hs hq hd, .inl rfl, .inl ?_⟩
 rw [wLists_ro]
 conv => whnf
 have hq' := hq
 unfold cQuery at hq'
 unfold bindingsS countsS
 generalize hb1 : (isQuery s q && isDb s db) = b1
 cases b1 with
 | false =>
  refine ⟨_, l6Heads_nil q hq, .inl rfl, .inl ?_⟩
  rw [wLists_ro]
  conv => whnf
  refine ⟨_, l6Sort_spec [] false (by simp) (by simp), .inl rfl, .inr ?_⟩
  conv => whnf
  refine ⟨[(6,0),(7,0),(8,0),(9,0)], fun m s => s = ⟨63, [(6, cnil), (7, .own 0 1 0 0 0 none), (8, .own 1 2 0 0 0 none), (9, ci 0)], [some ⟨false, []⟩, some ⟨false, []⟩]⟩, 0, by (show _ = _; kernel_rfl), ?_⟩
  rintro m s rfl
  conv => whnf
  exact ⟨rfl, rfl⟩
 | true =>
  simp only [Bool.and_eq_true] at hb1
  obtain ⟨t1, t2, t3⟩ := isQuery_terms hb1.1
  obtain ⟨r1, r2⟩ := rawP_ok q db
  have hp := pow_small (isDb_len hb1.2) t3
  refine ⟨_, l6Heads_spec q (rawP q db) hq (by omega) (fun v hv => by obtain ⟨b, _, rfl⟩ := r1 v hv; rfl) t1, .inl rfl, .inl ?_⟩
  rw [wLists_ro]
  conv => whnf
  refine ⟨_, l6Sort_spec ((rawP q db).map fun v => q.1.map (tS v)) false (by rw [List.length_map]; omega) (fun v hv => by obtain ⟨x, _, rfl⟩ := List.mem_map.1 hv; rw [List.length_map]; omega), .inl rfl, .inr ?_⟩
  have hL1 := sortL_len false ((rawP q db).map fun v => q.1.map (tS v))
  rw [List.length_map] at hL1
  have hL2 : ∀ x ∈ sortL false ((rawP q db).map fun v => q.1.map (tS v)), x.length ≤ 1048576 := fun x hx => by
   obtain ⟨v, _, rfl⟩ := List.mem_map.1 (mem_sortL hx)
   rw [List.length_map]
   omega
  generalize sortL false ((rawP q db).map fun v => q.1.map (tS v)) = L at hL1 hL2
  conv => whnf
  refine ⟨[(6,0),(7,0),(8,0),(9,0)], fun m s => ∃ (k : Nat) (e : Int) (O : List CountC) (n : Nat) (r cs : List V), e = k ∧ m + k = L.length ∧ O = cntL (L.take k) ∧ n = O.length ∧ r = rows tCounted O ∧ cs.length = L.length ∧ (∀ p, k ≤ p → ∀ h : p < L.length, cs[p]? = some (intsT L[p])) ∧
   s = ⟨63, [(6, cnil), (7, .own 0 1 0 L.length L.length none), (8, .own 1 2 0 n n none), (9, ci e)], [some ⟨false, cs⟩, some ⟨false, r⟩]⟩, L.length, ⟨0, 0, [], 0, [], rows tL L, rfl, rfl, rfl, rfl, rfl, by rw [rows_len tL_len, Nat.mul_one], fun p _ h => rows_cell (v := intsT L[p]) (f := tL) tL_len (k := p) (d := 0) (by omega) h rfl, by kernel_rfl⟩, ?_⟩
  rintro m s ⟨k, _, O, n, _, cs, rfl, hm, hO, hn, rfl, hcl, hcs, rfl⟩
  have hbd := cntL_bd (L.take k)
  rw [← hO, List.length_take] at hbd
  conv => whnf
  split <;> rename_i h1
  all_goals simp only [decide_eq_true_eq, decide_eq_false_iff_not] at h1
  ·conv => whnf
   have hk : k < L.length := by omega
   have hnx := cntL_at L hk
   rw [← hO] at hnx
   have hLk := hL2 _ (List.getElem_mem hk)
   have hcell : cs[0 + (k : Int).toNat * 1]? = some (intsT L[k]) := by
    have := hcs k (Nat.le_refl _) hk
    simpa using this
   refine ⟨[0, 1, 2, 3, 4, 5, 6, 7, 8, 9, 10, 11, 12, 13, 14], by kernel_rfl, ?_⟩
   conv => whnf
   rcases List.eq_nil_or_concat O with hO0 | ⟨O', p, hO1⟩
   ·subst hO0
    obtain rfl : n = 0 := hn
    conv => whnf
    refine ⟨by omega, ?_⟩
    conv => whnf
    refine ⟨_, take1 hcell, ?_⟩
    conv => whnf
    refine ⟨_, _, _, hcell, ?_⟩
    conv => whnf
    refine ⟨_, rfl, .inr ⟨solid_tC (L[k], 1), ?_⟩⟩
    conv => whnf
    refine ⟨by omega, rfl, _, snoc_rows tCounted [] (L[k], 1), ?_⟩
    conv => whnf
    exact ⟨m - 1, by omega, k + 1, _, [(L[k], 1)], 1, _, cs.set (0 + (k : Int).toNat * 1) .any, wrap_id (by omega) (by omega), by omega, hnx.symm, rfl, rfl, by rw [List.length_set, hcl], step_cs hcs, by kernel_rfl⟩
   ·rw [List.concat_eq_append] at hO1
    subst hO1
    rw [cntPut_snoc] at hnx
    have hn' : n = O'.length + 1 := by rw [hn]; simp
    rw [show decide ((n : Int) > 0) = true from decide_eq_true (by omega)]
    conv => whnf
    have hp1 := hbd.2 p (by simp)
    have hpm := hL2 _ (List.mem_of_mem_take hp1.2.2)
    rw [show IntKind.i64.wrap ((n : Int) - 1) = ((O'.length : Nat) : Int) from (wrap_id (by omega) (by omega)).trans (by omega)]
    have hbl := hbd.1
    have hnl : O'.length < (O' ++ [p]).length := by simp
    have hget : (O' ++ [p])[O'.length]'hnl = p := by simp
    refine ⟨by omega, ?_⟩
    conv => whnf
    refine ⟨_, takeN_own (f := tCounted) (k := O'.length) (d := 0) (m := 1) (xs := O' ++ [p]) (r := [intsT p.1]) tCounted_len (by show 0 + ((O'.length : Nat) : Int).toNat * 2 + 0 = _; omega) hnl (by omega) (by rw [hget]; rfl), ?_⟩
    conv => whnf
    refine ⟨by omega, ?_⟩
    conv => whnf
    refine ⟨_, take1 hcell, ?_⟩
    conv => whnf
    refine ⟨_, _, _, _, rows_cell (v := intsT p.1) (f := tCounted) tCounted_len (k := O'.length) (d := 0) (by show 0 + ((O'.length : Nat) : Int).toNat * 2 + 0 = _; omega) hnl (by rw [hget]; rfl), roVs_ci _, ?_⟩
    conv => whnf
    refine ⟨_, _, _, _, hcell, roVs_ci _, ?_⟩
    conv => whnf
    refine ⟨_, l2Ints_spec p.1 L[k] (by omega) (by omega), .inr trivial, .inl ?_⟩
    generalize hq1 : decide (p.1 = L[k]) = q1
    cases q1 with
    | true =>
     conv => whnf
     rw [if_pos (of_decide_eq_true hq1)] at hnx
     rw [show IntKind.i64.wrap ((n : Int) - 1) = ((O'.length : Nat) : Int) from (wrap_id (by omega) (by omega)).trans (by omega)]
     refine ⟨by omega, ?_⟩
     conv => whnf
     refine ⟨_, takeN_own (f := tCounted) (k := O'.length) (d := 1) (m := 1) (xs := O' ++ [p]) (r := [ci p.2]) tCounted_len (by show 0 + ((O'.length : Nat) : Int).toNat * 2 + 1 = _; omega) hnl (by omega) (by rw [hget]; rfl), ?_⟩
     conv => whnf
     rw [show IntKind.i64.wrap (p.2 + 1) = p.2 + 1 from wrap_id (by omega) (by omega)]
     refine ⟨by omega, ?_⟩
     conv => whnf
     refine ⟨_, takeN_own (f := tCounted) (k := O'.length) (d := 1) (m := 1) (xs := O' ++ [p]) (r := [ci p.2]) tCounted_len (by show 0 + ((O'.length : Nat) : Int).toNat * 2 + 1 = _; omega) hnl (by omega) (by rw [hget]; rfl), _, set_cntT O' p (p.2 + 1), ?_⟩
     conv => whnf
     exact ⟨m - 1, by omega, k + 1, _, O' ++ [(p.1, p.2 + 1)], n, _, cs, wrap_id (by omega) (by omega), by omega, hnx.symm, by rw [hn]; simp, rfl, hcl, (fun p hp h => hcs p (by omega) h), by kernel_rfl⟩
    | false =>
     conv => whnf
     rw [if_neg (of_decide_eq_false hq1)] at hnx
     refine ⟨by omega, ?_⟩
     conv => whnf
     refine ⟨_, take1 hcell, ?_⟩
     conv => whnf
     refine ⟨_, _, _, hcell, ?_⟩
     conv => whnf
     refine ⟨_, rfl, .inr ⟨solid_tC (L[k], 1), ?_⟩⟩
     conv => whnf
     refine ⟨by omega, by rw [rows_len tCounted_len, hn], _, snoc_rows tCounted _ (L[k], 1), ?_⟩
     conv => whnf
     exact ⟨m - 1, by omega, k + 1, _, O' ++ [p] ++ [(L[k], 1)], n + 1, _, cs.set (0 + (k : Int).toNat * 1) .any, wrap_id (by omega) (by omega), by omega, hnx.symm, by rw [hn]; simp, rfl, by rw [List.length_set, hcl], step_cs hcs, by kernel_rfl⟩
  ·conv => whnf
   have hkk : k = L.length := by omega
   rw [hkk, List.take_length] at hO
   rw [hn, hO]
   exact ⟨by rw [rows_len tCounted_len], rfl⟩
set_option maxHeartbeats 4000000 in
theorem counted_spec (xs : List (List Int)) (hb : ∀ x ∈ xs, x.length ≤ 1048576) (hsz : xs.length ≤ 549755813888) :
  SpecG Tryz.prog 74 [.own 0 1 0 xs.length xs.length none] [some ⟨false, rows tL xs⟩] fun r g2 => ∃ (ys : List (List Int)) (cs : List V), ys.Perm xs ∧ ys.Pairwise (fun a b => ¬ cmpI b a < 0) ∧ r = .tr 2 (cntL ys).length (rows tCounted (cntL ys)) ∧ g2 = [some ⟨false, cs⟩] := by
 refine SpecG_of mx Γ_ok 1 Tryz.func74 rfl rfl (by decide) ?_
 conv => whnf
 refine .inr (.inr ⟨[0], [], ?_⟩)
 conv => whnf
 refine ⟨_, sortLists_spec xs (fun x hx => by have := hb x hx; omega) (by omega), fun r g2 hP => ?_⟩
 obtain ⟨rfl, L, hp, hs, rfl⟩ := hP
 have hl : xs.length = L.length := hp.length_eq.symm
 have hL2 : ∀ x ∈ L, x.length ≤ 1048576 := fun x hx => hb x (hp.mem_iff.1 hx)
 refine .inl ?_
 conv => whnf
 refine ⟨[(2,0),(3,0),(10,0),(11,0),(12,0)], fun m s => ∃ (k : Nat) (e : Int) (O : List CountC) (n : Nat) (r cs : List V), e = k ∧ m + k = L.length ∧ O = cntL (L.take k) ∧ n = O.length ∧ r = rows tCounted O ∧ cs.length = L.length ∧ (∀ p, k ≤ p → ∀ h : p < L.length, cs[p]? = some (intsT L[p])) ∧
  s = ⟨46, [(2, cnil), (3, .own 1 2 0 n n none), (10, .own 0 1 0 xs.length xs.length none), (11, ci xs.length), (12, ci e)], [some ⟨false, cs⟩, some ⟨false, r⟩]⟩, L.length, ⟨0, 0, [], 0, [], rows tL L, rfl, rfl, rfl, rfl, rfl, by rw [rows_len tL_len, Nat.mul_one], fun p _ h => rows_cell (v := intsT L[p]) (f := tL) tL_len (k := p) (d := 0) (by omega) h rfl, by kernel_rfl⟩, ?_⟩
 rintro m s ⟨k, _, O, n, _, cs, rfl, hm, hO, hn, rfl, hcl, hcs, rfl⟩
 have hbd := cntL_bd (L.take k)
 rw [← hO, List.length_take] at hbd
 conv => whnf
 split <;> rename_i h1
 all_goals simp only [decide_eq_true_eq, decide_eq_false_iff_not] at h1
 ·conv => whnf
  have hk : k < L.length := by omega
  have hnx := cntL_at L hk
  rw [← hO] at hnx
  have hLk := hL2 _ (List.getElem_mem hk)
  have hcell : cs[0 + (k : Int).toNat * 1]? = some (intsT L[k]) := by
   have := hcs k (Nat.le_refl _) hk
   simpa using this
  refine ⟨by omega, ?_⟩
  conv => whnf
  refine ⟨_, take1 hcell, ?_⟩
  conv => whnf
  rcases List.eq_nil_or_concat O with hO0 | ⟨O', p, hO1⟩
  ·subst hO0
   obtain rfl : n = 0 := hn
   conv => whnf
   refine ⟨_, _, _, hcell, ?_⟩
   conv => whnf
   refine ⟨_, rfl, .inr ⟨solid_tC (L[k], 1), ?_⟩⟩
   conv => whnf
   refine ⟨by omega, rfl, _, snoc_rows tCounted [] (L[k], 1), ?_⟩
   conv => whnf
   exact ⟨m - 1, by omega, k + 1, _, [(L[k], 1)], 1, _, cs.set (0 + (k : Int).toNat * 1) .any, wrap_id (by omega) (by omega), by omega, hnx.symm, rfl, rfl, by rw [List.length_set, hcl], step_cs hcs, by kernel_rfl⟩
  ·rw [List.concat_eq_append] at hO1
   subst hO1
   rw [cntPut_snoc] at hnx
   have hn' : n = O'.length + 1 := by rw [hn]; simp
   rw [show decide ((n : Int) > 0) = true from decide_eq_true (by omega)]
   conv => whnf
   have hp1 := hbd.2 p (by simp)
   have hpm := hL2 _ (List.mem_of_mem_take hp1.2.2)
   rw [show IntKind.i64.wrap ((n : Int) - 1) = ((O'.length : Nat) : Int) from (wrap_id (by omega) (by omega)).trans (by omega)]
   have hbl := hbd.1
   have hnl : O'.length < (O' ++ [p]).length := by simp
   have hget : (O' ++ [p])[O'.length]'hnl = p := by simp
   refine ⟨by omega, ?_⟩
   conv => whnf
   refine ⟨_, takeN_own (f := tCounted) (k := O'.length) (d := 0) (m := 1) (xs := O' ++ [p]) (r := [intsT p.1]) tCounted_len (by show 0 + ((O'.length : Nat) : Int).toNat * 2 + 0 = _; omega) hnl (by omega) (by rw [hget]; rfl), ?_⟩
   conv => whnf
   refine .inl ?_
   conv => whnf
   refine ⟨_, _, _, _, rows_cell (v := intsT p.1) (f := tCounted) tCounted_len (k := O'.length) (d := 0) (by show 0 + ((O'.length : Nat) : Int).toNat * 2 + 0 = _; omega) hnl (by rw [hget]; rfl), roVs_ci _, ?_⟩
   conv => whnf
   refine ⟨_, _, _, _, hcell, roVs_ci _, ?_⟩
   conv => whnf
   refine ⟨_, slicesEq_spec p.1 L[k] (by omega) (by omega), .inr trivial, .inl ?_⟩
   generalize hq1 : decide (p.1 = L[k]) = q1
   cases q1 with
   | true =>
    conv => whnf
    rw [if_pos (of_decide_eq_true hq1)] at hnx
    rw [show IntKind.i64.wrap ((n : Int) - 1) = ((O'.length : Nat) : Int) from (wrap_id (by omega) (by omega)).trans (by omega)]
    refine ⟨by omega, ?_⟩
    conv => whnf
    refine ⟨_, takeN_own (f := tCounted) (k := O'.length) (d := 1) (m := 1) (xs := O' ++ [p]) (r := [ci p.2]) tCounted_len (by show 0 + ((O'.length : Nat) : Int).toNat * 2 + 1 = _; omega) hnl (by omega) (by rw [hget]; rfl), ?_⟩
    conv => whnf
    rw [show IntKind.i64.wrap (p.2 + 1) = p.2 + 1 from wrap_id (by omega) (by omega)]
    refine ⟨by omega, ?_⟩
    conv => whnf
    refine ⟨_, takeN_own (f := tCounted) (k := O'.length) (d := 1) (m := 1) (xs := O' ++ [p]) (r := [ci p.2]) tCounted_len (by show 0 + ((O'.length : Nat) : Int).toNat * 2 + 1 = _; omega) hnl (by omega) (by rw [hget]; rfl), _, set_cntT O' p (p.2 + 1), ?_⟩
    conv => whnf
    exact ⟨m - 1, by omega, k + 1, _, O' ++ [(p.1, p.2 + 1)], n, _, cs, wrap_id (by omega) (by omega), by omega, hnx.symm, by rw [hn]; simp, rfl, hcl, (fun p hp h => hcs p (by omega) h), by kernel_rfl⟩
   | false =>
    conv => whnf
    rw [if_neg (of_decide_eq_false hq1)] at hnx
    refine ⟨_, _, _, hcell, ?_⟩
    conv => whnf
    refine ⟨_, rfl, .inr ⟨solid_tC (L[k], 1), ?_⟩⟩
    conv => whnf
    refine ⟨by omega, by rw [rows_len tCounted_len, hn], _, snoc_rows tCounted _ (L[k], 1), ?_⟩
    conv => whnf
    exact ⟨m - 1, by omega, k + 1, _, O' ++ [p] ++ [(L[k], 1)], n + 1, _, cs.set (0 + (k : Int).toNat * 1) .any, wrap_id (by omega) (by omega), by omega, hnx.symm, by rw [hn]; simp, rfl, by rw [List.length_set, hcl], step_cs hcs, by kernel_rfl⟩
 ·conv => whnf
  have hkk : k = L.length := by omega
  rw [hkk, List.take_length] at hO
  refine ⟨[], ?_⟩
  conv => whnf
  refine ⟨by rw [rows_len tCounted_len, hn], ?_⟩
  refine ⟨L, cs, hp, hs, ?_, rfl⟩
  rw [hn, ← hO]
theorem countsI_eq {s : List Int} {q : QueryE} {db : List FactC} (hq : isQuery s q = true) (hd : isDb s db = true) {ys : List (List Int)} (hp : ys.Perm (headsP q db)) (hs : ys.Pairwise fun a b => ¬ cmpI b a < 0) : cntL ys = countsS s q db := by
 unfold countsS
 rw [hq, hd, Bool.and_self, if_pos rfl]
 congr 1
 have hA : Asc ys := hs.imp fun {a b} h => by
  cases hlt : ltI b a with
  | false => rfl
  | true => rw [ltI_cmp] at hlt; exact absurd (of_decide_eq_true hlt) h
 obtain ⟨h1, h2⟩ := sortF_ok ((rawP q db).map fun v => q.1.map (tS v))
 exact asc_eq hA h1 (hp.trans ((heads_perm hq hd).symm.trans h2.symm))
set_option maxHeartbeats 4000000 in
theorem implCountAnswers_spec (s : List Int) (q : QueryE) (db : List FactC) (hs : cSchema s ≤ 1048576) (hq : cQuery q ≤ 1048576) (hd : cFactS db ≤ 1048576) : Spec Tryz.prog 12 [vSchema s, vQuery q, vFactS db] (uCounts (countsS s q db)) := by
 have hs' : s.length ≤ 1099511627776 := by unfold cSchema at hs; omega
 refine Spec_of mx Γ_ok Tryz.func12 rfl ?_
 conv => whnf
 refine ⟨_, implIsQuery_spec s q hs hq, .inl rfl, .inl ?_⟩
 conv => whnf
 generalize hb1 : isQuery s q = b1
 cases b1 with
 | false =>
  conv => whnf
  unfold countsS
  rw [hb1]
  exact ⟨rfl, rfl⟩
 | true =>
  conv => whnf
  refine ⟨_, implIsDatabase_spec s db hs' hd, .inl rfl, .inl ?_⟩
  conv => whnf
  generalize hb2 : isDb s db = b2
  cases b2 with
  | false =>
   conv => whnf
   unfold countsS
   rw [hb1, hb2]
   exact ⟨rfl, rfl⟩
  | true =>
   conv => whnf
   obtain ⟨t1, t2, t3⟩ := isQuery_terms hb1
   have hp := pow_small (isDb_len hb2) t3
   have hl := visitL_len db q.2 bNone
   refine ⟨_, heads_spec q db hq hd t2 (by omega), .inl rfl, .inr ?_⟩
   conv => whnf
   refine .inr (.inr ⟨[2], [], ?_⟩)
   conv => whnf
   have hq' := hq
   unfold cQuery at hq'
   refine ⟨_, counted_spec (headsP q db) (fun x hx => by
    obtain ⟨b, _, rfl⟩ := List.mem_map.1 hx
    rw [tupOf, List.length_map]; omega) (by rw [headsP, List.length_map]; omega), fun r g2 hP => ?_⟩
   obtain ⟨ys, cs, h1, h2, rfl, rfl⟩ := hP
   rw [countsI_eq hb1 hb2 h1 h2]
   refine .inr ?_
   conv => whnf
   exact ⟨by rw [rows_len tCounted_len], rfl⟩
theorem bindings_eq {s : List Int} {q : QueryE} {db : List FactC} (hq : isQuery s q = true) (hd : isDb s db = true) {ys : List (List Int)} (hp : ys.Perm ((visitL db q.2 bNone).map sV)) (hs : ys.Pairwise fun a b => ¬ cmpI b a < 0) : ys = bindingsS s q db := by
 unfold bindingsS
 rw [hq, hd, Bool.and_self, if_pos rfl]
 have hA : Asc ys := hs.imp fun {a b} h => by
  cases hlt : ltI b a with
  | false => rfl
  | true => rw [ltI_cmp] at hlt; exact absurd (of_decide_eq_true hlt) h
 exact asc_eq hA (strict_asc (sortL_ok _).1) (hp.trans (rawP_perm hq hd).symm)
set_option maxHeartbeats 4000000 in
theorem implBindings_spec (s : List Int) (q : QueryE) (db : List FactC) (hs : cSchema s ≤ 1048576) (hq : cQuery q ≤ 1048576) (hd : cFactS db ≤ 1048576) : Spec Tryz.prog 9 [vSchema s, vQuery q, vFactS db] (wLists (bindingsS s q db)) := by
 have hs' : s.length ≤ 1099511627776 := by unfold cSchema at hs; omega
 have hb : cAtomS q.2 ≤ 1048576 := by unfold cQuery at hq; omega
 refine Spec_of mx Γ_ok Tryz.func9 rfl ?_
 conv => whnf
 refine ⟨_, implIsQuery_spec s q hs hq, .inl rfl, .inl ?_⟩
 conv => whnf
 generalize hb1 : isQuery s q = b1
 cases b1 with
 | false =>
  conv => whnf
  unfold bindingsS
  rw [hb1]
  exact ⟨rfl, rfl⟩
 | true =>
  conv => whnf
  refine ⟨_, implIsDatabase_spec s db hs' hd, .inl rfl, .inl ?_⟩
  conv => whnf
  generalize hb2 : isDb s db = b2
  cases b2 with
  | false =>
   conv => whnf
   unfold bindingsS
   rw [hb1, hb2]
   exact ⟨rfl, rfl⟩
  | true =>
   conv => whnf
   obtain ⟨t1, t2, t3⟩ := isQuery_terms hb1
   have hp := pow_small (isDb_len hb2) t3
   have hl := visitL_len db q.2 bNone
   have hv := visitB_spec q.2 db hb hd t2 q.2.length 0 (Nat.zero_add _) bNone [] (by simp only [List.length_nil]; omega)
   refine .inr (.inr ⟨[3, 2], [], ?_⟩)
   conv => whnf
   refine ⟨_, hv, fun r g2 hP => ?_⟩
   obtain ⟨rfl, hv⟩ := hP
   rw [List.drop_zero] at hv
   have hB : ∀ x ∈ (visitL db q.2 bNone).map sV, x.length ≤ 1099511627776 := fun x hx => by
    obtain ⟨b, _, rfl⟩ := List.mem_map.1 hx
    show ((sB b).take 20).length ≤ _
    rw [List.length_take]; omega
   rcases hv with ⟨hn0, rfl⟩ | rfl
   ·refine .inl ?_
    conv => whnf
    refine .inr (.inr ⟨[2], [], ?_⟩)
    conv => whnf
    refine ⟨_, sortLists_spec [] (fun x hx => by cases hx) (by simp), fun r g2 hP => ?_⟩
    obtain ⟨rfl, ys, h1, h2, rfl⟩ := hP
    obtain rfl : ys = [] := List.Perm.eq_nil h1
    refine .inl ?_
    conv => whnf
    have := bindings_eq hb1 hb2 (ys := []) (by rw [hn0]) List.Pairwise.nil
    rw [← this]
    exact ⟨rfl, rfl⟩
   ·refine .inl ?_
    conv => whnf
    refine .inr (.inr ⟨[4], [], ?_⟩)
    conv => whnf
    have hzl : ([] ++ (visitL db q.2 bNone).map sV).length ≤ 1099511627776 := by rw [List.nil_append, List.length_map]; omega
    refine ⟨_, sortLists_spec ([] ++ (visitL db q.2 bNone).map sV) hB hzl, fun r g2 hP => ?_⟩
    obtain ⟨rfl, ys, h1, h2, rfl⟩ := hP
    rw [h1.length_eq.symm]
    have hys := bindings_eq hb1 hb2 h1 h2
    refine .inl ?_
    conv => whnf
    rw [← hys]
    exact ⟨by rw [rows_len tL_len], rfl⟩
def sameT (a b : List (List Int)) : Bool := (a.all fun x => hasL b x) && b.all fun x => hasL a x
theorem sameT_iff (a b : List (List Int)) : sameT a b = true ↔ ∀ x, x ∈ a ↔ x ∈ b := by
 simp only [sameT, Bool.and_eq_true, List.all_eq_true, hasL_iff]
 exact ⟨fun h x => ⟨h.1 x, h.2 x⟩, fun h => ⟨fun x hx => (h x).1 hx, fun x hx => (h x).2 hx⟩⟩
set_option maxHeartbeats 1000000 in
theorem implSameTuples_spec (a b : List (List Int)) (ha : a.length ≤ 1099511627776) (ha2 : ∀ y ∈ a, y.length ≤ 1099511627776) (hl : b.length ≤ 1099511627776) (hb : ∀ y ∈ b, y.length ≤ 1099511627776) : Spec Tryz.prog 21 [vLists a, vLists b] (cb (sameT a b)) := by
 refine Spec_of mx Γ_ok Tryz.func21 rfl ?_
 conv => whnf
 refine ⟨[(0,0),(1,0),(4,0),(9,0),(10,0),(11,0)], fun m st => ∃ (k : Nat) (e : Int), e = k ∧ m + k = a.length ∧ (a.all fun x => hasL b x) = ((a.drop k).all fun y => hasL b y) ∧
  st = ⟨31, [(0, vLists a), (1, vLists b), (4, cb false), (9, vLists a), (10, ci a.length), (11, ci e)], []⟩, a.length, ⟨0, 0, rfl, rfl, rfl, rfl⟩, ?_⟩
 rintro m st ⟨k, _, rfl, hm, hany, rfl⟩
 conv => whnf
 split <;> rename_i h1
 all_goals simp only [decide_eq_true_eq, decide_eq_false_iff_not] at h1
 ·conv => whnf
  have hk : k < a.length := by omega
  rw [List.drop_eq_getElem_cons hk, List.all_cons] at hany
  refine ⟨by omega, rows_len rL_len _, ?_⟩
  conv => whnf
  refine ⟨_, takeN_rp (k := k) rL_len hk, ?_⟩
  conv => whnf
  refine ⟨_, hasTuple_spec b a[k] hl hb (ha2 _ (List.getElem_mem hk)), .inl rfl, .inl ?_⟩
  conv => whnf
  generalize hasL b a[k] = c at hany
  cases c with
  | false =>
   conv => whnf
   unfold sameT
   rw [hany]
   rfl
  | true =>
   conv => whnf
   rw [Bool.true_and] at hany
   exact ⟨m - 1, by omega, k + 1, _, wrap_id (by omega) (by omega), by omega, hany, rfl⟩
 ·conv => whnf
  have hall : (a.all fun x => hasL b x) = true := by rw [hany, List.drop_eq_nil_of_le (by omega)]; rfl
  refine ⟨[(0,0),(4,0),(20,0),(21,0),(22,0)], fun m st => ∃ (k : Nat) (e : Int), e = k ∧ m + k = b.length ∧ (b.all fun x => hasL a x) = ((b.drop k).all fun y => hasL a y) ∧
   st = ⟨31, [(0, vLists a), (4, cb false), (20, vLists b), (21, ci b.length), (22, ci e)], []⟩, b.length, ⟨0, 0, rfl, rfl, rfl, rfl⟩, ?_⟩
  clear hany hm h1
  rintro m st ⟨k, _, rfl, hm, hany, rfl⟩
  conv => whnf
  split <;> rename_i h1
  all_goals simp only [decide_eq_true_eq, decide_eq_false_iff_not] at h1
  ·conv => whnf
   have hk : k < b.length := by omega
   rw [List.drop_eq_getElem_cons hk, List.all_cons] at hany
   refine ⟨by omega, rows_len rL_len _, ?_⟩
   conv => whnf
   refine ⟨_, takeN_rp (k := k) rL_len hk, ?_⟩
   conv => whnf
   refine ⟨_, hasTuple_spec a b[k] ha ha2 (hb _ (List.getElem_mem hk)), .inl rfl, .inl ?_⟩
   conv => whnf
   generalize hasL a b[k] = c at hany
   cases c with
   | false =>
    conv => whnf
    unfold sameT
    rw [hall, hany]
    rfl
   | true =>
    conv => whnf
    rw [Bool.true_and] at hany
    exact ⟨m - 1, by omega, k + 1, _, wrap_id (by omega) (by omega), by omega, hany, rfl⟩
  ·conv => whnf
   unfold sameT
   rw [hall, hany, List.drop_eq_nil_of_le (by omega)]
   rfl
theorem sortT_iff (a b : List (List Int)) : sortL true a = sortL true b ↔ ∀ x, x ∈ a ↔ x ∈ b := by
 obtain ⟨a1, a2⟩ := sortL_ok a
 obtain ⟨b1, b2⟩ := sortL_ok b
 constructor
 ·intro h x
  rw [← a2 x, ← b2 x, h]
 ·intro h
  exact strict_unique totI a1 b1 fun x => by rw [a2 x, b2 x]; exact h x
set_option maxHeartbeats 4000000 in
theorem specSameTuples_spec (a b : List (List Int)) (ha : a.length ≤ 549755813888) (ha2 : ∀ v ∈ a, v.length ≤ 1099511627776) (hb : b.length ≤ 549755813888) (hb2 : ∀ v ∈ b, v.length ≤ 1099511627776) : Spec Tryz.prog 22 [vLists a, vLists b] (cb (decide (sortL true a = sortL true b))) := by
 refine Spec_of mx Γ_ok Tryz.func22 rfl ?_
 conv => whnf
 refine ⟨_, l6Sort_spec a true ha ha2, .inl rfl, .inl ?_⟩
 rw [wLists_ro]
 conv => whnf
 refine ⟨_, l6Sort_spec b true hb hb2, .inl rfl, .inl ?_⟩
 rw [wLists_ro]
 have hX : ∀ x ∈ sortL true a, x.length ≤ 1099511627776 := fun x hx => ha2 x (mem_sortL hx)
 have hY : ∀ x ∈ sortL true b, x.length ≤ 1099511627776 := fun x hx => hb2 x (mem_sortL hx)
 have hXl := sortL_len true a
 have hYl := sortL_len true b
 generalize sortL true a = X at hX hXl
 generalize sortL true b = Y at hY hYl
 conv => whnf
 generalize hne : ((X.length : Int) != (Y.length : Int)) = c
 cases c with
 | true =>
  conv => whnf
  have : X ≠ Y := fun e => by rw [e] at hne; simp at hne
  rw [decide_eq_false this]
  rfl
 | false =>
  have hlen : X.length = Y.length := by
   have : (X.length : Int) = Y.length := by simpa using hne
   omega
  conv => whnf
  refine ⟨[(4,0),(5,0),(6,0),(7,0)], fun m s => ∃ (k : Nat) (e : Int), e = k ∧ m + k = X.length ∧ X.take k = Y.take k ∧
   s = ⟨33, [(4, cb false), (5, vLists X), (6, vLists Y), (7, ci e)], []⟩, X.length, ⟨0, 0, rfl, rfl, rfl, rfl⟩, ?_⟩
  rintro m s ⟨k, _, rfl, hm, htk, rfl⟩
  conv => whnf
  split <;> rename_i h1
  all_goals simp only [decide_eq_true_eq, decide_eq_false_iff_not] at h1
  ·conv => whnf
   have hk : k < X.length := by omega
   have hky : k < Y.length := by omega
   refine ⟨[0, 1, 2, 3, 4, 5, 6, 7, 8, 9], by kernel_rfl, ?_⟩
   conv => whnf
   refine ⟨by omega, rows_len rL_len _, ?_⟩
   conv => whnf
   refine ⟨_, takeN_rp (k := k) rL_len hk, ?_⟩
   conv => whnf
   refine ⟨by omega, rows_len rL_len _, ?_⟩
   conv => whnf
   refine ⟨_, takeN_rp (k := k) rL_len hky, ?_⟩
   conv => whnf
   refine ⟨_, l2Ints_spec X[k] Y[k] (hX _ (List.getElem_mem hk)) (hY _ (List.getElem_mem hky)), .inl rfl, .inl ?_⟩
   generalize hd : decide (X[k] = Y[k]) = d
   cases d with
   | true =>
    conv => whnf
    refine ⟨m - 1, by omega, k + 1, _, wrap_id (by omega) (by omega), by omega, ?_, by kernel_rfl⟩
    rw [List.take_succ_eq_append_getElem hk, List.take_succ_eq_append_getElem hky, htk, of_decide_eq_true hd]
   | false =>
    conv => whnf
    have : X ≠ Y := fun e => of_decide_eq_false hd (by subst e; rfl)
    rw [decide_eq_false this]
    rfl
  ·conv => whnf
   have hkk : k = X.length := by omega
   rw [hkk, List.take_length, hlen, List.take_length] at htk
   rw [decide_eq_true htk]
   rfl
end Go.Proofs.YtboolngaahifdaaGreatD
