/- Contracts and plain laws of this seat; no condition. -/
import Derived.Test.YtboolngaahifdaaGreatQ32
import Derived.Test.YtboolngaahifdaaGreatQ39
set_option linter.unusedVariables false
set_option linter.unusedSimpArgs false
set_option maxRecDepth 100000
namespace Go.Proofs.YtboolngaahifdaaGreatD
open Go Go.Proofs
theorem svqT_ro (s : List Int) (vs : List QueryW) (q : QueryW) : roV (.tup [vSchema s, wQueryS vs, wQuery q]) = .tup [vSchema s, vQueryS vs, vQuery q] := by
 show V.tup [roV _, roV _, roV _] = _
 rw [wQueryS_ro, ints_roV, wQuery_ro]
theorem cand_ro (q : QueryW) (l : List AtomD) (xs : List Int) : roV (.tup [wQuery q, wAtomS l, intsT xs]) = .tup [vQuery q, vAtomS l, ints xs] := by
 show V.tup [roV _, roV _, roV _] = _
 rw [wQuery_ro, wAtomS_ro, intsT_ro]
theorem nset_ro (xs : List Int) (n : Int) : roV (.tup [intsT xs, ci n]) = .tup [ints xs, ci n] := by
 show V.tup [roV _, roV _] = _
 rw [intsT_ro]
 rfl
theorem wNext_ro (p : List Int × Bool) : roV (wNext p) = .tup [ints p.1, cb p.2] := by
 show V.tup [roV _, roV _] = _
 rw [intsT_ro]
 rfl
theorem wUq_ro (x : QueryW) (b : Bool) : roV (.tup [wQuery x, cb b]) = .tup [vQuery x, cb b] := by
 show V.tup [roV (wQuery _), _] = _
 rw [wQuery_ro]
 rfl
theorem eqA_same (a : AtomC) : eqA a a = true := by simp [eqA]
theorem cand_size {q : QueryW} {l : List AtomD} {xs : List Int} (hq : smT4 q) (hl : ∀ a ∈ l, a.2.length ≤ 3) (hx : xs.length ≤ 8) : cQuery (pCandidateOf q l xs) ≤ 1048576 := by
 have h1 := candF_sum cAtom l 3 (fun j h => hl _ (List.getElem_mem h)) xs []
 have h2 := candF_len l xs []
 have h3 := hq.1
 have h4 : sumB cAtom ([] : List AtomC) = 0 := rfl
 rw [h4] at h1
 simp only [List.length_nil] at h2
 show q.1.length + ((xs.foldl (candS l) []).length + sumB cAtom (xs.foldl (candS l) [])) ≤ _
 omega
def exTup : Exs := { ex := fun f => Nat.beq f 40 || Nat.beq f 46 || Nat.beq f 47, hid := fun _ => false }
set_option maxHeartbeats 16000000 in
theorem law_FnTuples (x0 : List Int) (q0 : x0.length ≤ maxLen ∧ ∀ x ∈ x0, (Lit.int .u8 x).wf = true) : Spec Tryz.prog 5 [.ro x0.length (rows (fun x => [.sc (.int .u8 x)]) x0)] (cb true) := by
 show Spec Tryz.prog 5 [.ro x0.length (rows cu8 x0)] (cb true)
 refine Spec_ofE (ex := exTup) mx Γ_ok Tryz.func5 rfl ?_
 conv => whnf
 refine ⟨_, big_spec x0, .inl rfl, .inl ?_⟩
 conv => whnf
 generalize hb : decide ((x0.length : Int) > 1048576) = b
 cases b with
 | true =>
  conv => whnf
  rfl
 | false =>
 have hl0 : x0.length ≤ 1099511627776 := by have := of_decide_eq_false hb; omega
 conv => whnf
 refine .inr (.inr ⟨[], [], ?_⟩)
 conv => whnf
 refine ⟨_, drawViewTuples_g x0 hl0, fun r g2 hP => ?_⟩
 obtain ⟨s, vs, q, rfl, hs, hvs, hq4, rfl⟩ := hP
 have hss : cSchema s ≤ 1048576 := by show s.length ≤ _; omega
 have hvz := okVs_size hvs
 have hqs := smT4_size hq4
 refine .inl ?_
 rw [svqT_ro]
 conv => whnf
 refine ⟨_, implViewTuples_spec s vs q hss hvz hqs, .inl rfl, .inl ?_⟩
 rw [wAtomS_ro]
 conv => whnf
 refine ⟨_, specViewTuples_spec s vs q hss hvz hqs, .inl rfl, .inl ?_⟩
 rw [wAtomS_ro]
 have hL := tup_len s vs q
 have hT : ∀ a ∈ pViewTuples s vs q, TupOk s vs q a := fun a ha => tup_ok ha
 generalize pViewTuples s vs q = L at hL hT
 conv => whnf
 rw [bne_self_eq_false]
 conv => whnf
 rw [show decide ((L.length : Int) > 10) = false from decide_eq_false (by omega)]
 conv => whnf
 refine ⟨[(0,0),(2,0),(3,0),(4,0),(5,0),(6,0),(7,0),(8,0)], fun m st => ∃ (k : Nat) (e : Int), e = k ∧ m + k = L.length ∧
  st = ⟨132, [(0, .ro x0.length (rows cu8 x0)), (2, cb false), (3, .ptr 0 0), (4, vQueryS vs), (5, .ptr 1 0), (6, vAtomS L), (7, vAtomS L), (8, ci e)], [some ⟨true, [ints s]⟩, some ⟨true, rQuery q⟩]⟩, L.length, ⟨0, 0, rfl, rfl, rfl⟩, ?_⟩
 rintro m st ⟨k, _, rfl, hm, rfl⟩
 conv => whnf
 split <;> rename_i h1
 all_goals simp only [decide_eq_true_eq, decide_eq_false_iff_not] at h1
 ·conv => whnf
  have hk : k < L.length := by omega
  have hTk := hT _ (List.getElem_mem hk)
  refine ⟨[0, 1, 2, 3, 4, 5, 6, 7, 8, 9], by kernel_rfl, ?_⟩
  conv => whnf
  refine ⟨by omega, rows_len rAtom_len _, ?_⟩
  conv => whnf
  refine ⟨_, takeN_rp (k := k) rAtom_len hk, ?_⟩
  conv => whnf
  refine ⟨by omega, rows_len rAtom_len _, ?_⟩
  conv => whnf
  refine ⟨_, takeN_rp (k := k) rAtom_len hk, ?_⟩
  conv => whnf
  have hsz := hTk.sz
  refine ⟨_, implEqualAtoms_spec L[k] L[k] (by omega) (by omega), .inl rfl, .inl ?_⟩
  rw [eqA_same]
  conv => whnf
  refine ⟨[0, 1, 3, 4, 5, 6, 7, 2, 8, 9, 10, 11, 12, 1000, 13, 1000, 14, 15], by kernel_rfl, ?_⟩
  conv => whnf
  refine ⟨by omega, rows_len rAtom_len _, ?_⟩
  conv => whnf
  refine ⟨_, takeN_rp (k := k) rAtom_len hk, ?_⟩
  conv => whnf
  refine ⟨[], [], rfl, rfl, ?_⟩
  conv => whnf
  have hU := specUnfoldQuery_spec s vs ([], [L[k]]) hss hvz (by show 0 + (1 + (L[k].2.length + 0)) ≤ _; omega)
  rw [wEq_unO] at hU
  have hpw := hTk.pow
  have hans := hTk.ans
  have hxs : ∀ y, pUnfO s vs ([], [L[k]]) = some y → cQuery y ≤ 1048576 := fun y hy => by
   have := pUnfO_bound hy
   omega
  generalize pUnfO s vs ([], [L[k]]) = o at hU hpw hans hxs
  refine ⟨_, hU, .inr (closed_wQueryT _ _), .inl ?_⟩
  rw [wUq_ro]
  conv => whnf
  refine ⟨_, specFreeze_spec q hqs, .inl rfl, .inl ?_⟩
  rw [freeze_ro]
  obtain ⟨hfz, _⟩ := small_Freeze q hqs
  conv => whnf
  cases o with
  | none =>
   conv => whnf
   exact ⟨m - 1, by omega, k + 1, _, wrap_id (by omega) (by omega), by omega, rfl⟩
  | some y =>
   conv => whnf
   refine ⟨_, specAnswerOver_spec y (pFreeze q).1 (hxs y rfl) hfz (hpw y rfl), .inl rfl, .inl ?_⟩
   rw [wLists_ro]
   have hne := hans y rfl
   conv => whnf
   rw [show (((overS y (pFreeze q).1).length : Int) == 0) = false from by
    cases h : overS y (pFreeze q).1 with
    | nil => exact absurd h hne
    | cons a r => simp; omega]
   conv => whnf
   exact ⟨m - 1, by omega, k + 1, _, wrap_id (by omega) (by omega), by omega, rfl⟩
 ·conv => whnf
  refine .inr (.inr ⟨[], [], ?_⟩)
  conv => whnf
  refine ⟨_, drawCandidateOf_g x0 hl0, fun r g2 hP => ?_⟩
  obtain ⟨qc, l, set, rfl, hqc, hlz, hl3, hset, rfl⟩ := hP
  have hqcz := smT4_size hqc
  refine .inl ?_
  rw [cand_ro]
  conv => whnf
  refine .inr (.inr ⟨[], [], ?_⟩)
  conv => whnf
  refine ⟨_, drawNextSet_g x0 hl0, fun r g2 hP => ?_⟩
  obtain ⟨nx, n, rfl, hnx, hn1, hn2, rfl⟩ := hP
  refine .inl ?_
  rw [nset_ro]
  conv => whnf
  have hnl := hnx.1
  refine ⟨_, implNextSet_spec nx n hnx ⟨hn1, hn2⟩, .inl rfl, .inl ?_⟩
  rw [wNext_ro]
  conv => whnf
  refine ⟨_, specNextSet_spec nx n hnx ⟨hn1, hn2⟩, .inl rfl, .inl ?_⟩
  rw [wNext_ro]
  have hpl := pNext_length nx n
  generalize pNext nx n = p at hpl
  conv => whnf
  refine ⟨[0, 1, 2, 4, 5, 6, 3, 7, 8, 9, 10, 11, 12, 13, 14, 15, 16, 17, 18, 19], by kernel_rfl, ?_⟩
  conv => whnf
  refine ⟨_, implCandidateOf_spec qc l set hqcz hlz (by omega), .inl rfl, .inl ?_⟩
  rw [wQuery_ro]
  conv => whnf
  refine ⟨_, specCandidateOf_spec qc l set hqcz hlz (by omega), .inl rfl, .inl ?_⟩
  rw [wQuery_ro]
  conv => whnf
  have hcz := cand_size hqc hl3 hset
  refine ⟨_, specEqualQueries_spec (pCandidateOf qc l set) (pCandidateOf qc l set) hcz hcz, .inl rfl, .inl ?_⟩
  rw [decide_eq_true rfl]
  conv => whnf
  rw [beq_self_eq_true]
  conv => whnf
  refine ⟨_, sameInts_spec p.1 p.1 (by omega) (by omega), .inl rfl, .inl ?_⟩
  rw [decide_eq_true rfl]
  conv => whnf
  rfl
end Go.Proofs.YtboolngaahifdaaGreatD
