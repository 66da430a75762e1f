/- Contracts and plain laws of this seat; no condition. -/
import Derived.Test.YtboolngaahifdaaGreatQ25
import Derived.Test.YtboolngaahifdaaGreatQ20
import Derived.Test.YtboolngaahifdaaGreatQ24
import Derived.Test.YtboolngaahifdaaGreatQ17
import Derived.Test.YtboolngaahifdaaGreatQ15
set_option linter.unusedVariables false
set_option linter.unusedSimpArgs false
set_option maxRecDepth 100000
namespace Go.Proofs.YtboolngaahifdaaGreatD
open Go Go.Proofs
def pvar (q : QueryT) (v : Nat) : Bool := occurs q (v : Int) || has q.1 (v : Int)
def varsTo (q : QueryT) (k : Nat) : List Int := ((List.range k).filter (pvar q)).map Int.ofNat
def varsOf (q : QueryT) : List Int := varsTo q 20
theorem varsTo_succ (q : QueryT) (k : Nat) : varsTo q (k + 1) = if pvar q k then varsTo q k ++ [(k : Int)] else varsTo q k := by
 unfold varsTo
 rw [List.range_succ, List.filter_append, List.map_append]
 by_cases h : pvar q k = true
 ·simp [h]
 ·simp [h]
theorem varsTo_len (q : QueryT) (k : Nat) : (varsTo q k).length ≤ k := by
 unfold varsTo
 rw [List.length_map]
 exact Nat.le_trans (List.length_filter_le _ _) (by simp)
theorem implVarsOf_spec (q : QueryT) (h : cQuery q ≤ 1048576) : Spec Tryz.prog 105 [vQuery q] (intsT (varsOf q)) := by
 have h' := h
 unfold cQuery cAtomS at h'
 refine Spec_of mx Γ_ok Tryz.func105 rfl ?_
 conv => whnf
 refine ⟨[(1,0),(2,0),(3,0),(6,0)], fun m s => ∃ (k : Nat) (e : Int) (n : Nat) (r : List V), e = k ∧ m + k = 20 ∧ n = (varsTo q k).length ∧ r = rows ciL (varsTo q k) ∧
  s = ⟨24, [(1, .ptr 0 0), (2, cnil), (3, .own 1 1 0 n n none), (6, ci e)], [some ⟨true, rQuery q⟩, some ⟨false, r⟩]⟩, 20, ⟨0, 0, 0, _, rfl, rfl, rfl, rfl, rfl⟩, ?_⟩
 rintro m s ⟨k, _, n, _, rfl, hm, rfl, rfl, rfl⟩
 have hvl := varsTo_len q k
 have hnx := varsTo_succ q k
 conv => whnf
 split <;> rename_i h1
 all_goals simp only [decide_eq_true_eq, decide_eq_false_iff_not] at h1
 ·conv => whnf
  refine ⟨_, occurs_spec q k h, .inl rfl, .inl ?_⟩
  conv => whnf
  unfold pvar at hnx
  generalize occurs q (k : Int) = b1 at hnx
  cases b1 with
  | true =>
   conv => whnf
   refine ⟨_, rfl, .inl ⟨flat1 rfl, ?_⟩⟩
   conv => whnf
   refine ⟨by omega, rows_len ciL_len _, _, snoc_ci _ _, ?_⟩
   conv => whnf
   rw [Bool.true_or, if_pos rfl] at hnx
   refine ⟨m - 1, by omega, k + 1, _, _, _, wrap_id (by omega) (by omega), by omega, ?_, by rw [hnx], rfl⟩
   rw [hnx, List.length_append]
   rfl
  | false =>
   conv => whnf
   refine ⟨_, slicesContains_spec q.1 k (by omega), .inl rfl, .inl ?_⟩
   conv => whnf
   rw [Bool.false_or] at hnx
   generalize has q.1 (k : Int) = b2 at hnx
   cases b2 with
   | true =>
    conv => whnf
    refine ⟨_, rfl, .inl ⟨flat1 rfl, ?_⟩⟩
    conv => whnf
    refine ⟨by omega, rows_len ciL_len _, _, snoc_ci _ _, ?_⟩
    conv => whnf
    rw [if_pos rfl] at hnx
    refine ⟨m - 1, by omega, k + 1, _, _, _, wrap_id (by omega) (by omega), by omega, ?_, by rw [hnx], rfl⟩
    rw [hnx, List.length_append]
    rfl
   | false =>
    conv => whnf
    rw [if_neg (by simp)] at hnx
    exact ⟨m - 1, by omega, k + 1, _, _, _, wrap_id (by omega) (by omega), by omega, by rw [hnx], by rw [hnx], rfl⟩
 ·conv => whnf
  have hkk : k = 20 := by omega
  subst hkk
  refine ⟨by rw [rows_len ciL_len], ?_⟩
  rfl
def app (h : Int → Int) (t : Int) : Int := if isVar t then h t else t
theorem inR_bd {x lo hi : Int} (h : inR x lo hi = true) : lo ≤ x ∧ x ≤ hi := by simpa [inR] using h
def fzv (x : Int) : Int := 80 + x
theorem fz_val {t : Int} (h : isTerm t = true) : fz t = val fzv t := by
 have := term_rng h
 unfold fz val fzv
 cases hv : isVar t with
 | true =>
  have h0 := (var_iff h).1 hv
  rw [if_neg (by omega), if_pos rfl]
 | false =>
  have h0 : ¬ 0 ≤ t := fun h0 => by rw [(var_iff h).2 h0] at hv; cases hv
  rw [if_pos (by omega)]
  simp
theorem isQ_facts {s : List Int} {q : QueryT} (h : isQuery s q = true) : isSchema s = true ∧ q.1.all isTerm = true ∧ q.1.length ≤ 3 ∧ q.2.length ≤ 4 ∧ ∀ a ∈ q.2, takesS s a.1 a.2.length = true ∧ a.2.all isTerm = true := by
 simp only [isQuery, fineQ, terms3, Bool.and_eq_true, decide_eq_true_eq] at h
 obtain ⟨h1, ⟨h2, h3⟩, h4, h5, h6⟩ := h
 refine ⟨h1, h2, h3, by have := inR_bd h4; omega, fun a ha => ?_⟩
 have := List.all_eq_true.1 h5 a ha
 simp only [isAtom, Bool.and_eq_true] at this
 exact this
theorem takes_len {s : List Int} {r n : Int} (h : takesS s r n = true) : n ≤ 3 := by
 simp only [takesS, Bool.and_eq_true, decide_eq_true_eq] at h
 obtain ⟨h1, h2, h3⟩ := h
 have h4 := inR_bd h2
 obtain ⟨k, rfl⟩ : ∃ k : Nat, r = k := ⟨r.toNat, by omega⟩
 have hk : k < s.length := by omega
 rw [Int.toNat_natCast] at h3
 have : s.getD k 0 = s[k] := by simp [List.getD_eq_getElem?_getD, hk]
 rw [this] at h3
 unfold isSchema at h1
 simp only [Bool.and_eq_true, List.all_eq_true] at h1
 have h5 := inR_bd (h1.1 s[k] (List.getElem_mem hk))
 omega
theorem frz_ok {s : List Int} {q : QueryT} (h : isQuery s q = true) : frzOk q = true := by
 obtain ⟨h1, h2, h3, h4, h5⟩ := isQ_facts h
 simp only [frzOk, terms3, Bool.and_eq_true, decide_eq_true_eq, List.all_eq_true]
 refine ⟨⟨⟨List.all_eq_true.1 h2, h3⟩, by omega⟩, fun a ha => ⟨List.all_eq_true.1 (h5 a ha).2, ?_⟩⟩
 have := takes_len (h5 a ha).1
 omega
theorem frz_mem (q : QueryT) (a : FactC) : a ∈ (q.2.map fzF).foldl putF [] ↔ ∃ c ∈ q.2, fzF c = a := by
 rw [(putAll (q.2.map fzF) [] List.Pairwise.nil).2 a]
 simp
end Go.Proofs.YtboolngaahifdaaGreatD
