/- Names in the order of their first use: the first program, and both. -/
import Derived.Test.YtphphphnnnaagaaFNames1
import Derived.Test.YtphphphnnnaagaaFQueryOk2
set_option linter.unusedVariables false
set_option linter.unusedSimpArgs false
set_option maxRecDepth 100000
namespace Go.Proofs.YtphphphnnnaagaaD
open Go Go.Proofs

theorem toOf_nil : toOf [] = (List.range 20).map fun (v : Nat) => (v : Int) := by
  unfold toOf
  refine List.map_congr_left fun v _ => ?_
  rw [if_neg (by simp [has])]
set_option maxHeartbeats 8000000 in
theorem specFirstNames_spec (x0 : QueryC) (h0 : cQuery x0 ≤ 1048576) : Spec Try.prog 25 [vQuery x0] (wQuery (nmQ x0)) := by
  have h0' := h0
  unfold cQuery cAtomS at h0'
  refine Spec_of mx Γ_ok Try.func25 rfl ?_
  conv => whnf
  refine ⟨[(1,0),(2,0),(3,0),(4,0)], fun m s => ∃ (k : Nat) (e : Int) (n : Nat) (r : List V), e = k ∧ m + k = 20 ∧ n = k ∧ r = rows ciL ((List.range k).map fun (v : Nat) => (v : Int)) ∧
    s = ⟨76, [(1, .ptr 0 0), (2, .ptr 1 0), (3, .own 2 1 0 n n none), (4, ci e)], [some ⟨true, rQuery x0⟩, some ⟨true, [cnil, cnil]⟩, some ⟨false, r⟩]⟩, 20, ⟨0, 0, 0, [], rfl, rfl, rfl, rfl, by kernel_rfl⟩, ?_⟩
  rintro m s ⟨k, _, n, _, rfl, hm, rfl, rfl, rfl⟩
  conv => whnf
  split <;> rename_i h1
  all_goals simp only [decide_eq_true_eq, decide_eq_false_iff_not] at h1
  · conv => whnf
    refine ⟨_, rfl, .inl ⟨flat1 rfl, ?_⟩⟩
    conv => whnf
    refine ⟨by omega, by rw [rows_len ciL_len, List.length_map, List.length_range], _, snoc_ci _ _, ?_⟩
    conv => whnf
    refine ⟨m - 1, by omega, n + 1, IntKind.i64.wrap ((n : Int) + 1), n + 1, rows ciL (((List.range n).map fun (v : Nat) => (v : Int)) ++ [(n : Int)]), wrap_id (by omega) (by omega), by omega, rfl, ?_, by kernel_rfl⟩
    rw [List.range_succ, List.map_append]
    rfl
  · conv => whnf
    have hn : n = 20 := by omega
    subst hn
    rw [← toOf_nil]
    refine ⟨rows_len ciL_len _, solid_ci _, ?_⟩
    conv => whnf
    refine ⟨by omega, rfl, _, (show _ = rows ciL x0.1 from app_ci [] x0.1), ?_⟩
    conv => whnf
    refine ⟨[(1,0),(2,0),(3,0),(5,0),(6,0),(7,0)], fun m s => ∃ (k : Nat) (e : Int) (n : Nat) (r : List V), e = k ∧ m + k = x0.2.length ∧ n = (x0.1 ++ (x0.2.take k).flatMap (·.2)).length ∧ r = rows ciL (x0.1 ++ (x0.2.take k).flatMap (·.2)) ∧
      s = ⟨76, [(1, .ptr 0 0), (2, .ptr 1 0), (3, .own 2 1 0 20 20 none), (5, .own 3 1 0 0 0 none), (6, .own 4 1 0 n n none), (7, ci e)], [some ⟨true, rQuery x0⟩, some ⟨true, [cnil, cnil]⟩, some ⟨false, rows ciL (toOf [])⟩, some ⟨false, []⟩, some ⟨false, r⟩]⟩, x0.2.length,
      ⟨0, 0, 0 + x0.1.length, rows ciL x0.1, rfl, rfl, by simp, by simp, by kernel_rfl⟩, ?_⟩
    rintro m1 s ⟨k, _, n, _, rfl, hm1, hn, rfl, rfl⟩
    have hfl : ∀ k, ((x0.2.take k).flatMap (·.2)).length ≤ sumB cAtom x0.2 := fun k => by
      have key : ∀ xs : List AtomC, (xs.flatMap (·.2)).length = sumB cAtom xs := by
        intro xs
        induction xs with
        | nil => rfl
        | cons a r ih => rw [List.flatMap_cons, List.length_append, ih]; rfl
      rw [key]
      exact sumB_takeL cAtom x0.2 k
    conv => whnf
    split <;> rename_i h2
    all_goals simp only [decide_eq_true_eq, decide_eq_false_iff_not] at h2
    · conv => whnf
      have hk : k < x0.2.length := by omega
      have hb := sumB_one (f := cAtom) hk
      have hcb : cAtom x0.2[k] = x0.2[k].2.length := rfl
      have hs : x0.1 ++ (x0.2.take (k + 1)).flatMap (·.2) = (x0.1 ++ (x0.2.take k).flatMap (·.2)) ++ x0.2[k].2 := by
        rw [List.take_succ_eq_append_getElem hk, List.flatMap_append, List.append_assoc]
        simp
      have h5 := hfl k
      refine ⟨by omega, rows_len rAtom_len _, ?_⟩
      conv => whnf
      refine ⟨_, takeN_rp_field (k := k) (d := 1) (m := 1) (r := [ints x0.2[k].2]) rAtom_len hk (by omega) rfl, ?_⟩
      conv => whnf
      refine ⟨rows_len ciL_len _, solid_ci _, ?_⟩
      conv => whnf
      refine ⟨by rw [List.length_append] at hn; omega, by rw [rows_len ciL_len, hn], _, app_ci _ _, ?_⟩
      conv => whnf
      refine ⟨m1 - 1, by omega, k + 1, IntKind.i64.wrap ((k : Int) + 1), n + x0.2[k].2.length, rows ciL ((x0.1 ++ (x0.2.take k).flatMap (·.2)) ++ x0.2[k].2), wrap_id (by omega) (by omega), by omega, ?_, ?_, by kernel_rfl⟩
      · rw [hs, List.length_append, ← hn]
      · rw [hs]
    · conv => whnf
      have hkk : k = x0.2.length := by omega
      rw [hkk, List.take_length] at hn ⊢
      have hall : x0.1 ++ x0.2.flatMap (·.2) = allT x0 := rfl
      rw [hall] at hn ⊢
      have hal : (allT x0).length ≤ 1048576 := by
        have h5 := hfl x0.2.length
        rw [List.take_length] at h5
        rw [← hall, List.length_append]; omega
      have hSl : ∀ j, ((allT x0).take j).length ≤ j := fun j => by rw [List.length_take]; omega
      have hSle : ∀ j, (((allT x0).take j).foldl addS []).length ≤ j := by
        have key : ∀ (xs S : List Int), (xs.foldl addS S).length ≤ S.length + xs.length := by
          intro xs
          induction xs with
          | nil => intro S; exact Nat.le_refl _
          | cons x xs ih =>
            intro S
            have h1 := ih (addS S x)
            have h2 := addS_len S x
            simp only [List.foldl_cons, List.length_cons]
            omega
        intro j
        have h1 := key ((allT x0).take j) []
        have h2 := hSl j
        simp only [List.length_nil] at h1
        omega
      refine ⟨[(1,0),(2,0),(3,0),(5,0),(6,0),(8,0)], fun m s => ∃ (k : Nat) (e : Int) (S : List Int) (ns : Nat) (rt rs : List V), e = k ∧ m + k = (allT x0).length ∧ S = ((allT x0).take k).foldl addS [] ∧ ns = S.length ∧ rt = rows ciL (toOf S) ∧ rs = rows ciL S ∧
        s = ⟨76, [(1, .ptr 0 0), (2, .ptr 1 0), (3, .own 2 1 0 20 20 none), (5, .own 3 1 0 ns ns none), (6, .own 4 1 0 n n none), (8, ci e)], [some ⟨true, rQuery x0⟩, some ⟨true, [cnil, cnil]⟩, some ⟨false, rt⟩, some ⟨false, rs⟩, some ⟨false, rows ciL (allT x0)⟩]⟩, (allT x0).length,
        ⟨0, 0, [], 0, rows ciL (toOf []), [], rfl, rfl, rfl, rfl, rfl, rfl, by kernel_rfl⟩, ?_⟩
      rintro m2 s ⟨j, _, S, ns, _, _, rfl, hm2, hS, hns, rfl, rfl, rfl⟩
      have hSj : S.length ≤ j := by rw [hS]; exact hSle j
      conv => whnf
      split <;> rename_i h3
      all_goals simp only [decide_eq_true_eq, decide_eq_false_iff_not] at h3
      · conv => whnf
        have hj : j < (allT x0).length := by omega
        have hnext : ((allT x0).take (j + 1)).foldl addS [] = addS S (allT x0)[j] := by
          rw [List.take_succ_eq_append_getElem hj, List.foldl_append, ← hS]; rfl
        refine ⟨by omega, ?_⟩
        conv => whnf
        refine ⟨_, takeN_own (k := j) (d := 0) (m := 1) (xs := allT x0) ciL_len (Nat.zero_add _) hj (by omega) rfl, ?_⟩
        conv => whnf
        refine ⟨_, specIsVar_spec (allT x0)[j], .inl rfl, .inl ?_⟩
        conv => whnf
        have hadd : addS S (allT x0)[j] = if isVar (allT x0)[j] && !(has S (allT x0)[j]) then S ++ [(allT x0)[j]] else S := rfl
        rw [hadd] at hnext
        generalize hv : isVar (allT x0)[j] = b1 at hnext
        cases b1 with
        | false =>
          conv => whnf
          exact ⟨m2 - 1, by omega, j + 1, IntKind.i64.wrap ((j : Int) + 1), S, ns, rows ciL (toOf S), rows ciL S, wrap_id (by omega) (by omega), by omega, by rw [hnext]; simp, hns, rfl, rfl, by kernel_rfl⟩
        | true =>
          conv => whnf
          refine ⟨by omega, ?_⟩
          conv => whnf
          refine ⟨_, takeN_own (k := j) (d := 0) (m := 1) (xs := allT x0) ciL_len (Nat.zero_add _) hj (by omega) rfl, ?_⟩
          conv => whnf
          refine .inl ?_
          conv => whnf
          refine ⟨_, _, takeN_all (by rw [rows_len ciL_len, hns]), roVs_ci _, ?_⟩
          conv => whnf
          have hsp := l2Has_spec S (allT x0)[j] (by omega)
          unfold ints at hsp
          rw [← hns] at hsp
          refine ⟨_, hsp, .inr trivial, .inl ?_⟩
          conv => whnf
          generalize hh : has S (allT x0)[j] = b2 at hnext
          cases b2 with
          | true =>
            conv => whnf
            exact ⟨m2 - 1, by omega, j + 1, IntKind.i64.wrap ((j : Int) + 1), S, ns, rows ciL (toOf S), rows ciL S, wrap_id (by omega) (by omega), by omega, by rw [hnext]; simp, hns, rfl, rfl, by kernel_rfl⟩
          | false =>
            simp only [Bool.not_false, Bool.and_self, if_true] at hnext
            have hr : 0 ≤ (allT x0)[j] ∧ (allT x0)[j] ≤ 19 := by simpa [isVar, inR] using hv
            obtain ⟨v, hvt, hv20⟩ : ∃ v : Nat, (allT x0)[j] = v ∧ v < 20 := ⟨(allT x0)[j].toNat, by omega, by omega⟩
            have hvl : v < (toOf S).length := by rw [toOf_len]; exact hv20
            rw [hvt] at hh hnext
            conv => whnf
            refine ⟨by omega, ?_⟩
            conv => whnf
            refine ⟨_, takeN_own (k := j) (d := 0) (m := 1) (xs := allT x0) ciL_len (Nat.zero_add _) hj (by omega) rfl, ?_⟩
            rw [hvt]
            conv => whnf
            refine ⟨by omega, ?_⟩
            conv => whnf
            refine ⟨_, takeN_own (k := v) (d := 0) (m := 1) (xs := toOf S) ciL_len (Nat.zero_add _) hvl (by omega) rfl, _, (congrArg (fun o => setC (rows ciL (toOf S)) o (ciL ns)) (Nat.zero_add _)).trans (setC_rows ciL_len (by omega) hvl _), ?_⟩
            conv => whnf
            refine ⟨by omega, ?_⟩
            conv => whnf
            refine ⟨_, takeN_own (k := j) (d := 0) (m := 1) (xs := allT x0) ciL_len (Nat.zero_add _) hj (by omega) rfl, ?_⟩
            rw [hvt]
            conv => whnf
            refine ⟨_, rfl, .inl ⟨flat1 rfl, ?_⟩⟩
            conv => whnf
            refine ⟨by omega, by rw [rows_len ciL_len, hns], _, snoc_ci _ _, ?_⟩
            conv => whnf
            refine ⟨m2 - 1, by omega, j + 1, IntKind.i64.wrap ((j : Int) + 1), S ++ [(v : Int)], ns + 1, rows ciL ((toOf S).set v ns), rows ciL (S ++ [(v : Int)]), wrap_id (by omega) (by omega), by omega, hnext.symm, by simp [hns], ?_, rfl, by kernel_rfl⟩
            rw [hns, toOf_set S hv20 hh]
      · conv => whnf
        have hje : j = (allT x0).length := by omega
        rw [hje, List.take_length] at hS
        have hS' : S = seenQ x0 := hS
        refine .inl ?_
        conv => whnf
        refine ⟨_, _, takeN_all (by rw [rows_len ciL_len, toOf_len]), roVs_ci _, ?_⟩
        conv => whnf
        have hsp := renameQuery_spec x0 (toOf S) h0 (by rw [toOf_len]; omega)
        unfold ints at hsp
        rw [toOf_len, hS', renQ_to, ← hS'] at hsp
        refine ⟨_, hsp, .inr (closed_wQuery _), .inr ?_⟩
        conv => whnf
        refine ⟨by rw [rows_len ciL_len], by rw [rows_len tAtom_len], rfl⟩
def pFirstNames (q : QueryC) : QueryC := nmQ q
theorem small_FirstNames (x0 : QueryC) (h0 : cQuery x0 ≤ 1048576) : cQuery (pFirstNames x0) ≤ 2147483648 := by
  unfold pFirstNames
  rw [nmQ_size]; omega
theorem specFirstNames_law (x0 : QueryC) (h0 : cQuery x0 ≤ 1048576) (q0 : qQuery x0) : Spec Try.prog 25 [vQuery x0] (wQuery (pFirstNames x0)) := specFirstNames_spec x0 h0
theorem implFirstNames_law (x0 : QueryC) (h0 : cQuery x0 ≤ 1048576) (q0 : qQuery x0) : Spec Try.prog 27 [vQuery x0] (wQuery (pFirstNames x0)) := implFirstNames_spec x0 h0
end Go.Proofs.YtphphphnnnaagaaD
