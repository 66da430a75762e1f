/- The bindings of a query, the second program. -/
import Derived.Test.YtiagnjkaokhcfaaGreatFEv8
set_option linter.unusedVariables false
set_option linter.unusedSimpArgs false
set_option maxRecDepth 100000
namespace Go.Proofs.YtiagnjkaokhcfaaGreatD
open Go Go.Proofs

def rawP (q : QueryE) (db : List FactC) : List (List Int) := sortL true ((visitL db q.2 bNone).map sV)
theorem sV_len (b : Bnd) : (sV b).length = 20 := rfl
theorem closed_wLists (xs : List (List Int)) : closed (wLists xs) := closeds_rows (f := tL) (fun x => ⟨closed_intsT x, trivial⟩) xs
set_option maxHeartbeats 4000000 in
theorem l6Raw_spec (q : QueryE) (db : List FactC) (hq : cQuery q ≤ 1048576) (hd : cFactS db ≤ 1048576) (ht : ∀ a ∈ q.2, a.2.all isTerm = true) (hn : db.length ^ q.2.length ≤ 549755813888) : Spec Tryz.prog 131 [vQuery q, vFactS db] (wLists (rawP q db)) := by
  refine Spec_of mx Γ_ok Tryz.func131 rfl ?_
  conv => whnf
  refine ⟨[1002, 0, 1, 2], by kernel_rfl, ?_⟩
  conv => whnf
  refine ⟨_, l6Empty_spec, .inl rfl, .inl ?_⟩
  conv => whnf
  rw [roVs_ci]
  refine .inr (.inr ⟨[2, 1], [], ?_⟩)
  conv => whnf
  have hv := l6Search_spec q db hq hd ht q.2.length 0 (Nat.zero_add _) bNone [] (by simp; omega)
  have hlen := visitL_len db q.2 bNone
  refine ⟨_, hv, fun r g2 hP => ?_⟩
  obtain ⟨rfl, hv⟩ := hP
  rw [List.drop_zero] at hv
  have hvl : ((visitL db q.2 bNone).map sV).length ≤ 549755813888 := by rw [List.length_map]; omega
  have hv20 : ∀ v ∈ (visitL db q.2 bNone).map sV, v.length ≤ 1099511627776 := fun v hv => by
    obtain ⟨b, _, rfl⟩ := List.mem_map.1 hv
    rw [sV_len]; omega
  rcases hv with ⟨hn0, rfl⟩ | rfl
  · refine .inl ?_
    conv => whnf
    refine .inl ?_
    conv => whnf
    refine ⟨_, _, rfl, rfl, ?_⟩
    conv => whnf
    have hs := l6Sort_spec [] true (by simp) (by simp)
    refine ⟨_, hs, .inr (closed_wLists _), .inr ?_⟩
    conv => whnf
    refine ⟨by rw [rows_len tL_len], ?_⟩
    unfold rawP
    rw [hn0]; rfl
  · refine .inl ?_
    conv => whnf
    rw [List.nil_append]
    refine .inl ?_
    conv => whnf
    refine ⟨_, _, takeN_all (rows_len tL_len _), roVs_rows tL_ro' _, ?_⟩
    conv => whnf
    have hs := l6Sort_spec ((visitL db q.2 bNone).map sV) true hvl hv20
    refine ⟨_, hs, .inr (closed_wLists _), .inr ?_⟩
    conv => whnf
    refine ⟨by rw [rows_len tL_len], ?_⟩
    rfl
end Go.Proofs.YtiagnjkaokhcfaaGreatD
