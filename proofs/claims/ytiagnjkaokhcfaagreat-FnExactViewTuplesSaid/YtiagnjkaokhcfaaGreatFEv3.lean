/- The heads of all bindings, and different lists: the first program. -/
import Derived.Test.YtiagnjkaokhcfaaGreatFSortL
set_option linter.unusedVariables false
set_option linter.unusedSimpArgs false
set_option maxRecDepth 100000
namespace Go.Proofs.YtiagnjkaokhcfaaGreatD
open Go Go.Proofs

def headsP (q : QueryE) (db : List FactC) : List (List Int) := (visitL db q.2 bNone).map fun b => tupOf b q.1
def wLists (xs : List (List Int)) : V := .tr 1 xs.length (rows tL xs)
set_option maxHeartbeats 4000000 in
theorem heads_spec (q : QueryE) (db : List FactC) (hq : cQuery q ≤ 1048576) (hd : cFactS db ≤ 1048576) (ht : ∀ a ∈ q.2, a.2.all isTerm = true) (hn : db.length ^ q.2.length ≤ 1099511627776) : Spec Tryz.prog 168 [vQuery q, vFactS db] (wLists (headsP q db)) := by
  have hb : cAtomS q.2 ≤ 1048576 := by unfold cQuery at hq; omega
  refine Spec_of mx Γ_ok Tryz.func168 rfl ?_
  conv => whnf
  refine .inr (.inr ⟨[2, 1, 0], [], ?_⟩)
  conv => whnf
  have hv := visit_spec q q.2 db hq hb hd ht q.2.length 0 (Nat.zero_add _) bNone [] (by simpa using hn)
  refine ⟨_, hv, fun r g2 hP => ?_⟩
  obtain ⟨rfl, hv⟩ := hP
  rw [List.drop_zero] at hv
  rcases hv with ⟨hn0, rfl⟩ | rfl
  · refine .inl ?_
    conv => whnf
    refine ⟨rfl, ?_⟩
    unfold headsP
    rw [hn0]; rfl
  · refine .inl ?_
    conv => whnf
    refine ⟨by rw [rows_len tL_len], ?_⟩
    rfl
theorem different_spec (xs : List (List Int)) (hb : ∀ x ∈ xs, x.length ≤ 1099511627776) (hsz : xs.length ≤ 1099511627776) :
    SpecG Tryz.prog 167 [.own 0 1 0 xs.length xs.length none] [some ⟨false, rows tL xs⟩] fun r g2 => g2 = [none] ∧ ∃ ys : List (List Int), ys.Perm xs ∧ ys.Pairwise (fun a b => ¬ cmpI b a < 0) ∧ r = wLists (compL (fun a b => decide (a = b)) ys) := by
  refine SpecG_of mx Γ_ok 1 Tryz.func167 rfl rfl (by decide) ?_
  conv => whnf
  refine .inr (.inr ⟨[0], [], ?_⟩)
  conv => whnf
  refine ⟨_, sortLists_spec xs hb hsz, fun r g2 hP => ?_⟩
  obtain ⟨rfl, ys, hp, hs, rfl⟩ := hP
  have hl : xs.length = ys.length := hp.length_eq.symm
  refine .inl ?_
  conv => whnf
  refine .inr (.inr ⟨[0], [], ?_⟩)
  conv => whnf
  have hc := compLists_spec ys (fun x hx => hb x (hp.mem_iff.1 hx)) (by omega)
  rw [← hl] at hc
  refine ⟨_, hc, fun r g2 hP => ?_⟩
  obtain ⟨rfl, rfl⟩ := hP
  refine .inr ?_
  conv => whnf
  refine ⟨[], ?_⟩
  conv => whnf
  refine ⟨by rw [rows_len tL_len], ?_⟩
  exact ⟨rfl, ys, hp, hs, rfl⟩
end Go.Proofs.YtiagnjkaokhcfaaGreatD
