/- Contracts and plain laws of this seat; no condition. -/
import Derived.Test.YtboolngaahifdaaGreatQ41
set_option linter.unusedVariables false
set_option linter.unusedSimpArgs false
set_option maxRecDepth 100000
namespace Go.Proofs.YtboolngaahifdaaGreatD
open Go Go.Proofs
set_option maxHeartbeats 16000000 in
theorem Q9 (x0 : List Int) (q0 : x0.length ≤ maxLen ∧ ∀ x ∈ x0, (Lit.int .u8 x).wf = true) : bI Tryz.prog 6 [.ro x0.length (aB (fun x => [.sc (.int .u8 x)]) x0)] (cb true) := by
 show bI Tryz.prog 6 [.ro x0.length (aB cu8 x0)] (cb true)
 refine M7 (ex := sW) mx aJ Tryz.func6 rfl ?_
 conv => whnf
 refine ⟨_, W9 x0, .inl rfl, .inl ?_⟩
 conv => whnf
 generalize hb : decide ((x0.length : Int) > 1048576) = b
 cases b with
 | true =>
  conv => whnf
  rfl
 | false =>
 have hl0 : x0.length ≤ 1099511627776 := by have := of_decide_eq_false hb; omega
 conv => whnf
 refine .inr (.inr ⟨[], [], ?_⟩)
 conv => whnf
 refine ⟨_, vC x0 hl0, fun r g2 hP => ?_⟩
 obtain ⟨s, a, b, hr, hs, ha, hb, rfl⟩ := hP
 have hss : cT s ≤ 1048576 := by show s.length ≤ _; omega
 refine .inl ?_
 rw [hr]
 conv => whnf
 refine ⟨_, sA s a b hss ha hb, .inl rfl, .inl ?_⟩
 have hB := sH s a b hss ha hb
 have hcnt : ∀ db, dF s a b = true → bZ s a db = bZ s b db := fun db h => PI h db
 have hequ : dF s a b = true → (gW s a b && gW s b a) = true := U2
 generalize dF s a b = is at hB hcnt hequ
 conv => whnf
 refine .inr (.inr ⟨[], [], ?_⟩)
 conv => whnf
 refine ⟨_, GV x0 hl0, fun r g2 hP => ?_⟩
 obtain ⟨s1, q1, db, rfl, hs1, hq1, hq2, hd, rfl⟩ := hP
 have hds := IZ hd (by omega) (by omega)
 refine .inl ?_
 rw [a11]
 conv => whnf
 refine ⟨[0, 1, 2, 3, 4, 5, 6, 7, 8, 9, 10, 11, 13, 14, 15, 12, 16, 17, 18, 19, 20], by kernel_rfl, ?_⟩
 conv => whnf
 refine ⟨_, hB, .inl rfl, .inl ?_⟩
 conv => whnf
 rw [bne_self_eq_false]
 conv => whnf
 cases is with
 | true =>
  conv => whnf
  refine ⟨_, d9 s a db hss ha hds, .inl rfl, .inl ?_⟩
  rw [p8]
  conv => whnf
  refine ⟨_, d9 s b db hss hb hds, .inl rfl, .inl ?_⟩
  rw [p8, ← hcnt db rfl]
  conv => whnf
  refine ⟨_, eA (bZ s a db) (bZ s a db) (m0 s a db) (m0 s a db), .inl rfl, .inl ?_⟩
  rw [show mF (bZ s a db) (bZ s a db) = true from decide_eq_true rfl]
  conv => whnf
  refine ⟨[(0,0),(2,0),(3,0),(4,0),(5,0),(6,0)], [], ⟨129, [(0, .ro x0.length (aB cu8 x0)), (2, cb false), (3, .ptr 0 0), (4, .ptr 1 0), (5, .ptr 2 0), (6, cb true)], [some ⟨true, [aW s]⟩, some ⟨true, aO a⟩, some ⟨true, aO b⟩]⟩, a0S, by kernel_rfl, by kernel_rfl, ?_⟩
  exact ZI hl0 hss ha hb (hequ rfl) (fun db => hcnt db rfl)
 | false =>
  conv => whnf
  refine ⟨[(0,0),(2,0),(3,0),(4,0),(5,0),(6,0)], [], ⟨129, [(0, .ro x0.length (aB cu8 x0)), (2, cb false), (3, .ptr 0 0), (4, .ptr 1 0), (5, .ptr 2 0), (6, cb false)], [some ⟨true, [aW s]⟩, some ⟨true, aO a⟩, some ⟨true, aO b⟩]⟩, a0S, by kernel_rfl, by kernel_rfl, ?_⟩
  exact ZH hl0 hss ha hb
end Go.Proofs.YtboolngaahifdaaGreatD
