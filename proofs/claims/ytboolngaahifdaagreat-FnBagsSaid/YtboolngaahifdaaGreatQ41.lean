/- Contracts and plain laws of this seat; no condition. -/
import Derived.Test.YtboolngaahifdaaGreatQ40
set_option linter.unusedVariables false
set_option linter.unusedSimpArgs false
set_option maxRecDepth 100000
namespace Go.Proofs.YtboolngaahifdaaGreatD
open Go Go.Proofs
set_option maxHeartbeats 16000000 in
theorem ZI {x0 : List Int} {s : List Int} {a b : cP} (hl0 : x0.length ≤ 1099511627776) (hss : cT s ≤ 1048576) (ha : aC a ≤ 1048576) (hb : aC b ≤ 1048576) (hequ : (gW s a b && gW s b a) = true) (hcnt : ∀ db, bZ s a db = bZ s b db) : HJ 0 Γ (bU Tryz.prog sW) a0S false (G9 (DS Γ Tryz.f6 (cb true)) fun s' => VC 0 Γ (bU Tryz.prog sW) a3C (DS Γ Tryz.f6 (cb true)) s') ⟨129, [(0, .ro x0.length (aB cu8 x0)), (2, cb false), (3, .ptr 0 0), (4, .ptr 1 0), (5, .ptr 2 0), (6, cb true)], [some ⟨true, [aW s]⟩, some ⟨true, aO a⟩, some ⟨true, aO b⟩]⟩ := by
 have hW1 := nY s a b hss ha hb
 have hW2 := oC s a b hss ha hb
 unfold vBW at hW1 hW2
 have hwz := qN s a b hss ha hb
 have hfd := MH (s := s) (a := a) (b := b)
 generalize (d8 s a b).1 = w at hW1 hW2 hwz hfd
 generalize (d8 s a b).2 = fd at hW1 hW2 hfd
 have hnf : fd = false := by
  cases fd with
  | false => rfl
  | true =>
   have h := hfd rfl
   unfold dH at h
   rw [hcnt w] at h
   simp at h
 subst hnf
 conv => whnf
 refine ⟨_, hW1, .inl rfl, .inl ?_⟩
 rw [HR]
 conv => whnf
 refine ⟨_, hW2, .inl rfl, .inl ?_⟩
 rw [HR]
 conv => whnf
 refine ⟨_, iV w w hwz hwz, .inl rfl, .inl ?_⟩
 rw [decide_eq_true rfl]
 conv => whnf
 refine .inr (.inr ⟨[], [], ?_⟩)
 conv => whnf
 refine ⟨_, lD x0 hl0, fun r g2 hP => ?_⟩
 obtain ⟨x, y, hr2, hx, hy, rfl⟩ := hP
 refine .inl ?_
 rw [hr2]
 conv => whnf
 refine ⟨[(2,0),(3,0),(4,0),(5,0),(6,0),(11,0),(12,0),(14,0),(15,0)], [], ⟨129, [(2, cb false), (3, .ptr 0 0), (4, .ptr 1 0), (5, .ptr 2 0), (6, cb true), (11, cb false), (12, c7 w), (14, aY x), (15, aY y)], [some ⟨true, [aW s]⟩, some ⟨true, aO a⟩, some ⟨true, aO b⟩]⟩, IU, by kernel_rfl, by kernel_rfl, ?_⟩
 exact ZL hss ha hb hwz hx hy hequ
set_option maxHeartbeats 16000000 in
theorem ZH {x0 : List Int} {s : List Int} {a b : cP} (hl0 : x0.length ≤ 1099511627776) (hss : cT s ≤ 1048576) (ha : aC a ≤ 1048576) (hb : aC b ≤ 1048576) : HJ 0 Γ (bU Tryz.prog sW) a0S false (G9 (DS Γ Tryz.f6 (cb true)) fun s' => VC 0 Γ (bU Tryz.prog sW) a3C (DS Γ Tryz.f6 (cb true)) s') ⟨129, [(0, .ro x0.length (aB cu8 x0)), (2, cb false), (3, .ptr 0 0), (4, .ptr 1 0), (5, .ptr 2 0), (6, cb false)], [some ⟨true, [aW s]⟩, some ⟨true, aO a⟩, some ⟨true, aO b⟩]⟩ := by
 have hW1 := nY s a b hss ha hb
 have hW2 := oC s a b hss ha hb
 unfold vBW at hW1 hW2
 have hwz := qN s a b hss ha hb
 have hfd := MH (s := s) (a := a) (b := b)
 generalize (d8 s a b).1 = w at hW1 hW2 hwz hfd
 generalize (d8 s a b).2 = fd at hW1 hW2 hfd
 cases fd with
 | false =>
  conv => whnf
  refine ⟨_, hW1, .inl rfl, .inl ?_⟩
  rw [HR]
  conv => whnf
  refine ⟨_, hW2, .inl rfl, .inl ?_⟩
  rw [HR]
  conv => whnf
  refine ⟨_, iV w w hwz hwz, .inl rfl, .inl ?_⟩
  rw [decide_eq_true rfl]
  conv => whnf
  refine .inr (.inr ⟨[], [], ?_⟩)
  conv => whnf
  refine ⟨_, lD x0 hl0, fun r g2 hP => ?_⟩
  obtain ⟨x, y, hr2, hx, hy, rfl⟩ := hP
  refine .inl ?_
  rw [hr2]
  conv => whnf
  refine ⟨[(2,0),(3,0),(4,0),(5,0),(6,0),(11,0),(12,0),(14,0),(15,0)], [], ⟨129, [(2, cb false), (3, .ptr 0 0), (4, .ptr 1 0), (5, .ptr 2 0), (6, cb false), (11, cb false), (12, c7 w), (14, aY x), (15, aY y)], [some ⟨true, [aW s]⟩, some ⟨true, aO a⟩, some ⟨true, aO b⟩]⟩, IU, by kernel_rfl, by kernel_rfl, ?_⟩
  exact ZJ hss ha hb hwz hx hy
 | true =>
  conv => whnf
  refine ⟨_, hW1, .inl rfl, .inl ?_⟩
  rw [HR]
  conv => whnf
  refine ⟨_, hW2, .inl rfl, .inl ?_⟩
  rw [HR]
  conv => whnf
  refine ⟨_, iV w w hwz hwz, .inl rfl, .inl ?_⟩
  rw [decide_eq_true rfl]
  conv => whnf
  refine .inr (.inr ⟨[], [], ?_⟩)
  conv => whnf
  refine ⟨_, lD x0 hl0, fun r g2 hP => ?_⟩
  obtain ⟨x, y, hr2, hx, hy, rfl⟩ := hP
  refine .inl ?_
  rw [hr2]
  conv => whnf
  refine ⟨[(2,0),(3,0),(4,0),(5,0),(6,0),(11,0),(12,0),(14,0),(15,0)], [], ⟨129, [(2, cb false), (3, .ptr 0 0), (4, .ptr 1 0), (5, .ptr 2 0), (6, cb false), (11, cb true), (12, c7 w), (14, aY x), (15, aY y)], [some ⟨true, [aW s]⟩, some ⟨true, aO a⟩, some ⟨true, aO b⟩]⟩, IU, by kernel_rfl, by kernel_rfl, ?_⟩
  have hdf := hfd rfl
  exact ZK hss ha hb hwz hx hy hdf
end Go.Proofs.YtboolngaahifdaaGreatD
