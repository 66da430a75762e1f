/- Contracts and plain laws of this seat; no condition. -/
import Derived.Test.YtboolngaahifdaaGreatQ26
import Derived.Test.YtboolngaahifdaaGreatQ31
import Derived.Test.YtboolngaahifdaaGreatQ39
set_option linter.unusedVariables false
set_option linter.unusedSimpArgs false
set_option maxRecDepth 100000
namespace Go.Proofs.YtboolngaahifdaaGreatD
open Go Go.Proofs
theorem a11 (s : List Int) (q : cP) (db : List aG) : roV (.tup [aV s, cC q, fP db]) = .tup [aV s, aP q, c7 db] := by
 show V.tup [roV _, roV _, roV _] = _
 rw [cW, dX, AR]
theorem p8 (l : List dV) : roV (vA l) = aY l := rQ l
theorem HR (w : List aG) (b : Bool) : roV (.tup [fP w, cb b]) = .tup [c7 w, cb b] := by
 show V.tup [roV _, roV _] = _
 rw [AR]
 rfl
def sW : Exs := { ex := fun f => Nat.beq f 53 || Nat.beq f 55 || Nat.beq f 59, hid := fun _ => false, cut := fun k => Nat.beq k 13 || Nat.beq k 8 }
noncomputable def a0S : Array Oper := QT Tryz.f6 8
def a1N : Nat → Code → Code
 | 0, c => c
 | n + 1, .seq _ b => a1N n b
 | _ + 1, c => c
noncomputable def a3C : Code := a1N 7 (Tryz.f6.body.getD .skip)
noncomputable def IU : Array Oper := QT Tryz.f6 13
set_option maxHeartbeats 16000000 in
theorem ZL {s : List Int} {a b : cP} {w : List aG} {x y : List dV} (hss : cT s ≤ 1048576) (ha : aC a ≤ 1048576) (hb : aC b ≤ 1048576) (hwz : d6 w ≤ 1048576) (hx : cJ x ≤ 1000000) (hy : cJ y ≤ 1000000) (hequ : (gW s a b && gW s b a) = true) : HJ 0 Γ (bU Tryz.prog sW) IU true (G9 (DS Γ Tryz.f6 (cb true)) fun s' => VC 0 Γ (bU Tryz.prog sW) Code.ret (DS Γ Tryz.f6 (cb true)) s') ⟨129, [(2, cb false), (3, .ptr 0 0), (4, .ptr 1 0), (5, .ptr 2 0), (6, cb true), (11, cb false), (12, c7 w), (14, aY x), (15, aY y)], [some ⟨true, [aW s]⟩, some ⟨true, aO a⟩, some ⟨true, aO b⟩]⟩ := by
 refine ⟨[0, 1, 2, 3, 4, 5, 7, 8, 9, 6, 10, 11, 12, 13, 14, 15, 16, 18, 19, 17, 20, 21, 22, 23, 24, 26, 25, 27, 28, 29, 30, 31, 32, 33, 34, 35, 36, 37, 38, 39, 40, 3999], by kernel_rfl, ?_⟩
 conv => whnf
 refine ⟨_, eA x y (by omega) (by omega), .inl rfl, .inl ?_⟩
 conv => whnf
 refine ⟨_, fQ x y (by omega) (by omega), .inl rfl, .inl ?_⟩
 conv => whnf
 rw [beq_self_eq_true]
 conv => whnf
 refine ⟨_, iT x (by omega), .inl rfl, .inl ?_⟩
 conv => whnf
 refine ⟨_, iW x (by omega), .inl rfl, .inl ?_⟩
 conv => whnf
 rw [beq_self_eq_true]
 conv => whnf
 refine ⟨_, sD s a b hss ha hb, .inl rfl, .inl ?_⟩
 rw [hequ]
 conv => whnf
 rfl
set_option maxHeartbeats 16000000 in
theorem ZJ {s : List Int} {a b : cP} {w : List aG} {x y : List dV} (hss : cT s ≤ 1048576) (ha : aC a ≤ 1048576) (hb : aC b ≤ 1048576) (hwz : d6 w ≤ 1048576) (hx : cJ x ≤ 1000000) (hy : cJ y ≤ 1000000) : HJ 0 Γ (bU Tryz.prog sW) IU true (G9 (DS Γ Tryz.f6 (cb true)) fun s' => VC 0 Γ (bU Tryz.prog sW) Code.ret (DS Γ Tryz.f6 (cb true)) s') ⟨129, [(2, cb false), (3, .ptr 0 0), (4, .ptr 1 0), (5, .ptr 2 0), (6, cb false), (11, cb false), (12, c7 w), (14, aY x), (15, aY y)], [some ⟨true, [aW s]⟩, some ⟨true, aO a⟩, some ⟨true, aO b⟩]⟩ := by
 refine ⟨[0, 1, 2, 3, 4, 5, 7, 8, 9, 6, 10, 11, 12, 13, 14, 15, 16, 18, 19, 17, 20, 21, 22, 23, 24, 26, 25, 27, 28, 29, 30, 31, 32, 33, 34, 35, 36, 37, 38, 39, 40, 3999], by kernel_rfl, ?_⟩
 conv => whnf
 refine ⟨_, eA x y (by omega) (by omega), .inl rfl, .inl ?_⟩
 conv => whnf
 refine ⟨_, fQ x y (by omega) (by omega), .inl rfl, .inl ?_⟩
 conv => whnf
 rw [beq_self_eq_true]
 conv => whnf
 refine ⟨_, iT x (by omega), .inl rfl, .inl ?_⟩
 conv => whnf
 refine ⟨_, iW x (by omega), .inl rfl, .inl ?_⟩
 conv => whnf
 rw [beq_self_eq_true]
 conv => whnf
 rfl
set_option maxHeartbeats 16000000 in
theorem ZK {s : List Int} {a b : cP} {w : List aG} {x y : List dV} (hss : cT s ≤ 1048576) (ha : aC a ≤ 1048576) (hb : aC b ≤ 1048576) (hwz : d6 w ≤ 1048576) (hx : cJ x ≤ 1000000) (hy : cJ y ≤ 1000000) (hdf : dH s a b w = true) : HJ 0 Γ (bU Tryz.prog sW) IU true (G9 (DS Γ Tryz.f6 (cb true)) fun s' => VC 0 Γ (bU Tryz.prog sW) Code.ret (DS Γ Tryz.f6 (cb true)) s') ⟨129, [(2, cb false), (3, .ptr 0 0), (4, .ptr 1 0), (5, .ptr 2 0), (6, cb false), (11, cb true), (12, c7 w), (14, aY x), (15, aY y)], [some ⟨true, [aW s]⟩, some ⟨true, aO a⟩, some ⟨true, aO b⟩]⟩ := by
 refine ⟨[0, 1, 2, 3, 4, 5, 7, 8, 9, 6, 10, 11, 12, 13, 14, 15, 16, 18, 19, 17, 20, 21, 22, 23, 24, 26, 25, 27, 28, 29, 30, 31, 32, 33, 34, 35, 36, 37, 38, 39, 40, 3999], by kernel_rfl, ?_⟩
 conv => whnf
 refine ⟨_, d9 s a w hss ha hwz, .inl rfl, .inl ?_⟩
 rw [p8]
 conv => whnf
 refine ⟨_, d9 s b w hss hb hwz, .inl rfl, .inl ?_⟩
 rw [p8]
 conv => whnf
 refine ⟨_, eA (bZ s a w) (bZ s b w) (m0 s a w) (m0 s b w), .inl rfl, .inl ?_⟩
 rw [show mF (bZ s a w) (bZ s b w) = false from by
  unfold dH at hdf
  simp only [Bool.and_eq_true, Bool.not_eq_true'] at hdf
  exact hdf.2]
 conv => whnf
 refine ⟨_, eA x y (by omega) (by omega), .inl rfl, .inl ?_⟩
 conv => whnf
 refine ⟨_, fQ x y (by omega) (by omega), .inl rfl, .inl ?_⟩
 conv => whnf
 rw [beq_self_eq_true]
 conv => whnf
 refine ⟨_, iT x (by omega), .inl rfl, .inl ?_⟩
 conv => whnf
 refine ⟨_, iW x (by omega), .inl rfl, .inl ?_⟩
 conv => whnf
 rw [beq_self_eq_true]
 conv => whnf
 rfl
end Go.Proofs.YtboolngaahifdaaGreatD
