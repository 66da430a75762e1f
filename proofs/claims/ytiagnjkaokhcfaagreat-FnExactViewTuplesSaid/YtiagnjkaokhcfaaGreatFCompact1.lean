/- slices.CompactFunc at lists: the walk. -/
import Derived.Test.YtiagnjkaokhcfaaGreatFCopy
import Derived.Test.YtiagnjkaokhcfaaGreatD26
import Derived.WalkKit
import Derived.WalkSpells
set_option linter.unusedVariables false
set_option linter.unusedSimpArgs false
namespace Go.Proofs.YtiagnjkaokhcfaaGreatD
open Go Go.Proofs Go.RowKit Go.Shelf Go.Sort Go.Lib

theorem cells_one {v : Value} (h : v.oneCell' = true) : v.cells = #[v] := by
  cases v <;> simp_all [Value.cells, Value.oneCell']
set_option maxHeartbeats 4000000 in
set_option maxRecDepth 1000000 in
theorem compact_walk1 {α : Type} [Inhabited α] (ea : α → Value) (ef : α → α → Bool) (g blk off cap : Nat) (d : Array α) (w : World)
    (eg : ∀ args w, (callFunc g args).run Tryz.prog w = .ok (.enter g args) w) (hcmp : EqLays Tryz.prog g (ea) (fun x => [ea x]) 1 ef w blk off d.size) (h1 : ∀ x, (ea x).oneCell' = true) (hH : HoldsK (fun x => [ea x]) 1 w blk off d) (hblk : blk < w.heap.size) (hF : ∀ c e, w.heap[blk]? = some (.cells c e (0, 0)) → off + d.size * 1 ≤ c.size) (hsz : d.size < 4611686018427387904) (hcap : d.size ≤ cap) :
    Calls Tryz.prog 238 #[.slice (some ⟨blk, off, none⟩) d.size cap, .func (.func g) #[] #[]] w fun e w' =>
      ∃ m : Nat, CompOut (fun x => [ea x]) 1 ef d w w' blk off m ∧ e = .returned (.slice (some ⟨blk, off, none⟩) m cap) := by
  have mixed : Tryz.prog.follows .mixedOrders = true := by kernel_rfl
  have hS0 : SWK (fun x => [ea x]) 1 w blk off d w := SWK.start hH
  have same : ∀ W, SWK (fun x => [ea x]) 1 w blk off d W → (∀ j, j < d.size → keepsB ef d j = true) → CompOut (fun x => [ea x]) 1 ef d w W blk off d.size := fun W hW hall => CompOut.all hblk hF hW hall
  have cut : ∀ (dk : Array α) (m : Nat) W l, SWK (fun x => [ea x]) 1 w blk off dk W → CInv ef d d.size m dk → CompOut (fun x => [ea x]) 1 ef d w (W.setCells blk (off + m * 1) l) blk off m := fun dk m W l hW hI => CompOut.cut hblk hF hW hI l
  have HT : Aside _ := cut
  have HS : Aside _ := same
  have HC : Aside _ := hcmp
  have HH : Aside _ := hH
  have S0 : Aside _ := hS0
  have H1 : Aside _ := h1
  have HF : Aside _ := hF
  clear same cut hcmp hH hS0 h1 hF
  by_cases h2 : d.size < 2
  · go_enter Tryz.func238, Tryz.ntmps238
    go_wp2
    go_ret
    have := HS.out w S0.out (fun j hj => by
      rcases Nat.eq_zero_or_pos j with h | h
      · subst h; exact keepsB_lt_one d 0 Nat.one_pos
      · omega)
    first | exact this | exact ⟨_, this, rfl⟩
  · go_enter Tryz.func238, Tryz.ntmps238
    go_wp2
    go_loopg [5] d.size (fun g5 s5 wr => ∃ k : Nat, 1 ≤ k ∧ k ≤ d.size ∧ d.size - k ≤ g5 ∧ s5 = .int .i64 k ∧ SWK (fun x => [ea x]) 1 w blk off d wr ∧ ∀ j, j < k → keepsB ef d j = true)
    case atStart => exact ⟨1, Nat.le_refl _, by omega, by omega, rfl, S0.out, keepsB_lt_one d⟩
    case round =>
      obtain ⟨k, hk1, hkd, hg, rfl, hW, hall⟩ := hrel
      by_cases hlt : k < d.size
      · obtain ⟨kp, rfl⟩ : ∃ kp, k = kp + 1 := ⟨k - 1, by omega⟩
        obtain ⟨xj, hxj⟩ : ∃ x, d[kp + 1]! = x := ⟨_, rfl⟩
        obtain ⟨xp, hxp⟩ : ∃ x, d[kp]! = x := ⟨_, rfl⟩
        have hHc : ∀ n' os', HoldsK (fun x => [ea x]) 1 (grow (wr.drewN n') os') blk off d := fun n' os' => (SWK_grown hW n' os').holds hblk HH.out rfl
        have lj0 : ∀ n' os', (grow (wr.drewN n') os').cell? ⟨blk, off + (kp + 1), none⟩ = some (ea xj) := fun n' os' => by
          rw [← hxj]; simpa using ((hHc n' os').cell (i := kp + 1) (c := 0) hlt (by omega)).1
        have lp0 : ∀ n' os', (grow (wr.drewN n') os').cell? ⟨blk, off + kp, none⟩ = some (ea xp) := fun n' os' => by
          rw [← hxp]; simpa using ((hHc n' os').cell (i := kp) (c := 0) (by omega) (by omega)).1
        have hcg : ∀ n' os', Calls Tryz.prog g #[ea xj, ea xp] (grow (wr.drewN n') os') fun e w' => e = .returned (.bool (ef xj xp)) ∧ ∃ q os'', w' = grow ((grow (wr.drewN n') os').drewN q) os'' := fun n' os' =>
          HC.out d _ rfl (SWK_grown hW n' os') xj xp
        have hwp : IntKind.i64.wrap (kp : Int) = (kp : Int) := by rw [IntKind.wrap_i64]; omega
        have jz : (kp : Int) + 1 < (d.size : Int) := by omega
        have jz1 : (kp : Int) < (d.size : Int) := by omega
        have p0 : (0 : Int) ≤ (kp : Int) + 1 := by omega
        have e0 : ((kp : Int) + 1).toNat = kp + 1 := by omega
        have HW : Aside _ := hW
        have HA : Aside _ := hall
        have HX : Aside (d[kp + 1]! = xj ∧ d[kp]! = xp) := ⟨hxj, hxp⟩
        clear hW hall hHc hxj hxp
        cases hef : ef xj xp
        · rw [hef] at hcg
          go_wp2_with fail
          go_quiet_grown (first | (go_at_fn g; refine Calls.grown_of (hcg _ _)))
          go_wp2
          go_roundg (d.size - (kp + 1 + 1))
          case measure => omega
          case rel =>
            refine ⟨kp + 1 + 1, by omega, by omega, Nat.le_refl _, by go_num, SWK_grown HW.out _ _, fun j hj => ?_⟩
            by_cases e : j = kp + 1
            · subst e
              exact keepsB_pos (by rw [Nat.add_sub_cancel, HX.out.1, HX.out.2]; exact hef)
            · exact HA.out j (by omega)
        · rw [hef] at hcg
          go_wp2_with fail
          go_quiet_grown (first | (go_at_fn g; refine Calls.grown_of (hcg _ _)))
          go_wp2
          clear lj0 lp0 hcg
          go_loopg [5, 7] d.size (fun g5 s5 s7 wr2 => ∃ (kk k2 : Nat) (dk : Array α), s5 = .int .i64 kk ∧ s7 = .int .i64 k2 ∧ 1 ≤ k2 ∧ kp + 1 + k2 ≤ d.size ∧ d.size - (kp + 1 + k2) ≤ g5 ∧ SWK (fun x => [ea x]) 1 w blk off dk wr2 ∧ CInv ef d (kp + 1 + k2) kk dk)
          case atStart => exact ⟨kp + 1, 1, d, by go_num, rfl, Nat.le_refl _, by omega, by omega, SWK_grown HW.out _ _, CInv.start HA.out (keepsB_neg (by omega) (by rw [Nat.add_sub_cancel, HX.out.1, HX.out.2]; exact hef))⟩
          case round =>
            obtain ⟨kk, k2, dk, rfl, rfl, hk2, hle, hg2, hW2, hI⟩ := hrel
            have hkk := hI.lt
            have hds := hI.size
            by_cases hlt2 : kp + 1 + k2 < d.size
            · obtain ⟨kq, rfl⟩ : ∃ kq, k2 = kq + 1 := ⟨k2 - 1, by omega⟩
              obtain ⟨u, hu⟩ : ∃ x, d[kp + 1 + (kq + 1)]! = x := ⟨_, rfl⟩
              obtain ⟨v, hv⟩ : ∃ x, d[kp + 1 + kq]! = x := ⟨_, rfl⟩
              have eu : dk[kp + 1 + (kq + 1)]! = u := by rw [hI.high _ (by omega)]; exact hu
              have ev : dk[kp + 1 + kq]! = v := by rw [hI.high _ (by omega)]; exact hv
              have hHc : ∀ n' os', HoldsK (fun x => [ea x]) 1 (grow (wr.drewN n') os') blk off dk := fun n' os' => (SWK_grown hW2 n' os').holds hblk HH.out hds
              have lj0 : ∀ n' os', (grow (wr.drewN n') os').cell? ⟨blk, off + (kp + 1) + (kq + 1), none⟩ = some (ea u) := fun n' os' => by
                rw [← eu, Nat.add_assoc]; simpa using ((hHc n' os').cell (i := kp + 1 + (kq + 1)) (c := 0) (by omega) (by omega)).1
              have lp0 : ∀ n' os', (grow (wr.drewN n') os').cell? ⟨blk, off + (kp + 1) + kq, none⟩ = some (ea v) := fun n' os' => by
                rw [← ev, Nat.add_assoc]; simpa using ((hHc n' os').cell (i := kp + 1 + kq) (c := 0) (by omega) (by omega)).1
              have hcg : ∀ n' os', Calls Tryz.prog g #[ea u, ea v] (grow (wr.drewN n') os') fun e w' => e = .returned (.bool (ef u v)) ∧ ∃ q os'', w' = grow ((grow (wr.drewN n') os').drewN q) os'' := fun n' os' =>
                HC.out dk _ hds (SWK_grown hW2 n' os') u v
              have kc0 : ∀ n' os', (grow (wr.drewN n') os').cell? ⟨blk, off + kk, none⟩ = some (ea dk[kk]!) := fun n' os' => by simpa using ((hHc n' os').cell (i := kk) (c := 0) (by omega) (by omega)).1
              have kf0 : ∀ n' os', (grow (wr.drewN n') os').frozen? ⟨blk, off + kk, none⟩ = false := fun n' os' => by simpa using ((hHc n' os').cell (i := kk) (c := 0) (by omega) (by omega)).2
              have hclu : (ea u).cells = #[ea u] := cells_one (H1.out u)
              simp only [Value.cells] at hclu
              have sa : ∀ (a : Addr) (m : Mode) (w : World), Sem.run Tryz.prog (store a (ea u) m) w = stored Tryz.prog w a (ea u) m := fun a m w => run_store Tryz.prog w a _ m (H1.out u)
              generalize dk[kk]! = old at kc0
              have hwq : IntKind.i64.wrap (kq : Int) = (kq : Int) := by rw [IntKind.wrap_i64]; omega
              have j0 : (kq : Int) + 1 < (d.size - (kp + 1) : Nat) := by omega
              have j1 : (kq : Int) < (d.size - (kp + 1) : Nat) := by omega
              have j2 : (kk : Int) < (d.size : Int) := by omega
              have q0 : (0 : Int) ≤ (kq : Int) + 1 := by omega
              have e0' : ((kq : Int) + 1).toNat = kq + 1 := by omega
              have HW2 : Aside _ := hW2
              have HI : Aside _ := hI
              have HX2 : Aside (d[kp + 1 + (kq + 1)]! = u ∧ d[kp + 1 + kq]! = v) := ⟨hu, hv⟩
              clear hW2 hI hHc hu hv eu ev
              cases hef2 : ef u v
              · rw [hef2] at hcg
                go_wp2_with fail
                go_quiet_grown (first | (go_at_fn g; refine Calls.grown_of (hcg _ _)))
                go_wp2
                go_roundg (d.size - (kp + 1 + (kq + 1 + 1)))
                case measure => omega
                case rel => exact ⟨kk + 1, kq + 1 + 1, dk.setIfInBounds kk u, by go_num, by go_num, by omega, by omega, Nat.le_refl _, by simpa [World.setCells] using SWK_store (SWK_grown HW2.out nq osq) (fun _ => rfl) hblk (i := kk) (by omega) u, by
                  have := HI.out.keep hlt2 (keepsB_pos (by rw [show kp + 1 + (kq + 1) - 1 = kp + 1 + kq from by omega, HX2.out.1, HX2.out.2]; exact hef2))
                  rwa [HX2.out.1] at this⟩
              · rw [hef2] at hcg
                clear sa hclu kc0 kf0
                go_wp2_with fail
                go_quiet_grown (first | (go_at_fn g; refine Calls.grown_of (hcg _ _)))
                go_wp2
                go_roundg (d.size - (kp + 1 + (kq + 1 + 1)))
                case measure => omega
                case rel => exact ⟨kk, kq + 1 + 1, dk, rfl, by go_num, by omega, by omega, Nat.le_refl _, SWK_grown HW2.out _ _, HI.out.skip (keepsB_neg (by omega) (by rw [show kp + 1 + (kq + 1) - 1 = kp + 1 + kq from by omega, HX2.out.1, HX2.out.2]; exact hef2))⟩
            · have hend : kp + 1 + k2 = d.size := by omega
              have hHc := hW2.holds hblk HH.out hds
              obtain ⟨l, hcl⟩ := run_clear_cells (P := Tryz.prog) wr 37 24 (.slice none 0 0) [.slice none 0 0] (by kernel_rfl) (fun w => by go_simp) rfl (by decide) (by simp [Value.oneCell']) blk (off + kk) (d.size - kk) (cap - kk) (by omega)
                (fun j hj => by
                  have hj' : j < (d.size - kk) * 1 := hj
                  have := (hHc (kk + j) (by rw [size_flatK]; omega)).1
                  rw [Nat.add_assoc, this]; rfl)
                (fun j hj => by
                  have hj' : j < (d.size - kk) * 1 := hj
                  rw [Nat.add_assoc]; exact (hHc (kk + j) (by rw [size_flatK]; omega)).2)
              clear hHc
              have HW2 : Aside _ := hW2
              have HI : Aside _ := hI
              clear hW2 hI
              go_wp2
              go_ret
              have := HT.out dk kk wr l HW2.out (by have := HI.out; rwa [hend] at this)
              rw [Nat.mul_one] at this
              first | exact this | exact ⟨_, this, rfl⟩
      · have : k = d.size := by omega
        subst this
        have HW : Aside _ := hW
        have HA : Aside _ := hall
        clear hW hall
        go_wp2
        go_ret
        have := HS.out _ HW.out HA.out
        first | exact this | exact ⟨_, this, rfl⟩
end Go.Proofs.YtiagnjkaokhcfaaGreatD
