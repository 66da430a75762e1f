/- Contracts and plain laws of this seat; no condition. -/
import Derived.Test.YtboolngaahifdaaGreatQ11
import Derived.Test.YtboolngaahifdaaGreatQ9
import Derived.WalkKit
import Derived.WalkSpells
import Derived.Test.YtboolngaahifdaaGreatQ12
set_option linter.unusedVariables false
set_option linter.unusedSimpArgs false
set_option maxRecDepth 100000
namespace Go.Proofs.YtboolngaahifdaaGreatD
open Go Go.Proofs Go.RowKit Go.Shelf Go.Sort Go.Lib
theorem cells_one {v : Value} (h : v.oneCell' = true) : v.cells = #[v] := by
 cases v <;> simp_all [Value.cells, Value.oneCell']
set_option maxHeartbeats 4000000 in
set_option maxRecDepth 1000000 in
theorem compact_walk1 {α : Type} [Inhabited α] (ea : α → Value) (ef : α → α → Bool) (g blk off cap : Nat) (d : Array α) (w : World)
  (eg : ∀ args w, (callFunc g args).run Tryz.prog w = .ok (.enter g args) w) (hcmp : EqLays Tryz.prog g (ea) (fun x => [ea x]) 1 ef w blk off d.size) (h1 : ∀ x, (ea x).oneCell' = true) (hH : HoldsK (fun x => [ea x]) 1 w blk off d) (hblk : blk < w.heap.size) (hF : ∀ c e, w.heap[blk]? = some (.cells c e (0, 0)) → off + d.size * 1 ≤ c.size) (hsz : d.size < 4611686018427387904) (hcap : d.size ≤ cap) :
  Calls Tryz.prog 154 #[.slice (some ⟨blk, off, none⟩) d.size cap, .func (.func g) #[] #[]] w fun e w' =>
   ∃ m : Nat, CompOut (fun x => [ea x]) 1 ef d w w' blk off m ∧ e = .returned (.slice (some ⟨blk, off, none⟩) m cap) := by
 have mixed : Tryz.prog.follows .mixedOrders = true := by kernel_rfl
 have hS0 : SWK (fun x => [ea x]) 1 w blk off d w := SWK.start hH
 have same : ∀ W, SWK (fun x => [ea x]) 1 w blk off d W → (∀ j, j < d.size → keepsB ef d j = true) → CompOut (fun x => [ea x]) 1 ef d w W blk off d.size := fun W hW hall => CompOut.all hblk hF hW hall
 have cut : ∀ (dk : Array α) (m : Nat) W l, SWK (fun x => [ea x]) 1 w blk off dk W → CInv ef d d.size m dk → CompOut (fun x => [ea x]) 1 ef d w (W.setCells blk (off + m * 1) l) blk off m := fun dk m W l hW hI => CompOut.cut hblk hF hW hI l
 have HT : Aside _ := cut
 have HS : Aside _ := same
 have HC : Aside _ := hcmp
 have HH : Aside _ := hH
 have S0 : Aside _ := hS0
 have H1 : Aside _ := h1
 have HF : Aside _ := hF
 clear same cut hcmp hH hS0 h1 hF
 by_cases h2 : d.size < 2
 ·go_enter Tryz.func154, Tryz.ntmps154
  go_wp2
  go_ret
  have := HS.out w S0.out (fun j hj => by
   rcases Nat.eq_zero_or_pos j with h | h
   ·subst h; exact keepsB_lt_one d 0 Nat.one_pos
   ·omega)
  first | exact this | exact ⟨_, this, rfl⟩
 ·go_enter Tryz.func154, Tryz.ntmps154
  go_wp2
  go_loopg [5] d.size (fun g5 s5 wr => ∃ k : Nat, 1 ≤ k ∧ k ≤ d.size ∧ d.size - k ≤ g5 ∧ s5 = .int .i64 k ∧ SWK (fun x => [ea x]) 1 w blk off d wr ∧ ∀ j, j < k → keepsB ef d j = true)
  case atStart => exact ⟨1, Nat.le_refl _, by omega, by omega, rfl, S0.out, keepsB_lt_one d⟩
  case round =>
   obtain ⟨k, hk1, hkd, hg, rfl, hW, hall⟩ := hrel
   by_cases hlt : k < d.size
   ·obtain ⟨kp, rfl⟩ : ∃ kp, k = kp + 1 := ⟨k - 1, by omega⟩
    obtain ⟨xj, hxj⟩ : ∃ x, d[kp + 1]! = x := ⟨_, rfl⟩
    obtain ⟨xp, hxp⟩ : ∃ x, d[kp]! = x := ⟨_, rfl⟩
    have hHc : ∀ n' os', HoldsK (fun x => [ea x]) 1 (grow (wr.drewN n') os') blk off d := fun n' os' => (SWK_grown hW n' os').holds hblk HH.out rfl
    have lj0 : ∀ n' os', (grow (wr.drewN n') os').cell? ⟨blk, off + (kp + 1), none⟩ = some (ea xj) := fun n' os' => by
     rw [← hxj]; simpa using ((hHc n' os').cell (i := kp + 1) (c := 0) hlt (by omega)).1
    have lp0 : ∀ n' os', (grow (wr.drewN n') os').cell? ⟨blk, off + kp, none⟩ = some (ea xp) := fun n' os' => by
     rw [← hxp]; simpa using ((hHc n' os').cell (i := kp) (c := 0) (by omega) (by omega)).1
    have hcg : ∀ n' os', Calls Tryz.prog g #[ea xj, ea xp] (grow (wr.drewN n') os') fun e w' => e = .returned (.bool (ef xj xp)) ∧ ∃ q os'', w' = grow ((grow (wr.drewN n') os').drewN q) os'' := fun n' os' =>
     HC.out d _ rfl (SWK_grown hW n' os') xj xp
    have hwp : IntKind.i64.wrap (kp : Int) = (kp : Int) := by rw [IntKind.wrap_i64]; omega
    have jz : (kp : Int) + 1 < (d.size : Int) := by omega
    have jz1 : (kp : Int) < (d.size : Int) := by omega
    have p0 : (0 : Int) ≤ (kp : Int) + 1 := by omega
    have e0 : ((kp : Int) + 1).toNat = kp + 1 := by omega
    have HW : Aside _ := hW
    have HA : Aside _ := hall
    have HX : Aside (d[kp + 1]! = xj ∧ d[kp]! = xp) := ⟨hxj, hxp⟩
    clear hW hall hHc hxj hxp
    cases hef : ef xj xp
    ·rw [hef] at hcg
     go_wp2_with fail
     go_quiet_grown (first | (go_at_fn g; refine Calls.grown_of (hcg _ _)))
     go_wp2
     go_roundg (d.size - (kp + 1 + 1))
     case measure => omega
     case rel =>
      refine ⟨kp + 1 + 1, by omega, by omega, Nat.le_refl _, by go_num, SWK_grown HW.out _ _, fun j hj => ?_⟩
      by_cases e : j = kp + 1
      ·subst e
       exact keepsB_pos (by rw [Nat.add_sub_cancel, HX.out.1, HX.out.2]; exact hef)
      ·exact HA.out j (by omega)
    ·rw [hef] at hcg
     go_wp2_with fail
     go_quiet_grown (first | (go_at_fn g; refine Calls.grown_of (hcg _ _)))
     go_wp2
     clear lj0 lp0 hcg
     go_loopg [5, 7] d.size (fun g5 s5 s7 wr2 => ∃ (kk k2 : Nat) (dk : Array α), s5 = .int .i64 kk ∧ s7 = .int .i64 k2 ∧ 1 ≤ k2 ∧ kp + 1 + k2 ≤ d.size ∧ d.size - (kp + 1 + k2) ≤ g5 ∧ SWK (fun x => [ea x]) 1 w blk off dk wr2 ∧ CInv ef d (kp + 1 + k2) kk dk)
     case atStart => exact ⟨kp + 1, 1, d, by go_num, rfl, Nat.le_refl _, by omega, by omega, SWK_grown HW.out _ _, CInv.start HA.out (keepsB_neg (by omega) (by rw [Nat.add_sub_cancel, HX.out.1, HX.out.2]; exact hef))⟩
     case round =>
      obtain ⟨kk, k2, dk, rfl, rfl, hk2, hle, hg2, hW2, hI⟩ := hrel
      have hkk := hI.lt
      have hds := hI.size
      by_cases hlt2 : kp + 1 + k2 < d.size
      ·obtain ⟨kq, rfl⟩ : ∃ kq, k2 = kq + 1 := ⟨k2 - 1, by omega⟩
       obtain ⟨u, hu⟩ : ∃ x, d[kp + 1 + (kq + 1)]! = x := ⟨_, rfl⟩
       obtain ⟨v, hv⟩ : ∃ x, d[kp + 1 + kq]! = x := ⟨_, rfl⟩
       have eu : dk[kp + 1 + (kq + 1)]! = u := by rw [hI.high _ (by omega)]; exact hu
       have ev : dk[kp + 1 + kq]! = v := by rw [hI.high _ (by omega)]; exact hv
       have hHc : ∀ n' os', HoldsK (fun x => [ea x]) 1 (grow (wr.drewN n') os') blk off dk := fun n' os' => (SWK_grown hW2 n' os').holds hblk HH.out hds
       have lj0 : ∀ n' os', (grow (wr.drewN n') os').cell? ⟨blk, off + (kp + 1) + (kq + 1), none⟩ = some (ea u) := fun n' os' => by
        rw [← eu, Nat.add_assoc]; simpa using ((hHc n' os').cell (i := kp + 1 + (kq + 1)) (c := 0) (by omega) (by omega)).1
       have lp0 : ∀ n' os', (grow (wr.drewN n') os').cell? ⟨blk, off + (kp + 1) + kq, none⟩ = some (ea v) := fun n' os' => by
        rw [← ev, Nat.add_assoc]; simpa using ((hHc n' os').cell (i := kp + 1 + kq) (c := 0) (by omega) (by omega)).1
       have hcg : ∀ n' os', Calls Tryz.prog g #[ea u, ea v] (grow (wr.drewN n') os') fun e w' => e = .returned (.bool (ef u v)) ∧ ∃ q os'', w' = grow ((grow (wr.drewN n') os').drewN q) os'' := fun n' os' =>
        HC.out dk _ hds (SWK_grown hW2 n' os') u v
       have kc0 : ∀ n' os', (grow (wr.drewN n') os').cell? ⟨blk, off + kk, none⟩ = some (ea dk[kk]!) := fun n' os' => by simpa using ((hHc n' os').cell (i := kk) (c := 0) (by omega) (by omega)).1
       have kf0 : ∀ n' os', (grow (wr.drewN n') os').frozen? ⟨blk, off + kk, none⟩ = false := fun n' os' => by simpa using ((hHc n' os').cell (i := kk) (c := 0) (by omega) (by omega)).2
       have hclu : (ea u).cells = #[ea u] := cells_one (H1.out u)
       simp only [Value.cells] at hclu
       have sa : ∀ (a : Addr) (m : Mode) (w : World), Sem.run Tryz.prog (store a (ea u) m) w = stored Tryz.prog w a (ea u) m := fun a m w => run_store Tryz.prog w a _ m (H1.out u)
       generalize dk[kk]! = old at kc0
       have hwq : IntKind.i64.wrap (kq : Int) = (kq : Int) := by rw [IntKind.wrap_i64]; omega
       have j0 : (kq : Int) + 1 < (d.size - (kp + 1) : Nat) := by omega
       have j1 : (kq : Int) < (d.size - (kp + 1) : Nat) := by omega
       have j2 : (kk : Int) < (d.size : Int) := by omega
       have q0 : (0 : Int) ≤ (kq : Int) + 1 := by omega
       have e0' : ((kq : Int) + 1).toNat = kq + 1 := by omega
       have HW2 : Aside _ := hW2
       have HI : Aside _ := hI
       have HX2 : Aside (d[kp + 1 + (kq + 1)]! = u ∧ d[kp + 1 + kq]! = v) := ⟨hu, hv⟩
       clear hW2 hI hHc hu hv eu ev
       cases hef2 : ef u v
       ·rw [hef2] at hcg
        go_wp2_with fail
        go_quiet_grown (first | (go_at_fn g; refine Calls.grown_of (hcg _ _)))
        go_wp2
        go_roundg (d.size - (kp + 1 + (kq + 1 + 1)))
        case measure => omega
        case rel => exact ⟨kk + 1, kq + 1 + 1, dk.setIfInBounds kk u, by go_num, by go_num, by omega, by omega, Nat.le_refl _, by simpa [World.setCells] using SWK_store (SWK_grown HW2.out nq osq) (fun _ => rfl) hblk (i := kk) (by omega) u, by
         have := HI.out.keep hlt2 (keepsB_pos (by rw [show kp + 1 + (kq + 1) - 1 = kp + 1 + kq from by omega, HX2.out.1, HX2.out.2]; exact hef2))
         rwa [HX2.out.1] at this⟩
       ·rw [hef2] at hcg
        clear sa hclu kc0 kf0
        go_wp2_with fail
        go_quiet_grown (first | (go_at_fn g; refine Calls.grown_of (hcg _ _)))
        go_wp2
        go_roundg (d.size - (kp + 1 + (kq + 1 + 1)))
        case measure => omega
        case rel => exact ⟨kk, kq + 1 + 1, dk, rfl, by go_num, by omega, by omega, Nat.le_refl _, SWK_grown HW2.out _ _, HI.out.skip (keepsB_neg (by omega) (by rw [show kp + 1 + (kq + 1) - 1 = kp + 1 + kq from by omega, HX2.out.1, HX2.out.2]; exact hef2))⟩
      ·have hend : kp + 1 + k2 = d.size := by omega
       have hHc := hW2.holds hblk HH.out hds
       obtain ⟨l, hcl⟩ := run_clear_cells (P := Tryz.prog) wr 33 24 (.slice none 0 0) [.slice none 0 0] (by kernel_rfl) (fun w => by go_simp) rfl (by decide) (by simp [Value.oneCell']) blk (off + kk) (d.size - kk) (cap - kk) (by omega)
        (fun j hj => by
         have hj' : j < (d.size - kk) * 1 := hj
         have := (hHc (kk + j) (by rw [size_flatK]; omega)).1
         rw [Nat.add_assoc, this]; rfl)
        (fun j hj => by
         have hj' : j < (d.size - kk) * 1 := hj
         rw [Nat.add_assoc]; exact (hHc (kk + j) (by rw [size_flatK]; omega)).2)
       clear hHc
       have HW2 : Aside _ := hW2
       have HI : Aside _ := hI
       clear hW2 hI
       go_wp2
       go_ret
       have := HT.out dk kk wr l HW2.out (by have := HI.out; rwa [hend] at this)
       rw [Nat.mul_one] at this
       first | exact this | exact ⟨_, this, rfl⟩
   ·have : k = d.size := by omega
    subst this
    have HW : Aside _ := hW
    have HA : Aside _ := hall
    clear hW hall
    go_wp2
    go_ret
    have := HS.out _ HW.out HA.out
    first | exact this | exact ⟨_, this, rfl⟩
end Go.Proofs.YtboolngaahifdaaGreatD
namespace Go.Proofs.YtboolngaahifdaaGreatD
open Go Go.Proofs
abbrev Bnd := Nat → Option Int
def ba (b : Bnd) (k : Nat) : Int := (b k).getD 0
def bs (b : Bnd) (k : Nat) : Bool := (b k).isSome
def bC (b : Bnd) : List V := [ci (ba b 0), ci (ba b 1), ci (ba b 2), ci (ba b 3), ci (ba b 4), ci (ba b 5), ci (ba b 6), ci (ba b 7), ci (ba b 8), ci (ba b 9), ci (ba b 10), ci (ba b 11), ci (ba b 12), ci (ba b 13), ci (ba b 14), ci (ba b 15), ci (ba b 16), ci (ba b 17), ci (ba b 18), ci (ba b 19), cb (bs b 0), cb (bs b 1), cb (bs b 2), cb (bs b 3), cb (bs b 4), cb (bs b 5), cb (bs b 6), cb (bs b 7), cb (bs b 8), cb (bs b 9), cb (bs b 10), cb (bs b 11), cb (bs b 12), cb (bs b 13), cb (bs b 14), cb (bs b 15), cb (bs b 16), cb (bs b 17), cb (bs b 18), cb (bs b 19)]
theorem bC_eq (b : Bnd) : bC b = (List.range 20).map (fun k => ci (ba b k)) ++ (List.range 20).map (fun k => cb (bs b k)) := rfl
def bset (b : Bnd) (k : Nat) (v : Int) : Bnd := fun i => if i = k then some v else b i
theorem bC_at (b : Bnd) (i : Nat) : (bC b)[i]? = if i < 20 then some (ci (ba b i)) else if i < 40 then some (cb (bs b (i - 20))) else none := by
 rw [bC_eq]
 split
 ·rename_i h
  rw [List.getElem?_append_left (by simpa using h), List.getElem?_map, List.getElem?_range h]; rfl
 ·rename_i h
  rw [List.getElem?_append_right (by simp; omega)]
  simp only [List.length_map, List.length_range]
  split
  ·rw [List.getElem?_map, List.getElem?_range (by omega)]; rfl
  ·rw [List.getElem?_eq_none (by simp; omega)]
theorem take1 {cs : List V} {i : Nat} {v : V} (h : cs[i]? = some v) : takeN cs i 1 = some [v] := by
 have hl := (List.getElem?_eq_some_iff.1 h).1
 refine takeN_eq (by omega) ?_
 rw [List.drop_eq_getElem_cons hl]
 simp [(List.getElem?_eq_some_iff.1 h).2]
theorem takeN_bI {b : Bnd} {k : Nat} (hk : k < 20) : takeN ((bC b).drop (k * 1)) 0 1 = some [ci (ba b k)] := by
 refine take1 ?_
 rw [List.getElem?_drop, Nat.mul_one, Nat.add_zero, bC_at, if_pos hk]
theorem takeN_bA {b : Bnd} {k off : Nat} (hk : k < 20) (ho : off = k) : takeN (bC b) off 1 = some [ci (ba b k)] := by
 subst ho
 exact take1 (by rw [bC_at, if_pos hk])
theorem takeN_bB {b : Bnd} {k off : Nat} (hk : k < 20) (ho : off = 20 + k) : takeN (bC b) off 1 = some [cb (bs b k)] := by
 subst ho
 exact take1 (by rw [bC_at, if_neg (by omega), if_pos (by omega), Nat.add_sub_cancel_left])
def cB (a : Nat → Int) (f : Nat → Bool) : List V := [ci (a 0), ci (a 1), ci (a 2), ci (a 3), ci (a 4), ci (a 5), ci (a 6), ci (a 7), ci (a 8), ci (a 9), ci (a 10), ci (a 11), ci (a 12), ci (a 13), ci (a 14), ci (a 15), ci (a 16), ci (a 17), ci (a 18), ci (a 19), cb (f 0), cb (f 1), cb (f 2), cb (f 3), cb (f 4), cb (f 5), cb (f 6), cb (f 7), cb (f 8), cb (f 9), cb (f 10), cb (f 11), cb (f 12), cb (f 13), cb (f 14), cb (f 15), cb (f 16), cb (f 17), cb (f 18), cb (f 19)]
theorem cB_eq (a : Nat → Int) (f : Nat → Bool) : cB a f = (List.range 20).map (fun k => ci (a k)) ++ (List.range 20).map (fun k => cb (f k)) := rfl
theorem cB_len (a : Nat → Int) (f : Nat → Bool) : (cB a f).length = 40 := rfl
def updf {α : Type} (f : Nat → α) (k : Nat) (v : α) : Nat → α := fun i => if i = k then v else f i
theorem cB_at (a : Nat → Int) (f : Nat → Bool) (i : Nat) : (cB a f)[i]? = if i < 20 then some (ci (a i)) else if i < 40 then some (cb (f (i - 20))) else none := by
 rw [cB_eq]
 split
 ·rename_i h
  rw [List.getElem?_append_left (by simpa using h), List.getElem?_map, List.getElem?_range h]; rfl
 ·rename_i h
  rw [List.getElem?_append_right (by simp; omega)]
  simp only [List.length_map, List.length_range]
  split
  ·rw [List.getElem?_map, List.getElem?_range (by omega)]; rfl
  ·rw [List.getElem?_eq_none (by simp; omega)]
theorem cB_setB (a : Nat → Int) (f : Nat → Bool) {k off : Nat} (hk : k < 20) (ho : off = 20 + k) (v : Bool) : setC (cB a f) off [cb v] = cB a (updf f k v) := by
 subst ho
 apply List.ext_getElem?
 intro i
 rw [setC_get (by rw [cB_len]; simp; omega), cB_at, cB_at]
 simp only [List.length_singleton, updf]
 by_cases h2 : i = 20 + k
 ·subst h2
  rw [if_pos ⟨Nat.le_refl _, by omega⟩, if_neg (by omega), if_pos (by omega), Nat.sub_self, Nat.add_sub_cancel_left, if_pos rfl]
  rfl
 ·rw [if_neg (by omega)]
  split
  ·rfl
  ·split
   ·rw [if_neg (by omega)]
   ·rfl
theorem cB_setA (a : Nat → Int) (f : Nat → Bool) {k off : Nat} (hk : k < 20) (ho : off = k) (v : Int) : setC (cB a f) off [ci v] = cB (updf a k v) f := by
 subst ho
 apply List.ext_getElem?
 intro i
 rw [setC_get (by rw [cB_len]; simp; omega), cB_at, cB_at]
 simp only [List.length_singleton, updf]
 by_cases h2 : i = off
 ·subst h2
  rw [if_pos ⟨Nat.le_refl _, by omega⟩, if_pos hk, if_pos rfl]
  simp
 ·rw [if_neg (by omega)]
  split
  ·first | rfl | rw [if_neg h2]
  ·rfl
theorem cB_bset (b : Bnd) (k : Nat) (v : Int) : cB (updf (ba b) k v) (updf (bs b) k true) = bC (bset b k v) := by
 have h1 : updf (ba b) k v = ba (bset b k v) := by
  funext i
  simp only [updf, ba, bset]
  split <;> rfl
 have h2 : updf (bs b) k true = bs (bset b k v) := by
  funext i
  simp only [updf, bs, bset]
  split <;> rfl
 rw [h1, h2]; rfl
def valOf (b : Bnd) (t : Int) : Int := if isVar t then ba b t.toNat else constOf t
theorem valueOf_spec (b : Bnd) (t : Int) : Spec Tryz.prog 199 [.rp (bC b), ci t] (ci (valOf b t)) := by
 refine Spec_of mx Γ_ok Tryz.func199 rfl ?_
 conv => whnf
 refine ⟨_, implIsVar_spec t, .inl rfl, .inl ?_⟩
 conv => whnf
 unfold valOf
 generalize hv : isVar t = c1
 cases c1 with
 | true =>
  have hr : 0 ≤ t ∧ t ≤ 19 := by simpa [isVar, inR] using hv
  obtain ⟨k, rfl⟩ : ∃ k : Nat, t = k := ⟨t.toNat, by omega⟩
  conv => whnf
  refine ⟨by omega, ?_⟩
  conv => whnf
  refine ⟨_, takeN_bI (b := b) (k := k) (by omega), ?_⟩
  conv => whnf
  rfl
 | false =>
  conv => whnf
  refine ⟨_, implConstOf_spec t, .inl rfl, .inl ?_⟩
  conv => whnf
  rfl
def tupOf (b : Bnd) (h : List Int) : List Int := h.map (valOf b)
theorem tuple_spec (b : Bnd) (xs : List Int) (h : xs.length ≤ 1099511627776) : Spec Tryz.prog 156 [.rp (bC b), ints xs] (intsT (tupOf b xs)) := by
 refine Spec_of mx Γ_ok Tryz.func156 rfl ?_
 conv => whnf
 refine ⟨[(0,0),(4,0),(5,0),(9,0),(10,0),(11,0)], fun m s => ∃ (k : Nat) (e : Int) (n : Nat) (r : List V), e = k ∧ m + k = xs.length ∧ n = k ∧ r = rows ciL ((xs.take k).map (valOf b)) ∧
  s = ⟨23, [(0, .rp (bC b)), (4, cnil), (5, .own 0 1 0 n n none), (9, ints xs), (10, ci xs.length), (11, ci e)], [some ⟨false, r⟩]⟩, xs.length, ⟨0, 0, 0, _, rfl, rfl, rfl, rfl, rfl⟩, ?_⟩
 rintro m s ⟨k, _, n, _, rfl, hm, rfl, rfl, rfl⟩
 conv => whnf
 split <;> rename_i h1
 all_goals simp only [decide_eq_true_eq, decide_eq_false_iff_not] at h1
 ·conv => whnf
  have hk : n < xs.length := by omega
  refine ⟨by omega, rows_len ciL_len xs, ?_⟩
  conv => whnf
  refine ⟨_, takeN_rp (k := n) ciL_len hk, ?_⟩
  conv => whnf
  refine ⟨_, valueOf_spec b xs[n], .inl rfl, .inl ?_⟩
  conv => whnf
  refine ⟨_, rfl, .inl ⟨flat1 rfl, ?_⟩⟩
  conv => whnf
  refine ⟨by omega, by rw [rows_len ciL_len, List.length_map, List.length_take]; congr 1; omega, _, snoc_ci _ _, ?_⟩
  conv => whnf
  refine ⟨m - 1, by omega, n + 1, _, _, _, wrap_id (by omega) (by omega), by omega, rfl, ?_, rfl⟩
  rw [List.take_succ_eq_append_getElem hk, List.map_append, List.map_singleton]
 ·conv => whnf
  have hkk : n = xs.length := by omega
  subst hkk
  rw [List.take_length]
  refine ⟨by rw [rows_len ciL_len, List.length_map], ?_⟩
  show V.tr 1 xs.length _ = intsT _
  rw [intsT, tupOf, List.length_map]
def bindGo : List Int → List Int → Bnd → Bnd × Bool
 | t :: ts, v :: vs, b => if t < 0 then (if -1 - t = v then bindGo ts vs b else (b, false)) else match b t.toNat with
  | none => bindGo ts vs (bset b t.toNat v)
  | some u => if u = v then bindGo ts vs b else (b, false)
 | _, _, b => (b, true)
def mch (b : Bnd) (a f : FactC) : Bnd × Bool := if a.1 = f.1 ∧ a.2.length = f.2.length then bindGo a.2 f.2 b else (b, false)
def bNone : Bnd := fun _ => none
set_option maxHeartbeats 4000000 in
theorem match_spec (b : Bnd) (a f : FactC) (ha : a.2.length ≤ 1099511627776) (hf : f.2.length ≤ 1099511627776) (ht : a.2.all isTerm = true) : Spec Tryz.prog 148 [.agg (bC b), vAtom a, vFact f] (.tup [.agg (bC (mch b a f).1), cb (mch b a f).2]) := by
 refine Spec_of mx Γ_ok Tryz.func148 rfl ?_
 conv => whnf
 unfold mch
 generalize hc1 : (a.1 != f.1) = c1
 cases c1 with
 | true =>
  have h1 : ¬ a.1 = f.1 := by simpa using hc1
  conv => whnf
  rw [if_neg (fun h => h1 h.1)]
  rfl
 | false =>
  have h1 : a.1 = f.1 := by simpa using hc1
  conv => whnf
  generalize hc2 : ((a.2.length : Int) != (f.2.length : Int)) = c2
  cases c2 with
  | true =>
   have h2 : ¬ a.2.length = f.2.length := by
    have : ¬ (a.2.length : Int) = f.2.length := by simpa using hc2
    omega
   conv => whnf
   rw [if_neg (fun h => h2 h.2)]
   rfl
  | false =>
   have h2 : a.2.length = f.2.length := by
    have : (a.2.length : Int) = f.2.length := by simpa using hc2
    omega
   rw [if_pos ⟨h1, h2⟩]
   conv => whnf
   refine ⟨[(3,0),(4,0),(5,0),(6,0),(7,0),(26,0),(27,0),(28,0)], fun m s => ∃ (k : Nat) (e : Int) (x : Bnd), e = k ∧ m + k = a.2.length ∧ bindGo a.2 f.2 b = bindGo (a.2.drop k) (f.2.drop k) x ∧
    s = ⟨64, [(3, .ptr 0 0), (4, .ptr 1 0), (5, .ptr 2 0), (6, .ptr 3 0), (7, cb false), (26, ints a.2), (27, ci a.2.length), (28, ci e)], [some ⟨true, bC x⟩, some ⟨true, rAtom a⟩, some ⟨true, rFact f⟩, some ⟨true, bC bNone⟩]⟩, a.2.length, ⟨0, 0, b, rfl, rfl, rfl, rfl⟩, ?_⟩
   rintro m s ⟨k, _, x, rfl, hm, hj, rfl⟩
   conv => whnf
   split <;> rename_i h3
   all_goals simp only [decide_eq_true_eq, decide_eq_false_iff_not] at h3
   ·conv => whnf
    have hk : k < a.2.length := by omega
    have hkf : k < f.2.length := by omega
    have htk := fz_all_at ht hk
    rw [List.drop_eq_getElem_cons hk, List.drop_eq_getElem_cons hkf, bindGo] at hj
    refine ⟨by omega, rows_len ciL_len _, ?_⟩
    conv => whnf
    refine ⟨_, takeN_rp (k := k) ciL_len hk, ?_⟩
    conv => whnf
    refine ⟨_, implIsVar_spec a.2[k], .inl rfl, .inl ?_⟩
    conv => whnf
    generalize hv : isVar a.2[k] = c3
    cases c3 with
    | true =>
     have hr : 0 ≤ a.2[k] ∧ a.2[k] ≤ 19 := by simpa [isVar, inR] using hv
     obtain ⟨j, hjj⟩ : ∃ j : Nat, a.2[k] = j := ⟨a.2[k].toNat, by omega⟩
     rw [hjj] at hj ⊢
     rw [if_neg (by omega), Int.toNat_natCast] at hj
     conv => whnf
     refine ⟨by omega, ?_⟩
     conv => whnf
     have hgt := takeN_bB (b := x) (k := j) (off := 0 + 20 + (j : Int).toNat * 1) (by omega) (by omega)
     split <;> rename_i hr0
     rotate_left
     ·cases hr0.symm.trans hgt
     cases hr0.symm.trans hgt
     conv => whnf
     generalize hs : bs x j = c4
     cases c4 with
     | false =>
      have hx : x j = none := by
       have : (x j).isSome = false := hs
       cases h : x j with
       | none => rfl
       | some u => rw [h] at this; cases this
      rw [hx] at hj
      conv => whnf
      refine ⟨by omega, ?_⟩
      conv => whnf
      have h7 : Nat.ble (0 + 20 + (j : Int).toNat * 1 + 1) 40 = true := Nat.ble_eq_true_of_le (by omega)
      split <;> rename_i hr1
      rotate_left
      ·cases hr1.symm.trans h7
      conv => whnf
      have hst := cB_setB (ba x) (bs x) (k := j) (off := 0 + 20 + (j : Int).toNat * 1) (by omega) (by omega) true
      generalize hz : setC _ _ _ = z
      cases (hz.symm.trans hst)
      conv => whnf
      refine ⟨by omega, rows_len ciL_len _, ?_⟩
      conv => whnf
      refine ⟨_, takeN_rp (k := k) ciL_len hkf, ?_⟩
      conv => whnf
      refine ⟨by omega, ?_⟩
      conv => whnf
      have h8 : Nat.ble (0 + 0 + (j : Int).toNat * 1 + 1) 40 = true := Nat.ble_eq_true_of_le (by omega)
      split <;> rename_i hr2
      rotate_left
      ·cases hr2.symm.trans h8
      conv => whnf
      have hst2 := cB_setA (ba x) (updf (bs x) j true) (k := j) (off := 0 + 0 + (j : Int).toNat * 1) (by omega) (by omega) f.2[k]
      generalize hz2 : setC _ _ _ = z2
      cases (hz2.symm.trans hst2)
      conv => whnf
      exact ⟨m - 1, by omega, k + 1, _, bset x j f.2[k], wrap_id (by omega) (by omega), by omega, hj, by rw [← cB_bset]; rfl⟩
     | true =>
      obtain ⟨u, hx⟩ : ∃ u, x j = some u := by
       have : (x j).isSome = true := hs
       cases h : x j with
       | none => rw [h] at this; cases this
       | some u => exact ⟨u, rfl⟩
      rw [hx] at hj
      conv => whnf
      refine ⟨[0, 2, 3, 4, 5, 6, 1, 7], by kernel_rfl, ?_⟩
      conv => whnf
      refine ⟨by omega, rows_len ciL_len _, ?_⟩
      conv => whnf
      refine ⟨_, takeN_rp (k := k) ciL_len hkf, ?_⟩
      conv => whnf
      refine ⟨_, rfl, ?_⟩
      conv => whnf
      refine ⟨_, valueOf_spec x (j : Int), .inr trivial, .inl ?_⟩
      have hvo : valOf x (j : Int) = u := by
       unfold valOf
       have hv' : isVar (j : Int) = true := by rw [← hjj]; exact hv
       rw [if_pos hv', Int.toNat_natCast, ba, hx]; rfl
      rw [hvo]
      conv => whnf
      split <;> rename_i h5
      ·have h6 : ¬ u = f.2[k] := by simpa using h5
       conv => whnf
       rw [hj]
       simp only [if_neg h6]
       rfl
      ·have h6 : u = f.2[k] := by simpa using h5
       conv => whnf
       simp only [if_pos h6] at hj
       exact ⟨m - 1, by omega, k + 1, _, x, wrap_id (by omega) (by omega), by omega, hj, rfl⟩
    | false =>
     have hr : -80 ≤ a.2[k] ∧ a.2[k] ≤ -1 := by
      have h8 : -80 ≤ a.2[k] ∧ a.2[k] ≤ 19 := by simpa [isTerm, inR] using htk
      have h9 : ¬ (0 ≤ a.2[k] ∧ a.2[k] ≤ 19) := fun h => by
       have : isVar a.2[k] = true := by simp [isVar, inR, h]
       rw [this] at hv; cases hv
      omega
     rw [if_pos (by omega)] at hj
     conv => whnf
     refine ⟨[0, 2, 3, 4, 5, 6, 1, 7], by kernel_rfl, ?_⟩
     conv => whnf
     refine ⟨by omega, rows_len ciL_len _, ?_⟩
     conv => whnf
     refine ⟨_, takeN_rp (k := k) ciL_len hkf, ?_⟩
     conv => whnf
     refine ⟨_, rfl, ?_⟩
     conv => whnf
     refine ⟨_, valueOf_spec x a.2[k], .inr trivial, .inl ?_⟩
     have hvo : valOf x a.2[k] = -1 - a.2[k] := by
      unfold valOf constOf
      rw [if_neg (by rw [hv]; simp), if_pos (by simp [inR]; omega)]
     rw [hvo]
     conv => whnf
     split <;> rename_i h5
     ·have h6 : ¬ -1 - a.2[k] = f.2[k] := by simpa using h5
      conv => whnf
      rw [hj, if_neg h6]
      rfl
     ·have h6 : -1 - a.2[k] = f.2[k] := by simpa using h5
      conv => whnf
      rw [if_pos h6] at hj
      exact ⟨m - 1, by omega, k + 1, _, x, wrap_id (by omega) (by omega), by omega, hj, rfl⟩
   ·conv => whnf
    rw [hj, drop_end (by omega)]
    have : ∀ l b, bindGo [] l b = (b, true) := fun l b => by cases l <;> rfl
    rw [this]
    rfl
end Go.Proofs.YtboolngaahifdaaGreatD
