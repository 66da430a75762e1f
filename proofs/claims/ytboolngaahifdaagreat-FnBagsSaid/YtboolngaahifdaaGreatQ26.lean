/- Contracts and plain laws of this seat; no condition. -/
import Derived.Test.YtboolngaahifdaaGreatQ25
import Derived.Test.YtboolngaahifdaaGreatQ15
import Derived.Test.YtboolngaahifdaaGreatQ22
import Derived.Test.YtboolngaahifdaaGreatQ12
import Derived.Test.YtboolngaahifdaaGreatQ9
import Derived.WalkKit
import Derived.WalkSpells
set_option linter.unusedVariables false
set_option linter.unusedSimpArgs false
set_option maxRecDepth 100000
namespace Go.Proofs.YtboolngaahifdaaGreatD
open Go Go.Proofs
set_option maxHeartbeats 8000000 in
theorem vZ (xs : List Int) (h : xs.length ≤ 1099511627776) : SpecG Tryz.prog 128 [lC xs] [] fun r g2 => ∃ (s : List Int) (a b : cP), roV r = .tup [aV s, aP a, aP b] ∧ s.length ≤ 8 ∧ aC a ≤ 1048576 ∧ aC b ≤ 1048576 ∧ g2 = [] := by
 refine cU mx aJ 0 Tryz.func128 rfl rfl (by decide) ?_
 conv => whnf
 refine ⟨_, w8 xs h, .inl rfl, .inr ?_⟩
 conv => whnf
 have g0 := EB h
 generalize wF xs = c0 at g0 ⊢
 refine .inr (.inr ⟨[3], [], ?_⟩)
 conv => whnf
 refine ⟨_, XE c0 g0, fun r g2 hP => ?_⟩
 obtain ⟨s, a, b, c1, hr, hs, ha, hb, g1, rfl⟩ := hP
 refine .inl ?_
 rw [hr]
 conv => whnf
 refine ⟨_, dU s a (by show s.length ≤ _; omega) ha, .inl rfl, .inl ?_⟩
 generalize hq : aH s a = q
 cases q with
 | false =>
  conv => whnf
  refine ⟨[2000, 2001, 0, 1, 2, 3, 4, 5], by kernel_rfl, ?_⟩
  conv => whnf
  refine ⟨rfl, ?_⟩
  conv => whnf
  refine ⟨rfl, ?_⟩
  conv => whnf
  refine ⟨[], ?_⟩
  conv => whnf
  exact ⟨s, a, b, by show V.tup [roV (aV s), roV (aP a), roV (aP b)] = _; rw [dX, kH, kH], hs, ha, hb, rfl⟩
 | true =>
  conv => whnf
  refine .inr (.inl ?_)
  conv => whnf
  refine ⟨bD c1, ?_⟩
  conv => whnf
  refine ⟨_, _, _, dT c1 2 g1 (by omega), ?_⟩
  conv => whnf
  refine .inl ?_
  generalize (aI c1 2).2 = c2
  generalize ((aI c1 2).1 == 0) = o
  cases o with
  | false =>
   conv => whnf
   refine ⟨[2000, 2001, 0, 1, 2, 3, 4, 5], by kernel_rfl, ?_⟩
   conv => whnf
   refine ⟨rfl, ?_⟩
   conv => whnf
   refine ⟨rfl, ?_⟩
   conv => whnf
   refine ⟨[], ?_⟩
   conv => whnf
   exact ⟨s, a, b, by show V.tup [roV (aV s), roV (aP a), roV (aP b)] = _; rw [dX, kH, kH], hs, ha, hb, rfl⟩
  | true =>
   conv => whnf
   refine .inl ?_
   conv => whnf
   refine ⟨_, _, aN rfl, rfl, ?_⟩
   conv => whnf
   refine ⟨_, eX a [2, 3, 1, 0] ha (by decide), .inr (gM _), .inr ?_⟩
   conv => whnf
   have hd : aC (sG [2, 3, 1, 0] a) ≤ 1048576 := by rw [VE]; exact ha
   generalize sG [2, 3, 1, 0] a = d at hd ⊢
   generalize hlen : decide (((d.2.length : Nat) : Int) > 1) = bl
   cases bl with
   | false =>
    conv => whnf
    refine ⟨[2000, 2001, 0, 1, 2, 3, 4, 5], by kernel_rfl, ?_⟩
    conv => whnf
    refine ⟨rfl, ?_⟩
    conv => whnf
    refine ⟨rfl, ?_⟩
    conv => whnf
    refine ⟨[], ?_⟩
    conv => whnf
    refine ⟨by rw [a6 a7], by rw [a6 aK], ?_⟩
    exact ⟨s, a, d, by show V.tup [roV (aV s), roV (aP a), roV (cC d)] = _; rw [dX, kH, cW], hs, ha, hd, rfl⟩
   | true =>
    obtain ⟨dh, db⟩ := d
    cases db with
    | nil => have := of_decide_eq_true hlen; simp at this
    | cons d0 dr =>
    have hsz : dh.length + ((d0 :: dr).length + bS b9 (d0 :: dr)) ≤ 1048576 := hd
    have hzl : (d0 :: dr).length = dr.length + 1 := rfl
    have hzl2 : ((dh, d0 :: dr) : cP).2.length = dr.length + 1 := rfl
    conv => whnf
    refine ⟨List.range 11, by kernel_rfl, ?_⟩
    conv => whnf
    refine ⟨⟨by omega, by omega, by omega⟩, ?_⟩
    conv => whnf
    refine ⟨⟨by omega, by omega⟩, ?_⟩
    conv => whnf
    refine ⟨_, rfl, ?_⟩
    conv => whnf
    refine ⟨_, _, _, rfl, ?_⟩
    conv => whnf
    refine ⟨_, rfl, .inr ⟨kV d0, ?_⟩⟩
    conv => whnf
    refine ⟨by omega, ?_, _, lQ bY dr d0, ?_⟩
    ·show (V.sc _ :: V.any :: aB bY dr).length = _
     simp only [List.length_cons, a6 aK]
     show _ = 1 + 1 + (dr.length + 1 - 1) * 2
     omega
    conv => whnf
    refine ⟨[2000, 2001, 0, 1, 2, 3, 4, 5], by kernel_rfl, ?_⟩
    conv => whnf
    refine ⟨rfl, ?_⟩
    conv => whnf
    refine ⟨rfl, ?_⟩
    conv => whnf
    refine ⟨[], ?_⟩
    conv => whnf
    refine ⟨by rw [a6 a7], by rw [a6 aK]; simp, ?_⟩
    have hd2 : aC (dh, dr ++ [d0]) ≤ 1048576 := by
     show dh.length + ((dr ++ [d0]).length + bS b9 (dr ++ [d0])) ≤ _
     have e : bS b9 (dr ++ [d0]) = bS b9 (d0 :: dr) := by
      have : ∀ l : List oJ, bS b9 (l ++ [d0]) = b9 d0 + bS b9 l := by
       intro l
       induction l with
       | nil => rfl
       | cons x l ih => simp only [List.cons_append, bS, ih]; omega
      rw [this]; rfl
     rw [e, List.length_append]
     simp only [List.length_cons, List.length_nil] at hsz ⊢
     omega
    refine ⟨s, a, (dh, dr ++ [d0]), ?_, hs, ha, hd2, rfl⟩
    have e9 : V.tup [aV s, aP a, cC (dh, dr ++ [d0])] = V.tup [aV s, aP a, .agg [.tr 1 dh.length (aB ciL dh), .tr 2 ((d0 :: dr).length - Int.toNat 1 + 1) (aB bY (dr ++ [d0]))]] := by
     show V.tup [_, _, .agg [_, .tr 2 (dr ++ [d0]).length _]] = _
     rw [List.length_append]
     rfl
    show roV (V.tup [aV s, aP a, .agg [.tr 1 dh.length (aB ciL dh), .tr 2 ((d0 :: dr).length - Int.toNat 1 + 1) (aB bY (dr ++ [d0]))]]) = _
    rw [← e9]
    show V.tup [roV (aV s), roV (aP a), roV (cC _)] = _
    rw [dX, kH, cW]
theorem BW (l : List dV) : roV (vA l) = aY l := rQ l
theorem a1K (l : List dV) : dM (aB eT l) = aB eT l := by
 refine bF (f := eT) (g := eT) (fun x => ?_) l
 show [roV (aW x.1), roV (ci x.2)] = _
 rw [show roV (aW x.1) = aW x.1 from by show V.ro _ (dM (aB ciL x.1)) = _; rw [cK]; rfl]
 rfl
theorem YB (l : List dV) : ∀ c ∈ aB eT l, eU c = true := by
 induction l with
 | nil => intro c hc; cases hc
 | cons x l ih =>
  intro c hc
  rcases List.mem_cons.1 (show c ∈ aW x.1 :: ci x.2 :: aB eT l from hc) with rfl | hc
  ·rfl
  ·rcases List.mem_cons.1 hc with rfl | hc
   ·rfl
   ·exact ih c hc
theorem PC (l : List dV) : roV (aY l) = aY l := congrArg (V.ro l.length) (a1K l)
theorem YY (n : Nat) (l : List dV) (h : n = l.length) : roV (.tr 2 n (aB eT l)) = aY l := by
 subst h
 exact congrArg (V.ro l.length) (a1K l)
theorem UD {s : List Int} {q : cP} {db : List aG} (hq : qSm q) (hq2 : q.2.length ≤ 3) (hd : R3 9 4 db) : cJ (bZ s q db) ≤ 1000000 := by
 unfold bZ
 split
 ·have hpw : db.length ^ q.2.length ≤ 729 := Nat.le_trans (Nat.le_trans (Nat.pow_le_pow_left hd.1 _) (Nat.pow_le_pow_right (by decide) hq2)) (by decide)
  have hr := (LE q db).2
  have hb := CM (lB false ((oH q db).map fun v => q.1.map (tS v)))
  have hs := v6 false ((oH q db).map fun v => q.1.map (tS v))
  rw [List.length_map] at hs
  have hq1 := hq.1
  have h4 := v8 fS 8 (vW (lB false ((oH q db).map fun v => q.1.map (tS v)))) fun p hp => by
   have := (hb.2 p hp).2.2
   obtain ⟨v, _, e⟩ := List.mem_map.1 (uR this)
   show p.1.length ≤ 8
   rw [← e, List.length_map]; exact hq1
  show (vW _).length + bS fS _ ≤ _
  omega
 ·show (0 : Nat) + 0 ≤ _; omega
set_option maxHeartbeats 4000000 in
theorem B9 (c : Cur) (h : cS c) : SpecG Tryz.prog 136 [.ptr 0 0] (gC c) fun r g2 => ∃ (l : List dV) (c' : Cur), r = vA l ∧ cJ l ≤ 1000000 ∧ cS c' ∧ g2 = gC c' := by
 unfold gC
 refine cU mx aJ 1 Tryz.func136 rfl rfl (by decide) ?_
 conv => whnf
 refine .inr (.inl ?_)
 conv => whnf
 refine ⟨bD c, ?_⟩
 conv => whnf
 refine ⟨_, _, _, lV c h, ?_⟩
 conv => whnf
 refine .inl ?_
 rw [lR]
 conv => whnf
 obtain ⟨h1, s1, s2, s3⟩ := CV h
 have hs : sOk (qM c).1 := ⟨s1, s2, by omega⟩
 generalize (qM c).2 = c1 at h1 ⊢
 generalize (qM c).1 = s at hs s3 ⊢
 refine .inr (.inr ⟨[0], [], ?_⟩)
 conv => whnf
 refine ⟨_, uM s c1 hs h1, fun r g2 hP => ?_⟩
 obtain ⟨q, c2, rfl, q1, q2, _, q3, h2, rfl⟩ := hP
 refine .inl ?_
 rw [cW]
 conv => whnf
 have hqs : qSm q := ⟨by omega, by omega, fun a ha => by have := q3 a ha; omega⟩
 refine ⟨[1001, 0, 1, 2, 3, 4, 5, 6, 1000, 1000], by kernel_rfl, ?_⟩
 conv => whnf
 refine .inr (.inl ?_)
 conv => whnf
 refine ⟨bD c2, ?_⟩
 conv => whnf
 refine ⟨fun k => eC (by kernel_rfl) k, rfl, _, _, _, I8 s c2 hs h2, ?_⟩
 conv => whnf
 refine .inl ?_
 rw [AR]
 conv => whnf
 obtain ⟨h3, d1, d2⟩ := WR hs h2
 generalize (dbP s c2).2 = c3 at h3 ⊢
 generalize (dbP s c2).1 = db at d1 d2 ⊢
 have hd : R3 9 4 db := ⟨by omega, fun f hf => ⟨by have := (d2 f hf).1; omega, (d2 f hf).2⟩⟩
 have hqz := qI hqs
 have hdz := IZ hd (by omega) (by omega)
 have hC := UD (s := s) hqs q2 hd
 have hcs := d9 s q db (by show s.length ≤ _; omega) hqz hdz
 generalize bZ s q db = l at hC hcs
 refine .inl ?_
 conv => whnf
 refine ⟨_, hcs, .inl rfl, .inr ?_⟩
 conv => whnf
 refine ⟨[], ?_⟩
 conv => whnf
 refine ⟨by rw [a6 d4], ?_⟩
 exact ⟨l, c3, rfl, hC, h3, rfl⟩
set_option maxHeartbeats 4000000 in
theorem lD (xs : List Int) (h : xs.length ≤ 1099511627776) : SpecG Tryz.prog 59 [lC xs] [] fun r g2 => ∃ (a b : List dV), roV r = .tup [aY a, aY b] ∧ cJ a ≤ 1000000 ∧ cJ b ≤ 1000000 ∧ g2 = [] := by
 refine cU mx aJ 0 Tryz.func59 rfl rfl (by decide) ?_
 conv => whnf
 refine ⟨_, w8 xs h, .inl rfl, .inr ?_⟩
 conv => whnf
 have g0 := EB h
 generalize wF xs = c0 at g0 ⊢
 refine .inr (.inr ⟨[0], [], ?_⟩)
 conv => whnf
 refine ⟨_, B9 c0 g0, fun r g2 hP => ?_⟩
 obtain ⟨a, c1, rfl, ha, g1, rfl⟩ := hP
 refine .inl ?_
 rw [BW]
 conv => whnf
 refine .inr (.inl ?_)
 conv => whnf
 refine ⟨bD c1, ?_⟩
 conv => whnf
 refine ⟨_, _, _, dT c1 2 g1 (by omega), ?_⟩
 conv => whnf
 refine .inl ?_
 have g2 := aQ g1 2
 generalize (aI c1 2).2 = c2 at g2 ⊢
 generalize ((aI c1 2).1 == 0) = o
 cases o with
 | true =>
  have hal : a.length ≤ 1000000 := by have := ha; unfold cJ at this; omega
  conv => whnf
  refine ⟨a6 bW _, YB _, ?_⟩
  conv => whnf
  refine ⟨by omega, rfl, _, rfl, ?_⟩
  conv => whnf
  rw [List.nil_append, Nat.zero_add]
  generalize hb1 : decide ((a.length : Int) > 0) = b1
  cases b1 with
  | false =>
   conv => whnf
   refine ⟨[], ?_⟩
   conv => whnf
   refine ⟨by rw [a6 bW]; rfl, ?_⟩
   refine ⟨a, a, ?_, ha, ha, rfl⟩
   show V.tup [roV (aY a), roV (.tr 2 a.length (aB eT a))] = _
   rw [PC, YY _ _ rfl]
  | true =>
  conv => whnf
  refine .inr (.inl ?_)
  conv => whnf
  refine ⟨bD c2, ?_⟩
  conv => whnf
  refine ⟨_, _, _, dT c2 2 g2 (by omega), ?_⟩
  conv => whnf
  refine .inl ?_
  have g3 := aQ g2 2
  generalize (aI c2 2).2 = c3 at g3 ⊢
  generalize ((aI c2 2).1 == 0) = o2
  cases o2 with
  | false =>
   conv => whnf
   refine ⟨[], ?_⟩
   conv => whnf
   refine ⟨by rw [a6 bW]; rfl, ?_⟩
   refine ⟨a, a, ?_, ha, ha, rfl⟩
   show V.tup [roV (aY a), roV (.tr 2 a.length (aB eT a))] = _
   rw [PC, YY _ _ rfl]
  | true =>
   cases a with
   | nil => have := of_decide_eq_true hb1; simp at this
   | cons p a =>
   have hpl : (p :: a).length = a.length + 1 := rfl
   conv => whnf
   refine ⟨by omega, ?_⟩
   conv => whnf
   refine ⟨_, rfl, ?_⟩
   conv => whnf
   refine ⟨by omega, ?_⟩
   conv => whnf
   refine ⟨_, rfl, aB eT ((p.1, IntKind.i64.wrap (p.2 + 1)) :: a), rfl, ?_⟩
   conv => whnf
   refine ⟨[], ?_⟩
   conv => whnf
   refine ⟨by rw [a6 bW]; rfl, ?_⟩
   refine ⟨p :: a, (p.1, IntKind.i64.wrap (p.2 + 1)) :: a, ?_, ha, ha, rfl⟩
   show V.tup [roV (aY (p :: a)), roV (.tr 2 ((p.1, IntKind.i64.wrap (p.2 + 1)) :: a).length (aB eT ((p.1, IntKind.i64.wrap (p.2 + 1)) :: a)))] = _
   rw [PC, YY _ _ rfl]
 | false =>
  conv => whnf
  refine .inr (.inr ⟨[0], [], ?_⟩)
  conv => whnf
  refine ⟨_, B9 c2 g2, fun r g2 hP => ?_⟩
  obtain ⟨b, c3, rfl, hb, g3, rfl⟩ := hP
  refine .inl ?_
  rw [BW]
  conv => whnf
  refine ⟨[], ?_⟩
  conv => whnf
  refine ⟨a, b, ?_, ha, hb, rfl⟩
  show V.tup [roV (aY a), roV (aY b)] = _
  rw [PC, PC]
set_option maxHeartbeats 1000000 in
theorem vC (xs : List Int) (h : xs.length ≤ 1099511627776) : SpecG Tryz.prog 53 [lC xs] [] fun r g2 => ∃ (s : List Int) (a b : cP), roV r = .tup [aV s, aP a, aP b] ∧ s.length ≤ 8 ∧ aC a ≤ 1048576 ∧ aC b ≤ 1048576 ∧ g2 = [] := by
 refine z7 (ex := { ex := fun f => Nat.beq f 128, hid := fun _ => false }) mx aJ 0 Tryz.func53 rfl rfl (by decide) ?_
 conv => whnf
 refine .inr (.inr ⟨[], [], ?_⟩)
 conv => whnf
 refine ⟨_, vZ xs h, fun r g2 hP => ?_⟩
 obtain ⟨s, a, b, hr, hs, ha, hb, rfl⟩ := hP
 refine .inl ?_
 rw [hr]
 conv => whnf
 refine ⟨[2000, 2001, 0, 1, 2, 3, 4, 5], by kernel_rfl, ?_⟩
 conv => whnf
 refine ⟨rfl, ?_⟩
 conv => whnf
 refine ⟨rfl, ?_⟩
 conv => whnf
 refine ⟨[], ?_⟩
 conv => whnf
 refine ⟨s, a, b, ?_, hs, ha, hb, rfl⟩
 show V.tup [roV (aV s), roV (aP a), roV (aP b)] = _
 rw [dX, kH, kH]
end Go.Proofs.YtboolngaahifdaaGreatD
namespace Go.Proofs.YtboolngaahifdaaGreatD
open Go Go.Proofs Go.RowKit Go.Shelf Go.Sort Go.Lib
set_option maxHeartbeats 4000000 in
set_option maxRecDepth 1000000 in
theorem GT {α : Type} [Inhabited α] (ea eb : α → Value) (ef : α → α → Bool) (g blk off cap : Nat) (d : Array α) (w : World)
  (eg : ∀ args w, (callFunc g args).run Tryz.prog w = .ok (.enter g args) w) (hcmp : PG Tryz.prog g (fun x => .agg #[ea x, eb x]) (fun x => [ea x, eb x]) 2 ef w blk off d.size) (h1 : ∀ x, (ea x).oneCell' = true ∧ (eb x).oneCell' = true) (hH : HoldsK (fun x => [ea x, eb x]) 2 w blk off d) (hblk : blk < w.heap.size) (hF : ∀ c e, w.heap[blk]? = some (.cells c e (0, 0)) → off + d.size * 2 ≤ c.size) (hsz : d.size < 4611686018427387904) (hcap : d.size ≤ cap) :
  Calls Tryz.prog 173 #[.slice (some ⟨blk, off, none⟩) d.size cap, .func (.func g) #[] #[]] w fun e w' =>
   ∃ m : Nat, CompOut (fun x => [ea x, eb x]) 2 ef d w w' blk off m ∧ e = .returned (.slice (some ⟨blk, off, none⟩) m cap) := by
 have mixed : Tryz.prog.follows .mixedOrders = true := by kernel_rfl
 have hS0 : SWK (fun x => [ea x, eb x]) 2 w blk off d w := SWK.start hH
 have same : ∀ W, SWK (fun x => [ea x, eb x]) 2 w blk off d W → (∀ j, j < d.size → gR ef d j = true) → CompOut (fun x => [ea x, eb x]) 2 ef d w W blk off d.size := fun W hW hall => CompOut.all hblk hF hW hall
 have cut : ∀ (dk : Array α) (m : Nat) W l, SWK (fun x => [ea x, eb x]) 2 w blk off dk W → CInv ef d d.size m dk → CompOut (fun x => [ea x, eb x]) 2 ef d w (W.setCells blk (off + m * 2) l) blk off m := fun dk m W l hW hI => CompOut.cut hblk hF hW hI l
 have HT : Aside _ := cut
 have HS : Aside _ := same
 have HC : Aside _ := hcmp
 have HH : Aside _ := hH
 have S0 : Aside _ := hS0
 have H1 : Aside _ := h1
 have HF : Aside _ := hF
 clear same cut hcmp hH hS0 h1 hF
 by_cases h2 : d.size < 2
 ·go_enter Tryz.func173, Tryz.ntmps173
  go_wp2
  go_ret
  have := HS.out w S0.out (fun j hj => by
   rcases Nat.eq_zero_or_pos j with h | h
   ·subst h; exact vJ d 0 Nat.one_pos
   ·omega)
  first | exact this | exact ⟨_, this, rfl⟩
 ·go_enter Tryz.func173, Tryz.ntmps173
  go_wp2
  go_loopg [5] d.size (fun g5 s5 wr => ∃ k : Nat, 1 ≤ k ∧ k ≤ d.size ∧ d.size - k ≤ g5 ∧ s5 = .int .i64 k ∧ SWK (fun x => [ea x, eb x]) 2 w blk off d wr ∧ ∀ j, j < k → gR ef d j = true)
  case atStart => exact ⟨1, Nat.le_refl _, by omega, by omega, rfl, S0.out, vJ d⟩
  case round =>
   obtain ⟨k, hk1, hkd, hg, rfl, hW, hall⟩ := hrel
   by_cases hlt : k < d.size
   ·obtain ⟨kp, rfl⟩ : ∃ kp, k = kp + 1 := ⟨k - 1, by omega⟩
    obtain ⟨xj, hxj⟩ : ∃ x, d[kp + 1]! = x := ⟨_, rfl⟩
    obtain ⟨xp, hxp⟩ : ∃ x, d[kp]! = x := ⟨_, rfl⟩
    have hHc : ∀ n' os', HoldsK (fun x => [ea x, eb x]) 2 (grow (wr.drewN n') os') blk off d := fun n' os' => (jZ hW n' os').holds hblk HH.out rfl
    have lj0 : ∀ n' os', (grow (wr.drewN n') os').cell? ⟨blk, off + (kp + 1) * 2, none⟩ = some (ea xj) := fun n' os' => by
     rw [← hxj]; exact ((hHc n' os').cell (i := kp + 1) (c := 0) hlt (by omega)).1
    have lj1 : ∀ n' os', (grow (wr.drewN n') os').cell? ⟨blk, off + (kp + 1) * 2 + 1, none⟩ = some (eb xj) := fun n' os' => by
     rw [← hxj]; exact ((hHc n' os').cell (i := kp + 1) (c := 1) hlt (by omega)).1
    have lp0 : ∀ n' os', (grow (wr.drewN n') os').cell? ⟨blk, off + kp * 2, none⟩ = some (ea xp) := fun n' os' => by
     rw [← hxp]; exact ((hHc n' os').cell (i := kp) (c := 0) (by omega) (by omega)).1
    have lp1 : ∀ n' os', (grow (wr.drewN n') os').cell? ⟨blk, off + kp * 2 + 1, none⟩ = some (eb xp) := fun n' os' => by
     rw [← hxp]; exact ((hHc n' os').cell (i := kp) (c := 1) (by omega) (by omega)).1
    have hcg : ∀ n' os', Calls Tryz.prog g #[.agg #[ea xj, eb xj], .agg #[ea xp, eb xp]] (grow (wr.drewN n') os') fun e w' => e = .returned (.bool (ef xj xp)) ∧ ∃ q os'', w' = grow ((grow (wr.drewN n') os').drewN q) os'' := fun n' os' =>
     HC.out d _ rfl (jZ hW n' os') xj xp
    have hwp : IntKind.i64.wrap (kp : Int) = (kp : Int) := by rw [IntKind.wrap_i64]; omega
    have jz : (kp : Int) + 1 < (d.size : Int) := by omega
    have jz1 : (kp : Int) < (d.size : Int) := by omega
    have p0 : (0 : Int) ≤ (kp : Int) + 1 := by omega
    have e0 : ((kp : Int) + 1).toNat = kp + 1 := by omega
    have HW : Aside _ := hW
    have HA : Aside _ := hall
    have HX : Aside (d[kp + 1]! = xj ∧ d[kp]! = xp) := ⟨hxj, hxp⟩
    clear hW hall hHc hxj hxp
    cases hef : ef xj xp
    ·rw [hef] at hcg
     go_wp2_with fail
     go_quiet_grown (first | (go_at_fn g; refine Calls.grown_of (hcg _ _)))
     go_wp2
     go_roundg (d.size - (kp + 1 + 1))
     case measure => omega
     case rel =>
      refine ⟨kp + 1 + 1, by omega, by omega, Nat.le_refl _, by go_num, jZ HW.out _ _, fun j hj => ?_⟩
      by_cases e : j = kp + 1
      ·subst e
       exact EP (by rw [Nat.add_sub_cancel, HX.out.1, HX.out.2]; exact hef)
      ·exact HA.out j (by omega)
    ·rw [hef] at hcg
     go_wp2_with fail
     go_quiet_grown (first | (go_at_fn g; refine Calls.grown_of (hcg _ _)))
     go_wp2
     clear lj0 lj1 lp0 lp1 hcg
     go_loopg [5, 7] d.size (fun g5 s5 s7 wr2 => ∃ (kk k2 : Nat) (dk : Array α), s5 = .int .i64 kk ∧ s7 = .int .i64 k2 ∧ 1 ≤ k2 ∧ kp + 1 + k2 ≤ d.size ∧ d.size - (kp + 1 + k2) ≤ g5 ∧ SWK (fun x => [ea x, eb x]) 2 w blk off dk wr2 ∧ CInv ef d (kp + 1 + k2) kk dk)
     case atStart => exact ⟨kp + 1, 1, d, by go_num, rfl, Nat.le_refl _, by omega, by omega, jZ HW.out _ _, CInv.start HA.out (EO (by omega) (by rw [Nat.add_sub_cancel, HX.out.1, HX.out.2]; exact hef))⟩
     case round =>
      obtain ⟨kk, k2, dk, rfl, rfl, hk2, hle, hg2, hW2, hI⟩ := hrel
      have hkk := hI.lt
      have hds := hI.size
      by_cases hlt2 : kp + 1 + k2 < d.size
      ·obtain ⟨kq, rfl⟩ : ∃ kq, k2 = kq + 1 := ⟨k2 - 1, by omega⟩
       obtain ⟨u, hu⟩ : ∃ x, d[kp + 1 + (kq + 1)]! = x := ⟨_, rfl⟩
       obtain ⟨v, hv⟩ : ∃ x, d[kp + 1 + kq]! = x := ⟨_, rfl⟩
       have eu : dk[kp + 1 + (kq + 1)]! = u := by rw [hI.high _ (by omega)]; exact hu
       have ev : dk[kp + 1 + kq]! = v := by rw [hI.high _ (by omega)]; exact hv
       have hHc : ∀ n' os', HoldsK (fun x => [ea x, eb x]) 2 (grow (wr.drewN n') os') blk off dk := fun n' os' => (jZ hW2 n' os').holds hblk HH.out hds
       have lj0 : ∀ n' os', (grow (wr.drewN n') os').cell? ⟨blk, off + (kp + 1) * 2 + (kq + 1) * 2, none⟩ = some (ea u) := fun n' os' => by
        rw [← eu, Nat.add_assoc, ← Nat.add_mul]; exact ((hHc n' os').cell (i := kp + 1 + (kq + 1)) (c := 0) (by omega) (by omega)).1
       have lj1 : ∀ n' os', (grow (wr.drewN n') os').cell? ⟨blk, off + (kp + 1) * 2 + (kq + 1) * 2 + 1, none⟩ = some (eb u) := fun n' os' => by
        rw [← eu, Nat.add_assoc off, ← Nat.add_mul]; exact ((hHc n' os').cell (i := kp + 1 + (kq + 1)) (c := 1) (by omega) (by omega)).1
       have lp0 : ∀ n' os', (grow (wr.drewN n') os').cell? ⟨blk, off + (kp + 1) * 2 + kq * 2, none⟩ = some (ea v) := fun n' os' => by
        rw [← ev, Nat.add_assoc, ← Nat.add_mul]; exact ((hHc n' os').cell (i := kp + 1 + kq) (c := 0) (by omega) (by omega)).1
       have lp1 : ∀ n' os', (grow (wr.drewN n') os').cell? ⟨blk, off + (kp + 1) * 2 + kq * 2 + 1, none⟩ = some (eb v) := fun n' os' => by
        rw [← ev, Nat.add_assoc off, ← Nat.add_mul]; exact ((hHc n' os').cell (i := kp + 1 + kq) (c := 1) (by omega) (by omega)).1
       have hcg : ∀ n' os', Calls Tryz.prog g #[.agg #[ea u, eb u], .agg #[ea v, eb v]] (grow (wr.drewN n') os') fun e w' => e = .returned (.bool (ef u v)) ∧ ∃ q os'', w' = grow ((grow (wr.drewN n') os').drewN q) os'' := fun n' os' =>
        HC.out dk _ hds (jZ hW2 n' os') u v
       have kc0 : ∀ n' os', (grow (wr.drewN n') os').cell? ⟨blk, off + kk * 2, none⟩ = some (ea dk[kk]!) := fun n' os' => ((hHc n' os').cell (i := kk) (c := 0) (by omega) (by omega)).1
       have kc1 : ∀ n' os', (grow (wr.drewN n') os').cell? ⟨blk, off + kk * 2 + 1, none⟩ = some (eb dk[kk]!) := fun n' os' => ((hHc n' os').cell (i := kk) (c := 1) (by omega) (by omega)).1
       have kf0 : ∀ n' os', (grow (wr.drewN n') os').frozen? ⟨blk, off + kk * 2, none⟩ = false := fun n' os' => ((hHc n' os').cell (i := kk) (c := 0) (by omega) (by omega)).2
       have kf1 : ∀ n' os', (grow (wr.drewN n') os').frozen? ⟨blk, off + kk * 2 + 1, none⟩ = false := fun n' os' => ((hHc n' os').cell (i := kk) (c := 1) (by omega) (by omega)).2
       have sa : ∀ (a : Addr) (m : Mode) (w : World), Sem.run Tryz.prog (store a (ea u) m) w = stored Tryz.prog w a (ea u) m := fun a m w => run_store Tryz.prog w a _ m (H1.out u).1
       have sb : ∀ (a : Addr) (m : Mode) (w : World), Sem.run Tryz.prog (store a (eb u) m) w = stored Tryz.prog w a (eb u) m := fun a m w => run_store Tryz.prog w a _ m (H1.out u).2
       generalize dk[kk]! = old at kc0 kc1
       have hwq : IntKind.i64.wrap (kq : Int) = (kq : Int) := by rw [IntKind.wrap_i64]; omega
       have j0 : (kq : Int) + 1 < (d.size - (kp + 1) : Nat) := by omega
       have j1 : (kq : Int) < (d.size - (kp + 1) : Nat) := by omega
       have j2 : (kk : Int) < (d.size : Int) := by omega
       have q0 : (0 : Int) ≤ (kq : Int) + 1 := by omega
       have e0' : ((kq : Int) + 1).toNat = kq + 1 := by omega
       have HW2 : Aside _ := hW2
       have HI : Aside _ := hI
       have HX2 : Aside (d[kp + 1 + (kq + 1)]! = u ∧ d[kp + 1 + kq]! = v) := ⟨hu, hv⟩
       clear hW2 hI hHc hu hv eu ev
       cases hef2 : ef u v
       ·rw [hef2] at hcg
        go_wp2_with fail
        go_quiet_grown (first | (go_at_fn g; refine Calls.grown_of (hcg _ _)))
        go_wp2
        go_roundg (d.size - (kp + 1 + (kq + 1 + 1)))
        case measure => omega
        case rel => exact ⟨kk + 1, kq + 1 + 1, dk.setIfInBounds kk u, by go_num, by go_num, by omega, by omega, Nat.le_refl _, TW (jZ HW2.out nq osq) (fun _ => rfl) hblk (by omega) u, by
         have := HI.out.keep hlt2 (EP (by rw [show kp + 1 + (kq + 1) - 1 = kp + 1 + kq from by omega, HX2.out.1, HX2.out.2]; exact hef2))
         rwa [HX2.out.1] at this⟩
       ·rw [hef2] at hcg
        clear sa sb kc0 kc1 kf0 kf1
        go_wp2_with fail
        go_quiet_grown (first | (go_at_fn g; refine Calls.grown_of (hcg _ _)))
        go_wp2
        go_roundg (d.size - (kp + 1 + (kq + 1 + 1)))
        case measure => omega
        case rel => exact ⟨kk, kq + 1 + 1, dk, rfl, by go_num, by omega, by omega, Nat.le_refl _, jZ HW2.out _ _, HI.out.skip (EO (by omega) (by rw [show kp + 1 + (kq + 1) - 1 = kp + 1 + kq from by omega, HX2.out.1, HX2.out.2]; exact hef2))⟩
      ·have hend : kp + 1 + k2 = d.size := by omega
       have hHc := hW2.holds hblk HH.out hds
       obtain ⟨l, hcl⟩ := CC (P := Tryz.prog) wr 30 121 (.agg #[.int .i64 0, .slice none 0 0]) [.int .i64 0, .slice none 0 0] (by kernel_rfl) (fun w => by go_simp) rfl (by decide) (by simp [Value.oneCell']) blk (off + kk * 2) (d.size - kk) (cap - kk) (by omega)
        (fun j hj => by
         have hj' : j < (d.size - kk) * 2 := hj
         have := (hHc (kk * 2 + j) (by rw [size_flatK]; omega)).1
         rw [Nat.add_assoc, this]; rfl)
        (fun j hj => by
         have hj' : j < (d.size - kk) * 2 := hj
         rw [Nat.add_assoc]; exact (hHc (kk * 2 + j) (by rw [size_flatK]; omega)).2)
       clear hHc
       have HW2 : Aside _ := hW2
       have HI : Aside _ := hI
       clear hW2 hI
       go_wp2
       go_ret
       have := HT.out dk kk wr l HW2.out (by have := HI.out; rwa [hend] at this)
       first | exact this | exact ⟨_, this, rfl⟩
   ·have : k = d.size := by omega
    subst this
    have HW : Aside _ := hW
    have HA : Aside _ := hall
    clear hW hall
    go_wp2
    go_ret
    have := HS.out _ HW.out HA.out
    first | exact this | exact ⟨_, this, rfl⟩
end Go.Proofs.YtboolngaahifdaaGreatD
