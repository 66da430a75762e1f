/- Contracts and plain laws of this seat; no condition. -/
import Derived.Test.YtboolngaahifdaaGreatQ23
import Derived.Test.YtboolngaahifdaaGreatQ24
set_option linter.unusedVariables false
set_option linter.unusedSimpArgs false
set_option maxRecDepth 100000
namespace Go.Proofs.YtboolngaahifdaaGreatD
open Go Go.Proofs
theorem NB (xs : List Int) : roV (aW xs) = aW xs := by
 show V.ro _ (dM (aB ciL xs)) = _
 rw [cK]
 rfl
theorem a2Q (a : oJ) : dM (d7 a) = d7 a := by
 show [roV (ci a.1), roV (aW a.2)] = _
 rw [NB]
 rfl
theorem kH (q : cP) : roV (aP q) = aP q := by
 show V.agg [roV (aW q.1), .ro _ (dM (aB d7 q.2))] = _
 rw [NB, bF a2Q]
 rfl
theorem IB {f : List Int → List Int} (hf : ∀ l, (f l).length = l.length) : ∀ l : List oJ, bS b9 (l.map fun a => (a.1, f a.2)) = bS b9 l
 | [] => rfl
 | a :: l => by
  simp only [List.map_cons, bS, IB hf l]
  show (f a.2).length + _ = a.2.length + _
  rw [hf]
theorem VE (q : cP) (to : List Int) : aC (sG to q) = aC q := by
 show (q.1.map _).length + ((q.2.map _).length + bS b9 (q.2.map fun a => (a.1, a.2.map (sF to)))) = q.1.length + (q.2.length + bS b9 q.2)
 rw [List.length_map, List.length_map, IB (f := fun l => l.map (sF to)) (fun l => by simp)]
theorem IQ {q : cP} (h : qSm q) : aC (q.1, q.2) + 1 ≤ 1048576 := by
 obtain ⟨h1, h2, h3⟩ := h
 have := LS h3
 show q.1.length + (q.2.length + bS b9 q.2) + 1 ≤ _
 omega
theorem MC (hd : List Int) (b : List oJ) (t : Int) : aC (hd ++ [t], b) = aC (hd, b) + 1 := by
 show (hd ++ [t]).length + _ = hd.length + _ + 1
 rw [List.length_append]
 simp only [List.length_cons, List.length_nil]
 show _ + 1 + (b.length + bS b9 b) = _ + (b.length + bS b9 b) + 1
 omega
set_option maxHeartbeats 16000000 in
theorem XE (c : Cur) (h : cS c) : SpecG Tryz.prog 186 [.ptr 0 0] (gC c) fun r g2 => ∃ (s : List Int) (a b : cP) (c' : Cur), roV r = .tup [aV s, aP a, aP b] ∧ s.length ≤ 8 ∧ aC a ≤ 1048576 ∧ aC b ≤ 1048576 ∧ cS c' ∧ g2 = gC c' := by
 unfold gC
 refine cU mx aJ 1 Tryz.func186 rfl rfl (by decide) ?_
 conv => whnf
 refine .inr (.inl ?_)
 conv => whnf
 refine ⟨bD c, ?_⟩
 conv => whnf
 refine ⟨_, _, _, lV c h, ?_⟩
 conv => whnf
 refine .inl ?_
 rw [lR]
 conv => whnf
 obtain ⟨h1, s1, s2, s3⟩ := CV h
 have hs : sOk (qM c).1 := ⟨s1, s2, by omega⟩
 generalize (qM c).2 = c1 at h1 ⊢
 generalize (qM c).1 = s at hs s3 ⊢
 refine .inr (.inr ⟨[0], [], ?_⟩)
 conv => whnf
 refine ⟨_, uM s c1 hs h1, fun r g2 hP => ?_⟩
 obtain ⟨a, c2, rfl, q1, q2, q3, q4, h2, rfl⟩ := hP
 have ha : qSm a := ⟨by omega, by omega, fun x hx => by have := q4 x hx; omega⟩
 have has := qI ha
 refine .inl ?_
 rw [cW]
 conv => whnf
 refine .inr (.inr ⟨[0], [], ?_⟩)
 conv => whnf
 refine ⟨_, NL s a c2 hs ha q3 h2, fun r g2 hP => ?_⟩
 obtain ⟨b, c3, rfl, hb, hb1, h3, rfl⟩ := hP
 refine .inr ?_
 conv => whnf
 refine .inr (.inl ?_)
 conv => whnf
 refine ⟨bD c3, ?_⟩
 conv => whnf
 refine ⟨_, _, _, dT c3 3 h3 (by omega), ?_⟩
 conv => whnf
 refine .inl ?_
 have h4 := aQ h3 3
 generalize (aI c3 3).2 = c4 at h4 ⊢
 generalize ((aI c3 3).1 == 0) = o1
 cases o1 with
 | true =>
  conv => whnf
  refine .inr (.inr ⟨[0], [6, 7], ?_⟩)
  conv => whnf
  refine ⟨_, _, aN (by rw [a6 a7]), cK _, ?_⟩
  conv => whnf
  refine ⟨_, _, aN (by rw [a6 aK]), bF jF _, ?_⟩
  conv => whnf
  refine ⟨_, NL s b c4 hs hb hb1 h4, fun r g2 hP => ?_⟩
  obtain ⟨b', c5, rfl, hb', hb1', h5, rfl⟩ := hP
  refine .inr ?_
  have hbs := qI hb'
  have hbs1 : aC (b'.1, b'.2) + 1 ≤ 1048576 := IQ hb'
  have hbl := hb'.1
  conv => whnf
  refine .inr (.inl ?_)
  conv => whnf
  refine ⟨bD c5, ?_⟩
  conv => whnf
  refine ⟨_, _, _, bV c5 16 h5 (by omega), ?_⟩
  conv => whnf
  refine .inl ?_
  have gy := aQ h5 16
  generalize (aI c5 16).2 = cy at gy ⊢
  generalize (aI c5 16).1 = v
  conv => whnf
  generalize (v == 0) = b0
  cases b0 with
  | true =>
   conv => whnf
   refine ⟨[1001, 0, 1, 2, 3, 4, 5, 6, 7, 1000, 1000], by kernel_rfl, ?_⟩
   conv => whnf
   refine .inr (.inr ⟨[0], fun k => eC (by kernel_rfl) k, rfl, ?_⟩)
   conv => whnf
   refine ⟨_, KB cy gy, fun r g2 hP => ?_⟩
   obtain ⟨tt, cx, rfl, gx, rfl⟩ := hP
   refine .inl ?_
   conv => whnf
   refine ⟨_, rfl, .inl ⟨fU rfl, ?_⟩⟩
   conv => whnf
   refine ⟨by omega, by rw [a6 a7], _, dC _ _, ?_⟩
   conv => whnf
   obtain ⟨b2, hb2⟩ : ∃ b2 : cP, b2 = (b'.1 ++ [tt], b'.2) := ⟨_, rfl⟩
   have hb2s : aC b2 ≤ 1048576 := by rw [hb2, MC]; exact hbs1
   have e1 : aB ciL (b'.1 ++ [tt]) = aB ciL b2.1 := by rw [hb2]
   have e2 : aB bY b'.2 = aB bY b2.2 := by rw [hb2]
   have e3 : b'.1.length + 1 = b2.1.length := by rw [hb2]; simp
   have e4 : b'.2.length = b2.2.length := by rw [hb2]
   rw [e1, e2, e3, e4]
   clear e1 e2 e3 e4 hb2
   refine .inr (.inl ?_)
   conv => whnf
   refine ⟨bD cx, ?_⟩
   conv => whnf
   refine ⟨_, _, _, dT cx 2 gx (by omega), ?_⟩
   conv => whnf
   refine .inl ?_
   have gz := aQ gx 2
   generalize (aI cx 2).2 = cz at gz ⊢
   generalize ((aI cx 2).1 == 0) = o2
   cases o2 with
   | false =>
    conv => whnf
    refine ⟨[2001, 2002, 0, 1, 2, 3, 4, 5], by kernel_rfl, ?_⟩
    conv => whnf
    refine ⟨rfl, ?_⟩
    conv => whnf
    refine ⟨rfl, ?_⟩
    conv => whnf
    refine ⟨[], ?_⟩
    conv => whnf
    refine ⟨by rw [a6 a7], by rw [a6 aK], ?_⟩
    exact ⟨s, a, b2, cz, by show V.tup [roV (aV s), roV (aP a), roV (cC b2)] = _; rw [dX, kH, cW], (by omega), has, hb2s, gz, rfl⟩
   | true =>
    conv => whnf
    refine ⟨[2001, 2002, 0, 1, 2, 3, 4, 5], by kernel_rfl, ?_⟩
    conv => whnf
    refine ⟨rfl, ?_⟩
    conv => whnf
    refine ⟨rfl, ?_⟩
    conv => whnf
    refine ⟨[], ?_⟩
    conv => whnf
    refine ⟨by rw [a6 a7], by rw [a6 aK], ?_⟩
    exact ⟨s, b2, a, cz, by show V.tup [roV (aV s), roV (cC b2), roV (aP a)] = _; rw [dX, cW, kH], (by omega), hb2s, has, gz, rfl⟩
  | false =>
   conv => whnf
   generalize (v == 1) = b1
   cases b1 with
   | true =>
    conv => whnf
    refine .inr (.inr ⟨[0], [], ?_⟩)
    conv => whnf
    refine ⟨_, KC cy gy, fun r g2 hP => ?_⟩
    obtain ⟨s2, cx, rfl, hs2, gx, rfl⟩ := hP
    refine .inl ?_
    rw [lR]
    conv => whnf
    refine .inr (.inl ?_)
    conv => whnf
    refine ⟨bD cx, ?_⟩
    conv => whnf
    refine ⟨_, _, _, dT cx 2 gx (by omega), ?_⟩
    conv => whnf
    refine .inl ?_
    have gz := aQ gx 2
    generalize (aI cx 2).2 = cz at gz ⊢
    generalize ((aI cx 2).1 == 0) = o2
    cases o2 with
    | false =>
     conv => whnf
     refine ⟨[2001, 2002, 0, 1, 2, 3, 4, 5], by kernel_rfl, ?_⟩
     conv => whnf
     refine ⟨rfl, ?_⟩
     conv => whnf
     refine ⟨rfl, ?_⟩
     conv => whnf
     refine ⟨[], ?_⟩
     conv => whnf
     refine ⟨by rw [a6 a7], by rw [a6 aK], ?_⟩
     exact ⟨s2, a, b', cz, by show V.tup [roV (aV s2), roV (aP a), roV (cC b')] = _; rw [dX, kH, cW], hs2, has, hbs, gz, rfl⟩
    | true =>
     conv => whnf
     refine ⟨[2001, 2002, 0, 1, 2, 3, 4, 5], by kernel_rfl, ?_⟩
     conv => whnf
     refine ⟨rfl, ?_⟩
     conv => whnf
     refine ⟨rfl, ?_⟩
     conv => whnf
     refine ⟨[], ?_⟩
     conv => whnf
     refine ⟨by rw [a6 a7], by rw [a6 aK], ?_⟩
     exact ⟨s2, b', a, cz, by show V.tup [roV (aV s2), roV (cC b'), roV (aP a)] = _; rw [dX, cW, kH], hs2, hbs, has, gz, rfl⟩
   | false =>
    conv => whnf
    refine .inr (.inl ?_)
    conv => whnf
    refine ⟨bD cy, ?_⟩
    conv => whnf
    refine ⟨_, _, _, dT cy 2 gy (by omega), ?_⟩
    conv => whnf
    refine .inl ?_
    have gz := aQ gy 2
    generalize (aI cy 2).2 = cz at gz ⊢
    generalize ((aI cy 2).1 == 0) = o2
    cases o2 with
    | false =>
     conv => whnf
     refine ⟨[2001, 2002, 0, 1, 2, 3, 4, 5], by kernel_rfl, ?_⟩
     conv => whnf
     refine ⟨rfl, ?_⟩
     conv => whnf
     refine ⟨rfl, ?_⟩
     conv => whnf
     refine ⟨[], ?_⟩
     conv => whnf
     refine ⟨by rw [a6 a7], by rw [a6 aK], ?_⟩
     exact ⟨s, a, b', cz, by show V.tup [roV (aV s), roV (aP a), roV (cC b')] = _; rw [dX, kH, cW], (by omega), has, hbs, gz, rfl⟩
    | true =>
     conv => whnf
     refine ⟨[2001, 2002, 0, 1, 2, 3, 4, 5], by kernel_rfl, ?_⟩
     conv => whnf
     refine ⟨rfl, ?_⟩
     conv => whnf
     refine ⟨rfl, ?_⟩
     conv => whnf
     refine ⟨[], ?_⟩
     conv => whnf
     refine ⟨by rw [a6 a7], by rw [a6 aK], ?_⟩
     exact ⟨s, b', a, cz, by show V.tup [roV (aV s), roV (cC b'), roV (aP a)] = _; rw [dX, cW, kH], (by omega), hbs, has, gz, rfl⟩
 | false =>
  have hbs := qI hb
  have hbs1 : aC (b.1, b.2) + 1 ≤ 1048576 := IQ hb
  have hbl := hb.1
  conv => whnf
  refine .inr (.inl ?_)
  conv => whnf
  refine ⟨bD c4, ?_⟩
  conv => whnf
  refine ⟨_, _, _, bV c4 16 h4 (by omega), ?_⟩
  conv => whnf
  refine .inl ?_
  have gy := aQ h4 16
  generalize (aI c4 16).2 = cy at gy ⊢
  generalize (aI c4 16).1 = v
  conv => whnf
  generalize (v == 0) = b0
  cases b0 with
  | true =>
   conv => whnf
   refine ⟨[1001, 0, 1, 2, 3, 4, 5, 6, 7, 1000, 1000], by kernel_rfl, ?_⟩
   conv => whnf
   refine .inr (.inr ⟨[0], fun k => eC (by kernel_rfl) k, rfl, ?_⟩)
   conv => whnf
   refine ⟨_, KB cy gy, fun r g2 hP => ?_⟩
   obtain ⟨tt, cx, rfl, gx, rfl⟩ := hP
   refine .inl ?_
   conv => whnf
   refine ⟨_, rfl, .inl ⟨fU rfl, ?_⟩⟩
   conv => whnf
   refine ⟨by omega, by rw [a6 a7], _, dC _ _, ?_⟩
   conv => whnf
   obtain ⟨b2, hb2⟩ : ∃ b2 : cP, b2 = (b.1 ++ [tt], b.2) := ⟨_, rfl⟩
   have hb2s : aC b2 ≤ 1048576 := by rw [hb2, MC]; exact hbs1
   have e1 : aB ciL (b.1 ++ [tt]) = aB ciL b2.1 := by rw [hb2]
   have e2 : aB bY b.2 = aB bY b2.2 := by rw [hb2]
   have e3 : b.1.length + 1 = b2.1.length := by rw [hb2]; simp
   have e4 : b.2.length = b2.2.length := by rw [hb2]
   rw [e1, e2, e3, e4]
   clear e1 e2 e3 e4 hb2
   refine .inr (.inl ?_)
   conv => whnf
   refine ⟨bD cx, ?_⟩
   conv => whnf
   refine ⟨_, _, _, dT cx 2 gx (by omega), ?_⟩
   conv => whnf
   refine .inl ?_
   have gz := aQ gx 2
   generalize (aI cx 2).2 = cz at gz ⊢
   generalize ((aI cx 2).1 == 0) = o2
   cases o2 with
   | false =>
    conv => whnf
    refine ⟨[2001, 2002, 0, 1, 2, 3, 4, 5], by kernel_rfl, ?_⟩
    conv => whnf
    refine ⟨rfl, ?_⟩
    conv => whnf
    refine ⟨rfl, ?_⟩
    conv => whnf
    refine ⟨[], ?_⟩
    conv => whnf
    refine ⟨by rw [a6 a7], by rw [a6 aK], ?_⟩
    exact ⟨s, a, b2, cz, by show V.tup [roV (aV s), roV (aP a), roV (cC b2)] = _; rw [dX, kH, cW], (by omega), has, hb2s, gz, rfl⟩
   | true =>
    conv => whnf
    refine ⟨[2001, 2002, 0, 1, 2, 3, 4, 5], by kernel_rfl, ?_⟩
    conv => whnf
    refine ⟨rfl, ?_⟩
    conv => whnf
    refine ⟨rfl, ?_⟩
    conv => whnf
    refine ⟨[], ?_⟩
    conv => whnf
    refine ⟨by rw [a6 a7], by rw [a6 aK], ?_⟩
    exact ⟨s, b2, a, cz, by show V.tup [roV (aV s), roV (cC b2), roV (aP a)] = _; rw [dX, cW, kH], (by omega), hb2s, has, gz, rfl⟩
  | false =>
   conv => whnf
   generalize (v == 1) = b1
   cases b1 with
   | true =>
    conv => whnf
    refine .inr (.inr ⟨[0], [], ?_⟩)
    conv => whnf
    refine ⟨_, KC cy gy, fun r g2 hP => ?_⟩
    obtain ⟨s2, cx, rfl, hs2, gx, rfl⟩ := hP
    refine .inl ?_
    rw [lR]
    conv => whnf
    refine .inr (.inl ?_)
    conv => whnf
    refine ⟨bD cx, ?_⟩
    conv => whnf
    refine ⟨_, _, _, dT cx 2 gx (by omega), ?_⟩
    conv => whnf
    refine .inl ?_
    have gz := aQ gx 2
    generalize (aI cx 2).2 = cz at gz ⊢
    generalize ((aI cx 2).1 == 0) = o2
    cases o2 with
    | false =>
     conv => whnf
     refine ⟨[2001, 2002, 0, 1, 2, 3, 4, 5], by kernel_rfl, ?_⟩
     conv => whnf
     refine ⟨rfl, ?_⟩
     conv => whnf
     refine ⟨rfl, ?_⟩
     conv => whnf
     refine ⟨[], ?_⟩
     conv => whnf
     refine ⟨by rw [a6 a7], by rw [a6 aK], ?_⟩
     exact ⟨s2, a, b, cz, by show V.tup [roV (aV s2), roV (aP a), roV (cC b)] = _; rw [dX, kH, cW], hs2, has, hbs, gz, rfl⟩
    | true =>
     conv => whnf
     refine ⟨[2001, 2002, 0, 1, 2, 3, 4, 5], by kernel_rfl, ?_⟩
     conv => whnf
     refine ⟨rfl, ?_⟩
     conv => whnf
     refine ⟨rfl, ?_⟩
     conv => whnf
     refine ⟨[], ?_⟩
     conv => whnf
     refine ⟨by rw [a6 a7], by rw [a6 aK], ?_⟩
     exact ⟨s2, b, a, cz, by show V.tup [roV (aV s2), roV (cC b), roV (aP a)] = _; rw [dX, cW, kH], hs2, hbs, has, gz, rfl⟩
   | false =>
    conv => whnf
    refine .inr (.inl ?_)
    conv => whnf
    refine ⟨bD cy, ?_⟩
    conv => whnf
    refine ⟨_, _, _, dT cy 2 gy (by omega), ?_⟩
    conv => whnf
    refine .inl ?_
    have gz := aQ gy 2
    generalize (aI cy 2).2 = cz at gz ⊢
    generalize ((aI cy 2).1 == 0) = o2
    cases o2 with
    | false =>
     conv => whnf
     refine ⟨[2001, 2002, 0, 1, 2, 3, 4, 5], by kernel_rfl, ?_⟩
     conv => whnf
     refine ⟨rfl, ?_⟩
     conv => whnf
     refine ⟨rfl, ?_⟩
     conv => whnf
     refine ⟨[], ?_⟩
     conv => whnf
     refine ⟨by rw [a6 a7], by rw [a6 aK], ?_⟩
     exact ⟨s, a, b, cz, by show V.tup [roV (aV s), roV (aP a), roV (cC b)] = _; rw [dX, kH, cW], (by omega), has, hbs, gz, rfl⟩
    | true =>
     conv => whnf
     refine ⟨[2001, 2002, 0, 1, 2, 3, 4, 5], by kernel_rfl, ?_⟩
     conv => whnf
     refine ⟨rfl, ?_⟩
     conv => whnf
     refine ⟨rfl, ?_⟩
     conv => whnf
     refine ⟨[], ?_⟩
     conv => whnf
     refine ⟨by rw [a6 a7], by rw [a6 aK], ?_⟩
     exact ⟨s, b, a, cz, by show V.tup [roV (aV s), roV (cC b), roV (aP a)] = _; rw [dX, cW, kH], (by omega), hbs, has, gz, rfl⟩
end Go.Proofs.YtboolngaahifdaaGreatD
