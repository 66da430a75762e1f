/- Contracts and plain laws of this seat; no condition. -/
import Derived.Test.YtboolngaahifdaaGreatQ35
import Derived.Test.YtboolngaahifdaaGreatQ32
import Derived.Test.YtboolngaahifdaaGreatQ11
set_option linter.unusedVariables false
set_option linter.unusedSimpArgs false
set_option maxRecDepth 100000
namespace Go.Proofs.YtboolngaahifdaaGreatD
open Go Go.Proofs
theorem u4 : ∀ (l : List aL), dJ l (List.replicate l.length false) = l
 | [] => rfl
 | a :: l => by
  show dJ (a :: l) (false :: List.replicate l.length false) = _
  simp only [dJ, Bool.false_eq_true, if_false, u4 l]
theorem R8 (q : bT) : ∃ z, rO q q.2.length (List.replicate q.2.length false) [] none = some z ∧ fG q = z := by
 have h := TT q q.2.length (List.replicate q.2.length false) [] none (by simp) (by rw [u4])
 rw [u4] at h
 have h2 := rN q.1 q.2.length [] q.2 rfl
 rw [List.nil_append] at h2
 obtain ⟨z, hz⟩ := wS q.1 q.2.length [] q.2 (nmQ (q.1, q.2))
 refine ⟨z, by rw [h, h2, hz], ?_⟩
 unfold fG
 rw [h2, hz]
 rfl
theorem J7 (h : List Int) (B : Nat) : ∀ (n : Nat) (body left : List aL) (o : Option bT), left.length = n → vQ h body left ≤ B → (∀ y, o = some y → aC y ≤ B) → ∀ y, nC h n body left o = some y → aC y ≤ B
 | 0, body, left, o, hl, hs, ho, y, hy => by
  have hle : left = [] := List.length_eq_zero_iff.1 hl
  subst hle
  have hx : aC (nmQ (h, body)) ≤ B := by
   rw [qG]
   unfold vQ at hs
   show h.length + (body.length + bS b9 body) ≤ _
   omega
  cases o with
  | none =>
   have : some (nmQ (h, body)) = some y := hy
   cases this; exact hx
  | some b =>
   simp only [nC, jG] at hy
   split at hy
   ·cases hy; exact hx
   ·cases hy; exact ho _ rfl
 | n + 1, body, left, o, hl, hs, ho, y, hy => by
  simp only [nC] at hy
  have key : ∀ (l : List Nat) (o : Option bT), (∀ i ∈ l, i < left.length) → (∀ y, o = some y → aC y ≤ B) → ∀ y, l.foldl (fun o i => nC h n (body ++ [left.getD i (0, [])]) (left.eraseIdx i) o) o = some y → aC y ≤ B := by
   intro l
   induction l with
   | nil => intro o _ ho y hy; exact ho y hy
   | cons i l ih =>
    intro o hi ho y hy
    rw [List.foldl_cons] at hy
    have hil := hi i (by simp)
    refine ih _ (fun j hj => hi j (by simp [hj])) (fun z hz => ?_) y hy
    rw [show left.getD i (0, []) = left[i] from by simp [List.getD_eq_getElem?_getD, hil]] at hz
    exact J7 h B n _ _ o (by rw [List.length_eraseIdx_of_lt hil]; omega) (by rw [wQ h body left hil]; exact hs) ho z hz
  exact key _ o (fun i hi => List.mem_range.1 hi) ho y hy
theorem QL {q : bT} (hq : aC q ≤ 1048576) : aC (fG q) ≤ 1048576 := by
 have h2 := rN q.1 q.2.length [] q.2 rfl
 rw [List.nil_append] at h2
 obtain ⟨z, hz⟩ := wS q.1 q.2.length [] q.2 (nmQ (q.1, q.2))
 have e : fG q = z := by unfold fG; rw [h2, hz]; rfl
 rw [e]
 refine J7 q.1 1048576 q.2.length [] q.2 _ rfl ?_ (fun y hy => ?_) z hz
 ·unfold vQ; unfold aC dW at hq; simp [bS]; omega
 ·cases hy; rw [qG]; exact hq
set_option maxHeartbeats 4000000 in
theorem mZ (s : List Int) (q : bT) (hs : cT s ≤ 1048576) (hq : aC q ≤ 1048576) : bI Tryz.prog 190 [aV s, aP q] (.tup [cC (if aH s q then fG q else ([], [])), cb (aH s q)]) := by
 refine aF mx aJ Tryz.func190 rfl ?_
 conv => whnf
 refine ⟨_, dU s q hs hq, .inl rfl, .inl ?_⟩
 conv => whnf
 generalize hb1 : aH s q = b1
 cases b1 with
 | false =>
  conv => whnf
  exact .inr ⟨1, .inr ⟨2, rfl⟩⟩
 | true =>
  have hfew := NC hb1
  have hql := hfew.2.1
  obtain ⟨z, hz, hzn⟩ := R8 q
  rw [hzn]
  conv => whnf
  refine ⟨[1002, 0, 1, 2, 3, 5, 6, 7, 4], by kernel_rfl, ?_⟩
  conv => whnf
  refine ⟨by omega, _, IT (f := bL) (d := false) rfl _, ?_⟩
  conv => whnf
  refine .inr (.inr ⟨[3, 4], [5], ?_⟩)
  conv => whnf
  refine ⟨_, _, aN (by rw [a6 f9, List.length_replicate]; rfl), yH _, ?_⟩
  conv => whnf
  refine .inr ?_
  conv => whnf
  have hsp := (L6 q hfew q.2.length).1 (List.replicate q.2.length false) [] (by simp) (by simp) (fun a ha => by cases ha)
  unfold jW at hsp
  rw [List.length_replicate] at hsp
  refine ⟨_, hsp, fun r g2 hP => ?_⟩
  rw [hz] at hP
  obtain ⟨rfl, ⟨h1, _⟩ | ⟨z', h1, h2, rfl⟩⟩ := hP
  ·cases h1
  ·cases h1
   refine .inl ?_
   conv => whnf
   refine ⟨by rw [a6 a7], by rw [a6 aK], rfl⟩
abbrev JG := List Int × List (Int × List Int)
theorem S8 (a b : aL) : eqA a b = decide (a = b) := by
 obtain ⟨a1, a2⟩ := a
 obtain ⟨b1, b2⟩ := b
 unfold eqA
 simp only [Prod.mk.injEq, Bool.decide_and]
theorem S9 (a b : JG) : decide (a = b) = (decide (a.1 = b.1) && decide (a.2 = b.2)) := by
 obtain ⟨a1, a2⟩ := a
 obtain ⟨b1, b2⟩ := b
 simp only [Prod.mk.injEq, Bool.decide_and]
theorem CU {a : JG} (h : aC a ≤ 1048576) : a.1.length ≤ 1048576 ∧ a.2.length ≤ 1048576 ∧ ∀ {k : Nat} (hk : k < a.2.length), a.2[k].2.length ≤ 1048576 := by
 unfold aC dW at h
 refine ⟨by omega, by omega, fun {k} hk => ?_⟩
 have := bH (f := b9) hk
 have e : b9 a.2[k] = a.2[k].2.length := rfl
 omega
set_option maxHeartbeats 2000000 in
theorem sI (a b : JG) (ha : aC a ≤ 1048576) (hb : aC b ≤ 1048576) : bI Tryz.prog 50 [aP a, aP b] (cb (decide (a = b))) := by
 obtain ⟨a1, a2, a3⟩ := CU ha
 obtain ⟨b1, b2, b3⟩ := CU hb
 rw [S9]
 refine aF mx aJ Tryz.func50 rfl ?_
 conv => whnf
 refine ⟨_, kA a.1 b.1 (by omega) (by omega), .inl rfl, .inl ?_⟩
 generalize decide (a.1 = b.1) = c1
 cases c1 with
 | false =>
  conv => whnf
  rfl
 | true =>
 conv => whnf
 rw [Bool.true_and]
 generalize hc2 : ((a.2.length : Int) != (b.2.length : Int)) = c2
 cases c2 with
 | true =>
  conv => whnf
  rw [wE (by intro h; rw [h] at hc2; simp at hc2)]
  rfl
 | false =>
 have hlen : a.2.length = b.2.length := by
  have : (a.2.length : Int) = b.2.length := by simpa using hc2
  omega
 conv => whnf
 refine ⟨[(2,0),(3,0),(5,0)], fun m st => ∃ (k : Nat) (e : Int), e = k ∧ m + k = a.2.length ∧ decide (a.2 = b.2) = decide (a.2.drop k = b.2.drop k) ∧
  st = ⟨40, [(2, .ptr 0 0), (3, .ptr 1 0), (5, ci e)], [some ⟨true, aO a⟩, some ⟨true, aO b⟩]⟩, a.2.length, ⟨0, 0, rfl, rfl, rfl, by kernel_rfl⟩, ?_⟩
 rintro m st ⟨k, _, rfl, hm, hj, rfl⟩
 conv => whnf
 split <;> rename_i h1
 all_goals simp only [decide_eq_true_eq, decide_eq_false_iff_not] at h1
 ·have hk : k < a.2.length := by omega
  have hk' : k < b.2.length := by omega
  have h3 := a3 hk
  have h4 := b3 hk'
  rw [jR hk hk'] at hj
  conv => whnf
  refine ⟨List.range 12, by kernel_rfl, ?_⟩
  conv => whnf
  refine ⟨by omega, a6 aA _, ?_⟩
  conv => whnf
  refine ⟨_, aD (k := k) aA hk, ?_⟩
  conv => whnf
  refine ⟨by omega, a6 aA _, ?_⟩
  conv => whnf
  refine ⟨_, aD (k := k) aA hk', ?_⟩
  conv => whnf
  refine ⟨_, mW a.2[k] b.2[k] (by omega) (by omega), .inl rfl, .inl ?_⟩
  rw [S8]
  generalize decide (a.2[k] = b.2[k]) = c3 at hj
  cases c3 with
  | false =>
   conv => whnf
   rw [hj]
   rfl
  | true =>
   conv => whnf
   exact ⟨m - 1, by omega, k + 1, IntKind.i64.wrap ((k : Int) + 1), a8 (by omega) (by omega), by omega, by rw [hj, Bool.true_and], by kernel_rfl⟩
 ·conv => whnf
  rw [hj, List.drop_eq_nil_of_le (by omega), List.drop_eq_nil_of_le (by omega)]
  rfl
theorem C2 (xs ys : List aL) (hx : xs.length ≤ 1048576) (hy : ys.length ≤ 1048576) (h1 : ∀ {k : Nat} (hk : k < xs.length), xs[k].2.length ≤ 1048576) (h2 : ∀ {k : Nat} (hk : k < ys.length), ys[k].2.length ≤ 1048576) :
  bI Tryz.prog 222 [cE xs, cE ys, .fn 43 []] (cb (decide (xs = ys))) := by
 refine aF mx aJ Tryz.func222 rfl ?_
 conv => whnf
 generalize hc2 : ((xs.length : Int) != (ys.length : Int)) = c2
 cases c2 with
 | true =>
  conv => whnf
  rw [wE (by intro h; rw [h] at hc2; simp at hc2)]
  rfl
 | false =>
 have hlen : xs.length = ys.length := by
  have : (xs.length : Int) = ys.length := by simpa using hc2
  omega
 conv => whnf
 refine ⟨[(1,0),(2,0),(15,0),(16,0),(17,0)], fun m st => ∃ (k : Nat) (e : Int), e = k ∧ m + k = xs.length ∧ decide (xs = ys) = decide (xs.drop k = ys.drop k) ∧
  st = ⟨32, [(1, cE ys), (2, .fn 43 []), (15, cE xs), (16, ci xs.length), (17, ci e)], []⟩, xs.length, ⟨0, 0, rfl, rfl, rfl, by kernel_rfl⟩, ?_⟩
 rintro m st ⟨k, _, rfl, hm, hj, rfl⟩
 conv => whnf
 split <;> rename_i h3
 all_goals simp only [decide_eq_true_eq, decide_eq_false_iff_not] at h3
 ·have hk : k < xs.length := by omega
  have hk' : k < ys.length := by omega
  have h4 := h1 hk
  have h5 := h2 hk'
  rw [jR hk hk'] at hj
  conv => whnf
  refine ⟨by omega, a6 aA _, ?_⟩
  conv => whnf
  refine ⟨_, aD (k := k) aA hk, ?_⟩
  conv => whnf
  refine ⟨by omega, a6 aA _, ?_⟩
  conv => whnf
  refine ⟨_, aD (k := k) aA hk', ?_⟩
  conv => whnf
  refine ⟨_, mP xs[k] ys[k] (by omega) (by omega), .inl rfl, .inl ?_⟩
  rw [S8]
  generalize decide (xs[k] = ys[k]) = c3 at hj
  cases c3 with
  | false =>
   conv => whnf
   rw [hj]
   rfl
  | true =>
   conv => whnf
   exact ⟨m - 1, by omega, k + 1, IntKind.i64.wrap ((k : Int) + 1), a8 (by omega) (by omega), by omega, by rw [hj, Bool.true_and], by kernel_rfl⟩
 ·conv => whnf
  rw [hj, List.drop_eq_nil_of_le (by omega), List.drop_eq_nil_of_le (by omega)]
  rfl
theorem sC (a b : JG) (ha : aC a ≤ 1048576) (hb : aC b ≤ 1048576) : bI Tryz.prog 189 [aP a, aP b] (cb (decide (a = b))) := by
 obtain ⟨a1, a2, a3⟩ := CU ha
 obtain ⟨b1, b2, b3⟩ := CU hb
 rw [S9]
 refine aF mx aJ Tryz.func189 rfl ?_
 conv => whnf
 refine ⟨_, jE a.1 b.1 (by omega) (by omega), .inl rfl, .inl ?_⟩
 generalize decide (a.1 = b.1) = c1
 cases c1 with
 | false =>
  conv => whnf
  rfl
 | true =>
 conv => whnf
 refine ⟨_, C2 a.2 b.2 a2 b2 a3 b3, .inl rfl, .inl ?_⟩
 conv => whnf
 rw [Bool.true_and]
 rfl
def bP (s : List Int) (q : bT) : bT × Bool := (if aH s q then fG q else ([], []), aH s q)
theorem CS (s : List Int) (q : bT) (h1 : aC q ≤ 1048576) : aC (bP s q).1 ≤ 1048576 := by
 unfold bP
 simp only
 split
 ·exact QL h1
 ·decide
theorem M1 (s : List Int) (q : bT) : roV (.tup [cC (bP s q).1, cb (bP s q).2]) = .tup [aP (bP s q).1, cb (bP s q).2] := by
 show V.tup [roV _, roV _] = _
 rw [cW]
 rfl
def eL (s : List Int) (a b : bT) : Bool := (bP s a).2 && ((bP s b).2 && decide ((bP s a).1 = (bP s b).1))
theorem tX (s : List Int) (a b : bT) (hs : cT s ≤ 1048576) (ha : aC a ≤ 1048576) (hb : aC b ≤ 1048576) : bI Tryz.prog 131 [aV s, aP a, aP b] (cb (eL s a b)) := by
 have h1 := CS s a ha
 have h2 := CS s b hb
 have hs1 := mZ s a hs ha
 have hs2 := mZ s b hs hb
 rw [show V.tup [cC (if aH s a then fG a else ([], [])), cb (aH s a)] = .tup [cC (bP s a).1, cb (bP s a).2] from rfl] at hs1
 rw [show V.tup [cC (if aH s b then fG b else ([], [])), cb (aH s b)] = .tup [cC (bP s b).1, cb (bP s b).2] from rfl] at hs2
 unfold eL
 refine aF mx aJ Tryz.func131 rfl ?_
 conv => whnf
 refine ⟨_, hs1, .inl rfl, .inl ?_⟩
 rw [M1]
 generalize bP s a = x at h1
 obtain ⟨x, c1⟩ := x
 conv => whnf
 refine ⟨_, hs2, .inl rfl, .inl ?_⟩
 rw [M1]
 generalize bP s b = y at h2
 obtain ⟨y, c2⟩ := y
 simp only at h1 h2 ⊢
 conv => whnf
 cases c1 with
 | false =>
  conv => whnf
  rfl
 | true =>
 conv => whnf
 cases c2 with
 | false =>
  conv => whnf
  rfl
 | true =>
 conv => whnf
 refine ⟨_, sI x y h1 h2, .inl rfl, .inl ?_⟩
 conv => whnf
 rfl
theorem tC (s : List Int) (a b : bT) (hs : cT s ≤ 1048576) (ha : aC a ≤ 1048576) (hb : aC b ≤ 1048576) : bI Tryz.prog 129 [aV s, aP a, aP b] (cb (eL s a b)) := by
 have h1 := CS s a ha
 have h2 := CS s b hb
 have hs1 := mS s a hs ha
 have hs2 := mS s b hs hb
 rw [show V.tup [cC (if aH s a then fG a else ([], [])), cb (aH s a)] = .tup [cC (bP s a).1, cb (bP s a).2] from rfl] at hs1
 rw [show V.tup [cC (if aH s b then fG b else ([], [])), cb (aH s b)] = .tup [cC (bP s b).1, cb (bP s b).2] from rfl] at hs2
 unfold eL
 refine aF mx aJ Tryz.func129 rfl ?_
 conv => whnf
 refine ⟨_, hs1, .inl rfl, .inl ?_⟩
 rw [M1]
 generalize bP s a = x at h1
 obtain ⟨x, c1⟩ := x
 conv => whnf
 refine ⟨_, hs2, .inl rfl, .inl ?_⟩
 rw [M1]
 generalize bP s b = y at h2
 obtain ⟨y, c2⟩ := y
 simp only at h1 h2 ⊢
 conv => whnf
 cases c1 with
 | false =>
  conv => whnf
  rfl
 | true =>
 conv => whnf
 cases c2 with
 | false =>
  conv => whnf
  rfl
 | true =>
 conv => whnf
 refine ⟨_, sC x y h1 h2, .inl rfl, .inl ?_⟩
 conv => whnf
 rfl
end Go.Proofs.YtboolngaahifdaaGreatD
