/- Contracts and plain laws of this seat; no condition. -/
import Derived.Test.YtboolngaahifdaaGreatQ12
import Derived.Test.YtboolngaahifdaaGreatQ11
import Derived.Test.YtboolngaahifdaaGreatQ30
import Derived.Test.YtboolngaahifdaaGreatQ29
import Derived.Test.YtboolngaahifdaaGreatQ14
import Derived.Test.YtboolngaahifdaaGreatQ10
set_option linter.unusedVariables false
set_option linter.unusedSimpArgs false
set_option maxRecDepth 100000
namespace Go.Proofs.YtboolngaahifdaaGreatD
open Go Go.Proofs
abbrev JF := List Int × List aL
def eqA (a b : aL) : Bool := decide (a.1 = b.1) && decide (a.2 = b.2)
theorem WV (a b : aL) : eqA a b = eqA b a := by
 unfold eqA
 rw [show decide (a.1 = b.1) = decide (b.1 = a.1) from decide_eq_decide.2 eq_comm, show decide (a.2 = b.2) = decide (b.2 = a.2) from decide_eq_decide.2 eq_comm]
theorem mW (a b : aL) (ha : a.2.length ≤ 1099511627776) (hb : b.2.length ≤ 1099511627776) : bI Tryz.prog 125 [GF a, GF b] (cb (eqA a b)) := by
 refine aF mx aJ Tryz.func125 rfl ?_
 conv => whnf
 generalize hb1 : (a.1 == b.1) = b1
 cases b1 with
 | false =>
  conv => whnf
  rw [eqA, decide_eq_false (p := a.1 = b.1) (by simpa using hb1)]
  rfl
 | true =>
  conv => whnf
  refine ⟨_, kA a.2 b.2 ha hb, .inl rfl, .inl ?_⟩
  conv => whnf
  rw [eqA, decide_eq_true (p := a.1 = b.1) (by simpa using hb1)]
  rfl
theorem mP (a b : aL) (ha : a.2.length ≤ 1099511627776) (hb : b.2.length ≤ 1099511627776) : bI Tryz.prog 43 [GF a, GF b] (cb (eqA a b)) := by
 refine aF mx aJ Tryz.func43 rfl ?_
 conv => whnf
 generalize hb1 : (a.1 == b.1) = b1
 cases b1 with
 | false =>
  conv => whnf
  rw [eqA, decide_eq_false (p := a.1 = b.1) (by simpa using hb1)]
  rfl
 | true =>
  conv => whnf
  refine ⟨_, jE a.2 b.2 ha hb, .inl rfl, .inl ?_⟩
  conv => whnf
  rw [eqA, decide_eq_true (p := a.1 = b.1) (by simpa using hb1)]
  rfl
def sS (acc : List aL) (a : aL) : List aL := if acc.any (eqA a) then acc else acc ++ [a]
def jC (xs : List aL) : List aL := xs.foldl sS []
def d3 (q : JF) : JF := (q.1, jC q.2)
theorem pU {xs : List aL} {k : Nat} (hk : k < xs.length) : jC (xs.take (k + 1)) = sS (jC (xs.take k)) xs[k] := by
 unfold jC
 rw [List.take_succ_eq_append_getElem hk, List.foldl_append]
 rfl
theorem PP (acc : List aL) (a : aL) (c : aL → Nat) : (sS acc a).length ≤ acc.length + 1 ∧ bS c (sS acc a) ≤ bS c acc + c a := by
 unfold sS
 split
 ·exact ⟨by omega, by omega⟩
 ·refine ⟨by simp, ?_⟩
  have : ∀ l : List aL, bS c (l ++ [a]) = bS c l + c a := by
   intro l
   induction l with
   | nil => simp [bS]
   | cons x l ih => simp only [List.cons_append, bS, ih]; omega
  rw [this]
  exact Nat.le_refl _
theorem B5 (c : aL → Nat) : ∀ (xs acc : List aL), (xs.foldl sS acc).length ≤ acc.length + xs.length ∧ bS c (xs.foldl sS acc) ≤ bS c acc + bS c xs
 | [], acc => ⟨Nat.le_refl _, by simp [bS]⟩
 | x :: xs, acc => by
  have h1 := PP acc x c
  have h2 := B5 c xs (sS acc x)
  simp only [List.foldl_cons, List.length_cons, bS]
  omega
theorem B1 (c : aL → Nat) (xs : List aL) : (jC xs).length ≤ xs.length ∧ bS c (jC xs) ≤ bS c xs := by
 have := B5 c xs []
 simpa [jC, bS] using this
theorem DQ (c : aL → Nat) (xs : List aL) (k : Nat) : (jC (xs.take k)).length ≤ xs.length ∧ bS c (jC (xs.take k)) ≤ bS c xs := by
 have h1 := B1 c (xs.take k)
 have h2 := qO (f := c) xs k
 rw [List.length_take] at h1
 omega
set_option maxHeartbeats 4000000 in
theorem mG (x0 : JF) (h0 : aC x0 ≤ 1048576) : bI Tryz.prog 132 [aP x0] (cC (d3 x0)) := by
 unfold aC dW at h0
 refine aF mx aJ Tryz.func132 rfl ?_
 conv => whnf
 refine ⟨a6 a7 _, f5 _, ?_⟩
 conv => whnf
 refine ⟨by omega, rfl, _, jO [] x0.1, ?_⟩
 conv => whnf
 refine ⟨[(1,0),(2,0),(3,202),(4,0)], fun m s => ∃ (k : Nat) (e : Int) (n1 n : Nat) (r1 r : List V), e = k ∧ m + k = x0.2.length ∧ n1 = x0.1.length ∧ n = (jC (x0.2.take k)).length ∧ r1 = aB ciL x0.1 ∧ r = aB bY (jC (x0.2.take k)) ∧
  s = ⟨63, [(1, .ptr 0 0), (2, .ptr 1 0), (3, .ptr 2 0), (4, ci e)], [some ⟨true, aO x0⟩, some ⟨true, [cG, cG]⟩, some ⟨true, [.own 3 1 0 n1 n1 none, .own 4 2 0 n n none]⟩, some ⟨false, r1⟩, some ⟨false, r⟩]⟩, x0.2.length, ⟨0, 0, 0 + x0.1.length, 0, _, _, rfl, rfl, Nat.zero_add _, rfl, by rw [List.nil_append], rfl, rfl⟩, ?_⟩
 rintro m s ⟨k, _, n1, n, _, _, rfl, hm, hn1, hn, rfl, rfl, rfl⟩
 conv => whnf
 split <;> rename_i h1
 all_goals simp only [decide_eq_true_eq, decide_eq_false_iff_not] at h1
 ·conv => whnf
  have hk : k < x0.2.length := by omega
  have hb := bH (f := b9) hk
  have hcb : b9 x0.2[k] = x0.2[k].2.length := rfl
  have hdt := DQ b9 x0.2 k
  generalize hL : jC (x0.2.take k) = L at hn hdt
  refine ⟨[(1,0),(2,0),(3,202),(4,0),(5,0),(6,0)], fun m s => ∃ (j : Nat) (e : Int) (fl : Bool), e = j ∧ m + j = L.length ∧ L.any (eqA x0.2[k]) = (fl || (L.drop j).any (eqA x0.2[k])) ∧
   s = ⟨63, [(1, .ptr 0 0), (2, .ptr 1 0), (3, .ptr 2 0), (4, ci k), (5, cb fl), (6, ci e)], [some ⟨true, aO x0⟩, some ⟨true, [cG, cG]⟩, some ⟨true, [.own 3 1 0 n1 n1 none, .own 4 2 0 n n none]⟩, some ⟨false, aB ciL x0.1⟩, some ⟨false, aB bY L⟩]⟩, L.length, ⟨0, 0, false, rfl, rfl, rfl, rfl⟩, ?_⟩
  rintro m' s ⟨j, _, fl, rfl, hm', hany, rfl⟩
  conv => whnf
  split <;> rename_i h2
  all_goals simp only [decide_eq_true_eq, decide_eq_false_iff_not] at h2
  ·conv => whnf
   have hj : j < L.length := by omega
   have hbj := bH (f := b9) hj
   have hcj : b9 L[j] = L[j].2.length := rfl
   rw [xF hj] at hany
   refine ⟨List.range 15, by kernel_rfl, ?_⟩
   conv => whnf
   cases fl with
   | true =>
    conv => whnf
    exact ⟨m' - 1, by omega, j + 1, _, true, a8 (by omega) (by omega), by omega, by rw [hany, Bool.true_or, Bool.true_or], rfl⟩
   | false =>
   conv => whnf
   rw [Bool.false_or] at hany
   refine ⟨by omega, ?_⟩
   conv => whnf
   refine ⟨_, b7 (k := j) (d := 0) (m := 2) (xs := L) aK (Nat.zero_add _) hj (by omega) rfl, ?_⟩
   conv => whnf
   refine ⟨by omega, a6 aA _, ?_⟩
   conv => whnf
   refine ⟨_, aD (k := k) aA hk, ?_⟩
   conv => whnf
   refine ⟨_, _, _, _, eP (v := bE L[j].2) aK (k := j) (d := 1) (by show 0 + j * 2 + 1 = _; omega) hj rfl, cK _, ?_⟩
   conv => whnf
   refine ⟨_, mW L[j] x0.2[k] (by omega) (by omega), .inr trivial, .inl ?_⟩
   conv => whnf
   refine ⟨m' - 1, by omega, j + 1, _, eqA L[j] x0.2[k], a8 (by omega) (by omega), by omega, ?_, rfl⟩
   rw [hany, WV]
  ·conv => whnf
   rw [bG (by omega), List.any_nil, Bool.or_false] at hany
   cases fl with
   | true =>
    conv => whnf
    refine ⟨m - 1, by omega, k + 1, _, n1, n, _, _, a8 (by omega) (by omega), by omega, hn1, ?_, rfl, ?_, rfl⟩
    ·rw [pU hk, hL, sS, hany, if_pos rfl, hn]
    ·rw [pU hk, hL, sS, hany, if_pos rfl]
   | false =>
   conv => whnf
   have hstep : jC (x0.2.take (k + 1)) = L ++ [x0.2[k]] := by rw [pU hk, hL, sS, hany, if_neg (by simp)]
   refine ⟨[0, 1, 2, 3, 4, 5, 6, 7, 9, 10, 11, 12, 13, 14, 8, 15, 16, 17, 18, 19, 20], by kernel_rfl, ?_⟩
   conv => whnf
   refine ⟨by omega, a6 aA _, ?_⟩
   conv => whnf
   refine ⟨_, aR (k := k) (d := 0) (m := 1) (r := [ci x0.2[k].1]) aA hk (by omega) rfl, ?_⟩
   conv => whnf
   refine ⟨by omega, a6 aA _, ?_⟩
   conv => whnf
   refine ⟨_, aR (k := k) (d := 1) (m := 1) (r := [aW x0.2[k].2]) aA hk (by omega) rfl, ?_⟩
   conv => whnf
   refine ⟨a6 a7 _, f5 _, ?_⟩
   conv => whnf
   refine ⟨by omega, rfl, _, jO [] _, ?_⟩
   conv => whnf
   refine ⟨by rw [a6 a7, List.nil_append, Nat.zero_add]; rfl, ?_⟩
   conv => whnf
   refine ⟨_, rfl, .inr ⟨fun c hc => ?_, ?_⟩⟩
   ·have hc : c ∈ [ci x0.2[k].1, V.tr 1 (0 + x0.2[k].2.length) (aB ciL ([] ++ x0.2[k].2))] := hc
    simp only [List.mem_cons, List.not_mem_nil, or_false] at hc
    rcases hc with rfl | rfl <;> rfl
   conv => whnf
   refine ⟨by omega, by rw [a6 aK, hn], aB bY (L ++ [x0.2[k]]), ?_, ?_⟩
   ·rw [List.nil_append, Nat.zero_add]
    exact bQ bY _ _
   conv => whnf
   refine ⟨m - 1, by omega, k + 1, _, n1, _, _, _, a8 (by omega) (by omega), by omega, hn1, ?_, rfl, ?_, rfl⟩
   ·rw [hstep, List.length_append, hn]
    rfl
   ·rw [hstep]
 ·conv => whnf
  have hkk : k = x0.2.length := by omega
  rw [hkk, List.take_length] at hn ⊢
  subst hn1
  subst hn
  refine ⟨by rw [a6 a7], by rw [a6 aK], rfl⟩
def okT (q : bJ) : Prop := q.1.all aU = true ∧ ∀ a ∈ q.2, a.2.all aU = true
structure IsImg (h : Int → Int) (q y : bJ) : Prop where
 hom : nQ h q y
 onto : ∀ a ∈ y.2, ∃ c ∈ q.2, kJ h c = a
 trm : ∀ t, aU t = true → aU (app h t) = true
theorem CJ (a : aL) : kJ id a = a := Prod.ext rfl ((List.map_congr_left fun t _ => vU t).trans (List.map_id _))
theorem WS (acc : List aL) (x y : aL) : y ∈ sS acc x ↔ y = x ∨ y ∈ acc := by
 unfold sS
 split
 ·rename_i h
  obtain ⟨z, hz, he⟩ := List.any_eq_true.1 h
  have hxz : x = z := by
   simp only [eqA, Bool.and_eq_true, decide_eq_true_eq] at he
   exact Prod.ext he.1 he.2
  subst hxz
  exact ⟨.inr, fun h => h.elim (fun e => e ▸ hz) id⟩
 ·simp only [List.mem_append, List.mem_singleton]
  exact or_comm
theorem MP (y : aL) : ∀ (xs acc : List aL), y ∈ xs.foldl sS acc ↔ y ∈ xs ∨ y ∈ acc
 | [], acc => by simp
 | x :: xs, acc => by
  rw [List.foldl_cons, MP y xs, WS, List.mem_cons]
  constructor
  ·rintro (h | h | h) <;> simp [h]
  ·rintro ((h | h) | h) <;> simp [h]
theorem uQ (y : aL) (xs : List aL) : y ∈ jC xs ↔ y ∈ xs := by
 unfold jC
 rw [MP]
 simp
theorem I5 (q : bJ) : IsImg id q (d3 q) := by
 refine ⟨⟨(List.map_congr_left fun t _ => vU t).trans (List.map_id _), fun a ha => ?_⟩, fun a ha => ?_, fun t ht => by rw [vU]; exact ht⟩
 ·rw [CJ]
  exact (uQ a q.2).2 ha
 ·exact ⟨a, (uQ a q.2).1 ha, CJ a⟩
theorem tI (s : List Int) (q : bJ) : aH s q = true ↔ dE s = true ∧ (q.1.all aU = true ∧ q.1.length ≤ 3) ∧ (1 ≤ q.2.length ∧ q.2.length ≤ 4) ∧ (∀ a ∈ q.2, iE s a.1 a.2.length = true ∧ a.2.all aU = true) ∧ ∀ t ∈ q.1, b8 t = true → iU q t = true := by
 simp only [aH, nW, d5, Bool.and_eq_true, decide_eq_true_eq, List.all_eq_true, fM, tU]
 constructor
 ·rintro ⟨h1, ⟨h2, h3⟩, h4, h5, h6⟩
  have h7 : (1 : Int) ≤ q.2.length ∧ (q.2.length : Int) ≤ 4 := by simpa [inR] using h4
  refine ⟨h1, ⟨h2, h3⟩, ⟨by omega, by omega⟩, h5, fun t ht hv => ?_⟩
  have := h6 t ht
  simpa [hv] using this
 ·rintro ⟨h1, ⟨h2, h3⟩, h4, h5, h6⟩
  refine ⟨h1, ⟨h2, h3⟩, by simp [inR]; omega, h5, fun t ht => ?_⟩
  cases hv : b8 t with
  | false => simp [hv]
  | true => simp [hv, h6 t ht hv]
theorem B8 {s : List Int} {q : bJ} (h : aH s q = true) : okT q := by
 obtain ⟨_, ⟨q2, _⟩, _, q5, _⟩ := (tI s q).1 h
 exact ⟨q2, fun a ha => (q5 a ha).2⟩
def nm (m : List (Int × Int)) (x : Int) : Int × List (Int × Int) := if b8 x then (match tA m x with
 | some n => (n, m)
 | none => ((m.length : Int), wO m x m.length)) else (x, m)
def nmL : List Int → List (Int × Int) → List Int × List (Int × Int)
 | [], m => ([], m)
 | x :: xs, m => ((nm m x).1 :: (nmL xs (nm m x).2).1, (nmL xs (nm m x).2).2)
def nmA : List aL → List (Int × Int) → List aL × List (Int × Int)
 | [], m => ([], m)
 | a :: r, m => ((a.1, (nmL a.2 m).1) :: (nmA r (nmL a.2 m).2).1, (nmA r (nmL a.2 m).2).2)
def nmQ (q : bA) : bA := ((nmL q.1 []).1, (nmA q.2 (nmL q.1 []).2).1)
theorem xW : ∀ (xs : List Int) (m : List (Int × Int)), (nmL xs m).1.length = xs.length
 | [], m => rfl
 | x :: xs, m => by simp only [nmL, List.length_cons, xW xs]
theorem SY : ∀ (xs ys : List Int) (m : List (Int × Int)), nmL (xs ++ ys) m = ((nmL xs m).1 ++ (nmL ys (nmL xs m).2).1, (nmL ys (nmL xs m).2).2)
 | [], ys, m => rfl
 | x :: xs, ys, m => by simp only [List.cons_append, nmL, SY xs ys]
theorem uU : ∀ (xs : List aL) (m : List (Int × Int)), (nmA xs m).1.length = xs.length
 | [], m => rfl
 | x :: xs, m => by simp only [nmA, List.length_cons, uU xs]
theorem SX : ∀ (xs ys : List aL) (m : List (Int × Int)), nmA (xs ++ ys) m = ((nmA xs m).1 ++ (nmA ys (nmA xs m).2).1, (nmA ys (nmA xs m).2).2)
 | [], ys, m => rfl
 | x :: xs, ys, m => by simp only [List.cons_append, nmA, SX xs ys]
def mK : List Int → Int → Nat → Nat
 | [], _, j => j
 | x :: r, v, j => if x == v then j else mK r v (j + 1)
def mGo : Nat → List Int → List (Int × Int)
 | _, [] => []
 | j, x :: r => (x, (j : Int)) :: mGo (j + 1) r
def eQ (S : List Int) (x : Int) : List Int := if b8 x && !(has S x) then S ++ [x] else S
def mT (S : List Int) (x : Int) : Int := if b8 x && has S x then (mK S x 0 : Int) else x
theorem SP : ∀ (S : List Int) (j : Nat), (mGo j S).length = S.length
 | [], j => rfl
 | x :: r, j => by simp only [mGo, List.length_cons, SP r]
theorem pY (x v : Int) (r : List Int) : has (x :: r) v = ((x == v) || has r v) := rfl
theorem SO : ∀ (S : List Int) (j : Nat) (v : Int), tA (mGo j S) v = if has S v then some (mK S v j : Int) else none
 | [], j, v => rfl
 | x :: r, j, v => by
  simp only [mGo, tA, mK, pY]
  by_cases hb : (x == v) = true
  ·simp [hb]
  ·have hf : (x == v) = false := by simpa using hb
   simp [hf, SO r (j + 1) v]
theorem SQ : ∀ (S : List Int) (j : Nat) (v w : Int), has S v = false → wO (mGo j S) v w = mGo j S ++ [(v, w)]
 | [], j, v, w, _ => rfl
 | x :: r, j, v, w, h => by
  rw [pY, Bool.or_eq_false_iff] at h
  simp only [mGo, wO, h.1, cond_false, SQ r (j + 1) v w h.2, List.cons_append]
theorem SN : ∀ (S T : List Int) (j : Nat), mGo j (S ++ T) = mGo j S ++ mGo (j + S.length) T
 | [], T, j => by simp [mGo]
 | x :: r, T, j => by simp only [List.cons_append, mGo, SN r T (j + 1), List.length_cons, show j + 1 + r.length = j + (r.length + 1) from by omega]
theorem F8 : ∀ (S T : List Int) (v : Int) (j : Nat), has S v = true → mK (S ++ T) v j = mK S v j
 | [], T, v, j, h => by cases h
 | x :: r, T, v, j, h => by
  simp only [List.cons_append, mK]
  rw [pY] at h
  cases hb : (x == v) with
  | true => rfl
  | false =>
   rw [hb, Bool.false_or] at h
   simp only [Bool.false_eq_true, if_false]
   exact F8 r T v (j + 1) h
theorem FA : ∀ (S : List Int) (v : Int) (j : Nat), has S v = false → mK (S ++ [v]) v j = j + S.length
 | [], v, j, _ => by simp [mK]
 | x :: r, v, j, h => by
  rw [pY, Bool.or_eq_false_iff] at h
  simp only [List.cons_append, mK, h.1, Bool.false_eq_true, if_false, FA r v (j + 1) h.2, List.length_cons]
  omega
theorem a3H (S : List Int) (x : Int) : nm (mGo 0 S) x = (mT (eQ S x) x, mGo 0 (eQ S x)) := by
 unfold nm mT eQ
 cases hv : b8 x with
 | false => simp
 | true =>
  simp only [if_true, Bool.true_and, SO]
  cases hh : has S x with
  | true => simp [hh]
  | false =>
   have h1 : has (S ++ [x]) x = true := by rw [fL, uJ]; simp
   simp only [Bool.false_eq_true, if_false, Bool.not_false, if_true, h1, SP, SQ S 0 x _ hh, FA S x 0 hh, SN, mGo, Nat.zero_add]
theorem TY (S : List Int) (x : Int) : ∃ T, eQ S x = S ++ T := by
 unfold eQ
 split
 ·exact ⟨[x], rfl⟩
 ·exact ⟨[], by simp⟩
theorem nH : ∀ (xs S : List Int), ∃ T, xs.foldl eQ S = S ++ T
 | [], S => ⟨[], by simp⟩
 | x :: xs, S => by
  obtain ⟨T, h⟩ := TY S x
  obtain ⟨U, h2⟩ := nH xs (eQ S x)
  exact ⟨T ++ U, by rw [List.foldl_cons, h2, h, List.append_assoc]⟩
theorem D1 {S : List Int} {x : Int} (hv : b8 x = true) : has (eQ S x) x = true := by
 unfold eQ
 cases hh : has S x with
 | true => simp [hv, hh]
 | false =>
  simp only [hv, Bool.not_false, Bool.and_self, if_true]
  rw [fL, uJ]; simp
theorem wM {S T : List Int} {x : Int} (h : b8 x = true → has S x = true) : mT (S ++ T) x = mT S x := by
 unfold mT
 cases hv : b8 x with
 | false => simp
 | true =>
  have h1 := h hv
  rw [fL, h1]
  simp only [Bool.true_or, Bool.and_self, if_true, F8 S T x 0 h1]
theorem QI : ∀ (xs S : List Int), nmL xs (mGo 0 S) = (xs.map (mT (xs.foldl eQ S)), mGo 0 (xs.foldl eQ S))
 | [], S => rfl
 | x :: xs, S => by
  simp only [nmL, a3H, QI xs, List.map_cons, List.foldl_cons]
  obtain ⟨T, h⟩ := nH xs (eQ S x)
  rw [h, wM (fun hv => D1 hv)]
def dR (q : bA) : List Int := q.1 ++ q.2.flatMap (·.2)
theorem Y2 : ∀ (r : List aL) (S : List Int), nmA r (mGo 0 S) = (r.map fun a => (a.1, a.2.map (mT ((r.flatMap (·.2)).foldl eQ S))), mGo 0 ((r.flatMap (·.2)).foldl eQ S))
 | [], S => rfl
 | a :: r, S => by
  simp only [nmA, QI, Y2 r, List.map_cons, List.flatMap_cons, List.foldl_append]
  obtain ⟨T, h⟩ := nH (r.flatMap (·.2)) (a.2.foldl eQ S)
  have key : ∀ (xs S : List Int), ∀ x ∈ xs, b8 x = true → has (xs.foldl eQ S) x = true := by
   intro xs
   induction xs with
   | nil => intro S x hx; cases hx
   | cons y ys ih =>
    intro S x hx hv
    rw [List.foldl_cons]
    rcases List.mem_cons.1 hx with rfl | hx
    ·obtain ⟨T, h⟩ := nH ys (eQ S x)
     rw [h, fL, D1 hv, Bool.true_or]
    ·exact ih _ x hx hv
  have h2 : a.2.map (mT (a.2.foldl eQ S)) = a.2.map (mT ((r.flatMap (·.2)).foldl eQ (a.2.foldl eQ S))) := by
   refine List.map_congr_left fun x hx => ?_
   rw [h]
   exact (wM (fun hv => key a.2 S x hx hv)).symm
  rw [h2]
def f8 (q : bA) : List Int := (dR q).foldl eQ []
theorem xM (xs S : List Int) : ∀ x ∈ xs, b8 x = true → has (xs.foldl eQ S) x = true := by
 induction xs generalizing S with
 | nil => intro x hx; cases hx
 | cons y ys ih =>
  intro x hx hv
  rw [List.foldl_cons]
  rcases List.mem_cons.1 hx with rfl | hx
  ·obtain ⟨T, h⟩ := nH ys (eQ S x)
   rw [h, fL, D1 hv, Bool.true_or]
  ·exact ih _ x hx hv
theorem QJ (q : bA) : nmQ q = (q.1.map (mT (f8 q)), q.2.map fun a => (a.1, a.2.map (mT (f8 q)))) := by
 have h0 : nmL q.1 [] = _ := QI q.1 []
 have h1 := Y2 q.2 (q.1.foldl eQ [])
 have e : f8 q = (q.2.flatMap (·.2)).foldl eQ (q.1.foldl eQ []) := by unfold f8 dR; rw [List.foldl_append]
 unfold nmQ
 rw [h0, h1, ← e]
 congr 1
 refine List.map_congr_left fun x hx => ?_
 obtain ⟨T, h⟩ := nH (q.2.flatMap (·.2)) (q.1.foldl eQ [])
 rw [e, h]
 exact (wM (fun hv => xM q.1 [] x hx hv)).symm
def oI (S : List Int) : List Int := (List.range 20).map fun (v : Nat) => if has S (v : Int) then (mK S (v : Int) 0 : Int) else (v : Int)
theorem mH (S : List Int) : (oI S).length = 20 := by simp [oI]
theorem LX (S : List Int) {v : Nat} (h : v < 20) : (oI S)[v]? = some (if has S (v : Int) then (mK S (v : Int) 0 : Int) else (v : Int)) := by
 simp [oI, h]
theorem Z5 (S : List Int) {v : Nat} (hv : v < 20) (h : has S (v : Int) = false) : (oI S).set v (S.length : Int) = oI (S ++ [(v : Int)]) := by
 refine List.ext_getElem? fun i => ?_
 rw [List.getElem?_set]
 by_cases hi : i < 20
 ·rw [LX _ hi, LX _ hi]
  by_cases hvi : v = i
  ·subst hvi
   have h1 : has (S ++ [(v : Int)]) (v : Int) = true := by rw [fL, uJ]; simp
   rw [if_pos rfl, if_pos (by rw [mH]; exact hv), if_pos h1, FA S _ 0 h, Nat.zero_add]
  ·rw [if_neg hvi, fL, uJ]
   have hne : ((v : Int) == (i : Int)) = false := by simp; omega
   rw [hne, Bool.or_false]
   cases hh : has S (i : Int) with
   | false => rfl
   | true => simp only [if_true, F8 S _ _ 0 hh]
 ·rw [List.getElem?_eq_none (by rw [mH]; omega), if_neg (by rintro rfl; exact hi hv)]
  exact (List.getElem?_eq_none (by rw [mH]; omega)).symm
theorem a0Q (S : List Int) (x : Int) : sF (oI S) x = mT S x := by
 unfold sF mT
 have e : inR x 0 ((oI S).length - 1) = b8 x := by rw [mH]; rfl
 rw [e]
 cases hv : b8 x with
 | false => simp
 | true =>
  have hr : 0 ≤ x ∧ x ≤ 19 := by simpa [b8, inR] using hv
  obtain ⟨v, rfl⟩ : ∃ v : Nat, x = v := ⟨x.toNat, by omega⟩
  have hlt : v < 20 := by omega
  rw [if_pos rfl, Int.toNat_natCast, List.getD_eq_getElem?_getD, LX S hlt]
  simp
theorem a0R (q : bA) : sG (oI (f8 q)) q = nmQ q := by
 rw [QJ]
 have h1 : ∀ xs : List Int, xs.map (sF (oI (f8 q))) = xs.map (mT (f8 q)) := fun xs => List.map_congr_left fun x _ => a0Q _ x
 unfold sG
 rw [h1]
 congr 1
 refine List.map_congr_left fun a _ => ?_
 simp only [AC, h1]
theorem W2 (S : List Int) (x : Int) : (eQ S x).length ≤ S.length + 1 := by
 unfold eQ
 split
 ·simp
 ·omega
theorem qG (q : bA) : aC (nmQ q) = aC q := by
 rw [QJ]
 unfold aC dW
 simp only [List.length_map]
 congr 2
 have key : ∀ (xs : List aL) (f : Int → Int), bS b9 (xs.map fun a => (a.1, a.2.map f)) = bS b9 xs := by
  intro xs f
  induction xs with
  | nil => rfl
  | cons x xs ih =>
   simp only [List.map_cons, bS, ih]
   congr 1
   exact List.length_map ..
 exact key _ _
def k5 (a : Int × List Int) : List Int := a.1 :: a.2
def bO (q : List Int × List (Int × List Int)) : List Int := ((q.1.length : Int) :: q.1) ++ q.2.flatMap k5
theorem pS (a : Int × List Int) : (k5 a).length = HZ a := by simp only [k5, HZ, List.length_cons]; omega
theorem mN (x0 : List Int × List (Int × List Int)) (h0 : aC x0 ≤ 1048576) : (bO x0).length ≤ 2147483648 := by
 unfold aC dW at h0
 have := P5 WT x0.2
 simp only [bO, List.length_append, List.length_cons, k7 pS]
 omega
theorem p5 (x0 : List Int × List (Int × List Int)) (h0 : aC x0 ≤ 1048576) : bI Tryz.prog 243 [aP x0] (bE (bO x0)) := by
 have hsm := mN x0 h0
 have htot : ∀ k, (((x0.1.length : Int) :: x0.1) ++ (x0.2.take k).flatMap k5).length ≤ 2147483648 := by
  intro k
  have h1 := k7 pS (x0.2.take k)
  have h2 := qO (f := HZ) x0.2 k
  have h3 := k7 pS x0.2
  simp only [bO, List.length_append, List.length_cons] at hsm ⊢
  omega
 unfold aC dW at h0
 refine aF mx aJ Tryz.func243 rfl ?_
 conv => whnf
 refine ⟨a6 a7 _, f5 _, ?_⟩
 conv => whnf
 refine ⟨by omega, rfl, _, dC [] _ ▸ jO [(x0.1.length : Int)] x0.1, ?_⟩
 conv => whnf
 refine ⟨[(1,0),(2,0),(3,0),(4,0)], fun m s => ∃ (k : Nat) (e : Int) (n : Nat) (r : List V), e = k ∧ m + k = x0.2.length ∧ n = (((x0.1.length : Int) :: x0.1) ++ (x0.2.take k).flatMap k5).length ∧ r = aB ciL (((x0.1.length : Int) :: x0.1) ++ (x0.2.take k).flatMap k5) ∧
  s = ⟨37, [(1, .ptr 0 0), (2, cG), (3, .own 1 1 0 n n none), (4, ci e)], [some ⟨true, aO x0⟩, some ⟨false, r⟩]⟩, x0.2.length, ⟨0, 0, 1 + x0.1.length, _, rfl, rfl, by simp; omega, by simp, rfl⟩, ?_⟩
 rintro m s ⟨k, _, n, _, rfl, hm, hn, rfl, rfl⟩
 conv => whnf
 split <;> rename_i h1
 all_goals simp only [decide_eq_true_eq, decide_eq_false_iff_not] at h1
 ·conv => whnf
  have hk : k < x0.2.length := by omega
  have ht1 := htot k
  have ht2 := htot (k + 1)
  rw [lE hk] at ht2
  simp only [List.length_append, List.length_cons, k5] at ht1 ht2 hn
  refine ⟨by omega, a6 aA _, ?_⟩
  conv => whnf
  refine ⟨_, aR (k := k) (d := 0) (m := 1) (r := [ci x0.2[k].1]) aA hk (by omega) rfl, ?_⟩
  conv => whnf
  refine ⟨_, rfl, .inl ⟨fU rfl, ?_⟩⟩
  conv => whnf
  refine ⟨by omega, by rw [a6 a7, hn]; simp only [List.length_append, List.length_cons], _, dC _ _, ?_⟩
  conv => whnf
  refine ⟨by omega, a6 aA _, ?_⟩
  conv => whnf
  refine ⟨_, aR (k := k) (d := 1) (m := 1) (r := [aW x0.2[k].2]) aA hk (by omega) rfl, ?_⟩
  conv => whnf
  refine ⟨a6 a7 _, f5 _, ?_⟩
  conv => whnf
  refine ⟨by omega, by rw [a6 a7, hn]; simp only [List.length_append, List.length_cons, List.length_nil], _, jO _ _, ?_⟩
  conv => whnf
  refine ⟨m - 1, by omega, k + 1, _, _, _, a8 (by omega) (by omega), by omega, ?_, ?_, rfl⟩
  ·rw [lE hk, hn]
   simp only [List.length_append, List.length_cons, k5, List.length_nil]
   omega
  ·rw [lE hk]
   simp only [k5, List.append_assoc, List.cons_append, List.nil_append]
 ·conv => whnf
  have hkk : k = x0.2.length := by omega
  have hfin : (x0.2.take k) = x0.2 := by rw [hkk, List.take_length]
  rw [hfin] at hn ⊢
  refine ⟨by rw [a6 a7, hn], ?_⟩
  subst hn
  rfl
theorem oR (x0 : List Int × List (Int × List Int)) (h0 : aC x0 ≤ 1048576) : bI Tryz.prog 221 [aP x0] (bE (bO x0)) := by
 have hsm := mN x0 h0
 have htot : ∀ k, (((x0.1.length : Int) :: x0.1) ++ (x0.2.take k).flatMap k5).length ≤ 2147483648 := by
  intro k
  have h1 := k7 pS (x0.2.take k)
  have h2 := qO (f := HZ) x0.2 k
  have h3 := k7 pS x0.2
  simp only [bO, List.length_append, List.length_cons] at hsm ⊢
  omega
 unfold aC dW at h0
 refine aF mx aJ Tryz.func221 rfl ?_
 conv => whnf
 refine ⟨a6 a7 _, f5 _, ?_⟩
 conv => whnf
 refine ⟨by omega, rfl, _, dC [] _ ▸ jO [(x0.1.length : Int)] x0.1, ?_⟩
 conv => whnf
 refine ⟨[(3,0),(14,0),(15,0),(16,0)], fun m s => ∃ (k : Nat) (e : Int) (n : Nat) (r : List V), e = k ∧ m + k = x0.2.length ∧ n = (((x0.1.length : Int) :: x0.1) ++ (x0.2.take k).flatMap k5).length ∧ r = aB ciL (((x0.1.length : Int) :: x0.1) ++ (x0.2.take k).flatMap k5) ∧
  s = ⟨30, [(3, .own 0 1 0 n n none), (14, cE x0.2), (15, ci x0.2.length), (16, ci e)], [some ⟨false, r⟩]⟩, x0.2.length, ⟨0, 0, 1 + x0.1.length, _, rfl, rfl, by simp; omega, by simp, rfl⟩, ?_⟩
 rintro m s ⟨k, _, n, _, rfl, hm, hn, rfl, rfl⟩
 conv => whnf
 split <;> rename_i h1
 all_goals simp only [decide_eq_true_eq, decide_eq_false_iff_not] at h1
 ·conv => whnf
  have hk : k < x0.2.length := by omega
  have ht1 := htot k
  have ht2 := htot (k + 1)
  rw [lE hk] at ht2
  simp only [List.length_append, List.length_cons, k5] at ht1 ht2 hn
  refine ⟨by omega, a6 aA _, ?_⟩
  conv => whnf
  refine ⟨_, aD (k := k) aA hk, ?_⟩
  conv => whnf
  refine ⟨[0,1,2,5,6,3,4,7,8], by kernel_rfl, ?_⟩
  conv => whnf
  refine ⟨_, rfl, .inl ⟨fU rfl, ?_⟩⟩
  conv => whnf
  refine ⟨by omega, by rw [a6 a7, hn]; simp only [List.length_append, List.length_cons], _, dC _ _, ?_⟩
  conv => whnf
  refine ⟨a6 a7 _, f5 _, ?_⟩
  conv => whnf
  refine ⟨by omega, by rw [a6 a7, hn]; simp only [List.length_append, List.length_cons, List.length_nil], _, jO _ _, ?_⟩
  conv => whnf
  refine ⟨m - 1, by omega, k + 1, _, _, _, a8 (by omega) (by omega), by omega, ?_, ?_, rfl⟩
  ·rw [lE hk, hn]
   simp only [List.length_append, List.length_cons, k5, List.length_nil]
   omega
  ·rw [lE hk]
   simp only [k5, List.append_assoc, List.cons_append, List.nil_append]
 ·conv => whnf
  have hkk : k = x0.2.length := by omega
  have hfin : (x0.2.take k) = x0.2 := by rw [hkk, List.take_length]
  rw [hfin] at hn ⊢
  refine ⟨by rw [a6 a7, hn], ?_⟩
  subst hn
  rfl
end Go.Proofs.YtboolngaahifdaaGreatD
