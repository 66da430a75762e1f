/- Contracts and plain laws of this seat; no condition. -/
import Derived.Test.YtboolngaahifdaaGreatQ11
import Derived.Test.YtboolngaahifdaaGreatQ12
import Derived.Test.YtboolngaahifdaaGreatQ14
import Derived.Test.YtboolngaahifdaaGreatQ17
import Derived.Test.YtboolngaahifdaaGreatQ21
set_option linter.unusedVariables false
set_option linter.unusedSimpArgs false
set_option maxRecDepth 100000
namespace Go.Proofs.YtboolngaahifdaaGreatD
open Go Go.Proofs
abbrev pN := List Int × Int
def mF (xs ys : List pN) : Bool := decide (xs = ys)
theorem eqC (x y : pN) : decide (x = y) = (decide (x.2 = y.2) && decide (x.1 = y.1)) := by
 rw [← Bool.decide_and, decide_eq_decide]
 constructor
 ·rintro rfl; exact ⟨rfl, rfl⟩
 ·rintro ⟨a, b⟩; exact Prod.ext b a
theorem fQ (xs ys : List pN) (h0 : cJ xs ≤ 1099511627776) (h1 : cJ ys ≤ 1099511627776) : bI Tryz.prog 60 [aY xs, aY ys] (cb (mF xs ys)) := by
 unfold cJ at h0 h1
 unfold mF
 refine aF mx aJ Tryz.func60 rfl ?_
 conv => whnf
 split <;> rename_i h0
 ·conv => whnf
  simp only [bne_iff_ne, ne_eq] at h0
  show cb false = _
  rw [wE (by omega)]
 conv => whnf
 have h0' : xs.length = ys.length := by
  have h3 : (xs.length : Int) = ys.length := by simpa using h0
  omega
 refine ⟨[(0,0),(1,0),(4,0),(5,0)], fun m s => ∃ (k : Nat) (e : Int), e = k ∧ m + k = xs.length ∧ decide (xs = ys) = decide (xs.drop k = ys.drop k) ∧
  s = ⟨42, [(0, aY xs), (1, aY ys), (4, cb false), (5, ci e)], []⟩, xs.length, ⟨0, 0, rfl, rfl, rfl, rfl⟩, ?_⟩
 rintro m s ⟨k, _, rfl, hm, hj, rfl⟩
 conv => whnf
 split <;> rename_i h1
 all_goals simp only [decide_eq_true_eq, decide_eq_false_iff_not] at h1
 ·conv => whnf
  have hk : k < xs.length := by omega
  have hk' : k < ys.length := by omega
  have hbx := bH (f := fS) hk
  have hby := bH (f := fS) hk'
  have hcx : fS xs[k] = xs[k].1.length := rfl
  have hcy : fS ys[k] = ys[k].1.length := rfl
  rw [jR hk hk', eqC] at hj
  refine ⟨List.range 25, by kernel_rfl, ?_⟩
  conv => whnf
  refine ⟨by omega, a6 bW xs, ?_⟩
  conv => whnf
  refine ⟨_, aR (k := k) (d := 1) (m := 1) (r := [ci xs[k].2]) bW hk (by omega) rfl, ?_⟩
  conv => whnf
  refine ⟨by omega, a6 bW ys, ?_⟩
  conv => whnf
  refine ⟨_, aR (k := k) (d := 1) (m := 1) (r := [ci ys[k].2]) bW hk' (by omega) rfl, ?_⟩
  conv => whnf
  generalize hb1 : (xs[k].2 != ys[k].2) = b1
  cases b1 with
  | true =>
   conv => whnf
   show cb false = _
   rw [hj, decide_eq_false (p := xs[k].2 = ys[k].2) (by simpa using hb1), Bool.false_and, Bool.false_and]
  | false =>
  conv => whnf
  rw [decide_eq_true (p := xs[k].2 = ys[k].2) (by simpa using hb1), Bool.true_and] at hj
  refine ⟨by omega, a6 bW xs, ?_⟩
  conv => whnf
  refine ⟨_, aR (k := k) (d := 0) (m := 1) (r := [aW xs[k].1]) bW hk (by omega) rfl, ?_⟩
  conv => whnf
  refine ⟨by omega, a6 bW ys, ?_⟩
  conv => whnf
  refine ⟨_, aR (k := k) (d := 0) (m := 1) (r := [aW ys[k].1]) bW hk' (by omega) rfl, ?_⟩
  conv => whnf
  refine ⟨_, kA xs[k].1 ys[k].1 (by omega) (by omega), .inl rfl, .inl ?_⟩
  conv => whnf
  generalize decide (xs[k].1 = ys[k].1) = b2 at hj
  cases b2 with
  | false =>
   conv => whnf
   show cb false = _
   rw [hj, Bool.false_and]
  | true =>
   conv => whnf
   rw [Bool.true_and] at hj
   exact ⟨m - 1, by omega, k + 1, _, a8 (by omega) (by omega), by omega, hj, rfl⟩
 ·conv => whnf
  rw [hj, bG (by omega), bG (by omega)]
  rfl
theorem QZ (x y : pN) (hx : x.1.length ≤ 1099511627776) (hy : y.1.length ≤ 1099511627776) : bI Tryz.prog 134 [PD x, PD y] (cb (decide (x = y))) := by
 rw [eqC]
 refine aF mx aJ Tryz.func134 rfl ?_
 conv => whnf
 generalize hb1 : (x.2 == y.2) = b1
 cases b1 with
 | false =>
  conv => whnf
  rw [decide_eq_false (p := x.2 = y.2) (by simpa using hb1)]
  rfl
 | true =>
  conv => whnf
  refine ⟨_, jE x.1 y.1 hx hy, .inl rfl, .inl ?_⟩
  conv => whnf
  rw [decide_eq_true (p := x.2 = y.2) (by simpa using hb1)]
  rfl
theorem DU (xs ys : List pN) (h0 : cJ xs ≤ 1099511627776) (h1 : cJ ys ≤ 1099511627776) : bI Tryz.prog 133 [aY xs, aY ys, .fn 134 []] (cb (decide (xs = ys))) := by
 unfold cJ at h0 h1
 refine aF mx aJ Tryz.func133 rfl ?_
 conv => whnf
 split <;> rename_i h0
 ·conv => whnf
  simp only [bne_iff_ne, ne_eq] at h0
  show cb false = _
  rw [wE (by omega)]
 conv => whnf
 have h0' : xs.length = ys.length := by
  have h3 : (xs.length : Int) = ys.length := by simpa using h0
  omega
 refine ⟨[(1,0),(2,0),(6,0),(15,0),(16,0),(17,0)], fun m s => ∃ (k : Nat) (e : Int), e = k ∧ m + k = xs.length ∧ decide (xs = ys) = decide (xs.drop k = ys.drop k) ∧
  s = ⟨32, [(1, aY ys), (2, .fn 134 []), (6, cb false), (15, aY xs), (16, ci xs.length), (17, ci e)], []⟩, xs.length, ⟨0, 0, rfl, rfl, rfl, rfl⟩, ?_⟩
 rintro m s ⟨k, _, rfl, hm, hj, rfl⟩
 conv => whnf
 split <;> rename_i h1
 all_goals simp only [decide_eq_true_eq, decide_eq_false_iff_not] at h1
 ·conv => whnf
  have hk : k < xs.length := by omega
  have hk' : k < ys.length := by omega
  have hbx := bH (f := fS) hk
  have hby := bH (f := fS) hk'
  have hcx : fS xs[k] = xs[k].1.length := rfl
  have hcy : fS ys[k] = ys[k].1.length := rfl
  rw [jR hk hk'] at hj
  refine ⟨by omega, a6 bW xs, ?_⟩
  conv => whnf
  refine ⟨_, aD (k := k) bW hk, ?_⟩
  conv => whnf
  refine ⟨by omega, a6 bW ys, ?_⟩
  conv => whnf
  refine ⟨_, aD (k := k) bW hk', ?_⟩
  conv => whnf
  refine ⟨_, QZ xs[k] ys[k] (by omega) (by omega), .inl rfl, .inl ?_⟩
  conv => whnf
  generalize decide (xs[k] = ys[k]) = b2 at hj
  cases b2 with
  | false =>
   conv => whnf
   show cb false = _
   rw [hj, Bool.false_and]
  | true =>
   conv => whnf
   rw [Bool.true_and] at hj
   exact ⟨m - 1, by omega, k + 1, _, a8 (by omega) (by omega), by omega, hj, rfl⟩
 ·conv => whnf
  rw [hj, bG (by omega), bG (by omega)]
  rfl
theorem eA (xs ys : List pN) (h0 : cJ xs ≤ 1099511627776) (h1 : cJ ys ≤ 1099511627776) : bI Tryz.prog 57 [aY xs, aY ys] (cb (mF xs ys)) := by
 refine aF mx aJ Tryz.func57 rfl ?_
 conv => whnf
 refine ⟨_, DU xs ys h0 h1, .inl rfl, .inl ?_⟩
 conv => whnf
 rfl
abbrev bT := List Int × List aL
theorem DP (q : List Int × List aL) (h : aC q ≤ 1099511627776) : bI Tryz.prog 250 [aP q] (cC q) := by
 unfold aC at h
 refine aF mx aJ Tryz.func250 rfl ?_
 conv => whnf
 refine ⟨[0,1,3,4,2,5,6,7], by kernel_rfl, ?_⟩
 conv => whnf
 refine ⟨_, jB q.1 (by omega), .inl rfl, .inr ?_⟩
 conv => whnf
 refine ⟨_, sR q.2 (by omega), .inl rfl, .inr ?_⟩
 conv => whnf
 refine ⟨by rw [a6 a7], by rw [a6 aK], rfl⟩
def unm : Int := -1000
def mU (m : List Int) (t u : Int) : List Int × Bool :=
 if b8 t then (let m' := if m.getD t.toNat 0 == unm then m.set t.toNat u else m; (m', m'.getD t.toNat 0 == u)) else (m, t == u)
def kY (m xs ys : List Int) : Nat → List Int × Bool
 | 0 => (m, true)
 | k + 1 => let r := kY m xs ys k; if r.2 then mU r.1 (xs.getD k 0) (ys.getD k 0) else r
theorem AI (m : List Int) (t u : Int) : (mU m t u).1.length = m.length := by
 unfold mU
 split
 ·dsimp only
  split <;> simp
 ·rfl
theorem iF (m xs ys : List Int) : ∀ k, (kY m xs ys k).1.length = m.length
 | 0 => rfl
 | k + 1 => by
  simp only [kY]
  split
  ·rw [AI, iF m xs ys k]
  ·exact iF m xs ys k
theorem wT {m xs ys : List Int} {k : Nat} (h : (kY m xs ys k).2 = false) : ∀ j, k ≤ j → kY m xs ys j = kY m xs ys k
 | j, hj => by
  induction j with
  | zero => rw [show k = 0 from by omega]
  | succ j ih =>
   rcases Nat.lt_or_ge j k with h1 | h1
   ·rw [show j + 1 = k from by omega]
   ·simp only [kY]
    rw [ih h1, if_neg (by rw [h]; simp)]
theorem vB {m xs ys : List Int} {k : Nat} (h : (kY m xs ys k).2 = true) : kY m xs ys (k + 1) = mU (kY m xs ys k).1 (xs.getD k 0) (ys.getD k 0) := by
 simp only [kY]
 rw [if_pos h]
theorem fV {l : List Int} {k : Nat} (hk : k < l.length) : l.getD k 0 = l[k] := by simp [List.getD_eq_getElem?_getD, hk]
theorem uL {t : Int} (h : b8 t = true) : ∃ q : Nat, t = q ∧ q < 20 := by
 have : 0 ≤ t ∧ t ≤ 19 := by simpa [b8, inR] using h
 exact ⟨t.toNat, by omega, by omega⟩
theorem TL {m : List Int} {q : Nat} (hq : q < m.length) (u : Int) : e7 (aB ciL m) (0 + q * 1) [ci u] = aB ciL (m.set q u) :=
 (congrArg (fun o => e7 (aB ciL m) o (ciL u)) (Nat.zero_add _)).trans (iO a7 (by omega) hq _)
set_option maxHeartbeats 1000000 in
theorem IW (m : List Int) (t u : Int) (hm : m.length = 20) : rS Tryz.prog 244 [bE m, ci t, ci u] (cb (mU m t u).2) [bE (mU m t u).1, ci t, ci u] := by
 refine lY mx aJ 3 Tryz.func244 rfl rfl (by omega) ?_
 conv => whnf
 refine ⟨_, eZ t, .inl rfl, .inl ?_⟩
 conv => whnf
 unfold mU
 generalize hv : b8 t = b1
 cases b1 with
 | false =>
  conv => whnf
  refine ⟨rfl, by rw [a6 a7], ?_⟩
  rfl
 | true =>
 obtain ⟨q, rfl, hq⟩ := uL hv
 have hql : q < m.length := by omega
 conv => whnf
 refine ⟨by omega, ?_⟩
 conv => whnf
 refine ⟨_, b7 (k := q) (d := 0) (xs := m) a7 (Nat.zero_add _) hql (Nat.le_refl _) rfl, ?_⟩
 conv => whnf
 rw [if_pos rfl]
 simp only [Int.toNat_natCast, fV hql]
 rw [show unm = -1000 from rfl]
 generalize hb2 : (m[q] == (-1000 : Int)) = b2
 cases b2 with
 | true =>
  conv => whnf
  refine ⟨by omega, ?_⟩
  conv => whnf
  refine ⟨_, b7 (k := q) (d := 0) (xs := m) a7 (Nat.zero_add _) hql (Nat.le_refl _) rfl, _, TL hql u, ?_⟩
  conv => whnf
  refine ⟨by omega, ?_⟩
  conv => whnf
  have hql2 : q < (m.set q u).length := by simpa using hql
  refine ⟨_, b7 (k := q) (d := 0) (xs := m.set q u) a7 (Nat.zero_add _) hql2 (Nat.le_refl _) rfl, ?_⟩
  conv => whnf
  simp only [if_true, fV hql2]
  refine ⟨rfl, by rw [a6 a7, List.length_set], ?_⟩
  unfold bE
  rw [List.length_set]
  rfl
 | false =>
  conv => whnf
  refine ⟨by omega, ?_⟩
  conv => whnf
  refine ⟨_, b7 (k := q) (d := 0) (xs := m) a7 (Nat.zero_add _) hql (Nat.le_refl _) rfl, ?_⟩
  conv => whnf
  simp only [if_neg (show ¬ (false = true) from by simp), fV hql]
  refine ⟨rfl, by rw [a6 a7], ?_⟩
  rfl
def SB (l : List Int) : Prop := ∀ t ∈ l, t < 20
def n4 (a b : aL) (m : List Int) : Option (List Int) :=
 if a.1 != b.1 then none else if (a.2.length : Int) != b.2.length then none else if (kY m a.2 b.2 a.2.length).2 then some (kY m a.2 b.2 a.2.length).1 else none
def tY (ts : List aL) : List aL → List Int → Option (List Int)
 | [], m => some m
 | a :: fs, m => ts.findSome? fun b => (n4 a b m).bind fun x => tY ts fs x
theorem VM {ts fs : List aL} {i : Nat} (hi : i < fs.length) (m : List Int) : tY ts (fs.drop i) m = ts.findSome? fun b => (n4 fs[i] b m).bind fun x => tY ts (fs.drop (i + 1)) x := by
 rw [List.drop_eq_getElem_cons hi]
 rfl
theorem PU {α β : Type} {f : α → Option β} {ts : List α} {k : Nat} (hk : k < ts.length) (h : (ts.take k).findSome? f = none) : (ts.take (k + 1)).findSome? f = f ts[k] := by
 rw [List.take_succ_eq_append_getElem hk, List.findSome?_append, h]
 simp [List.findSome?]
 cases f ts[k] <;> rfl
theorem PT {α β : Type} {f : α → Option β} {ts : List α} {k : Nat} {y : β} (h : (ts.take k).findSome? f = some y) : ts.findSome? f = some y := by
 have : ts = ts.take k ++ ts.drop k := (List.take_append_drop k ts).symm
 rw [this, List.findSome?_append, h]
 rfl
def WY (fs : List aL) : Prop := ∀ a ∈ fs, SB a.2
theorem SE (xs : List Int) : roV (aW xs) = aW xs := by
 show V.ro _ (dM (aB ciL xs)) = _
 rw [cK]
 rfl
theorem FZ {ts : List aL} : ∀ {fs : List aL} {m y : List Int}, tY ts fs m = some y → y.length = m.length
 | [], m, y, h => by simp only [tY, Option.some.injEq] at h; rw [h]
 | a :: fs, m, y, h => by
  simp only [tY] at h
  obtain ⟨b, _, h⟩ := List.exists_of_findSome?_eq_some h
  cases hs : n4 a b m with
  | none => rw [hs] at h; cases h
  | some x =>
   rw [hs] at h
   rw [FZ (m := x) h]
   unfold n4 at hs
   split at hs
   ·cases hs
   ·split at hs
    ·cases hs
    ·split at hs
     ·cases hs
      exact iF _ _ _ _
     ·cases hs
theorem EZ {q : bJ} {v : Int} : iU q v = true ↔ ∃ a ∈ q.2, v ∈ a.2 := by
 simp only [iU, List.any_eq_true, PY, has]
 constructor
 ·rintro ⟨a, ha, w, hw, he⟩
  have : w = v := by simpa [eqV] using he
  exact ⟨a, ha, this ▸ hw⟩
 ·rintro ⟨a, ha, hv⟩
  exact ⟨a, ha, v, hv, by simp [eqV]⟩
def QS (q : bJ) (v : Nat) : Bool := iU q (v : Int) || has q.1 (v : Int)
def pL (q : bJ) (k : Nat) : List Int := ((List.range k).filter (QS q)).map Int.ofNat
def oG (q : bJ) : List Int := pL q 20
theorem PF (q : bJ) (k : Nat) : pL q (k + 1) = if QS q k then pL q k ++ [(k : Int)] else pL q k := by
 unfold pL
 rw [List.range_succ, List.filter_append, List.map_append]
 by_cases h : QS q k = true
 ·simp [h]
 ·simp [h]
theorem GI (q : bJ) (k : Nat) : (pL q k).length ≤ k := by
 unfold pL
 rw [List.length_map]
 exact Nat.le_trans (List.length_filter_le _ _) (by simp)
theorem rY (q : bJ) (h : aC q ≤ 1048576) : bI Tryz.prog 105 [aP q] (bE (oG q)) := by
 have h' := h
 unfold aC dW at h'
 refine aF mx aJ Tryz.func105 rfl ?_
 conv => whnf
 refine ⟨[(1,0),(2,0),(3,0),(6,0)], fun m s => ∃ (k : Nat) (e : Int) (n : Nat) (r : List V), e = k ∧ m + k = 20 ∧ n = (pL q k).length ∧ r = aB ciL (pL q k) ∧
  s = ⟨24, [(1, .ptr 0 0), (2, cG), (3, .own 1 1 0 n n none), (6, ci e)], [some ⟨true, aO q⟩, some ⟨false, r⟩]⟩, 20, ⟨0, 0, 0, _, rfl, rfl, rfl, rfl, rfl⟩, ?_⟩
 rintro m s ⟨k, _, n, _, rfl, hm, rfl, rfl, rfl⟩
 have hvl := GI q k
 have hnx := PF q k
 conv => whnf
 split <;> rename_i h1
 all_goals simp only [decide_eq_true_eq, decide_eq_false_iff_not] at h1
 ·conv => whnf
  refine ⟨_, BQ q k h, .inl rfl, .inl ?_⟩
  conv => whnf
  unfold QS at hnx
  generalize iU q (k : Int) = b1 at hnx
  cases b1 with
  | true =>
   conv => whnf
   refine ⟨_, rfl, .inl ⟨fU rfl, ?_⟩⟩
   conv => whnf
   refine ⟨by omega, a6 a7 _, _, dC _ _, ?_⟩
   conv => whnf
   rw [Bool.true_or, if_pos rfl] at hnx
   refine ⟨m - 1, by omega, k + 1, _, _, _, a8 (by omega) (by omega), by omega, ?_, by rw [hnx], rfl⟩
   rw [hnx, List.length_append]
   rfl
  | false =>
   conv => whnf
   refine ⟨_, mV q.1 k (by omega), .inl rfl, .inl ?_⟩
   conv => whnf
   rw [Bool.false_or] at hnx
   generalize has q.1 (k : Int) = b2 at hnx
   cases b2 with
   | true =>
    conv => whnf
    refine ⟨_, rfl, .inl ⟨fU rfl, ?_⟩⟩
    conv => whnf
    refine ⟨by omega, a6 a7 _, _, dC _ _, ?_⟩
    conv => whnf
    rw [if_pos rfl] at hnx
    refine ⟨m - 1, by omega, k + 1, _, _, _, a8 (by omega) (by omega), by omega, ?_, by rw [hnx], rfl⟩
    rw [hnx, List.length_append]
    rfl
   | false =>
    conv => whnf
    rw [if_neg (by simp)] at hnx
    exact ⟨m - 1, by omega, k + 1, _, _, _, a8 (by omega) (by omega), by omega, by rw [hnx], by rw [hnx], rfl⟩
 ·conv => whnf
  have hkk : k = 20 := by omega
  subst hkk
  refine ⟨by rw [a6 a7], ?_⟩
  rfl
theorem RF (v : Int → Int) : M9 fF v := fun k u h => by cases h
def jS : List Int := List.replicate 20 (-1000)
def GZ (f t : bJ) : Option (List Int) :=
 if (f.1.length : Int) != t.1.length then none else if (kY jS f.1 t.1 f.1.length).2 then tY t.2 f.2 (kY jS f.1 t.1 f.1.length).1 else none
theorem K9 {s : List Int} {q : bJ} (h : aH s q = true) : SB q.1 ∧ WY q.2 := by
 simp only [aH, nW, d5, Bool.and_eq_true, List.all_eq_true] at h
 obtain ⟨_, ⟨h1, _⟩, _, h2, _⟩ := h
 have ht : ∀ t, aU t = true → t < 20 := fun t ht => by
  simp only [aU, inR, Bool.and_eq_true, decide_eq_true_eq] at ht
  omega
 refine ⟨fun t hm => ht t (h1 t hm), fun a ha t hm => ht t ?_⟩
 have := h2 a ha
 simp only [fM, Bool.and_eq_true, List.all_eq_true] at this
 exact this.2 t hm
theorem PQ : jS.length = 20 := List.length_replicate
def gW (s : List Int) (a b : bJ) : Bool := aH s b && aH s a && (GZ b a).isSome
def sM (f t : bJ) (z : V) : V := .fn 245 [.rp (aO f), .rp (aO t), z]
def vP (f t : bJ) (z : V) : Nat → V
 | 0 => z
 | d + 1 => .rp [sM f t (vP f t z d)]
def a2L : Option (List Int) → V
 | none => cG
 | some y => aW y
theorem T3 (o : Option (List Int)) : roV (a2L o) = a2L o := by
 cases o with
 | none => rfl
 | some y => exact SE y
set_option maxHeartbeats 8000000 in
theorem NV (f t : bJ) (z : V) (hf : aC f ≤ 1048576) (ht : aC t ≤ 1048576) (hfa : WY f.2) : ∀ (n i d : Nat) (m : List Int), i + n = f.2.length → n < d → m.length = 20 → bI Tryz.prog 245 [aW m, ci i, .rp (aO f), .rp (aO t), vP f t z d] (a2L (tY t.2 (f.2.drop i) m)) := by
 have hf' := hf
 have ht' := ht
 unfold aC dW at hf' ht'
 intro n
 induction n with
 | zero =>
  intro i d m hi hd hm
  obtain rfl : i = f.2.length := by omega
  rw [List.drop_of_length_le (Nat.le_refl _)]
  refine aF mx aJ Tryz.func245 rfl ?_
  conv => whnf
  refine ⟨_, rfl, ?_⟩
  conv => whnf
  rw [beq_self_eq_true]
  conv => whnf
  rfl
 | succ n ih =>
  intro i d m hi hd hm
  obtain ⟨d, rfl⟩ : ∃ d', d = d' + 2 := ⟨d - 2, by omega⟩
  have hil : i < f.2.length := by omega
  have hb1 := bH (f := b9) hil
  have hcb1 : b9 f.2[i] = f.2[i].2.length := rfl
  have hfi : SB f.2[i].2 := hfa _ (List.getElem_mem hil)
  rw [VM hil]
  generalize ha : f.2[i] = a at hb1 hcb1 hfi
  refine aF mx aJ Tryz.func245 rfl ?_
  rw [show vP f t z (d + 2) = .rp [sM f t (.rp [sM f t (vP f t z d)])] from rfl]
  conv => whnf
  refine ⟨_, rfl, ?_⟩
  conv => whnf
  rw [show ((i : Int) == (f.2.length : Int)) = false from by simp; omega]
  conv => whnf
  refine ⟨_, rfl, ?_⟩
  conv => whnf
  refine ⟨by omega, a6 aA _, ?_⟩
  conv => whnf
  refine ⟨_, aD (k := i) aA hil, ?_⟩
  rw [ha]
  conv => whnf
  refine ⟨_, rfl, ?_⟩
  conv => whnf
  refine ⟨[(0,0),(1,0),(2,0),(3,0),(4,0),(7,0),(8,0),(28,0),(29,0),(30,0)], fun j s => ∃ (k : Nat) (e : Int), e = k ∧ j + k = t.2.length ∧ ((t.2.take k).findSome? fun b => (n4 a b m).bind fun x => tY t.2 (f.2.drop (i + 1)) x) = none ∧
   s = ⟨81, [(0, aW m), (1, ci i), (2, .rp (aO f)), (3, .rp (aO t)), (4, .rp [sM f t (.rp [sM f t (vP f t z d)])]), (7, cG), (8, .ptr 0 0), (28, cE t.2), (29, ci t.2.length), (30, ci e)], [some ⟨true, d7 a⟩]⟩, t.2.length, ⟨0, 0, rfl, rfl, rfl, rfl⟩, ?_⟩
  rintro j s ⟨k, _, rfl, hj, hnone, rfl⟩
  conv => whnf
  split <;> rename_i h3
  all_goals simp only [decide_eq_true_eq, decide_eq_false_iff_not] at h3
  ·conv => whnf
   have hk : k < t.2.length := by omega
   have hb2 := bH (f := b9) hk
   have hcb2 : b9 t.2[k] = t.2[k].2.length := rfl
   have hnx := PU hk hnone
   generalize hbb : t.2[k] = b at hb2 hcb2 hnx
   refine ⟨by omega, a6 aA _, ?_⟩
   conv => whnf
   refine ⟨_, aD (k := k) aA hk, ?_⟩
   rw [hbb]
   conv => whnf
   have hskip : n4 a b m = none → ∃ m', m' < j ∧ ∃ (k' : Nat) (e : Int), e = k' ∧ m' + k' = t.2.length ∧ ((t.2.take k').findSome? fun b => (n4 a b m).bind fun x => tY t.2 (f.2.drop (i + 1)) x) = none ∧ (⟨81, [(0, aW m), (1, ci i), (2, .rp (aO f)), (3, .rp (aO t)), (4, .rp [sM f t (.rp [sM f t (vP f t z d)])]), (7, cG), (8, .ptr 0 0), (28, cE t.2), (29, ci t.2.length), (30, ci (IntKind.i64.wrap ((k : Int) + 1)))], [some ⟨true, d7 a⟩]⟩ : St) = ⟨81, [(0, aW m), (1, ci i), (2, .rp (aO f)), (3, .rp (aO t)), (4, .rp [sM f t (.rp [sM f t (vP f t z d)])]), (7, cG), (8, .ptr 0 0), (28, cE t.2), (29, ci t.2.length), (30, ci e)], [some ⟨true, d7 a⟩]⟩ := by
    intro hs
    rw [hs] at hnx
    exact ⟨j - 1, by omega, k + 1, _, a8 (by omega) (by omega), by omega, hnx, rfl⟩
   generalize hb3 : (a.1 != b.1) = b3
   cases b3 with
   | true =>
    conv => whnf
    exact hskip (by rw [n4, hb3]; rfl)
   | false =>
   conv => whnf
   generalize hb4 : ((a.2.length : Int) != (b.2.length : Int)) = b4
   cases b4 with
   | true =>
    conv => whnf
    exact hskip (by rw [n4, hb3, hb4]; rfl)
   | false =>
   conv => whnf
   have hlen : a.2.length = b.2.length := by
    have h9 : (a.2.length : Int) = b.2.length := (by simpa using hb4)
    omega
   refine ⟨_, jB m (by omega), .inl rfl, .inr ?_⟩
   conv => whnf
   refine ⟨[(0,0),(1,0),(2,0),(3,0),(4,0),(7,0),(8,0),(10,0),(11,0),(12,0),(28,0),(29,0),(30,0),(51,0),(52,0),(53,0)], fun j' s => ∃ (p n20 : Nat) (e : Int) (r : List V) (fl : Bool), e = p ∧ j' + p = a.2.length ∧ n20 = 20 ∧ r = aB ciL (kY m a.2 b.2 p).1 ∧ fl = (kY m a.2 b.2 p).2 ∧
    s = ⟨81, [(0, aW m), (1, ci i), (2, .rp (aO f)), (3, .rp (aO t)), (4, .rp [sM f t (.rp [sM f t (vP f t z d)])]), (7, cG), (8, .ptr 0 0), (10, .ptr 1 0), (11, .own 2 1 0 n20 n20 none), (12, cb fl), (28, cE t.2), (29, ci t.2.length), (30, ci k), (51, aW a.2), (52, ci a.2.length), (53, ci e)], [some ⟨true, d7 a⟩, some ⟨true, d7 b⟩, some ⟨false, r⟩]⟩, a.2.length, ⟨0, m.length, 0, _, true, rfl, rfl, hm, rfl, rfl, rfl⟩, ?_⟩
   rintro j' s ⟨p, n20, _, _, _, rfl, hj', rfl, rfl, rfl, rfl⟩
   have hul : (kY m a.2 b.2 p).1.length = 20 := by rw [iF, hm]
   conv => whnf
   split <;> rename_i h5
   all_goals simp only [decide_eq_true_eq, decide_eq_false_iff_not] at h5
   ·conv => whnf
    have hp : p < a.2.length := by omega
    have hpb : p < b.2.length := by omega
    refine ⟨by omega, a6 a7 _, ?_⟩
    conv => whnf
    refine ⟨_, aD (k := p) a7 hp, ?_⟩
    conv => whnf
    generalize hu : kY m a.2 b.2 p = r at hul
    obtain ⟨M, fl⟩ := r
    simp only at hul ⊢
    cases fl with
    | false =>
     conv => whnf
     have := wT (m := m) (xs := a.2) (ys := b.2) (k := p) (by rw [hu]) (p + 1) (by omega)
     rw [hu] at this
     exact ⟨j' - 1, by omega, p + 1, 20, _, _, _, a8 (by omega) (by omega), by omega, rfl, by rw [this], by rw [this], rfl⟩
    | true =>
     conv => whnf
     have hnx2 := vB (m := m) (xs := a.2) (ys := b.2) (k := p) (by rw [hu])
     rw [hu, fV hp, fV hpb] at hnx2
     simp only at hnx2
     refine ⟨by omega, a6 a7 _, ?_⟩
     conv => whnf
     refine ⟨_, aD (k := p) a7 hpb, ?_⟩
     conv => whnf
     refine .inr (.inl ?_)
     conv => whnf
     refine ⟨by rw [a6 a7, hul], ?_⟩
     conv => whnf
     have hs := IW M a.2[p] b.2[p] hul
     unfold bE at hs
     rw [AI, hul] at hs
     refine ⟨_, _, _, hs, ?_⟩
     conv => whnf
     refine .inl ?_
     conv => whnf
     exact ⟨j' - 1, by omega, p + 1, 20, _, _, _, a8 (by omega) (by omega), by omega, rfl, by rw [hnx2], by rw [hnx2], rfl⟩
   ·conv => whnf
    have hpp : p = a.2.length := by omega
    subst hpp
    generalize hu : kY m a.2 b.2 a.2.length = r at hul
    obtain ⟨x, ok⟩ := r
    simp only at hul ⊢
    have hst : n4 a b m = if ok then some x else none := by rw [n4, hb3, hb4, hu]; rfl
    cases ok with
    | false =>
     conv => whnf
     exact hskip (by rw [hst]; rfl)
    | true =>
    conv => whnf
    refine ⟨_, rfl, ?_⟩
    conv => whnf
    rw [show IntKind.i64.wrap ((i : Int) + 1) = ((i + 1 : Nat) : Int) from a8 (by omega) (by omega)]
    refine .inr (.inr (.inl ⟨[2], rfl, ?_⟩))
    conv => whnf
    refine ⟨_, _, aN (by rw [a6 a7, hul]), cK _, ?_⟩
    conv => whnf
    have hq := ih (i + 1) (d + 1) x (by omega) (by omega) hul
    unfold aW at hq
    rw [hul] at hq
    refine ⟨_, hq, _, rfl, .inl ?_⟩
    rw [T3]
    rw [hst, if_pos rfl] at hnx
    simp only [Option.bind_some] at hnx
    generalize hso : tY t.2 (f.2.drop (i + 1)) x = o at hnx
    cases o with
    | some y =>
     have hyl := FZ hso
     conv => whnf
     refine ⟨fun h0 => ?_, ?_⟩
     ·have h7 : y.length * 1 = 0 := (a6 a7 y).symm.trans (congrArg List.length h0)
      omega
     conv => whnf
     rw [PT hnx]
     rfl
    | none =>
     conv => whnf
     exact ⟨j - 1, by omega, k + 1, _, a8 (by omega) (by omega), by omega, hnx, rfl⟩
  ·conv => whnf
   have hkk : k = t.2.length := by omega
   rw [hkk, List.take_length] at hnone
   rw [hnone]
   exact .inl rfl
end Go.Proofs.YtboolngaahifdaaGreatD
