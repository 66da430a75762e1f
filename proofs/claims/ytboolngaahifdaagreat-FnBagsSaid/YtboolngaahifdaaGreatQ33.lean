/- Contracts and plain laws of this seat; no condition. -/
import Derived.Test.YtboolngaahifdaaGreatQ32
import Derived.Test.YtboolngaahifdaaGreatQ17
import Derived.Test.YtboolngaahifdaaGreatQ29
set_option linter.unusedVariables false
set_option linter.unusedSimpArgs false
set_option maxRecDepth 100000
namespace Go.Proofs.YtboolngaahifdaaGreatD
open Go Go.Proofs
def jG (o : Option bA) (y : bA) : Option bA := match o with
 | none => some y
 | some b => if ltI (bO y) (bO b) then some y else some b
def nC (h : List Int) : Nat → List aL → List aL → Option bA → Option bA
 | 0, body, _, o => jG o (nmQ (h, body))
 | n + 1, body, left, o => (List.range left.length).foldl (fun o i => nC h n (body ++ [left.getD i (0, [])]) (left.eraseIdx i) o) o
def fG (q : bA) : bA := (nC q.1 q.2.length [] q.2 none).getD ([], [])
theorem JN (o : Option bA) (y : bA) : ∃ z, jG o y = some z := by
 unfold jG
 split
 ·exact ⟨_, rfl⟩
 ·split <;> exact ⟨_, rfl⟩
theorem wS (h : List Int) : ∀ (n : Nat) (body left : List aL) (b : bA), ∃ z, nC h n body left (some b) = some z
 | 0, body, left, b => JN _ _
 | n + 1, body, left, b => by
  simp only [nC]
  generalize List.range left.length = l
  induction l generalizing b with
  | nil => exact ⟨b, rfl⟩
  | cons i l ih =>
   rw [List.foldl_cons]
   obtain ⟨z, hz⟩ := wS h n (body ++ [left.getD i (0, [])]) (left.eraseIdx i) b
   rw [hz]
   exact ih z
theorem SM (xs : List Int) : ltI xs xs = false := rM.irr xs
theorem rN (h : List Int) : ∀ (n : Nat) (body left : List aL), left.length = n → nC h n body left none = nC h n body left (some (nmQ (h, body ++ left)))
 | 0, body, left, hl => by
  have : left = [] := List.length_eq_zero_iff.1 hl
  subst this
  simp only [nC, List.append_nil, jG, SM, Bool.false_eq_true, if_false]
 | n + 1, body, a :: left, hl => by
  simp only [List.length_cons, Nat.add_right_cancel_iff] at hl
  have e : List.range (a :: left).length = 0 :: (List.range left.length).map (· + 1) := by
   rw [List.length_cons, List.range_succ_eq_map]
  simp only [nC, e, List.foldl_cons]
  have e0 : (a :: left).getD 0 (0, []) = a := rfl
  have e1 : (a :: left).eraseIdx 0 = left := rfl
  rw [e0, e1, rN h n (body ++ [a]) left hl, List.append_assoc]
  rfl
def dJ : List aL → List Bool → List aL
 | a :: r, u :: us => if u then dJ r us else a :: dJ r us
 | _, _ => []
def rO (q : bA) : Nat → List Bool → List aL → Option bA → Option bA
 | 0, _, body, o => jG o (nmQ (q.1, body))
 | n + 1, used, body, o => (List.range q.2.length).foldl (fun o i => if used.getD i false then o else rO q n (used.set i true) (body ++ [q.2.getD i (0, [])]) o) o
theorem wV : ∀ (xs : List aL) (us : List Bool), us.length = xs.length → (dJ xs us).length + (us.filter id).length = xs.length
 | [], [], _ => rfl
 | [], _ :: _, h => by cases h
 | _ :: _, [], h => by cases h
 | a :: r, u :: us, h => by
  have ih := wV r us (by simpa using h)
  cases u with
  | true => simp [dJ] at ih ⊢; omega
  | false => simp [dJ] at ih ⊢; omega
theorem BH (f : Option bA → aL → List aL → Option bA) (g : Option bA → Nat → Option bA) : ∀ (xs pre : List aL) (us upre : List Bool), us.length = xs.length → upre.length = pre.length →
  (∀ (i : Nat) (o : Option bA), i < xs.length → us.getD i false = false → g o (pre.length + i) = f o (xs.getD i (0, [])) (dJ (pre ++ xs) ((upre ++ us).set (pre.length + i) true))) →
  ∀ o, (List.range xs.length).foldl (fun o i => if us.getD i false then o else g o (pre.length + i)) o =
   (List.range (dJ xs us).length).foldl (fun o j => f o ((dJ xs us).getD j (0, [])) (dJ pre upre ++ (dJ xs us).eraseIdx j)) o
 | [], pre, us, upre, _, _, _, o => rfl
 | a :: r, pre, [], upre, h, _, _, o => by cases h
 | a :: r, pre, u :: us, upre, hl, hp, hg, o => by
  have hl' : us.length = r.length := by simpa using hl
  have un_app : ∀ (p : List aL) (up : List Bool) (s : List aL) (v : List Bool), up.length = p.length → dJ (p ++ s) (up ++ v) = dJ p up ++ dJ s v := by
   intro p
   induction p with
   | nil => intro up s v h; have : up = [] := List.length_eq_zero_iff.1 (by simpa using h); subst this; rfl
   | cons x p ih =>
    intro up s v h
    cases up with
    | nil => cases h
    | cons w up =>
     have := ih up s v (by simpa using h)
     cases w <;> simp [dJ, this]
  have ih := fun o => BH f g r (pre ++ [a]) us (upre ++ [u]) hl' (by simp [hp]) (fun i o hi hu => by
   have := hg (i + 1) o (by simpa using hi) (by simpa using hu)
   rw [List.length_append, List.length_cons, List.length_nil, show pre.length + (0 + 1) + i = pre.length + (i + 1) from by omega, this]
   simp [List.append_assoc]) o
  rw [List.length_cons, List.range_succ_eq_map, List.foldl_cons, List.foldl_map]
  have e2 : ∀ o, (List.range r.length).foldl (fun o i => if (u :: us).getD (i + 1) false = true then o else g o (pre.length + (i + 1))) o = (List.range r.length).foldl (fun o i => if us.getD i false = true then o else g o ((pre ++ [a]).length + i)) o := by
   intro o
   congr 1
   funext o i
   rw [List.length_append, List.length_cons, List.length_nil, show pre.length + (0 + 1) + i = pre.length + (i + 1) from by omega]
   rfl
  have ih2 := fun o => (e2 o).trans (ih o)
  cases u with
  | true =>
   simp only [List.getD_cons_zero, if_true]
   refine (ih2 o).trans ?_
   have e3 : dJ (pre ++ [a]) (upre ++ [true]) = dJ pre upre := by rw [un_app _ _ _ _ hp]; simp [dJ]
   simp only [dJ, if_true, e3]
  | false =>
   simp only [List.getD_cons_zero, Bool.false_eq_true, if_false]
   have h0 := hg 0 o (by simp) rfl
   simp only [Nat.add_zero, List.getD_cons_zero] at h0 ⊢
   rw [h0]
   have e4 : dJ (pre ++ a :: r) ((upre ++ false :: us).set pre.length true) = dJ pre upre ++ dJ r us := by
    rw [List.set_append_right _ _ (by omega), hp, Nat.sub_self, List.set_cons_zero, un_app _ _ _ _ hp]
    simp [dJ]
   rw [e4]
   refine (ih2 _).trans ?_
   have e5 : dJ (pre ++ [a]) (upre ++ [false]) = dJ pre upre ++ [a] := by rw [un_app _ _ _ _ hp]; simp [dJ]
   have e6 : dJ (a :: r) (false :: us) = a :: dJ r us := rfl
   rw [e6, List.length_cons, List.range_succ_eq_map, List.foldl_cons, List.foldl_map]
   simp only [List.getD_cons_zero, List.eraseIdx_cons_zero, e5]
   congr 1
   funext o j
   simp [List.append_assoc]
theorem TT (q : bA) : ∀ (n : Nat) (used : List Bool) (body : List aL) (o : Option bA), used.length = q.2.length → (dJ q.2 used).length = n → rO q n used body o = nC q.1 n body (dJ q.2 used) o
 | 0, used, body, o, _, _ => rfl
 | n + 1, used, body, o, hl, hn => by
  simp only [rO, nC]
  have key := BH (fun o a left => nC q.1 n (body ++ [a]) left o) (fun o i => rO q n (used.set i true) (body ++ [q.2.getD i (0, [])]) o) q.2 [] used [] hl rfl (fun i o hi hu => by
   simp only [List.length_nil, Nat.zero_add, List.nil_append]
   have hus : (dJ q.2 (used.set i true)).length = n := by
    have h1 := wV q.2 used hl
    have h2 := wV q.2 (used.set i true) (by rw [List.length_set]; exact hl)
    have h3 : ∀ (us : List Bool) (i : Nat), i < us.length → us.getD i false = false → ((us.set i true).filter id).length = (us.filter id).length + 1 := by
     intro us
     induction us with
     | nil => intro i hi; cases hi
     | cons u us ih =>
      intro i hi hu
      cases i with
      | zero =>
       simp at hu
       subst hu
       simp
      | succ i =>
       have := ih i (by simpa using hi) (by simpa using hu)
       cases u <;> simp [this] <;> simp at this <;> omega
    have h4 := h3 used i (by omega) hu
    omega
   exact TT q n (used.set i true) (body ++ [q.2.getD i (0, [])]) o (by rw [List.length_set]; exact hl) hus) o
  simpa [dJ] using key
theorem EW (x : Int) (m : List (Int × Int)) (hm : m.length ≤ 1099511627776) : SpecG Tryz.prog 240 [ci x, .ptr 0 0] [some ⟨true, [.mref 1]⟩, some ⟨true, [.bp (kI m)]⟩] fun r g2 => r = ci (nm m x).1 ∧ g2 = [some ⟨true, [.mref 1]⟩, some ⟨true, [.bp (kI (nm m x).2)]⟩] := by
 refine cU mx aJ 2 Tryz.func240 rfl rfl (by decide) ?_
 conv => whnf
 refine ⟨_, eZ x, .inl rfl, .inl ?_⟩
 conv => whnf
 unfold nm
 generalize b8 x = b1
 cases b1 with
 | false =>
  conv => whnf
  refine ⟨[], ?_⟩
  conv => whnf
  exact ⟨rfl, rfl⟩
 | true =>
  conv => whnf
  refine ⟨m, rfl, ?_⟩
  conv => whnf
  generalize tA m x = o
  cases o with
  | some n =>
   conv => whnf
   refine ⟨[], ?_⟩
   conv => whnf
   exact ⟨rfl, rfl⟩
  | none =>
   conv => whnf
   refine ⟨m, rfl, ?_⟩
   conv => whnf
   refine ⟨m, rfl, _, rfl, ?_⟩
   conv => whnf
   refine ⟨[], ?_⟩
   conv => whnf
   exact ⟨rfl, rfl⟩
def fnN : V := .fn 240 [.ptr 0 0]
def jA (xs : List Int) (m : List (Int × Int)) (k : Nat) : List Int := (nmL (xs.take k) m).1 ++ xs.drop k
def mB (xs : List Int) (m : List (Int × Int)) (k : Nat) : List (Int × Int) := (nmL (xs.take k) m).2
theorem DI (xs : List Int) (m : List (Int × Int)) (k : Nat) : (jA xs m k).length = xs.length := by
 simp only [jA, List.length_append, xW, List.length_take, List.length_drop]; omega
theorem HU (xs : List Int) (m : List (Int × Int)) : jA xs m 0 = xs := by simp [jA, nmL]
theorem MJ {xs : List Int} (m : List (Int × Int)) {k : Nat} (h : xs.length ≤ k) : jA xs m k = (nmL xs m).1 := by
 rw [jA, List.take_of_length_le h, List.drop_eq_nil_of_le h, List.append_nil]
theorem RW {xs : List Int} (m : List (Int × Int)) {k : Nat} (hk : k < xs.length) (h : k < (jA xs m k).length) : (jA xs m k)[k] = xs[k] := by
 have hl : (nmL (xs.take k) m).1.length = k := by rw [xW, List.length_take]; omega
 have : (jA xs m k)[k]? = some xs[k] := by
  rw [jA, List.getElem?_append_right (by omega), hl, Nat.sub_self, List.getElem?_drop, Nat.add_zero, List.getElem?_eq_getElem hk]
 rw [List.getElem?_eq_getElem h] at this
 exact Option.some.inj this
theorem O1 {xs : List Int} (m : List (Int × Int)) {k : Nat} (hk : k < xs.length) : nmL (xs.take (k + 1)) m = ((nmL (xs.take k) m).1 ++ [(nm (mB xs m k) xs[k]).1], (nm (mB xs m k) xs[k]).2) := by
 rw [List.take_succ_eq_append_getElem hk, SY]
 rfl
theorem MK {xs : List Int} (m : List (Int × Int)) {k : Nat} (hk : k < xs.length) : (jA xs m k).set k (nm (mB xs m k) xs[k]).1 = jA xs m (k + 1) := by
 have hl : (nmL (xs.take k) m).1.length = k := by rw [xW, List.length_take]; omega
 unfold jA
 rw [List.set_append_right _ _ (by omega), hl, Nat.sub_self, List.drop_eq_getElem_cons hk, List.set_cons_zero, O1 m hk, List.append_assoc]
 rfl
theorem ID {xs : List Int} (m : List (Int × Int)) {k : Nat} (hk : k < xs.length) : (nm (mB xs m k) xs[k]).2 = mB xs m (k + 1) := by
 unfold mB
 rw [O1 m hk]
 rfl
theorem IE (xs : List Int) (m : List (Int × Int)) : mB xs m 0 = m := by simp [mB, nmL]
theorem NT {xs : List Int} (m : List (Int × Int)) {k : Nat} (h : xs.length ≤ k) : mB xs m k = (nmL xs m).2 := by rw [mB, List.take_of_length_le h]
def pC (xs : List aL) (m : List (Int × Int)) (k : Nat) : List aL := (nmA (xs.take k) m).1 ++ xs.drop k
def jD (xs : List aL) (m : List (Int × Int)) (k : Nat) : List (Int × Int) := (nmA (xs.take k) m).2
theorem DH (xs : List aL) (m : List (Int × Int)) (k : Nat) : (pC xs m k).length = xs.length := by
 simp only [pC, List.length_append, uU, List.length_take, List.length_drop]; omega
theorem UB (xs : List aL) (m : List (Int × Int)) : pC xs m 0 = xs := by simp [pC, nmA]
theorem UU (xs : List aL) (m : List (Int × Int)) : jD xs m 0 = m := by simp [jD, nmA]
theorem WK {xs : List aL} (m : List (Int × Int)) {k : Nat} (h : xs.length ≤ k) : pC xs m k = (nmA xs m).1 := by
 rw [pC, List.take_of_length_le h, List.drop_eq_nil_of_le h, List.append_nil]
theorem JR {xs : List aL} (m : List (Int × Int)) {k : Nat} (hk : k < xs.length) (h : k < (pC xs m k).length) : (pC xs m k)[k] = xs[k] := by
 have hl : (nmA (xs.take k) m).1.length = k := by rw [uU, List.length_take]; omega
 have : (pC xs m k)[k]? = some xs[k] := by
  rw [pC, List.getElem?_append_right (by omega), hl, Nat.sub_self, List.getElem?_drop, Nat.add_zero, List.getElem?_eq_getElem hk]
 rw [List.getElem?_eq_getElem h] at this
 exact Option.some.inj this
theorem O0 {xs : List aL} (m : List (Int × Int)) {k : Nat} (hk : k < xs.length) : nmA (xs.take (k + 1)) m = ((nmA (xs.take k) m).1 ++ [(xs[k].1, (nmL xs[k].2 (jD xs m k)).1)], (nmL xs[k].2 (jD xs m k)).2) := by
 rw [List.take_succ_eq_append_getElem hk, SX]
 rfl
def kK (xs : List aL) (m : List (Int × Int)) (k : Nat) (x : aL) (j : Nat) : List aL := (pC xs m k).set k (x.1, jA x.2 (jD xs m k) j)
theorem U8 (xs : List aL) (m : List (Int × Int)) (k : Nat) (x : aL) (j : Nat) : (kK xs m k x j).length = xs.length := by rw [kK, List.length_set, DH]
theorem PJ {xs : List aL} (m : List (Int × Int)) {k : Nat} (hk : k < xs.length) : kK xs m k xs[k] 0 = pC xs m k := by
 rw [kK, HU]
 have hk' : k < (pC xs m k).length := by rw [DH]; exact hk
 have := JR m hk hk'
 rw [show (xs[k].1, xs[k].2) = xs[k] from rfl, ← this, List.set_getElem_self]
theorem U7 {xs : List aL} (m : List (Int × Int)) {k j : Nat} (hk : k < xs.length) (hj : xs[k].2.length ≤ j) : kK xs m k xs[k] j = pC xs m (k + 1) := by
 have hl : (nmA (xs.take k) m).1.length = k := by rw [uU, List.length_take]; omega
 rw [kK, MJ _ hj]
 unfold pC
 rw [List.set_append_right _ _ (by omega), hl, Nat.sub_self, List.drop_eq_getElem_cons hk, List.set_cons_zero, O0 m hk, List.append_assoc]
 rfl
theorem XV {xs : List aL} (m : List (Int × Int)) {k j : Nat} (hk : k < xs.length) (hj : xs[k].2.length ≤ j) : mB xs[k].2 (jD xs m k) j = jD xs m (k + 1) := by
 rw [NT _ hj]
 conv => rhs; unfold jD
 rw [O0 m hk]
theorem MG {xs : List aL} (m : List (Int × Int)) {k j : Nat} (x : aL) (hk : k < xs.length) (h : k < (kK xs m k x j).length) : (kK xs m k x j)[k] = (x.1, jA x.2 (jD xs m k) j) := by
 simp only [kK, List.getElem_set_self]
theorem U9 (xs : List aL) (m : List (Int × Int)) (k : Nat) (x : aL) (j i : Nat) : (kK xs m k x j).set k (x.1, jA x.2 (jD xs m k) i) = kK xs m k x i := by
 rw [kK, List.set_set]
 rfl
theorem QK (m : List (Int × Int)) (x : Int) : (nm m x).2.length ≤ m.length + 1 := by
 have key : ∀ (m : List (Int × Int)) (x y : Int), (wO m x y).length ≤ m.length + 1 := by
  intro m x y
  induction m with
  | nil => simp [wO]
  | cons p r ih =>
   obtain ⟨a, b⟩ := p
   simp only [wO]
   cases (a == x) with
   | true => simp
   | false => simp only [cond_false, List.length_cons]; omega
 unfold nm
 split
 ·split
  ·exact Nat.le_succ _
  ·exact key _ _ _
 ·exact Nat.le_succ _
theorem mC : ∀ (xs : List Int) (m : List (Int × Int)), (nmL xs m).2.length ≤ m.length + xs.length
 | [], m => Nat.le_refl _
 | x :: xs, m => by
  have h1 := mC xs (nm m x).2
  have h2 := QK m x
  simp only [nmL, List.length_cons]
  omega
theorem BM : ∀ (xs : List aL) (m : List (Int × Int)), (nmA xs m).2.length ≤ m.length + bS b9 xs
 | [], m => Nat.le_refl _
 | a :: xs, m => by
  have h1 := BM xs (nmL a.2 m).2
  have h2 := mC a.2 m
  have h3 : b9 a = a.2.length := rfl
  simp only [nmA, bS]
  omega
theorem wR {α : Type} (f : α → Nat) : ∀ (xs : List α) (k : Nat), bS f (xs.take k) ≤ bS f xs
 | [], k => by simp [bS]
 | x :: xs, 0 => by simp [bS]
 | x :: xs, k + 1 => by
  have := wR f xs k
  simp only [List.take_succ_cons, bS]
  omega
set_option maxHeartbeats 8000000 in
theorem GP (x0 : bT) (h0 : aC x0 ≤ 1048576) : SpecG Tryz.prog 241 [aP x0, fnN] [some ⟨true, [.mref 1]⟩, some ⟨true, [.bp (kI [])]⟩] fun r g2 => r = cC (nmQ x0) ∧ ∃ m, g2 = [some ⟨true, [.mref 1]⟩, some ⟨true, [.bp (kI m)]⟩] := by
 have h0' := h0
 unfold aC dW at h0'
 refine cU mx aJ 2 Tryz.func241 rfl rfl (by decide) ?_
 conv => whnf
 refine ⟨_, DP x0 (by omega), .inl rfl, .inr ?_⟩
 conv => whnf
 refine ⟨[(1,0),(4,0),(5,0),(15,0),(16,0),(17,0)], fun m s => ∃ (k : Nat) (e : Int) (r : List V) (mm : List (Int × Int)), e = k ∧ m + k = x0.1.length ∧ r = aB ciL (jA x0.1 [] k) ∧ mm = mB x0.1 [] k ∧
  s = ⟨55, [(1, fnN), (4, .ptr 2 0), (5, .ptr 3 0), (15, .own 4 1 0 x0.1.length x0.1.length none), (16, ci x0.1.length), (17, ci e)], [some ⟨true, [.mref 1]⟩, some ⟨true, [.bp (kI mm)]⟩, some ⟨true, [cG, cG]⟩, some ⟨true, [.own 4 1 0 x0.1.length x0.1.length none, .own 5 2 0 x0.2.length x0.2.length none]⟩, some ⟨false, r⟩, some ⟨false, aB bY x0.2⟩]⟩, x0.1.length,
  ⟨0, 0, aB ciL x0.1, [], rfl, rfl, by rw [HU], by rw [IE], by kernel_rfl⟩, ?_⟩
 rintro m s ⟨k, _, _, mm, rfl, hm, rfl, rfl, rfl⟩
 conv => whnf
 split <;> rename_i h1
 all_goals simp only [decide_eq_true_eq, decide_eq_false_iff_not] at h1
 ·conv => whnf
  have hk : k < x0.1.length := by omega
  have hk' : k < (jA x0.1 [] k).length := by rw [DI]; exact hk
  have hml : (mB x0.1 [] k).length ≤ 1099511627776 := by
   have := mC (x0.1.take k) []
   rw [List.length_take] at this
   unfold mB
   simp only [List.length_nil] at this
   omega
  refine ⟨by omega, ?_⟩
  conv => whnf
  refine ⟨_, b7 (k := k) (d := 0) (m := 1) (xs := jA x0.1 [] k) a7 (Nat.zero_add _) hk' (by omega) rfl, ?_⟩
  rw [RW _ hk hk']
  conv => whnf
  refine ⟨[1001, 2000, 2001, 0, 1, 2, 3, 4, 5, 6, 7, 1000, 1000], by kernel_rfl, ?_⟩
  conv => whnf
  refine .inr (.inr ⟨[0, 1], eC (by kernel_rfl), rfl, ?_⟩)
  conv => whnf
  refine ⟨_, EW x0.1[k] (mB x0.1 [] k) hml, fun r g2 hP => ?_⟩
  obtain ⟨rfl, rfl⟩ := hP
  refine .inl ?_
  conv => whnf
  refine ⟨by omega, ?_⟩
  conv => whnf
  refine ⟨_, b7 (k := k) (d := 0) (m := 1) (xs := jA x0.1 [] k) a7 (Nat.zero_add _) hk' (by omega) rfl, _, (congrArg (fun o => e7 (aB ciL (jA x0.1 [] k)) o (ciL (nm (mB x0.1 [] k) x0.1[k]).1)) (Nat.zero_add _)).trans (iO a7 (by omega) hk' _), ?_⟩
  conv => whnf
  refine ⟨m - 1, by omega, k + 1, IntKind.i64.wrap ((k : Int) + 1), aB ciL ((jA x0.1 [] k).set k (nm (mB x0.1 [] k) x0.1[k]).1), (nm (mB x0.1 [] k) x0.1[k]).2, a8 (by omega) (by omega), by omega, ?_, ID [] hk, by kernel_rfl⟩
  rw [MK _ hk]
 ·conv => whnf
  rw [MJ _ (by omega), NT _ (by omega)]
  have hm0 := mC x0.1 []
  have hQ : nmQ x0 = ((nmL x0.1 []).1, (nmA x0.2 (nmL x0.1 []).2).1) := rfl
  have hH : (nmL x0.1 []).1.length = x0.1.length := xW _ _
  generalize (nmL x0.1 []).2 = M at hm0 hQ ⊢
  generalize (nmL x0.1 []).1 = H at hQ hH ⊢
  simp only [List.length_nil, Nat.zero_add] at hm0
  refine ⟨[(1,0),(4,0),(5,0),(31,0),(32,0),(33,0)], fun m s => ∃ (k : Nat) (e : Int) (r : List V) (mm : List (Int × Int)), e = k ∧ m + k = x0.2.length ∧ r = aB bY (pC x0.2 M k) ∧ mm = jD x0.2 M k ∧
   s = ⟨55, [(1, fnN), (4, .ptr 2 0), (5, .ptr 3 0), (31, .own 4 2 0 x0.2.length x0.2.length none), (32, ci x0.2.length), (33, ci e)], [some ⟨true, [.mref 1]⟩, some ⟨true, [.bp (kI mm)]⟩, some ⟨true, [cG, cG]⟩, some ⟨true, [.own 5 1 0 x0.1.length x0.1.length none, .own 4 2 0 x0.2.length x0.2.length none]⟩, some ⟨false, r⟩, some ⟨false, aB ciL H⟩]⟩, x0.2.length,
   ⟨0, 0, aB bY x0.2, M, rfl, rfl, by rw [UB], by rw [UU], by kernel_rfl⟩, ?_⟩
  rintro m1 s ⟨k, _, _, mm, rfl, hm1, rfl, rfl, rfl⟩
  conv => whnf
  split <;> rename_i h2
  all_goals simp only [decide_eq_true_eq, decide_eq_false_iff_not] at h2
  ·conv => whnf
   have hk : k < x0.2.length := by omega
   have hk' : k < (pC x0.2 M k).length := by rw [DH]; exact hk
   have hb := bH (f := b9) hk
   have hcb : b9 x0.2[k] = x0.2[k].2.length := rfl
   have hMk : (jD x0.2 M k).length ≤ 2097152 := by
    have h4 := BM (x0.2.take k) M
    have h5 := wR b9 x0.2 k
    unfold jD
    omega
   refine ⟨by omega, ?_⟩
   conv => whnf
   refine ⟨_, b7 (k := k) (d := 0) (m := 2) (xs := pC x0.2 M k) aK (Nat.zero_add _) hk' (by omega) rfl, ?_⟩
   rw [JR _ hk hk']
   conv => whnf
   have hc0 : (aB bY (pC x0.2 M k))[0 + k * 2 + 1]? = some (bE x0.2[k].2) := eP aK (k := k) (d := 1) (by omega) hk' (by rw [JR _ hk hk']; rfl)
   have hlen : ∀ (st : St) (v : V), st.ob 4 = some ⟨false, aB bY (pC x0.2 M k)⟩ → v = .sub 4 (0 + k * 2 + 1) → GY st v = some x0.2[k].2.length := by
    rintro st v h rfl
    simp only [GY, h, hc0, bE]
   rw [hlen]
   rotate_left
   ·rfl
   ·rfl
   conv => whnf
   refine ⟨[(1,0),(4,0),(5,0),(9,0),(31,0),(32,0),(33,0),(38,0),(39,0),(40,0)], fun m s => ∃ (j : Nat) (e : Int) (o : Nat) (r : List V) (mm : List (Int × Int)), e = j ∧ m + j = x0.2[k].2.length ∧ o = k * 2 + 1 ∧ r = aB bY (kK x0.2 M k x0.2[k] j) ∧ mm = mB x0.2[k].2 (jD x0.2 M k) j ∧
    s = ⟨55, [(1, fnN), (4, .ptr 2 0), (5, .ptr 3 0), (9, .ptr 4 0), (31, .own 5 2 0 x0.2.length x0.2.length none), (32, ci x0.2.length), (33, ci k), (38, .sub 5 o), (39, ci x0.2[k].2.length), (40, ci e)], [some ⟨true, [.mref 1]⟩, some ⟨true, [.bp (kI mm)]⟩, some ⟨true, [cG, cG]⟩, some ⟨true, [.own 6 1 0 x0.1.length x0.1.length none, .own 5 2 0 x0.2.length x0.2.length none]⟩, some ⟨true, [ci x0.2[k].1, .sub 5 o]⟩, some ⟨false, r⟩, some ⟨false, aB ciL H⟩]⟩, x0.2[k].2.length,
    ⟨0, 0, 0 + k * 2 + 1, aB bY (pC x0.2 M k), jD x0.2 M k, rfl, rfl, by omega, by rw [PJ _ hk], by rw [IE], by kernel_rfl⟩, ?_⟩
   rintro m2 s ⟨j, _, o, _, mm, rfl, hm2, ho, rfl, rfl, rfl⟩
   have hkb : k < (kK x0.2 M k x0.2[k] j).length := by rw [U8]; exact hk
   have hcell : (aB bY (kK x0.2 M k x0.2[k] j))[o]? = some (V.tr 1 (jA x0.2[k].2 (jD x0.2 M k) j).length (aB ciL (jA x0.2[k].2 (jD x0.2 M k) j))) := eP aK (k := k) (d := 1) (by omega) hkb (by rw [MG _ _ hk hkb]; rfl)
   conv => whnf
   split <;> rename_i h3
   all_goals simp only [decide_eq_true_eq, decide_eq_false_iff_not] at h3
   ·conv => whnf
    have hj : j < x0.2[k].2.length := by omega
    have hj' : j < (jA x0.2[k].2 (jD x0.2 M k) j).length := by rw [DI]; exact hj
    have hml : (mB x0.2[k].2 (jD x0.2 M k) j).length ≤ 1099511627776 := by
     have h6 := mC (x0.2[k].2.take j) (jD x0.2 M k)
     rw [List.length_take] at h6
     unfold mB
     omega
    refine ⟨_, _, hcell, ⟨by omega, by omega⟩, ?_⟩
    conv => whnf
    refine ⟨_, _, _, _, hcell, b7 (k := j) (d := 0) (m := 1) (xs := jA x0.2[k].2 (jD x0.2 M k) j) a7 rfl hj' (by omega) rfl, fU rfl, ?_⟩
    rw [RW _ hj hj']
    conv => whnf
    refine ⟨[1001, 2000, 2001, 0, 1, 2, 3, 4, 5, 6, 7, 1000, 1000], by kernel_rfl, ?_⟩
    conv => whnf
    refine .inr (.inr ⟨[0, 1], eC (by kernel_rfl), rfl, ?_⟩)
    conv => whnf
    refine ⟨_, EW x0.2[k].2[j] (mB x0.2[k].2 (jD x0.2 M k) j) hml, fun r g2 hP => ?_⟩
    obtain ⟨rfl, rfl⟩ := hP
    refine .inl ?_
    conv => whnf
    refine ⟨_, _, hcell, ⟨by omega, by omega⟩, ?_⟩
    conv => whnf
    have hset : (aB bY (kK x0.2 M k x0.2[k] j)).set o (V.tr 1 (jA x0.2[k].2 (jD x0.2 M k) j).length (e7 (aB ciL (jA x0.2[k].2 (jD x0.2 M k) j)) (j * 1) [ci (nm (mB x0.2[k].2 (jD x0.2 M k) j) x0.2[k].2[j]).1])) = aB bY (kK x0.2 M k x0.2[k] (j + 1)) := by
     have h5 : e7 (aB ciL (jA x0.2[k].2 (jD x0.2 M k) j)) (j * 1) [ci (nm (mB x0.2[k].2 (jD x0.2 M k) j) x0.2[k].2[j]).1] = aB ciL (jA x0.2[k].2 (jD x0.2 M k) (j + 1)) := by
      rw [← MK _ hj]
      exact iO a7 (by omega) hj' _
     rw [h5, yJ (y := (x0.2[k].1, jA x0.2[k].2 (jD x0.2 M k) (j + 1))) aK (k := k) (d := 1) (by omega) hkb ?_ (by omega), U9]
     rw [MG _ _ hk hkb]
     simp only [bY, bE, DI]
     rfl
    refine ⟨_, _, _, _, hcell, b7 (k := j) (d := 0) (m := 1) (xs := jA x0.2[k].2 (jD x0.2 M k) j) a7 rfl hj' (by omega) rfl, _, hset, ?_⟩
    conv => whnf
    exact ⟨m2 - 1, by omega, j + 1, IntKind.i64.wrap ((j : Int) + 1), o, aB bY (kK x0.2 M k x0.2[k] (j + 1)), (nm (mB x0.2[k].2 (jD x0.2 M k) j) x0.2[k].2[j]).2, a8 (by omega) (by omega), by omega, ho, rfl, ID _ hj, by kernel_rfl⟩
   ·conv => whnf
    refine ⟨m1 - 1, by omega, k + 1, IntKind.i64.wrap ((k : Int) + 1), aB bY (kK x0.2 M k x0.2[k] j), mB x0.2[k].2 (jD x0.2 M k) j, a8 (by omega) (by omega), by omega, ?_, ?_, by kernel_rfl⟩
    ·rw [U7 _ hk (by omega)]
    ·exact XV _ hk (by omega)
  ·conv => whnf
   rw [WK _ (by omega)]
   refine ⟨[], ?_⟩
   conv => whnf
   refine ⟨by rw [a6 a7, hH], by rw [a6 aK, uU], ?_⟩
   conv => whnf
   refine ⟨?_, _, rfl⟩
   rw [hQ]
   have e : cC (H, (nmA x0.2 M).1) = .agg [.tr 1 x0.1.length (aB ciL H), .tr 2 x0.2.length (aB bY (nmA x0.2 M).1)] := by
    simp only [cC, AN, wW, bE, uU, hH]
   rw [e]
theorem mQ (x0 : bT) (h0 : aC x0 ≤ 1048576) : bI Tryz.prog 219 [aP x0] (cC (nmQ x0)) := by
 refine aF mx aJ Tryz.func219 rfl ?_
 conv => whnf
 refine .inr (.inr ⟨[3, 2], [], ?_⟩)
 conv => whnf
 refine ⟨_, GP x0 h0, fun r g2 hP => ?_⟩
 obtain ⟨rfl, m, rfl⟩ := hP
 refine .inr ?_
 conv => whnf
 refine ⟨by rw [a6 a7], by rw [a6 aK], rfl⟩
end Go.Proofs.YtboolngaahifdaaGreatD
