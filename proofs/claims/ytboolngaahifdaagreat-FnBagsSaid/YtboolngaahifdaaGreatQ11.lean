/- Contracts and plain laws of this seat; no condition. -/
import Derived.Test.YtboolngaahifdaaGreatQ10
set_option linter.unusedVariables false
set_option linter.unusedSimpArgs false
set_option maxRecDepth 100000
namespace Go.Proofs.YtboolngaahifdaaGreatD
open Go Go.Proofs
def YO (xs : List Int) : V := .agg [aW xs]
def key (r : Int) (xs : List Int) : V := .agg [ci r, aW xs]
def inR (x lo hi : Int) : Bool := decide (lo ≤ x) && decide (x ≤ hi)
theorem K8 {x lo hi : Int} {b : Bool} (h : decide (x ≥ lo) = b) : inR x lo hi = (b && decide (x ≤ hi)) := by
 unfold inR
 rw [show decide (lo ≤ x) = b from h]
theorem iK (x lo hi : Int) : bI Tryz.prog 127 [ci x, ci lo, ci hi] (cb (inR x lo hi)) := by
 refine aF mx aJ Tryz.func127 rfl ?_
 (repeat' ((conv => whnf); (split <;> rename_i hsplit <;> (try rw [hsplit]))))
 all_goals conv => whnf
 ·rw [K8 hsplit, Bool.true_and]
  rfl
 ·rw [K8 hsplit, Bool.false_and]
  rfl
theorem iH (x lo hi : Int) : bI Tryz.prog 85 [ci x, ci lo, ci hi] (cb (inR x lo hi)) := by
 refine aF mx aJ Tryz.func85 rfl ?_
 (repeat' ((conv => whnf); (split <;> rename_i hsplit <;> (try rw [hsplit]))))
 all_goals conv => whnf
 ·rw [K8 hsplit, Bool.true_and]
  rfl
 ·rw [K8 hsplit, Bool.false_and]
  rfl
def dE (xs : List Int) : Bool := xs.all (fun x => inR x 1 3) && inR xs.length 1 4
theorem MA {α : Type} {p : α → Bool} {xs : List α} (h : ∀ j y, j < xs.length → xs[j]? = some y → p y = true) : xs.all p = true := by
 rw [List.all_eq_true]
 intro y hy
 obtain ⟨j, hj⟩ := List.getElem?_of_mem hy
 exact h j y (List.getElem?_eq_some_iff.1 hj).1 hj
theorem HM {α : Type} {p : α → Bool} {xs : List α} {k : Nat} (hk : k < xs.length) (h : p xs[k] = false) : xs.all p = false := by
 rw [Bool.eq_false_iff]
 intro ha
 rw [List.all_eq_true] at ha
 rw [ha _ (List.getElem_mem hk)] at h
 cases h
theorem P3 {α : Type} {p : α → Bool} {xs : List α} {k : Nat} (hk : k < xs.length) (hj : ∀ j y, j < k → xs[j]? = some y → p y = true) (h : p xs[k] = true) : ∀ j y, j < k + 1 → xs[j]? = some y → p y = true := by
 intro j y hlt hy
 rcases Nat.lt_succ_iff_lt_or_eq.1 hlt with h1 | rfl
 ·exact hj j y h1 hy
 ·rw [List.getElem?_eq_getElem hk] at hy
  cases hy
  exact h
theorem fI (xs : List Int) (hl : xs.length ≤ 1099511627776) : bI Tryz.prog 95 [YO xs] (cb (dE xs)) := by
 refine aF mx aJ Tryz.func95 rfl ?_
 conv => whnf
 refine ⟨[(1,0),(2,0),(3,0)], fun m s => ∃ (k : Nat) (e : Int), e = k ∧ m + k = xs.length ∧ (∀ j y, j < k → xs[j]? = some y → inR y 1 3 = true) ∧
  s = ⟨22, [(1, .ptr 0 0), (2, cb false), (3, ci e)], [some ⟨true, [aW xs]⟩]⟩, xs.length, ⟨0, 0, rfl, rfl, by simp, rfl⟩, ?_⟩
 rintro m s ⟨k, _, rfl, hm, hj, rfl⟩
 conv => whnf
 split <;> rename_i h1
 all_goals simp only [decide_eq_true_eq, decide_eq_false_iff_not] at h1
 ·conv => whnf
  have hk : k < xs.length := by omega
  refine ⟨by omega, a6 a7 xs, ?_⟩
  conv => whnf
  refine ⟨_, aD (k := k) a7 hk, ?_⟩
  conv => whnf
  refine ⟨_, iK _ _ _, .inl rfl, .inl ?_⟩
  conv => whnf
  split <;> rename_i h2
  all_goals simp only [Bool.not_eq_true', Bool.not_eq_false'] at h2
  ·conv => whnf
   show cb false = _
   unfold dE
   rw [HM (p := fun x => inR x 1 3) hk h2, Bool.false_and]
  ·conv => whnf
   exact ⟨m - 1, by omega, k + 1, _, a8 (by omega) (by omega), by omega, P3 hk hj h2, rfl⟩
 ·conv => whnf
  refine ⟨_, iK _ _ _, .inl rfl, .inl ?_⟩
  conv => whnf
  show cb (inR xs.length 1 4) = _
  unfold dE
  rw [MA (p := fun x => inR x 1 3) fun j y h hy => hj j y (by omega) hy, Bool.true_and]
theorem kO (xs : List Int) (hl : xs.length ≤ 1099511627776) : bI Tryz.prog 144 [YO xs] (cb (dE xs)) := by
 refine aF mx aJ Tryz.func144 rfl ?_
 conv => whnf
 refine ⟨[(1,0),(2,0),(6,0),(7,0),(8,0)], fun m s => ∃ (k : Nat) (e : Int), e = k ∧ m + k = xs.length ∧ (∀ j y, j < k → xs[j]? = some y → inR y 1 3 = true) ∧
  s = ⟨20, [(1, .ptr 0 0), (2, cb false), (6, aW xs), (7, ci xs.length), (8, ci e)], [some ⟨true, [aW xs]⟩]⟩, xs.length, ⟨0, 0, rfl, rfl, by simp, rfl⟩, ?_⟩
 rintro m s ⟨k, _, rfl, hm, hj, rfl⟩
 conv => whnf
 split <;> rename_i h1
 all_goals simp only [decide_eq_true_eq, decide_eq_false_iff_not] at h1
 ·conv => whnf
  have hk : k < xs.length := by omega
  refine ⟨by omega, a6 a7 xs, ?_⟩
  conv => whnf
  refine ⟨_, aD (k := k) a7 hk, ?_⟩
  conv => whnf
  refine ⟨_, iH _ _ _, .inl rfl, .inl ?_⟩
  conv => whnf
  split <;> rename_i h2
  all_goals simp only [Bool.not_eq_true', Bool.not_eq_false'] at h2
  ·conv => whnf
   show cb false = _
   unfold dE
   rw [HM (p := fun x => inR x 1 3) hk h2, Bool.false_and]
  ·conv => whnf
   exact ⟨m - 1, by omega, k + 1, _, a8 (by omega) (by omega), by omega, P3 hk hj h2, rfl⟩
 ·conv => whnf
  refine ⟨_, iH _ _ _, .inl rfl, .inl ?_⟩
  conv => whnf
  show cb (inR xs.length 1 4) = _
  unfold dE
  rw [MA (p := fun x => inR x 1 3) fun j y h hy => hj j y (by omega) hy, Bool.true_and]
def cu8 (x : Int) : List V := [.sc (.int .u8 x)]
theorem CN (x : Int) : (cu8 x).length = 1 := rfl
def lC (xs : List Int) : V := .ro xs.length (aB cu8 xs)
abbrev Cur := List Int × Nat × Int
def s9 (c : Cur) : List V := [lC c.1, ci c.2.1, ci c.2.2]
def u6 (c : Cur) : V := .bp (s9 c)
def cS (c : Cur) : Prop := c.1.length ≤ 1099511627776 ∧ c.2.1 ≤ c.1.length
def N6 (h b : Int) : Int := D3 .i64 (IntKind.i64.wrap (IntKind.i64.wrap (IntKind.i64.wrap (h * 131) + IntKind.i64.wrap b) + 7)) 1073741823
def wF (xs : List Int) : Cur := (xs, 0, (xs.take 4000).foldl N6 (IntKind.i64.wrap (10101 + xs.length)))
theorem EB {xs : List Int} (h : xs.length ≤ 1099511627776) : cS (wF xs) := ⟨h, Nat.zero_le _⟩
theorem w8 (xs : List Int) (h : xs.length ≤ 1099511627776) : bI Tryz.prog 64 [lC xs] (u6 (wF xs)) := by
 unfold lC
 refine aF mx aJ Tryz.func64 rfl ?_
 conv => whnf
 refine ⟨[(0,0),(3,0),(4,0)], fun m st => ∃ (k : Nat) (e f : Int), e = k ∧ m + k = xs.length + 1 ∧ k ≤ 4000 ∧ k ≤ xs.length ∧ f = ((xs.take k).foldl N6 (IntKind.i64.wrap (10101 + xs.length))) ∧
  st = ⟨32, [(0, lC xs), (3, ci f), (4, ci e)], []⟩, xs.length + 1, ⟨0, 0, _, rfl, rfl, by omega, by omega, rfl, by kernel_rfl⟩, ?_⟩
 rintro m st ⟨k, _, _, rfl, hm, hk4, hkl, rfl, rfl⟩
 unfold lC
 have fin : ∀ f : Int, (k = xs.length ∨ k = 4000) → f = (xs.take k).foldl N6 (IntKind.i64.wrap (10101 + xs.length)) → (wF xs) = (xs, 0, f) := by
  rintro f hk rfl
  unfold wF
  rcases hk with rfl | rfl
  ·rw [List.take_length, List.take_of_length_le (by omega)]
  ·rfl
 conv => whnf
 generalize hc1 : decide ((k : Int) < (xs.length : Int)) = c1
 cases c1 with
 | false =>
  conv => whnf
  rw [fin _ (.inl (by have := of_decide_eq_false hc1; omega)) rfl]
  exact ⟨rfl, rfl, rfl⟩
 | true =>
  have hk : k < xs.length := by have := of_decide_eq_true hc1; omega
  conv => whnf
  generalize hc2 : decide ((k : Int) < 4000) = c2
  cases c2 with
  | false =>
   conv => whnf
   rw [fin _ (.inr (by have := of_decide_eq_false hc2; omega)) rfl]
   exact ⟨rfl, rfl, rfl⟩
  | true =>
   have hk4 : k < 4000 := by have := of_decide_eq_true hc2; omega
   conv => whnf
   refine ⟨by omega, a6 CN _, ?_⟩
   conv => whnf
   refine ⟨_, aD (k := k) CN hk, ?_⟩
   conv => whnf
   refine ⟨m - 1, by omega, k + 1, _, N6 ((xs.take k).foldl N6 (IntKind.i64.wrap (10101 + xs.length))) xs[k], a8 (by omega) (by omega), by omega, by omega, by omega, ?_, by kernel_rfl⟩
   rw [List.take_succ_eq_append_getElem hk, List.foldl_append]
   rfl
def SW (h : Int) : Int := IntKind.i64.wrap (IntKind.i64.wrap (h * 6364136223846793005) + 1442695040888963407)
def a3N (h : Int) : Int := D3 .i64 (a33 .i64 (R2 .i64 h 33) (R2 .i64 h 45)) 255
def oM (c : Cur) : Int × Cur := if c.2.1 < c.1.length then (D3 .i64 (IntKind.i64.wrap (a3N (SW c.2.2) + IntKind.i64.wrap (c.1.getD c.2.1 0))) 255, (c.1, c.2.1 + 1, SW c.2.2)) else (a3N (SW c.2.2), (c.1, c.2.1, SW c.2.2))
theorem RL (a : Int) : 0 ≤ D3 .i64 a 255 ∧ D3 .i64 a 255 ≤ 255 := by
 have h : (BitVec.ofInt 64 a &&& BitVec.ofInt 64 255).toNat ≤ 255 := by
  rw [BitVec.toNat_and]
  have : (BitVec.ofInt 64 255).toNat = 255 := by decide
  rw [this]
  exact Nat.and_le_right
 have e : D3 .i64 a 255 = IntKind.i64.wrap ((BitVec.ofInt 64 a &&& BitVec.ofInt 64 255).toNat : Int) := rfl
 rw [e, a8 (by omega) (by omega)]
 omega
theorem WG (c : Cur) : 0 ≤ (oM c).1 ∧ (oM c).1 ≤ 255 := by
 unfold oM
 split
 ·exact RL _
 ·exact RL _
theorem nU {c : Cur} (h : cS c) : cS (oM c).2 := by
 unfold oM
 obtain ⟨h1, h2⟩ := h
 split
 ·exact ⟨h1, by simp only; omega⟩
 ·exact ⟨h1, h2⟩
theorem bD (c : Cur) : s9 c ≠ [] := by unfold s9; simp
theorem a0Y {a b d x : V} : e7 [a, b, d] 2 [x] ≠ [] := by show [a, b, x] ≠ []; simp
theorem YP {a b d x y : V} : e7 (e7 [a, b, d] 2 [x]) 1 [y] ≠ [] := by show [a, y, x] ≠ []; simp
theorem N5 {l : List Int} {i : Nat} (h : i < l.length) : l.getD i 0 = l[i] := by simp [List.getD_eq_getElem?_getD, h]
set_option maxHeartbeats 1000000 in
theorem NI (c : Cur) (h : cS c) : rS Tryz.prog 159 [u6 c] (ci (oM c).1) [u6 (oM c).2] := by
 obtain ⟨xs, i, hh⟩ := c
 obtain ⟨h1, h2⟩ := h
 simp only at h1 h2
 unfold u6 s9 lC
 refine lY mx aJ 1 Tryz.func159 rfl rfl (by omega) ?_
 conv => whnf
 refine ⟨_, rfl, ?_⟩
 conv => whnf
 refine ⟨_, rfl, _, rfl, ?_⟩
 conv => whnf
 refine ⟨List.range 13, by kernel_rfl, ?_⟩
 conv => whnf
 refine ⟨_, rfl, ?_⟩
 conv => whnf
 refine ⟨by decide, ?_⟩
 conv => whnf
 refine ⟨_, rfl, ?_⟩
 conv => whnf
 refine ⟨by decide, ?_⟩
 conv => whnf
 refine ⟨List.range 10, by kernel_rfl, ?_⟩
 conv => whnf
 refine ⟨_, rfl, ?_⟩
 conv => whnf
 refine ⟨_, rfl, ?_⟩
 conv => whnf
 unfold oM
 simp only
 generalize hc1 : decide ((i : Int) < (xs.length : Int)) = c1
 cases c1 with
 | false =>
  have hk : ¬ i < xs.length := by have := of_decide_eq_false hc1; omega
  simp only [if_neg hk]
  conv => whnf
  exact ⟨rfl, a0Y, rfl⟩
 | true =>
  have hk : i < xs.length := by have := of_decide_eq_true hc1; omega
  have hw : IntKind.i64.wrap ((i : Int) + 1) = ((i + 1 : Nat) : Int) := a8 (by omega) (by omega)
  simp only [if_pos hk, N5 hk]
  conv => whnf
  refine ⟨List.range 15, by kernel_rfl, ?_⟩
  conv => whnf
  refine ⟨_, rfl, ?_⟩
  conv => whnf
  refine ⟨_, rfl, ?_⟩
  conv => whnf
  refine ⟨by omega, a6 CN _, ?_⟩
  conv => whnf
  refine ⟨_, aD (k := i) CN hk, ?_⟩
  conv => whnf
  refine ⟨_, rfl, ?_⟩
  conv => whnf
  refine ⟨_, rfl, _, rfl, ?_⟩
  conv => whnf
  refine ⟨rfl, YP, ?_⟩
  rw [← hw]
  rfl
def aI (c : Cur) (n : Int) : Int × Cur :=
 if n ≤ 0 then (0, c) else if n ≤ 256 then ((oM c).1.tmod n, (oM c).2) else
  let a := oM c
  let b := oM a.2
  let d := oM b.2
  let e := oM d.2
  ((IntKind.i64.wrap (IntKind.i64.wrap (IntKind.i64.wrap (IntKind.i64.wrap (a.1 * 16777216) + IntKind.i64.wrap (b.1 * 65536)) + IntKind.i64.wrap (d.1 * 256)) + e.1)).tmod n, e.2)
theorem fC (c : Cur) {n : Int} (h : 0 < n) (h2 : n ≤ 256) : 0 ≤ (aI c n).1 ∧ (aI c n).1 < n := by
 unfold aI
 rw [if_neg (by omega), if_pos h2]
 have := WG c
 simp only
 rw [Int.tmod_eq_emod_of_nonneg this.1]
 exact ⟨Int.emod_nonneg _ (by omega), Int.emod_lt_of_pos _ h⟩
theorem aQ {c : Cur} (h : cS c) (n : Int) : cS (aI c n).2 := by
 unfold aI
 split
 ·exact h
 ·split
  ·exact nU h
  ·exact nU (nU (nU (nU h)))
theorem bV (c : Cur) (n : Int) (h : cS c) (hn : n ≤ 256) : rS Tryz.prog 81 [u6 c, ci n] (ci (aI c n).1) [u6 (aI c n).2, ci n] := by
 unfold aI
 rw [show u6 c = .bp (s9 c) from rfl]
 unfold s9 lC
 refine lY mx aJ 2 Tryz.func81 rfl rfl (by omega) ?_
 conv => whnf
 generalize hc1 : decide (n ≤ 0) = c1
 cases c1 with
 | true =>
  rw [if_pos (of_decide_eq_true hc1)]
  conv => whnf
  exact ⟨rfl, by simp, rfl⟩
 | false =>
  have h0 := of_decide_eq_false hc1
  rw [if_neg h0, if_pos hn]
  have e : decide (n ≤ 256) = true := decide_eq_true hn
  conv => whnf
  rw [e]
  conv => whnf
  refine .inr (.inl ?_)
  conv => whnf
  refine ⟨by simp, ?_⟩
  conv => whnf
  have hs := NI c h
  refine ⟨_, _, _, hs, ?_⟩
  conv => whnf
  refine .inl ?_
  conv => whnf
  refine ⟨by omega, ?_⟩
  conv => whnf
  exact ⟨rfl, bD _, rfl⟩
theorem jR {α : Type} [DecidableEq α] {xs ys : List α} {k : Nat} (hk : k < xs.length) (hk' : k < ys.length) : decide (xs.drop k = ys.drop k) = (decide (xs[k] = ys[k]) && decide (xs.drop (k + 1) = ys.drop (k + 1))) := by
 rw [List.drop_eq_getElem_cons hk, List.drop_eq_getElem_cons hk', ← Bool.decide_and, decide_eq_decide]
 simp only [List.cons.injEq]
theorem wE {α : Type} [DecidableEq α] {xs ys : List α} (h : xs.length ≠ ys.length) : decide (xs = ys) = false := decide_eq_false fun e => h (congrArg List.length e)
theorem kA (xs ys : List Int) (hl : xs.length ≤ 1099511627776) (hl' : ys.length ≤ 1099511627776) : bI Tryz.prog 77 [aW xs, aW ys] (cb (decide (xs = ys))) := by
 refine aF mx aJ Tryz.func77 rfl ?_
 conv => whnf
 split <;> rename_i h0
 ·conv => whnf
  simp only [bne_iff_ne, ne_eq] at h0
  show cb false = _
  rw [wE (by omega)]
 conv => whnf
 have h0' : xs.length = ys.length := by
  have h3 : (xs.length : Int) = ys.length := by simpa using h0
  omega
 refine ⟨[(0,0),(1,0),(4,0),(5,0)], fun m s => ∃ (k : Nat) (e : Int), e = k ∧ m + k = xs.length ∧ decide (xs = ys) = decide (xs.drop k = ys.drop k) ∧
  s = ⟨26, [(0, aW xs), (1, aW ys), (4, cb false), (5, ci e)], []⟩, xs.length, ⟨0, 0, rfl, rfl, rfl, rfl⟩, ?_⟩
 rintro m s ⟨k, _, rfl, hm, hj, rfl⟩
 conv => whnf
 split <;> rename_i h1
 all_goals simp only [decide_eq_true_eq, decide_eq_false_iff_not] at h1
 ·conv => whnf
  have hk : k < xs.length := by omega
  have hk' : k < ys.length := by omega
  rw [jR hk hk'] at hj
  refine ⟨List.range 9, by kernel_rfl, ?_⟩
  conv => whnf
  refine ⟨by omega, a6 a7 xs, ?_⟩
  conv => whnf
  refine ⟨_, aD (k := k) a7 hk, ?_⟩
  conv => whnf
  refine ⟨by omega, a6 a7 ys, ?_⟩
  conv => whnf
  refine ⟨_, aD (k := k) a7 hk', ?_⟩
  conv => whnf
  split <;> rename_i h2
  ·conv => whnf
   show cb false = _
   rw [hj, decide_eq_false (p := xs[k] = ys[k]) (by simpa using h2), Bool.false_and]
  ·conv => whnf
   rw [decide_eq_true (p := xs[k] = ys[k]) (by simpa using h2), Bool.true_and] at hj
   exact ⟨m - 1, by omega, k + 1, _, a8 (by omega) (by omega), by omega, hj, rfl⟩
 ·conv => whnf
  rw [hj, bG (by omega), bG (by omega)]
  rfl
theorem jE (xs ys : List Int) (hl : xs.length ≤ 1099511627776) (hl' : ys.length ≤ 1099511627776) : bI Tryz.prog 119 [aW xs, aW ys] (cb (decide (xs = ys))) := by
 refine aF mx aJ Tryz.func119 rfl ?_
 conv => whnf
 split <;> rename_i h0
 ·conv => whnf
  simp only [bne_iff_ne, ne_eq] at h0
  show cb false = _
  rw [wE (by omega)]
 conv => whnf
 have h0' : xs.length = ys.length := by
  have h3 : (xs.length : Int) = ys.length := by simpa using h0
  omega
 refine ⟨[(0,0),(1,0),(4,0),(12,0),(13,0)], fun m s => ∃ (k : Nat) (e : Int), e = k ∧ m + k = xs.length ∧ decide (xs = ys) = decide (xs.drop k = ys.drop k) ∧
  s = ⟨26, [(0, aW xs), (1, aW ys), (4, cb false), (12, ci xs.length), (13, ci e)], []⟩, xs.length, ⟨0, 0, rfl, rfl, rfl, rfl⟩, ?_⟩
 rintro m s ⟨k, _, rfl, hm, hj, rfl⟩
 conv => whnf
 split <;> rename_i h1
 all_goals simp only [decide_eq_true_eq, decide_eq_false_iff_not] at h1
 ·conv => whnf
  have hk : k < xs.length := by omega
  have hk' : k < ys.length := by omega
  rw [jR hk hk'] at hj
  refine ⟨List.range 9, by kernel_rfl, ?_⟩
  conv => whnf
  refine ⟨by omega, a6 a7 xs, ?_⟩
  conv => whnf
  refine ⟨_, aD (k := k) a7 hk, ?_⟩
  conv => whnf
  refine ⟨by omega, a6 a7 ys, ?_⟩
  conv => whnf
  refine ⟨_, aD (k := k) a7 hk', ?_⟩
  conv => whnf
  split <;> rename_i h2
  ·conv => whnf
   show cb false = _
   rw [hj, decide_eq_false (p := xs[k] = ys[k]) (by simpa using h2), Bool.false_and]
  ·conv => whnf
   rw [decide_eq_true (p := xs[k] = ys[k]) (by simpa using h2), Bool.true_and] at hj
   exact ⟨m - 1, by omega, k + 1, _, a8 (by omega) (by omega), by omega, hj, rfl⟩
 ·conv => whnf
  rw [hj, bG (by omega), bG (by omega)]
  rfl
theorem jK {ps : List Int} {k : Nat} (hk : k < ps.length) : ps.getD k 0 = ps[k] := by simp [List.getD_eq_getElem?_getD, hk]
theorem uZ {xs : List Int} (h : dE xs = true) {q : Nat} (hq : q < xs.length) : 1 ≤ xs[q] ∧ xs[q] ≤ 3 := by
 unfold dE at h
 simp only [Bool.and_eq_true, List.all_eq_true] at h
 have := h.1 xs[q] (List.getElem_mem hq)
 simpa [inR] using this
def eqV (v : Int) (y : Int) : Bool := y == v
def has (xs : List Int) (v : Int) : Bool := xs.any (eqV v)
theorem w9 (xs : List Int) (v : Int) (hl : xs.length ≤ 1099511627776) : bI Tryz.prog 90 [aW xs, ci v] (cb (has xs v)) := by
 refine aF mx aJ Tryz.func90 rfl ?_
 conv => whnf
 refine ⟨[(0,0),(1,0),(4,0),(5,0)], fun m s => ∃ (k : Nat) (e : Int), e = k ∧ m + k = xs.length ∧ has xs v = (xs.drop k).any (eqV v) ∧ s = ⟨18, [(0, aW xs), (1, ci v), (4, cb false), (5, ci e)], []⟩, xs.length, ⟨0, 0, rfl, rfl, rfl, rfl⟩, ?_⟩
 rintro m s ⟨k, _, rfl, hm, hj, rfl⟩
 conv => whnf
 split <;> rename_i h1
 all_goals simp only [decide_eq_true_eq, decide_eq_false_iff_not] at h1
 ·conv => whnf
  have hk : k < xs.length := by omega
  rw [xF hk] at hj
  refine ⟨by omega, a6 a7 xs, ?_⟩
  conv => whnf
  refine ⟨_, aD (k := k) a7 hk, ?_⟩
  conv => whnf
  split <;> rename_i h2
  ·conv => whnf
   rw [hj, show eqV v xs[k] = true from h2]
   rfl
  ·conv => whnf
   rw [show eqV v xs[k] = false from h2, Bool.false_or] at hj
   exact ⟨m - 1, by omega, k + 1, _, a8 (by omega) (by omega), by omega, hj, rfl⟩
 ·conv => whnf
  rw [hj, bG (by omega)]
  rfl
abbrev AT := Int × List Int
abbrev bJ := List Int × List AT
def b8 (x : Int) : Bool := inR x 0 19
def aU (x : Int) : Bool := inR x (-80) 19
def jI (x : Int) : Int := if inR x (-80) (-1) then -1 - x else -1
theorem UQ (x : Int) : aU x = (b8 x || decide (jI x ≥ 0)) := by
 rw [Bool.eq_iff_iff]
 simp only [aU, b8, jI, inR, Bool.or_eq_true, Bool.and_eq_true, decide_eq_true_eq]
 split <;> omega
theorem oD (x : Int) : bI Tryz.prog 166 [ci x] (cb (b8 x)) := by
 refine aF mx aJ Tryz.func166 rfl ?_
 conv => whnf
 refine ⟨_, iK x 0 19, .inl rfl, .inl ?_⟩
 conv => whnf
 rfl
theorem eZ (x : Int) : bI Tryz.prog 161 [ci x] (cb (b8 x)) := by
 refine aF mx aJ Tryz.func161 rfl ?_
 conv => whnf
 refine ⟨_, iH x 0 19, .inl rfl, .inl ?_⟩
 conv => whnf
 rfl
theorem rX (x : Int) : bI Tryz.prog 160 [ci x] (cb (aU x)) := by
 refine aF mx aJ Tryz.func160 rfl ?_
 conv => whnf
 refine ⟨_, iH x (-80) 19, .inl rfl, .inl ?_⟩
 conv => whnf
 rfl
theorem AM (x : Int) : bI Tryz.prog 212 [ci x] (ci (jI x)) := by
 refine aF mx aJ Tryz.func212 rfl ?_
 conv => whnf
 refine ⟨_, iK x (-80) (-1), .inl rfl, .inl ?_⟩
 conv => whnf
 unfold jI
 generalize hb1 : inR x (-80) (-1) = b1
 cases b1 with
 | false =>
  conv => whnf
  rfl
 | true =>
  conv => whnf
  have hr : -80 ≤ x ∧ x ≤ -1 := by simpa [inR] using hb1
  show ci (IntKind.i64.wrap (-1 - x)) = ci (-1 - x)
  rw [a8 (by omega) (by omega)]
theorem CH (x : Int) : bI Tryz.prog 164 [ci x] (cb (aU x)) := by
 rw [UQ]
 refine aF mx aJ Tryz.func164 rfl ?_
 conv => whnf
 refine ⟨_, oD x, .inl rfl, .inl ?_⟩
 conv => whnf
 generalize b8 x = b1
 cases b1 with
 | true =>
  conv => whnf
  rfl
 | false =>
  conv => whnf
  refine ⟨_, AM x, .inl rfl, .inl ?_⟩
  conv => whnf
  rfl
def d5 (xs : List Int) : Bool := xs.all aU && decide (xs.length ≤ 3)
theorem n9 (xs : List Int) (h : xs.length ≤ 1099511627776) : bI Tryz.prog 89 [aW xs] (cb (d5 xs)) := by
 refine aF mx aJ Tryz.func89 rfl ?_
 conv => whnf
 refine ⟨[(0,0),(2,0),(3,0)], fun m s => ∃ (k : Nat) (e : Int), e = k ∧ m + k = xs.length ∧ xs.all aU = (xs.drop k).all aU ∧
  s = ⟨19, [(0, aW xs), (2, cb false), (3, ci e)], []⟩, xs.length, ⟨0, 0, rfl, rfl, rfl, rfl⟩, ?_⟩
 rintro m s ⟨k, _, rfl, hm, hall, rfl⟩
 conv => whnf
 split <;> rename_i h3
 all_goals simp only [decide_eq_true_eq, decide_eq_false_iff_not] at h3
 ·conv => whnf
  have hk : k < xs.length := by omega
  rw [kN hk] at hall
  refine ⟨by omega, a6 a7 _, ?_⟩
  conv => whnf
  refine ⟨_, aD (k := k) a7 hk, ?_⟩
  conv => whnf
  refine ⟨_, CH xs[k], .inl rfl, .inl ?_⟩
  conv => whnf
  generalize aU xs[k] = b1 at hall
  cases b1 with
  | false =>
   conv => whnf
   unfold d5
   rw [hall]
   rfl
  | true =>
   conv => whnf
   rw [Bool.true_and] at hall
   exact ⟨m - 1, by omega, k + 1, _, a8 (by omega) (by omega), by omega, hall, rfl⟩
 ·conv => whnf
  rw [bG (by omega)] at hall
  unfold d5
  rw [hall]
  show cb _ = cb _
  congr 1
  simp only [List.all_nil, Bool.true_and, decide_eq_decide]
  omega
theorem lS (xs : List Int) (h : xs.length ≤ 1099511627776) : bI Tryz.prog 84 [aW xs] (cb (xs.all aU)) := by
 refine aF mx aJ Tryz.func84 rfl ?_
 conv => whnf
 refine ⟨[(2,0),(5,0),(6,0),(7,0)], fun m s => ∃ (k : Nat) (e : Int), e = k ∧ m + k = xs.length ∧ xs.all aU = (xs.drop k).all aU ∧
  s = ⟨15, [(2, cb false), (5, aW xs), (6, ci xs.length), (7, ci e)], []⟩, xs.length, ⟨0, 0, rfl, rfl, rfl, rfl⟩, ?_⟩
 rintro m s ⟨k, _, rfl, hm, hall, rfl⟩
 conv => whnf
 split <;> rename_i h3
 all_goals simp only [decide_eq_true_eq, decide_eq_false_iff_not] at h3
 ·conv => whnf
  have hk : k < xs.length := by omega
  rw [kN hk] at hall
  refine ⟨by omega, a6 a7 _, ?_⟩
  conv => whnf
  refine ⟨_, aD (k := k) a7 hk, ?_⟩
  conv => whnf
  refine ⟨_, rX xs[k], .inl rfl, .inl ?_⟩
  conv => whnf
  generalize aU xs[k] = b1 at hall
  cases b1 with
  | false =>
   conv => whnf
   rw [hall]
   rfl
  | true =>
   conv => whnf
   rw [Bool.true_and] at hall
   exact ⟨m - 1, by omega, k + 1, _, a8 (by omega) (by omega), by omega, hall, rfl⟩
 ·conv => whnf
  rw [bG (by omega)] at hall
  rw [hall]
  rfl
def iE (s : List Int) (r n : Int) : Bool := dE s && (inR r 0 (s.length - 1) && decide (s.getD r.toNat 0 = n))
def fM (s : List Int) (a : AT) : Bool := iE s a.1 a.2.length && a.2.all aU
theorem G5 (s : List Int) (r n : Int) (hs : s.length ≤ 1099511627776) : bI Tryz.prog 197 [aV s, ci r, ci n] (cb (iE s r n)) := by
 have hw : IntKind.i64.wrap ((s.length : Int) - 1) = s.length - 1 := a8 (by omega) (by omega)
 refine aF mx aJ Tryz.func197 rfl ?_
 conv => whnf
 refine ⟨_, kO s hs, .inl rfl, .inl ?_⟩
 conv => whnf
 unfold iE
 generalize dE s = b1
 cases b1 with
 | false =>
  conv => whnf
  rfl
 | true =>
 conv => whnf
 refine ⟨_, iH _ _ _, .inl rfl, .inl ?_⟩
 rw [hw]
 conv => whnf
 generalize hb2 : inR r 0 (s.length - 1) = b2
 cases b2 with
 | false =>
  conv => whnf
  rfl
 | true =>
 conv => whnf
 have hr : 0 ≤ r ∧ r ≤ (s.length : Int) - 1 := by simpa [inR] using hb2
 obtain ⟨q, rfl⟩ : ∃ q : Nat, r = q := ⟨r.toNat, by omega⟩
 have hq : q < s.length := by omega
 refine ⟨by omega, a6 a7 s, ?_⟩
 conv => whnf
 refine ⟨_, aD (k := q) a7 hq, ?_⟩
 conv => whnf
 rw [Int.toNat_natCast, jK hq]
 show cb (s[q] == n) = cb (decide (s[q] = n))
 congr 1
theorem C4 (s : List Int) (a : AT) (hs : s.length ≤ 1099511627776) (ha : a.2.length ≤ 1099511627776) : bI Tryz.prog 145 [aV s, GF a] (cb (fM s a)) := by
 refine aF mx aJ Tryz.func145 rfl ?_
 conv => whnf
 refine ⟨_, G5 s a.1 a.2.length hs, .inl rfl, .inl ?_⟩
 conv => whnf
 unfold fM
 generalize iE s a.1 a.2.length = b1
 cases b1 with
 | false =>
  conv => whnf
  rfl
 | true =>
 conv => whnf
 refine ⟨_, lS a.2 ha, .inl rfl, .inl ?_⟩
 conv => whnf
 rfl
theorem CF (s : List Int) (a : AT) (hs : s.length ≤ 1099511627776) (ha : a.2.length ≤ 1099511627776) : bI Tryz.prog 165 [aV s, GF a] (cb (fM s a)) := by
 have hw : IntKind.i64.wrap ((s.length : Int) - 1) = s.length - 1 := a8 (by omega) (by omega)
 refine aF mx aJ Tryz.func165 rfl ?_
 conv => whnf
 refine ⟨List.range 29, by kernel_rfl, ?_⟩
 conv => whnf
 refine ⟨_, fI s hs, .inl rfl, .inl ?_⟩
 conv => whnf
 unfold fM iE
 generalize hb1 : dE s = b1
 cases b1 with
 | false =>
  conv => whnf
  rfl
 | true =>
 conv => whnf
 refine ⟨_, iK _ _ _, .inl rfl, .inl ?_⟩
 rw [hw]
 conv => whnf
 generalize hb2 : inR a.1 0 (s.length - 1) = b2
 cases b2 with
 | false =>
  conv => whnf
  rfl
 | true =>
 conv => whnf
 have hr : 0 ≤ a.1 ∧ a.1 ≤ (s.length : Int) - 1 := by simpa [inR] using hb2
 obtain ⟨q, hqa⟩ : ∃ q : Nat, a.1 = q := ⟨a.1.toNat, by omega⟩
 have hq : q < s.length := by omega
 rw [hqa]
 refine ⟨by omega, a6 a7 s, ?_⟩
 conv => whnf
 refine ⟨_, aD (k := q) a7 hq, ?_⟩
 conv => whnf
 have h13 := uZ hb1 hq
 rw [Int.toNat_natCast, jK hq]
 generalize hb3 : ((a.2.length : Int) == s[q]) = b3
 cases b3 with
 | false =>
  conv => whnf
  have : ¬ s[q] = (a.2.length : Int) := fun h => by rw [h, beq_self_eq_true] at hb3; cases hb3
  rw [decide_eq_false this]
  rfl
 | true =>
 conv => whnf
 have he : s[q] = (a.2.length : Int) := (eq_of_beq hb3).symm
 refine ⟨_, n9 a.2 ha, .inl rfl, .inl ?_⟩
 conv => whnf
 rw [decide_eq_true he]
 show cb (d5 a.2) = cb (a.2.all aU)
 rw [d5, decide_eq_true (p := a.2.length ≤ 3) (by omega), Bool.and_true]
end Go.Proofs.YtboolngaahifdaaGreatD
