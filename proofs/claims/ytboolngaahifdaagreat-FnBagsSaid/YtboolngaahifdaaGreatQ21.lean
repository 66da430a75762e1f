/- Contracts and plain laws of this seat; no condition. -/
import Derived.Test.YtboolngaahifdaaGreatQ17
import Derived.Test.YtboolngaahifdaaGreatQ20
import Derived.Test.YtboolngaahifdaaGreatQ14
set_option linter.unusedVariables false
set_option linter.unusedSimpArgs false
set_option maxRecDepth 100000
namespace Go.Proofs.YtboolngaahifdaaGreatD
open Go Go.Proofs
def KA (xs : List Int) : Bool := xs.all fun x => inR x 0 99
def w7 (s : List Int) (f : aG) : Bool := iE s f.1 f.2.length && KA f.2
def OE : Option aG → aG → Bool
 | none, _ => true
 | some y, x => ltF y x
def C1 (s : List Int) : Option aG → List aG → Bool
 | _, [] => true
 | p, x :: r => w7 s x && OE p x && C1 s (some x) r
def qA (s : List Int) (db : List aG) : Bool := C1 s none db && (dE s && decide (db.length ≤ 24))
theorem D6 (xs : List Int) (h : xs.length ≤ 1099511627776) : bI Tryz.prog 198 [aW xs] (cb (KA xs)) := by
 refine aF mx aJ Tryz.func198 rfl ?_
 conv => whnf
 unfold KA
 refine ⟨[(2,0),(5,0),(6,0),(7,0)], fun m s => ∃ (k : Nat) (e : Int), e = k ∧ m + k = xs.length ∧ xs.all (fun x => inR x 0 99) = (xs.drop k).all (fun x => inR x 0 99) ∧
  s = ⟨15, [(2, cb false), (5, aW xs), (6, ci xs.length), (7, ci e)], []⟩, xs.length, ⟨0, 0, rfl, rfl, rfl, rfl⟩, ?_⟩
 rintro m s ⟨k, _, rfl, hm, hall, rfl⟩
 conv => whnf
 split <;> rename_i h3
 all_goals simp only [decide_eq_true_eq, decide_eq_false_iff_not] at h3
 ·conv => whnf
  have hk : k < xs.length := by omega
  rw [kN hk] at hall
  refine ⟨by omega, a6 a7 _, ?_⟩
  conv => whnf
  refine ⟨_, aD (k := k) a7 hk, ?_⟩
  conv => whnf
  refine ⟨_, iH xs[k] 0 99, .inl rfl, .inl ?_⟩
  conv => whnf
  generalize inR xs[k] 0 99 = b1 at hall
  cases b1 with
  | false =>
   conv => whnf
   rw [hall]
   rfl
  | true =>
   conv => whnf
   rw [Bool.true_and] at hall
   exact ⟨m - 1, by omega, k + 1, _, a8 (by omega) (by omega), by omega, hall, rfl⟩
 ·conv => whnf
  rw [bG (by omega)] at hall
  rw [hall]
  rfl
theorem C5 (s : List Int) (f : aG) (hs : s.length ≤ 1099511627776) (hf : f.2.length ≤ 1099511627776) : bI Tryz.prog 146 [aV s, mI f] (cb (w7 s f)) := by
 refine aF mx aJ Tryz.func146 rfl ?_
 conv => whnf
 refine ⟨_, G5 s f.1 f.2.length hs, .inl rfl, .inl ?_⟩
 conv => whnf
 unfold w7
 generalize iE s f.1 f.2.length = b1
 cases b1 with
 | false =>
  conv => whnf
  rfl
 | true =>
 conv => whnf
 refine ⟨_, D6 f.2 hf, .inl rfl, .inl ?_⟩
 conv => whnf
 rfl
def mL (db : List aG) (k : Nat) : Option aG := if k = 0 then none else db[k - 1]?
set_option maxHeartbeats 4000000 in
theorem mR (s : List Int) (db : List aG) (hs : s.length ≤ 1099511627776) (hd : d6 db ≤ 1048576) : bI Tryz.prog 66 [aV s, c7 db] (cb (qA s db)) := by
 unfold d6 at hd
 refine aF mx aJ Tryz.func66 rfl ?_
 conv => whnf
 unfold qA
 refine ⟨[(1,0),(2,0),(4,0),(7,0),(8,0),(9,0)], fun m st => ∃ (k : Nat) (e : Int), e = k ∧ m + k = db.length ∧ C1 s none db = C1 s (mL db k) (db.drop k) ∧
  st = ⟨40, [(1, c7 db), (2, .ptr 0 0), (4, cb false), (7, c7 db), (8, ci db.length), (9, ci e)], [some ⟨true, [aW s]⟩]⟩, db.length, ⟨0, 0, rfl, rfl, rfl, rfl⟩, ?_⟩
 rintro m st ⟨k, _, rfl, hm, hall, rfl⟩
 conv => whnf
 split <;> rename_i h3
 all_goals simp only [decide_eq_true_eq, decide_eq_false_iff_not] at h3
 ·conv => whnf
  have hk : k < db.length := by omega
  have hb := bH (f := eF) hk
  have hcb : eF db[k] = db[k].2.length := rfl
  rw [List.drop_eq_getElem_cons hk, C1] at hall
  have hnext : mL db (k + 1) = some db[k] := by simp [mL, hk]
  refine ⟨by omega, a6 aS _, ?_⟩
  conv => whnf
  refine ⟨_, aD (k := k) aS hk, ?_⟩
  conv => whnf
  refine ⟨List.range 18, by kernel_rfl, ?_⟩
  conv => whnf
  refine ⟨_, C5 s db[k] hs (by omega), .inl rfl, .inl ?_⟩
  conv => whnf
  generalize w7 s db[k] = b1 at hall
  cases b1 with
  | false =>
   conv => whnf
   rw [hall]
   rfl
  | true =>
   conv => whnf
   generalize hc2 : decide ((k : Int) > 0) = c2
   cases c2 with
   | false =>
    have hk0 : k = 0 := by have := of_decide_eq_false hc2; omega
    subst hk0
    conv => whnf
    simp only [mL, if_true, OE, Bool.true_and] at hall
    exact ⟨m - 1, by omega, 0 + 1, _, a8 (by omega) (by omega), by omega, by rw [hnext]; exact hall, rfl⟩
   | true =>
    have hk0 : ¬ k = 0 := by have := of_decide_eq_true hc2; omega
    obtain ⟨j, rfl⟩ : ∃ j, k = j + 1 := ⟨k - 1, by omega⟩
    have hj : j < db.length := by omega
    have hb2 := bH (f := eF) hj
    have hcb2 : eF db[j] = db[j].2.length := rfl
    have hp : mL db (j + 1) = some db[j] := by simp [mL, hj]
    have hw : IntKind.i64.wrap (((j + 1 : Nat) : Int) - 1) = (j : Int) := by rw [a8 (by omega) (by omega)]; omega
    rw [hp] at hall
    conv => whnf
    rw [hw]
    refine ⟨by omega, a6 aS _, ?_⟩
    conv => whnf
    refine ⟨_, aD (k := j) aS hj, ?_⟩
    conv => whnf
    refine ⟨_, oP db[j] db[j + 1] (by omega) (by omega), .inl rfl, .inl ?_⟩
    conv => whnf
    have hge : decide (ML db[j] db[j + 1] ≥ 0) = !ltF db[j] db[j + 1] := by
     rw [KL, Bool.eq_iff_iff]; simp
    rw [hge]
    simp only [OE, Bool.true_and] at hall
    generalize ltF db[j] db[j + 1] = b3 at hall
    cases b3 with
    | false =>
     conv => whnf
     rw [hall]
     rfl
    | true =>
     conv => whnf
     rw [Bool.true_and] at hall
     exact ⟨m - 1, by omega, j + 1 + 1, _, a8 (by omega) (by omega), by omega, by rw [hnext]; exact hall, rfl⟩
 ·conv => whnf
  rw [bG (by omega)] at hall
  rw [hall]
  refine ⟨_, kO s hs, .inl rfl, .inl ?_⟩
  conv => whnf
  generalize dE s = b1
  cases b1 with
  | false =>
   conv => whnf
   rfl
  | true =>
   conv => whnf
   show cb _ = cb _
   congr 1
   simp only [C1, Bool.true_and, decide_eq_decide]
   omega
set_option maxHeartbeats 4000000 in
theorem CG (s : List Int) (f : aG) (hs : s.length ≤ 1099511627776) (hf : f.2.length ≤ 1099511627776) : bI Tryz.prog 93 [aV s, mI f] (cb (w7 s f)) := by
 have hw : IntKind.i64.wrap ((s.length : Int) - 1) = s.length - 1 := a8 (by omega) (by omega)
 refine aF mx aJ Tryz.func93 rfl ?_
 conv => whnf
 refine ⟨List.range 25, by kernel_rfl, ?_⟩
 conv => whnf
 refine ⟨_, fI s hs, .inl rfl, .inl ?_⟩
 conv => whnf
 unfold w7 iE
 generalize hb1 : dE s = b1
 cases b1 with
 | false =>
  conv => whnf
  rfl
 | true =>
 conv => whnf
 refine ⟨_, iK _ _ _, .inl rfl, .inl ?_⟩
 rw [hw]
 conv => whnf
 generalize hb2 : inR f.1 0 (s.length - 1) = b2
 cases b2 with
 | false =>
  conv => whnf
  rfl
 | true =>
 conv => whnf
 have hr : 0 ≤ f.1 ∧ f.1 ≤ (s.length : Int) - 1 := by simpa [inR] using hb2
 obtain ⟨q, hqa⟩ : ∃ q : Nat, f.1 = q := ⟨f.1.toNat, by omega⟩
 have hq : q < s.length := by omega
 rw [hqa]
 refine ⟨by omega, a6 a7 s, ?_⟩
 conv => whnf
 refine ⟨_, aD (k := q) a7 hq, ?_⟩
 conv => whnf
 rw [Int.toNat_natCast, jK hq]
 have he : ((f.2.length : Int) != s[q]) = !decide (s[q] = (f.2.length : Int)) := by
  rw [Bool.eq_iff_iff]; simp; exact ⟨fun h e => h e.symm, fun h e => h e.symm⟩
 rw [he]
 generalize decide (s[q] = (f.2.length : Int)) = b3
 cases b3 with
 | false =>
  conv => whnf
  rfl
 | true =>
 conv => whnf
 unfold KA
 refine ⟨[(2,0),(3,0),(4,0),(5,0)], fun m st => ∃ (k : Nat) (e : Int), e = k ∧ m + k = f.2.length ∧ f.2.all (fun x => inR x 0 99) = (f.2.drop k).all (fun x => inR x 0 99) ∧
  st = ⟨45, [(2, .ptr 0 0), (3, .ptr 1 0), (4, cb false), (5, ci e)], [some ⟨true, [aW s]⟩, some ⟨true, [ci q, aW f.2]⟩]⟩, f.2.length, ⟨0, 0, rfl, rfl, rfl, rfl⟩, ?_⟩
 rintro m st ⟨k, _, rfl, hm, hall, rfl⟩
 conv => whnf
 split <;> rename_i h3
 all_goals simp only [decide_eq_true_eq, decide_eq_false_iff_not] at h3
 ·conv => whnf
  have hk : k < f.2.length := by omega
  rw [kN hk] at hall
  refine ⟨by omega, a6 a7 _, ?_⟩
  conv => whnf
  refine ⟨_, aD (k := k) a7 hk, ?_⟩
  conv => whnf
  refine ⟨_, iK f.2[k] 0 99, .inl rfl, .inl ?_⟩
  conv => whnf
  generalize inR f.2[k] 0 99 = b1 at hall
  cases b1 with
  | false =>
   conv => whnf
   rw [hall]
   rfl
  | true =>
   conv => whnf
   rw [Bool.true_and] at hall
   exact ⟨m - 1, by omega, k + 1, _, a8 (by omega) (by omega), by omega, hall, rfl⟩
 ·conv => whnf
  rw [bG (by omega)] at hall
  rw [hall]
  rfl
set_option maxHeartbeats 4000000 in
theorem mY (s : List Int) (db : List aG) (hs : s.length ≤ 1099511627776) (hd : d6 db ≤ 1048576) : bI Tryz.prog 26 [aV s, c7 db] (cb (qA s db)) := by
 unfold d6 at hd
 refine aF mx aJ Tryz.func26 rfl ?_
 conv => whnf
 unfold qA
 refine ⟨[(1,0),(2,0),(4,0),(5,0)], fun m st => ∃ (k : Nat) (e : Int), e = k ∧ m + k = db.length ∧ C1 s none db = C1 s (mL db k) (db.drop k) ∧
  st = ⟨43, [(1, c7 db), (2, .ptr 0 0), (4, cb false), (5, ci e)], [some ⟨true, [aW s]⟩]⟩, db.length, ⟨0, 0, rfl, rfl, rfl, rfl⟩, ?_⟩
 rintro m st ⟨k, _, rfl, hm, hall, rfl⟩
 conv => whnf
 split <;> rename_i h3
 all_goals simp only [decide_eq_true_eq, decide_eq_false_iff_not] at h3
 ·conv => whnf
  have hk : k < db.length := by omega
  have hb := bH (f := eF) hk
  have hcb : eF db[k] = db[k].2.length := rfl
  rw [List.drop_eq_getElem_cons hk, C1] at hall
  have hnext : mL db (k + 1) = some db[k] := by simp [mL, hk]
  refine ⟨List.range 24, by kernel_rfl, ?_⟩
  conv => whnf
  refine ⟨by omega, a6 aS _, ?_⟩
  conv => whnf
  refine ⟨_, aD (k := k) aS hk, ?_⟩
  conv => whnf
  refine ⟨_, CG s db[k] hs (by omega), .inl rfl, .inl ?_⟩
  conv => whnf
  generalize w7 s db[k] = b1 at hall
  cases b1 with
  | false =>
   conv => whnf
   rw [hall]
   rfl
  | true =>
   conv => whnf
   generalize hc2 : decide ((k : Int) > 0) = c2
   cases c2 with
   | false =>
    have hk0 : k = 0 := by have := of_decide_eq_false hc2; omega
    subst hk0
    conv => whnf
    simp only [mL, if_true, OE, Bool.true_and] at hall
    exact ⟨m - 1, by omega, 0 + 1, _, a8 (by omega) (by omega), by omega, by rw [hnext]; exact hall, rfl⟩
   | true =>
    have hk0 : ¬ k = 0 := by have := of_decide_eq_true hc2; omega
    obtain ⟨j, rfl⟩ : ∃ j, k = j + 1 := ⟨k - 1, by omega⟩
    have hj : j < db.length := by omega
    have hb2 := bH (f := eF) hj
    have hcb2 : eF db[j] = db[j].2.length := rfl
    have hp : mL db (j + 1) = some db[j] := by simp [mL, hj]
    have hw : IntKind.i64.wrap (((j + 1 : Nat) : Int) - 1) = (j : Int) := by rw [a8 (by omega) (by omega)]; omega
    rw [hp] at hall
    conv => whnf
    rw [hw]
    refine ⟨by omega, a6 aS _, ?_⟩
    conv => whnf
    refine ⟨_, aD (k := j) aS hj, ?_⟩
    conv => whnf
    refine ⟨by omega, a6 aS _, ?_⟩
    conv => whnf
    refine ⟨_, aD (k := j + 1) aS hk, ?_⟩
    conv => whnf
    refine ⟨_, BC db[j] db[j + 1] (by omega) (by omega), .inl rfl, .inl ?_⟩
    conv => whnf
    simp only [OE, Bool.true_and] at hall
    generalize ltF db[j] db[j + 1] = b3 at hall
    cases b3 with
    | false =>
     conv => whnf
     rw [hall]
     rfl
    | true =>
     conv => whnf
     rw [Bool.true_and] at hall
     exact ⟨m - 1, by omega, j + 1 + 1, _, a8 (by omega) (by omega), by omega, by rw [hnext]; exact hall, rfl⟩
 ·conv => whnf
  rw [bG (by omega)] at hall
  rw [hall]
  refine ⟨_, fI s hs, .inl rfl, .inl ?_⟩
  conv => whnf
  generalize dE s = b1
  cases b1 with
  | false =>
   conv => whnf
   rfl
  | true =>
   conv => whnf
   show cb _ = cb _
   congr 1
   simp only [C1, Bool.true_and, decide_eq_decide]
   omega
theorem gP {s : List Int} {q : cI} (h : aH s q = true) : q.1.all aU = true ∧ (∀ a ∈ q.2, a.2.all aU = true) ∧ q.2.length ≤ 8 := by
 have h0 := h
 simp only [aH, nW, d5, Bool.and_eq_true, decide_eq_true_eq] at h
 refine ⟨?_, ?_, ?_⟩
 ·exact h.2.1.1
 ·intro a ha
  have := List.all_eq_true.1 h.2.2.2.1 a ha
  simp only [fM, Bool.and_eq_true] at this
  exact this.2
 ·have := h.2.2.1
  simp only [inR, Bool.and_eq_true, decide_eq_true_eq] at this
  omega
def zB (s : List Int) (q : cI) (db : List aG) : List (List Int) := if aH s q && qA s db then oH q db else []
theorem xO {s : List Int} {db : List aG} (h : qA s db = true) : db.length ≤ 24 := by
 simp only [qA, Bool.and_eq_true, decide_eq_true_eq] at h
 exact h.2.2
theorem A9 {n m : Nat} (hn : n ≤ 24) (hm : m ≤ 8) : n ^ m ≤ 549755813888 := by
 have h1 : n ^ m ≤ 24 ^ m := Nat.pow_le_pow_left hn m
 have h2 : 24 ^ m ≤ 24 ^ 8 := Nat.pow_le_pow_right (by decide) hm
 have h3 : 24 ^ 8 ≤ 549755813888 := by decide
 omega
theorem yQ (s : List Int) (q : cI) (db : List aG) (hs : cT s ≤ 1048576) (hq : aC q ≤ 1048576) (hd : d6 db ≤ 1048576) : bI Tryz.prog 10 [aV s, aP q, c7 db] (pM (zB s q db)) := by
 have hs' : s.length ≤ 1099511627776 := by unfold cT at hs; omega
 refine aF mx aJ Tryz.func10 rfl ?_
 conv => whnf
 refine ⟨_, dU s q hs hq, .inl rfl, .inl ?_⟩
 conv => whnf
 unfold zB
 generalize hb1 : aH s q = b1
 cases b1 with
 | false =>
  conv => whnf
  exact ⟨rfl, rfl⟩
 | true =>
  conv => whnf
  refine ⟨_, mY s db hs' hd, .inl rfl, .inl ?_⟩
  conv => whnf
  generalize hb2 : qA s db = b2
  cases b2 with
  | false =>
   conv => whnf
   exact ⟨rfl, rfl⟩
  | true =>
   conv => whnf
   obtain ⟨t1, t2, t3⟩ := gP hb1
   refine ⟨_, Q8 q db hq hd t2 (A9 (xO hb2) t3), .inl rfl, .inr ?_⟩
   conv => whnf
   refine ⟨by rw [a6 dN], rfl⟩
theorem XX {once : Bool} {out : List (List Int)} {v x : List Int} (h : x ∈ l4 once out v) : x = v ∨ x ∈ out := by
 unfold l4 at h
 split at h
 ·exact .inr h
 ·rcases List.mem_append.1 h with h | h
  ·exact .inr (List.mem_of_mem_take h)
  ·rcases List.mem_cons.1 h with h | h
   ·exact .inl h
   ·exact .inr (List.mem_of_mem_drop h)
theorem XC (once : Bool) (out : List (List Int)) (v : List Int) : (l4 once out v).length ≤ out.length + 1 := by
 unfold l4
 split
 ·omega
 ·rw [List.length_append, List.length_cons, List.length_take, List.length_drop]; omega
theorem E5 (once : Bool) : ∀ (l out : List (List Int)), (∀ x ∈ l.foldl (l4 once) out, x ∈ l ∨ x ∈ out) ∧ (l.foldl (l4 once) out).length ≤ l.length + out.length
 | [], out => ⟨fun x h => .inr h, by simp⟩
 | v :: l, out => by
  obtain ⟨h1, h2⟩ := E5 once l (l4 once out v)
  have h3 := XC once out v
  refine ⟨fun x hx => ?_, ?_⟩
  ·rcases h1 x hx with h | h
   ·exact .inl (by simp [h])
   ·rcases XX h with h | h
    ·exact .inl (by simp [h])
    ·exact .inr h
  ·rw [List.foldl_cons, List.length_cons]; omega
theorem uR {once : Bool} {l : List (List Int)} {x : List Int} (h : x ∈ lB once l) : x ∈ l := by
 rcases (E5 once l []).1 x h with h | h
 ·exact h
 ·cases h
theorem v6 (once : Bool) (l : List (List Int)) : (lB once l).length ≤ l.length := (E5 once l []).2
theorem LE (q : cI) (db : List aG) : (∀ v ∈ oH q db, ∃ b ∈ c8 db q.2 fF, v = sV b) ∧ (oH q db).length ≤ db.length ^ q.2.length := by
 refine ⟨fun v hv => ?_, ?_⟩
 ·obtain ⟨b, hb, rfl⟩ := List.mem_map.1 (uR hv)
  exact ⟨b, hb, rfl⟩
 ·have h1 := v6 true ((c8 db q.2 fF).map sV)
  rw [List.length_map] at h1
  exact Nat.le_trans h1 (iG db q.2 fF)
theorem NP (q : cI) (hq : aC q ≤ 1048576) : bI Tryz.prog 76 [aP q, kZ []] (pM []) := by
 refine aF mx aJ Tryz.func76 rfl ?_
 conv => whnf
 refine ⟨[(1,0),(2,0),(4,0),(5,0),(6,0)], fun m s => s = ⟨25, [(1, kZ []), (2, .ptr 0 0), (4, cG), (5, .own 1 1 0 0 0 none), (6, ci 0)], [some ⟨true, aO q⟩, some ⟨false, []⟩]⟩, 0, rfl, ?_⟩
 rintro m s rfl
 conv => whnf
 exact ⟨rfl, rfl⟩
theorem FN (v : List Int) (out : List (List Int)) : ∀ n, n ≤ out.length → kC v out n ≤ n ∧ (∀ j, kC v out n ≤ j → j < n → ∀ h : j < out.length, ltI v out[j] = true) ∧ (0 < kC v out n → ltI v (out.getD (kC v out n - 1) []) = false)
 | 0, _ => ⟨Nat.le_refl _, fun j _ h => absurd h (Nat.not_lt_zero _), fun h => absurd h (by simp [kC])⟩
 | n + 1, hn => by
  obtain ⟨i1, i2, i3⟩ := FN v out n (by omega)
  have hg : out.getD n [] = out[n] := by rw [List.getD_eq_getElem?_getD, List.getElem?_eq_getElem (by omega)]; rfl
  simp only [kC]
  split
  ·rename_i h
   refine ⟨by omega, fun j h1 h2 h3 => ?_, i3⟩
   by_cases e : j = n
   ·subst e; rw [← hg]; exact h
   ·exact i2 j h1 (by omega) h3
  ·rename_i h
   exact ⟨Nat.le_refl _, fun j h1 h2 => by omega, fun _ => by simpa using h⟩
theorem ZY {out : List (List Int)} (hs : fR ltI out) (v : List Int) : fR ltI (l4 true out v) ∧ ∀ x, x ∈ l4 true out v ↔ x = v ∨ x ∈ out := by
 obtain ⟨h1, h2, h3⟩ := FN v out out.length (Nat.le_refl _)
 unfold l4
 generalize kC v out out.length = k at *
 have hpw := List.pairwise_iff_getElem.1 hs
 by_cases hc : (true && decide (0 < k) && decide (out.getD (k - 1) [] = v)) = true
 ·rw [if_pos hc]
  simp only [Bool.and_eq_true, decide_eq_true_eq, true_and] at hc
  have hk1 : k - 1 < out.length := by omega
  have hg : out.getD (k - 1) [] = out[k - 1] := by rw [List.getD_eq_getElem?_getD, List.getElem?_eq_getElem hk1]; rfl
  refine ⟨hs, fun x => ⟨.inr, ?_⟩⟩
  rintro (rfl | h)
  ·rw [← hc.2, hg]; exact List.getElem_mem hk1
  ·exact h
 ·rw [if_neg hc]
  have hlow : ∀ j (h : j < out.length), j < k → ltI out[j] v = true := by
   intro j h hj
   have hk0 : 0 < k := by omega
   have hk1 : k - 1 < out.length := by omega
   have hg : out.getD (k - 1) [] = out[k - 1] := by rw [List.getD_eq_getElem?_getD, List.getElem?_eq_getElem hk1]; rfl
   have h4 := h3 hk0
   rw [hg] at h4
   have h5 : ¬ out[k - 1] = v := fun e => hc (by rw [hg]; simp [hk0, e])
   have h6 : ltI out[k - 1] v = true := by
    rcases rM.tri out[k - 1] v with h | h | h
    ·exact h
    ·exact absurd h h5
    ·rw [h4] at h; cases h
   by_cases e : j = k - 1
   ·subst e; exact h6
   ·exact rM.tr _ _ _ (hpw j (k - 1) h hk1 (by omega)) h6
  refine ⟨?_, fun x => ?_⟩
  ·refine List.pairwise_append.2 ⟨hs.sublist (List.take_sublist _ _), List.pairwise_cons.2 ⟨fun x hx => ?_, hs.sublist (List.drop_sublist _ _)⟩, fun x hx y hy => ?_⟩
   ·obtain ⟨j, hj, rfl⟩ := List.getElem_of_mem hx
    rw [List.length_drop] at hj
    rw [List.getElem_drop]
    exact h2 (k + j) (by omega) (by omega) (by omega)
   ·obtain ⟨j, hj, rfl⟩ := List.getElem_of_mem hx
    rw [List.length_take] at hj
    rw [List.getElem_take]
    have h4 := hlow j (by omega) (by omega)
    rcases List.mem_cons.1 hy with rfl | hy
    ·exact h4
    ·obtain ⟨p, hp, rfl⟩ := List.getElem_of_mem hy
     rw [List.length_drop] at hp
     rw [List.getElem_drop]
     exact rM.tr _ _ _ h4 (h2 (k + p) (by omega) (by omega) (by omega))
  ·rw [List.mem_append, List.mem_cons]
   constructor
   ·rintro (h | h | h)
    ·exact .inr (List.mem_of_mem_take h)
    ·exact .inl h
    ·exact .inr (List.mem_of_mem_drop h)
   ·rintro (h | h)
    ·exact .inr (.inl h)
    ·rw [← List.take_append_drop k out] at h
     rcases List.mem_append.1 h with h | h
     ·exact .inl h
     ·exact .inr (.inr h)
theorem YS (l : List (List Int)) : fR ltI (lB true l) ∧ ∀ x, x ∈ lB true l ↔ x ∈ l := by
 have : ∀ (l out : List (List Int)), fR ltI out → fR ltI (l.foldl (l4 true) out) ∧ ∀ x, x ∈ l.foldl (l4 true) out ↔ x ∈ l ∨ x ∈ out := by
  intro l
  induction l with
  | nil => intro out h; exact ⟨h, fun x => by simp⟩
  | cons v l ih =>
   intro out h
   obtain ⟨h1, h2⟩ := ZY h v
   obtain ⟨i1, i2⟩ := ih _ h1
   refine ⟨i1, fun x => ?_⟩
   rw [List.foldl_cons, i2 x, h2 x, List.mem_cons]
   constructor
   ·rintro (h | h | h) <;> simp [h]
   ·rintro ((h | h) | h) <;> simp [h]
 obtain ⟨h1, h2⟩ := this l [] List.Pairwise.nil
 exact ⟨h1, fun x => by rw [lB, h2 x]; simp⟩
theorem QY {s : List Int} {q : cI} {db : List aG} (h : aH s q = true) {b : Bnd} (hb : b ∈ c8 db q.2 fF) : q.1.map (tS (sV b)) = qR b q.1 := by
 obtain ⟨t1, t2, t3⟩ := gP h
 refine List.map_congr_left fun t ht => Z0 b t (List.all_eq_true.1 t1 t ht) fun h0 => ?_
 simp only [aH, nW, Bool.and_eq_true] at h
 have hs := List.all_eq_true.1 h.2.2.2.2 t ht
 have hr : -80 ≤ t ∧ t ≤ 19 := by simpa [aU, inR] using List.all_eq_true.1 t1 t ht
 have hv : b8 t = true := by simp [b8, inR]; omega
 have hoc : iU q t = true := by simpa [tU, hv] using hs
 obtain ⟨a, ha, hx⟩ := List.any_eq_true.1 hoc
 obtain ⟨u, hu, he⟩ := List.any_eq_true.1 hx
 have hut : u = t := by
  have := he
  simp [eqV] at this
  first | exact this.symm | exact this
 subst hut
 exact (JD db q.2 fF b hb).2 a ha u hu h0
end Go.Proofs.YtboolngaahifdaaGreatD
