/- Contracts and plain laws of this seat; no condition. -/
import Derived.Test.YtcjdfeafcmfgpaaGreatQ33
import Derived.Test.YtcjdfeafcmfgpaaGreatQ34
import Derived.Test.YtcjdfeafcmfgpaaGreatQ36
set_option linter.unusedVariables false
set_option linter.unusedSimpArgs false
set_option maxRecDepth 100000
namespace Go.Proofs.YtcjdfeafcmfgpaaGreatD
open Go Go.Proofs
def allA (s : List Int) (l : List AtomC) : Prop := ∀ a ∈ l, isAtom s a = true
theorem allA_rep {s : List Int} {q : QueryT} {a b : Int} (h : allA s q.2) (hb : isTerm b = true) : allA s (pReplaceTerm q a b).2 := by
 intro x hx
 simp only [pReplaceTerm, List.mem_map] at hx
 obtain ⟨y, hy, rfl⟩ := hx
 have := h y hy
 simp only [isAtom, Bool.and_eq_true, repA, List.length_map] at this ⊢
 refine ⟨this.1, List.all_eq_true.2 fun z hz => ?_⟩
 obtain ⟨w, hw, rfl⟩ := List.mem_map.1 hz
 unfold rep1
 split
 ·exact hb
 ·exact List.all_eq_true.1 this.2 w hw
theorem allA_eqP {s : List Int} {q y : QueryT} {t u : Int} (h : allA s q.2) (ht : isTerm t = true) (hu : isTerm u = true) (he : eqP q t u = some y) : allA s y.2 ∧ y.2.length = q.2.length := by
 unfold eqP at he
 split at he
 ·cases he; exact ⟨h, rfl⟩
 ·split at he
  ·cases he
  ·split at he
   ·cases he; exact ⟨allA_rep h ht, by simp [pReplaceTerm]⟩
   ·cases he; exact ⟨allA_rep h hu, by simp [pReplaceTerm]⟩
theorem occurs_term {s : List Int} {q : QueryT} {t : Int} (h : allA s q.2) (ho : occurs q t = true) : isTerm t = true := by
 obtain ⟨a, ha, ht⟩ := occurs_mem.1 ho
 have := h a ha
 simp only [isAtom, Bool.and_eq_true] at this
 exact List.all_eq_true.1 this.2 t ht
theorem chz_all {s : List Int} {ks : List FactK} : ∀ (n : Nat) {q y : QueryT}, okA q.2 → allA s q.2 → chz ks n q = some y → allA s y.2 ∧ y.2.length ≤ q.2.length
 | 0, q, y, _, _, h => by cases h
 | n + 1, q, y, hok, ha, h => by
  simp only [chz] at h
  cases hv : viol q ks with
  | none =>
   rw [hv] at h
   cases h
   refine ⟨fun x hx => ?_, (dedup_bound cAtom q.2).1⟩
   rcases dedup_mem hx with hx | hx
   ·exact ha x hx
   ·cases hx
  | some r =>
   obtain ⟨k, i, j⟩ := r
   obtain ⟨_, _, g3, g4, g5, g6, g7⟩ := viol_terms hok hv
   rw [hv] at h
   simp only at h
   cases he : eqP q (tA q i j) (tB q i j) with
   | none => rw [he] at h; cases h
   | some z =>
    rw [he] at h
    obtain ⟨a1, a2⟩ := allA_eqP ha (occurs_term ha g4) (occurs_term ha g5) he
    obtain ⟨b1, b2⟩ := chz_all n (okA_eqP hok g6 g7 he) a1 h
    exact ⟨b1, by omega⟩
theorem allA_ok {s : List Int} {l : List AtomC} (h : allA s l) : okA l := by
 have key : ∀ a ∈ l, takesS s a.1 a.2.length = true ∧ a.2.all isTerm = true := fun a ha => by
  have := h a ha
  simpa only [isAtom, Bool.and_eq_true] using this
 refine ⟨fun a ha b hb hab => ?_, fun a ha t ht => ?_⟩
 ·have h1 := (key a ha).1
  have h2 := (key b hb).1
  simp only [takesS, Bool.and_eq_true, decide_eq_true_eq] at h1 h2
  rw [hab] at h1
  omega
 ·have := List.all_eq_true.1 (key a ha).2 t ht
  simp only [isTerm, inR, Bool.and_eq_true, decide_eq_true_eq] at this
  omega
def missGo (at0 : List AtomC) : Nat → List InclL → Option (Nat × Nat)
 | _, [] => none
 | n, x :: r => if 0 ≤ lackI at0 x then some (n, (lackI at0 x).toNat) else missGo at0 (n + 1) r
theorem firstI_get (p : Nat → Bool) : ∀ (ks : List Nat), firstI p ks = -1 ∨ ∃ k ∈ ks, firstI p ks = (k : Int) ∧ p k = true
 | [] => .inl rfl
 | k :: ks => by
  unfold firstI
  cases hp : p k with
  | true => right; exact ⟨k, by simp, by simp, hp⟩
  | false =>
   rcases firstI_get p ks with h | ⟨j, h1, h2, h3⟩
   ·left; simpa using h
   ·right; exact ⟨j, by simp [h1], by simpa using h2, h3⟩
theorem lackI_some {at0 : List AtomC} {x : InclL} (h : 0 ≤ lackI at0 x) : (lackI at0 x).toNat < at0.length ∧ ((lackI at0 x).toNat : Int) = lackI at0 x ∧ okF at0 x (at0.getD (lackI at0 x).toNat (0, [])) = false := by
 rcases firstI_get (fun k => !okK at0 x k) (ran 0 at0.length) with h1 | ⟨k, h1, h2, h3⟩
 ·unfold lackI at h; omega
 ·have e : lackI at0 x = k := h2
  rw [e, Int.toNat_natCast]
  have := (ran_mem.1 h1).2
  exact ⟨this, rfl, by simpa [okK] using h3⟩
theorem missGo_some {at0 : List AtomC} : ∀ {l : List InclL} {n k i : Nat}, missGo at0 n l = some (k, i) → ∃ j, k = n + j ∧ ∃ h : j < l.length, i < at0.length ∧ (at0.getD i (0, [])).1 = l[j].1 ∧ (i : Int) = lackI at0 l[j]
 | [], n, k, i, h => by cases h
 | x :: r, n, k, i, h => by
  simp only [missGo] at h
  split at h
  ·rename_i h0
   cases h
   obtain ⟨a1, a2, a3⟩ := lackI_some h0
   refine ⟨0, rfl, by simp, a1, ?_, a2⟩
   simp only [okF, Bool.or_eq_false_iff, Bool.not_eq_false', decide_eq_true_eq] at a3
   exact a3.1
  ·obtain ⟨j, h1, h2, h3⟩ := missGo_some h
   exact ⟨j + 1, by omega, by simpa using h2, by simpa using h3⟩
def srcTo (x : InclL) (a : List Int) : Nat → Nat → Option Int
 | 0, _ => none
 | k + 1, p => if (x.2.2.2.getD k 0) = (p : Int) then some (getI a (x.2.1.getD k 0)) else srcTo x a k p
def slots (x : InclL) (a : List Int) (n k : Nat) : List (Option Int) := (List.range n).map (srcTo x a k)
theorem slots_len (x : InclL) (a : List Int) (n k : Nat) : (slots x a n k).length = n := by simp [slots]
theorem slots_zero (x : InclL) (a : List Int) (n : Nat) : slots x a n 0 = List.replicate n none := by
 refine List.ext_getElem? fun i => ?_
 simp only [slots, List.getElem?_map, List.getElem?_replicate]
 by_cases hi : i < n <;> simp [hi, srcTo]
theorem slots_succ (x : InclL) (a : List Int) (n k : Nat) {p : Nat} (h : x.2.2.2.getD k 0 = (p : Int)) (hp : p < n) : slots x a n (k + 1) = (slots x a n k).set p (some (getI a (x.2.1.getD k 0))) := by
 refine List.ext_getElem? fun i => ?_
 rw [List.getElem?_set]
 simp only [slots, List.getElem?_map, List.length_map, List.length_range]
 by_cases hi : i < n
 ·simp only [List.getElem?_range hi, Option.map_some, srcTo, h]
  by_cases hpi : p = i
  ·subst hpi; simp [hi]
  ·have : ¬ (p : Int) = (i : Int) := by omega
   simp [hpi, this]
 ·have e : (List.range n)[i]? = none := by simp; omega
  rw [e]
  simp only [Option.map_none]
  rw [if_neg (by rintro rfl; exact hi hp)]
def nextW (u : Nat → Bool) : Nat → Nat → Nat
 | 0, v => v
 | n + 1, v => if u v then nextW u n (v + 1) else v
def fillP (u : Nat → Bool) : List (Option Int) → Nat → List Int × Nat
 | [], v => ([], v)
 | some t :: r, v => (t :: (fillP u r v).1, (fillP u r v).2)
 | none :: r, v => ((nextW u (20 - v) v : Int) :: (fillP u r (nextW u (20 - v) v + 1)).1, (fillP u r (nextW u (20 - v) v + 1)).2)
theorem nextW_ge (u : Nat → Bool) : ∀ n v, v ≤ nextW u n v
 | 0, v => Nat.le_refl _
 | n + 1, v => by
  unfold nextW
  split
  ·have := nextW_ge u n (v + 1); omega
  ·exact Nat.le_refl _
theorem nextW_le (u : Nat → Bool) : ∀ n v, nextW u n v ≤ v + n
 | 0, v => Nat.le_refl _
 | n + 1, v => by
  unfold nextW
  split
  ·have := nextW_le u n (v + 1); omega
  ·omega
theorem nextW_used (u : Nat → Bool) : ∀ n v w, v ≤ w → w < nextW u n v → u w = true
 | 0, v, w, h1, h2 => by simp [nextW] at h2; omega
 | n + 1, v, w, h1, h2 => by
  unfold nextW at h2
  split at h2
  ·rename_i hu
   rcases Nat.eq_or_lt_of_le h1 with rfl | h3
   ·exact hu
   ·exact nextW_used u n (v + 1) w h3 h2
  ·omega
theorem nextW_free (u : Nat → Bool) (hu : ∀ w, 20 ≤ w → u w = false) : ∀ n v, v + n = 20 ∨ (20 ≤ v ∧ n = 0) → u (nextW u n v) = false
 | 0, v, h => hu _ (by simp [nextW]; omega)
 | n + 1, v, h => by
  unfold nextW
  split
  ·exact nextW_free u hu n (v + 1) (by omega)
  ·rename_i h1; simpa using h1
theorem fillP_len (u : Nat → Bool) : ∀ (os : List (Option Int)) (v : Nat), (fillP u os v).1.length = os.length
 | [], v => rfl
 | some t :: r, v => by simp only [fillP, List.length_cons, fillP_len u r]
 | none :: r, v => by simp only [fillP, List.length_cons, fillP_len u r]
theorem fillP_ge (u : Nat → Bool) : ∀ (os : List (Option Int)) (v : Nat), v ≤ (fillP u os v).2
 | [], v => Nat.le_refl _
 | some t :: r, v => by simp only [fillP]; exact fillP_ge u r v
 | none :: r, v => by
  simp only [fillP]
  have h1 := fillP_ge u r (nextW u (20 - v) v + 1)
  have h2 := nextW_ge u (20 - v) v
  omega
def addArgs (q : QueryT) (x : InclL) (a : List Int) (n : Nat) : List Int × Nat := fillP (fun v : Nat => has (varsOf q) (v : Int)) (slots x a n x.2.2.2.length) 0
def addP (s : List Int) (q : QueryT) (x : InclL) (a : AtomC) : Option AtomC := if (addArgs q x a.2 (s.getD x.2.2.1.toNat 0).toNat).2 ≤ 20 then some (x.2.2.1, (addArgs q x a.2 (s.getD x.2.2.1.toNat 0).toNat).1) else none
def bothGo (s : List Int) (ks : List FactK) (l : List InclL) : Nat → QueryT → QueryT × Int
 | n, q => match chZ ks q with
  | none => (([], []), 1)
  | some y => match missGo y.2 0 l with
   | none => (y, 0)
   | some (k, i) => match addP s y (l.getD k (0, [], 0, [])) (y.2.getD i (0, [])) with
    | none => (y, 2)
    | some a => if y.2.length = 8 then (y, 2) else match n with
     | 0 => (y, 2)
     | n + 1 => bothGo s ks l n (y.1, y.2 ++ [a])
def areIncls (s : List Int) (l : List InclL) : Bool := l.all (pIsInclusion s) && decide (l.length ≤ 3)
def pChaseBoth (s : List Int) (q : QueryT) (ks : List FactK) (l : List InclL) : QueryT × Int := if isQuery s q && (pAreKeys s ks && areIncls s l) then bothGo s ks l 40 q else (([], []), 1)
theorem incl_ok {s : List Int} {x : InclL} (h : pIsInclusion s x = true) : 0 ≤ x.1 ∧ x.1 < s.length ∧ 0 ≤ x.2.2.1 ∧ x.2.2.1 < s.length ∧ x.2.1.length = x.2.2.2.length ∧ arePl (s.getD x.1.toNat 0) x.2.1 = true ∧ arePl (s.getD x.2.2.1.toNat 0) x.2.2.2 = true := by
 simp only [pIsInclusion, isIncl, Bool.and_eq_true, beq_iff_eq] at h
 obtain ⟨⟨⟨⟨⟨h1, h2⟩, h3⟩, h4⟩, h5⟩, h6⟩ := h
 simp only [inR, Bool.and_eq_true, decide_eq_true_eq] at h2 h3
 exact ⟨h2.1, by omega, h3.1, by omega, h4, h5, h6⟩
theorem incl_size {l : List InclL} (h : cInclusionS l ≤ 1048576) {k : Nat} (hk : k < l.length) : l[k].2.1.length ≤ 1048576 ∧ l[k].2.2.2.length ≤ 1048576 ∧ cInclusion l[k] ≤ 1048576 := by
 have h1 := sumB_one (f := cInclusion) hk
 have h2 : cInclusion l[k] = l[k].2.1.length + l[k].2.2.2.length := rfl
 unfold cInclusionS at h
 omega
theorem areInclusions_spec (s : List Int) (l : List InclL) (hs : s.length ≤ 1099511627776) (h : cInclusionS l ≤ 1048576) : Spec Tryz.prog 117 [vSchema s, vInclusionS l] (cb (areIncls s l)) := by
 have hl : l.length ≤ 1048576 := by unfold cInclusionS at h; omega
 refine Spec_of mx Γ_ok Tryz.func117 rfl ?_
 conv => whnf
 refine ⟨[(1,0),(2,0),(4,0),(7,0),(8,0),(9,0)], fun m st => ∃ (k : Nat) (e : Int), e = k ∧ m + k = l.length ∧ areIncls s l = ((l.drop k).all (pIsInclusion s) && decide (l.length ≤ 3)) ∧
  st = ⟨21, [(1, vInclusionS l), (2, .ptr 0 0), (4, cb false), (7, vInclusionS l), (8, ci l.length), (9, ci e)], [some ⟨true, [ints s]⟩]⟩, l.length, ⟨0, 0, rfl, rfl, rfl, by kernel_rfl⟩, ?_⟩
 rintro m st ⟨k, _, rfl, hm, hall, rfl⟩
 conv => whnf
 split <;> rename_i h1
 all_goals simp only [decide_eq_true_eq, decide_eq_false_iff_not] at h1
 ·conv => whnf
  have hk : k < l.length := by omega
  obtain ⟨b1, b2, b3⟩ := incl_size h hk
  rw [drop_all hk] at hall
  refine ⟨by omega, rows_len rInclusion_len _, ?_⟩
  conv => whnf
  refine ⟨_, takeN_rp (k := k) rInclusion_len hk, ?_⟩
  conv => whnf
  refine ⟨_, implIsInclusion_gen s l[k].1 l[k].2.1 l[k].2.2.1 l[k].2.2.2 hs (by omega) (by omega), .inl rfl, .inl ?_⟩
  rw [show isIncl s l[k].1 l[k].2.1 l[k].2.2.1 l[k].2.2.2 = pIsInclusion s l[k] from rfl]
  generalize pIsInclusion s l[k] = b at hall
  cases b with
  | false =>
   conv => whnf
   rw [hall]; rfl
  | true =>
   conv => whnf
   rw [Bool.true_and] at hall
   exact ⟨m - 1, by omega, k + 1, IntKind.i64.wrap ((k : Int) + 1), wrap_id (by omega) (by omega), by omega, hall, by kernel_rfl⟩
 ·conv => whnf
  rw [hall, drop_end (by omega), List.all_nil, Bool.true_and]
  show cb (decide ((l.length : Int) ≤ 3)) = cb (decide (l.length ≤ 3))
  congr 1
  rw [decide_eq_decide]; omega
theorem l14Are_spec (s : List Int) (l : List InclL) (hs : s.length ≤ 1099511627776) (h : cInclusionS l ≤ 1048576) : Spec Tryz.prog 119 [vSchema s, vInclusionS l] (cb (areIncls s l)) := by
 have hl : l.length ≤ 1048576 := by unfold cInclusionS at h; omega
 refine Spec_of mx Γ_ok Tryz.func119 rfl ?_
 conv => whnf
 refine ⟨[(1,0),(2,0),(4,0),(5,0)], fun m st => ∃ (k : Nat) (e : Int), e = k ∧ m + k = l.length ∧ areIncls s l = ((l.drop k).all (pIsInclusion s) && decide (l.length ≤ 3)) ∧
  st = ⟨22, [(1, vInclusionS l), (2, .ptr 0 0), (4, cb false), (5, ci e)], [some ⟨true, [ints s]⟩]⟩, l.length, ⟨0, 0, rfl, rfl, rfl, by kernel_rfl⟩, ?_⟩
 rintro m st ⟨k, _, rfl, hm, hall, rfl⟩
 conv => whnf
 split <;> rename_i h1
 all_goals simp only [decide_eq_true_eq, decide_eq_false_iff_not] at h1
 ·conv => whnf
  have hk : k < l.length := by omega
  obtain ⟨b1, b2, b3⟩ := incl_size h hk
  rw [drop_all hk] at hall
  refine ⟨List.range 7, by kernel_rfl, ?_⟩
  conv => whnf
  refine ⟨by omega, rows_len rInclusion_len _, ?_⟩
  conv => whnf
  refine ⟨_, takeN_rp (k := k) rInclusion_len hk, ?_⟩
  conv => whnf
  refine ⟨_, specIsInclusion_gen s l[k].1 l[k].2.1 l[k].2.2.1 l[k].2.2.2 hs (by omega) (by omega), .inl rfl, .inl ?_⟩
  rw [show isIncl s l[k].1 l[k].2.1 l[k].2.2.1 l[k].2.2.2 = pIsInclusion s l[k] from rfl]
  generalize pIsInclusion s l[k] = b at hall
  cases b with
  | false =>
   conv => whnf
   rw [hall]; rfl
  | true =>
   conv => whnf
   rw [Bool.true_and] at hall
   exact ⟨m - 1, by omega, k + 1, IntKind.i64.wrap ((k : Int) + 1), wrap_id (by omega) (by omega), by omega, hall, by kernel_rfl⟩
 ·conv => whnf
  rw [hall, drop_end (by omega), List.all_nil, Bool.true_and]
  show cb (decide ((l.length : Int) ≤ 3)) = cb (decide (l.length ≤ 3))
  congr 1
  rw [decide_eq_decide]; omega
def wMiss : Option (Nat × Nat) → V
 | none => .tup [ci (-1), ci (-1)]
 | some (k, i) => .tup [ci k, ci i]
def lackFrom (at0 : List AtomC) (x : InclL) (i : Nat) : Int := firstI (fun k => !okK at0 x k) (ran i at0.length)
theorem lackFrom_at (at0 : List AtomC) (x : InclL) {i : Nat} (hi : i < at0.length) : lackFrom at0 x i = if okF at0 x at0[i] then lackFrom at0 x (i + 1) else (i : Int) := by
 unfold lackFrom
 rw [ran_at hi]
 rw [show okF at0 x at0[i] = okK at0 x i from by rw [okK, getD_fact hi]]
 conv => lhs; unfold firstI
 cases okK at0 x i <;> simp
theorem lackFrom_end (at0 : List AtomC) (x : InclL) {i : Nat} (hi : at0.length ≤ i) : lackFrom at0 x i = -1 := by
 unfold lackFrom
 rw [ran_end hi]; rfl
def stepMi (at0 : List AtomC) (n : Nat) (x : InclL) (r : List InclL) (i : Nat) : Option (Nat × Nat) := if 0 ≤ lackFrom at0 x i then some (n, (lackFrom at0 x i).toNat) else missGo at0 (n + 1) r
set_option maxHeartbeats 4000000 in
theorem l14Missing_spec (q : QueryT) (l : List InclL) (hq : cQuery q ≤ 1048576) (h : cInclusionS l ≤ 1048576) : Spec Tryz.prog 127 [vQuery q, vInclusionS l] (wMiss (missGo q.2 0 l)) := by
 have hl : l.length ≤ 1048576 := by unfold cInclusionS at h; omega
 have hq' := hq
 unfold cQuery cAtomS at hq'
 refine Spec_of mx Γ_ok Tryz.func127 rfl ?_
 conv => whnf
 refine ⟨[(1,0),(2,0),(4,0),(5,0),(6,0)], fun m st => ∃ (k : Nat) (e : Int), e = k ∧ m + k = l.length ∧ missGo q.2 0 l = missGo q.2 k (l.drop k) ∧
  st = ⟨80, [(1, vInclusionS l), (2, .ptr 0 0), (4, ci 0), (5, ci 0), (6, ci e)], [some ⟨true, rQuery q⟩]⟩, l.length, ⟨0, 0, rfl, rfl, rfl, by kernel_rfl⟩, ?_⟩
 rintro m st ⟨k, _, rfl, hm, hall, rfl⟩
 conv => whnf
 split <;> rename_i h1
 all_goals simp only [decide_eq_true_eq, decide_eq_false_iff_not] at h1
 ·have hk : k < l.length := by omega
  obtain ⟨b1, b2, b3⟩ := incl_size h hk
  have hall2 : missGo q.2 0 l = stepMi q.2 k l[k] (l.drop (k + 1)) 0 := by
   rw [hall, List.drop_eq_getElem_cons hk]; rfl
  clear hall
  conv => whnf
  refine ⟨[(1,0),(2,0),(4,0),(5,0),(6,0),(7,0)], fun m st => ∃ (i : Nat) (e : Int), e = i ∧ m + i = q.2.length ∧ missGo q.2 0 l = stepMi q.2 k l[k] (l.drop (k + 1)) i ∧
   st = ⟨80, [(1, vInclusionS l), (2, .ptr 0 0), (4, ci 0), (5, ci 0), (6, ci k), (7, ci e)], [some ⟨true, rQuery q⟩]⟩, q.2.length, ⟨0, 0, rfl, rfl, hall2, by kernel_rfl⟩, ?_⟩
  clear hall2
  rintro m1 st ⟨i, _, rfl, hm1, hall, rfl⟩
  conv => whnf
  split <;> rename_i h2
  all_goals simp only [decide_eq_true_eq, decide_eq_false_iff_not] at h2
  ·have hi : i < q.2.length := by omega
   have hbi := sumB_one (f := cAtom) hi
   have hci : cAtom q.2[i] = q.2[i].2.length := rfl
   have hgo : okF q.2 l[k] q.2[i] = true → missGo q.2 0 l = stepMi q.2 k l[k] (l.drop (k + 1)) (i + 1) := fun ho => by
    rw [hall]; unfold stepMi; rw [lackFrom_at _ _ hi, if_pos ho]
   have hbad : okF q.2 l[k] q.2[i] = false → missGo q.2 0 l = some (k, i) := fun ho => by
    have e : lackFrom q.2 l[k] i = (i : Int) := by rw [lackFrom_at _ _ hi, ho]; rfl
    rw [hall, stepMi, e, if_pos (by omega), Int.toNat_natCast]
   conv => whnf
   refine ⟨List.range 12, by kernel_rfl, ?_⟩
   conv => whnf
   refine ⟨by omega, rows_len rAtom_len _, ?_⟩
   conv => whnf
   refine ⟨_, takeN_rp_field (k := i) (d := 0) (m := 1) (r := [ci q.2[i].1]) rAtom_len hi (by omega) rfl, ?_⟩
   conv => whnf
   refine ⟨by omega, rows_len rInclusion_len _, ?_⟩
   conv => whnf
   refine ⟨_, takeN_rp_field (k := k) (d := 0) (m := 1) (r := [ci l[k].1]) rInclusion_len hk (by omega) rfl, ?_⟩
   conv => whnf
   generalize hb2 : (q.2[i].1 != l[k].1) = b2
   cases b2 with
   | true =>
    conv => whnf
    refine ⟨m1 - 1, by omega, i + 1, IntKind.i64.wrap ((i : Int) + 1), wrap_id (by omega) (by omega), by omega, hgo ?_, by kernel_rfl⟩
    rw [okF, decide_eq_false (by simpa using hb2), Bool.not_false, Bool.true_or]
   | false =>
   conv => whnf
   have hok : okF q.2 l[k] q.2[i] = q.2.any (lackP l[k] q.2[i]) := by
    rw [okF, decide_eq_true (by simpa using hb2), Bool.not_true, Bool.false_or]
   rw [hok] at hgo hbad
   refine ⟨[(1,0),(2,0),(4,0),(5,0),(6,0),(7,0),(8,0),(9,0)], fun m st => ∃ (j : Nat) (e : Int) (fl : Bool), e = j ∧ m + j = q.2.length ∧ q.2.any (lackP l[k] q.2[i]) = (fl || (q.2.drop j).any (lackP l[k] q.2[i])) ∧
    st = ⟨80, [(1, vInclusionS l), (2, .ptr 0 0), (4, ci 0), (5, ci 0), (6, ci k), (7, ci i), (8, cb fl), (9, ci e)], [some ⟨true, rQuery q⟩]⟩, q.2.length, ⟨0, 0, false, rfl, rfl, rfl, by kernel_rfl⟩, ?_⟩
   rintro m2 st ⟨j, _, fl, rfl, hm2, hany, rfl⟩
   conv => whnf
   split <;> rename_i h4
   all_goals simp only [decide_eq_true_eq, decide_eq_false_iff_not] at h4
   ·conv => whnf
    have hj : j < q.2.length := by omega
    have hbj := sumB_one (f := cAtom) hj
    have hcj : cAtom q.2[j] = q.2[j].2.length := rfl
    rw [drop_any hj] at hany
    refine ⟨List.range 35, by kernel_rfl, ?_⟩
    conv => whnf
    cases fl with
    | true =>
     conv => whnf
     exact ⟨m2 - 1, by omega, j + 1, IntKind.i64.wrap ((j : Int) + 1), true, wrap_id (by omega) (by omega), by omega, by rw [hany, Bool.true_or, Bool.true_or], by kernel_rfl⟩
    | false =>
    conv => whnf
    rw [Bool.false_or] at hany
    refine ⟨by omega, rows_len rAtom_len _, ?_⟩
    conv => whnf
    refine ⟨_, takeN_rp_field (k := j) (d := 0) (m := 1) (r := [ci q.2[j].1]) rAtom_len hj (by omega) rfl, ?_⟩
    conv => whnf
    refine ⟨by omega, rows_len rInclusion_len _, ?_⟩
    conv => whnf
    refine ⟨_, takeN_rp_field (k := k) (d := 2) (m := 1) (r := [ci l[k].2.2.1]) rInclusion_len hk (by omega) rfl, ?_⟩
    conv => whnf
    generalize hb5 : (q.2[j].1 == l[k].2.2.1) = b5
    cases b5 with
    | false =>
     conv => whnf
     refine ⟨m2 - 1, by omega, j + 1, IntKind.i64.wrap ((j : Int) + 1), false, wrap_id (by omega) (by omega), by omega, ?_, by kernel_rfl⟩
     rw [hany, lackP, decide_eq_false (by simpa using hb5), Bool.false_and, Bool.false_or]
    | true =>
    conv => whnf
    refine ⟨by omega, rows_len rAtom_len _, ?_⟩
    conv => whnf
    refine ⟨_, takeN_rp_field (k := i) (d := 1) (m := 1) (r := [ints q.2[i].2]) rAtom_len hi (by omega) rfl, ?_⟩
    conv => whnf
    refine ⟨by omega, rows_len rAtom_len _, ?_⟩
    conv => whnf
    refine ⟨_, takeN_rp_field (k := j) (d := 1) (m := 1) (r := [ints q.2[j].2]) rAtom_len hj (by omega) rfl, ?_⟩
    conv => whnf
    refine ⟨by omega, rows_len rInclusion_len _, ?_⟩
    conv => whnf
    refine ⟨_, takeN_rp (k := k) rInclusion_len hk, ?_⟩
    conv => whnf
    refine ⟨_, l14Fits_spec q.2[i].2 q.2[j].2 l[k] (by omega) (by omega) (by omega) (by omega), .inl rfl, .inl ?_⟩
    conv => whnf
    refine ⟨m2 - 1, by omega, j + 1, IntKind.i64.wrap ((j : Int) + 1), agreeI q.2[i].2 l[k].2.1 q.2[j].2 l[k].2.2.2, wrap_id (by omega) (by omega), by omega, ?_, by kernel_rfl⟩
    rw [hany, lackP, decide_eq_true (p := q.2[j].1 = l[k].2.2.1) (by simpa using hb5), Bool.true_and]
   ·conv => whnf
    rw [drop_end (by omega), List.any_nil, Bool.or_false] at hany
    rw [hany] at hgo hbad
    cases fl with
    | false =>
     conv => whnf
     rw [hbad rfl]
     rfl
    | true =>
     conv => whnf
     exact ⟨m1 - 1, by omega, i + 1, IntKind.i64.wrap ((i : Int) + 1), wrap_id (by omega) (by omega), by omega, hgo rfl, by kernel_rfl⟩
  ·conv => whnf
   refine ⟨m - 1, by omega, k + 1, IntKind.i64.wrap ((k : Int) + 1), wrap_id (by omega) (by omega), by omega, ?_, by kernel_rfl⟩
   rw [hall]; unfold stepMi
   rw [lackFrom_end _ _ (by omega), if_neg (by omega)]
 ·conv => whnf
  rw [hall, drop_end (by omega)]
  rfl
end Go.Proofs.YtcjdfeafcmfgpaaGreatD
namespace Go.Proofs.YtcjdfeafcmfgpaaGreatD
open Go Go.Proofs
def top (u : List Int) : Nat := u.foldr (fun x m => max (x.toNat + 1) m) 0
theorem top_cons (x : Int) (u : List Int) : top (x :: u) = max (x.toNat + 1) (top u) := rfl
theorem top_has {v : Nat} : ∀ {u : List Int}, has u (v : Int) = true → v < top u
 | [], h => by cases h
 | x :: u, h => by
  have h' : (eqV (v : Int) x || has u (v : Int)) = true := h
  rw [top_cons]
  rcases Bool.or_eq_true_iff.1 h' with h1 | h1
  ·have : x = v := by simpa [eqV] using h1
   omega
  ·have := top_has h1
   omega
def nxtF (u : List Int) : Nat → Nat → Nat
 | 0, v => v
 | f + 1, v => if has u (v : Int) then nxtF u f (v + 1) else v
def nx (u : List Int) (v : Nat) : Nat := nxtF u (top u - v) v
def frS (vars : List Int) (st : Nat × List Int × List Int) (i : Nat) : Nat × List Int × List Int :=
 if has vars (i : Int) then (nx st.2.1 st.1, st.2.1 ++ [(nx st.2.1 st.1 : Int)], st.2.2 ++ [(nx st.2.1 st.1 : Int)]) else (st.1, st.2.1, st.2.2 ++ [(i : Int)])
def frK (vars u : List Int) (k : Nat) : Nat × List Int × List Int := (List.range k).foldl (frS vars) (0, u, [])
theorem varsTo_len20 (q : QueryT) : (varsOf q).length ≤ 20 := varsTo_len q 20
attribute [local irreducible] frK nx top varsOf varsTo
end Go.Proofs.YtcjdfeafcmfgpaaGreatD
namespace Go.Proofs.YtcjdfeafcmfgpaaGreatD
open Go Go.Proofs
theorem isSchema_le {s : List Int} (h : isSchema s = true) {i : Nat} : s.getD i 0 ≤ 3 := by
 by_cases hi : i < s.length
 ·rw [getD_int hi]
  exact (schema_at h hi).2
 ·rw [List.getD_eq_getElem?_getD, List.getElem?_eq_none (by omega)]
  simp
theorem isQuery_small {s : List Int} {q : QueryT} (h : isQuery s q = true) : q.1.length ≤ 3 ∧ q.2.length ≤ 4 ∧ sumB cAtom q.2 ≤ 3 * q.2.length ∧ fineT q.1 ∧ fineA q.2 := by
 have hfn := isQuery_fine h
 simp only [isQuery, fineQ, terms3, Bool.and_eq_true, decide_eq_true_eq] at h
 obtain ⟨h0, ⟨_, h1⟩, h2, h3, _⟩ := h
 have h2' : 1 ≤ (q.2.length : Int) ∧ (q.2.length : Int) ≤ 4 := by simpa [inR] using h2
 refine ⟨h1, by omega, ?_, hfn.1, hfn.2⟩
 have key : ∀ l : List AtomC, l.all (isAtom s) = true → sumB cAtom l ≤ 3 * l.length := by
  intro l
  induction l with
  | nil => intro _; simp [sumB]
  | cons a l ih =>
   intro hl
   simp only [List.all_cons, Bool.and_eq_true] at hl
   have ih' := ih hl.2
   have ha := hl.1
   simp only [isAtom, takesS, Bool.and_eq_true, decide_eq_true_eq] at ha
   have h3 := ha.1.2.2
   have h4 := isSchema_le h0 (i := a.1.toNat)
   simp only [sumB, List.length_cons]
   have : cAtom a = a.2.length := rfl
   omega
 exact key _ h3
theorem top_fine : ∀ {u : List Int}, fineT u → top u ≤ 20
 | [], _ => Nat.zero_le _
 | x :: u, h => by
  have h1 := h x (by simp)
  have h2 := top_fine (u := u) fun y hy => h y (by simp [hy])
  rw [top_cons]
  omega
theorem varsOf_fine (q : QueryT) : fineT (varsOf q) := fun t ht => by
 simp only [varsOf, varsTo, List.mem_map, List.mem_filter, List.mem_range] at ht
 obtain ⟨j, ⟨h, _⟩, rfl⟩ := ht
 show ((j : Nat) : Int) < 20
 omega
def bL (b : Bool) : List V := [cb b]
theorem bL_len (b : Bool) : (bL b).length = 1 := rfl
theorem rows_bL (n : Nat) : repl n [cb false] = rows bL (List.replicate n false) := repl_rows (f := bL) (d := false) rfl n
end Go.Proofs.YtcjdfeafcmfgpaaGreatD
