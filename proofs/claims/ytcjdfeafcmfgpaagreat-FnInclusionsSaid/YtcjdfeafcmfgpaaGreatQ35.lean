/- Contracts and plain laws of this seat; no condition. -/
import Derived.Test.YtcjdfeafcmfgpaaGreatQ34
import Derived.Test.YtcjdfeafcmfgpaaGreatQ11
import Derived.Test.YtcjdfeafcmfgpaaGreatQ9
import Derived.WalkKit
import Derived.WalkSpells
import Derived.Test.YtcjdfeafcmfgpaaGreatQ12
import Derived.Test.YtcjdfeafcmfgpaaGreatQ28
set_option linter.unusedVariables false
set_option linter.unusedSimpArgs false
set_option maxRecDepth 100000
namespace Go.Proofs.YtcjdfeafcmfgpaaGreatD
open Go Go.Proofs
def fitN (x : InclL) : Nat := min x.2.1.length x.2.2.2.length
def fitsP (f g : FactL) (x : InclL) : Bool := (ran 0 (fitN x)).all (agreeA f.2 x.2.1 g.2 x.2.2.2)
set_option maxHeartbeats 4000000 in
theorem lawFits_spec (f g : FactL) (x : InclL) (hf : f.2.length ≤ 1048576) (hg : g.2.length ≤ 1048576) (hx : cInclusion x ≤ 1048576) : Spec Tryz.prog 236 [vFact f, vFact g, vInclusion x] (cb (fitsP f g x)) := by
 have hx1 : x.2.1.length ≤ 1048576 := by unfold cInclusion at hx; omega
 have hx2 : x.2.2.2.length ≤ 1048576 := by unfold cInclusion at hx; omega
 have hN : fitN x = min x.2.1.length x.2.2.2.length := rfl
 refine Spec_of mx Γ_ok Tryz.func236 rfl ?_
 conv => whnf
 refine ⟨[(3,0),(4,0),(5,0),(6,0),(7,0)], fun m st => ∃ (k : Nat) (e : Int), e = k ∧ m + k = fitN x ∧ fitsP f g x = (ran k (fitN x)).all (agreeA f.2 x.2.1 g.2 x.2.2.2) ∧
  st = ⟨79, [(3, .ptr 0 0), (4, .ptr 1 0), (5, .ptr 2 0), (6, cb false), (7, ci e)], [some ⟨true, rFact f⟩, some ⟨true, rFact g⟩, some ⟨true, rInclusion x⟩]⟩, fitN x, ⟨0, 0, rfl, rfl, rfl, by kernel_rfl⟩, ?_⟩
 rintro m st ⟨k, _, rfl, hm, hall, rfl⟩
 conv => whnf
 generalize hb1 : decide ((k : Int) < x.2.1.length) = b1
 cases b1 with
 | false =>
  have h1 := of_decide_eq_false hb1
  conv => whnf
  rw [hall, ran_end (by omega)]
  rfl
 | true =>
 have h1 := of_decide_eq_true hb1
 conv => whnf
 generalize hb2 : decide ((k : Int) < x.2.2.2.length) = b2
 cases b2 with
 | false =>
  have h2 := of_decide_eq_false hb2
  conv => whnf
  rw [hall, ran_end (by omega)]
  rfl
 | true =>
 have h2 := of_decide_eq_true hb2
 have hk : k < x.2.1.length := by omega
 have hkq : k < x.2.2.2.length := by omega
 rw [ran_at (show k < fitN x by omega), List.all_cons] at hall
 have hA : agreeA f.2 x.2.1 g.2 x.2.2.2 k = agree1 f.2 g.2 x.2.1[k] x.2.2.2[k] := by unfold agreeA; rw [getD_at' hk, getD_at' hkq]
 rw [hA] at hall
 have bad : agree1 f.2 g.2 x.2.1[k] x.2.2.2[k] = false → cb false = cb (fitsP f g x) := fun h => by rw [hall, h, Bool.false_and]
 conv => whnf
 refine ⟨List.range 57 ++ [3999], by kernel_rfl, ?_⟩
 conv => whnf
 refine ⟨by omega, rows_len ciL_len x.2.1, ?_⟩
 conv => whnf
 refine ⟨_, takeN_rp (k := k) ciL_len hk, ?_⟩
 conv => whnf
 generalize hp : decide (x.2.1[k] < 0) = dp
 cases dp with
 | true =>
  have hp' := of_decide_eq_true hp
  conv => whnf
  exact bad (by unfold agree1; rw [show inR x.2.1[k] 0 (f.2.length - 1) = false from by simp [inR]; omega]; rfl)
 | false =>
 have hp' := of_decide_eq_false hp
 conv => whnf
 refine ⟨by omega, rows_len ciL_len x.2.1, ?_⟩
 conv => whnf
 refine ⟨_, takeN_rp (k := k) ciL_len hk, ?_⟩
 conv => whnf
 generalize hp2 : decide (x.2.1[k] ≥ (f.2.length : Int)) = dp2
 cases dp2 with
 | true =>
  have hp2' := of_decide_eq_true hp2
  conv => whnf
  exact bad (by unfold agree1; rw [show inR x.2.1[k] 0 (f.2.length - 1) = false from by simp [inR]; omega]; rfl)
 | false =>
 have hp2' := of_decide_eq_false hp2
 conv => whnf
 refine ⟨by omega, rows_len ciL_len x.2.2.2, ?_⟩
 conv => whnf
 refine ⟨_, takeN_rp (k := k) ciL_len hkq, ?_⟩
 conv => whnf
 generalize hq : decide (x.2.2.2[k] < 0) = dq
 cases dq with
 | true =>
  have hq' := of_decide_eq_true hq
  conv => whnf
  exact bad (by unfold agree1; rw [show inR x.2.2.2[k] 0 (g.2.length - 1) = false from by simp [inR]; omega, Bool.false_and, Bool.and_false])
 | false =>
 have hq' := of_decide_eq_false hq
 conv => whnf
 refine ⟨by omega, rows_len ciL_len x.2.2.2, ?_⟩
 conv => whnf
 refine ⟨_, takeN_rp (k := k) ciL_len hkq, ?_⟩
 conv => whnf
 generalize hq2 : decide (x.2.2.2[k] ≥ (g.2.length : Int)) = dq2
 cases dq2 with
 | true =>
  have hq2' := of_decide_eq_true hq2
  conv => whnf
  exact bad (by unfold agree1; rw [show inR x.2.2.2[k] 0 (g.2.length - 1) = false from by simp [inR]; omega, Bool.false_and, Bool.and_false])
 | false =>
 have hq2' := of_decide_eq_false hq2
 obtain ⟨u, hu⟩ : ∃ u : Nat, x.2.1[k] = u := ⟨x.2.1[k].toNat, by omega⟩
 obtain ⟨w, hw⟩ : ∃ w : Nat, x.2.2.2[k] = w := ⟨x.2.2.2[k].toNat, by omega⟩
 have hua : u < f.2.length := by omega
 have hwq : w < g.2.length := by omega
 have hag : agree1 f.2 g.2 x.2.1[k] x.2.2.2[k] = decide (f.2[u] = g.2[w]) := by
  unfold agree1
  rw [hu, hw, getI_at hua, getI_at hwq, show inR (u : Int) 0 (f.2.length - 1) = true from by simp [inR]; omega, show inR (w : Int) 0 (g.2.length - 1) = true from by simp [inR]; omega]
  rfl
 conv => whnf
 refine ⟨by omega, rows_len ciL_len x.2.1, ?_⟩
 conv => whnf
 refine ⟨_, takeN_rp (k := k) ciL_len hk, ?_⟩
 rw [hu]
 conv => whnf
 refine ⟨by omega, rows_len ciL_len f.2, ?_⟩
 conv => whnf
 refine ⟨_, takeN_rp (k := u) ciL_len hua, ?_⟩
 conv => whnf
 refine ⟨by omega, rows_len ciL_len x.2.2.2, ?_⟩
 conv => whnf
 refine ⟨_, takeN_rp (k := k) ciL_len hkq, ?_⟩
 rw [hw]
 conv => whnf
 refine ⟨by omega, rows_len ciL_len g.2, ?_⟩
 conv => whnf
 refine ⟨_, takeN_rp (k := w) ciL_len hwq, ?_⟩
 conv => whnf
 generalize hne : (f.2[u] != g.2[w]) = ne
 cases ne with
 | true =>
  conv => whnf
  exact bad (by rw [hag]; exact decide_eq_false (by simpa using hne))
 | false =>
  have hne' : f.2[u] = g.2[w] := by simpa using hne
  rw [hag, decide_eq_true hne', Bool.true_and] at hall
  conv => whnf
  exact ⟨m - 1, by omega, k + 1, IntKind.i64.wrap ((k : Int) + 1), wrap_id (by omega) (by omega), by omega, hall, by kernel_rfl⟩
def okL (db : List FactL) (x : InclL) (f : FactL) : Bool := !decide (f.1 = x.1) || db.any fun g => decide (g.1 = x.2.2.1) && fitsP f g x
def okLi (db : List FactL) (x : InclL) (i : Nat) : Bool := okL db x (db.getD i (0, []))
def lon1 (db : List FactL) (x : InclL) : Int := firstI (fun i => !okLi db x i) (ran 0 db.length)
def pLonely (db : List FactL) : List InclL → Int
 | [] => -1
 | x :: r => if lon1 db x < 0 then pLonely db r else lon1 db x
theorem firstI_lt (p : Nat → Bool) : ∀ (ks : List Nat) (n : Nat), (∀ k ∈ ks, k < n) → firstI p ks < n
 | [], n, _ => by unfold firstI; omega
 | k :: ks, n, h => by
  unfold firstI
  split
  ·have := h k (by simp); omega
  ·exact firstI_lt p ks n fun j hj => h j (by simp [hj])
theorem lon1_lt (db : List FactL) (x : InclL) : lon1 db x < db.length := firstI_lt _ _ _ fun k hk => (ran_mem'.1 hk).2
theorem pLonely_lt (db : List FactL) : ∀ l : List InclL, pLonely db l < db.length
 | [] => by unfold pLonely; omega
 | x :: r => by
  unfold pLonely
  split
  ·exact pLonely_lt db r
  ·exact lon1_lt db x
set_option maxHeartbeats 8000000 in
theorem lonely_spec (db : List FactL) (l : List InclL) (hd : cFactS db ≤ 1048576) (hl : cInclusionS l ≤ 1048576) : Spec Tryz.prog 136 [vFactS db, vInclusionS l] (ci (pLonely db l)) := by
 unfold cFactS at hd
 unfold cInclusionS at hl
 refine Spec_of mx Γ_ok Tryz.func136 rfl ?_
 conv => whnf
 refine ⟨[(0,0),(1,0),(4,0),(5,0)], fun m st => ∃ (n : Nat) (e : Int), e = n ∧ m + n = l.length ∧ pLonely db l = pLonely db (l.drop n) ∧
  st = ⟨70, [(0, vFactS db), (1, vInclusionS l), (4, ci 0), (5, ci e)], []⟩, l.length, ⟨0, 0, rfl, rfl, rfl, by kernel_rfl⟩, ?_⟩
 rintro m st ⟨n, _, rfl, hm, hall, rfl⟩
 conv => whnf
 split <;> rename_i h1
 all_goals simp only [decide_eq_true_eq, decide_eq_false_iff_not] at h1
 ·have hn : n < l.length := by omega
  have hbn := sumB_one (f := cInclusion) hn
  rw [List.drop_eq_getElem_cons hn, pLonely] at hall
  conv => whnf
  refine ⟨[(0,0),(1,0),(4,0),(5,0),(6,0)], fun m st => ∃ (i : Nat) (e : Int), e = i ∧ m + i = db.length ∧ lon1 db l[n] = firstI (fun i => !okLi db l[n] i) (ran i db.length) ∧
   st = ⟨70, [(0, vFactS db), (1, vInclusionS l), (4, ci 0), (5, ci n), (6, ci e)], []⟩, db.length, ⟨0, 0, rfl, rfl, rfl, by kernel_rfl⟩, ?_⟩
  rintro m1 st ⟨i, _, rfl, hm1, hlon, rfl⟩
  conv => whnf
  split <;> rename_i h2
  all_goals simp only [decide_eq_true_eq, decide_eq_false_iff_not] at h2
  ·have hi : i < db.length := by omega
   have hbi := sumB_one (f := cFact) hi
   have hci : cFact db[i] = db[i].2.length := rfl
   rw [ran_at hi, firstI] at hlon
   have hoki : okLi db l[n] i = (!decide (db[i].1 = l[n].1) || db.any fun g => decide (g.1 = l[n].2.2.1) && fitsP db[i] g l[n]) := by
    unfold okLi okL
    rw [getD_fact hi]
   conv => whnf
   refine ⟨List.range 12, by kernel_rfl, ?_⟩
   conv => whnf
   refine ⟨by omega, rows_len rFact_len _, ?_⟩
   conv => whnf
   refine ⟨_, takeN_rp_field (k := i) (d := 0) (m := 1) (r := [ci db[i].1]) rFact_len hi (by omega) rfl, ?_⟩
   conv => whnf
   refine ⟨by omega, rows_len rInclusion_len _, ?_⟩
   conv => whnf
   refine ⟨_, takeN_rp_field (k := n) (d := 0) (m := 1) (r := [ci l[n].1]) rInclusion_len hn (by omega) rfl, ?_⟩
   conv => whnf
   refine ⟨[(0,0),(1,0),(4,0),(5,0),(6,0),(7,0),(8,0)], fun m st => ∃ (k : Nat) (e : Int) (fd : Bool), e = k ∧ m + k = db.length ∧ okLi db l[n] i = (fd || (db.drop k).any fun g => decide (g.1 = l[n].2.2.1) && fitsP db[i] g l[n]) ∧
    st = ⟨70, [(0, vFactS db), (1, vInclusionS l), (4, ci 0), (5, ci n), (6, ci i), (7, cb fd), (8, ci e)], []⟩, db.length, ⟨0, 0, (db[i].1 != l[n].1), rfl, rfl, ?_, by kernel_rfl⟩, ?_⟩
   ·rw [hoki, List.drop_zero]
    congr 1
   rintro m2 st ⟨k, _, fd, rfl, hm2, hok, rfl⟩
   conv => whnf
   split <;> rename_i h3
   all_goals simp only [decide_eq_true_eq, decide_eq_false_iff_not] at h3
   ·have hk : k < db.length := by omega
    have hbk := sumB_one (f := cFact) hk
    have hck : cFact db[k] = db[k].2.length := rfl
    rw [List.drop_eq_getElem_cons hk, List.any_cons] at hok
    conv => whnf
    refine ⟨List.range 30 ++ [3999], by kernel_rfl, ?_⟩
    conv => whnf
    cases fd with
    | true =>
     conv => whnf
     exact ⟨m2 - 1, by omega, k + 1, IntKind.i64.wrap ((k : Int) + 1), true, wrap_id (by omega) (by omega), by omega, by rw [hok]; rfl, by kernel_rfl⟩
    | false =>
     conv => whnf
     refine ⟨by omega, rows_len rFact_len _, ?_⟩
     conv => whnf
     refine ⟨_, takeN_rp_field (k := k) (d := 0) (m := 1) (r := [ci db[k].1]) rFact_len hk (by omega) rfl, ?_⟩
     conv => whnf
     refine ⟨by omega, rows_len rInclusion_len _, ?_⟩
     conv => whnf
     refine ⟨_, takeN_rp_field (k := n) (d := 2) (m := 1) (r := [ci l[n].2.2.1]) rInclusion_len hn (by omega) rfl, ?_⟩
     conv => whnf
     have heq : (db[k].1 == l[n].2.2.1) = decide (db[k].1 = l[n].2.2.1) := by rw [Bool.eq_iff_iff]; simp
     rw [heq]
     generalize decide (db[k].1 = l[n].2.2.1) = c at hok
     cases c with
     | false =>
      conv => whnf
      exact ⟨m2 - 1, by omega, k + 1, IntKind.i64.wrap ((k : Int) + 1), false, wrap_id (by omega) (by omega), by omega, by rw [hok]; rfl, by kernel_rfl⟩
     | true =>
      conv => whnf
      refine ⟨by omega, rows_len rFact_len _, ?_⟩
      conv => whnf
      refine ⟨_, takeN_rp (k := i) rFact_len hi, ?_⟩
      conv => whnf
      refine ⟨by omega, rows_len rFact_len _, ?_⟩
      conv => whnf
      refine ⟨_, takeN_rp (k := k) rFact_len hk, ?_⟩
      conv => whnf
      refine ⟨by omega, rows_len rInclusion_len _, ?_⟩
      conv => whnf
      refine ⟨_, takeN_rp (k := n) rInclusion_len hn, ?_⟩
      conv => whnf
      refine ⟨_, lawFits_spec db[i] db[k] l[n] (by omega) (by omega) (by omega), .inl rfl, .inl ?_⟩
      generalize fitsP db[i] db[k] l[n] = fp at hok
      conv => whnf
      exact ⟨m2 - 1, by omega, k + 1, IntKind.i64.wrap ((k : Int) + 1), fp, wrap_id (by omega) (by omega), by omega, by rw [hok]; cases fp <;> rfl, by kernel_rfl⟩
   ·have hfd : okLi db l[n] i = fd := by rw [hok, List.drop_eq_nil_of_le (by omega)]; simp
    rw [hfd] at hlon
    conv => whnf
    cases fd with
    | true =>
     conv => whnf
     exact ⟨m1 - 1, by omega, i + 1, IntKind.i64.wrap ((i : Int) + 1), wrap_id (by omega) (by omega), by omega, by rw [hlon]; rfl, by kernel_rfl⟩
    | false =>
     conv => whnf
     rw [hall, hlon]
     simp only [Bool.not_false, if_true]
     rw [if_neg (by omega)]
     rfl
  ·have hlon' : lon1 db l[n] = -1 := by rw [hlon, ran_end (by omega)]; rfl
   conv => whnf
   exact ⟨m - 1, by omega, n + 1, IntKind.i64.wrap ((n : Int) + 1), wrap_id (by omega) (by omega), by omega, by rw [hall, hlon', if_pos (by omega)], by kernel_rfl⟩
 ·conv => whnf
  rw [hall, List.drop_eq_nil_of_le (by omega)]
  rfl
theorem fits_agree {f g : FactL} {x : InclL} (hx : x.2.1.length = x.2.2.2.length) : fitsP f g x = agreeI f.2 x.2.1 g.2 x.2.2.2 := by
 unfold fitsP agreeI fitN
 rw [decide_eq_true hx, Bool.true_and, hx, Nat.min_self]
theorem firstI_all (p : Nat → Bool) : ∀ ks : List Nat, firstI p ks < 0 → ∀ k ∈ ks, p k = false
 | [], _, k, hk => by cases hk
 | j :: ks, h, k, hk => by
  unfold firstI at h
  split at h
  ·omega
  ·rename_i hp
   rcases List.mem_cons.1 hk with rfl | hk
   ·simpa using hp
   ·exact firstI_all p ks h k hk
theorem lonely_holds {db : List FactL} : ∀ {l : List InclL}, (∀ x ∈ l, x.2.1.length = x.2.2.2.length) → pLonely db l < 0 → ∀ x ∈ l, ∀ f ∈ db, f.1 = x.1 → ∃ g ∈ db, g.1 = x.2.2.1 ∧ agreeI f.2 x.2.1 g.2 x.2.2.2 = true
 | [], _, _, x, hx => by cases hx
 | y :: r, hl, h, x, hx => by
  unfold pLonely at h
  split at h
  ·rename_i h1
   rcases List.mem_cons.1 hx with rfl | hx
   ·intro f hf hf1
    obtain ⟨i, hi, rfl⟩ := List.getElem_of_mem hf
    have h2 := firstI_all _ _ h1 i (ran_mem'.2 ⟨Nat.zero_le _, hi⟩)
    simp only [Bool.not_eq_false', okLi, okL] at h2
    rw [getD_fact hi, decide_eq_true hf1, Bool.not_true, Bool.false_or] at h2
    obtain ⟨g, hg, hge⟩ := List.any_eq_true.1 h2
    simp only [Bool.and_eq_true, decide_eq_true_eq] at hge
    rw [fits_agree (hl x (by simp))] at hge
    exact ⟨g, hg, hge.1, hge.2⟩
   ·exact lonely_holds (fun z hz => hl z (by simp [hz])) h x hx
  ·rename_i h1
   exact absurd h h1
theorem implHoldsInclusion_any (x0 : List FactL) (x1 : InclL) (h0 : cFactS x0 ≤ 1048576) (h1 : cInclusion x1 ≤ 1048576) : Spec Tryz.prog 34 [vFactS x0, vInclusion x1] (cb (pHoldsInclusion x0 x1)) := by
 refine Spec_of mx Γ_ok Tryz.func34 rfl ?_
 conv => whnf
 refine ⟨_, lacking_spec x0 x1 h0 h1, .inl rfl, .inl ?_⟩
 conv => whnf
 show cb (decide (lackI x0 x1 < 0)) = _
 unfold lackI
 rw [firstI_neg]
 simp only [Bool.not_not]
 rfl
end Go.Proofs.YtcjdfeafcmfgpaaGreatD
namespace Go.Proofs.YtcjdfeafcmfgpaaGreatD
open Go Go.Proofs Go.RowKit Go.Shelf Go.Sort Go.Lib
end Go.Proofs.YtcjdfeafcmfgpaaGreatD
namespace Go.Proofs.YtcjdfeafcmfgpaaGreatD
open Go Go.Proofs Go.Shelf Go.Sort
theorem SpecG.mono {P : Program} {f : Nat} {vs : List V} {g : List (Option Obj)} {Post Post' : V → List (Option Obj) → Prop} (h : SpecG P f vs g Post) (hp : ∀ r g2, Post r g2 → Post' r g2) : SpecG P f vs g Post' := by
 refine ⟨h.1, fun E0 xs hin hv => (h.2 E0 xs hin hv).mono fun e w' he => ?_⟩
 cases e with
 | panicked chain => exact he.elim
 | outgrown => exact he.elim
 | returned x =>
  obtain ⟨r, g2, E2, h1, h2⟩ := he
  exact ⟨r, g2, E2, hp r g2 h1, h2⟩
end Go.Proofs.YtcjdfeafcmfgpaaGreatD
namespace Go.Proofs.YtcjdfeafcmfgpaaGreatD
open Go Go.Proofs
abbrev QueryF := List Int × List FactC
def fzF (a : FactC) : FactC := (a.1, a.2.map fz)
def frzOk (q : QueryF) : Bool := terms3 q.1 && decide (q.2.length ≤ 8) && q.2.all fun a => terms3 a.2
def pFreeze (q : QueryF) : List FactC × List Int := if frzOk q then ((q.2.map fzF).foldl putF [], q.1.map fz) else ([], [])
def pFreezeV (q : QueryF) : V := .tup [wFactS (pFreeze q).1, intsT (pFreeze q).2]
theorem terms3_len {xs : List Int} (h : terms3 xs = true) : xs.length ≤ 3 := by
  unfold terms3 at h
  simp only [Bool.and_eq_true, decide_eq_true_eq] at h
  exact h.2
theorem terms3_all {xs : List Int} (h : terms3 xs = true) : xs.all isTerm = true := by
  unfold terms3 at h
  simp only [Bool.and_eq_true] at h
  exact h.1
theorem sumB_cap {α : Type} (f : α → Nat) (n : Nat) : ∀ (xs : List α), (∀ x ∈ xs, f x ≤ n) → sumB f xs ≤ n * xs.length
  | [], _ => by simp [sumB]
  | x :: xs, h => by
    have h1 := sumB_cap f n xs fun y hy => h y (by simp [hy])
    have h2 := h x (by simp)
    simp only [sumB, List.length_cons, Nat.mul_add, Nat.mul_one]
    omega
theorem mem_putGo (f a : FactC) : ∀ (l : List FactC) (p : Bool), a ∈ putGo f p l → a = f ∨ a ∈ l
  | [], p, h => by cases p <;> simp [putGo] at h; exact .inl h
  | x :: r, p, h => by
    have ih := mem_putGo f a r
    simp only [putGo] at h
    split at h
    · rcases List.mem_append.1 h with h1 | h1
      · split at h1
        · cases h1
        · exact .inl (by simpa using h1)
      · rcases List.mem_cons.1 h1 with rfl | h1
        · exact .inr (by simp)
        · rcases ih true h1 with h2 | h2
          · exact .inl h2
          · exact .inr (by simp [h2])
    · rcases List.mem_cons.1 h with rfl | h1
      · exact .inr (by simp)
      · rcases ih p h1 with h2 | h2
        · exact .inl h2
        · exact .inr (by simp [h2])
theorem short_fold : ∀ (fs db : List FactC), (∀ x ∈ fs, x.2.length ≤ 3) → (∀ x ∈ db, x.2.length ≤ 3) → (∀ x ∈ fs.foldl putF db, x.2.length ≤ 3) ∧ (fs.foldl putF db).length ≤ fs.length + db.length
  | [], db, _, h => ⟨h, by simp⟩
  | f :: fs, db, hf, h => by
    have h1 : ∀ x ∈ putF db f, x.2.length ≤ 3 := fun x hx => by
      rcases mem_putGo f x db false hx with rfl | h2
      · exact hf _ (by simp)
      · exact h x h2
    obtain ⟨i1, i2⟩ := short_fold fs (putF db f) (fun x hx => hf x (by simp [hx])) h1
    refine ⟨i1, ?_⟩
    have := putGo_length f db false
    rw [List.foldl_cons]
    have e : (putF db f).length ≤ db.length + 1 := this
    simp only [List.length_cons]
    omega
set_option maxHeartbeats 4000000 in
theorem specFreeze_spec (q : QueryF) (h : cQuery q ≤ 1048576) : Spec Tryz.prog 33 [vQuery q] (pFreezeV q) := by
  unfold cQuery cAtomS at h
  refine Spec_of mx Γ_ok Tryz.func33 rfl ?_
  unfold pFreezeV pFreeze frzOk
  conv => whnf
  refine ⟨_, l3Terms_spec q.1 (by omega), .inl rfl, .inl ?_⟩
  conv => whnf
  generalize ht : terms3 q.1 = b1
  cases b1 with
  | false =>
    conv => whnf
    exact ⟨rfl, rfl, rfl⟩
  | true =>
    conv => whnf
    generalize hc2 : decide ((q.2.length : Int) > 8) = c2
    cases c2 with
    | true =>
      have hl : ¬ q.2.length ≤ 8 := by have := of_decide_eq_true hc2; omega
      conv => whnf
      simp only [decide_eq_false hl, Bool.and_false, Bool.false_and, Bool.false_eq_true, if_false]
      exact ⟨rfl, rfl, rfl⟩
    | false =>
      have hl : q.2.length ≤ 8 := by have := of_decide_eq_false hc2; omega
      simp only [decide_eq_true hl, Bool.and_true, Bool.true_and]
      conv => whnf
      refine ⟨[(1,0),(2,0),(3,0),(4,0),(5,0)], fun m s => ∃ (k : Nat) (e : Int) (db : List FactC) (n : Nat) (r : List V), e = k ∧ m + k = q.2.length ∧ db = ((q.2.take k).map fzF).foldl putF [] ∧ n = db.length ∧ r = rows tFact db ∧ q.2.all (fun a => terms3 a.2) = (q.2.drop k).all (fun a => terms3 a.2) ∧ (∀ x ∈ (q.2.take k), x.2.length ≤ 3) ∧
        s = ⟨56, [(1, .ptr 0 0), (2, cnil), (3, cnil), (4, .own 1 2 0 n n none), (5, ci e)], [some ⟨true, rQuery q⟩, some ⟨false, r⟩]⟩, q.2.length, ⟨0, 0, [], 0, _, rfl, rfl, rfl, rfl, rfl, rfl, by simp, rfl⟩, ?_⟩
      rintro m s ⟨k, _, db, n, _, rfl, hm, hdb, hn, rfl, hall, hsh, rfl⟩
      conv => whnf
      split <;> rename_i h1
      all_goals simp only [decide_eq_true_eq, decide_eq_false_iff_not] at h1
      · conv => whnf
        have hk : k < q.2.length := by omega
        have hb := sumB_one (f := cAtom) hk
        have hcb : cAtom q.2[k] = q.2[k].2.length := rfl
        obtain ⟨s1, s2⟩ := short_fold ((q.2.take k).map fzF) [] (fun x hx => by
          obtain ⟨y, hy, rfl⟩ := List.mem_map.1 hx
          simpa [fzF] using hsh y hy) (by simp)
        rw [← hdb] at s1 s2
        have hcnt : cFactS db ≤ 1048576 := by
          have h3 := sumB_cap cFact 3 db s1
          have h4 : db.length ≤ k := by rw [List.length_map, List.length_take] at s2; simp at s2; omega
          show db.length + sumB cFact db ≤ 1048576
          omega
        rw [drop_all hk] at hall
        refine ⟨by omega, rows_len rAtom_len _, ?_⟩
        conv => whnf
        refine ⟨_, takeN_rp_field (k := k) (d := 1) (m := 1) (r := [ints q.2[k].2]) rAtom_len hk (by omega) rfl, ?_⟩
        conv => whnf
        refine ⟨_, l3Terms_spec q.2[k].2 (by omega), .inl rfl, .inl ?_⟩
        conv => whnf
        generalize ht2 : terms3 q.2[k].2 = b2 at hall
        cases b2 with
        | false =>
          conv => whnf
          rw [hall]
          exact ⟨rfl, rfl, rfl⟩
        | true =>
          conv => whnf
          rw [Bool.true_and] at hall
          refine ⟨List.range 17, by kernel_rfl, ?_⟩
          conv => whnf
          refine ⟨by omega, rows_len rAtom_len _, ?_⟩
          conv => whnf
          refine ⟨_, takeN_rp_field (k := k) (d := 0) (m := 1) (r := [ci q.2[k].1]) rAtom_len hk (by omega) rfl, ?_⟩
          conv => whnf
          refine ⟨by omega, rows_len rAtom_len _, ?_⟩
          conv => whnf
          refine ⟨_, takeN_rp_field (k := k) (d := 1) (m := 1) (r := [ints q.2[k].2]) rAtom_len hk (by omega) rfl, ?_⟩
          conv => whnf
          refine ⟨_, l8Values_spec q.2[k].2 (by omega) (terms3_all ht2), .inl rfl, .inl ?_⟩
          conv => whnf
          subst hn
          refine ⟨_, _, takeN_all (by rw [rows_len tFact_len]), roVs_rows tFact_ro _, ?_⟩
          conv => whnf
          rw [roVs_ci]
          refine ⟨_, l5Put_spec db (fzF q.2[k]) hcnt (by simp only [fzF, List.length_map]; omega), .inr (closed_wFactS _), .inr ?_⟩
          conv => whnf
          refine ⟨m - 1, by omega, k + 1, _, putF db (fzF q.2[k]), _, _, wrap_id (by omega) (by omega), by omega, ?_, rfl, rfl, hall, ?_, rfl⟩
          · rw [hdb, List.take_succ_eq_append_getElem hk, List.map_append, List.foldl_append]
            rfl
          · intro x hx
            rw [List.take_succ_eq_append_getElem hk] at hx
            rcases List.mem_append.1 hx with hx | hx
            · exact hsh x hx
            · have : x = q.2[k] := by simpa using hx
              subst this
              exact terms3_len ht2
      · conv => whnf
        have hkk : k = q.2.length := by omega
        rw [drop_end (by omega), List.all_nil] at hall
        rw [hkk, List.take_length] at hdb
        refine ⟨_, l8Values_spec q.1 (by omega) (terms3_all ht), .inl rfl, .inr ?_⟩
        conv => whnf
        rw [hall, hn]
        refine ⟨by rw [rows_len tFact_len], by rw [rows_len ciL_len], ?_⟩
        rw [hdb]
        rfl
theorem small_Freeze (x0 : QueryF) (h0 : cQuery x0 ≤ 1048576) : cFactS (pFreeze x0).1 ≤ 1048576 ∧ (pFreeze x0).2.length ≤ 1048576 := by
  unfold pFreeze
  split
  · rename_i hf
    unfold frzOk at hf
    simp only [Bool.and_eq_true, decide_eq_true_eq] at hf
    obtain ⟨⟨h1, h2⟩, h3⟩ := hf
    obtain ⟨s1, s2⟩ := short_fold (x0.2.map fzF) [] (fun x hx => by
      obtain ⟨y, hy, rfl⟩ := List.mem_map.1 hx
      have := terms3_len (List.all_eq_true.1 h3 _ hy)
      simpa [fzF] using this) (by simp)
    have h4 := sumB_cap cFact 3 _ s1
    have h5 := terms3_len h1
    rw [List.length_map, List.length_nil] at s2
    refine ⟨?_, ?_⟩
    · show ((x0.2.map fzF).foldl putF []).length + sumB cFact ((x0.2.map fzF).foldl putF []) ≤ _
      omega
    · show (x0.1.map fz).length ≤ _
      rw [List.length_map]; omega
  · exact ⟨by show (0 : Nat) + 0 ≤ _; omega, by show (0 : Nat) ≤ _; omega⟩
theorem inR_bd {x lo hi : Int} (h : inR x lo hi = true) : lo ≤ x ∧ x ≤ hi := by simpa [inR] using h
def fzv (x : Int) : Int := 80 + x
theorem fz_val {t : Int} (h : isTerm t = true) : fz t = val fzv t := by
 have := term_rng h
 unfold fz val fzv
 cases hv : isVar t with
 | true =>
  have h0 := (var_iff h).1 hv
  rw [if_neg (by omega), if_pos rfl]
 | false =>
  have h0 : ¬ 0 ≤ t := fun h0 => by rw [(var_iff h).2 h0] at hv; cases hv
  rw [if_pos (by omega)]
  simp
theorem isQ_facts {s : List Int} {q : QueryT} (h : isQuery s q = true) : isSchema s = true ∧ q.1.all isTerm = true ∧ q.1.length ≤ 3 ∧ q.2.length ≤ 4 ∧ ∀ a ∈ q.2, takesS s a.1 a.2.length = true ∧ a.2.all isTerm = true := by
 simp only [isQuery, fineQ, terms3, Bool.and_eq_true, decide_eq_true_eq] at h
 obtain ⟨h1, ⟨h2, h3⟩, h4, h5, h6⟩ := h
 refine ⟨h1, h2, h3, by have := inR_bd h4; omega, fun a ha => ?_⟩
 have := List.all_eq_true.1 h5 a ha
 simp only [isAtom, Bool.and_eq_true] at this
 exact this
theorem strict_go {s : List Int} : ∀ (db : List FactC) (p : Option FactC), Strict ltF db → (∀ f ∈ db, isFact s f = true) → (∀ y, p = some y → ∀ f ∈ db, ltF y f = true) → dbGo s p db = true
 | [], p, _, _, _ => by cases p <;> rfl
 | x :: r, p, hs, hf, hp => by
  obtain ⟨h1, h2⟩ := List.pairwise_cons.1 hs
  simp only [dbGo, Bool.and_eq_true]
  refine ⟨⟨hf x (by simp), ?_⟩, strict_go r (some x) h2 (fun f hf' => hf f (by simp [hf'])) fun y hy f hf' => by cases hy; exact h1 f hf'⟩
  cases p with
  | none => rfl
  | some y => exact hp y rfl x (by simp)
theorem fz_rng {t : Int} (h : isTerm t = true) : 0 ≤ fz t ∧ fz t ≤ 99 := by
 have := term_rng h
 unfold fz
 split <;> omega
theorem frz_mem (q : QueryT) (a : FactC) : a ∈ (q.2.map fzF).foldl putF [] ↔ ∃ c ∈ q.2, fzF c = a := by
 rw [(putAll (q.2.map fzF) [] List.Pairwise.nil).2 a]
 simp
def unf (x : Int) : Int := if x < 80 then -1 - x else x - 80
theorem unf_fz {t : Int} (h : isTerm t = true) : unf (fz t) = t := by
 have := term_rng h
 unfold unf fz
 split <;> split <;> omega
theorem unf_val {v : Int → Int} {t : Int} (h : isTerm t = true) : unf (val v t) = app (fun k => unf (v k)) t := by
 have := term_rng h
 unfold val app
 cases hv : isVar t with
 | true => rfl
 | false =>
  have h0 : ¬ 0 ≤ t := fun h0 => by rw [(var_iff h).2 h0] at hv; cases hv
  simp only [Bool.false_eq_true, if_false]
  unfold unf
  rw [if_pos (by omega)]
  omega
theorem unf_list {xs : List Int} (h : xs.all isTerm = true) : (xs.map fz).map unf = xs := by
 rw [List.map_map]
 refine (List.map_congr_left fun t ht => ?_).trans (List.map_id xs)
 exact unf_fz (List.all_eq_true.1 h t ht)
end Go.Proofs.YtcjdfeafcmfgpaaGreatD
