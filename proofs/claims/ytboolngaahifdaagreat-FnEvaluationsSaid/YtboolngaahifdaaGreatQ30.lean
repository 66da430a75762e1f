/- Contracts and plain laws of this seat; no condition. -/
import Derived.Test.YtboolngaahifdaaGreatQ25
import Derived.Test.YtboolngaahifdaaGreatQ29
import Derived.Test.YtboolngaahifdaaGreatQ15
import Derived.Test.YtboolngaahifdaaGreatQ11
import Derived.Test.YtboolngaahifdaaGreatQ9
import Derived.WalkKit
import Derived.WalkSpells
import Derived.Test.YtboolngaahifdaaGreatQ10
import Derived.Test.YtboolngaahifdaaGreatQ20
import Derived.Test.YtboolngaahifdaaGreatQ12
set_option linter.unusedVariables false
set_option linter.unusedSimpArgs false
set_option maxRecDepth 100000
namespace Go.Proofs.YtboolngaahifdaaGreatD
open Go Go.Proofs
def safeQ (q : QueryE) : Prop := okT q ∧ ∀ t ∈ q.1, isVar t = true → occurs q t = true
theorem safe_bnd {q : QueryE} {db : List FactC} (h : safeQ q) {b : Bnd} (hb : b ∈ visitL db q.2 bNone) : ∀ t ∈ q.1, 0 ≤ t → (b t.toNat).isSome = true := by
 intro t ht h0
 have hr := term_rng (List.all_eq_true.1 h.1.1 t ht)
 obtain ⟨a, ha, hta⟩ := occurs_mem.1 (h.2 t ht (by simp [isVar, inR]; omega))
 exact (visitL_ok db q.2 bNone b hb).2 a ha t hta h0
theorem tS_val {b : Bnd} {t : Int} (ht : isTerm t = true) (hb : 0 ≤ t → (b t.toNat).isSome = true) : tS (sV b) t = val (fnOf b) t := by
 rw [tS_valOf b t ht hb]
 exact valOf_val b ht
theorem raw_iff {q : QueryE} {db : List FactC} (h : safeQ q) (x : List Int) : x ∈ sortL true ((rawP q db).map fun v => q.1.map (tS v)) ↔ ∃ v : Int → Int, Sat v db q.2 ∧ x = q.1.map (val v) := by
 have t1 := h.1.1
 have t2 := h.1.2
 rw [(sortL_ok _).2 x]
 simp only [List.mem_map]
 constructor
 ·rintro ⟨w, hw, rfl⟩
  obtain ⟨b, hb, rfl⟩ := (rawP_ok q db).1 w hw
  exact ⟨fnOf b, (visitL_sound db q.2 bNone b t2 hb).2.1, List.map_congr_left fun t ht => tS_val (List.all_eq_true.1 t1 t ht) (safe_bnd h hb t ht)⟩
 ·rintro ⟨v, hv, rfl⟩
  obtain ⟨b, hb, hu⟩ := visitL_complete db q.2 bNone t2 (under_none v) hv
  refine ⟨sV b, (sortL_ok _).2 _ |>.2 (List.mem_map.2 ⟨b, hb, rfl⟩), ?_⟩
  refine List.map_congr_left fun t ht => ?_
  rw [tS_val (List.all_eq_true.1 t1 t ht) (safe_bnd h hb t ht)]
  exact under_val hu fun hv => safe_bnd h hb t ht ((var_iff (List.all_eq_true.1 t1 t ht)).1 hv)
theorem overK_of {q : QueryE} {n : Nat} (h : safeQ q) (h1 : q.1.length ≤ 3) (h2 : 1 ≤ q.2.length) (h3 : q.2.length ≤ 16) (h4 : ∀ a ∈ q.2, a.2.length ≤ 3) (hn : n ≤ 400) : overK q n = true := by
 simp only [overK, terms3, Bool.and_eq_true, decide_eq_true_eq, Bool.not_eq_true', decide_eq_false_iff_not, List.all_eq_true, inR]
 refine ⟨⟨⟨⟨⟨List.all_eq_true.1 h.1.1, h1⟩, by omega, by omega⟩, by omega⟩, fun a ha => ⟨List.all_eq_true.1 (h.1.2 a ha), h4 a ha⟩⟩, fun t ht => ?_⟩
 unfold safeH
 by_cases h0 : t ≥ 0
 ·have hr := term_rng (List.all_eq_true.1 h.1.1 t ht)
  have hv : isVar t = true := by simp [isVar, inR]; omega
  rw [has_bodyVars q t hv, h.2 t ht hv]
  simp
 ·rw [decide_eq_false h0]
  rfl
theorem over_iff {q : QueryE} {db : List FactC} (h : safeQ q) (hk : overK q db.length = true) (x : List Int) : x ∈ overS q db ↔ ∃ v : Int → Int, Sat v db q.2 ∧ x = q.1.map (val v) := by
 unfold overS
 rw [if_pos hk]
 exact raw_iff h x
theorem isQuery_safeQ {s : List Int} {q : QueryT} (h : isQuery s q = true) : safeQ q := ⟨isQuery_okT h, ((isQuery_iff s q).1 h).2.2.2.2⟩
end Go.Proofs.YtboolngaahifdaaGreatD
namespace Go.Proofs.YtboolngaahifdaaGreatD
open Go Go.Proofs Go.RowKit Go.Shelf Go.Sort Go.Lib
end Go.Proofs.YtboolngaahifdaaGreatD
namespace Go.Proofs.YtboolngaahifdaaGreatD
open Go Go.Proofs Go.Shelf Go.Sort
theorem SpecG.mono {P : Program} {f : Nat} {vs : List V} {g : List (Option Obj)} {Post Post' : V → List (Option Obj) → Prop} (h : SpecG P f vs g Post) (hp : ∀ r g2, Post r g2 → Post' r g2) : SpecG P f vs g Post' := by
 refine ⟨h.1, fun E0 xs hin hv => (h.2 E0 xs hin hv).mono fun e w' he => ?_⟩
 cases e with
 | panicked chain => exact he.elim
 | outgrown => exact he.elim
 | returned x =>
  obtain ⟨r, g2, E2, h1, h2⟩ := he
  exact ⟨r, g2, E2, hp r g2 h1, h2⟩
end Go.Proofs.YtboolngaahifdaaGreatD
namespace Go.Proofs.YtboolngaahifdaaGreatD
open Go Go.Proofs
theorem terms3_len {xs : List Int} (h : terms3 xs = true) : xs.length ≤ 3 := by
  unfold terms3 at h
  simp only [Bool.and_eq_true, decide_eq_true_eq] at h
  exact h.2
theorem sumB_cap {α : Type} (f : α → Nat) (n : Nat) : ∀ (xs : List α), (∀ x ∈ xs, f x ≤ n) → sumB f xs ≤ n * xs.length
  | [], _ => by simp [sumB]
  | x :: xs, h => by
    have h1 := sumB_cap f n xs fun y hy => h y (by simp [hy])
    have h2 := h x (by simp)
    simp only [sumB, List.length_cons, Nat.mul_add, Nat.mul_one]
    omega
theorem isQuery_atoms {s : List Int} {q : QueryE} (h : isQuery s q = true) : terms3 q.1 = true ∧ q.2.length ≤ 4 ∧ 1 ≤ q.2.length ∧ (∀ a ∈ q.2, terms3 a.2 = true) ∧ q.1.all (safeV q) = true := by
 simp only [isQuery, fineQ, Bool.and_eq_true] at h
 obtain ⟨h0, h1, h2, h3, h4⟩ := h
 have hb : (1 : Int) ≤ q.2.length ∧ (q.2.length : Int) ≤ 4 := by simpa [inR] using h2
 refine ⟨h1, by omega, by omega, fun a ha => ?_, h4⟩
 have h5 := List.all_eq_true.1 h3 a ha
 simp only [isAtom, takesS, Bool.and_eq_true, decide_eq_true_eq] at h5
 obtain ⟨⟨h6, h7, h8⟩, h9⟩ := h5
 have hr : 0 ≤ a.1 ∧ a.1 ≤ (s.length : Int) - 1 := by simpa [inR] using h7
 obtain ⟨r, hr'⟩ : ∃ r : Nat, a.1 = r := ⟨a.1.toNat, by omega⟩
 rw [hr'] at h8 hr
 have hlt : r < s.length := by omega
 rw [Int.toNat_natCast, getD_at hlt] at h8
 simp only [isSchema, Bool.and_eq_true] at h6
 have h10 := List.all_eq_true.1 h6.1 _ (List.getElem_mem hlt)
 have h11 : (1 : Int) ≤ s[r] ∧ s[r] ≤ 3 := by simpa [inR] using h10
 simp only [terms3, Bool.and_eq_true, decide_eq_true_eq]
 exact ⟨h9, by omega⟩
theorem hasFact_spec (db : List FactC) (f : FactC) (hd : cFactS db ≤ 1048576) (hf : f.2.length ≤ 1099511627776) : Spec Tryz.prog 163 [vFactS db, vFact f] (cb (db.any fun x => eqF x f)) := by
 refine Spec_of mx Γ_ok Tryz.func163 rfl ?_
 conv => whnf
 refine ⟨[(3,0),(4,0),(7,0),(8,0),(9,0)], fun m st => ∃ (k : Nat) (e : Int), e = k ∧ m + k = db.length ∧ (db.any fun x => eqF x f) = ((db.drop k).any fun x => eqF x f) ∧
  st = ⟨17, [(3, .ptr 0 0), (4, cb false), (7, vFactS db), (8, ci db.length), (9, ci e)], [some ⟨true, rFact f⟩]⟩, db.length, ⟨0, 0, rfl, rfl, rfl, rfl⟩, ?_⟩
 rintro m st ⟨k, _, rfl, hm, hany, rfl⟩
 conv => whnf
 split <;> rename_i h1
 all_goals simp only [decide_eq_true_eq, decide_eq_false_iff_not] at h1
 ·conv => whnf
  have hk : k < db.length := by omega
  have hb := sumB_one (f := cFact) hk
  have hcf : cFact db[k] = db[k].2.length := rfl
  unfold cFactS at hd
  rw [List.drop_eq_getElem_cons hk, List.any_cons] at hany
  refine ⟨by omega, rows_len rFact_len _, ?_⟩
  conv => whnf
  refine ⟨_, takeN_rp (k := k) rFact_len hk, ?_⟩
  conv => whnf
  refine ⟨_, equalFact_spec db[k] f (by omega) hf, .inl rfl, .inl ?_⟩
  conv => whnf
  generalize hb1 : eqF db[k] f = b1 at hany
  cases b1 with
  | true =>
   conv => whnf
   rw [hany]
   rfl
  | false =>
   conv => whnf
   rw [Bool.false_or] at hany
   exact ⟨m - 1, by omega, k + 1, _, wrap_id (by omega) (by omega), by omega, hany, rfl⟩
 ·conv => whnf
  rw [hany, drop_end (by omega)]
  rfl
theorem roVs_rFact (xs : List FactC) : roVs (rows rFact xs) = rows rFact xs := by
 induction xs with
 | nil => rfl
 | cons x xs ih =>
  show roVs (rFact x ++ rows rFact xs) = _
  simp only [rFact, List.cons_append, List.nil_append, roVs, ih]
  show V.sc _ :: roV (.ro _ _) :: _ = _
  simp only [roV, roVs_ci]
  rfl
theorem flat_rFactS (a : FactC) : ∀ c ∈ rFact a, flat c = true := by
 intro c hc
 simp only [rFact, List.mem_cons, List.not_mem_nil, or_false] at hc
 rcases hc with rfl | rfl <;> rfl
def distP (out : List FactC) (f : FactC) : List FactC := if out.any (fun x => eqF x f) then out else out ++ [f]
def distL (db : List FactC) : List FactC := db.foldl distP []
theorem eqF_iff (a b : FactC) : eqF a b = true ↔ a = b := by
 obtain ⟨a1, a2⟩ := a
 obtain ⟨b1, b2⟩ := b
 simp [eqF, Prod.ext_iff]
theorem distF_mem : ∀ (db out : List FactC) (f : FactC), f ∈ db.foldl distP out ↔ f ∈ out ∨ f ∈ db
 | [], out, f => by simp
 | a :: db, out, f => by
  rw [List.foldl_cons, distF_mem db]
  unfold distP
  split
  ·rename_i h
   obtain ⟨x, hx, he⟩ := List.any_eq_true.1 h
   have := (eqF_iff x a).1 he
   subst this
   constructor
   ·rintro (h | h)
    ·exact .inl h
    ·exact .inr (by simp [h])
   ·rintro (h | h)
    ·exact .inl h
    ·rcases List.mem_cons.1 h with rfl | h
     ·exact .inl hx
     ·exact .inr h
  ·simp only [List.mem_append, List.mem_cons, List.not_mem_nil, or_false, false_or, or_assoc]
theorem distL_mem (db : List FactC) (f : FactC) : f ∈ distL db ↔ f ∈ db := by
 unfold distL
 rw [distF_mem]
 simp
theorem distF_len : ∀ (db out : List FactC), (db.foldl distP out).length ≤ out.length + db.length
 | [], out => by simp
 | a :: db, out => by
  have h1 := distF_len db (distP out a)
  have h2 : (distP out a).length ≤ out.length + 1 := by
   unfold distP
   split <;> simp
  rw [List.foldl_cons, List.length_cons]
  omega
theorem distL_len (db : List FactC) : (distL db).length ≤ db.length := by simpa [distL] using distF_len db []
theorem distL_at (db : List FactC) {k : Nat} (hk : k < db.length) : distL (db.take (k + 1)) = distP (distL (db.take k)) db[k] := by
 unfold distL
 rw [List.take_succ_eq_append_getElem hk, List.foldl_append]
 rfl
theorem few_size {db : List FactC} {n : Nat} (hl : db.length ≤ n) (hn : n ≤ 400) (hf : ∀ f ∈ db, f.2.length ≤ 100) : cFactS db ≤ 1048576 := by
 have h1 := sumB_cap cFact 100 db hf
 show db.length + sumB cFact db ≤ _
 have : 100 * db.length ≤ 100 * n := Nat.mul_le_mul_left _ hl
 first | omega | (have : db.length * 100 ≤ 40000 := by omega); omega
set_option maxHeartbeats 1000000 in
theorem distinctAny_spec (db : List FactC) (hl : db.length ≤ 400) (hf : ∀ f ∈ db, f.2.length ≤ 100) : Spec Tryz.prog 87 [vFactS db] (.tr 2 (distL db).length (rows rFact (distL db))) := by
 refine Spec_of mx Γ_ok Tryz.func87 rfl ?_
 conv => whnf
 refine ⟨[(2,0),(3,0),(7,0),(8,0),(9,0)], fun m st => ∃ (k : Nat) (e : Int) (O : List FactC) (n : Nat) (r : List V), e = k ∧ m + k = db.length ∧ O = distL (db.take k) ∧ n = O.length ∧ r = rows rFact O ∧
  st = ⟨23, [(2, cnil), (3, .own 0 2 0 n n none), (7, vFactS db), (8, ci db.length), (9, ci e)], [some ⟨false, r⟩]⟩, db.length, ⟨0, 0, [], 0, _, rfl, rfl, rfl, rfl, rfl, rfl⟩, ?_⟩
 rintro m st ⟨k, _, O, n, _, rfl, hm, hO, hn, rfl, rfl⟩
 conv => whnf
 split <;> rename_i h1
 all_goals simp only [decide_eq_true_eq, decide_eq_false_iff_not] at h1
 ·conv => whnf
  have hk : k < db.length := by omega
  have hfk := hf _ (List.getElem_mem hk)
  have hnx := distL_at db hk
  rw [← hO] at hnx
  have hOl := distL_len (db.take k)
  rw [← hO, List.length_take] at hOl
  have hOf : ∀ f ∈ O, f.2.length ≤ 100 := fun f h => by
   rw [hO, distL_mem] at h
   exact hf f (List.mem_of_mem_take h)
  have hOz := few_size (n := 400) (by omega) (Nat.le_refl _) hOf
  refine ⟨by omega, rows_len rFact_len _, ?_⟩
  conv => whnf
  refine ⟨_, takeN_rp (k := k) rFact_len hk, ?_⟩
  conv => whnf
  refine .inl ?_
  conv => whnf
  refine ⟨_, _, takeN_all (by rw [rows_len rFact_len, hn]), roVs_rFact _, ?_⟩
  conv => whnf
  have hsp := hasFact_spec O db[k] hOz (by omega)
  unfold vFactS at hsp
  rw [← hn] at hsp
  refine ⟨_, hsp, .inr trivial, .inl ?_⟩
  generalize hb : (O.any fun x => eqF x db[k]) = b
  unfold distP at hnx
  rw [hb] at hnx
  cases b with
  | true =>
   conv => whnf
   exact ⟨m - 1, by omega, k + 1, _, O, n, _, wrap_id (by omega) (by omega), by omega, hnx.symm, hn, rfl, rfl⟩
  | false =>
   conv => whnf
   refine ⟨rFact db[k], rfl, .inl ⟨flat_rFactS _, ?_⟩⟩
   conv => whnf
   refine ⟨by omega, by rw [rows_len rFact_len, hn], _, snoc_rows rFact _ db[k], ?_⟩
   conv => whnf
   exact ⟨m - 1, by omega, k + 1, _, O ++ [db[k]], n + 1, _, wrap_id (by omega) (by omega), by omega, hnx.symm, by rw [hn]; simp, rfl, rfl⟩
 ·conv => whnf
  have hkk : k = db.length := by omega
  rw [hkk, List.take_length] at hO
  rw [hn, hO]
  exact ⟨by rw [rows_len rFact_len], rfl⟩
def baseI (q : QueryE) (n : Nat) : Bool := decide ((q.1.length : Int) ≤ 3) && q.1.all isTerm && inR q.2.length 1 16 && decide ((n : Int) ≤ 400) && q.1.all (safeV q)
def atomI (a : FactC) : Bool := decide ((a.2.length : Int) ≤ 3) && a.2.all isTerm
theorem okI_eq (q : QueryE) (n : Nat) : (baseI q n && q.2.all atomI) = overK q n := by
 have hh : ∀ t : Int, isTerm t = true → safeV q t = safeH q t := by
  intro t ht
  unfold safeV safeH
  by_cases h0 : t ≥ 0
  ·have hr := term_rng ht
   have hv : isVar t = true := by simp [isVar, inR]; omega
   rw [has_bodyVars q t hv, hv, decide_eq_true h0]
  ·have hv : isVar t = false := by
    cases h : isVar t with
    | false => rfl
    | true => simp [isVar, inR] at h; omega
   rw [hv, decide_eq_false h0]
   rfl
 rw [Bool.eq_iff_iff]
 simp only [baseI, atomI, overK, terms3, Bool.and_eq_true, decide_eq_true_eq, List.all_eq_true, Bool.not_eq_true', decide_eq_false_iff_not]
 constructor
 ·rintro ⟨⟨⟨⟨⟨h1, h2⟩, h3⟩, h4⟩, h5⟩, h6⟩
  exact ⟨⟨⟨⟨⟨h2, by omega⟩, h3⟩, by omega⟩, fun a ha => ⟨(h6 a ha).2, by have := (h6 a ha).1; omega⟩⟩, fun t ht => by rw [← hh t (h2 t ht)]; exact h5 t ht⟩
 ·rintro ⟨⟨⟨⟨⟨h2, h1⟩, h3⟩, h4⟩, h6⟩, h5⟩
  exact ⟨⟨⟨⟨⟨by omega, h2⟩, h3⟩, by omega⟩, fun t ht => by rw [hh t (h2 t ht)]; exact h5 t ht⟩, fun a ha => ⟨by have := (h6 a ha).2; omega, (h6 a ha).1⟩⟩
def overI (q : QueryE) (db : List FactC) : List (List Int) := if overK q db.length then sortL true (headsP q (distL db)) else []
theorem shareB {P : Bool → Prop} {G : Prop} (pre : Bool → Prop) (hx : ∀ b, pre b → P b) (h : (∀ b, pre b → P b) → G) : G := h hx
theorem comp_sort {xs ys : List (List Int)} (hp : ys.Perm xs) (hs : ys.Pairwise fun a b => ¬ cmpI b a < 0) : compL (fun a b => decide (a = b)) ys = sortL true xs := by
 have hs' : ys.Pairwise fun a b => ltI b a = false := hs.imp fun {a b} h => by rw [ltI_cmp]; exact decide_eq_false h
 obtain ⟨h1, h2⟩ := compL_ok totI ys hs'
 obtain ⟨i1, i2⟩ := sortL_ok xs
 refine strict_unique totI h1 i1 fun a => ?_
 rw [i2 a]
 exact (h2 a).trans hp.mem_iff
noncomputable def rgO2 : Array Oper := regOps Tryz.f23 2
def exO : Exs := { ex := fun _ => false, hid := fun _ => false, cut := fun k => Nat.beq k 2 }
def sO (q : QueryE) (db : List FactC) (b : Bool) : St := ⟨60, [(1, vFactS db), (2, .ptr 0 0), (4, cnil), (5, cb b)], [some ⟨true, rQuery q⟩]⟩
set_option maxHeartbeats 4000000 in
theorem implOver_spec (q : QueryE) (db : List FactC) (hq : cQuery q ≤ 1048576) (hl : db.length ≤ 400) (hf : ∀ f ∈ db, f.2.length ≤ 100) (hn : overK q db.length = true → db.length ^ q.2.length ≤ 549755813888) : Spec Tryz.prog 23 [vQuery q, vFactS db] (wLists (overI q db)) := by
 have hq' := hq
 unfold cQuery cAtomS at hq'
 have hok := okI_eq q db.length
 refine Spec_ofE (ex := exO) mx Γ_ok Tryz.func23 rfl ?_
 conv => whnf
 apply shareB (fun b => b = baseI q db.length)
 case h =>
  intro hrest
  generalize hb1 : decide ((q.1.length : Int) ≤ 3) = b1
  cases b1 with
  | false =>
   conv => whnf
   obtain ⟨b', hb'⟩ : ∃ b' : Bool, b' = false := ⟨_, rfl⟩
   refine ⟨[(1,0),(2,0),(4,0),(5,0)], [], sO q db b', rgO2, by rw [hb']; kernel_rfl, by kernel_rfl, ?_⟩
   have hpre : b' = baseI q db.length := by rw [hb']; unfold baseI; rw [hb1]; rfl
   clear hb'
   exact hrest b' hpre
  | true =>
  conv => whnf
  refine ⟨_, areTerms_spec q.1 (by omega), .inl rfl, .inl ?_⟩
  generalize hb2 : q.1.all isTerm = b2
  cases b2 with
  | false =>
   conv => whnf
   obtain ⟨b', hb'⟩ : ∃ b' : Bool, b' = false := ⟨_, rfl⟩
   refine ⟨[(1,0),(2,0),(4,0),(5,0)], [], sO q db b', rgO2, by rw [hb']; kernel_rfl, by kernel_rfl, ?_⟩
   have hpre : b' = baseI q db.length := by rw [hb']; unfold baseI; rw [hb1, hb2]; rfl
   clear hb'
   exact hrest b' hpre
  | true =>
  conv => whnf
  refine ⟨_, within_spec _ _ _, .inl rfl, .inl ?_⟩
  generalize hb3 : inR (q.2.length : Int) 1 16 = b3
  cases b3 with
  | false =>
   conv => whnf
   obtain ⟨b', hb'⟩ : ∃ b' : Bool, b' = false := ⟨_, rfl⟩
   refine ⟨[(1,0),(2,0),(4,0),(5,0)], [], sO q db b', rgO2, by rw [hb']; kernel_rfl, by kernel_rfl, ?_⟩
   have hpre : b' = baseI q db.length := by rw [hb']; unfold baseI; rw [hb1, hb2, hb3]; rfl
   clear hb'
   exact hrest b' hpre
  | true =>
  conv => whnf
  generalize hb4 : decide ((db.length : Int) ≤ 400) = b4
  cases b4 with
  | false =>
   conv => whnf
   obtain ⟨b', hb'⟩ : ∃ b' : Bool, b' = false := ⟨_, rfl⟩
   refine ⟨[(1,0),(2,0),(4,0),(5,0)], [], sO q db b', rgO2, by rw [hb']; kernel_rfl, by kernel_rfl, ?_⟩
   have hpre : b' = baseI q db.length := by rw [hb']; unfold baseI; rw [hb1, hb2, hb3, hb4]; rfl
   clear hb'
   exact hrest b' hpre
  | true =>
  conv => whnf
  refine ⟨_, isSafe_spec q hq, .inl rfl, .inl ?_⟩
  conv => whnf
  obtain ⟨b', hb'⟩ : ∃ b' : Bool, b' = q.1.all (safeV q) := ⟨_, rfl⟩
  refine ⟨[(1,0),(2,0),(4,0),(5,0)], [], sO q db b', rgO2, by rw [hb']; kernel_rfl, by kernel_rfl, ?_⟩
  have hpre : b' = baseI q db.length := by rw [hb']; unfold baseI; rw [hb1, hb2, hb3, hb4]; rfl
  clear hb'
  exact hrest b' hpre
 case hx =>
  rintro b0 hb0
  conv => whnf
  refine ⟨[(1,0),(2,0),(4,0),(5,0),(33,0),(34,0),(35,0)], fun m st => ∃ (k : Nat) (e : Int) (b : Bool), e = k ∧ m + k = q.2.length ∧ b = (b0 && (q.2.take k).all atomI) ∧
   st = ⟨60, [(1, vFactS db), (2, .ptr 0 0), (4, cnil), (5, cb b), (33, vAtomS q.2), (34, ci q.2.length), (35, ci e)], [some ⟨true, rQuery q⟩]⟩, q.2.length, ⟨0, 0, b0, rfl, rfl, by simp, by kernel_rfl⟩, ?_⟩
  rintro m st ⟨k, _, b, rfl, hm, hbk, rfl⟩
  conv => whnf
  split <;> rename_i h1
  all_goals simp only [decide_eq_true_eq, decide_eq_false_iff_not] at h1
  ·conv => whnf
   have hk : k < q.2.length := by omega
   have hb1 := sumB_one (f := cAtom) hk
   have hcb1 : cAtom q.2[k] = q.2[k].2.length := rfl
   have hnx : (b0 && (q.2.take (k + 1)).all atomI) = (b && atomI q.2[k]) := by
    rw [List.take_succ_eq_append_getElem hk, List.all_append, hbk, Bool.and_assoc]
    simp
   refine ⟨by omega, rows_len rAtom_len _, ?_⟩
   conv => whnf
   refine ⟨_, takeN_rp (k := k) rAtom_len hk, ?_⟩
   conv => whnf
   cases b with
   | false =>
    conv => whnf
    exact ⟨m - 1, by omega, k + 1, _, false, wrap_id (by omega) (by omega), by omega, by rw [hnx]; rfl, by kernel_rfl⟩
   | true =>
    conv => whnf
    unfold atomI at hnx
    generalize hc1 : decide ((q.2[k].2.length : Int) ≤ 3) = c1 at hnx
    cases c1 with
    | false =>
     conv => whnf
     exact ⟨m - 1, by omega, k + 1, _, false, wrap_id (by omega) (by omega), by omega, by unfold atomI; rw [hnx]; rfl, by kernel_rfl⟩
    | true =>
     conv => whnf
     refine ⟨_, areTerms_spec q.2[k].2 (by omega), .inl rfl, .inl ?_⟩
     conv => whnf
     exact ⟨m - 1, by omega, k + 1, _, q.2[k].2.all isTerm, wrap_id (by omega) (by omega), by omega, by unfold atomI; rw [hnx]; rfl, by kernel_rfl⟩
  ·conv => whnf
   have hkk : k = q.2.length := by omega
   rw [hkk, List.take_length, hb0, hok] at hbk
   subst hbk
   unfold overI
   generalize hK : overK q db.length = K at hn
   cases K with
   | false =>
    conv => whnf
    exact ⟨rfl, rfl⟩
   | true =>
    conv => whnf
    have hKK := hK
    simp only [overK, terms3, Bool.and_eq_true, decide_eq_true_eq, List.all_eq_true] at hKK
    have t2 : ∀ a ∈ q.2, a.2.all isTerm = true := fun a ha => List.all_eq_true.2 (hKK.1.2 a ha).1
    have hpw := hn rfl
    have hdl := distL_len db
    have hpd : (distL db).length ^ q.2.length ≤ db.length ^ q.2.length := Nat.pow_le_pow_left hdl _
    have hvl := visitL_len (distL db) q.2 bNone
    have hdz : cFactS (distL db) ≤ 1048576 := few_size (n := 400) (by omega) (Nat.le_refl _) fun f h => hf f ((distL_mem db f).1 h)
    refine ⟨[1001, 0, 1, 2, 3, 4, 5, 1000, 1000], by kernel_rfl, ?_⟩
    conv => whnf
    refine .inl ?_
    conv => whnf
    refine ⟨_, distinctAny_spec db hl hf, .inl rfl, .inl ?_⟩
    rw [show roV (.tr 2 (distL db).length (rows rFact (distL db))) = vFactS (distL db) from by show V.ro _ (roVs _) = _; rw [roVs_rFact]; rfl]
    conv => whnf
    refine .inl ?_
    conv => whnf
    refine ⟨_, heads_spec q (distL db) hq hdz t2 (by omega), .inl rfl, .inr ?_⟩
    conv => whnf
    refine .inr (.inr ⟨[1], noSubT_lk (by kernel_rfl), rfl, ?_⟩)
    conv => whnf
    refine ⟨_, different_spec (headsP q (distL db)) (fun x hx => by
     obtain ⟨b, _, rfl⟩ := List.mem_map.1 hx
     rw [tupOf, List.length_map]; omega) (by rw [headsP, List.length_map]; omega), fun r g2 hP => ?_⟩
    obtain ⟨rfl, ys, h3, h4, rfl⟩ := hP
    rw [comp_sort h3 h4]
    refine .inr ?_
    conv => whnf
    exact ⟨by rw [rows_len tL_len], rfl⟩
theorem overK_safe {q : QueryE} {n : Nat} (hK : overK q n = true) : safeQ q := by
 have h := okI_eq q n
 rw [hK] at h
 simp only [baseI, atomI, Bool.and_eq_true] at h
 obtain ⟨⟨⟨⟨⟨_, h1⟩, _⟩, _⟩, h2⟩, h3⟩ := h
 refine ⟨⟨h1, fun a ha => ?_⟩, fun t ht hv => ?_⟩
 ·have := List.all_eq_true.1 h3 a ha
  unfold atomI at this
  simp only [Bool.and_eq_true] at this
  exact this.2
 ·have := List.all_eq_true.1 h2 t ht
  unfold safeV at this
  rw [hv] at this
  simpa using this
theorem headsP_mem {q : QueryE} {db : List FactC} (h : safeQ q) (x : List Int) : x ∈ headsP q db ↔ ∃ v : Int → Int, Sat v db q.2 ∧ x = q.1.map (val v) := by
 rw [← raw_iff h x, (sortL_ok _).2 x]
 have hb : ∀ b ∈ visitL db q.2 bNone, q.1.map (tS (sV b)) = tupOf b q.1 := fun b hb => List.map_congr_left fun t ht => tS_valOf b t (List.all_eq_true.1 h.1.1 t ht) (safe_bnd h hb t ht)
 unfold headsP
 simp only [List.mem_map]
 constructor
 ·rintro ⟨b, hm, rfl⟩
  exact ⟨sV b, (sortL_ok _).2 _ |>.2 (List.mem_map.2 ⟨b, hm, rfl⟩), hb b hm⟩
 ·rintro ⟨v, hv, rfl⟩
  obtain ⟨b, hm, rfl⟩ := (rawP_ok q db).1 v hv
  exact ⟨b, hm, (hb b hm).symm⟩
theorem sat_dist {q : QueryE} {db : List FactC} {v : Int → Int} : Sat v (distL db) q.2 ↔ Sat v db q.2 :=
 ⟨fun h a ha => (distL_mem db _).1 (h a ha), fun h a ha => (distL_mem db _).2 (h a ha)⟩
theorem overI_iff {q : QueryE} {db : List FactC} (x : List Int) : x ∈ overI q db ↔ x ∈ overS q db := by
 unfold overI
 cases hK : overK q db.length with
 | false =>
  unfold overS
  rw [hK]
  simp
 | true =>
  have hs := overK_safe hK
  rw [over_iff hs hK, if_pos rfl, (sortL_ok _).2 x, headsP_mem hs]
  exact ⟨fun ⟨v, h1, h2⟩ => ⟨v, sat_dist.1 h1, h2⟩, fun ⟨v, h1, h2⟩ => ⟨v, sat_dist.2 h1, h2⟩⟩
theorem overI_size (q : QueryE) (db : List FactC) (hn : overK q db.length = true → db.length ^ q.2.length ≤ 549755813888) : (overI q db).length ≤ 549755813888 ∧ ∀ x ∈ overI q db, x.length ≤ q.1.length := by
 unfold overI
 cases hK : overK q db.length with
 | false => simp
 | true =>
  have h1 := sortL_len true (headsP q (distL db))
  have h2 := visitL_len (distL db) q.2 bNone
  have h3 : (distL db).length ^ q.2.length ≤ db.length ^ q.2.length := Nat.pow_le_pow_left (distL_len db) _
  have h4 := hn hK
  have h5 : (headsP q (distL db)).length = (visitL (distL db) q.2 bNone).length := by unfold headsP; rw [List.length_map]
  rw [if_pos rfl]
  refine ⟨by omega, fun x hx => ?_⟩
  obtain ⟨b, _, rfl⟩ := List.mem_map.1 (mem_sortL hx)
  rw [tupOf, List.length_map]
  exact Nat.le_refl _
def totStep (a : Int) (x : List Int × Int) : Int := IntKind.i64.wrap (a + x.2)
def pTotalCount (xs : List (List Int × Int)) : Int := xs.foldl totStep 0
theorem implTotalCount_spec (x0 : List (List Int × Int)) (h0 : cCountedS x0 ≤ 1048576) : Spec Tryz.prog 14 [vCountedS x0] (ci (pTotalCount x0)) := by
 unfold cCountedS at h0
 refine Spec_of mx Γ_ok Tryz.func14 rfl ?_
 conv => whnf
 refine ⟨[(2,0),(3,0),(6,0),(7,0),(8,0)], fun m s => ∃ (k : Nat) (e f : Int), e = k ∧ m + k = x0.length ∧ pTotalCount x0 = (x0.drop k).foldl totStep f ∧
  s = ⟨18, [(2, ci 0), (3, ci f), (6, vCountedS x0), (7, ci x0.length), (8, ci e)], []⟩, x0.length, ⟨0, 0, 0, rfl, rfl, rfl, rfl⟩, ?_⟩
 rintro m s ⟨k, _, f, rfl, hm, hall, rfl⟩
 conv => whnf
 split <;> rename_i h3
 all_goals simp only [decide_eq_true_eq, decide_eq_false_iff_not] at h3
 ·conv => whnf
  have hk : k < x0.length := by omega
  rw [List.drop_eq_getElem_cons hk, List.foldl_cons] at hall
  refine ⟨by omega, rows_len rCounted_len _, ?_⟩
  conv => whnf
  refine ⟨_, takeN_rp (k := k) rCounted_len hk, ?_⟩
  conv => whnf
  refine ⟨m - 1, by omega, k + 1, _, totStep f x0[k], wrap_id (by omega) (by omega), by omega, hall, rfl⟩
 ·conv => whnf
  rw [List.drop_eq_nil_of_le (by omega), List.foldl_nil] at hall
  rw [hall]
  rfl
theorem big_spec (xs : List Int) : Spec Tryz.prog 7 [bytesR xs] (cb (decide ((xs.length : Int) > 1048576))) := by
 unfold bytesR
 refine Spec_of mx Γ_ok Tryz.func7 rfl ?_
 conv => whnf
 rfl
theorem sameInts_spec (xs ys : List Int) (hl : xs.length ≤ 1099511627776) (hl' : ys.length ≤ 1099511627776) : Spec Tryz.prog 15 [ints xs, ints ys] (cb (decide (xs = ys))) := by
 refine Spec_of mx Γ_ok Tryz.func15 rfl ?_
 conv => whnf
 split <;> rename_i h0
 ·conv => whnf
  simp only [bne_iff_ne, ne_eq] at h0
  show cb false = _
  rw [ne_len (by omega)]
 conv => whnf
 have h0' : xs.length = ys.length := by
  have h3 : (xs.length : Int) = ys.length := by simpa using h0
  omega
 refine ⟨[(0,0),(1,0),(4,0),(5,0)], fun m s => ∃ (k : Nat) (e : Int), e = k ∧ m + k = xs.length ∧ decide (xs = ys) = decide (xs.drop k = ys.drop k) ∧
  s = ⟨26, [(0, ints xs), (1, ints ys), (4, cb false), (5, ci e)], []⟩, xs.length, ⟨0, 0, rfl, rfl, rfl, rfl⟩, ?_⟩
 rintro m s ⟨k, _, rfl, hm, hj, rfl⟩
 conv => whnf
 split <;> rename_i h1
 all_goals simp only [decide_eq_true_eq, decide_eq_false_iff_not] at h1
 ·conv => whnf
  have hk : k < xs.length := by omega
  have hk' : k < ys.length := by omega
  rw [drop_eq_at hk hk'] at hj
  refine ⟨List.range 9, by kernel_rfl, ?_⟩
  conv => whnf
  refine ⟨by omega, rows_len ciL_len xs, ?_⟩
  conv => whnf
  refine ⟨_, takeN_rp (k := k) ciL_len hk, ?_⟩
  conv => whnf
  refine ⟨by omega, rows_len ciL_len ys, ?_⟩
  conv => whnf
  refine ⟨_, takeN_rp (k := k) ciL_len hk', ?_⟩
  conv => whnf
  split <;> rename_i h2
  ·conv => whnf
   show cb false = _
   rw [hj, decide_eq_false (p := xs[k] = ys[k]) (by simpa using h2), Bool.false_and]
  ·conv => whnf
   rw [decide_eq_true (p := xs[k] = ys[k]) (by simpa using h2), Bool.true_and] at hj
   exact ⟨m - 1, by omega, k + 1, _, wrap_id (by omega) (by omega), by omega, hj, rfl⟩
 ·conv => whnf
  rw [hj, drop_end (by omega), drop_end (by omega)]
  rfl
end Go.Proofs.YtboolngaahifdaaGreatD
