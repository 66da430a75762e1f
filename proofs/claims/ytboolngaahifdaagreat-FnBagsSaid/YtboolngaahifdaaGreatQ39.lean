/- Contracts and plain laws of this seat; no condition. -/
import Derived.Test.YtboolngaahifdaaGreatQ36
import Derived.Test.YtboolngaahifdaaGreatQ38
import Derived.Test.YtboolngaahifdaaGreatQ22
import Derived.Test.YtboolngaahifdaaGreatQ32
import Derived.Test.YtboolngaahifdaaGreatQ37
import Derived.Test.YtboolngaahifdaaGreatQ12
import Derived.Test.YtboolngaahifdaaGreatQ11
import Derived.Test.YtboolngaahifdaaGreatQ10
import Derived.Test.YtboolngaahifdaaGreatQ17
set_option linter.unusedVariables false
set_option linter.unusedSimpArgs false
set_option maxRecDepth 100000
namespace Go.Proofs.YtboolngaahifdaaGreatD
open Go Go.Proofs
theorem CO {q : bT} (h : aC q ≤ 1048576) : aC (d3 q) ≤ 1048576 := by
 obtain ⟨h1, h2⟩ := B1 b9 q.2
 unfold aC dW at h
 show q.1.length + ((jC q.2).length + bS b9 (jC q.2)) ≤ _
 omega
def dF (s : List Int) (a b : bT) : Bool := aH s a && (aH s b && eL s (d3 a) (d3 b))
theorem sH (x0 : List Int) (x1 x2 : bT) (h0 : cT x0 ≤ 1048576) (h1 : aC x1 ≤ 1048576) (h2 : aC x2 ≤ 1048576) : bI Tryz.prog 56 [aV x0, aP x1, aP x2] (cb (dF x0 x1 x2)) := by
 unfold dF
 refine aF mx aJ Tryz.func56 rfl ?_
 conv => whnf
 refine ⟨[0, 1, 2, 3, 4, 5, 6, 7, 8, 9, 10, 12, 11, 13, 14, 15, 16], by kernel_rfl, ?_⟩
 conv => whnf
 refine ⟨_, dU x0 x1 h0 h1, .inl rfl, .inl ?_⟩
 conv => whnf
 generalize aH x0 x1 = c1
 cases c1 with
 | false =>
  conv => whnf
  rfl
 | true =>
 conv => whnf
 refine ⟨_, dU x0 x2 h0 h2, .inl rfl, .inl ?_⟩
 conv => whnf
 generalize aH x0 x2 = c2
 cases c2 with
 | false =>
  conv => whnf
  rfl
 | true =>
 conv => whnf
 refine ⟨_, mG x1 h1, .inl rfl, .inl ?_⟩
 rw [cW]
 conv => whnf
 refine ⟨_, mG x2 h2, .inl rfl, .inl ?_⟩
 rw [cW]
 conv => whnf
 refine ⟨_, tX x0 (d3 x1) (d3 x2) h0 (CO h1) (CO h2), .inl rfl, .inl ?_⟩
 conv => whnf
 rfl
theorem sA (x0 : List Int) (x1 x2 : bT) (h0 : cT x0 ≤ 1048576) (h1 : aC x1 ≤ 1048576) (h2 : aC x2 ≤ 1048576) : bI Tryz.prog 54 [aV x0, aP x1, aP x2] (cb (dF x0 x1 x2)) := by
 unfold dF
 refine aF mx aJ Tryz.func54 rfl ?_
 conv => whnf
 refine ⟨[0, 1, 2, 3, 4, 5, 6, 7, 8, 9, 10, 12, 11, 13, 14, 15, 16], by kernel_rfl, ?_⟩
 conv => whnf
 refine ⟨_, dS x0 x1 h0 h1, .inl rfl, .inl ?_⟩
 conv => whnf
 generalize aH x0 x1 = c1
 cases c1 with
 | false =>
  conv => whnf
  rfl
 | true =>
 conv => whnf
 refine ⟨_, dS x0 x2 h0 h2, .inl rfl, .inl ?_⟩
 conv => whnf
 generalize aH x0 x2 = c2
 cases c2 with
 | false =>
  conv => whnf
  rfl
 | true =>
 conv => whnf
 refine ⟨_, m6 x1 h1, .inl rfl, .inl ?_⟩
 rw [cW]
 conv => whnf
 refine ⟨_, m6 x2 h2, .inl rfl, .inl ?_⟩
 rw [cW]
 conv => whnf
 refine ⟨_, tC x0 (d3 x1) (d3 x2) h0 (CO h1) (CO h2), .inl rfl, .inl ?_⟩
 conv => whnf
 rfl
def EY (B : List aG) (k : Nat) : Bool := B.any fun a => a.2.any fun t => decide (t = (k : Int))
theorem o6 {B : List aG} {k : Nat} : EY B k = true ↔ ∃ a ∈ B, (k : Int) ∈ a.2 := by
 simp only [EY, List.any_eq_true, decide_eq_true_eq]
 constructor
 ·rintro ⟨a, ha, t, ht, rfl⟩; exact ⟨a, ha, ht⟩
 ·rintro ⟨a, ha, ht⟩; exact ⟨a, ha, _, ht, rfl⟩
theorem DD : ∀ (ts vs : List Int) (b : Bnd) (k : Nat) (u : Int), (cQ ts vs b).1 k = some u → b k = some u ∨ ∃ t ∈ ts, 0 ≤ t ∧ t.toNat = k
 | [], vs, b, k, u, h => by
  have : (cQ [] vs b).1 = b := by cases vs <;> rfl
  rw [this] at h
  exact .inl h
 | t :: ts, [], b, k, u, h => .inl h
 | t :: ts, x :: vs, b, k, u, h => by
  have next : ∀ b1 : Bnd, (cQ ts vs b1).1 k = some u → b1 k = some u ∨ ∃ t' ∈ t :: ts, 0 ≤ t' ∧ t'.toNat = k := fun b1 h1 => by
   rcases DD ts vs b1 k u h1 with h2 | ⟨t', h2, h3⟩
   ·exact .inl h2
   ·exact .inr ⟨t', by simp [h2], h3⟩
  simp only [cQ] at h
  split at h
  ·split at h
   ·exact next b h
   ·exact .inl h
  ·rename_i hneg
   split at h
   ·rcases next _ h with h2 | h2
    ·simp only [sL] at h2
     split at h2
     ·rename_i he
      exact .inr ⟨t, by simp, by omega, by first | exact he.symm | exact he⟩
     ·exact .inl h2
    ·exact .inr h2
   ·split at h
    ·exact next b h
    ·exact .inl h
theorem GJ (db : List aG) : ∀ (body : List aG) (b b2 : Bnd), b2 ∈ c8 db body b → ∀ (k : Nat) (u : Int), b2 k = some u → b k = some u ∨ ∃ a ∈ body, ∃ t ∈ a.2, 0 ≤ t ∧ t.toNat = k
 | [], b, b2, h, k, u, hk => by
  have : b2 = b := by simpa [c8] using h
  subst this
  exact .inl hk
 | a :: r, b, b2, h, k, u, hk => by
  simp only [c8, List.mem_flatMap] at h
  obtain ⟨f, hf, h⟩ := h
  split at h
  ·rcases GJ db r _ b2 h k u hk with h1 | ⟨c, hc, h1⟩
   ·unfold mch at h1
    split at h1
    ·rcases DD _ _ _ _ _ h1 with h2 | ⟨t, ht, h2⟩
     ·exact .inl h2
     ·exact .inr ⟨a, by simp, t, ht, h2⟩
    ·exact .inl h1
   ·exact .inr ⟨c, by simp [hc], h1⟩
  ·cases h
def lst (B : List aG) (f : Int → Int) : List Int := (List.range 20).map fun k => if EY B k then f k else -1
theorem XU (B : List aG) (f : Int → Int) {k : Nat} (hk : k < 20) : (lst B f).getD k 0 = if EY B k then f k else -1 := by
 unfold lst
 rw [List.getD_eq_getElem?_getD, List.getElem?_map, List.getElem?_range hk]
 rfl
theorem IC {B : List aG} {f g : Int → Int} (h : ∀ k : Nat, EY B k = true → f k = g k) : lst B f = lst B g := by
 unfold lst
 refine List.map_congr_left fun k _ => ?_
 split
 ·rename_i ho; exact h k ho
 ·rfl
theorem a3O {B : List aG} {b : Bnd} {f : Int → Int} (h1 : ∀ k : Nat, EY B k = true → b k = some (f k)) (h2 : ∀ k : Nat, EY B k = false → b k = none) : sV b = lst B f := by
 have hl : (sV b).length = 20 := rfl
 have hl2 : (lst B f).length = 20 := by unfold lst; rw [List.length_map, List.length_range]
 refine List.ext_getElem (by rw [hl, hl2]) fun k hk hk2 => ?_
 have e1 : (sV b)[k] = (sV b).getD k 0 := by rw [List.getD_eq_getElem?_getD, List.getElem?_eq_getElem hk]; rfl
 have e2 : (lst B f)[k] = (lst B f).getD k 0 := by rw [List.getD_eq_getElem?_getD, List.getElem?_eq_getElem hk2]; rfl
 have e3 : (sV b).getD k 0 = (lst B f).getD k 0 := by
  rw [TG b (by omega), XU B f (by omega)]
  cases ho : EY B k with
  | true => rw [h1 k ho]; rfl
  | false => rw [h2 k ho]; rfl
 exact (e1.trans e3).trans e2.symm
theorem ST {db body : List aG} (t2 : ∀ a ∈ body, a.2.all aU = true) (x : List Int) : x ∈ (c8 db body fF).map sV ↔ ∃ f : Int → Int, Sat f db body ∧ x = lst body f := by
 have key : ∀ b ∈ c8 db body fF, ∀ f : Int → Int, (∀ (k : Nat) (u : Int), b k = some u → f k = u) → sV b = lst body f := by
  intro b hb f hf
  refine a3O (fun k ho => ?_) fun k ho => ?_
  ·obtain ⟨a, ha, ht⟩ := o6.1 ho
   obtain ⟨u, hu⟩ := Option.isSome_iff_exists.1 ((nE db body fF b t2 hb).2.2 a ha _ ht (by omega))
   rw [Int.toNat_natCast] at hu
   rw [hu, hf k u hu]
  ·cases hk : b k with
   | none => rfl
   | some u =>
    rcases GJ db body fF b hb k u hk with h | ⟨a, ha, t, ht, h0, rfl⟩
    ·cases h
    ·rw [o6.2 ⟨a, ha, by rw [Int.toNat_of_nonneg h0]; exact ht⟩] at ho
     cases ho
 constructor
 ·intro h
  obtain ⟨b, hb, rfl⟩ := List.mem_map.1 h
  refine ⟨vD b, (nE db body fF b t2 hb).2.1, key b hb _ fun k u hk => ?_⟩
  unfold vD ba
  rw [Int.toNat_natCast, hk]
  rfl
 ·rintro ⟨f, hf, rfl⟩
  obtain ⟨b, hb, hu⟩ := s8 db body fF t2 (RF f) hf
  exact List.mem_map.2 ⟨b, hb, key b hb f fun k u hk => hu k u hk⟩
theorem RA {B : List aG} {f : Int → Int} {t : Int} (ht : aU t = true) (ho : 0 ≤ t → ∃ a ∈ B, t ∈ a.2) : tS (lst B f) t = val f t := by
 have hr := qQ ht
 unfold tS
 split
 ·rename_i hn
  rw [M0 hn]
 ·rename_i hn
  have e : ((t.toNat : Nat) : Int) = t := Int.toNat_of_nonneg (by omega)
  rw [XU B f (by omega), if_pos (o6.2 (by rw [e]; exact ho (by omega))), e, CY ht hn]
def sN (y : bJ) (ρ : Int → Int) (x : List Int) : List Int := lst y.2 fun k => tS x (ρ k)
theorem sO {q y : bJ} {ρ : Int → Int} (hq : okT q) (hy : okT y) (h : nQ ρ y q) (f : Int → Int) : sN y ρ (lst q.2 f) = lst y.2 fun k => val f (ρ k) := by
 refine IC fun k ho => ?_
 obtain ⟨a, ha, hk⟩ := o6.1 ho
 have hkt := List.all_eq_true.1 (hy.2 a ha) _ hk
 have hkv : b8 (k : Int) = true := (nD hkt).2 (by omega)
 have hm : ρ k ∈ (kJ ρ a).2 := List.mem_map.2 ⟨_, hk, by unfold app; rw [if_pos hkv]⟩
 have hin := h.2 a ha
 exact RA (List.all_eq_true.1 (hq.2 _ hin) _ hm) fun _ => ⟨_, hin, hm⟩
theorem DG {q y : bJ} {τ ρ : Int → Int} {f : Int → Int} (hq : okT q) (hy : okT y) (h1 : nQ τ q y) (h2 : nQ ρ y q) (e : ∀ k : Nat, EY q.2 k = true → app ρ (app τ k) = k) : sN q τ (sN y ρ (lst q.2 f)) = lst q.2 f := by
 rw [sO hq hy h2, sO hy hq h1]
 refine IC fun k ho => ?_
 obtain ⟨a, ha, hk⟩ := o6.1 ho
 have hkt := List.all_eq_true.1 (hq.2 a ha) _ hk
 have hkv : b8 (k : Int) = true := (nD hkt).2 (by omega)
 have e2 : app τ k = τ k := by unfold app; rw [if_pos hkv]
 show val (fun j => val f (ρ j)) (τ k) = _
 rw [LZ, ← e2, e k ho, CY hkt (by omega)]
theorem AZ {s : List Int} {q y : bJ} {τ ρ : Int → Int} (db : List aG) (hq : aH s q = true) (hy : aH s y = true) (h1 : nQ τ q y) (h2 : nQ ρ y q) (e1 : ∀ k : Nat, EY q.2 k = true → app ρ (app τ k) = k) (e2 : ∀ k : Nat, EY y.2 k = true → app τ (app ρ k) = k) : bZ s q db = bZ s y db := by
 unfold bZ
 rw [hq, hy]
 cases hd : qA s db with
 | false => rfl
 | true =>
  rw [Bool.and_self, if_pos rfl, if_pos rfl]
  congr 1
  obtain ⟨a1, a2⟩ := FW ((oH q db).map fun v => q.1.map (tS v))
  obtain ⟨b1, b2⟩ := FW ((oH y db).map fun v => y.1.map (tS v))
  refine W4 a1 b1 ((a2.trans ?_).trans b2.symm)
  have oq := B8 hq
  have oy := B8 hy
  refine ((AA hq hd).map _).trans (List.Perm.trans ?_ ((AA hy hd).map _).symm)
  have nq := p9 (zS hd) q.2 fF oq.2
  have ny := p9 (zS hd) y.2 fF oy.2
  have mq := ST (db := db) oq.2
  have my := ST (db := db) oy.2
  generalize (c8 db q.2 fF).map sV = R at nq mq
  generalize (c8 db y.2 fF).map sV = S at ny my
  have k1 : ∀ x ∈ R, sN y ρ x ∈ S ∧ sN q τ (sN y ρ x) = x ∧ y.1.map (tS (sN y ρ x)) = q.1.map (tS x) := fun x hx => by
   obtain ⟨f, hf, rfl⟩ := (mq x).1 hx
   obtain ⟨s1, s2⟩ := TH h2 hf
   refine ⟨(my _).2 ⟨_, s1, sO oq oy h2 f⟩, DG oq oy h1 h2 e1, ?_⟩
   rw [sO oq oy h2]
   have g1 : y.1.map (tS (lst y.2 fun k => val f (ρ k))) = y.1.map (val fun k => val f (ρ k)) := List.map_congr_left fun t ht => by
    have htm := List.all_eq_true.1 oy.1 t ht
    exact RA htm fun h0 => EZ.1 (((tI s y).1 hy).2.2.2.2 t ht ((nD htm).2 h0))
   have g2 : q.1.map (tS (lst q.2 f)) = q.1.map (val f) := List.map_congr_left fun t ht => by
    have htm := List.all_eq_true.1 oq.1 t ht
    exact RA htm fun h0 => EZ.1 (((tI s q).1 hq).2.2.2.2 t ht ((nD htm).2 h0))
   rw [g1, g2, s2]
  have k2 : ∀ z ∈ S, sN q τ z ∈ R ∧ sN y ρ (sN q τ z) = z := fun z hz => by
   obtain ⟨f, hf, rfl⟩ := (my z).1 hz
   obtain ⟨s1, s2⟩ := TH h1 hf
   exact ⟨(mq _).2 ⟨_, s1, sO oy oq h1 f⟩, DG oy oq h2 h1 e2⟩
  have hp : (R.map (sN y ρ)).Perm S := by
   refine (List.perm_ext_iff_of_nodup ?_ ny).2 fun z => ⟨fun hz => ?_, fun hz => ?_⟩
   ·refine List.pairwise_map.2 (List.Pairwise.imp_of_mem (fun {a b} ha hb hne e => hne ?_) nq)
    rw [← (k1 a ha).2.1, ← (k1 b hb).2.1, e]
   ·obtain ⟨x, hx, rfl⟩ := List.mem_map.1 hz
    exact (k1 x hx).1
   ·exact List.mem_map.2 ⟨_, (k2 z hz).1, (k2 z hz).2⟩
  refine List.Perm.trans (List.Perm.of_eq ?_) (hp.map _)
  rw [List.map_map]
  exact List.map_congr_left fun x hx => (k1 x hx).2.2.symm
theorem D5 (k : Nat) : app id (app id (k : Int)) = k := by rw [vU, vU]
theorem xC {s : List Int} {q : bJ} (db : List aG) (hq : aH s q = true) (hd : aH s (d3 q) = true) : bZ s q db = bZ s (d3 q) db := by
 have i := I5 q
 refine AZ (τ := id) (ρ := id) db hq hd i.hom ⟨?_, fun a ha => ?_⟩ (fun k _ => D5 k) fun k _ => D5 k
 ·exact (List.map_congr_left fun t _ => vU t).trans (List.map_id _)
 ·rw [CJ]
  exact (uQ a q.2).1 ha
theorem B0 {s : List Int} {q : bJ} (db : List aG) (hq : aH s q = true) : bZ s q db = bZ s (fG q) db := by
 obtain ⟨τ, hi⟩ := BO (r4 hq).1
 obtain ⟨m1, m2⟩ := NH hi
 refine AZ (τ := τ) (ρ := MF (dR q) τ) db hq (EX hq).1 m1 m2 (fun k hk => ?_) fun k hk => ?_
 ·obtain ⟨a, ha, hk⟩ := o6.1 hk
  exact x8 hi.1 (gQ ha hk)
 ·obtain ⟨a, ha, hk⟩ := o6.1 hk
  obtain ⟨c, hc, rfl⟩ := List.mem_map.1 (hi.2.2.mem_iff.1 ha)
  obtain ⟨t, ht, hk⟩ := List.mem_map.1 hk
  rw [← hk, x8 hi.1 (gQ hc ht)]
theorem PI {s : List Int} {a b : bJ} (h : dF s a b = true) (db : List aG) : bZ s a db = bZ s b db := by
 unfold dF eL bP at h
 simp only [Bool.and_eq_true, decide_eq_true_eq] at h
 obtain ⟨ha, hb, hda, hdb, he⟩ := h
 rw [if_pos hda, if_pos hdb] at he
 rw [xC db ha hda, xC db hb hdb, B0 db hda, B0 db hdb]
 exact congrArg (fun q => bZ s q db) he
theorem U2 {s : List Int} {a b : bJ} (h : dF s a b = true) : (gW s a b && gW s b a) = true := by
 unfold dF at h
 simp only [Bool.and_eq_true] at h
 obtain ⟨ha, hb, hi⟩ := h
 have hi2 := hi
 unfold eL at hi2
 simp only [Bool.and_eq_true] at hi2
 obtain ⟨hda, hdb, _⟩ := hi2
 have c := UR hi
 simp only [Bool.and_eq_true] at c ⊢
 have up : ∀ {q : bJ}, aH s q = true → aH s (d3 q) = true → gW s q (d3 q) = true ∧ gW s (d3 q) q = true := fun {q} h1 h2 => by
  refine ⟨(pT s _ _).2 ⟨h1, h2, id, ⟨?_, fun a ha => ?_⟩⟩, (pT s _ _).2 ⟨h2, h1, id, (I5 q).hom⟩⟩
  ·exact (List.map_congr_left fun t _ => vU t).trans (List.map_id _)
  ·rw [CJ]
   exact (uQ a q.2).1 ha
 obtain ⟨a1, a2⟩ := up ha hda
 obtain ⟨b1, b2⟩ := up hb hdb
 exact ⟨k6 a1 (k6 c.1 b2), k6 b1 (k6 c.2 a2)⟩
theorem iV (a b : List aG) (ha : d6 a ≤ 1048576) (hb : d6 b ≤ 1048576) : bI Tryz.prog 58 [c7 a, c7 b] (cb (decide (a = b))) := by
 unfold d6 at ha hb
 refine aF mx aJ Tryz.func58 rfl ?_
 conv => whnf
 generalize hc2 : ((a.length : Int) != (b.length : Int)) = c2
 cases c2 with
 | true =>
  conv => whnf
  rw [wE (by intro h; rw [h] at hc2; simp at hc2)]
  rfl
 | false =>
 have hlen : a.length = b.length := by
  have : (a.length : Int) = b.length := by simpa using hc2
  omega
 conv => whnf
 refine ⟨[(0,0),(1,0),(4,0),(5,0)], fun m st => ∃ (k : Nat) (e : Int), e = k ∧ m + k = a.length ∧ decide (a = b) = decide (a.drop k = b.drop k) ∧
  st = ⟨27, [(0, c7 a), (1, c7 b), (4, cb false), (5, ci e)], []⟩, a.length, ⟨0, 0, rfl, rfl, rfl, by kernel_rfl⟩, ?_⟩
 rintro m st ⟨k, _, rfl, hm, hj, rfl⟩
 conv => whnf
 split <;> rename_i h1
 all_goals simp only [decide_eq_true_eq, decide_eq_false_iff_not] at h1
 ·have hk : k < a.length := by omega
  have hk' : k < b.length := by omega
  have h3 := bH (f := eF) hk
  have h4 := bH (f := eF) hk'
  have e3 : eF a[k] = a[k].2.length := rfl
  have e4 : eF b[k] = b[k].2.length := rfl
  rw [jR hk hk'] at hj
  conv => whnf
  refine ⟨List.range 10, by kernel_rfl, ?_⟩
  conv => whnf
  refine ⟨by omega, a6 aS _, ?_⟩
  conv => whnf
  refine ⟨_, aD (k := k) aS hk, ?_⟩
  conv => whnf
  refine ⟨by omega, a6 aS _, ?_⟩
  conv => whnf
  refine ⟨_, aD (k := k) aS hk', ?_⟩
  conv => whnf
  refine ⟨_, BD a[k] b[k] (by omega) (by omega), .inl rfl, .inl ?_⟩
  unfold eqF
  generalize decide (a[k] = b[k]) = c3 at hj
  cases c3 with
  | false =>
   conv => whnf
   rw [hj]
   rfl
  | true =>
   conv => whnf
   exact ⟨m - 1, by omega, k + 1, IntKind.i64.wrap ((k : Int) + 1), a8 (by omega) (by omega), by omega, by rw [hj, Bool.true_and], by kernel_rfl⟩
 ·conv => whnf
  rw [hj, List.drop_eq_nil_of_le (by omega), List.drop_eq_nil_of_le (by omega)]
  rfl
def yT (a : Int) (x : List Int × Int) : Int := IntKind.i64.wrap (a + x.2)
def oW (xs : List (List Int × Int)) : Int := xs.foldl yT 0
theorem iW (x0 : List (List Int × Int)) (h0 : cJ x0 ≤ 1048576) : bI Tryz.prog 61 [aY x0] (ci (oW x0)) := by
 unfold cJ at h0
 refine aF mx aJ Tryz.func61 rfl ?_
 conv => whnf
 refine ⟨[(0,0),(2,0),(3,0),(4,0)], fun m s => ∃ (k : Nat) (e f : Int), e = k ∧ m + k = x0.length ∧ oW x0 = (x0.drop k).foldl yT f ∧
  s = ⟨19, [(0, aY x0), (2, ci 0), (3, ci f), (4, ci e)], []⟩, x0.length, ⟨0, 0, 0, rfl, rfl, rfl, rfl⟩, ?_⟩
 rintro m s ⟨k, _, f, rfl, hm, hall, rfl⟩
 conv => whnf
 split <;> rename_i h3
 all_goals simp only [decide_eq_true_eq, decide_eq_false_iff_not] at h3
 ·conv => whnf
  have hk : k < x0.length := by omega
  rw [List.drop_eq_getElem_cons hk, List.foldl_cons] at hall
  refine ⟨by omega, a6 bW _, ?_⟩
  conv => whnf
  refine ⟨_, aR (k := k) (d := 1) (m := 1) (r := [ci x0[k].2]) bW hk (by omega) rfl, ?_⟩
  conv => whnf
  refine ⟨m - 1, by omega, k + 1, _, yT f x0[k], a8 (by omega) (by omega), by omega, hall, rfl⟩
 ·conv => whnf
  rw [List.drop_eq_nil_of_le (by omega), List.foldl_nil] at hall
  rw [hall]
  rfl
theorem iT (x0 : List (List Int × Int)) (h0 : cJ x0 ≤ 1048576) : bI Tryz.prog 14 [aY x0] (ci (oW x0)) := by
 unfold cJ at h0
 refine aF mx aJ Tryz.func14 rfl ?_
 conv => whnf
 refine ⟨[(2,0),(3,0),(6,0),(7,0),(8,0)], fun m s => ∃ (k : Nat) (e f : Int), e = k ∧ m + k = x0.length ∧ oW x0 = (x0.drop k).foldl yT f ∧
  s = ⟨18, [(2, ci 0), (3, ci f), (6, aY x0), (7, ci x0.length), (8, ci e)], []⟩, x0.length, ⟨0, 0, 0, rfl, rfl, rfl, rfl⟩, ?_⟩
 rintro m s ⟨k, _, f, rfl, hm, hall, rfl⟩
 conv => whnf
 split <;> rename_i h3
 all_goals simp only [decide_eq_true_eq, decide_eq_false_iff_not] at h3
 ·conv => whnf
  have hk : k < x0.length := by omega
  rw [List.drop_eq_getElem_cons hk, List.foldl_cons] at hall
  refine ⟨by omega, a6 bW _, ?_⟩
  conv => whnf
  refine ⟨_, aD (k := k) bW hk, ?_⟩
  conv => whnf
  refine ⟨m - 1, by omega, k + 1, _, yT f x0[k], a8 (by omega) (by omega), by omega, hall, rfl⟩
 ·conv => whnf
  rw [List.drop_eq_nil_of_le (by omega), List.foldl_nil] at hall
  rw [hall]
  rfl
theorem W9 (xs : List Int) : bI Tryz.prog 7 [lC xs] (cb (decide ((xs.length : Int) > 1048576))) := by
 unfold lC
 refine aF mx aJ Tryz.func7 rfl ?_
 conv => whnf
 rfl
end Go.Proofs.YtboolngaahifdaaGreatD
