/- Contracts and plain laws of this seat; no condition. -/
import Derived.Test.YtboolngaahifdaaGreatQ36
import Derived.Test.YtboolngaahifdaaGreatQ30
set_option linter.unusedVariables false
set_option linter.unusedSimpArgs false
set_option maxRecDepth 100000
namespace Go.Proofs.YtboolngaahifdaaGreatD
open Go Go.Proofs
def leC (z c : bA) : Prop := ltI (bO c) (bO z) = false
theorem IA {a b c : bA} (h1 : leC a b) (h2 : leC b c) : leC a c := by
 unfold leC at *
 cases h : ltI (bO c) (bO a) with
 | false => rfl
 | true =>
  rcases rM.tri (bO b) (bO a) with h3 | h3 | h3
  ·rw [h3] at h1; cases h1
  ·rw [← h3] at h; rw [h] at h2; cases h2
  ·have := rM.tr _ _ _ h h3
   rw [this] at h2; cases h2
theorem xR (a : bA) : leC a a := SM _
def RJ (h : List Int) (body left : List aL) (z : bA) : Prop := ∃ p : List aL, p.Perm left ∧ z = nmQ (h, body ++ p)
theorem U4 (o : Option bA) (y : bA) : ∃ z, jG o y = some z ∧ (o = some z ∨ z = y) ∧ (∀ b, o = some b → leC z b) ∧ leC z y := by
 unfold jG
 cases o with
 | none => exact ⟨y, rfl, .inr rfl, (fun b hb => by cases hb), xR y⟩
 | some b =>
  simp only
  split
  ·rename_i h
   refine ⟨y, rfl, .inr rfl, fun b' hb => ?_, xR y⟩
   cases hb
   exact rM.asym h
  ·rename_i h
   refine ⟨b, rfl, .inl rfl, fun b' hb => ?_, ?_⟩
   ·cases hb; exact xR b
   ·exact Bool.eq_false_iff.2 h
theorem nX : ∀ {l : List aL} {i : Nat} (hi : i < l.length), (l[i] :: l.eraseIdx i).Perm l
 | a :: r, 0, _ => List.Perm.refl _
 | a :: r, i + 1, hi => by
  have hi' : i < r.length := by simpa using hi
  have ih := nX hi'
  rw [List.getElem_cons_succ, List.eraseIdx_cons_succ]
  exact (List.Perm.swap _ _ _).trans (ih.cons a)
theorem F6 {left p : List aL} {a : aL} (h : (a :: p).Perm left) : ∃ i, i < left.length ∧ left.getD i (0, []) = a ∧ p.Perm (left.eraseIdx i) := by
 have ha : a ∈ left := h.subset (by simp)
 obtain ⟨i, hi, rfl⟩ := List.getElem_of_mem ha
 refine ⟨i, hi, by simp [List.getD_eq_getElem?_getD, hi], ?_⟩
 have h2 := nX hi
 exact (h.trans h2.symm).cons_inv
theorem L7 {left p : List aL} {i : Nat} (hi : i < left.length) (h : p.Perm (left.eraseIdx i)) : (left.getD i (0, []) :: p).Perm left := by
 have e : left.getD i (0, []) = left[i] := by simp [List.getD_eq_getElem?_getD, hi]
 rw [e]
 exact (h.cons _).trans (nX hi)
theorem PA (h : List Int) : ∀ (n : Nat) (body left : List aL) (o : Option bA), left.length = n →
  ∃ z, nC h n body left o = some z ∧ (o = some z ∨ RJ h body left z) ∧ (∀ b, o = some b → leC z b) ∧ ∀ c, RJ h body left c → leC z c
 | 0, body, left, o, hl => by
  have hl0 : left = [] := List.length_eq_zero_iff.1 hl
  subst hl0
  obtain ⟨z, h1, h2, h3, h4⟩ := U4 o (nmQ (h, body))
  refine ⟨z, h1, h2.imp id (fun e => ⟨[], List.Perm.refl _, by rw [List.append_nil]; exact e⟩), h3, ?_⟩
  rintro c ⟨p, hp, rfl⟩
  have : p = [] := hp.eq_nil
  subst this
  rw [List.append_nil]
  exact h4
 | n + 1, body, left, o, hl => by
  have key : ∀ (l : List Nat) (o : Option bA), (∀ i ∈ l, i < left.length) → (l ≠ [] ∨ ∃ b, o = some b) →
    ∃ z, l.foldl (fun o i => nC h n (body ++ [left.getD i (0, [])]) (left.eraseIdx i) o) o = some z ∧ (o = some z ∨ ∃ i ∈ l, RJ h (body ++ [left.getD i (0, [])]) (left.eraseIdx i) z) ∧ (∀ b, o = some b → leC z b) ∧
     ∀ i ∈ l, ∀ c, RJ h (body ++ [left.getD i (0, [])]) (left.eraseIdx i) c → leC z c := by
   intro l
   induction l with
   | nil =>
    intro o _ ho
    rcases ho with ho | ⟨b, rfl⟩
    ·exact absurd rfl ho
    ·exact ⟨b, rfl, .inl rfl, (fun b' hb => by cases hb; exact xR b), fun i hi => by cases hi⟩
   | cons i l ih =>
    intro o hi _
    have hil : i < left.length := hi i (by simp)
    obtain ⟨y, y1, y2, y3, y4⟩ := PA h n (body ++ [left.getD i (0, [])]) (left.eraseIdx i) o (by rw [List.length_eraseIdx, if_pos hil]; omega)
    rw [List.foldl_cons, y1]
    obtain ⟨z, z1, z2, z3, z4⟩ := ih (some y) (fun j hj => hi j (by simp [hj])) (.inr ⟨y, rfl⟩)
    have hzy := z3 y rfl
    refine ⟨z, z1, ?_, fun b hb => IA hzy (y3 b hb), fun j hj c hc => ?_⟩
    ·rcases z2 with e | ⟨j, hj, hc⟩
     ·cases e
      rcases y2 with e | hc
      ·exact .inl e
      ·exact .inr ⟨i, by simp, hc⟩
     ·exact .inr ⟨j, by simp [hj], hc⟩
    ·rcases List.mem_cons.1 hj with rfl | hj
     ·exact IA hzy (y4 c hc)
     ·exact z4 j hj c hc
  obtain ⟨z, z1, z2, z3, z4⟩ := key (List.range left.length) o (fun i hi => List.mem_range.1 hi) (.inl (by
   intro e
   have h9 : (List.range left.length).length = 0 := by rw [e]; rfl
   rw [List.length_range] at h9
   omega))
  refine ⟨z, z1, ?_, z3, ?_⟩
  ·rcases z2 with e | ⟨i, hi, p, hp, rfl⟩
   ·exact .inl e
   ·refine .inr ⟨left.getD i (0, []) :: p, L7 (List.mem_range.1 hi) hp, ?_⟩
    rw [List.append_assoc]; rfl
  ·rintro c ⟨p, hp, rfl⟩
   cases p with
   | nil => have := hp.length_eq; simp at this; omega
   | cons a p =>
    obtain ⟨i, hi, rfl, hp2⟩ := F6 hp
    exact z4 i (List.mem_range.2 hi) _ ⟨p, hp2, by rw [List.append_assoc]; rfl⟩
def VV (q z : bA) : Prop := ∃ p : List aL, p.Perm q.2 ∧ z = nmQ (q.1, p)
theorem A1 (q : bA) : VV q (fG q) ∧ ∀ c, VV q c → leC (fG q) c := by
 obtain ⟨z, h1, h2, _, h4⟩ := PA q.1 q.2.length [] q.2 none rfl
 have e : fG q = z := by unfold fG; rw [h1]; rfl
 rw [e]
 refine ⟨?_, ?_⟩
 ·rcases h2 with e | ⟨p, hp, h⟩
  ·cases e
  ·exact ⟨p, hp, by simpa using h⟩
 ·rintro c ⟨p, hp, rfl⟩
  exact h4 _ ⟨p, hp, by simp⟩
def sgm (S : List Int) (x : Int) : Int := (mK S x 0 : Int)
theorem T5 : ∀ (S : List Int) (v : Int) (j : Nat), has S v = true → mK S v j < j + S.length
 | [], v, j, h => by cases h
 | x :: r, v, j, h => by
  simp only [mK]
  cases hb : (x == v) with
  | true => simp only [if_true, List.length_cons]; omega
  | false =>
   rw [pY, hb, Bool.false_or] at h
   have := T5 r v (j + 1) h
   simp only [Bool.false_eq_true, if_false, List.length_cons]
   omega
theorem F9 : ∀ (S : List Int) (v : Int) (j : Nat), has S v = true → S.getD (mK S v j - j) 0 = v ∧ j ≤ mK S v j
 | [], v, j, h => by cases h
 | x :: r, v, j, h => by
  simp only [mK]
  cases hb : (x == v) with
  | true => simp only [if_true, Nat.sub_self]; exact ⟨by simpa using hb, Nat.le_refl _⟩
  | false =>
   rw [pY, hb, Bool.false_or] at h
   obtain ⟨h1, h2⟩ := F9 r v (j + 1) h
   simp only [Bool.false_eq_true, if_false]
   refine ⟨?_, by omega⟩
   rw [show mK r v (j + 1) - j = (mK r v (j + 1) - (j + 1)) + 1 from by omega]
   simpa using h1
theorem E6 : ∀ (xs S : List Int), (∀ x ∈ xs.foldl eQ S, x ∈ S ∨ (x ∈ xs ∧ b8 x = true)) ∧ (xs.foldl eQ S).length ≤ S.length + xs.length
 | [], S => ⟨fun x h => .inl h, by simp⟩
 | y :: ys, S => by
  obtain ⟨h1, h2⟩ := E6 ys (eQ S y)
  have h3 : (eQ S y).length ≤ S.length + 1 := by unfold eQ; split <;> simp
  refine ⟨fun x hx => ?_, by rw [List.foldl_cons, List.length_cons]; omega⟩
  rw [List.foldl_cons] at hx
  rcases h1 x hx with h | h
  ·unfold eQ at h
   split at h
   ·rename_i hv
    simp only [Bool.and_eq_true] at hv
    rcases List.mem_append.1 h with h | h
    ·exact .inl h
    ·rw [List.mem_singleton.1 h]; exact .inr ⟨by simp, hv.1⟩
   ·exact .inl h
  ·exact .inr ⟨by simp [h.1], h.2⟩
theorem XY {q : bA} {x : Int} (h : has (f8 q) x = true) : x ∈ dR q ∧ b8 x = true := by
 simp only [has, List.any_eq_true, eqV, beq_iff_eq] at h
 obtain ⟨y, hy, rfl⟩ := h
 rcases (E6 (dR q) []).1 y hy with h | h
 ·cases h
 ·exact h
theorem yM {q : bA} {x : Int} (h : x ∈ dR q) (hv : b8 x = true) : has (f8 q) x = true := xM _ _ x h hv
theorem TC {q : bA} {x : Int} (h : x ∈ dR q) : mT (f8 q) x = app (sgm (f8 q)) x := by
 unfold mT app sgm
 cases hv : b8 x with
 | false => simp
 | true => simp [yM h hv]
theorem lW {q : bA} {x : Int} (h : x ∈ q.1) : x ∈ dR q := List.mem_append.2 (.inl h)
theorem gQ {q : bA} {a : aL} {x : Int} (ha : a ∈ q.2) (h : x ∈ a.2) : x ∈ dR q := List.mem_append.2 (.inr (List.mem_flatMap.2 ⟨a, ha, h⟩))
theorem xX (q : bA) : nmQ q = (q.1.map (app (sgm (f8 q))), q.2.map (kJ (sgm (f8 q)))) := by
 rw [QJ]
 refine Prod.ext ?_ ?_
 ·exact List.map_congr_left fun x hx => TC (lW hx)
 ·refine List.map_congr_left fun a ha => ?_
  unfold kJ
  congr 1
  exact List.map_congr_left fun x hx => TC (gQ ha hx)
def vE (τ : Int → Int) (xs : List Int) : Prop := (∀ x ∈ xs, b8 x = true → b8 (τ x) = true) ∧ ∀ x ∈ xs, ∀ y ∈ xs, b8 x = true → b8 y = true → τ x = τ y → x = y
theorem ZX {τ : Int → Int} {D : List Int} (hi : vE τ D) {S : List Int} (hS : ∀ y ∈ S, y ∈ D ∧ b8 y = true) {x : Int} (hx : x ∈ D) (hv : b8 x = true) : has (S.map τ) (τ x) = has S x := by
 rw [Bool.eq_iff_iff]
 simp only [has, List.any_eq_true, eqV, beq_iff_eq, List.mem_map]
 constructor
 ·rintro ⟨_, ⟨y, hy, rfl⟩, he⟩
  have := hi.2 _ hx _ (hS y hy).1 hv (hS y hy).2 (by simpa using he.symm)
  exact ⟨y, hy, by simpa using this.symm⟩
 ·rintro ⟨y, hy, he⟩
  exact ⟨τ y, ⟨y, hy, rfl⟩, by simpa using congrArg τ he⟩
theorem gZ {τ : Int → Int} {x : Int} (h : b8 x = false) : app τ x = x := by unfold app; rw [h]; rfl
theorem qU {τ : Int → Int} {x : Int} (h : b8 x = true) : app τ x = τ x := by unfold app; rw [h]; rfl
theorem N0 {τ : Int → Int} {D : List Int} (hi : vE τ D) : ∀ (xs S : List Int), (∀ x ∈ xs, x ∈ D) → (∀ y ∈ S, y ∈ D ∧ b8 y = true) → (xs.map (app τ)).foldl eQ (S.map τ) = (xs.foldl eQ S).map τ
 | [], S, _, _ => rfl
 | x :: xs, S, hx, hS => by
  have hxD := hx x (by simp)
  have e : eQ (S.map τ) (app τ x) = (eQ S x).map τ := by
   cases hv : b8 x with
   | false => rw [gZ hv]; unfold eQ; rw [hv]; rfl
   | true =>
    rw [qU hv]
    unfold eQ
    rw [ZX hi hS hxD hv, hi.1 x hxD hv, hv]
    cases has S x <;> simp
  rw [List.map_cons, List.foldl_cons, List.foldl_cons, e]
  refine N0 hi xs (eQ S x) (fun y hy => hx y (by simp [hy])) fun y hy => ?_
  unfold eQ at hy
  split at hy
  ·rename_i hc
   simp only [Bool.and_eq_true] at hc
   rcases List.mem_append.1 hy with hy | hy
   ·exact hS y hy
   ·rw [List.mem_singleton.1 hy]; exact ⟨hxD, hc.1⟩
  ·exact hS y hy
theorem OF {τ : Int → Int} {D : List Int} (hi : vE τ D) {x : Int} (hx : x ∈ D) (hv : b8 x = true) : ∀ (S : List Int) (j : Nat), (∀ y ∈ S, y ∈ D ∧ b8 y = true) → mK (S.map τ) (τ x) j = mK S x j
 | [], j, _ => rfl
 | y :: S, j, hS => by
  obtain ⟨h1, h2⟩ := hS y (by simp)
  simp only [List.map_cons, mK]
  have e : (τ y == τ x) = (y == x) := by
   rw [Bool.eq_iff_iff, beq_iff_eq, beq_iff_eq]
   exact ⟨fun h => hi.2 _ h1 _ hx h2 hv h, fun h => by rw [h]⟩
  rw [e, OF hi hx hv S (j + 1) fun z hz => hS z (by simp [hz])]
def VD (τ : Int → Int) (q : bA) : bA := (q.1.map (app τ), q.2.map (kJ τ))
theorem W3 (τ : Int → Int) (q : bA) : dR (VD τ q) = (dR q).map (app τ) := by
 unfold dR VD
 rw [List.map_append, List.map_flatMap, List.flatMap_map]
 rfl
theorem SZ {τ : Int → Int} {q : bA} (hi : vE τ (dR q)) : nmQ (VD τ q) = nmQ q := by
 have hS : ∀ y ∈ f8 q, y ∈ dR q ∧ b8 y = true := fun y hy => XY (q := q) (by
  simp only [has, List.any_eq_true, eqV, beq_iff_eq]
  exact ⟨y, hy, rfl⟩)
 have e : f8 (VD τ q) = (f8 q).map τ := by
  have h0 := N0 hi (dR q) [] (fun x hx => hx) (fun y hy => by cases hy)
  unfold f8
  rw [W3]
  exact h0
 have key : ∀ x ∈ dR q, app (sgm (f8 (VD τ q))) (app τ x) = app (sgm (f8 q)) x := by
  intro x hx
  cases hv : b8 x with
  | false => rw [gZ hv, gZ hv, gZ hv]
  | true =>
   rw [qU hv, qU (hi.1 x hx hv), qU hv]
   unfold sgm
   rw [e, OF hi hx hv _ _ hS]
 rw [xX, xX]
 unfold VD at key ⊢
 refine Prod.ext ?_ ?_
 ·simp only [List.map_map]
  exact List.map_congr_left fun x hx => key x (lW hx)
 ·simp only [List.map_map]
  refine List.map_congr_left fun a ha => ?_
  unfold kJ
  simp only [Function.comp, List.map_map]
  congr 1
  exact List.map_congr_left fun x hx => key x (gQ ha hx)
theorem L8 {α β : Type} {f : α → β} {l' m : List β} (h : l'.Perm m) : ∀ {p : List α}, p.map f = m → ∃ l : List α, l.Perm p ∧ l' = l.map f := by
 induction h with
 | nil => intro p hp; exact ⟨[], by rw [List.map_eq_nil_iff.1 hp], rfl⟩
 | cons x _ ih =>
  intro p hp
  cases p with
  | nil => cases hp
  | cons a p =>
   simp only [List.map_cons, List.cons.injEq] at hp
   obtain ⟨l, h1, h2⟩ := ih hp.2
   exact ⟨a :: l, h1.cons a, by rw [h2, ← hp.1]; rfl⟩
 | swap x y l =>
  intro p hp
  match p, hp with
  | a :: b :: p, hp =>
   simp only [List.map_cons, List.cons.injEq] at hp
   exact ⟨b :: a :: p, List.Perm.swap _ _ _, by rw [← hp.1, ← hp.2.1, ← hp.2.2]; rfl⟩
 | trans _ _ ih1 ih2 =>
  intro p hp
  obtain ⟨l, h1, h2⟩ := ih2 hp
  obtain ⟨k, h3, h4⟩ := ih1 h2.symm
  exact ⟨k, h3.trans h1, h4⟩
theorem z8 {h : List Int} {p r : List aL} (hp : p.Perm r) : ∀ x, x ∈ dR (h, p) ↔ x ∈ dR (h, r) := by
 intro x
 simp only [dR, List.mem_append, List.mem_flatMap]
 constructor
 ·rintro (h | ⟨a, ha, hx⟩)
  ·exact .inl h
  ·exact .inr ⟨a, hp.mem_iff.1 ha, hx⟩
 ·rintro (h | ⟨a, ha, hx⟩)
  ·exact .inl h
  ·exact .inr ⟨a, hp.mem_iff.2 ha, hx⟩
theorem EF {τ : Int → Int} {h : List Int} {p r : List aL} (hp : p.Perm r) (hi : vE τ (dR (h, r))) : vE τ (dR (h, p)) :=
 ⟨fun x hx => hi.1 x ((z8 hp x).1 hx), fun x hx y hy => hi.2 x ((z8 hp x).1 hx) y ((z8 hp y).1 hy)⟩
def Iso (τ : Int → Int) (q y : bA) : Prop := vE τ (dR q) ∧ y.1 = q.1.map (app τ) ∧ y.2.Perm (q.2.map (kJ τ))
theorem MI {τ : Int → Int} {q y : bA} (h : Iso τ q y) (z : bA) : VV y z ↔ VV q z := by
 obtain ⟨hi, h1, h2⟩ := h
 constructor
 ·rintro ⟨p, hp, rfl⟩
  obtain ⟨l, l1, rfl⟩ := L8 (hp.trans h2) rfl
  refine ⟨l, l1, ?_⟩
  rw [h1]
  exact SZ (q := (q.1, l)) (EF l1 hi)
 ·rintro ⟨p, hp, rfl⟩
  refine ⟨p.map (kJ τ), (hp.map _).trans h2.symm, ?_⟩
  rw [h1]
  exact (SZ (q := (q.1, p)) (EF hp hi)).symm
def HD (ar : Int → Nat) (l : List aL) : Prop := ∀ a ∈ l, a.2.length = ar a.1
theorem vH {ar : Int → Nat} : ∀ {x y : List aL}, HD ar x → HD ar y → x.flatMap k5 = y.flatMap k5 → x = y
 | [], [], _, _, _ => rfl
 | [], b :: y, _, _, h => by simp [k5] at h
 | a :: x, [], _, _, h => by simp [k5] at h
 | a :: x, b :: y, hx, hy, h => by
  simp only [List.flatMap_cons, k5, List.cons_append, List.cons.injEq] at h
  obtain ⟨h1, h2⟩ := h
  have hl : a.2.length = b.2.length := by rw [hx a (by simp), hy b (by simp), h1]
  obtain ⟨h3, h4⟩ := List.append_inj h2 hl
  rw [vH (fun c hc => hx c (by simp [hc])) (fun c hc => hy c (by simp [hc])) h4, Prod.ext h1 h3]
theorem WL {ar : Int → Nat} {x y : bA} (hx : HD ar x.2) (hy : HD ar y.2) (h : bO x = bO y) : x = y := by
 simp only [bO, List.cons_append, List.cons.injEq] at h
 obtain ⟨h1, h2⟩ := List.append_inj h.2 (by omega)
 exact Prod.ext h1 (vH hx hy h2)
theorem a2B {ar : Int → Nat} {x y : bA} (hx : HD ar x.2) (hy : HD ar y.2) (h1 : leC x y) (h2 : leC y x) : x = y := by
 refine WL hx hy ?_
 unfold leC at h1 h2
 rcases rM.tri (bO x) (bO y) with h | h | h
 ·rw [h] at h2; cases h2
 ·exact h
 ·rw [h] at h1; cases h1
theorem xY {ar : Int → Nat} {q z : bA} (h : HD ar q.2) (hz : VV q z) : HD ar z.2 := by
 obtain ⟨p, hp, rfl⟩ := hz
 rw [xX]
 intro a ha
 obtain ⟨b, hb, rfl⟩ := List.mem_map.1 ha
 have := h b (hp.mem_iff.1 hb)
 simpa [kJ] using this
theorem Y4 {ar : Int → Nat} {τ : Int → Int} {q y : bA} (h : Iso τ q y) (ho : HD ar q.2) : fG y = fG q := by
 obtain ⟨a1, a2⟩ := A1 q
 obtain ⟨b1, b2⟩ := A1 y
 have c1 := (MI h _).2 a1
 have c2 := (MI h _).1 b1
 exact a2B (xY ho c2) (xY ho a1) (b2 _ c1) (a2 _ c2)
theorem Q5 {s : List Int} {q : bA} (h : aH s q = true) : HD (fun r => (s.getD r.toNat 0).toNat) q.2 := by
 simp only [aH, nW, Bool.and_eq_true, List.all_eq_true] at h
 intro a ha
 have := h.2.2.2.1 a ha
 simp only [fM, iE, Bool.and_eq_true, decide_eq_true_eq] at this
 have h5 := this.1.2.2
 simp only
 omega
theorem a0Z {q : bA} (hl : (f8 q).length ≤ 20) : vE (sgm (f8 q)) (dR q) := by
 refine ⟨fun x hx hv => ?_, fun x hx y hy hv hw he => ?_⟩
 ·have := T5 (f8 q) x 0 (yM hx hv)
  unfold sgm
  simp only [b8, inR, Bool.and_eq_true, decide_eq_true_eq]
  omega
 ·unfold sgm at he
  have h1 := (F9 (f8 q) x 0 (yM hx hv)).1
  have h2 := (F9 (f8 q) y 0 (yM hy hw)).1
  have : mK (f8 q) x 0 = mK (f8 q) y 0 := by omega
  rw [this] at h1
  exact h1.symm.trans h2
theorem BO {q : bA} (hl : (dR q).length ≤ 20) : ∃ τ, Iso τ q (fG q) := by
 obtain ⟨⟨p, hp, he⟩, _⟩ := A1 q
 have hs := (E6 (dR (q.1, p)) []).2
 have hlen : (dR (q.1, p)).length = (dR q).length := by
  simp only [dR, List.length_append]
  rw [(hp.flatMap_right (fun a : aL => a.2)).length_eq]
 have hsl : (f8 (q.1, p)).length ≤ 20 := by unfold f8; simp only [List.length_nil] at hs; omega
 refine ⟨sgm (f8 (q.1, p)), EF hp.symm (a0Z hsl), ?_, ?_⟩
 ·rw [he, xX]
 ·rw [he, xX]
  exact hp.map _
def MF (D : List Int) (τ : Int → Int) (v : Int) : Int := (D.find? fun t => b8 t && (τ t == v)).getD 0
theorem x8 {τ : Int → Int} {D : List Int} (hi : vE τ D) {x : Int} (hx : x ∈ D) : app (MF D τ) (app τ x) = x := by
 cases hv : b8 x with
 | false => rw [gZ hv, gZ hv]
 | true =>
  rw [qU hv, qU (hi.1 x hx hv)]
  unfold MF
  cases hf : D.find? fun t => b8 t && (τ t == τ x) with
  | none =>
   have := List.find?_eq_none.1 hf x hx
   simp [hv] at this
  | some t =>
   have h1 := List.find?_some hf
   have h2 := List.mem_of_find?_eq_some hf
   simp only [Bool.and_eq_true, beq_iff_eq] at h1
   exact hi.2 t h2 x hx h1.1 hv h1.2
theorem NH {τ : Int → Int} {q y : bA} (h : Iso τ q y) : nQ τ q y ∧ nQ (MF (dR q) τ) y q := by
 obtain ⟨hi, h1, h2⟩ := h
 refine ⟨⟨h1.symm, fun a ha => h2.mem_iff.2 (List.mem_map.2 ⟨a, ha, rfl⟩)⟩, ?_, fun b hb => ?_⟩
 ·rw [h1, List.map_map]
  exact (List.map_congr_left (g := id) fun x hx => x8 hi (lW hx)).trans (List.map_id _)
 ·obtain ⟨a, ha, rfl⟩ := List.mem_map.1 (h2.mem_iff.1 hb)
  have e : kJ (MF (dR q) τ) (kJ τ a) = a := by
   unfold kJ
   simp only [List.map_map]
   exact Prod.ext rfl ((List.map_congr_left (g := id) fun x hx => x8 hi (gQ ha hx)).trans (List.map_id _))
  rw [e]
  exact ha
theorem r4 {s : List Int} {q : bA} (h : aH s q = true) : (dR q).length ≤ 20 ∧ ∀ x ∈ dR q, aU x = true := by
 simp only [aH, nW, d5, Bool.and_eq_true, decide_eq_true_eq, List.all_eq_true] at h
 obtain ⟨h0, ⟨ht, h1⟩, h2, h3, _⟩ := h
 have h2' : 1 ≤ (q.2.length : Int) ∧ (q.2.length : Int) ≤ 4 := by simpa [inR] using h2
 have ha : ∀ a ∈ q.2, a.2.length ≤ 3 ∧ ∀ x ∈ a.2, aU x = true := fun a ha => by
  have hb := h3 a ha
  simp only [fM, iE, Bool.and_eq_true, decide_eq_true_eq, List.all_eq_true] at hb
  have h4 : s.getD a.1.toNat 0 ≤ 3 := by
   by_cases hi : a.1.toNat < s.length
   ·rw [jK hi]
    exact (uZ h0 hi).2
   ·rw [List.getD_eq_getElem?_getD, List.getElem?_eq_none (by omega)]
    simp
  have h5 := hb.1.2.2
  exact ⟨by omega, hb.2⟩
 have hf : ∀ l : List aL, (∀ a ∈ l, a.2.length ≤ 3) → (l.flatMap (·.2)).length ≤ 3 * l.length := by
  intro l
  induction l with
  | nil => intro _; simp
  | cons a l ih =>
   intro h
   have h1 := ih fun x hx => h x (by simp [hx])
   have h2 := h a (by simp)
   simp only [List.flatMap_cons, List.length_append, List.length_cons]
   omega
 have h6 := hf q.2 fun a h => (ha a h).1
 refine ⟨by unfold dR; rw [List.length_append]; omega, fun x hx => ?_⟩
 rcases List.mem_append.1 hx with hx | hx
 ·exact ht x hx
 ·obtain ⟨a, h7, h8⟩ := List.mem_flatMap.1 hx
  exact (ha a h7).2 x h8
theorem EL {τ : Int → Int} {D : List Int} (hi : vE τ D) {x : Int} (hx : x ∈ D) (ht : aU x = true) : aU (app τ x) = true := by
 cases hv : b8 x with
 | false => rw [gZ hv]; exact ht
 | true =>
  rw [qU hv]
  have := hi.1 x hx hv
  simp only [b8, aU, inR, Bool.and_eq_true, decide_eq_true_eq] at this ⊢
  omega
theorem ND {s : List Int} {τ : Int → Int} {q y : bA} (h : Iso τ q y) (hq : aH s q = true) : aH s y = true := by
 obtain ⟨hi, h1, h2⟩ := h
 have hall := (r4 hq).2
 simp only [aH, nW, d5, Bool.and_eq_true, decide_eq_true_eq, List.all_eq_true] at hq ⊢
 obtain ⟨g0, ⟨g1, g2⟩, g3, g4, g5⟩ := hq
 have hl : y.2.length = q.2.length := by rw [h2.length_eq, List.length_map]
 refine ⟨g0, ⟨fun t ht => ?_, by rw [h1, List.length_map]; exact g2⟩, by rw [hl]; exact g3, fun b hb => ?_, fun t ht => ?_⟩
 ·rw [h1] at ht
  obtain ⟨x, hx, rfl⟩ := List.mem_map.1 ht
  exact EL hi (lW hx) (g1 x hx)
 ·obtain ⟨a, ha, rfl⟩ := List.mem_map.1 (h2.mem_iff.1 hb)
  have := g4 a ha
  simp only [fM, Bool.and_eq_true, List.all_eq_true] at this ⊢
  refine ⟨?_, fun t ht => ?_⟩
  ·show iE s a.1 ((a.2.map (app τ)).length : Nat) = true
   rw [List.length_map]
   exact this.1
  ·obtain ⟨x, hx, rfl⟩ := List.mem_map.1 ht
   exact EL hi (gQ ha hx) (this.2 x hx)
 ·rw [h1] at ht
  obtain ⟨x, hx, rfl⟩ := List.mem_map.1 ht
  have h5 := g5 x hx
  unfold tU at h5 ⊢
  cases hv : b8 x with
  | false => rw [gZ hv, hv]; rfl
  | true =>
   rw [hv, Bool.true_and, Bool.not_not] at h5
   have : iU y (app τ x) = true := by
    simp only [iU, PY, List.any_eq_true, has, eqV, beq_iff_eq] at h5 ⊢
    obtain ⟨a, ha, z, hz, rfl⟩ := h5
    exact ⟨kJ τ a, h2.mem_iff.2 (List.mem_map.2 ⟨a, ha, rfl⟩), app τ z, List.mem_map.2 ⟨z, hz, rfl⟩, rfl⟩
   rw [this]
   simp
theorem EX {s : List Int} {q : bA} (h : aH s q = true) : aH s (fG q) = true ∧ fG (fG q) = fG q ∧ gW s (fG q) q = true ∧ gW s q (fG q) = true ∧ (fG q).2.length = q.2.length := by
 obtain ⟨τ, hi⟩ := BO (r4 h).1
 have hx := ND hi h
 obtain ⟨m1, m2⟩ := NH hi
 exact ⟨hx, Y4 hi (Q5 h), (pT s _ _).2 ⟨hx, h, _, m1⟩, (pT s _ _).2 ⟨h, hx, _, m2⟩, by rw [hi.2.2.length_eq, List.length_map]⟩
theorem UR {s : List Int} {a b : bA} (h : eL s a b = true) : (gW s a b && gW s b a) = true := by
 unfold eL bP at h
 simp only [Bool.and_eq_true, decide_eq_true_eq] at h
 obtain ⟨ha, hb, he⟩ := h
 rw [if_pos ha, if_pos hb] at he
 obtain ⟨_, _, a3, a4, _⟩ := EX ha
 obtain ⟨_, _, b3, b4, _⟩ := EX hb
 rw [Bool.and_eq_true]
 rw [he] at a3 a4
 exact ⟨k6 a4 b3, k6 b4 a3⟩
end Go.Proofs.YtboolngaahifdaaGreatD
