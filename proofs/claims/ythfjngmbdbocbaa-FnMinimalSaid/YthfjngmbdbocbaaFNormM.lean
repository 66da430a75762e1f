/- Normal forms in plain terms: the same for queries that differ in names and order alone. -/
import Derived.Test.YthfjngmbdbocbaaFNorm4
import Derived.Test.YthfjngmbdbocbaaFHom
set_option linter.unusedVariables false
set_option linter.unusedSimpArgs false
set_option maxRecDepth 100000
namespace Go.Proofs.YthfjngmbdbocbaaD
open Go Go.Proofs

/-! The least of all orders. -/
def leC (z c : QueryR) : Prop := ltI (pQueryCode c) (pQueryCode z) = false
theorem leC_trans {a b c : QueryR} (h1 : leC a b) (h2 : leC b c) : leC a c := by
  unfold leC at *
  cases h : ltI (pQueryCode c) (pQueryCode a) with
  | false => rfl
  | true =>
    rcases totI.tri (pQueryCode b) (pQueryCode a) with h3 | h3 | h3
    · rw [h3] at h1; cases h1
    · rw [← h3] at h; rw [h] at h2; cases h2
    · have := totI.tr _ _ _ h h3
      rw [this] at h2; cases h2
theorem leC_refl (a : QueryR) : leC a a := ltI_irr _
def CandB (h : List Int) (body left : List AtomC) (z : QueryR) : Prop := ∃ p : List AtomC, p.Perm left ∧ z = nmQ (h, body ++ p)
theorem better_ok (o : Option QueryR) (y : QueryR) : ∃ z, betterQ o y = some z ∧ (o = some z ∨ z = y) ∧ (∀ b, o = some b → leC z b) ∧ leC z y := by
  unfold betterQ
  cases o with
  | none => exact ⟨y, rfl, .inr rfl, (fun b hb => by cases hb), leC_refl y⟩
  | some b =>
    simp only
    split
    · rename_i h
      refine ⟨y, rfl, .inr rfl, fun b' hb => ?_, leC_refl y⟩
      cases hb
      exact totI.asym h
    · rename_i h
      refine ⟨b, rfl, .inl rfl, fun b' hb => ?_, ?_⟩
      · cases hb; exact leC_refl b
      · exact Bool.eq_false_iff.2 h
theorem get_erase_perm : ∀ {l : List AtomC} {i : Nat} (hi : i < l.length), (l[i] :: l.eraseIdx i).Perm l
  | a :: r, 0, _ => List.Perm.refl _
  | a :: r, i + 1, hi => by
    have hi' : i < r.length := by simpa using hi
    have ih := get_erase_perm hi'
    rw [List.getElem_cons_succ, List.eraseIdx_cons_succ]
    exact (List.Perm.swap _ _ _).trans (ih.cons a)
theorem perm_cons_getD {left p : List AtomC} {a : AtomC} (h : (a :: p).Perm left) : ∃ i, i < left.length ∧ left.getD i (0, []) = a ∧ p.Perm (left.eraseIdx i) := by
  have ha : a ∈ left := h.subset (by simp)
  obtain ⟨i, hi, rfl⟩ := List.getElem_of_mem ha
  refine ⟨i, hi, by simp [List.getD_eq_getElem?_getD, hi], ?_⟩
  have h2 := get_erase_perm hi
  exact (h.trans h2.symm).cons_inv
theorem perm_cons_of {left p : List AtomC} {i : Nat} (hi : i < left.length) (h : p.Perm (left.eraseIdx i)) : (left.getD i (0, []) :: p).Perm left := by
  have e : left.getD i (0, []) = left[i] := by simp [List.getD_eq_getElem?_getD, hi]
  rw [e]
  exact (h.cons _).trans (get_erase_perm hi)
theorem tryQ_min (h : List Int) : ∀ (n : Nat) (body left : List AtomC) (o : Option QueryR), left.length = n →
    ∃ z, tryQ h n body left o = some z ∧ (o = some z ∨ CandB h body left z) ∧ (∀ b, o = some b → leC z b) ∧ ∀ c, CandB h body left c → leC z c
  | 0, body, left, o, hl => by
    have hl0 : left = [] := List.length_eq_zero_iff.1 hl
    subst hl0
    obtain ⟨z, h1, h2, h3, h4⟩ := better_ok o (nmQ (h, body))
    refine ⟨z, h1, h2.imp id (fun e => ⟨[], List.Perm.refl _, by rw [List.append_nil]; exact e⟩), h3, ?_⟩
    rintro c ⟨p, hp, rfl⟩
    have : p = [] := hp.eq_nil
    subst this
    rw [List.append_nil]
    exact h4
  | n + 1, body, left, o, hl => by
    have key : ∀ (l : List Nat) (o : Option QueryR), (∀ i ∈ l, i < left.length) → (l ≠ [] ∨ ∃ b, o = some b) →
        ∃ z, l.foldl (fun o i => tryQ h n (body ++ [left.getD i (0, [])]) (left.eraseIdx i) o) o = some z ∧ (o = some z ∨ ∃ i ∈ l, CandB h (body ++ [left.getD i (0, [])]) (left.eraseIdx i) z) ∧ (∀ b, o = some b → leC z b) ∧
          ∀ i ∈ l, ∀ c, CandB h (body ++ [left.getD i (0, [])]) (left.eraseIdx i) c → leC z c := by
      intro l
      induction l with
      | nil =>
        intro o _ ho
        rcases ho with ho | ⟨b, rfl⟩
        · exact absurd rfl ho
        · exact ⟨b, rfl, .inl rfl, (fun b' hb => by cases hb; exact leC_refl b), fun i hi => by cases hi⟩
      | cons i l ih =>
        intro o hi _
        have hil : i < left.length := hi i (by simp)
        obtain ⟨y, y1, y2, y3, y4⟩ := tryQ_min h n (body ++ [left.getD i (0, [])]) (left.eraseIdx i) o (by rw [List.length_eraseIdx, if_pos hil]; omega)
        rw [List.foldl_cons, y1]
        obtain ⟨z, z1, z2, z3, z4⟩ := ih (some y) (fun j hj => hi j (by simp [hj])) (.inr ⟨y, rfl⟩)
        have hzy := z3 y rfl
        refine ⟨z, z1, ?_, fun b hb => leC_trans hzy (y3 b hb), fun j hj c hc => ?_⟩
        · rcases z2 with e | ⟨j, hj, hc⟩
          · cases e
            rcases y2 with e | hc
            · exact .inl e
            · exact .inr ⟨i, by simp, hc⟩
          · exact .inr ⟨j, by simp [hj], hc⟩
        · rcases List.mem_cons.1 hj with rfl | hj
          · exact leC_trans hzy (y4 c hc)
          · exact z4 j hj c hc
    obtain ⟨z, z1, z2, z3, z4⟩ := key (List.range left.length) o (fun i hi => List.mem_range.1 hi) (.inl (by intro e; have h9 : (List.range left.length).length = 0 := by rw [e]; rfl
                                                                                                             rw [List.length_range] at h9; omega))
    refine ⟨z, z1, ?_, z3, ?_⟩
    · rcases z2 with e | ⟨i, hi, p, hp, rfl⟩
      · exact .inl e
      · refine .inr ⟨left.getD i (0, []) :: p, perm_cons_of (List.mem_range.1 hi) hp, ?_⟩
        rw [List.append_assoc]; rfl
    · rintro c ⟨p, hp, rfl⟩
      cases p with
      | nil => have := hp.length_eq; simp at this; omega
      | cons a p =>
        obtain ⟨i, hi, rfl, hp2⟩ := perm_cons_getD hp
        exact z4 i (List.mem_range.2 hi) _ ⟨p, hp2, by rw [List.append_assoc]; rfl⟩
def Cand (q z : QueryR) : Prop := ∃ p : List AtomC, p.Perm q.2 ∧ z = nmQ (q.1, p)
theorem normQ_min (q : QueryR) : Cand q (normQ q) ∧ ∀ c, Cand q c → leC (normQ q) c := by
  obtain ⟨z, h1, h2, _, h4⟩ := tryQ_min q.1 q.2.length [] q.2 none rfl
  have e : normQ q = z := by unfold normQ; rw [h1]; rfl
  rw [e]
  refine ⟨?_, ?_⟩
  · rcases h2 with e | ⟨p, hp, h⟩
    · cases e
    · exact ⟨p, hp, by simpa using h⟩
  · rintro c ⟨p, hp, rfl⟩
    exact h4 _ ⟨p, hp, by simp⟩
/-! Names. -/
def sgm (S : List Int) (x : Int) : Int := (posS S x 0 : Int)
theorem posS_lt : ∀ (S : List Int) (v : Int) (j : Nat), has S v = true → posS S v j < j + S.length
  | [], v, j, h => by cases h
  | x :: r, v, j, h => by
    simp only [posS]
    cases hb : (x == v) with
    | true => simp only [if_true, List.length_cons]; omega
    | false =>
      rw [has_cons, hb, Bool.false_or] at h
      have := posS_lt r v (j + 1) h
      simp only [Bool.false_eq_true, if_false, List.length_cons]
      omega
theorem posS_get : ∀ (S : List Int) (v : Int) (j : Nat), has S v = true → S.getD (posS S v j - j) 0 = v ∧ j ≤ posS S v j
  | [], v, j, h => by cases h
  | x :: r, v, j, h => by
    simp only [posS]
    cases hb : (x == v) with
    | true => simp only [if_true, Nat.sub_self]; exact ⟨by simpa using hb, Nat.le_refl _⟩
    | false =>
      rw [has_cons, hb, Bool.false_or] at h
      obtain ⟨h1, h2⟩ := posS_get r v (j + 1) h
      simp only [Bool.false_eq_true, if_false]
      refine ⟨?_, by omega⟩
      rw [show posS r v (j + 1) - j = (posS r v (j + 1) - (j + 1)) + 1 from by omega]
      simpa using h1
theorem fold_mem : ∀ (xs S : List Int), (∀ x ∈ xs.foldl addS S, x ∈ S ∨ (x ∈ xs ∧ isVar x = true)) ∧ (xs.foldl addS S).length ≤ S.length + xs.length
  | [], S => ⟨fun x h => .inl h, by simp⟩
  | y :: ys, S => by
    obtain ⟨h1, h2⟩ := fold_mem ys (addS S y)
    have h3 : (addS S y).length ≤ S.length + 1 := by unfold addS; split <;> simp
    refine ⟨fun x hx => ?_, by rw [List.foldl_cons, List.length_cons]; omega⟩
    rw [List.foldl_cons] at hx
    rcases h1 x hx with h | h
    · unfold addS at h
      split at h
      · rename_i hv
        simp only [Bool.and_eq_true] at hv
        rcases List.mem_append.1 h with h | h
        · exact .inl h
        · rw [List.mem_singleton.1 h]; exact .inr ⟨by simp, hv.1⟩
      · exact .inl h
    · exact .inr ⟨by simp [h.1], h.2⟩
theorem mem_seen {q : QueryR} {x : Int} (h : has (seenQ q) x = true) : x ∈ allT q ∧ isVar x = true := by
  simp only [has, List.any_eq_true, eqV, beq_iff_eq] at h
  obtain ⟨y, hy, rfl⟩ := h
  rcases (fold_mem (allT q) []).1 y hy with h | h
  · cases h
  · exact h
theorem seen_has {q : QueryR} {x : Int} (h : x ∈ allT q) (hv : isVar x = true) : has (seenQ q) x = true := has_fold_all _ _ x h hv
theorem ren_app {q : QueryR} {x : Int} (h : x ∈ allT q) : renS1 (seenQ q) x = app (sgm (seenQ q)) x := by
  unfold renS1 app sgm
  cases hv : isVar x with
  | false => simp
  | true => simp [seen_has h hv]
theorem mem_allT_head {q : QueryR} {x : Int} (h : x ∈ q.1) : x ∈ allT q := List.mem_append.2 (.inl h)
theorem mem_allT_body {q : QueryR} {a : AtomC} {x : Int} (ha : a ∈ q.2) (h : x ∈ a.2) : x ∈ allT q := List.mem_append.2 (.inr (List.mem_flatMap.2 ⟨a, ha, h⟩))
theorem nmQ_app (q : QueryR) : nmQ q = (q.1.map (app (sgm (seenQ q))), q.2.map (appA (sgm (seenQ q)))) := by
  rw [nmQ_ok]
  refine Prod.ext ?_ ?_
  · exact List.map_congr_left fun x hx => ren_app (mem_allT_head hx)
  · refine List.map_congr_left fun a ha => ?_
    unfold appA
    congr 1
    exact List.map_congr_left fun x hx => ren_app (mem_allT_body ha hx)
/-- Variables go to variables, different ones to different ones. -/
def InjOn (τ : Int → Int) (xs : List Int) : Prop := (∀ x ∈ xs, isVar x = true → isVar (τ x) = true) ∧ ∀ x ∈ xs, ∀ y ∈ xs, isVar x = true → isVar y = true → τ x = τ y → x = y
theorem has_map {τ : Int → Int} {D : List Int} (hi : InjOn τ D) {S : List Int} (hS : ∀ y ∈ S, y ∈ D ∧ isVar y = true) {x : Int} (hx : x ∈ D) (hv : isVar x = true) : has (S.map τ) (τ x) = has S x := by
  rw [Bool.eq_iff_iff]
  simp only [has, List.any_eq_true, eqV, beq_iff_eq, List.mem_map]
  constructor
  · rintro ⟨_, ⟨y, hy, rfl⟩, he⟩
    have := hi.2 _ hx _ (hS y hy).1 hv (hS y hy).2 (by simpa using he.symm)
    exact ⟨y, hy, by simpa using this.symm⟩
  · rintro ⟨y, hy, he⟩
    exact ⟨τ y, ⟨y, hy, rfl⟩, by simpa using congrArg τ he⟩
theorem app_nonvar {τ : Int → Int} {x : Int} (h : isVar x = false) : app τ x = x := by unfold app; rw [h]; rfl
theorem app_var {τ : Int → Int} {x : Int} (h : isVar x = true) : app τ x = τ x := by unfold app; rw [h]; rfl
theorem fold_map {τ : Int → Int} {D : List Int} (hi : InjOn τ D) : ∀ (xs S : List Int), (∀ x ∈ xs, x ∈ D) → (∀ y ∈ S, y ∈ D ∧ isVar y = true) → (xs.map (app τ)).foldl addS (S.map τ) = (xs.foldl addS S).map τ
  | [], S, _, _ => rfl
  | x :: xs, S, hx, hS => by
    have hxD := hx x (by simp)
    have e : addS (S.map τ) (app τ x) = (addS S x).map τ := by
      cases hv : isVar x with
      | false => rw [app_nonvar hv]; unfold addS; rw [hv]; rfl
      | true =>
        rw [app_var hv]
        unfold addS
        rw [has_map hi hS hxD hv, hi.1 x hxD hv, hv]
        cases has S x <;> simp
    rw [List.map_cons, List.foldl_cons, List.foldl_cons, e]
    refine fold_map hi xs (addS S x) (fun y hy => hx y (by simp [hy])) fun y hy => ?_
    unfold addS at hy
    split at hy
    · rename_i hc
      simp only [Bool.and_eq_true] at hc
      rcases List.mem_append.1 hy with hy | hy
      · exact hS y hy
      · rw [List.mem_singleton.1 hy]; exact ⟨hxD, hc.1⟩
    · exact hS y hy
theorem posS_map {τ : Int → Int} {D : List Int} (hi : InjOn τ D) {x : Int} (hx : x ∈ D) (hv : isVar x = true) : ∀ (S : List Int) (j : Nat), (∀ y ∈ S, y ∈ D ∧ isVar y = true) → posS (S.map τ) (τ x) j = posS S x j
  | [], j, _ => rfl
  | y :: S, j, hS => by
    obtain ⟨h1, h2⟩ := hS y (by simp)
    simp only [List.map_cons, posS]
    have e : (τ y == τ x) = (y == x) := by
      rw [Bool.eq_iff_iff, beq_iff_eq, beq_iff_eq]
      exact ⟨fun h => hi.2 _ h1 _ hx h2 hv h, fun h => by rw [h]⟩
    rw [e, posS_map hi hx hv S (j + 1) fun z hz => hS z (by simp [hz])]
def renT (τ : Int → Int) (q : QueryR) : QueryR := (q.1.map (app τ), q.2.map (appA τ))
theorem allT_ren (τ : Int → Int) (q : QueryR) : allT (renT τ q) = (allT q).map (app τ) := by
  unfold allT renT
  rw [List.map_append, List.map_flatMap, List.flatMap_map]
  rfl
/-- Other names, the same names by first use. -/
theorem nmQ_inv {τ : Int → Int} {q : QueryR} (hi : InjOn τ (allT q)) : nmQ (renT τ q) = nmQ q := by
  have hS : ∀ y ∈ seenQ q, y ∈ allT q ∧ isVar y = true := fun y hy => mem_seen (q := q) (by
    simp only [has, List.any_eq_true, eqV, beq_iff_eq]
    exact ⟨y, hy, rfl⟩)
  have e : seenQ (renT τ q) = (seenQ q).map τ := by
    have h0 := fold_map hi (allT q) [] (fun x hx => hx) (fun y hy => by cases hy)
    unfold seenQ
    rw [allT_ren]
    exact h0
  have key : ∀ x ∈ allT q, app (sgm (seenQ (renT τ q))) (app τ x) = app (sgm (seenQ q)) x := by
    intro x hx
    cases hv : isVar x with
    | false => rw [app_nonvar hv, app_nonvar hv, app_nonvar hv]
    | true =>
      rw [app_var hv, app_var (hi.1 x hx hv), app_var hv]
      unfold sgm
      rw [e, posS_map hi hx hv _ _ hS]
  rw [nmQ_app, nmQ_app]
  unfold renT at key ⊢
  refine Prod.ext ?_ ?_
  · simp only [List.map_map]
    exact List.map_congr_left fun x hx => key x (mem_allT_head hx)
  · simp only [List.map_map]
    refine List.map_congr_left fun a ha => ?_
    unfold appA
    simp only [Function.comp, List.map_map]
    congr 1
    exact List.map_congr_left fun x hx => key x (mem_allT_body ha hx)
theorem perm_map_inv {α β : Type} {f : α → β} {l' m : List β} (h : l'.Perm m) : ∀ {p : List α}, p.map f = m → ∃ l : List α, l.Perm p ∧ l' = l.map f := by
  induction h with
  | nil => intro p hp; exact ⟨[], by rw [List.map_eq_nil_iff.1 hp], rfl⟩
  | cons x _ ih =>
    intro p hp
    cases p with
    | nil => cases hp
    | cons a p =>
      simp only [List.map_cons, List.cons.injEq] at hp
      obtain ⟨l, h1, h2⟩ := ih hp.2
      exact ⟨a :: l, h1.cons a, by rw [h2, ← hp.1]; rfl⟩
  | swap x y l =>
    intro p hp
    match p, hp with
    | a :: b :: p, hp =>
      simp only [List.map_cons, List.cons.injEq] at hp
      exact ⟨b :: a :: p, List.Perm.swap _ _ _, by rw [← hp.1, ← hp.2.1, ← hp.2.2]; rfl⟩
  | trans _ _ ih1 ih2 =>
    intro p hp
    obtain ⟨l, h1, h2⟩ := ih2 hp
    obtain ⟨k, h3, h4⟩ := ih1 h2.symm
    exact ⟨k, h3.trans h1, h4⟩
theorem allT_perm {h : List Int} {p r : List AtomC} (hp : p.Perm r) : ∀ x, x ∈ allT (h, p) ↔ x ∈ allT (h, r) := by
  intro x
  simp only [allT, List.mem_append, List.mem_flatMap]
  constructor
  · rintro (h | ⟨a, ha, hx⟩)
    · exact .inl h
    · exact .inr ⟨a, hp.mem_iff.1 ha, hx⟩
  · rintro (h | ⟨a, ha, hx⟩)
    · exact .inl h
    · exact .inr ⟨a, hp.mem_iff.2 ha, hx⟩
theorem inj_perm {τ : Int → Int} {h : List Int} {p r : List AtomC} (hp : p.Perm r) (hi : InjOn τ (allT (h, r))) : InjOn τ (allT (h, p)) :=
  ⟨fun x hx => hi.1 x ((allT_perm hp x).1 hx), fun x hx y hy => hi.2 x ((allT_perm hp x).1 hx) y ((allT_perm hp y).1 hy)⟩
/-- y is q with other names and in another order. -/
def Iso (τ : Int → Int) (q y : QueryR) : Prop := InjOn τ (allT q) ∧ y.1 = q.1.map (app τ) ∧ y.2.Perm (q.2.map (appA τ))
theorem cand_iso {τ : Int → Int} {q y : QueryR} (h : Iso τ q y) (z : QueryR) : Cand y z ↔ Cand q z := by
  obtain ⟨hi, h1, h2⟩ := h
  constructor
  · rintro ⟨p, hp, rfl⟩
    obtain ⟨l, l1, rfl⟩ := perm_map_inv (hp.trans h2) rfl
    refine ⟨l, l1, ?_⟩
    rw [h1]
    exact nmQ_inv (q := (q.1, l)) (inj_perm l1 hi)
  · rintro ⟨p, hp, rfl⟩
    refine ⟨p.map (appA τ), (hp.map _).trans h2.symm, ?_⟩
    rw [h1]
    exact (nmQ_inv (q := (q.1, p)) (inj_perm hp hi)).symm
/-! Codes tell queries apart. -/
def okAr (ar : Int → Nat) (l : List AtomC) : Prop := ∀ a ∈ l, a.2.length = ar a.1
theorem code_inj_body {ar : Int → Nat} : ∀ {x y : List AtomC}, okAr ar x → okAr ar y → x.flatMap codeA = y.flatMap codeA → x = y
  | [], [], _, _, _ => rfl
  | [], b :: y, _, _, h => by simp [codeA] at h
  | a :: x, [], _, _, h => by simp [codeA] at h
  | a :: x, b :: y, hx, hy, h => by
    simp only [List.flatMap_cons, codeA, List.cons_append, List.cons.injEq] at h
    obtain ⟨h1, h2⟩ := h
    have hl : a.2.length = b.2.length := by rw [hx a (by simp), hy b (by simp), h1]
    obtain ⟨h3, h4⟩ := List.append_inj h2 hl
    rw [code_inj_body (fun c hc => hx c (by simp [hc])) (fun c hc => hy c (by simp [hc])) h4, Prod.ext h1 h3]
theorem code_inj {ar : Int → Nat} {x y : QueryR} (hx : okAr ar x.2) (hy : okAr ar y.2) (h : pQueryCode x = pQueryCode y) : x = y := by
  simp only [pQueryCode, List.cons_append, List.cons.injEq] at h
  obtain ⟨h1, h2⟩ := List.append_inj h.2 (by omega)
  exact Prod.ext h1 (code_inj_body hx hy h2)
theorem leC_eq {ar : Int → Nat} {x y : QueryR} (hx : okAr ar x.2) (hy : okAr ar y.2) (h1 : leC x y) (h2 : leC y x) : x = y := by
  refine code_inj hx hy ?_
  unfold leC at h1 h2
  rcases totI.tri (pQueryCode x) (pQueryCode y) with h | h | h
  · rw [h] at h2; cases h2
  · exact h
  · rw [h] at h1; cases h1
theorem okAr_perm_nm {ar : Int → Nat} {q z : QueryR} (h : okAr ar q.2) (hz : Cand q z) : okAr ar z.2 := by
  obtain ⟨p, hp, rfl⟩ := hz
  rw [nmQ_app]
  intro a ha
  obtain ⟨b, hb, rfl⟩ := List.mem_map.1 ha
  have := h b (hp.mem_iff.1 hb)
  simpa [appA] using this
theorem norm_iso {ar : Int → Nat} {τ : Int → Int} {q y : QueryR} (h : Iso τ q y) (ho : okAr ar q.2) : normQ y = normQ q := by
  obtain ⟨a1, a2⟩ := normQ_min q
  obtain ⟨b1, b2⟩ := normQ_min y
  have c1 := (cand_iso h _).2 a1
  have c2 := (cand_iso h _).1 b1
  exact leC_eq (okAr_perm_nm ho c2) (okAr_perm_nm ho a1) (b2 _ c1) (a2 _ c2)
/-! A query and its normal form. -/
theorem isQuery_ar {s : List Int} {q : QueryR} (h : isQuery s q = true) : okAr (fun r => (s.getD r.toNat 0).toNat) q.2 := by
  simp only [isQuery, fineQ, Bool.and_eq_true, List.all_eq_true] at h
  intro a ha
  have := h.2.2.2.1 a ha
  simp only [isAtom, takesS, Bool.and_eq_true, decide_eq_true_eq] at this
  have h5 := this.1.2.2
  simp only
  omega
theorem sgm_inj {q : QueryR} (hl : (seenQ q).length ≤ 20) : InjOn (sgm (seenQ q)) (allT q) := by
  refine ⟨fun x hx hv => ?_, fun x hx y hy hv hw he => ?_⟩
  · have := posS_lt (seenQ q) x 0 (seen_has hx hv)
    unfold sgm
    simp only [isVar, inR, Bool.and_eq_true, decide_eq_true_eq]
    omega
  · unfold sgm at he
    have h1 := (posS_get (seenQ q) x 0 (seen_has hx hv)).1
    have h2 := (posS_get (seenQ q) y 0 (seen_has hy hw)).1
    have : posS (seenQ q) x 0 = posS (seenQ q) y 0 := by omega
    rw [this] at h1
    exact h1.symm.trans h2
theorem norm_is_iso {q : QueryR} (hl : (allT q).length ≤ 20) : ∃ τ, Iso τ q (normQ q) := by
  obtain ⟨⟨p, hp, he⟩, _⟩ := normQ_min q
  have hs := (fold_mem (allT (q.1, p)) []).2
  have hlen : (allT (q.1, p)).length = (allT q).length := by
    simp only [allT, List.length_append]
    rw [(hp.flatMap_right (fun a : AtomC => a.2)).length_eq]
  have hsl : (seenQ (q.1, p)).length ≤ 20 := by unfold seenQ; simp only [List.length_nil] at hs; omega
  refine ⟨sgm (seenQ (q.1, p)), inj_perm hp.symm (sgm_inj hsl), ?_, ?_⟩
  · rw [he, nmQ_app]
  · rw [he, nmQ_app]
    exact hp.map _
/-- Variables are names again: the way back. -/
def backT (D : List Int) (τ : Int → Int) (v : Int) : Int := (D.find? fun t => isVar t && (τ t == v)).getD 0
theorem back_app {τ : Int → Int} {D : List Int} (hi : InjOn τ D) {x : Int} (hx : x ∈ D) : app (backT D τ) (app τ x) = x := by
  cases hv : isVar x with
  | false => rw [app_nonvar hv, app_nonvar hv]
  | true =>
    rw [app_var hv, app_var (hi.1 x hx hv)]
    unfold backT
    cases hf : D.find? fun t => isVar t && (τ t == τ x) with
    | none =>
      have := List.find?_eq_none.1 hf x hx
      simp [hv] at this
    | some t =>
      have h1 := List.find?_some hf
      have h2 := List.mem_of_find?_eq_some hf
      simp only [Bool.and_eq_true, beq_iff_eq] at h1
      exact hi.2 t h2 x hx h1.1 hv h1.2
theorem iso_homs {τ : Int → Int} {q y : QueryR} (h : Iso τ q y) : IsHom τ q y ∧ IsHom (backT (allT q) τ) y q := by
  obtain ⟨hi, h1, h2⟩ := h
  refine ⟨⟨h1.symm, fun a ha => h2.mem_iff.2 (List.mem_map.2 ⟨a, ha, rfl⟩)⟩, ?_, fun b hb => ?_⟩
  · rw [h1, List.map_map]
    exact (List.map_congr_left (g := id) fun x hx => back_app hi (mem_allT_head hx)).trans (List.map_id _)
  · obtain ⟨a, ha, rfl⟩ := List.mem_map.1 (h2.mem_iff.1 hb)
    have e : appA (backT (allT q) τ) (appA τ a) = a := by
      unfold appA
      simp only [List.map_map]
      exact Prod.ext rfl ((List.map_congr_left (g := id) fun x hx => back_app hi (mem_allT_body ha hx)).trans (List.map_id _))
    rw [e]
    exact ha
theorem isQuery_allT {s : List Int} {q : QueryR} (h : isQuery s q = true) : (allT q).length ≤ 20 ∧ ∀ x ∈ allT q, isTerm x = true := by
  simp only [isQuery, fineQ, terms3, Bool.and_eq_true, decide_eq_true_eq, List.all_eq_true] at h
  obtain ⟨h0, ⟨ht, h1⟩, h2, h3, _⟩ := h
  have h2' : 1 ≤ (q.2.length : Int) ∧ (q.2.length : Int) ≤ 4 := by simpa [inR] using h2
  have ha : ∀ a ∈ q.2, a.2.length ≤ 3 ∧ ∀ x ∈ a.2, isTerm x = true := fun a ha => by
    have hb := h3 a ha
    simp only [isAtom, takesS, Bool.and_eq_true, decide_eq_true_eq, List.all_eq_true] at hb
    have h4 : s.getD a.1.toNat 0 ≤ 3 := by
      by_cases hi : a.1.toNat < s.length
      · rw [getD_at hi]
        exact (schema_at h0 hi).2
      · rw [List.getD_eq_getElem?_getD, List.getElem?_eq_none (by omega)]
        simp
    have h5 := hb.1.2.2
    exact ⟨by omega, hb.2⟩
  have hf : ∀ l : List AtomC, (∀ a ∈ l, a.2.length ≤ 3) → (l.flatMap (·.2)).length ≤ 3 * l.length := by
    intro l
    induction l with
    | nil => intro _; simp
    | cons a l ih =>
      intro h
      have h1 := ih fun x hx => h x (by simp [hx])
      have h2 := h a (by simp)
      simp only [List.flatMap_cons, List.length_append, List.length_cons]
      omega
  have h6 := hf q.2 fun a h => (ha a h).1
  refine ⟨by unfold allT; rw [List.length_append]; omega, fun x hx => ?_⟩
  rcases List.mem_append.1 hx with hx | hx
  · exact ht x hx
  · obtain ⟨a, h7, h8⟩ := List.mem_flatMap.1 hx
    exact (ha a h7).2 x h8
theorem isTerm_app {τ : Int → Int} {D : List Int} (hi : InjOn τ D) {x : Int} (hx : x ∈ D) (ht : isTerm x = true) : isTerm (app τ x) = true := by
  cases hv : isVar x with
  | false => rw [app_nonvar hv]; exact ht
  | true =>
    rw [app_var hv]
    have := hi.1 x hx hv
    simp only [isVar, isTerm, inR, Bool.and_eq_true, decide_eq_true_eq] at this ⊢
    omega
theorem isQuery_iso {s : List Int} {τ : Int → Int} {q y : QueryR} (h : Iso τ q y) (hq : isQuery s q = true) : isQuery s y = true := by
  obtain ⟨hi, h1, h2⟩ := h
  have hall := (isQuery_allT hq).2
  simp only [isQuery, fineQ, terms3, Bool.and_eq_true, decide_eq_true_eq, List.all_eq_true] at hq ⊢
  obtain ⟨g0, ⟨g1, g2⟩, g3, g4, g5⟩ := hq
  have hl : y.2.length = q.2.length := by rw [h2.length_eq, List.length_map]
  refine ⟨g0, ⟨fun t ht => ?_, by rw [h1, List.length_map]; exact g2⟩, by rw [hl]; exact g3, fun b hb => ?_, fun t ht => ?_⟩
  · rw [h1] at ht
    obtain ⟨x, hx, rfl⟩ := List.mem_map.1 ht
    exact isTerm_app hi (mem_allT_head hx) (g1 x hx)
  · obtain ⟨a, ha, rfl⟩ := List.mem_map.1 (h2.mem_iff.1 hb)
    have := g4 a ha
    simp only [isAtom, Bool.and_eq_true, List.all_eq_true] at this ⊢
    refine ⟨?_, fun t ht => ?_⟩
    · show takesS s a.1 ((a.2.map (app τ)).length : Nat) = true
      rw [List.length_map]
      exact this.1
    · obtain ⟨x, hx, rfl⟩ := List.mem_map.1 ht
      exact isTerm_app hi (mem_allT_body ha hx) (this.2 x hx)
  · rw [h1] at ht
    obtain ⟨x, hx, rfl⟩ := List.mem_map.1 ht
    have h5 := g5 x hx
    unfold safeV at h5 ⊢
    cases hv : isVar x with
    | false => rw [app_nonvar hv, hv]; rfl
    | true =>
      rw [hv, Bool.true_and, Bool.not_not] at h5
      have : occurs y (app τ x) = true := by
        simp only [occurs, hasA, List.any_eq_true, has, eqV, beq_iff_eq] at h5 ⊢
        obtain ⟨a, ha, z, hz, rfl⟩ := h5
        exact ⟨appA τ a, h2.mem_iff.2 (List.mem_map.2 ⟨a, ha, rfl⟩), app τ z, List.mem_map.2 ⟨z, hz, rfl⟩, rfl⟩
      rw [this]
      simp
theorem nf_facts {s : List Int} {q : QueryR} (h : isQuery s q = true) : isQuery s (normQ q) = true ∧ normQ (normQ q) = normQ q ∧ contP s (normQ q) q = true ∧ contP s q (normQ q) = true ∧ (normQ q).2.length = q.2.length := by
  obtain ⟨τ, hi⟩ := norm_is_iso (isQuery_allT h).1
  have hx := isQuery_iso hi h
  obtain ⟨m1, m2⟩ := iso_homs hi
  exact ⟨hx, norm_iso hi (isQuery_ar h), (contP_iff s _ _).2 ⟨hx, h, _, m1⟩, (contP_iff s _ _).2 ⟨h, hx, _, m2⟩, by rw [hi.2.2.length_eq, List.length_map]⟩
theorem iso_equiv {s : List Int} {a b : QueryR} (h : pIsIsomorphic s a b = true) : (contP s a b && contP s b a) = true := by
  unfold pIsIsomorphic pNormalForm at h
  simp only [Bool.and_eq_true, decide_eq_true_eq] at h
  obtain ⟨ha, hb, he⟩ := h
  rw [if_pos ha, if_pos hb] at he
  obtain ⟨_, _, a3, a4, _⟩ := nf_facts ha
  obtain ⟨_, _, b3, b4, _⟩ := nf_facts hb
  rw [Bool.and_eq_true]
  rw [he] at a3 a4
  exact ⟨contP_trans a4 b3, contP_trans b4 a3⟩
end Go.Proofs.YthfjngmbdbocbaaD
