/- Minimal queries in plain terms: equivalent ones differ in names and order alone. -/
import Derived.Test.YthfjngmbdbocbaaFNormM
import Derived.Test.YthfjngmbdbocbaaFMinimize
set_option linter.unusedVariables false
set_option linter.unusedSimpArgs false
set_option maxRecDepth 100000
namespace Go.Proofs.YthfjngmbdbocbaaD
open Go Go.Proofs

theorem perm_of_sub {α : Type} [DecidableEq α] : ∀ {l m : List α}, l.Nodup → (∀ a ∈ l, a ∈ m) → m.length ≤ l.length → l.Perm m
  | [], m, _, _, h => by
    have : m = [] := List.length_eq_zero_iff.1 (by simpa using h)
    subst this
    exact List.Perm.refl _
  | a :: l, m, hn, hs, h => by
    obtain ⟨h1, h2⟩ := List.nodup_cons.1 hn
    have hm := hs a (by simp)
    have hp := List.perm_cons_erase hm
    refine List.Perm.trans (List.Perm.cons a (perm_of_sub (m := m.erase a) h2 (fun b hb => ?_) ?_)) hp.symm
    · have hne : b ≠ a := fun e => h1 (e ▸ hb)
      exact (List.mem_erase_of_ne hne).2 (hs b (by simp [hb]))
    · rw [List.length_erase_of_mem hm]
      simp only [List.length_cons] at h
      omega
theorem len_of_sub {α : Type} [DecidableEq α] : ∀ {l m : List α}, l.Nodup → (∀ a ∈ l, a ∈ m) → l.length ≤ m.length
  | [], m, _, _ => Nat.zero_le _
  | a :: l, m, hn, hs => by
    obtain ⟨h1, h2⟩ := List.nodup_cons.1 hn
    have hm := hs a (by simp)
    have := len_of_sub (m := m.erase a) h2 fun b hb => by
      have hne : b ≠ a := fun e => h1 (e ▸ hb)
      exact (List.mem_erase_of_ne hne).2 (hs b (by simp [hb]))
    rw [List.length_erase_of_mem hm] at this
    have h3 : 0 < m.length := List.length_pos_of_mem hm
    simp only [List.length_cons]
    omega
theorem nodup_of_map {α β : Type} {f : α → β} : ∀ {l : List α}, (l.map f).Nodup → l.Nodup ∧ ∀ x ∈ l, ∀ y ∈ l, f x = f y → x = y
  | [], _ => ⟨List.nodup_nil, fun x hx => by cases hx⟩
  | a :: l, h => by
    rw [List.map_cons] at h
    obtain ⟨h1, h2⟩ := List.nodup_cons.1 h
    obtain ⟨i1, i2⟩ := nodup_of_map h2
    refine ⟨List.nodup_cons.2 ⟨fun ha => h1 (List.mem_map.2 ⟨a, ha, rfl⟩), i1⟩, fun x hx y hy he => ?_⟩
    rcases List.mem_cons.1 hx with hx1 | hx1
    · rcases List.mem_cons.1 hy with hy1 | hy1
      · rw [hx1, hy1]
      · exact absurd (show f a ∈ l.map f from List.mem_map.2 ⟨y, hy1, by rw [← he, hx1]⟩) h1
    · rcases List.mem_cons.1 hy with hy1 | hy1
      · exact absurd (show f a ∈ l.map f from List.mem_map.2 ⟨x, hx1, by rw [he, hy1]⟩) h1
      · exact i2 x hx1 y hy1 he
theorem map_nodup {α β : Type} {f : α → β} : ∀ {l : List α}, l.Nodup → (∀ x ∈ l, ∀ y ∈ l, f x = f y → x = y) → (l.map f).Nodup
  | [], _, _ => List.nodup_nil
  | a :: l, h, hi => by
    obtain ⟨h1, h2⟩ := List.nodup_cons.1 h
    rw [List.map_cons]
    refine List.nodup_cons.2 ⟨fun hm => ?_, map_nodup h2 fun x hx y hy => hi x (by simp [hx]) y (by simp [hy])⟩
    obtain ⟨y, hy, he⟩ := List.mem_map.1 hm
    have := hi y (by simp [hy]) a (by simp) he
    subst this
    exact h1 hy
/-! What is redundant. -/
theorem mem_wo {l : List AtomC} {k : Nat} (hk : k < l.length) {b : AtomC} : b ∈ wo l (k : Int) l.length ↔ ∃ j, j ≠ k ∧ ∃ hj : j < l.length, l[j] = b := by
  rw [wo_split hk]
  constructor
  · intro h
    rcases List.mem_append.1 h with h | h
    · obtain ⟨j, hj, rfl⟩ := List.getElem_of_mem h
      rw [List.length_take] at hj
      exact ⟨j, by omega, by omega, by simp⟩
    · obtain ⟨j, hj, rfl⟩ := List.getElem_of_mem h
      rw [List.length_drop] at hj
      exact ⟨k + 1 + j, by omega, by omega, by simp⟩
  · rintro ⟨j, hjk, hj, rfl⟩
    rcases Nat.lt_or_ge j k with h | h
    · exact List.mem_append.2 (.inl (List.mem_take_iff_getElem.2 ⟨j, by omega, rfl⟩))
    · refine List.mem_append.2 (.inr (List.mem_drop_iff_getElem.2 ⟨j - (k + 1), by omega, ?_⟩))
      congr 1
      omega
theorem head_fix {e : Int → Int} {q : QueryR} (h : q.1.map (app e) = q.1) {t : Int} (ht : t ∈ q.1) : app e t = t := by
  obtain ⟨j, hj, rfl⟩ := List.getElem_of_mem ht
  have h2 : (q.1.map (app e))[j]'(by simpa using hj) = q.1[j] := by
    congr 1
  simpa using h2
theorem red_of {s : List Int} {q : QueryR} (hq : isQuery s q = true) {e : Int → Int} (he : IsHom e q q) {k : Nat} (hk : k < q.2.length) (hm : ∀ b ∈ q.2, appA e b ∈ wo q.2 (k : Int) q.2.length) : pIsRedundant s q (k : Int) = true := by
  have hW : isQuery s (woQ q (k : Int)) = true := by
    have hq' := hq
    simp only [isQuery, fineQ, terms3, Bool.and_eq_true, decide_eq_true_eq, List.all_eq_true] at hq' ⊢
    obtain ⟨g0, g1, g3, g4, g5⟩ := hq'
    have g3' : 1 ≤ (q.2.length : Int) ∧ (q.2.length : Int) ≤ 4 := by simpa [inR] using g3
    have hlen := wo_len hk
    have hpos : 0 < (wo q.2 (k : Int) q.2.length).length := by
      have h0 : q.2[0]'(by omega) ∈ q.2 := List.getElem_mem _
      exact List.length_pos_of_mem (hm _ h0)
    refine ⟨g0, g1, ?_, fun b hb => ?_, fun t ht => ?_⟩
    · show inR ((wo q.2 (k : Int) q.2.length).length : Nat) 1 4 = true
      simp only [inR, Bool.and_eq_true, decide_eq_true_eq]
      omega
    · obtain ⟨j, _, hj, rfl⟩ := (mem_wo hk).1 hb
      exact g4 _ (List.getElem_mem hj)
    · have h5 := g5 t ht
      unfold safeV at h5 ⊢
      cases hv : isVar t with
      | false => rfl
      | true =>
        rw [hv, Bool.true_and, Bool.not_not] at h5
        have : occurs (woQ q (k : Int)) t = true := by
          simp only [occurs, hasA, List.any_eq_true, has, eqV, beq_iff_eq] at h5 ⊢
          obtain ⟨a, ha, z, hz, rfl⟩ := h5
          refine ⟨appA e a, hm a ha, z, ?_, rfl⟩
          have := head_fix he.1 ht
          exact List.mem_map.2 ⟨z, hz, this⟩
        rw [this]
        rfl
  have hin : inR (k : Int) 0 ((q.2.length : Int) - 1) = true := by simp only [inR, Bool.and_eq_true, decide_eq_true_eq]; omega
  have hw : pWithoutAtom s q (k : Int) = (woQ q (k : Int), true) := by
    unfold pWithoutAtom
    rw [hq, hin, hW]
    rfl
  unfold pIsRedundant
  rw [hw]
  simp only [Bool.true_and, Bool.and_eq_true]
  refine ⟨(contP_iff s _ _).2 ⟨hq, hW, id, ?_, fun a ha => ?_⟩, (contP_iff s _ _).2 ⟨hW, hq, e, he.1, hm⟩⟩
  · exact (hom_id q).1
  · obtain ⟨j, _, hj, rfl⟩ := (mem_wo hk).1 ha
    exact (hom_id q).2 _ (List.getElem_mem hj)
def NoRed (s : List Int) (q : QueryR) : Prop := ∀ j : Nat, j < q.2.length → pIsRedundant s q (j : Int) = false
theorem min_nodup {s : List Int} {q : QueryR} (hq : isQuery s q = true) (hn : NoRed s q) : q.2.Nodup := by
  rw [List.nodup_iff_pairwise_ne, List.pairwise_iff_getElem]
  intro i j hi hj hij he
  have := red_of hq (hom_id q) hj fun b hb => by
    have e : appA id b = b := by
      have h1 := (hom_id ([], [b])).2 b (by simp)
      simpa using h1
    rw [e]
    obtain ⟨m, hm, rfl⟩ := List.getElem_of_mem hb
    by_cases hmj : m = j
    · subst hmj
      exact (mem_wo hj).2 ⟨i, by omega, hi, he⟩
    · exact (mem_wo hj).2 ⟨m, hmj, hm, rfl⟩
  rw [hn j hj] at this
  cases this
theorem min_onto {s : List Int} {q : QueryR} (hq : isQuery s q = true) (hn : NoRed s q) {e : Int → Int} (he : IsHom e q q) : ∀ a ∈ q.2, a ∈ q.2.map (appA e) := by
  intro a ha
  obtain ⟨k, hk, rfl⟩ := List.getElem_of_mem ha
  refine Classical.byContradiction fun hc => ?_
  have := red_of hq he hk fun b hb => by
    obtain ⟨m, hm, hme⟩ := List.getElem_of_mem (he.2 b hb)
    by_cases hmk : m = k
    · subst hmk
      exact absurd (List.mem_map.2 ⟨b, hb, hme.symm⟩) hc
    · exact (mem_wo hk).2 ⟨m, hmk, hm, hme⟩
  rw [hn k hk] at this
  cases this
theorem seen_nodup : ∀ (xs S : List Int), S.Nodup → (xs.foldl addS S).Nodup
  | [], S, h => h
  | x :: xs, S, h => by
    rw [List.foldl_cons]
    refine seen_nodup xs _ ?_
    unfold addS
    split
    · rename_i hc
      simp only [Bool.and_eq_true, Bool.not_eq_true'] at hc
      rw [List.nodup_append]
      refine ⟨h, by simp, fun a ha b hb => ?_⟩
      rw [List.mem_singleton.1 hb]
      rintro rfl
      have : has S a = true := by
        simp only [has, List.any_eq_true, eqV, beq_iff_eq]
        exact ⟨a, ha, rfl⟩
      rw [this] at hc
      cases hc.2
    · exact h
theorem mem_has {S : List Int} {x : Int} : has S x = true ↔ x ∈ S := by
  simp only [has, List.any_eq_true, eqV, beq_iff_eq]
  exact ⟨fun ⟨y, hy, he⟩ => he ▸ hy, fun h => ⟨x, h, rfl⟩⟩
/-- A minimal query's mapping to itself moves its variables among each other. -/
theorem endo_vars {s : List Int} {q : QueryR} (hq : isQuery s q = true) (hn : NoRed s q) {e : Int → Int} (he : IsHom e q q) :
    (∀ x ∈ seenQ q, app e x ∈ seenQ q) ∧ ∀ x ∈ seenQ q, ∀ y ∈ seenQ q, app e x = app e y → x = y := by
  have hS : (seenQ q).Nodup := seen_nodup _ _ List.nodup_nil
  have hsub : ∀ v ∈ seenQ q, v ∈ (seenQ q).map (app e) := by
    intro v hv
    obtain ⟨h1, h2⟩ := mem_seen (q := q) (mem_has.2 hv)
    have hbody : ∃ a ∈ q.2, v ∈ a.2 := by
      rcases List.mem_append.1 h1 with h1 | h1
      · have hq' := hq
        simp only [isQuery, fineQ, Bool.and_eq_true, List.all_eq_true] at hq'
        have h5 := hq'.2.2.2.2 v h1
        unfold safeV at h5
        rw [h2, Bool.true_and, Bool.not_not] at h5
        simp only [occurs, hasA, List.any_eq_true, has, eqV, beq_iff_eq] at h5
        obtain ⟨a, ha, z, hz, rfl⟩ := h5
        exact ⟨a, ha, hz⟩
      · obtain ⟨a, ha, hx⟩ := List.mem_flatMap.1 h1
        exact ⟨a, ha, hx⟩
    obtain ⟨a, ha, hva⟩ := hbody
    obtain ⟨b, hb, rfl⟩ := List.mem_map.1 (min_onto hq hn he a ha)
    obtain ⟨t, ht, rfl⟩ := List.mem_map.1 hva
    cases hvt : isVar t with
    | false =>
      rw [app_nonvar hvt] at h2
      rw [h2] at hvt
      cases hvt
    | true => exact List.mem_map.2 ⟨t, mem_has.1 (seen_has (mem_allT_body hb ht) hvt), rfl⟩
  have hp := perm_of_sub hS hsub (by rw [List.length_map]; exact Nat.le_refl _)
  refine ⟨fun x hx => hp.mem_iff.2 (List.mem_map.2 ⟨x, hx, rfl⟩), ?_⟩
  exact (nodup_of_map (hp.nodup_iff.1 hS)).2
theorem endo_atoms {s : List Int} {q : QueryR} (hq : isQuery s q = true) (hn : NoRed s q) {e : Int → Int} (he : IsHom e q q) : ∀ x ∈ q.2, ∀ y ∈ q.2, appA e x = appA e y → x = y := by
  have hnd := min_nodup hq hn
  have hp := perm_of_sub hnd (min_onto hq hn he) (by rw [List.length_map]; exact Nat.le_refl _)
  exact (nodup_of_map (hp.nodup_iff.1 hnd)).2
theorem appA_comp (f g : Int → Int) (a : AtomC) : appA g (appA f a) = appA (fun y => app g (f y)) a := by
  unfold appA
  simp only [List.map_map]
  congr 1
  exact List.map_congr_left fun x _ => app_app f g x
theorem core_iso {s : List Int} {a b : QueryR} (ha : isQuery s a = true) (hb : isQuery s b = true) (na : NoRed s a) (nb : NoRed s b) (h1 : contP s a b = true) (h2 : contP s b a = true) : pIsIsomorphic s a b = true := by
  obtain ⟨_, _, g, hg⟩ := (contP_iff s a b).1 h1
  obtain ⟨_, _, f, hf⟩ := (contP_iff s b a).1 h2
  have hgf := hom_comp hf hg
  have hfg := hom_comp hg hf
  obtain ⟨v1, v2⟩ := endo_vars ha na hgf
  have ea := endo_atoms ha na hgf
  have eb := endo_atoms hb nb hfg
  have nda : (a.2.map (appA f)).Nodup := map_nodup (min_nodup ha na) fun x hx y hy he => ea x hx y hy (by rw [← appA_comp, ← appA_comp, he])
  have ndb : (b.2.map (appA g)).Nodup := map_nodup (min_nodup hb nb) fun x hx y hy he => eb x hx y hy (by rw [← appA_comp, ← appA_comp, he])
  have hlen : b.2.length ≤ (a.2.map (appA f)).length := by
    have := len_of_sub ndb fun x hx => by
      obtain ⟨y, hy, rfl⟩ := List.mem_map.1 hx
      exact hg.2 y hy
    rw [List.length_map] at this ⊢
    exact this
  have hperm : (a.2.map (appA f)).Perm b.2 := perm_of_sub nda (fun x hx => by
    obtain ⟨y, hy, rfl⟩ := List.mem_map.1 hx
    exact hf.2 y hy) hlen
  have hI : Iso f a b := by
    refine ⟨⟨fun x hx hv => ?_, fun x hx y hy hv hw he => ?_⟩, hf.1.symm, hperm.symm⟩
    · have hxs := mem_has.1 (seen_has hx hv)
      have h3 := v1 x hxs
      have h4 := (mem_seen (q := a) (mem_has.2 h3)).2
      cases hvf : isVar (f x) with
      | true => rfl
      | false =>
        rw [app_var hv, app_nonvar hvf, hvf] at h4
        cases h4
    · have hxs := mem_has.1 (seen_has hx hv)
      have hys := mem_has.1 (seen_has hy hw)
      refine v2 x hxs y hys ?_
      rw [app_var hv, app_var hw, he]
  unfold pIsIsomorphic pNormalForm
  simp only [ha, hb, if_true, Bool.true_and, decide_eq_true_eq]
  exact (norm_iso hI (isQuery_ar ha)).symm
/-! The minimized query. -/
theorem minz_ok {s : List Int} : ∀ (n : Nat) (x : QueryR) (i : Nat), meas x i < n → isQuery s x = true → (∀ j : Nat, j < i → pIsRedundant s x (j : Int) = false) →
    isQuery s (minz s n x i) = true ∧ contP s (minz s n x i) x = true ∧ contP s x (minz s n x i) = true ∧ (minz s n x i).2.length ≤ x.2.length ∧ NoRed s (minz s n x i)
  | 0, x, i, h, _, _ => absurd h (Nat.not_lt_zero _)
  | n + 1, x, i, h, hx, hn => by
    simp only [minz]
    split
    · rename_i hi
      split
      · rename_i hr
        have hr' := hr
        have hlen := red_len hi hr
        simp only [pIsRedundant, Bool.and_eq_true] at hr'
        obtain ⟨_, c1, c2⟩ := hr'
        have hy := ((contP_iff s _ _).1 c2).1
        have hm := meas_red hi hr
        obtain ⟨i1, i2, i3, i4, i5⟩ := minz_ok n (pWithoutAtom s x i).1 0 (by omega) hy (fun j hj => absurd hj (Nat.not_lt_zero _))
        exact ⟨i1, contP_trans i2 c2, contP_trans c1 i3, by omega, i5⟩
      · rename_i hr
        have hm := meas_no hi
        refine minz_ok n x (i + 1) (by omega) hx fun j hj => ?_
        rcases Nat.lt_or_ge j i with h1 | h1
        · exact hn j h1
        · rw [show j = i from by omega]; exact Bool.eq_false_iff.2 hr
    · rename_i hi
      exact ⟨hx, contP_refl hx, contP_refl hx, Nat.le_refl _, fun j hj => hn j (by omega)⟩
theorem minz_fix {s : List Int} {x : QueryR} (hn : NoRed s x) : ∀ (n i : Nat), minz s n x i = x
  | 0, i => rfl
  | n + 1, i => by
    simp only [minz]
    split
    · rename_i hi
      rw [hn i hi, if_neg (by simp)]
      exact minz_fix hn n (i + 1)
    · rfl
theorem min_facts {s : List Int} {q : QueryR} (hq : isQuery s q = true) : isQuery s (pMinimizeQuery s q) = true ∧ contP s (pMinimizeQuery s q) q = true ∧ contP s q (pMinimizeQuery s q) = true ∧ (pMinimizeQuery s q).2.length ≤ q.2.length ∧
    pMinimizeQuery s (pMinimizeQuery s q) = pMinimizeQuery s q ∧ pIsMinimal s (pMinimizeQuery s q) = true ∧ NoRed s (pMinimizeQuery s q) := by
  obtain ⟨h1, h2, h3, h4, h5⟩ := minz_ok (meas q 0 + 1) q 0 (by omega) hq (fun j hj => absurd hj (Nat.not_lt_zero _))
  refine ⟨h1, h2, h3, h4, minz_fix h5 _ _, ?_, h5⟩
  unfold pIsMinimal
  rw [Bool.and_eq_true]
  refine ⟨List.all_eq_true.2 fun k hk => ?_, h1⟩
  unfold notRed
  rw [Bool.not_eq_true']
  exact h5 k (List.mem_range.1 hk)
theorem min_iso {s : List Int} {a b : QueryR} (h : (contP s a b && contP s b a) = true) : pIsIsomorphic s (pMinimizeQuery s a) (pMinimizeQuery s b) = true := by
  rw [Bool.and_eq_true] at h
  obtain ⟨ha, hb, _⟩ := (contP_iff s a b).1 h.1
  obtain ⟨a1, a2, a3, _, _, _, a4⟩ := min_facts ha
  obtain ⟨b1, b2, b3, _, _, _, b4⟩ := min_facts hb
  exact core_iso a1 b1 a4 b4 (contP_trans a2 (contP_trans h.1 b3)) (contP_trans b2 (contP_trans h.2 a3))
end Go.Proofs.YthfjngmbdbocbaaD
