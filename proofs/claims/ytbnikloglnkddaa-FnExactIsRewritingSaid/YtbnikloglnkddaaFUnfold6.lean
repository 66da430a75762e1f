/- UnfoldQuery: new names as the second program gives them. -/
import Derived.Test.YtbnikloglnkddaaFUnfold4
set_option linter.unusedVariables false
set_option linter.unusedSimpArgs false
set_option maxRecDepth 100000
namespace Go.Proofs.YtbnikloglnkddaaD
open Go Go.Proofs

def frV (st : Nat × List Int × List Int) (x : Int) : Nat × List Int × List Int := (nx st.2.1 st.1, st.2.1 ++ [(nx st.2.1 st.1 : Int)], st.2.2.set x.toNat (nx st.2.1 st.1 : Int))
def zeros : List Int := List.replicate 20 0
def frI (u xs : List Int) : Nat × List Int × List Int := xs.foldl frV (0, u, zeros)
theorem frI_mono : ∀ (xs : List Int) (st : Nat × List Int × List Int), st.1 ≤ (xs.foldl frV st).1
  | [], st => Nat.le_refl _
  | x :: xs, st => Nat.le_trans (nx_le st.2.1 st.1).1 (frI_mono xs (frV st x))
theorem frI_snoc (u xs : List Int) (x : Int) : frI u (xs ++ [x]) = frV (frI u xs) x := by
  unfold frI
  rw [List.foldl_append]
  rfl
theorem frI_app (u xs ys : List Int) : (frI u xs).1 ≤ (frI u (xs ++ ys)).1 := by
  unfold frI
  rw [List.foldl_append]
  exact frI_mono ys _
theorem getD_snoc {l : List Int} {x : Int} {i : Nat} (h : i < l.length) : (l ++ [x]).getD i 0 = l.getD i 0 := by
  simp [List.getD_eq_getElem?_getD, List.getElem?_append_left h]
theorem getD_last {l : List Int} {x : Int} {i : Nat} (h : i = l.length) : (l ++ [x]).getD i 0 = x := by
  subst h
  simp [List.getD_eq_getElem?_getD]
theorem getD_set {l : List Int} {x : Int} {i j : Nat} (h : j < l.length) : (l.set j x).getD i 0 = if j = i then x else l.getD i 0 := by
  simp only [List.getD_eq_getElem?_getD, List.getElem?_set]
  split
  · rename_i h1
    subst h1
    simp [h]
  · rfl
theorem frI_frK (q : QueryT) (u : List Int) : ∀ k, k ≤ 20 → (frI u (varsTo q k)).1 = (frK (varsOf q) u k).1 ∧ (frI u (varsTo q k)).2.1 = (frK (varsOf q) u k).2.1 ∧ (frI u (varsTo q k)).2.2.length = 20 ∧ (frK (varsOf q) u k).2.2.length = k ∧ ∀ x, x < k → pvar q x = true → (frI u (varsTo q k)).2.2.getD x 0 = (frK (varsOf q) u k).2.2.getD x 0
  | 0, _ => ⟨rfl, rfl, by simp [frI, varsTo, zeros], rfl, fun x h => absurd h (Nat.not_lt_zero _)⟩
  | k + 1, hk => by
    obtain ⟨h1, h2, h3, h4, h5⟩ := frI_frK q u k (by omega)
    rw [varsTo_succ, frK_succ, frS, has_varsOf q k (by omega)]
    cases hp : pvar q k with
    | false =>
      rw [if_neg (by simp), if_neg (by simp)]
      refine ⟨h1, h2, h3, ?_, fun x hx hpx => ?_⟩
      · show (_ ++ [_]).length = _
        rw [List.length_append, h4]
        rfl
      · have hxk : x < k := by
          rcases Nat.lt_or_ge x k with h | h
          · exact h
          · have : x = k := by omega
            rw [this, hp] at hpx
            cases hpx
        show _ = ((frK (varsOf q) u k).2.2 ++ [(k : Int)]).getD x 0
        rw [getD_snoc (by omega)]
        exact h5 x hxk hpx
    | true =>
      rw [if_pos rfl, if_pos rfl, frI_snoc, frV, h1, h2]
      refine ⟨rfl, rfl, ?_, ?_, fun x hx hpx => ?_⟩
      · show (List.set _ _ _).length = _
        rw [List.length_set, h3]
      · show (_ ++ [_]).length = _
        rw [List.length_append, h4]
        rfl
      · show (List.set _ _ _).getD x 0 = (_ ++ [_]).getD x 0
        rw [show ((k : Int)).toNat = k from Int.toNat_natCast k, getD_set (by omega)]
        by_cases hxk : k = x
        · rw [if_pos hxk, getD_last (by omega)]
        · rw [if_neg hxk, getD_snoc (by omega)]
          exact h5 x (by omega) hpx
theorem ren1_same {q : QueryT} {a b : List Int} (ha : a.length = 20) (hb : b.length = 20) (h : ∀ x, x < 20 → pvar q x = true → a.getD x 0 = b.getD x 0) {t : Int} (ht : t < 20) (hp : 0 ≤ t → pvar q t.toNat = true) : ren1 a t = ren1 b t := by
  unfold ren1
  rw [ha, hb]
  split
  · rename_i h1
    have h1' : 0 ≤ t ∧ t ≤ ((20 : Nat) : Int) - 1 := by simpa [inR] using h1
    exact h t.toNat (by omega) (hp h1'.1)
  · rfl
theorem ren_same {q : QueryT} {u : List Int} (h1 : fineT q.1) (h2 : fineA q.2) : renQ (frI u (varsOf q)).2.2 q = renQ (fresh q u).2.2 q := by
  obtain ⟨_, _, h3, h4, h5⟩ := frI_frK q u 20 (Nat.le_refl _)
  have key : ∀ t, t < 20 → (0 ≤ t → pvar q t.toNat = true) → ren1 (frI u (varsOf q)).2.2 t = ren1 (fresh q u).2.2 t := fun t ht hp => ren1_same h3 h4 h5 ht hp
  unfold renQ
  congr 1
  · refine List.map_congr_left fun t ht => key t (h1 t ht) fun h0 => ?_
    have e : ((t.toNat : Nat) : Int) = t := Int.toNat_of_nonneg h0
    rw [pvar, e, Bool.or_eq_true]
    exact .inr (by simp only [has, List.any_eq_true]; exact ⟨t, ht, by simp [eqV]⟩)
  · refine List.map_congr_left fun a ha => ?_
    unfold renA
    congr 1
    refine List.map_congr_left fun t ht => key t (h2 a ha t ht) fun h0 => ?_
    have e : ((t.toNat : Nat) : Int) = t := Int.toNat_of_nonneg h0
    rw [pvar, e, Bool.or_eq_true]
    exact .inl (occurs_mem.2 ⟨a, ha, ht⟩)
theorem frI_fresh (q : QueryT) (u : List Int) : (frI u (varsOf q)).1 = (fresh q u).1 ∧ (frI u (varsOf q)).2.1 = (fresh q u).2.1 ∧ (frI u (varsOf q)).2.2.length = 20 := by
  obtain ⟨h1, h2, h3, _, _⟩ := frI_frK q u 20 (Nat.le_refl _)
  exact ⟨h1, h2, h3⟩
/-! Which names are taken. -/
def bL (b : Bool) : List V := [cb b]
theorem bL_len (b : Bool) : (bL b).length = 1 := rfl
def flg (u : List Int) : List Bool := (List.range 20).map fun v => has u (Int.ofNat v)
theorem flg_len (u : List Int) : (flg u).length = 20 := by simp [flg]
theorem flg_at (u : List Int) {i : Nat} (h : i < (flg u).length) : (flg u)[i] = has u (i : Int) := by
  simp only [flg, List.getElem_map, List.getElem_range]
  rfl
theorem flg_set (u : List Int) (w : Nat) : (flg u).set w true = flg (u ++ [(w : Int)]) := by
  apply List.ext_getElem
  · simp [flg]
  · intro i hi1 hi2
    rw [List.getElem_set, flg_at, flg_at, has_append, has_one]
    split
    · rename_i h
      subst h
      simp
    · rename_i h
      have : ((w : Int) == (i : Int)) = false := by
        rw [beq_eq_false_iff_ne]
        omega
      rw [this, Bool.or_false]
theorem rows_bL (n : Nat) : repl n [cb false] = rows bL (List.replicate n false) := repl_rows (f := bL) (d := false) rfl n
theorem flg_nil : flg [] = List.replicate 20 false := rfl
theorem vars_fine (q : QueryT) {k : Nat} (hk : k < (varsOf q).length) : ∃ j : Nat, (varsOf q)[k] = (j : Int) ∧ j < 20 := by
  have h : (varsOf q)[k] ∈ varsOf q := List.getElem_mem hk
  generalize (varsOf q)[k] = x at h
  simp only [varsOf, varsTo, List.mem_map, List.mem_filter, List.mem_range] at h
  obtain ⟨j, ⟨h1, _⟩, h2⟩ := h
  exact ⟨j, h2.symm, h1⟩
/-! The equations of the second program. -/
theorem implX_at0 (e : U4) {n i k : Nat} (hn : n = e.1.length) (hk : k = n + i) (hi : i < e.2.1.length) (h : k < (implX e).1.length) : (implX e).1[k] = e.2.1[i] := by
  subst hn hk
  simp only [implX]
  rw [List.getElem_append_left (by rw [List.length_append]; omega), List.getElem_append_right (by omega)]
  simp
theorem implX_at1 (e : U4) {n m i k : Nat} (hn : n = e.1.length) (hm : m = e.2.1.length) (hk : k = n + m + i) (hi : i < e.2.2.1.length) (h : k < (implX e).1.length) : (implX e).1[k] = e.2.2.1[i] := by
  subst hn hm hk
  simp only [implX]
  rw [List.getElem_append_right (by rw [List.length_append]; omega)]
  simp
end Go.Proofs.YtbnikloglnkddaaD
