/- Contracts and plain laws of this seat; no condition. -/
import Derived.Test.YtcjdfeafcmfgpaaGreatQ10
import Derived.Test.YtcjdfeafcmfgpaaGreatQ21
import Derived.Test.YtcjdfeafcmfgpaaGreatQ20
import Derived.Test.YtcjdfeafcmfgpaaGreatQ19
set_option linter.unusedVariables false
set_option linter.unusedSimpArgs false
set_option maxRecDepth 100000
namespace Go.Proofs.YtcjdfeafcmfgpaaGreatD
open Go Go.Proofs
def headLen (q : List Int × List (Int × List Int)) : Int := q.1.length
def pViewSchema (xs : List (List Int × List (Int × List Int))) : List Int := xs.map headLen
theorem map_at {α β : Type} {f : α → β} {xs : List α} {k : Nat} (hk : k < xs.length) : (xs.take (k + 1)).map f = (xs.take k).map f ++ [f xs[k]] := by
 rw [List.take_succ_eq_append_getElem hk, List.map_append]
 rfl
theorem specViewSchema_spec (x0 : List (List Int × List (Int × List Int))) (h0 : cQueryS x0 ≤ 1048576) : Spec Tryz.prog 148 [vQueryS x0] (wSchema (pViewSchema x0)) := by
 unfold cQueryS at h0
 refine Spec_of mx Γ_ok Tryz.func148 rfl ?_
 conv => whnf
 refine ⟨[(0,0),(2,0),(3,1),(4,0)], fun m s => ∃ (k : Nat) (e : Int) (r : List V), e = k ∧ m + k = x0.length ∧ r = rows ciL ((x0.take k).map headLen) ∧
  s = ⟨24, [(0, vQueryS x0), (2, .ptr 0 0), (3, .ptr 1 0), (4, ci e)], [some ⟨true, [cnil]⟩, some ⟨true, [.own 2 1 0 k k none]⟩, some ⟨false, r⟩]⟩, x0.length, ⟨0, 0, _, rfl, rfl, rfl, rfl⟩, ?_⟩
 rintro m s ⟨k, _, _, rfl, hm, rfl, rfl⟩
 conv => whnf
 split <;> rename_i h1
 all_goals simp only [decide_eq_true_eq, decide_eq_false_iff_not] at h1
 ·conv => whnf
  have hk : k < x0.length := by omega
  refine ⟨List.range 12, by kernel_rfl, ?_⟩
  conv => whnf
  refine ⟨by omega, rows_len rQuery_len _, ?_⟩
  conv => whnf
  refine ⟨_, takeN_rp_field (k := k) (d := 0) (m := 1) (r := [ints x0[k].1]) rQuery_len hk (by omega) rfl, ?_⟩
  conv => whnf
  refine ⟨_, rfl, .inl ⟨flat1 rfl, ?_⟩⟩
  conv => whnf
  refine ⟨by omega, by rw [rows_len ciL_len, List.length_map, List.length_take, Nat.min_eq_left (by omega)], _, snoc_ci _ _, ?_⟩
  conv => whnf
  refine ⟨m - 1, by omega, k + 1, _, _, wrap_id (by omega) (by omega), by omega, ?_, rfl⟩
  rw [map_at hk]
  rfl
 ·conv => whnf
  have hkk : k = x0.length := by omega
  subst hkk
  rw [List.take_length]
  refine ⟨by rw [rows_len ciL_len, List.length_map], ?_⟩
  simp only [wSchema, tSchema, intsT, pViewSchema, List.length_map]
  rfl
set_option maxHeartbeats 1000000 in
theorem implViewSchema_spec (x0 : List (List Int × List (Int × List Int))) (h0 : cQueryS x0 ≤ 1048576) : Spec Tryz.prog 41 [vQueryS x0] (wSchema (pViewSchema x0)) := by
 unfold cQueryS at h0
 refine Spec_of mx Γ_ok Tryz.func41 rfl ?_
 conv => whnf
 refine ⟨[(2,0),(3,1),(7,0),(8,0),(9,0)], fun m s => ∃ (k : Nat) (e : Int) (r : List V), e = k ∧ m + k = x0.length ∧ r = rows ciL ((x0.take k).map headLen) ∧
  s = ⟨23, [(2, .ptr 0 0), (3, .ptr 1 0), (7, vQueryS x0), (8, ci x0.length), (9, ci e)], [some ⟨true, [cnil]⟩, some ⟨true, [.own 2 1 0 k k none]⟩, some ⟨false, r⟩]⟩, x0.length, ⟨0, 0, _, rfl, rfl, rfl, rfl⟩, ?_⟩
 rintro m s ⟨k, _, _, rfl, hm, rfl, rfl⟩
 conv => whnf
 split <;> rename_i h1
 all_goals simp only [decide_eq_true_eq, decide_eq_false_iff_not] at h1
 ·conv => whnf
  have hk : k < x0.length := by omega
  refine ⟨by omega, rows_len rQuery_len _, ?_⟩
  conv => whnf
  refine ⟨_, takeN_rp (k := k) rQuery_len hk, ?_⟩
  conv => whnf
  refine ⟨_, rfl, .inl ⟨flat1 rfl, ?_⟩⟩
  conv => whnf
  refine ⟨by omega, by rw [rows_len ciL_len, List.length_map, List.length_take, Nat.min_eq_left (by omega)], _, snoc_ci _ _, ?_⟩
  conv => whnf
  refine ⟨m - 1, by omega, k + 1, _, _, wrap_id (by omega) (by omega), by omega, ?_, rfl⟩
  rw [map_at hk]
  rfl
 ·conv => whnf
  have hkk : k = x0.length := by omega
  subst hkk
  rw [List.take_length]
  refine ⟨by rw [rows_len ciL_len, List.length_map], ?_⟩
  simp only [wSchema, tSchema, intsT, pViewSchema, List.length_map]
  rfl
abbrev U4 := List Int × List Int × List Int × List AtomC
def viewAt (vs : List QueryT) (a : AtomC) : QueryT := vs.getD a.1.toNat ([], [])
def uNext (vs : List QueryT) (st : U4) (a : AtomC) : U4 :=
 ((fresh (viewAt vs a) st.1).2.1, st.2.1 ++ a.2, st.2.2.1 ++ (renQ (fresh (viewAt vs a) st.1).2.2 (viewAt vs a)).1, st.2.2.2 ++ (renQ (fresh (viewAt vs a) st.1).2.2 (viewAt vs a)).2)
def uAll (vs : List QueryT) : List AtomC → U4 → Option U4
 | [], st => some st
 | a :: r, st => if (fresh (viewAt vs a) st.1).1 < 20 then uAll vs r (uNext vs st a) else none
def repE (a b : Int) (e : U4) : U4 := (e.1.map (rep1 a b), e.2.1.map (rep1 a b), e.2.2.1.map (rep1 a b), e.2.2.2.map (repA a b))
def eqE (e : U4) (t u : Int) : Option U4 :=
 if t == u then some e else if !isVar t && !isVar u then none
 else if !isVar t || (isVar u && decide (t < u)) then some (repE u t e) else some (repE t u e)
def specX (e : U4) : QueryT := (e.1, e.2.2.2 ++ [(0, e.2.1), (0, e.2.2.1)])
def implX (e : U4) : QueryT := (e.1 ++ e.2.1 ++ e.2.2.1, e.2.2.2)
theorem specX_rep (a b : Int) (e : U4) : pReplaceTerm (specX e) a b = specX (repE a b e) := by
 simp [pReplaceTerm, specX, repE, repA]
theorem implX_rep (a b : Int) (e : U4) : pReplaceTerm (implX e) a b = implX (repE a b e) := by
 simp [pReplaceTerm, implX, repE]
theorem eqP_specX (e : U4) (t u : Int) : eqP (specX e) t u = (eqE e t u).map specX := by
 unfold eqP eqE
 rw [specX_rep, specX_rep]
 (repeat' split) <;> rfl
theorem eqP_implX (e : U4) (t u : Int) : eqP (implX e) t u = (eqE e t u).map implX := by
 unfold eqP eqE
 rw [implX_rep, implX_rep]
 (repeat' split) <;> rfl
def eqs : Nat → Nat → U4 → Option U4
 | 0, _, e => some e
 | m + 1, i, e => match eqE e (e.2.1.getD i 0) (e.2.2.1.getD i 0) with
  | none => none
  | some y => eqs m (i + 1) y
def pUnf (vs : List QueryT) (q : QueryT) : Option QueryT := match uAll vs q.2 (varsOf q, [], [], []) with
 | none => none
 | some st => match eqs st.2.1.length 0 (q.1, st.2.1, st.2.2.1, st.2.2.2) with
  | none => none
  | some e => some (pDedupeAtoms (e.1, e.2.2.2))
def pUnfO (s : List Int) (vs : List QueryT) (q : QueryT) : Option QueryT := if pAreViews s vs && isQuery (pViewSchema vs) q then pUnf vs q else none
def okE (n c : Nat) (e : U4) : Prop := e.2.1.length = n ∧ e.2.2.1.length = n ∧ e.1.length ≤ 3 ∧ e.2.2.2.length + sumB cAtom e.2.2.2 ≤ c ∧ fineT e.2.1 ∧ fineT e.2.2.1
theorem fineT_map {l : List Int} {a b : Int} (h : fineT l) (hb : b < 20) : fineT (l.map (rep1 a b)) := fun x hx => by
 simp only [List.mem_map] at hx
 obtain ⟨w, hw, rfl⟩ := hx
 unfold rep1
 split
 ·exact hb
 ·exact h w hw
theorem okE_rep {n c : Nat} {e : U4} {a b : Int} (h : okE n c e) (hb : b < 20) : okE n c (repE a b e) := by
 obtain ⟨h1, h2, h3, h4, h5, h6⟩ := h
 refine ⟨by simp [repE, h1], by simp [repE, h2], by simp [repE, h3], ?_, fineT_map h5 hb, fineT_map h6 hb⟩
 show (List.map _ _).length + sumB cAtom (List.map _ _) ≤ c
 rw [List.length_map, sumB_map (c := cAtom) (d := cAtom) (fun x => by simp [cAtom, repA])]
 exact h4
theorem okE_eqE {n c : Nat} {e y : U4} {t u : Int} (h : okE n c e) (ht : t < 20) (hu : u < 20) (he : eqE e t u = some y) : okE n c y := by
 unfold eqE at he
 split at he
 ·cases he; exact h
 ·split at he
  ·cases he
  ·split at he
   ·cases he; exact okE_rep h ht
   ·cases he; exact okE_rep h hu
theorem fine_at {l : List Int} (h : fineT l) {i : Nat} (hi : i < l.length) : l.getD i 0 < 20 := by
 rw [getD_int hi]
 exact h _ (List.getElem_mem hi)
theorem ren1_fine {to : List Int} (h : fineT to) {x : Int} (hx : x < 20) : ren1 to x < 20 := by
 unfold ren1
 split
 ·rename_i h1
  have h1' : 0 ≤ x ∧ x ≤ (to.length : Int) - 1 := by simpa [inR] using h1
  exact fine_at h (by omega)
 ·exact hx
theorem frK_mono (vars u : List Int) (k : Nat) : (frK vars u k).1 ≤ (frK vars u (k + 1)).1 := by
 rw [frK_succ, frS]
 split
 ·exact (nx_le _ _).1
 ·exact Nat.le_refl _
theorem frK_fine (vars u : List Int) : ∀ k, k ≤ 20 → (frK vars u k).1 < 20 → fineT (frK vars u k).2.2
 | 0, _, _ => fun t ht => by cases ht
 | k + 1, hk, hf => by
  have ih := frK_fine vars u k (by omega) (Nat.lt_of_le_of_lt (frK_mono vars u k) hf)
  rw [frK_succ, frS] at hf ⊢
  split
  ·rename_i h1
   rw [if_pos h1] at hf
   intro t ht
   simp only [List.mem_append, List.mem_singleton] at ht
   rcases ht with ht | rfl
   ·exact ih t ht
   ·have : nx (frK vars u k).2.1 (frK vars u k).1 < 20 := hf
    omega
  ·intro t ht
   simp only [List.mem_append, List.mem_singleton] at ht
   rcases ht with ht | rfl
   ·exact ih t ht
   ·omega
theorem sumB_append {α : Type} (f : α → Nat) : ∀ xs ys : List α, sumB f (xs ++ ys) = sumB f xs + sumB f ys
 | [], ys => by simp [sumB]
 | x :: xs, ys => by
  rw [List.cons_append]
  simp only [sumB]
  rw [sumB_append f xs ys]
  omega
theorem isSchema_le {s : List Int} (h : isSchema s = true) {i : Nat} : s.getD i 0 ≤ 3 := by
 by_cases hi : i < s.length
 ·rw [getD_int hi]
  exact (schema_at h hi).2
 ·rw [List.getD_eq_getElem?_getD, List.getElem?_eq_none (by omega)]
  simp
theorem isQuery_small {s : List Int} {q : QueryT} (h : isQuery s q = true) : q.1.length ≤ 3 ∧ q.2.length ≤ 4 ∧ sumB cAtom q.2 ≤ 3 * q.2.length ∧ fineT q.1 ∧ fineA q.2 := by
 have hfn := isQuery_fine h
 simp only [isQuery, fineQ, terms3, Bool.and_eq_true, decide_eq_true_eq] at h
 obtain ⟨h0, ⟨_, h1⟩, h2, h3, _⟩ := h
 have h2' : 1 ≤ (q.2.length : Int) ∧ (q.2.length : Int) ≤ 4 := by simpa [inR] using h2
 refine ⟨h1, by omega, ?_, hfn.1, hfn.2⟩
 have key : ∀ l : List AtomC, l.all (isAtom s) = true → sumB cAtom l ≤ 3 * l.length := by
  intro l
  induction l with
  | nil => intro _; simp [sumB]
  | cons a l ih =>
   intro hl
   simp only [List.all_cons, Bool.and_eq_true] at hl
   have ih' := ih hl.2
   have ha := hl.1
   simp only [isAtom, takesS, Bool.and_eq_true, decide_eq_true_eq] at ha
   have h3 := ha.1.2.2
   have h4 := isSchema_le h0 (i := a.1.toNat)
   simp only [sumB, List.length_cons]
   have : cAtom a = a.2.length := rfl
   omega
 exact key _ h3
def okV (vs : List QueryT) : Prop := ∀ v ∈ vs, v.1.length ≤ 3 ∧ v.2.length ≤ 4 ∧ sumB cAtom v.2 ≤ 12 ∧ fineT v.1 ∧ fineA v.2
def okB (vs : List QueryT) (l : List AtomC) : Prop := ∀ a ∈ l, ∃ j : Nat, a.1 = (j : Int) ∧ j < vs.length ∧ a.2.length = (vs.getD j ([], [])).1.length ∧ fineT a.2
theorem views_ok {s : List Int} {vs : List QueryT} (h : pAreViews s vs = true) : okV vs := fun v hv => by
 simp only [pAreViews, Bool.and_eq_true, List.all_eq_true] at h
 have h1 := h.1 v hv
 simp only [viewOk, Bool.and_eq_true] at h1
 obtain ⟨a, b, c, d, e⟩ := isQuery_small h1.1
 exact ⟨a, b, by omega, d, e⟩
theorem body_ok {vs : List QueryT} {q : QueryT} (h : isQuery (pViewSchema vs) q = true) : okB vs q.2 := fun a ha => by
 have hfn := (isQuery_fine h).2 a ha
 simp only [isQuery, fineQ, Bool.and_eq_true, List.all_eq_true] at h
 obtain ⟨h0, _, _, h3, _⟩ := h
 have h4 := h3 a ha
 simp only [isAtom, takesS, Bool.and_eq_true, decide_eq_true_eq] at h4
 obtain ⟨⟨_, h5, h6⟩, _⟩ := h4
 have h5' : 0 ≤ a.1 ∧ a.1 ≤ ((pViewSchema vs).length : Int) - 1 := by simpa [inR] using h5
 have hl : (pViewSchema vs).length = vs.length := by simp [pViewSchema]
 rw [hl] at h5'
 refine ⟨a.1.toNat, by omega, by omega, ?_, hfn⟩
 have hj : a.1.toNat < vs.length := by omega
 rw [getD_int (by rw [hl]; exact hj)] at h6
 simp only [pViewSchema, List.getElem_map, headLen] at h6
 simp only [List.getD_eq_getElem?_getD, List.getElem?_eq_getElem hj, Option.getD_some]
 omega
def okU (vs : List QueryT) (k : Nat) (st : U4) : Prop := top st.1 ≤ 20 + 20 * k ∧ st.1.length ≤ 20 + 20 * k ∧ st.2.1.length = st.2.2.1.length ∧ st.2.1.length ≤ 3 * k ∧ st.2.2.2.length + sumB cAtom st.2.2.2 ≤ 16 * k ∧ fineT st.2.1 ∧ fineT st.2.2.1
theorem fineT_app {a b : List Int} (ha : fineT a) (hb : fineT b) : fineT (a ++ b) := fun t ht => by
 rcases List.mem_append.1 ht with h | h
 ·exact ha t h
 ·exact hb t h
theorem okU_next {vs : List QueryT} {k : Nat} {st : U4} {a : AtomC} (hv : okV vs) (hb : okB vs [a]) (h : okU vs k st) (hf : (fresh (viewAt vs a) st.1).1 < 20) : okU vs (k + 1) (uNext vs st a) := by
 obtain ⟨h1, h2, h3, h4, h5, h6, h7⟩ := h
 obtain ⟨j, hj, hjl, hal, haf⟩ := hb a (by simp)
 have hva : viewAt vs a = vs.getD j ([], []) := by unfold viewAt; rw [hj, Int.toNat_natCast]
 have hmem : viewAt vs a ∈ vs := by
  rw [hva]
  simp only [List.getD_eq_getElem?_getD, List.getElem?_eq_getElem hjl, Option.getD_some]
  exact List.getElem_mem hjl
 rw [← hva] at hal
 obtain ⟨v1, v2, v3, v4, v5⟩ := hv _ hmem
 have hbd := frK_bd (varsOf (viewAt vs a)) st.1 (20 + 20 * k) h1 20
 have hfi := frK_fine (varsOf (viewAt vs a)) st.1 20 (Nat.le_refl _) hf
 generalize hvd : viewAt vs a = v at *
 unfold fresh at hf
 unfold uNext fresh
 rw [hvd]
 generalize frK (varsOf v) st.1 20 = f at *
 refine ⟨?_, ?_, ?_, ?_, ?_, fineT_app h6 haf, fineT_app h7 ?_⟩
 ·show top f.2.1 ≤ _
  omega
 ·show f.2.1.length ≤ _
  omega
 ·simp only [List.length_append, renQ, List.length_map]
  omega
 ·simp only [List.length_append]
  omega
 ·simp only [List.length_append, renQ, List.length_map]
  rw [sumB_append, sumB_map (c := cAtom) (d := cAtom) (fun x => by simp [cAtom, renA])]
  omega
 ·intro t ht
  simp only [renQ, List.mem_map] at ht
  obtain ⟨w, hw, rfl⟩ := ht
  exact ren1_fine hfi (v4 w hw)
theorem uAll_nil (vs : List QueryT) (st : U4) : uAll vs [] st = some st := rfl
theorem uAll_cons (vs : List QueryT) (a : AtomC) (r : List AtomC) (st : U4) : uAll vs (a :: r) st = if (fresh (viewAt vs a) st.1).1 < 20 then uAll vs r (uNext vs st a) else none := rfl
theorem solid_rAtomS (xs : List AtomC) : ∀ c ∈ rows rAtom xs, solid c = true := by
 induction xs with
 | nil => intro c hc; cases hc
 | cons x xs ih =>
  intro c hc
  rw [show rows rAtom (x :: xs) = rAtom x ++ rows rAtom xs from rfl] at hc
  rcases List.mem_append.1 hc with h | h
  ·simp only [rAtom, List.mem_cons, List.not_mem_nil, or_false] at h
   rcases h with rfl | rfl <;> rfl
  ·exact ih c h
theorem viewAt_eq {vs : List QueryT} {j : Nat} {xs : List Int} (hj : j < vs.length) : viewAt vs ((j : Int), xs) = vs[j] := by
 simp [viewAt, List.getD_eq_getElem?_getD, hj]
theorem rAtomU_ro (x : AtomC) : roVs (rAtom x) = rAtom x := by simp only [rAtom, roVs, ints_ro, ci_ro]
theorem vQueryU_ro (q : QueryT) : roV (vQuery q) = vQuery q := by
 simp only [vQuery, rQuery, roV, roVs, ints_ro, vAtomS, roVs_rows rAtomU_ro]
theorem take_all {cs : List V} {n : Nat} (h : cs.length = n) : cs.take n = cs := by rw [← h, List.take_length]
theorem eqs_succ (m i : Nat) (e : U4) : eqs (m + 1) i e = match eqE e (e.2.1.getD i 0) (e.2.2.1.getD i 0) with
  | none => none
  | some y => eqs m (i + 1) y := rfl
theorem eqs_zero (i : Nat) (e : U4) : eqs 0 i e = some e := rfl
theorem fineT_nil : fineT [] := fun t h => absurd h (List.not_mem_nil)
theorem top_fine : ∀ {u : List Int}, fineT u → top u ≤ 20
 | [], _ => Nat.zero_le _
 | x :: u, h => by
  have h1 := h x (by simp)
  have h2 := top_fine (u := u) fun y hy => h y (by simp [hy])
  rw [top_cons]
  omega
theorem varsOf_fine (q : QueryT) : fineT (varsOf q) := fun t ht => by
 simp only [varsOf, varsTo, List.mem_map, List.mem_filter, List.mem_range] at ht
 obtain ⟨j, ⟨h, _⟩, rfl⟩ := ht
 show ((j : Nat) : Int) < 20
 omega
theorem eqE_len {e y : U4} {t u : Int} (h : eqE e t u = some y) : y.2.2.2.length = e.2.2.2.length := by
 unfold eqE at h
 split at h
 ·cases h; rfl
 ·split at h
  ·cases h
  ·split at h
   ·cases h; simp [repE]
   ·cases h; simp [repE]
theorem eqE_len1 {e y : U4} {t u : Int} (h : eqE e t u = some y) : y.1.length = e.1.length := by
 unfold eqE at h
 split at h
 ·cases h; rfl
 ·split at h
  ·cases h
  ·split at h
   ·cases h; simp [repE]
   ·cases h; simp [repE]
end Go.Proofs.YtcjdfeafcmfgpaaGreatD
