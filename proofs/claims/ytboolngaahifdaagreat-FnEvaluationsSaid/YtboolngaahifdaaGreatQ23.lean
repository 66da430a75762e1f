/- Contracts and plain laws of this seat; no condition. -/
import Derived.Test.YtboolngaahifdaaGreatQ22
import Derived.Test.YtboolngaahifdaaGreatQ20
set_option linter.unusedVariables false
set_option linter.unusedSimpArgs false
set_option maxRecDepth 100000
namespace Go.Proofs.YtboolngaahifdaaGreatD
open Go Go.Proofs
theorem step_val {b b1 : Bnd} {a f : FactC} {db r : List FactC} (ht : a.2.all isTerm = true) (htr : ∀ c ∈ r, c.2.all isTerm = true) (hm : (mch b a f).2 = true) (h : b1 ∈ visitL db r (mch b a f).1) : valA (fnOf b1) a = f ∧ ∀ t ∈ a.2, 0 ≤ t → (b1 t.toNat).isSome = true := by
 have i1 := (visitL_sound db r _ b1 htr h).1
 unfold mch at hm i1
 by_cases hc : a.1 = f.1 ∧ a.2.length = f.2.length
 ·rw [if_pos hc] at hm i1
  have hb : bindGo a.2 f.2 b = ((bindGo a.2 f.2 b).1, true) := Prod.ext rfl hm
  obtain ⟨s1, s2⟩ := bindGo_sound _ _ _ _ hc.2 ht hb
  refine ⟨Prod.ext hc.1 ?_, fun t ht h0 => ?_⟩
  ·show a.2.map (val (fnOf b1)) = f.2
   rw [← s1]
   exact List.map_congr_left fun t ht' => val_ext i1 (s2 t ht')
  ·obtain ⟨u, hu⟩ := Option.isSome_iff_exists.1 (s2 t ht h0)
   rw [i1 _ _ hu]
   rfl
 ·rw [if_neg hc] at hm
  cases hm
theorem val_sV {b1 b2 : Bnd} (h : sV b1 = sV b2) {t : Int} (ht : isTerm t = true) (h1 : 0 ≤ t → (b1 t.toNat).isSome = true) (h2 : 0 ≤ t → (b2 t.toNat).isSome = true) : val (fnOf b1) t = val (fnOf b2) t := by
 unfold val
 cases hv : isVar t with
 | false => rfl
 | true =>
  have h0 := (var_iff ht).1 hv
  have hr := term_rng ht
  obtain ⟨u, hu⟩ := Option.isSome_iff_exists.1 (h1 h0)
  obtain ⟨w, hw⟩ := Option.isSome_iff_exists.1 (h2 h0)
  have e : (sV b1).getD t.toNat 0 = (sV b2).getD t.toNat 0 := by rw [h]
  rw [sV_at b1 (by omega), sV_at b2 (by omega), hu, hw] at e
  simp only [if_true]
  unfold fnOf ba
  rw [hu, hw]
  exact e
theorem visitL_diff {db : List FactC} (hd : db.Pairwise fun a b => a ≠ b) : ∀ (body : List FactC) (b : Bnd), (∀ a ∈ body, a.2.all isTerm = true) → ((visitL db body b).map sV).Pairwise fun x y => x ≠ y
 | [], b, _ => by simp [visitL]
 | a :: r, b, ht => by
  have hta := ht a (by simp)
  have htr : ∀ c ∈ r, c.2.all isTerm = true := fun c hc => ht c (by simp [hc])
  rw [visitL, List.map_flatMap, List.pairwise_flatMap]
  refine ⟨fun f hf => ?_, hd.imp fun {f g} hfg => ?_⟩
  ·split
   ·exact visitL_diff hd r _ htr
   ·exact List.Pairwise.nil
  ·intro x hx y hy hxy
   split at hx
   ·rename_i hm1
    split at hy
    ·rename_i hm2
     obtain ⟨b1, hb1, rfl⟩ := List.mem_map.1 hx
     obtain ⟨b2, hb2, rfl⟩ := List.mem_map.1 hy
     obtain ⟨u1, u2⟩ := step_val hta htr hm1 hb1
     obtain ⟨w1, w2⟩ := step_val hta htr hm2 hb2
     apply hfg
     rw [← u1, ← w1]
     refine Prod.ext rfl ?_
     exact List.map_congr_left fun t ht => val_sV hxy (List.all_eq_true.1 hta t ht) (u2 t ht) (w2 t ht)
    ·cases hy
   ·cases hx
def Asc (l : List (List Int)) : Prop := l.Pairwise fun a b => ltI b a = false
theorem asc_eq {l m : List (List Int)} (hl : Asc l) (hm : Asc m) (hp : l.Perm m) : l = m := by
 refine List.Perm.eq_of_pairwise (le := fun a b => ltI b a = false) (fun a b _ _ h1 h2 => ?_) hl hm hp
 rcases totI.tri a b with h | h | h
 ·rw [h2] at h; cases h
 ·exact h
 ·rw [h1] at h; cases h
theorem lt_le {a b c : List Int} (h1 : ltI a b = true) (h2 : ltI c b = false) : ltI a c = true := by
 rcases totI.tri b c with h | h | h
 ·exact totI.tr _ _ _ h1 h
 ·rw [← h]; exact h1
 ·rw [h2] at h; cases h
theorem insF_perm (out : List (List Int)) (v : List Int) : (insL false out v).Perm (v :: out) := by
 unfold insL
 rw [if_neg (by simp)]
 refine List.perm_middle.trans ?_
 rw [List.take_append_drop]
theorem insF_asc {out : List (List Int)} (hs : Asc out) (v : List Int) : Asc (insL false out v) := by
 obtain ⟨h1, h2, h3⟩ := scanL_ok v out out.length (Nat.le_refl _)
 unfold insL
 rw [if_neg (by simp)]
 generalize scanL v out out.length = k at *
 have hpw := List.pairwise_iff_getElem.1 hs
 have hlow : ∀ j (h : j < out.length), j < k → ltI v out[j] = false := by
  intro j h hj
  have hk1 : k - 1 < out.length := by omega
  have hg : out.getD (k - 1) [] = out[k - 1] := by rw [List.getD_eq_getElem?_getD, List.getElem?_eq_getElem hk1]; rfl
  have h4 := h3 (by omega)
  rw [hg] at h4
  cases hv : ltI v out[j] with
  | false => rfl
  | true =>
   by_cases e : j = k - 1
   ·subst e; rw [h4] at hv; cases hv
   ·have := lt_le hv (hpw j (k - 1) h hk1 (by omega))
    rw [h4] at this; cases this
 refine List.pairwise_append.2 ⟨hs.sublist (List.take_sublist _ _), List.pairwise_cons.2 ⟨fun x hx => ?_, hs.sublist (List.drop_sublist _ _)⟩, fun x hx y hy => ?_⟩
 ·obtain ⟨j, hj, rfl⟩ := List.getElem_of_mem hx
  rw [List.length_drop] at hj
  rw [List.getElem_drop]
  exact totI.asym (h2 (k + j) (by omega) (by omega) (by omega))
 ·obtain ⟨j, hj, rfl⟩ := List.getElem_of_mem hx
  rw [List.length_take] at hj
  rw [List.getElem_take]
  rcases List.mem_cons.1 hy with rfl | hy
  ·exact hlow j (by omega) (by omega)
  ·obtain ⟨p, hp, rfl⟩ := List.getElem_of_mem hy
   rw [List.length_drop] at hp
   rw [List.getElem_drop]
   exact hpw j (k + p) (by omega) (by omega) (by omega)
theorem sortF_ok (l : List (List Int)) : Asc (sortL false l) ∧ (sortL false l).Perm l := by
 have : ∀ (l out : List (List Int)), Asc out → Asc (l.foldl (insL false) out) ∧ (l.foldl (insL false) out).Perm (l ++ out) := by
  intro l
  induction l with
  | nil => intro out h; exact ⟨h, List.Perm.refl _⟩
  | cons v l ih =>
   intro out h
   obtain ⟨i1, i2⟩ := ih _ (insF_asc h v)
   refine ⟨i1, i2.trans ?_⟩
   exact ((insF_perm out v).append_left l).trans List.perm_middle
 obtain ⟨h1, h2⟩ := this l [] List.Pairwise.nil
 rw [List.append_nil] at h2
 exact ⟨h1, h2⟩
theorem strict_nodup {α : Type} {lt : α → α → Bool} (h : Tot lt) {l : List α} (hs : Strict lt l) : l.Pairwise fun a b => a ≠ b := hs.imp fun {a b} h1 e => by
 subst e
 rw [h.irr] at h1
 cases h1
theorem sortT_perm {l : List (List Int)} (hl : l.Pairwise fun a b => a ≠ b) : (sortL true l).Perm l := by
 obtain ⟨h1, h2⟩ := sortL_ok l
 exact (List.perm_ext_iff_of_nodup (strict_nodup totI h1) hl).2 h2
theorem strict_asc {l : List (List Int)} (h : Strict ltI l) : Asc l := h.imp fun {a b} h => totI.asym h
theorem isDb_diff {s : List Int} {db : List FactC} (h : isDb s db = true) : db.Pairwise fun a b => a ≠ b := by
 have hg : ∀ (db : List FactC) (p : Option FactC), dbGo s p db = true → Strict ltF db ∧ ∀ y, p = some y → ∀ f ∈ db, ltF y f = true := by
  intro db
  induction db with
  | nil => intro p _; exact ⟨List.Pairwise.nil, fun y _ f hf => by cases hf⟩
  | cons x r ih =>
   intro p h
   simp only [dbGo, Bool.and_eq_true] at h
   obtain ⟨⟨_, h2⟩, h3⟩ := h
   obtain ⟨i1, i2⟩ := ih (some x) h3
   refine ⟨List.pairwise_cons.2 ⟨i2 x rfl, i1⟩, fun y hy f hf => ?_⟩
   subst hy
   have h2' : ltF y x = true := h2
   rcases List.mem_cons.1 hf with rfl | hf
   ·exact h2'
   ·exact totF.tr _ _ _ h2' (i2 x rfl f hf)
 simp only [isDb, Bool.and_eq_true] at h
 exact strict_nodup totF (hg db none h.1).1
theorem rawP_perm {s : List Int} {q : QueryE} {db : List FactC} (hq : isQuery s q = true) (hd : isDb s db = true) : (rawP q db).Perm ((visitL db q.2 bNone).map sV) := sortT_perm (visitL_diff (isDb_diff hd) q.2 bNone (isQuery_terms hq).2.1)
theorem heads_perm {s : List Int} {q : QueryE} {db : List FactC} (hq : isQuery s q = true) (hd : isDb s db = true) : ((rawP q db).map fun v => q.1.map (tS v)).Perm (headsP q db) := by
 refine ((rawP_perm hq hd).map _).trans ?_
 unfold headsP
 rw [List.map_map]
 exact List.Perm.of_eq (List.map_congr_left fun b hb => safe_bound hq hb)
abbrev CountC := List Int × Int
def cntPut (out : List CountC) (t : List Int) : List CountC :=
 match out.getLast? with
 | some p => if p.1 = t then out.dropLast ++ [(p.1, p.2 + 1)] else out ++ [(t, 1)]
 | none => [(t, 1)]
def cntL (l : List (List Int)) : List CountC := l.foldl cntPut []
def sumC (l : List CountC) : Int := (l.map Prod.snd).sum
theorem cntPut_snoc (out : List CountC) (p : CountC) (t : List Int) : cntPut (out ++ [p]) t = if p.1 = t then out ++ [(p.1, p.2 + 1)] else out ++ [p] ++ [(t, 1)] := by
 unfold cntPut
 rw [List.getLast?_concat]
 simp only [List.dropLast_concat]
theorem sumC_app (a b : List CountC) : sumC (a ++ b) = sumC a + sumC b := by
 unfold sumC
 rw [List.map_append, List.sum_append]
theorem cntL_ok : ∀ (l : List (List Int)) (out : List CountC), Asc l → Strict ltI (out.map Prod.fst) → (∀ p ∈ out, ∀ t ∈ l, ltI t p.1 = false) →
  Strict ltI ((l.foldl cntPut out).map Prod.fst) ∧ (∀ x, x ∈ (l.foldl cntPut out).map Prod.fst ↔ x ∈ l ∨ x ∈ out.map Prod.fst) ∧ sumC (l.foldl cntPut out) = sumC out + l.length
 | [], out, _, hs, _ => ⟨hs, fun x => by simp, by simp⟩
 | t :: l, out, hl, hs, hb => by
  obtain ⟨ht, hl'⟩ := List.pairwise_cons.1 hl
  rw [List.foldl_cons]
  rcases List.eq_nil_or_concat out with rfl | ⟨o, p, rfl⟩
  ·have e : cntPut [] t = [(t, 1)] := rfl
   rw [e]
   obtain ⟨i1, i2, i3⟩ := cntL_ok l [(t, 1)] hl' (by simp [Strict]) (fun p hp u hu => by rw [List.mem_singleton.1 hp]; exact ht u hu)
   refine ⟨i1, fun x => ?_, ?_⟩
   ·rw [i2 x]
    simp only [List.map_cons, List.map_nil, List.mem_cons, List.not_mem_nil, or_false]
    exact ⟨fun h => h.symm, fun h => h.symm⟩
   ·rw [i3]
    simp only [sumC, List.map_cons, List.map_nil, List.sum_cons, List.sum_nil, List.length_cons]
    omega
  ·rw [List.concat_eq_append] at hs hb ⊢
   rw [cntPut_snoc]
   split
   ·rename_i e
    have e1 : (o ++ [(p.1, p.2 + 1)]).map Prod.fst = (o ++ [p]).map Prod.fst := by simp
    obtain ⟨i1, i2, i3⟩ := cntL_ok l (o ++ [(p.1, p.2 + 1)]) hl' (by rw [e1]; exact hs) (fun r hr u hu => by
     rcases List.mem_append.1 hr with hr | hr
     ·exact hb r (by simp [hr]) u (by simp [hu])
     ·rw [List.mem_singleton.1 hr]; exact hb p (by simp) u (by simp [hu]))
    refine ⟨i1, fun x => ?_, ?_⟩
    ·rw [i2 x, e1, List.mem_cons]
     constructor
     ·rintro (h | h)
      ·exact .inl (.inr h)
      ·exact .inr h
     ·rintro ((h | h) | h)
      ·exact .inr (by rw [h, ← e]; simp)
      ·exact .inl h
      ·exact .inr h
    ·rw [i3, sumC_app, sumC_app, List.length_cons]
     simp only [sumC, List.map_cons, List.map_nil, List.sum_cons, List.sum_nil]
     omega
   ·rename_i e
    obtain ⟨i1, i2, i3⟩ := cntL_ok l (o ++ [p] ++ [(t, 1)]) hl' (by
      rw [List.map_append]
      refine List.pairwise_append.2 ⟨hs, by simp, fun x hx y hy => ?_⟩
      have hy' : y = t := by simpa using hy
      subst hy'
      have hle : ∀ r ∈ o ++ [p], ltI y r.1 = false := fun r hr => hb r hr y (by simp)
      have hpt : ltI p.1 y = true := by
       rcases totI.tri p.1 y with h | h | h
       ·exact h
       ·exact absurd h e
       ·rw [hle p (by simp)] at h; cases h
      rw [List.map_append] at hs hx
      rcases List.mem_append.1 hx with hx | hx
      ·exact totI.tr _ _ _ ((List.pairwise_append.1 hs).2.2 x hx p.1 (by simp)) hpt
      ·have : x = p.1 := by simpa using hx
       rw [this]; exact hpt) (fun r hr u hu => by
     rcases List.mem_append.1 hr with hr | hr
     ·exact hb r hr u (by simp [hu])
     ·rw [List.mem_singleton.1 hr]; exact ht u hu)
    refine ⟨i1, fun x => ?_, ?_⟩
    ·rw [i2 x, List.map_append, List.mem_append, List.mem_cons]
     simp only [List.map_cons, List.map_nil, List.mem_cons, List.not_mem_nil, or_false]
     constructor
     ·rintro (h | h | h)
      ·exact .inl (.inr h)
      ·exact .inr h
      ·exact .inl (.inl h)
     ·rintro ((h | h) | h)
      ·exact .inr (.inr h)
      ·exact .inl h
      ·exact .inr (.inl h)
    ·rw [i3, sumC_app (o ++ [p]), List.length_cons]
     simp only [sumC, List.map_cons, List.map_nil, List.sum_cons, List.sum_nil]
     omega
def countsS (s : List Int) (q : QueryE) (db : List FactC) : List CountC := if isQuery s q && isDb s db then cntL (sortL false ((rawP q db).map fun v => q.1.map (tS v))) else []
theorem counts_fst (s : List Int) (q : QueryE) (db : List FactC) : (countsS s q db).map Prod.fst = answersS s q db := by
 unfold countsS answersS
 split
 ·obtain ⟨a1, a2⟩ := sortF_ok ((rawP q db).map fun v => q.1.map (tS v))
  obtain ⟨b1, b2⟩ := sortL_ok ((rawP q db).map fun v => q.1.map (tS v))
  obtain ⟨i1, i2, _⟩ := cntL_ok _ [] a1 List.Pairwise.nil (fun p hp => by cases hp)
  refine strict_unique totI i1 b1 fun x => ?_
  refine (i2 x).trans ?_
  rw [b2 x, a2.mem_iff]
  simp
 ·rfl
theorem counts_sum (s : List Int) (q : QueryE) (db : List FactC) : sumC (countsS s q db) = (bindingsS s q db).length := by
 unfold countsS bindingsS
 split
 ·obtain ⟨a1, a2⟩ := sortF_ok ((rawP q db).map fun v => q.1.map (tS v))
  obtain ⟨_, _, i3⟩ := cntL_ok _ [] a1 List.Pairwise.nil (fun p hp => by cases hp)
  refine i3.trans ?_
  rw [a2.length_eq, List.length_map]
  simp [sumC]
 ·rfl
end Go.Proofs.YtboolngaahifdaaGreatD
