/- Contracts and plain laws of this seat; no condition. -/
import Derived.Test.YtboolngaahifdaaGreatQ17
import Derived.Test.YtboolngaahifdaaGreatQ21
import Derived.Test.YtboolngaahifdaaGreatQ11
set_option linter.unusedVariables false
set_option linter.unusedSimpArgs false
set_option maxRecDepth 100000
namespace Go.Proofs.YtboolngaahifdaaGreatD
open Go Go.Proofs
theorem P4 {b b1 : Bnd} {a f : aG} {db r : List aG} (ht : a.2.all aU = true) (htr : ∀ c ∈ r, c.2.all aU = true) (hm : (mch b a f).2 = true) (h : b1 ∈ c8 db r (mch b a f).1) : PE (vD b1) a = f ∧ ∀ t ∈ a.2, 0 ≤ t → (b1 t.toNat).isSome = true := by
 have i1 := (nE db r _ b1 htr h).1
 unfold mch at hm i1
 by_cases hc : a.1 = f.1 ∧ a.2.length = f.2.length
 ·rw [if_pos hc] at hm i1
  have hb : cQ a.2 f.2 b = ((cQ a.2 f.2 b).1, true) := Prod.ext rfl hm
  obtain ⟨s1, s2⟩ := n7 _ _ _ _ hc.2 ht hb
  refine ⟨Prod.ext hc.1 ?_, fun t ht h0 => ?_⟩
  ·show a.2.map (val (vD b1)) = f.2
   rw [← s1]
   exact List.map_congr_left fun t ht' => TV i1 (s2 t ht')
  ·obtain ⟨u, hu⟩ := Option.isSome_iff_exists.1 (s2 t ht h0)
   rw [i1 _ _ hu]
   rfl
 ·rw [if_neg hc] at hm
  cases hm
theorem a32 {b1 b2 : Bnd} (h : sV b1 = sV b2) {t : Int} (ht : aU t = true) (h1 : 0 ≤ t → (b1 t.toNat).isSome = true) (h2 : 0 ≤ t → (b2 t.toNat).isSome = true) : val (vD b1) t = val (vD b2) t := by
 unfold val
 cases hv : b8 t with
 | false => rfl
 | true =>
  have h0 := (nD ht).1 hv
  have hr := qQ ht
  obtain ⟨u, hu⟩ := Option.isSome_iff_exists.1 (h1 h0)
  obtain ⟨w, hw⟩ := Option.isSome_iff_exists.1 (h2 h0)
  have e : (sV b1).getD t.toNat 0 = (sV b2).getD t.toNat 0 := by rw [h]
  rw [TG b1 (by omega), TG b2 (by omega), hu, hw] at e
  simp only [if_true]
  unfold vD ba
  rw [hu, hw]
  exact e
theorem p9 {db : List aG} (hd : db.Pairwise fun a b => a ≠ b) : ∀ (body : List aG) (b : Bnd), (∀ a ∈ body, a.2.all aU = true) → ((c8 db body b).map sV).Pairwise fun x y => x ≠ y
 | [], b, _ => by simp [c8]
 | a :: r, b, ht => by
  have hta := ht a (by simp)
  have htr : ∀ c ∈ r, c.2.all aU = true := fun c hc => ht c (by simp [hc])
  rw [c8, List.map_flatMap, List.pairwise_flatMap]
  refine ⟨fun f hf => ?_, hd.imp fun {f g} hfg => ?_⟩
  ·split
   ·exact p9 hd r _ htr
   ·exact List.Pairwise.nil
  ·intro x hx y hy hxy
   split at hx
   ·rename_i hm1
    split at hy
    ·rename_i hm2
     obtain ⟨b1, hb1, rfl⟩ := List.mem_map.1 hx
     obtain ⟨b2, hb2, rfl⟩ := List.mem_map.1 hy
     obtain ⟨u1, u2⟩ := P4 hta htr hm1 hb1
     obtain ⟨w1, w2⟩ := P4 hta htr hm2 hb2
     apply hfg
     rw [← u1, ← w1]
     refine Prod.ext rfl ?_
     exact List.map_congr_left fun t ht => a32 hxy (List.all_eq_true.1 hta t ht) (u2 t ht) (w2 t ht)
    ·cases hy
   ·cases hx
def Asc (l : List (List Int)) : Prop := l.Pairwise fun a b => ltI b a = false
theorem W4 {l m : List (List Int)} (hl : Asc l) (hm : Asc m) (hp : l.Perm m) : l = m := by
 refine List.Perm.eq_of_pairwise (le := fun a b => ltI b a = false) (fun a b _ _ h1 h2 => ?_) hl hm hp
 rcases rM.tri a b with h | h | h
 ·rw [h2] at h; cases h
 ·exact h
 ·rw [h1] at h; cases h
theorem a3G {a b c : List Int} (h1 : ltI a b = true) (h2 : ltI c b = false) : ltI a c = true := by
 rcases rM.tri b c with h | h | h
 ·exact rM.tr _ _ _ h1 h
 ·rw [← h]; exact h1
 ·rw [h2] at h; cases h
theorem UN (out : List (List Int)) (v : List Int) : (l4 false out v).Perm (v :: out) := by
 unfold l4
 rw [if_neg (by simp)]
 refine List.perm_middle.trans ?_
 rw [List.take_append_drop]
theorem XB {out : List (List Int)} (hs : Asc out) (v : List Int) : Asc (l4 false out v) := by
 obtain ⟨h1, h2, h3⟩ := FN v out out.length (Nat.le_refl _)
 unfold l4
 rw [if_neg (by simp)]
 generalize kC v out out.length = k at *
 have hpw := List.pairwise_iff_getElem.1 hs
 have hlow : ∀ j (h : j < out.length), j < k → ltI v out[j] = false := by
  intro j h hj
  have hk1 : k - 1 < out.length := by omega
  have hg : out.getD (k - 1) [] = out[k - 1] := by rw [List.getD_eq_getElem?_getD, List.getElem?_eq_getElem hk1]; rfl
  have h4 := h3 (by omega)
  rw [hg] at h4
  cases hv : ltI v out[j] with
  | false => rfl
  | true =>
   by_cases e : j = k - 1
   ·subst e; rw [h4] at hv; cases hv
   ·have := a3G hv (hpw j (k - 1) h hk1 (by omega))
    rw [h4] at this; cases this
 refine List.pairwise_append.2 ⟨hs.sublist (List.take_sublist _ _), List.pairwise_cons.2 ⟨fun x hx => ?_, hs.sublist (List.drop_sublist _ _)⟩, fun x hx y hy => ?_⟩
 ·obtain ⟨j, hj, rfl⟩ := List.getElem_of_mem hx
  rw [List.length_drop] at hj
  rw [List.getElem_drop]
  exact rM.asym (h2 (k + j) (by omega) (by omega) (by omega))
 ·obtain ⟨j, hj, rfl⟩ := List.getElem_of_mem hx
  rw [List.length_take] at hj
  rw [List.getElem_take]
  rcases List.mem_cons.1 hy with rfl | hy
  ·exact hlow j (by omega) (by omega)
  ·obtain ⟨p, hp, rfl⟩ := List.getElem_of_mem hy
   rw [List.length_drop] at hp
   rw [List.getElem_drop]
   exact hpw j (k + p) (by omega) (by omega) (by omega)
theorem FW (l : List (List Int)) : Asc (lB false l) ∧ (lB false l).Perm l := by
 have : ∀ (l out : List (List Int)), Asc out → Asc (l.foldl (l4 false) out) ∧ (l.foldl (l4 false) out).Perm (l ++ out) := by
  intro l
  induction l with
  | nil => intro out h; exact ⟨h, List.Perm.refl _⟩
  | cons v l ih =>
   intro out h
   obtain ⟨i1, i2⟩ := ih _ (XB h v)
   refine ⟨i1, i2.trans ?_⟩
   exact ((UN out v).append_left l).trans List.perm_middle
 obtain ⟨h1, h2⟩ := this l [] List.Pairwise.nil
 rw [List.append_nil] at h2
 exact ⟨h1, h2⟩
theorem yR {α : Type} {lt : α → α → Bool} (h : Tot lt) {l : List α} (hs : fR lt l) : l.Pairwise fun a b => a ≠ b := hs.imp fun {a b} h1 e => by
 subst e
 rw [h.irr] at h1
 cases h1
theorem R4 {l : List (List Int)} (hl : l.Pairwise fun a b => a ≠ b) : (lB true l).Perm l := by
 obtain ⟨h1, h2⟩ := YS l
 exact (List.perm_ext_iff_of_nodup (yR rM h1) hl).2 h2
theorem zS {s : List Int} {db : List aG} (h : qA s db = true) : db.Pairwise fun a b => a ≠ b := by
 have hg : ∀ (db : List aG) (p : Option aG), C1 s p db = true → fR ltF db ∧ ∀ y, p = some y → ∀ f ∈ db, ltF y f = true := by
  intro db
  induction db with
  | nil => intro p _; exact ⟨List.Pairwise.nil, fun y _ f hf => by cases hf⟩
  | cons x r ih =>
   intro p h
   simp only [C1, Bool.and_eq_true] at h
   obtain ⟨⟨_, h2⟩, h3⟩ := h
   obtain ⟨i1, i2⟩ := ih (some x) h3
   refine ⟨List.pairwise_cons.2 ⟨i2 x rfl, i1⟩, fun y hy f hf => ?_⟩
   subst hy
   have h2' : ltF y x = true := h2
   rcases List.mem_cons.1 hf with rfl | hf
   ·exact h2'
   ·exact GB.tr _ _ _ h2' (i2 x rfl f hf)
 simp only [qA, Bool.and_eq_true] at h
 exact yR GB (hg db none h.1).1
theorem AA {s : List Int} {q : cI} {db : List aG} (hq : aH s q = true) (hd : qA s db = true) : (oH q db).Perm ((c8 db q.2 fF).map sV) := R4 (p9 (zS hd) q.2 fF (gP hq).2.1)
theorem PZ {s : List Int} {q : cI} {db : List aG} (hq : aH s q = true) (hd : qA s db = true) : ((oH q db).map fun v => q.1.map (tS v)).Perm (w6 q db) := by
 refine ((AA hq hd).map _).trans ?_
 unfold w6
 rw [List.map_map]
 exact List.Perm.of_eq (List.map_congr_left fun b hb => QY hq hb)
abbrev dV := List Int × Int
def nV (out : List dV) (t : List Int) : List dV :=
 match out.getLast? with
 | some p => if p.1 = t then out.dropLast ++ [(p.1, p.2 + 1)] else out ++ [(t, 1)]
 | none => [(t, 1)]
def vW (l : List (List Int)) : List dV := l.foldl nV []
theorem oN (out : List dV) (p : dV) (t : List Int) : nV (out ++ [p]) t = if p.1 = t then out ++ [(p.1, p.2 + 1)] else out ++ [p] ++ [(t, 1)] := by
 unfold nV
 rw [List.getLast?_concat]
 simp only [List.dropLast_concat]
def bZ (s : List Int) (q : cI) (db : List aG) : List dV := if aH s q && qA s db then vW (lB false ((oH q db).map fun v => q.1.map (tS v))) else []
def vA (l : List dV) : V := .tr 2 l.length (aB cL l)
theorem yP (x : dV) : ∀ c ∈ cL x, eU c = true := by
 intro c hc
 simp only [cL, List.mem_cons, List.not_mem_nil, or_false] at hc
 rcases hc with rfl | rfl <;> rfl
theorem CW {cs : List V} {L : List (List Int)} {k : Nat} (h : ∀ p, k ≤ p → ∀ h : p < L.length, cs[p]? = some (bE L[p])) : ∀ p, k + 1 ≤ p → ∀ h : p < L.length, (cs.set (0 + (k : Int).toNat * 1) .any)[p]? = some (bE L[p]) := by
 intro p hp hl
 rw [List.getElem?_set_ne (by simp; omega)]
 exact h p (by omega) hl
theorem OX (O : List dV) (p : dV) (n : Int) : e7 (aB cL (O ++ [p])) (0 + O.length * 2 + 1) [ci n] = aB cL (O ++ [(p.1, n)]) := by
 have h1 : ∀ (A : List V) (x y z : V), e7 (A ++ [x, y]) (A.length + 1) [z] = A ++ [x, z] := by
  intro A x y z
  induction A with
  | nil => rfl
  | cons a A ih => exact congrArg (a :: ·) ih
 have h2 : ∀ q : dV, aB cL (O ++ [q]) = aB cL O ++ [bE q.1, ci q.2] := fun q => (bQ cL O q).symm
 rw [h2, h2]
 have h3 := a6 d4 O
 have h4 : 0 + O.length * 2 + 1 = (aB cL O).length + 1 := by rw [h3]; omega
 rw [h4]
 exact h1 _ _ _ _
theorem S2 (l : List (List Int)) {k : Nat} (hk : k < l.length) : vW (l.take (k + 1)) = nV (vW (l.take k)) l[k] := by
 unfold vW
 rw [List.take_succ_eq_append_getElem hk, List.foldl_append]
 rfl
theorem DJ {out : List dV} {t : List Int} {p : dV} (h : p ∈ nV out t) : p ∈ out ∨ (∃ q ∈ out, p = (q.1, q.2 + 1)) ∨ p = (t, 1) := by
 rcases List.eq_nil_or_concat out with rfl | ⟨o, q, rfl⟩
 ·simp only [nV, List.getLast?_nil, List.mem_singleton] at h
  exact .inr (.inr h)
 ·rw [List.concat_eq_append, oN] at h
  rw [List.concat_eq_append]
  split at h
  ·rcases List.mem_append.1 h with h | h
   ·exact .inl (by simp [h])
   ·exact .inr (.inl ⟨q, by simp, List.mem_singleton.1 h⟩)
  ·rcases List.mem_append.1 h with h | h
   ·exact .inl h
   ·exact .inr (.inr (List.mem_singleton.1 h))
theorem GS (out : List dV) (t : List Int) : (nV out t).length ≤ out.length + 1 := by
 rcases List.eq_nil_or_concat out with rfl | ⟨o, q, rfl⟩
 ·simp [nV]
 ·rw [List.concat_eq_append, oN]
  split <;> simp
theorem S1 (B : Nat) : ∀ (l : List (List Int)) (out : List dV), (∀ p ∈ out, 0 ≤ p.2 ∧ p.2 ≤ B) → ((l.foldl nV out).length ≤ out.length + l.length ∧ ∀ p ∈ l.foldl nV out, 0 ≤ p.2 ∧ p.2 ≤ ((B + l.length : Nat) : Int) ∧ (p.1 ∈ l ∨ ∃ q ∈ out, p.1 = q.1))
 | [], out, h => ⟨by simp, fun p hp => ⟨(h p hp).1, by have := (h p hp).2; simpa using this, .inr ⟨p, hp, rfl⟩⟩⟩
 | t :: l, out, h => by
  have ih := S1 (B + 1) l (nV out t) fun p hp => by
   rcases DJ hp with h1 | ⟨q, h1, rfl⟩ | rfl
   ·have := h p h1; omega
   ·have := h q h1; show 0 ≤ q.2 + 1 ∧ q.2 + 1 ≤ _; omega
   ·show (0 : Int) ≤ 1 ∧ (1 : Int) ≤ _; omega
  have hl := GS out t
  rw [List.foldl_cons, List.length_cons]
  refine ⟨by omega, fun p hp => ?_⟩
  obtain ⟨h1, h2, h3⟩ := ih.2 p hp
  refine ⟨h1, by omega, ?_⟩
  rcases h3 with h3 | ⟨q, hq, h3⟩
  ·exact .inl (by simp [h3])
  ·rcases DJ hq with h4 | ⟨q', h4, rfl⟩ | rfl
   ·exact .inr ⟨q, h4, h3⟩
   ·exact .inr ⟨q', h4, h3⟩
   ·exact .inl (by simp [h3])
theorem CM (l : List (List Int)) : (vW l).length ≤ l.length ∧ ∀ p ∈ vW l, 0 ≤ p.2 ∧ p.2 ≤ (l.length : Int) ∧ p.1 ∈ l := by
 obtain ⟨h1, h2⟩ := S1 0 l [] fun p hp => by cases hp
 refine ⟨Nat.le_trans h1 (by simp), fun p hp => ?_⟩
 obtain ⟨h3, h4, h5⟩ := h2 p hp
 refine ⟨h3, by simpa using h4, ?_⟩
 rcases h5 with h5 | ⟨q, hq, _⟩
 ·exact h5
 ·cases hq
set_option maxHeartbeats 4000000 in
theorem d9 (s : List Int) (q : cI) (db : List aG) (hs : cT s ≤ 1048576) (hq : aC q ≤ 1048576) (hd : d6 db ≤ 1048576) : bI Tryz.prog 13 [aV s, aP q, c7 db] (vA (bZ s q db)) := by
 refine aF mx aJ Tryz.func13 rfl ?_
 conv => whnf
 refine ⟨List.range 8, by kernel_rfl, ?_⟩
 conv => whnf
 refine ⟨_, yQ s q db hs hq hd, .inl rfl, .inl ?_⟩
 rw [AS]
 conv => whnf
 have hq' := hq
 unfold aC at hq'
 unfold zB bZ
 generalize hb1 : (aH s q && qA s db) = b1
 cases b1 with
 | false =>
  refine ⟨_, NP q hq, .inl rfl, .inl ?_⟩
  rw [AS]
  conv => whnf
  refine ⟨_, oS [] false (by simp) (by simp), .inl rfl, .inr ?_⟩
  conv => whnf
  refine ⟨[(6,0),(7,0),(8,0),(9,0)], fun m s => s = ⟨63, [(6, cG), (7, .own 0 1 0 0 0 none), (8, .own 1 2 0 0 0 none), (9, ci 0)], [some ⟨false, []⟩, some ⟨false, []⟩]⟩, 0, by (show _ = _; kernel_rfl), ?_⟩
  rintro m s rfl
  conv => whnf
  exact ⟨rfl, rfl⟩
 | true =>
  simp only [Bool.and_eq_true] at hb1
  obtain ⟨t1, t2, t3⟩ := gP hb1.1
  obtain ⟨r1, r2⟩ := LE q db
  have hp := A9 (xO hb1.2) t3
  refine ⟨_, KE q (oH q db) hq (by omega) (fun v hv => by obtain ⟨b, _, rfl⟩ := r1 v hv; rfl) t1, .inl rfl, .inl ?_⟩
  rw [AS]
  conv => whnf
  refine ⟨_, oS ((oH q db).map fun v => q.1.map (tS v)) false (by rw [List.length_map]; omega) (fun v hv => by obtain ⟨x, _, rfl⟩ := List.mem_map.1 hv; rw [List.length_map]; omega), .inl rfl, .inr ?_⟩
  have hL1 := v6 false ((oH q db).map fun v => q.1.map (tS v))
  rw [List.length_map] at hL1
  have hL2 : ∀ x ∈ lB false ((oH q db).map fun v => q.1.map (tS v)), x.length ≤ 1048576 := fun x hx => by
   obtain ⟨v, _, rfl⟩ := List.mem_map.1 (uR hx)
   rw [List.length_map]
   omega
  generalize lB false ((oH q db).map fun v => q.1.map (tS v)) = L at hL1 hL2
  conv => whnf
  refine ⟨[(6,0),(7,0),(8,0),(9,0)], fun m s => ∃ (k : Nat) (e : Int) (O : List dV) (n : Nat) (r cs : List V), e = k ∧ m + k = L.length ∧ O = vW (L.take k) ∧ n = O.length ∧ r = aB cL O ∧ cs.length = L.length ∧ (∀ p, k ≤ p → ∀ h : p < L.length, cs[p]? = some (bE L[p])) ∧
   s = ⟨63, [(6, cG), (7, .own 0 1 0 L.length L.length none), (8, .own 1 2 0 n n none), (9, ci e)], [some ⟨false, cs⟩, some ⟨false, r⟩]⟩, L.length, ⟨0, 0, [], 0, [], aB tL L, rfl, rfl, rfl, rfl, rfl, by rw [a6 dN, Nat.mul_one], fun p _ h => eP (v := bE L[p]) (f := tL) dN (k := p) (d := 0) (by omega) h rfl, by kernel_rfl⟩, ?_⟩
  rintro m s ⟨k, _, O, n, _, cs, rfl, hm, hO, hn, rfl, hcl, hcs, rfl⟩
  have hbd := CM (L.take k)
  rw [← hO, List.length_take] at hbd
  conv => whnf
  split <;> rename_i h1
  all_goals simp only [decide_eq_true_eq, decide_eq_false_iff_not] at h1
  ·conv => whnf
   have hk : k < L.length := by omega
   have hnx := S2 L hk
   rw [← hO] at hnx
   have hLk := hL2 _ (List.getElem_mem hk)
   have hcell : cs[0 + (k : Int).toNat * 1]? = some (bE L[k]) := by
    have := hcs k (Nat.le_refl _) hk
    simpa using this
   refine ⟨[0, 1, 2, 3, 4, 5, 6, 7, 8, 9, 10, 11, 12, 13, 14], by kernel_rfl, ?_⟩
   conv => whnf
   rcases List.eq_nil_or_concat O with hO0 | ⟨O', p, hO1⟩
   ·subst hO0
    obtain rfl : n = 0 := hn
    conv => whnf
    refine ⟨by omega, ?_⟩
    conv => whnf
    refine ⟨_, s6 hcell, ?_⟩
    conv => whnf
    refine ⟨_, _, _, hcell, ?_⟩
    conv => whnf
    refine ⟨_, rfl, .inr ⟨yP (L[k], 1), ?_⟩⟩
    conv => whnf
    refine ⟨by omega, rfl, _, bQ cL [] (L[k], 1), ?_⟩
    conv => whnf
    exact ⟨m - 1, by omega, k + 1, _, [(L[k], 1)], 1, _, cs.set (0 + (k : Int).toNat * 1) .any, a8 (by omega) (by omega), by omega, hnx.symm, rfl, rfl, by rw [List.length_set, hcl], CW hcs, by kernel_rfl⟩
   ·rw [List.concat_eq_append] at hO1
    subst hO1
    rw [oN] at hnx
    have hn' : n = O'.length + 1 := by rw [hn]; simp
    rw [show decide ((n : Int) > 0) = true from decide_eq_true (by omega)]
    conv => whnf
    have hp1 := hbd.2 p (by simp)
    have hpm := hL2 _ (List.mem_of_mem_take hp1.2.2)
    rw [show IntKind.i64.wrap ((n : Int) - 1) = ((O'.length : Nat) : Int) from (a8 (by omega) (by omega)).trans (by omega)]
    have hbl := hbd.1
    have hnl : O'.length < (O' ++ [p]).length := by simp
    have hget : (O' ++ [p])[O'.length]'hnl = p := by simp
    refine ⟨by omega, ?_⟩
    conv => whnf
    refine ⟨_, b7 (f := cL) (k := O'.length) (d := 0) (m := 1) (xs := O' ++ [p]) (r := [bE p.1]) d4 (by show 0 + ((O'.length : Nat) : Int).toNat * 2 + 0 = _; omega) hnl (by omega) (by rw [hget]; rfl), ?_⟩
    conv => whnf
    refine ⟨by omega, ?_⟩
    conv => whnf
    refine ⟨_, s6 hcell, ?_⟩
    conv => whnf
    refine ⟨_, _, _, _, eP (v := bE p.1) (f := cL) d4 (k := O'.length) (d := 0) (by show 0 + ((O'.length : Nat) : Int).toNat * 2 + 0 = _; omega) hnl (by rw [hget]; rfl), cK _, ?_⟩
    conv => whnf
    refine ⟨_, _, _, _, hcell, cK _, ?_⟩
    conv => whnf
    refine ⟨_, kA p.1 L[k] (by omega) (by omega), .inr trivial, .inl ?_⟩
    generalize hq1 : decide (p.1 = L[k]) = q1
    cases q1 with
    | true =>
     conv => whnf
     rw [if_pos (of_decide_eq_true hq1)] at hnx
     rw [show IntKind.i64.wrap ((n : Int) - 1) = ((O'.length : Nat) : Int) from (a8 (by omega) (by omega)).trans (by omega)]
     refine ⟨by omega, ?_⟩
     conv => whnf
     refine ⟨_, b7 (f := cL) (k := O'.length) (d := 1) (m := 1) (xs := O' ++ [p]) (r := [ci p.2]) d4 (by show 0 + ((O'.length : Nat) : Int).toNat * 2 + 1 = _; omega) hnl (by omega) (by rw [hget]; rfl), ?_⟩
     conv => whnf
     rw [show IntKind.i64.wrap (p.2 + 1) = p.2 + 1 from a8 (by omega) (by omega)]
     refine ⟨by omega, ?_⟩
     conv => whnf
     refine ⟨_, b7 (f := cL) (k := O'.length) (d := 1) (m := 1) (xs := O' ++ [p]) (r := [ci p.2]) d4 (by show 0 + ((O'.length : Nat) : Int).toNat * 2 + 1 = _; omega) hnl (by omega) (by rw [hget]; rfl), _, OX O' p (p.2 + 1), ?_⟩
     conv => whnf
     exact ⟨m - 1, by omega, k + 1, _, O' ++ [(p.1, p.2 + 1)], n, _, cs, a8 (by omega) (by omega), by omega, hnx.symm, by rw [hn]; simp, rfl, hcl, (fun p hp h => hcs p (by omega) h), by kernel_rfl⟩
    | false =>
     conv => whnf
     rw [if_neg (of_decide_eq_false hq1)] at hnx
     refine ⟨by omega, ?_⟩
     conv => whnf
     refine ⟨_, s6 hcell, ?_⟩
     conv => whnf
     refine ⟨_, _, _, hcell, ?_⟩
     conv => whnf
     refine ⟨_, rfl, .inr ⟨yP (L[k], 1), ?_⟩⟩
     conv => whnf
     refine ⟨by omega, by rw [a6 d4, hn], _, bQ cL _ (L[k], 1), ?_⟩
     conv => whnf
     exact ⟨m - 1, by omega, k + 1, _, O' ++ [p] ++ [(L[k], 1)], n + 1, _, cs.set (0 + (k : Int).toNat * 1) .any, a8 (by omega) (by omega), by omega, hnx.symm, by rw [hn]; simp, rfl, by rw [List.length_set, hcl], CW hcs, by kernel_rfl⟩
  ·conv => whnf
   have hkk : k = L.length := by omega
   rw [hkk, List.take_length] at hO
   rw [hn, hO]
   exact ⟨by rw [a6 d4], rfl⟩
set_option maxHeartbeats 4000000 in
theorem JW (xs : List (List Int)) (hb : ∀ x ∈ xs, x.length ≤ 1048576) (hsz : xs.length ≤ 549755813888) :
  SpecG Tryz.prog 74 [.own 0 1 0 xs.length xs.length none] [some ⟨false, aB tL xs⟩] fun r g2 => ∃ (ys : List (List Int)) (cs : List V), ys.Perm xs ∧ ys.Pairwise (fun a b => ¬ iR b a < 0) ∧ r = .tr 2 (vW ys).length (aB cL (vW ys)) ∧ g2 = [some ⟨false, cs⟩] := by
 refine cU mx aJ 1 Tryz.func74 rfl rfl (by decide) ?_
 conv => whnf
 refine .inr (.inr ⟨[0], [], ?_⟩)
 conv => whnf
 refine ⟨_, FY xs (fun x hx => by have := hb x hx; omega) (by omega), fun r g2 hP => ?_⟩
 obtain ⟨rfl, L, hp, hs, rfl⟩ := hP
 have hl : xs.length = L.length := hp.length_eq.symm
 have hL2 : ∀ x ∈ L, x.length ≤ 1048576 := fun x hx => hb x (hp.mem_iff.1 hx)
 refine .inl ?_
 conv => whnf
 refine ⟨[(2,0),(3,0),(10,0),(11,0),(12,0)], fun m s => ∃ (k : Nat) (e : Int) (O : List dV) (n : Nat) (r cs : List V), e = k ∧ m + k = L.length ∧ O = vW (L.take k) ∧ n = O.length ∧ r = aB cL O ∧ cs.length = L.length ∧ (∀ p, k ≤ p → ∀ h : p < L.length, cs[p]? = some (bE L[p])) ∧
  s = ⟨46, [(2, cG), (3, .own 1 2 0 n n none), (10, .own 0 1 0 xs.length xs.length none), (11, ci xs.length), (12, ci e)], [some ⟨false, cs⟩, some ⟨false, r⟩]⟩, L.length, ⟨0, 0, [], 0, [], aB tL L, rfl, rfl, rfl, rfl, rfl, by rw [a6 dN, Nat.mul_one], fun p _ h => eP (v := bE L[p]) (f := tL) dN (k := p) (d := 0) (by omega) h rfl, by kernel_rfl⟩, ?_⟩
 rintro m s ⟨k, _, O, n, _, cs, rfl, hm, hO, hn, rfl, hcl, hcs, rfl⟩
 have hbd := CM (L.take k)
 rw [← hO, List.length_take] at hbd
 conv => whnf
 split <;> rename_i h1
 all_goals simp only [decide_eq_true_eq, decide_eq_false_iff_not] at h1
 ·conv => whnf
  have hk : k < L.length := by omega
  have hnx := S2 L hk
  rw [← hO] at hnx
  have hLk := hL2 _ (List.getElem_mem hk)
  have hcell : cs[0 + (k : Int).toNat * 1]? = some (bE L[k]) := by
   have := hcs k (Nat.le_refl _) hk
   simpa using this
  refine ⟨by omega, ?_⟩
  conv => whnf
  refine ⟨_, s6 hcell, ?_⟩
  conv => whnf
  rcases List.eq_nil_or_concat O with hO0 | ⟨O', p, hO1⟩
  ·subst hO0
   obtain rfl : n = 0 := hn
   conv => whnf
   refine ⟨_, _, _, hcell, ?_⟩
   conv => whnf
   refine ⟨_, rfl, .inr ⟨yP (L[k], 1), ?_⟩⟩
   conv => whnf
   refine ⟨by omega, rfl, _, bQ cL [] (L[k], 1), ?_⟩
   conv => whnf
   exact ⟨m - 1, by omega, k + 1, _, [(L[k], 1)], 1, _, cs.set (0 + (k : Int).toNat * 1) .any, a8 (by omega) (by omega), by omega, hnx.symm, rfl, rfl, by rw [List.length_set, hcl], CW hcs, by kernel_rfl⟩
  ·rw [List.concat_eq_append] at hO1
   subst hO1
   rw [oN] at hnx
   have hn' : n = O'.length + 1 := by rw [hn]; simp
   rw [show decide ((n : Int) > 0) = true from decide_eq_true (by omega)]
   conv => whnf
   have hp1 := hbd.2 p (by simp)
   have hpm := hL2 _ (List.mem_of_mem_take hp1.2.2)
   rw [show IntKind.i64.wrap ((n : Int) - 1) = ((O'.length : Nat) : Int) from (a8 (by omega) (by omega)).trans (by omega)]
   have hbl := hbd.1
   have hnl : O'.length < (O' ++ [p]).length := by simp
   have hget : (O' ++ [p])[O'.length]'hnl = p := by simp
   refine ⟨by omega, ?_⟩
   conv => whnf
   refine ⟨_, b7 (f := cL) (k := O'.length) (d := 0) (m := 1) (xs := O' ++ [p]) (r := [bE p.1]) d4 (by show 0 + ((O'.length : Nat) : Int).toNat * 2 + 0 = _; omega) hnl (by omega) (by rw [hget]; rfl), ?_⟩
   conv => whnf
   refine .inl ?_
   conv => whnf
   refine ⟨_, _, _, _, eP (v := bE p.1) (f := cL) d4 (k := O'.length) (d := 0) (by show 0 + ((O'.length : Nat) : Int).toNat * 2 + 0 = _; omega) hnl (by rw [hget]; rfl), cK _, ?_⟩
   conv => whnf
   refine ⟨_, _, _, _, hcell, cK _, ?_⟩
   conv => whnf
   refine ⟨_, jE p.1 L[k] (by omega) (by omega), .inr trivial, .inl ?_⟩
   generalize hq1 : decide (p.1 = L[k]) = q1
   cases q1 with
   | true =>
    conv => whnf
    rw [if_pos (of_decide_eq_true hq1)] at hnx
    rw [show IntKind.i64.wrap ((n : Int) - 1) = ((O'.length : Nat) : Int) from (a8 (by omega) (by omega)).trans (by omega)]
    refine ⟨by omega, ?_⟩
    conv => whnf
    refine ⟨_, b7 (f := cL) (k := O'.length) (d := 1) (m := 1) (xs := O' ++ [p]) (r := [ci p.2]) d4 (by show 0 + ((O'.length : Nat) : Int).toNat * 2 + 1 = _; omega) hnl (by omega) (by rw [hget]; rfl), ?_⟩
    conv => whnf
    rw [show IntKind.i64.wrap (p.2 + 1) = p.2 + 1 from a8 (by omega) (by omega)]
    refine ⟨by omega, ?_⟩
    conv => whnf
    refine ⟨_, b7 (f := cL) (k := O'.length) (d := 1) (m := 1) (xs := O' ++ [p]) (r := [ci p.2]) d4 (by show 0 + ((O'.length : Nat) : Int).toNat * 2 + 1 = _; omega) hnl (by omega) (by rw [hget]; rfl), _, OX O' p (p.2 + 1), ?_⟩
    conv => whnf
    exact ⟨m - 1, by omega, k + 1, _, O' ++ [(p.1, p.2 + 1)], n, _, cs, a8 (by omega) (by omega), by omega, hnx.symm, by rw [hn]; simp, rfl, hcl, (fun p hp h => hcs p (by omega) h), by kernel_rfl⟩
   | false =>
    conv => whnf
    rw [if_neg (of_decide_eq_false hq1)] at hnx
    refine ⟨_, _, _, hcell, ?_⟩
    conv => whnf
    refine ⟨_, rfl, .inr ⟨yP (L[k], 1), ?_⟩⟩
    conv => whnf
    refine ⟨by omega, by rw [a6 d4, hn], _, bQ cL _ (L[k], 1), ?_⟩
    conv => whnf
    exact ⟨m - 1, by omega, k + 1, _, O' ++ [p] ++ [(L[k], 1)], n + 1, _, cs.set (0 + (k : Int).toNat * 1) .any, a8 (by omega) (by omega), by omega, hnx.symm, by rw [hn]; simp, rfl, by rw [List.length_set, hcl], CW hcs, by kernel_rfl⟩
 ·conv => whnf
  have hkk : k = L.length := by omega
  rw [hkk, List.take_length] at hO
  refine ⟨[], ?_⟩
  conv => whnf
  refine ⟨by rw [a6 d4, hn], ?_⟩
  refine ⟨L, cs, hp, hs, ?_, rfl⟩
  rw [hn, ← hO]
theorem PN {s : List Int} {q : cI} {db : List aG} (hq : aH s q = true) (hd : qA s db = true) {ys : List (List Int)} (hp : ys.Perm (w6 q db)) (hs : ys.Pairwise fun a b => ¬ iR b a < 0) : vW ys = bZ s q db := by
 unfold bZ
 rw [hq, hd, Bool.and_self, if_pos rfl]
 congr 1
 have hA : Asc ys := hs.imp fun {a b} h => by
  cases hlt : ltI b a with
  | false => rfl
  | true => rw [r8] at hlt; exact absurd (of_decide_eq_true hlt) h
 obtain ⟨h1, h2⟩ := FW ((oH q db).map fun v => q.1.map (tS v))
 exact W4 hA h1 (hp.trans ((PZ hq hd).symm.trans h2.symm))
set_option maxHeartbeats 4000000 in
theorem l8 (s : List Int) (q : cI) (db : List aG) (hs : cT s ≤ 1048576) (hq : aC q ≤ 1048576) (hd : d6 db ≤ 1048576) : bI Tryz.prog 12 [aV s, aP q, c7 db] (vA (bZ s q db)) := by
 have hs' : s.length ≤ 1099511627776 := by unfold cT at hs; omega
 refine aF mx aJ Tryz.func12 rfl ?_
 conv => whnf
 refine ⟨_, dS s q hs hq, .inl rfl, .inl ?_⟩
 conv => whnf
 generalize hb1 : aH s q = b1
 cases b1 with
 | false =>
  conv => whnf
  unfold bZ
  rw [hb1]
  exact ⟨rfl, rfl⟩
 | true =>
  conv => whnf
  refine ⟨_, mR s db hs' hd, .inl rfl, .inl ?_⟩
  conv => whnf
  generalize hb2 : qA s db = b2
  cases b2 with
  | false =>
   conv => whnf
   unfold bZ
   rw [hb1, hb2]
   exact ⟨rfl, rfl⟩
  | true =>
   conv => whnf
   obtain ⟨t1, t2, t3⟩ := gP hb1
   have hp := A9 (xO hb2) t3
   have hl := iG db q.2 fF
   refine ⟨_, Q0 q db hq hd t2 (by omega), .inl rfl, .inr ?_⟩
   conv => whnf
   refine .inr (.inr ⟨[2], [], ?_⟩)
   conv => whnf
   have hq' := hq
   unfold aC at hq'
   refine ⟨_, JW (w6 q db) (fun x hx => by
    obtain ⟨b, _, rfl⟩ := List.mem_map.1 hx
    rw [qR, List.length_map]; omega) (by rw [w6, List.length_map]; omega), fun r g2 hP => ?_⟩
   obtain ⟨ys, cs, h1, h2, rfl, rfl⟩ := hP
   rw [PN hb1 hb2 h1 h2]
   refine .inr ?_
   conv => whnf
   exact ⟨by rw [a6 d4], rfl⟩
end Go.Proofs.YtboolngaahifdaaGreatD
