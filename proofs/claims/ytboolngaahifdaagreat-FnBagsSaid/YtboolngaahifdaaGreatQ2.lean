/- Contracts and plain laws of this seat; no condition. -/
import Derived.Test.YtboolngaahifdaaGreatQ1
import Derived.Laws.Append
set_option linter.unusedVariables false
set_option linter.unusedSimpArgs false
namespace Go.Proofs.YtboolngaahifdaaGreatD
open Go
section
variable {P : Program} {Γ : Tab} {C : Ctx} {E : Env} {s : St} {a : Act} {o : Oper} {K : V → St → Prop}
def gX (i : Nat) (p : List Nat) : Option (List Nat) → Option (List Nat)
 | some (h :: r) => if h = i then some (p ++ r) else some (h :: r)
 | x => x
def Env.mv (E : Env) (i : Nat) (p : List Nat) : Env :=
 {E with o := fun b => gX i p (E.o b), g := fun j => if j = i then none else E.g j, okb := fun b => gX i p (E.o b) = none }
theorem FH {i : Nat} {p : List Nat} {x : Option (List Nat)} : gX i p x = none ↔ x = none := by
 unfold gX
 split
 ·split <;> simp
 ·rfl
theorem p3 {i : Nat} {p r : List Nat} {j : Nat} (h : j ≠ i) : gX i p (some (j :: r)) = some (j :: r) := by simp [gX, h]
theorem oV (hR : Rel C E s a) (i : Nat) (p : List Nat) : Mono E (E.mv i p) := by
 refine ⟨Nat.le_refl _, fun b _ hok => ⟨?_, rfl⟩, Nat.le_refl _, fun j hj hl => ?_, fun j k hj ht => ?_⟩
 ·show gX i p (E.o b) = none
  rw [hR.okb] at hok
  exact FH.2 hok
 ·have hji : j ≠ i := by
   intro h
   simp [Env.mv, h] at hl
  refine ⟨by simpa [Env.mv, hji] using hl, rfl, fun ho => ?_, fun c e h => ⟨c, h, rfl⟩⟩
  show gX i p (E.o (E.ρ j).1) = some [j]
  rw [ho, p3 hji]
 ·obtain ⟨cs, sz, n, r, hg, hk⟩ := ht
  have hji : j ≠ i := by
   intro h
   simp [Env.mv, h] at hg
  exact ⟨⟨cs, sz, n, r, by simpa [Env.mv, hji] using hg, hk⟩, rfl⟩
theorem uT {i j : Nat} {p q : List Nat} (h : j ≠ i) : Kept E (E.mv i p) (j :: q) := fun b r hb => by
 refine ⟨?_, rfl⟩
 show gX i p (E.o b) = _
 rw [hb]
 exact p3 h
theorem o5 (i : Nat) (p : List Nat) : Moved E (E.mv i p) [i] p := fun b r hb => by
 refine ⟨?_, rfl⟩
 show gX i p (E.o b) = _
 rw [hb]
 simp [gX]
theorem lO {i : Nat} {ob0 : Obj} (hi : s.ob i = some ob0) (j : Nat) : (s.put i none).ob j = if j = i then none else s.ob j := by
 have hlt : i < s.g.length := eK hi
 simp only [St.ob, St.put, i7]
 by_cases hj : j = i
 ·rw [if_pos ⟨hj, hlt⟩, if_pos hj]
 ·rw [if_neg (fun h => hj h.1), if_neg hj]
theorem FF (hR : Rel C E s a) {i : Nat} {ob0 : Obj} (hi : s.ob i = some ob0) (p : List Nat) : Rel C (E.mv i p) (s.put i none) a := by
 have hm := oV hR i p
 refine ⟨hR.size, hR.nd, fun k => (hR.slot k).slot hm, ?_, ?_, fun j x hx => ?_, rfl, fun b q hq => ?_, hR.fr, fun b hb hl => ?_, hR.pin.mono hm⟩
 ·funext j
  rw [lO hi]
  simp only [Env.mv, hR.g]
 ·simp [Env.mv, St.put, dB, hR.n]
 ·rw [lO hi] at hx
  by_cases hji : j = i
  ·rw [if_pos hji] at hx; cases hx
  ·rw [if_neg hji] at hx
   exact ObR.mono hm rfl (uT hji) (hR.ob j x hx)
 ·have : E.o b ≠ none := by
   intro h
   simp only [Env.mv, h, gX] at hq
   cases hq
  cases h : E.o b with
  | none => exact absurd h this
  | some q' =>
   obtain ⟨h1, h2⟩ := hR.lab b q' h
   refine ⟨h1, ?_⟩
   rcases h2 with rfl | h2
   ·left
    simp only [Env.mv, h, gX, Option.some.injEq] at hq
    exact hq.symm
   ·exact .inr h2
 ·have h := hR.old b hb hl
  show gX i p (E.o b) = _
  rw [h]
  cases ho : C.o0 b with
  | none => rfl
  | some q => rw [C.dull b q hl ho]; rfl
theorem J6 (hR : Rel C E s a) {i sz n lo : Nat} {hi : Option Nat} {cs : List V} {x : Value} (hob : s.ob i = some ⟨false, cs⟩) (hl : cs.length = n * sz) (h : Rv E .none (.own i sz 0 n lo hi) x) (p : List Nat) : Rv (E.mv i p).bare (.at p) (.tr sz n cs) x := by
 obtain ⟨hin, A, cap, rfl, hnc, hlv⟩ := h
 obtain ⟨hc, hlo, hhi, hr⟩ := hlv (dA hR hob)
 refine ⟨A, cap, rfl, hc, hl, ?_⟩
 rcases hr with hr | ⟨c, e, hA, ho, hh, hs⟩
 ·exact .inl hr
 ·refine .inr ⟨(E.ρ i).1, (E.ρ i).2, p, c, e, by simpa using hA, rfl, ?_, hh, by simpa using hs, ?_⟩
  ·have := (o5 (E := E) i p (E.ρ i).1 [] (by simpa using ho)).1
   show (E.mv i p).o (E.ρ i).1 = _
   simpa using this
  ·rcases hR.ob i _ hob with h0 | ⟨c', e', hh', hl', hrow⟩
   ·rw [h0]; trivial
   ·exact Rrow.move (oV hR i p).bare (o5 i p) rfl hrow
def gU (i j : Nat) (p : List Nat) : Option (List Nat) → Option (List Nat)
 | some (h :: k :: r) => if h = i ∧ k = j then some (p ++ r) else some (h :: k :: r)
 | x => x
def Env.mvs (E : Env) (i j : Nat) (p : List Nat) (ob : Obj) : Env :=
 {E with o := fun b => gU i j p (E.o b), g := fun l => if l = i then some ob else E.g l, okb := fun b => gU i j p (E.o b) = none }
theorem OO {i j : Nat} {p : List Nat} {x : Option (List Nat)} : gU i j p x = none ↔ x = none := by
 unfold gU
 split
 ·split <;> simp
 ·rfl
theorem LJ {i j k : Nat} {p r : List Nat} (h : k ≠ i) : gU i j p (some (k :: r)) = some (k :: r) := by
 cases r <;> simp [gU, h]
theorem ON {i j k : Nat} {p r : List Nat} (h : k ≠ j) : gU i j p (some (i :: k :: r)) = some (i :: k :: r) := by simp [gU, h]
theorem a2E {i j k : Nat} {p : List Nat} {cs : List V} (hob : s.ob i = some ⟨false, cs⟩) (hg : E.g = s.ob) {l : Nat} (ht : hZ (E.mvs i j p ⟨false, cs.set j .any⟩).g l k) : hZ E.g l k ∧ (l = i → k ≠ j) := by
 obtain ⟨cs', sz, n, r, hg', hk⟩ := ht
 by_cases hl : l = i
 ·subst hl
  simp only [Env.mvs, if_true, Option.some.injEq, Go.Proofs.YtboolngaahifdaaGreatD.Obj.mk.injEq, true_and] at hg'
  subst hg'
  rw [List.getElem?_set] at hk
  by_cases hjk : j = k
  ·subst hjk
   rw [if_pos rfl] at hk
   split at hk <;> simp at hk
  ·rw [if_neg hjk] at hk
   exact ⟨⟨cs, sz, n, r, by rw [hg]; exact hob, hk⟩, fun _ h => hjk h.symm⟩
 ·simp only [Env.mvs, if_neg hl] at hg'
  exact ⟨⟨cs', sz, n, r, hg', hk⟩, fun h => absurd h hl⟩
theorem EV (hR : Rel C E s a) {i j : Nat} {cs : List V} (hob : s.ob i = some ⟨false, cs⟩) (p : List Nat) : Mono E (E.mvs i j p ⟨false, cs.set j .any⟩) := by
 refine ⟨Nat.le_refl _, fun b _ hok => ⟨?_, rfl⟩, Nat.le_refl _, fun l hl hs => ?_, fun l k hl ht => ⟨(a2E hob hR.g ht).1, rfl⟩⟩
 ·show gU i j p (E.o b) = none
  rw [hR.okb] at hok
  exact OO.2 hok
 ·refine ⟨?_, rfl, fun ho => ?_, fun c e h => ⟨c, h, rfl⟩⟩
  ·by_cases hli : l = i
   ·subst hli; exact dA hR hob
   ·simpa [Env.mvs, hli] using hs
  ·show gU i j p (E.o (E.ρ l).1) = some [l]
   rw [ho]
   rfl
theorem NY {i j k : Nat} {p q : List Nat} {ob : Obj} (h : k ≠ i) : Kept E (E.mvs i j p ob) (k :: q) := fun b r hb => by
 refine ⟨?_, rfl⟩
 show gU i j p (E.o b) = _
 rw [hb]
 exact LJ h
theorem HB {i j k : Nat} {p q : List Nat} {ob : Obj} (h : k ≠ j) : Kept E (E.mvs i j p ob) (i :: k :: q) := fun b r hb => by
 refine ⟨?_, rfl⟩
 show gU i j p (E.o b) = _
 rw [hb]
 exact ON h
theorem UZ (i j : Nat) (p : List Nat) (ob : Obj) : Moved E (E.mvs i j p ob) [i, j] p := fun b r hb => by
 refine ⟨?_, rfl⟩
 show gU i j p (E.o b) = _
 rw [hb]
 simp [gU]
theorem a0P (hR : Rel C E s a) {i j : Nat} {cs : List V} (hob : s.ob i = some ⟨false, cs⟩) (p : List Nat) : Rel C (E.mvs i j p ⟨false, cs.set j .any⟩) (s.put i (some ⟨false, cs.set j .any⟩)) a := by
 have hm := EV (j := j) hR hob p
 refine ⟨hR.size, hR.nd, fun k => (hR.slot k).slot hm, ?_, ?_, fun l x hx => ?_, rfl, fun b q hq => ?_, hR.fr, fun b hb hl => ?_, hR.pin.mono hm⟩
 ·funext l
  rw [lP hob]
  simp only [Env.mvs, hR.g]
 ·simp [Env.mvs, St.put, dB, hR.n]
 ·rw [lP hob] at hx
  by_cases hli : l = i
  ·rw [if_pos hli] at hx
   cases hx
   subst hli
   rcases hR.ob l _ hob with h0 | ⟨c, e, hh, hlab, hrow⟩
   ·left; rw [h0]; rfl
   ·refine .inr ⟨c, e, hh, ?_, cD fun k v hk => ?_⟩
    ·show gU l j p (E.o (E.ρ l).1) = _
     rw [hlab]
     rfl
    ·rw [List.getElem?_set] at hk
     by_cases hjk : j = k
     ·subst hjk
      rw [if_pos rfl] at hk
      split at hk
      ·cases hk
       rename_i hlt
       obtain ⟨u, hu, _⟩ := bR hrow j _ (List.getElem?_eq_getElem hlt)
       exact ⟨u, hu, trivial⟩
      ·cases hk
     ·rw [if_neg hjk] at hk
      obtain ⟨u, hu, hru⟩ := bR hrow k v hk
      refine ⟨u, hu, Rv.mono hm.bare (fun q hq b r hb => ?_) (fun q j hq _ => by cases hq) hru⟩
      cases hq
      exact HB (E := E) (ob := ⟨false, cs.set j .any⟩) (q := []) (show 0 + k ≠ j by omega) b r hb
  ·rw [if_neg hli] at hx
   exact ObR.mono hm rfl (NY hli) (hR.ob l x hx)
 ·have hne : E.o b ≠ none := by
   intro h
   simp only [Env.mvs, h, gU] at hq
   cases hq
  cases h : E.o b with
  | none => exact absurd h hne
  | some q' =>
   obtain ⟨h1, h2⟩ := hR.lab b q' h
   refine ⟨h1, ?_⟩
   rcases h2 with rfl | h2
   ·left
    simp only [Env.mvs, h, gU, Option.some.injEq] at hq
    exact hq.symm
   ·exact .inr h2
 ·have h := hR.old b hb hl
  show gU i j p (E.o b) = _
  rw [h]
  cases ho : C.o0 b with
  | none => rfl
  | some q => rw [C.dull b q hl ho]; rfl
theorem VP (hR : Rel C E s a) {i j sz n : Nat} {cs r : List V} {x : Value} (hob : s.ob i = some ⟨false, cs⟩) (hj : cs[j]? = some (.tr sz n r)) (h : Rv E .none (.sub i j) x) (p : List Nat) : Rv (E.mvs i j p ⟨false, cs.set j .any⟩).bare (.at p) (.tr sz n r) x := by
 have hcell := h.2.2 (n8 hR hob hj)
 rcases hR.ob i _ hob with h0 | ⟨c, e, hh, hlab, hrow⟩
 ·rw [h0] at hj; simp at hj
 ·obtain ⟨u, hu, hru⟩ := bR hrow j _ hj
  have hu' : E.w.cell? ⟨(E.ρ i).1, (E.ρ i).2 + j, none⟩ = some u := hu
  rw [hcell] at hu'
  cases hu'
  have hru' : Rv E.bare (.at [i, j]) (.tr sz n r) x := by simpa [Md.child] using hru
  exact Rv.move (EV (j := j) hR hob p).bare (UZ (E := E) i j p ⟨false, cs.set j .any⟩) hru'
theorem RC {E : Env} {m : Md} (sz : Nat) : Rv E m (.tr sz 0 []) (.slice none 0 0) := ⟨none, 0, rfl, Nat.le_refl _, by simp, .inl rfl⟩
theorem jM (s : St) (i : Nat) (o : Option Obj) : (s.put i o).g.length = s.g.length := by simp [St.put, dB]
theorem a00 {v : V} {K : V → St → Prop} {x : Value} {kid j : Nat} (hR : Rel C E s a) (hk : s.g.length ≤ kid) (h : l9 s v K) (hv : Rv E .none v x) :
  ∃ E' v' s', K v' s' ∧ Rel C E' s' a ∧ E'.w = E.w ∧ E'.ρ = E.ρ ∧ Mono E E' ∧ s'.g.length = s.g.length ∧ (∀ q, Kept E E' (kid :: q)) ∧ Rv E'.bare (.at [kid, j]) v' x := by
 have here : ∀ v, fT v = true → Rv E .none v x → K v s → ∃ E' v' s', K v' s' ∧ Rel C E' s' a ∧ E'.w = E.w ∧ E'.ρ = E.ρ ∧ Mono E E' ∧ s'.g.length = s.g.length ∧ (∀ q, Kept E E' (kid :: q)) ∧ Rv E'.bare (.at [kid, j]) v' x :=
  fun v hf hv hK => ⟨E, v, s, hK, hR, rfl, rfl, eO E, rfl, fun q => lH E _, k8 hf hv⟩
 cases v <;> simp only [l9] at h
 case sc v =>
  rcases lI h with h | ⟨rfl, sz, h⟩
  ·exact here _ rfl hv h
  ·exact ⟨E, .tr sz 0 [], s, h, hR, rfl, rfl, eO E, rfl, fun q => lH E _, by rw [hv.1]; exact RC sz⟩
 case ro n cs => exact here _ rfl hv h
 case own i sz off n lo hi =>
  cases off with
  | succ off => simp only [l9] at h
  | zero =>
  simp only [l9] at h
  cases hob : s.ob i with
  | none => rw [hob] at h; exact h.elim
  | some ob =>
  obtain ⟨bx, cs⟩ := ob
  cases bx with
  | true => rw [hob] at h; exact h.elim
  | false =>
  rw [hob] at h
  obtain ⟨hl, hK⟩ := h
  have hne : kid ≠ i := by have := eK (g := s.g) hob; omega
  exact ⟨E.mv i [kid, j], _, _, hK, FF hR hob _, rfl, rfl, oV hR _ _, jM _ _ _, fun q => uT hne, J6 hR hob hl hv _⟩
 case sub i l =>
  cases hob : s.ob i with
  | none => rw [hob] at h; exact h.elim
  | some ob =>
  obtain ⟨bx, cs⟩ := ob
  cases bx with
  | true => rw [hob] at h; exact h.elim
  | false =>
  rw [hob] at h
  obtain ⟨sz, n, r, hj, hK⟩ := h
  have hne : kid ≠ i := by have := eK (g := s.g) hob; omega
  exact ⟨E.mvs i l [kid, j] ⟨false, cs.set l .any⟩, _, _, hK, a0P hR hob _, rfl, rfl, EV hR hob _, jM _ _ _, fun q => NY hne, VP hR hob hj hv _⟩
theorem EI : ∀ {vs : List V} {E : Env} {s : St} {K : List V → St → Prop} {xs : List Value} {kid j : Nat}, Rel C E s a → s.g.length ≤ kid → jT s vs K → Rvs E .none vs xs →
  ∃ E' vs' s', K vs' s' ∧ Rel C E' s' a ∧ E'.w = E.w ∧ E'.ρ = E.ρ ∧ Mono E E' ∧ s'.g.length = s.g.length ∧ (∀ q, Kept E E' (kid :: q)) ∧ vs'.length = xs.length ∧ ∀ k v, vs'[k]? = some v → ∃ z, xs[k]? = some z ∧ Rv E'.bare (.at [kid, j + k]) v z
 | [], E, s, K, [], kid, j, hR, hk, h, hv => ⟨E, [], s, h, hR, rfl, rfl, eO E, rfl, fun q => lH E _, rfl, fun k v h => by simp at h⟩
 | v :: vs, E, s, K, x :: xs, kid, j, hR, hk, h, hv => by
  obtain ⟨E1, v1, s1, h1, hR1, hw1, hρ1, hm1, hl1, hK1, hr1⟩ := a00 (j := j) hR hk h hv.1
  have hv2 : Rvs E1 .none vs xs := Rvs.mono hm1 (eM _ _) (i6 _ _) hv.2
  obtain ⟨E2, vs2, s2, h2, hR2, hw2, hρ2, hm2, hl2, hK2, hn2, hr2⟩ := EI (kid := kid) (j := j + 1) hR1 (by rw [hl1]; exact hk) h1 hv2
  refine ⟨E2, v1 :: vs2, s2, h2, hR2, hw2.trans hw1, hρ2.trans hρ1, ⟨by rw [hw2, hw1]; exact Nat.le_refl _, fun b hb hok => ?_, Nat.le_trans hm1.n hm2.n, fun i hi hl => ?_, fun i k hi ht => ?_⟩, hl2.trans hl1, fun q b r hb => ?_, by simp [hn2], fun k u hk => ?_⟩
  ·obtain ⟨a1, a2⟩ := hm1.free b hb hok
   obtain ⟨b1, b2⟩ := hm2.free b (by rw [hw1]; exact hb) a1
   exact ⟨b1, b2.trans a2⟩
  ·obtain ⟨a1, a2, a3, a4⟩ := hm2.ref i (Nat.lt_of_lt_of_le hi hm1.n) hl
   obtain ⟨b1, b2, b3, b4⟩ := hm1.ref i hi a1
   rw [b2] at a2 a3 a4
   exact ⟨b1, a2, fun ho => a3 (b3 ho), fun c e hc => by obtain ⟨c', h1', h2'⟩ := b4 c e hc; obtain ⟨c'', h3', h4'⟩ := a4 c' e h1'; exact ⟨c'', h3', h4'.trans h2'⟩⟩
  ·obtain ⟨a1, a2⟩ := hm2.sub i k (Nat.lt_of_lt_of_le hi hm1.n) ht
   obtain ⟨b1, b2⟩ := hm1.sub i k hi a1
   refine ⟨b1, ?_⟩
   rw [hρ1] at a2
   rw [hw2, hw1]
  ·obtain ⟨a1, a2⟩ := hK1 q b r hb
   obtain ⟨b1, b2⟩ := hK2 q b r a1
   exact ⟨b1, b2.trans a2⟩
  ·cases k with
   | zero =>
    simp at hk
    subst hk
    exact ⟨x, rfl, Rv.mono hm2.bare (fun q hq => by cases hq; exact hK2 [j]) (fun q j' hq _ => by cases hq) hr1⟩
   | succ k =>
    obtain ⟨z, hz, hr⟩ := hr2 k u (by simpa using hk)
    exact ⟨z, by simpa using hz, by rw [show j + (k + 1) = j + 1 + k from by omega]; exact hr⟩
 | [], _, _, _, _ :: _, _, _, _, _, _, hv => hv.elim
 | _ :: _, _, _, _, [], _, _, _, _, _, hv => hv.elim
theorem JI {E : Env} : ∀ {cs : List V} {xs : List Value}, cs.length = xs.length → (∀ (k : Nat) (c : V), cs[k]? = some c → ∃ x, xs[k]? = some x ∧ Rv E .none c x) → Rvs E .none cs xs
 | [], [], _, _ => trivial
 | c :: cs, x :: xs, hl, h => by
  obtain ⟨x', hx, hr⟩ := h 0 c rfl
  simp at hx
  subst hx
  refine ⟨hr, JI (by simpa using hl) fun k c' hk => ?_⟩
  obtain ⟨y, hy, hr'⟩ := h (k + 1) c' (by simpa using hk)
  exact ⟨y, by simpa using hy, hr'⟩
 | [], _ :: _, hl, _ => by simp at hl
 | _ :: _, [], hl, _ => by simp at hl
theorem I3 (off : Nat) : ∀ (ys : List Value) (c : Array Value) (j : Nat), ((ys.zipIdx j).foldl (fun cs (p : Value × Nat) => cs.setIfInBounds (off + p.2) p.1) c).size = c.size ∧ ∀ k, ((ys.zipIdx j).foldl (fun cs (p : Value × Nat) => cs.setIfInBounds (off + p.2) p.1) c)[k]? = if off + j ≤ k ∧ k < off + j + ys.length ∧ k < c.size then ys[k - (off + j)]? else c[k]?
 | [], c, j => ⟨rfl, fun k => by rw [if_neg (by simp only [List.length_nil]; omega)]; rfl⟩
 | y :: ys, c, j => by
  obtain ⟨h1, h2⟩ := I3 off ys (c.setIfInBounds (off + j) y) (j + 1)
  simp only [List.zipIdx_cons, List.foldl_cons]
  refine ⟨by rw [h1]; simp, fun k => ?_⟩
  rw [h2, Array.size_setIfInBounds, Array.getElem?_setIfInBounds]
  by_cases ha : off + (j + 1) ≤ k ∧ k < off + (j + 1) + ys.length ∧ k < c.size
  ·rw [if_pos ha, if_pos ⟨by omega, by simp; omega, ha.2.2⟩]
   obtain ⟨d, rfl⟩ : ∃ d, k = off + j + 1 + d := ⟨k - (off + j + 1), by omega⟩
   rw [show off + j + 1 + d - (off + (j + 1)) = d from by omega, show off + j + 1 + d - (off + j) = d + 1 from by omega, List.getElem?_cons_succ]
  ·rw [if_neg ha]
   by_cases hk : off + j = k
   ·subst hk
    by_cases hs : off + j < c.size
    ·rw [if_pos rfl, if_pos hs, if_pos ⟨Nat.le_refl _, by simp, hs⟩]
     simp
    ·rw [if_pos rfl, if_neg hs, if_neg (fun h => hs h.2.2)]
     simp [hs]
   ·rw [if_neg hk, if_neg (by simp; omega)]
theorem CP (hR : Rel C E s a) {place : Nat → Option (Nat × Nat)} : ∀ {parts : List (Nat × Operand)} {cells : List V} {c : Array Value} {cs : List V}, Rvs E .none cells c.toList → mO s place cells (lL s parts) = some cs →
  ∃ c', Instr.fill place c (parts.map fun p => (p.1, a.eval p.2)) = some c' ∧ Rvs E .none cs c'.toList
 | [], cells, c, cs, hc, h => by
  simp only [lL, mO, Option.some.injEq] at h
  subst h
  exact ⟨c, rfl, hc⟩
 | (i, x) :: parts, cells, c, cs, hc, h => by
  simp only [lL, mO] at h
  cases hp : place i with
  | none => rw [hp] at h; cases h
  | some os =>
  obtain ⟨off, sz⟩ := os
  rw [hp] at h
  cases hv : kL s (ev s x) with
  | none => rw [hv] at h; cases h
  | some vs =>
  rw [hv] at h
  simp only at h
  cases hb : (Nat.beq vs.length sz && Nat.ble (off + vs.length) cells.length) with
  | false => rw [hb] at h; cases h
  | true =>
  rw [hb] at h
  simp only [cond_true] at h
  simp only [Bool.and_eq_true] at hb
  have hsz : vs.length = sz := Nat.eq_of_beq_eq_true hb.1
  have hle : off + vs.length ≤ cells.length := Nat.le_of_ble_eq_true hb.2
  have hxv := nG hR hv (cN hR x)
  have hxl := gF hxv
  have hcl := gF hc
  simp only [Array.length_toList] at hxl hcl
  have hset : Rvs E .none (e7 cells off vs) ((a.eval x).cells.zipIdx.foldl (fun cs (p : Value × Nat) => cs.setIfInBounds (off + p.2) p.1) c).toList := by
   obtain ⟨f1, f2⟩ := I3 off (a.eval x).cells.toList c 0
   have heq : (a.eval x).cells.zipIdx.foldl (fun cs (p : Value × Nat) => cs.setIfInBounds (off + p.2) p.1) c = ((a.eval x).cells.toList.zipIdx 0).foldl (fun cs (p : Value × Nat) => cs.setIfInBounds (off + p.2) p.1) c := by
    rw [← Array.foldl_toList]
    simp
   rw [heq]
   refine JI ((yN hle).trans (hcl.trans (f1.symm.trans Array.length_toList.symm))) fun k v hk => ?_
   rw [iB hle] at hk
   rw [Array.getElem?_toList, f2]
   by_cases hin : off ≤ k ∧ k < off + vs.length
   ·rw [if_pos hin] at hk
    obtain ⟨z, hz, hr⟩ := gE hxv _ v hk
    exact ⟨z, by rw [if_pos ⟨by omega, by simp; omega, by omega⟩]; simpa using hz, hr⟩
   ·rw [if_neg hin] at hk
    obtain ⟨z, hz, hr⟩ := gE hc _ v hk
    exact ⟨z, by rw [if_neg (by simp; omega)]; simpa using hz, hr⟩
  obtain ⟨c', hc', hr'⟩ := CP hR hset h
  refine ⟨c', ?_, hr'⟩
  simp only [List.map_cons, Instr.fill, hp]
  have e1 : (a.eval x).cells.size = sz := by omega
  have e2 : ¬ (off + sz > c.size) := by omega
  rw [if_neg (by simp only [e1, ne_eq, not_true_eq_false, decide_false, Bool.false_or, decide_eq_true_eq]; exact e2)]
  exact hc'
end
end Go.Proofs.YtboolngaahifdaaGreatD
namespace Go.Proofs.YtboolngaahifdaaGreatD
open Go
structure MonoX (X : bM) (E E' : Env) : Prop where
 sz : E.w.heap.size ≤ E'.w.heap.size
 free : ∀ b, b < E.w.heap.size → E.okb b → E'.okb b ∧ E'.w.heap[b]? = E.w.heap[b]?
 n : E.n ≤ E'.n
 ref : ∀ i, i < E.n → (E'.g i).isSome = true → (E.g i).isSome = true ∧ E'.ρ i = E.ρ i ∧ (E.o (E.ρ i).1 = some [i] → E'.o (E.ρ i).1 = some [i] ∨ ∀ j, (E'.g j).isSome = true → (E.ρ j).1 = (E.ρ i).1 → j ≠ i) ∧
  ∀ c e, E.w.heap[(E.ρ i).1]? = some (.cells c e (0, 0)) → ∃ c', E'.w.heap[(E.ρ i).1]? = some (.cells c' e (0, 0)) ∧ c'.size = c.size
 sub : ∀ i j, gG X i = true → i < E.n → hZ E'.g i j → hZ E.g i j ∧ E'.w.cell? ⟨(E.ρ i).1, (E.ρ i).2 + j, none⟩ = E.w.cell? ⟨(E.ρ i).1, (E.ρ i).2 + j, none⟩
theorem MonoX.bare {X : bM} {E E' : Env} (h : MonoX X E E') : Mono E.bare E'.bare := ⟨h.sz, h.free, Nat.le_refl _, fun _ h _ => absurd h (Nat.not_lt_zero _), fun _ _ h _ => absurd h (Nat.not_lt_zero _)⟩
theorem MonoX.lab {X : bM} {E E' : Env} (h : MonoX X E E') {i : Nat} (hi : i < E.n) (hs : (E'.g i).isSome = true) (ho : E.o (E.ρ i).1 = some [i]) : E'.o (E.ρ i).1 = some [i] := by
 obtain ⟨_, _, h3, _⟩ := h.ref i hi hs
 rcases h3 ho with h4 | h4
 ·exact h4
 ·exact absurd rfl (h4 i hs rfl)
mutual
theorem Rv.monoX : ∀ {X : bM} {E E' : Env} (hm : MonoX X E E') {v : V} {x : Value}, kB X v = true → Rv E .none v x → Rv E' .none v x
 | X, E, E', hm, .sc v, x, _, h => h
 | X, E, E', hm, .ro n cs, x, _, h => by
  obtain ⟨A, cap, rfl, hc, hr⟩ := h
  refine ⟨A, cap, rfl, hc, fun hne => ?_⟩
  obtain ⟨b, off, hA, hok, hb, hrow⟩ := hr hne
  obtain ⟨h1, h2⟩ := hm.free b hb hok
  exact ⟨b, off, hA, h1, Nat.lt_of_lt_of_le hb hm.sz, Rrow.mono hm.bare (m := .none) (fun q hq => by cases hq) h2 hrow⟩
 | X, E, E', hm, .tr sz n cs, x, _, h => by
  obtain ⟨A, cap, rfl, hc, hl, hr⟩ := h
  refine ⟨A, cap, rfl, hc, hl, ?_⟩
  rcases hr with hr | ⟨b, off, q, c, e, hA, hq, _⟩
  ·exact .inl hr
  ·simp [Md.leaf] at hq
 | X, E, E', hm, .own i sz off n lo hi, x, _, h => by
  obtain ⟨hi', A, cap, hx, hnc, h⟩ := h
  refine ⟨Nat.lt_of_lt_of_le hi' hm.n, A, cap, hx, hnc, fun hl => ?_⟩
  obtain ⟨h1, h2, _, h4⟩ := hm.ref i hi' hl
  obtain ⟨hc, hlo, hhi, hr⟩ := h h1
  refine ⟨hc, hlo, hhi, ?_⟩
  rcases hr with hr | ⟨c, e, hA, ho, hh, hs⟩
  ·exact .inl hr
  ·obtain ⟨c', hc', hsz⟩ := h4 c e hh
   exact .inr ⟨c', e, by rw [h2]; exact hA, by rw [h2]; exact hm.lab hi' hl ho, by rw [h2]; exact hc', by rw [h2, hsz]; exact hs⟩
 | X, E, E', hm, .sub i j, x, hn, h => by
  obtain ⟨hi', hsl, h⟩ := h
  refine ⟨Nat.lt_of_lt_of_le hi' hm.n, hsl, fun hl => ?_⟩
  obtain ⟨h1, h2⟩ := hm.sub i j hn hi' hl
  have hs : (E'.g i).isSome = true := by obtain ⟨_, _, _, _, he, _⟩ := hl; rw [he]; rfl
  obtain ⟨_, h3, _⟩ := hm.ref i hi' hs
  rw [h3, h2]
  exact h h1
 | X, E, E', hm, .ptr i off, x, _, h => by
  obtain ⟨hi', ad, hx, h⟩ := h
  refine ⟨Nat.lt_of_lt_of_le hi' hm.n, ad, hx, fun hl => ?_⟩
  obtain ⟨h1, h2, _⟩ := hm.ref i hi' hl
  rw [h2]
  exact h h1
 | X, E, E', hm, .rp cs, x, _, h => by
  obtain ⟨b, off, rfl, hok, hb, hrow⟩ := h
  obtain ⟨h1, h2⟩ := hm.free b hb hok
  exact ⟨b, off, rfl, h1, Nat.lt_of_lt_of_le hb hm.sz, Rrow.mono hm.bare (m := .none) (fun q hq => by cases hq) h2 hrow⟩
 | X, E, E', hm, .bp cs, x, _, h => by
  obtain ⟨b, off, q, c, e, rfl, hq, _⟩ := h
  simp [Md.leaf] at hq
 | X, E, E', hm, .mref i, x, _, h => by
  obtain ⟨hi', r, hx, h⟩ := h
  refine ⟨Nat.lt_of_lt_of_le hi' hm.n, r, hx, fun hl => ?_⟩
  obtain ⟨h1, h2, _⟩ := hm.ref i hi' hl
  rw [h2]
  exact h h1
 | X, E, E', hm, .sp i j off, x, hn, h => by
  obtain ⟨hi', ad, hx, h⟩ := h
  refine ⟨Nat.lt_of_lt_of_le hi' hm.n, ad, hx, fun hl => ?_⟩
  obtain ⟨h1, h2⟩ := hm.sub i j hn hi' hl
  have hs : (E'.g i).isSome = true := by obtain ⟨_, _, _, _, he, _⟩ := hl; rw [he]; rfl
  obtain ⟨_, h3, _⟩ := hm.ref i hi' hs
  obtain ⟨A, n, cap, h4, h5⟩ := h h1
  exact ⟨A, n, cap, by rw [h3, h2]; exact h4, h5⟩
 | X, E, E', hm, .agg cs, x, hn, h => by
  obtain ⟨xs, rfl, hr⟩ := h
  exact ⟨xs, rfl, Rvs.monoX hm hn hr⟩
 | X, E, E', hm, .tup cs, x, hn, h => by
  obtain ⟨xs, rfl, hr⟩ := h
  exact ⟨xs, rfl, Rvs.monoX hm hn hr⟩
 | X, E, E', hm, .fn f cs, x, hn, h => by
  obtain ⟨xs, rfl, hr⟩ := h
  exact ⟨xs, rfl, Rvs.monoX hm hn hr⟩
 | X, E, E', hm, .any, x, _, _ => trivial
theorem Rvs.monoX : ∀ {X : bM} {E E' : Env} (hm : MonoX X E E') {cs : List V} {xs : List Value}, pI X cs = true → Rvs E .none cs xs → Rvs E' .none cs xs
 | X, E, E', hm, [], [], _, _ => trivial
 | X, E, E', hm, c :: cs, x :: xs, hn, h => by
  simp only [pI, Bool.and_eq_true] at hn
  exact ⟨Rv.monoX hm hn.1 h.1, Rvs.monoX hm hn.2 h.2⟩
 | X, E, E', hm, [], _ :: _, _, h => h.elim
 | X, E, E', hm, _ :: _, [], _, h => h.elim
end
theorem Rrow.monoX {X : bM} {E E' : Env} (hm : MonoX X E E') : ∀ {b off j : Nat} {cs : List V}, pI X cs = true → E'.w.heap[b]? = E.w.heap[b]? → Rrow E .none b off j cs → Rrow E' .none b off j cs
 | b, off, j, [], _, _, _ => trivial
 | b, off, j, c :: cs, hn, hb, ⟨⟨v, hv, hr⟩, hs⟩ => by
  simp only [pI, Bool.and_eq_true] at hn
  exact ⟨⟨v, (dQ hb).trans hv, Rv.monoX hm hn.1 hr⟩, Rrow.monoX hm hn.2 hb hs⟩
theorem eC {X : bM} : ∀ {t : List (Nat × V)}, wH X t = true → ∀ k, kB X (lk t k) = true
 | [], _, k => rfl
 | (j, v) :: r, h, k => by
  simp only [wH, Bool.and_eq_true] at h
  simp only [lk]
  cases Nat.beq j k with
  | true => exact h.1
  | false => exact eC h.2 k
theorem qH {X : bM} : ∀ {g : List (Option Obj)} {i : Nat} {cs : List V}, eH X g = true → aX g i = some ⟨true, cs⟩ → pI X cs = true
 | [], i, cs, _, h => by simp [aX] at h
 | some ⟨true, ds⟩ :: r, i, cs, hn, h => by
  simp only [eH, Bool.and_eq_true] at hn
  cases i with
  | zero => simp [aX] at h; subst h; exact hn.1
  | succ i => exact qH (g := r) hn.2 h
 | some ⟨false, ds⟩ :: r, i, cs, hn, h => by
  cases i with
  | zero => simp [aX] at h
  | succ i => exact qH (g := r) hn h
 | none :: r, i, cs, hn, h => by
  cases i with
  | zero => simp [aX] at h
  | succ i => exact qH (g := r) hn h
section
variable {P : Program} {Γ : Tab} {C : Ctx} {E : Env} {s : St} {a : Act} {o : Oper} {K : V → St → Prop}
theorem Pin.monoX {X : bM} {E E' : Env} (h : Pin C E) (hm : MonoX X E E') : Pin C E' := by
 refine ⟨Nat.le_trans h.1 hm.n, fun k hk hs => ?_⟩
 obtain ⟨h1, h2, _⟩ := hm.ref k (Nat.lt_of_lt_of_le hk h.1) hs
 obtain ⟨g1, g2⟩ := h.2 k hk h1
 refine ⟨h2.trans g1, fun ho => ?_⟩
 have h3 := hm.lab (Nat.lt_of_lt_of_le hk h.1) hs (by rw [g1]; exact g2 ho)
 rwa [g1] at h3
theorem Rel.ofX {X : bM} {E' : Env} {s' : St} (hR : Rel C E s a) (hm : MonoX X E E') (hN : s'.N = s.N) (ht : s'.t = s.t) (hns : ∀ k, kB X (lk s.t k) = true) (hnb : eH X s.g = true) (hg : E'.g = s'.ob) (hn : E'.n = s'.g.length)
  (hbox : ∀ i cs, s'.ob i = some ⟨true, cs⟩ → s.ob i = some ⟨true, cs⟩ ∧ E'.w.heap[(E.ρ i).1]? = E.w.heap[(E.ρ i).1]?) (hrow : ∀ i cs, s'.ob i = some ⟨false, cs⟩ → ObR E' i ⟨false, cs⟩)
  (hokb : E'.okb = fun b => E'.o b = none) (hlab : ∀ b p, E'.o b = some p → b < E'.w.heap.size ∧ (p = [] ∨ C.w0.heap.size ≤ b ∨ C.lent b)) (hfr : Fr C E'.w) (hold : ∀ b, b < C.w0.heap.size → ¬ C.lent b → E'.o b = C.o0 b) : Rel C E' s' a := by
 refine ⟨by rw [hN]; exact hR.size, hR.nd, fun k => by rw [ht]; exact Rv.monoX hm (hns k) (hR.slot k), hg, hn, fun i ob hi => ?_, hokb, hlab, hfr, hold, hR.pin.monoX hm⟩
 obtain ⟨bx, cs⟩ := ob
 cases bx with
 | false => exact hrow i cs hi
 | true =>
  obtain ⟨h1, h2⟩ := hbox i cs hi
  have hs : (E'.g i).isSome = true := by rw [hg, hi]; rfl
  obtain ⟨_, h3, _⟩ := hm.ref i (C6 hR h1) hs
  rcases hR.ob i _ h1 with ⟨hnm, c, e, hh, h0, hl, hr⟩ | ⟨m, es, q, hc, hh, hl, he⟩
  ·exact .inl ⟨hnm, c, e, by rw [h3, h2]; exact hh, by rw [h3]; exact h0, by rw [h3]; exact hm.lab (C6 hR h1) hs hl, by rw [h3]; exact Rrow.monoX hm (qH hnb h1) h2 hr⟩
  ·exact .inr ⟨m, es, q, hc, by rw [h3, h2]; exact hh, by rw [h3]; exact hm.lab (C6 hR h1) hs hl, he⟩
def Env.rl (E : Env) (kid : Nat) (p : List Nat) : Env := { E with o := fun b => gX kid p (E.o b), okb := fun b => gX kid p (E.o b) = none }
theorem TE (hR : Rel C E s a) {kid : Nat} (hk : s.g.length ≤ kid) (p : List Nat) : Mono E (E.rl kid p) := by
 refine ⟨Nat.le_refl _, fun b _ hok => ⟨?_, rfl⟩, Nat.le_refl _, fun j hj hl => ⟨hl, rfl, fun ho => ?_, fun c e h => ⟨c, h, rfl⟩⟩, fun j k hj ht => ⟨ht, rfl⟩⟩
 ·show gX kid p (E.o b) = none
  rw [hR.okb] at hok
  exact FH.2 hok
 ·show gX kid p (E.o (E.ρ j).1) = some [j]
  rw [ho, p3 (by rw [hR.n] at hj; omega)]
theorem a0U {kid j : Nat} {p q : List Nat} (h : j ≠ kid) : Kept E (E.rl kid p) (j :: q) := fun b r hb => by
 refine ⟨?_, rfl⟩
 show gX kid p (E.o b) = _
 rw [hb]
 exact p3 h
theorem YL (kid : Nat) (p q : List Nat) : Moved E (E.rl kid p) (kid :: q) (p ++ q) := fun b r hb => by
 refine ⟨?_, rfl⟩
 show gX kid p (E.o b) = _
 rw [hb]
 simp [gX]
theorem a2T (hR : Rel C E s a) {kid : Nat} (hk : s.g.length ≤ kid) (p : List Nat) : Rel C (E.rl kid p) s a := by
 have hm := TE hR hk p
 refine ⟨hR.size, hR.nd, fun k => (hR.slot k).slot hm, hR.g, hR.n, fun j x hx => ObR.mono hm rfl (a0U (by have := eK (g := s.g) hx; omega)) (hR.ob j x hx), rfl, fun b q hq => ?_, hR.fr, fun b hb hl => ?_, hR.pin.mono hm⟩
 ·have hne : E.o b ≠ none := by
   intro h
   simp only [Env.rl, h, gX] at hq
   cases hq
  cases h : E.o b with
  | none => exact absurd h hne
  | some q' =>
   obtain ⟨h1, h2⟩ := hR.lab b q' h
   refine ⟨h1, ?_⟩
   rcases h2 with rfl | h2
   ·left
    simp only [Env.rl, h, gX, Option.some.injEq] at hq
    exact hq.symm
   ·exact .inr h2
 ·have h := hR.old b hb hl
  show gX kid p (E.o b) = _
  rw [h]
  cases ho : C.o0 b with
  | none => rfl
  | some q => rw [C.dull b q hl ho]; rfl
theorem VT {w' : World} {i off : Nat} {cs us : List V} {xs : List Value} (hR : Rel C E s a) (hob : s.ob i = some ⟨false, cs⟩) (hlab : E.o (E.ρ i).1 = some [i]) (hh : ∃ c e, E.w.heap[(E.ρ i).1]? = some (.cells c e (0, 0))) (hrow : Rrow E.bare (.at [i]) (E.ρ i).1 (E.ρ i).2 0 cs)
  (hw : Wrote E.w w' (E.ρ i).1 ((E.ρ i).2 + off) xs) (hul : us.length = xs.length) (hle : off + us.length ≤ cs.length) (hus : ∀ k u, us[k]? = some u → ∃ z, xs[k]? = some z ∧ Rv E.bare (.at [i, off + k]) u z)
  (hns : wH [(i, none)] s.t = true) (hnb : eH [(i, none)] s.g = true) : Rel C (E.wr w' i ⟨false, e7 cs off us⟩) (s.put i (some ⟨false, e7 cs off us⟩)) a := by
 obtain ⟨c, e, hh⟩ := hh
 have hnw : ∀ l, gG [(i, none)] l = true → l ≠ i := by
  intro l h he
  subst he
  simp [gG] at h
 have hm : MonoX [(i, none)] E (E.wr w' i ⟨false, e7 cs off us⟩) := by
  refine ⟨Nat.le_of_eq hw.size.symm, fun b' hb' hok => ⟨hok, hw.other b' ?_⟩, Nat.le_refl _, fun j hj hl => ⟨?_, rfl, fun h => .inl h, fun c e hc => ?_⟩, fun l k hnl hl ht => ?_⟩
  ·intro he
   rw [hR.okb, he, hlab] at hok
   cases hok
  ·by_cases hji : j = i
   ·rw [hji]; exact dA hR hob
   ·simpa [Env.wr, hji] using hl
  ·by_cases he : (E.ρ j).1 = (E.ρ i).1
   ·rw [he] at hc ⊢
    obtain ⟨c', h1, h2, _⟩ := hw.row c e hc
    exact ⟨c', h1, h2⟩
   ·exact ⟨c, by rw [← hc]; exact hw.other _ he, rfl⟩
  ·have hli := hnw l hnl
   have ht' : hZ E.g l k := by
    obtain ⟨cs', sz, n, r, hg, hk⟩ := ht
    simp only [Env.wr, if_neg hli] at hg
    exact ⟨cs', sz, n, r, hg, hk⟩
   refine ⟨ht', dQ (hw.other _ ?_)⟩
   obtain ⟨cs', sz, n, r, hg, hk⟩ := ht'
   rw [hR.g] at hg
   rcases hR.ob l _ hg with h0 | ⟨c, e, _, hl, _⟩
   ·rw [h0] at hk; simp at hk
   ·intro he
    rw [he, hlab] at hl
    simp at hl
    exact hli hl.symm
 have hgn : (E.wr w' i ⟨false, e7 cs off us⟩).g = (s.put i (some ⟨false, e7 cs off us⟩)).ob := by
  funext j
  rw [lP hob]
  simp only [Env.wr, hR.g]
 have hblk : ∀ j cs', s.ob j = some cs' → j ≠ i → cs'.cs ≠ [] ∨ cs'.box = true → (E.ρ j).1 ≠ (E.ρ i).1 := by
  intro j ob hj hji hne he
  obtain ⟨bx, cs'⟩ := ob
  have := hR.ob j _ hj
  cases bx with
  | true =>
   have hl := RS this
   rw [he, hlab] at hl
   simp at hl
   exact hji hl.symm
  | false =>
   rcases this with h0 | ⟨_, _, _, hl, _⟩
   ·subst h0; simp at hne
   ·rw [he, hlab] at hl
    simp at hl
    exact hji hl.symm
 refine Rel.ofX hR hm rfl rfl (eC hns) hnb hgn (by simp [Env.wr, St.put, dB, hR.n]) (fun j cs' hj => ?_) (fun j cs' hj => ?_) hR.okb (fun b' p hp => ?_) (xJ (i := i) hR.fr hw ((hR.lab _ _ hlab).2.resolve_left (by simp))) hR.old
 ·rw [lP hob] at hj
  by_cases hji : j = i
  ·rw [if_pos hji] at hj; cases hj
  ·rw [if_neg hji] at hj
   exact ⟨hj, hw.other _ (hblk j _ hj hji (.inr rfl))⟩
 ·rw [lP hob] at hj
  by_cases hji : j = i
  ·rw [if_pos hji] at hj
   cases hj
   subst hji
   obtain ⟨c', hc', hcsz, hck⟩ := hw.row c e hh
   refine .inr ⟨c', e, hc', hlab, cD fun k v hk => ?_⟩
   have hwc := jX hw hh ((E.ρ j).2 + k)
   rw [iB hle] at hk
   by_cases hin : off ≤ k ∧ k < off + us.length
   ·rw [if_pos hin] at hk
    obtain ⟨z, hz, hr⟩ := hus (k - off) v hk
    refine ⟨z, ?_, ?_⟩
    ·show w'.cell? ⟨(E.ρ j).1, (E.ρ j).2 + k, none⟩ = _
     rw [hwc, if_pos (by omega), show (E.ρ j).2 + k - ((E.ρ j).2 + off) = k - off from by omega]
     exact hz
    ·rw [show off + (k - off) = 0 + k from by omega] at hr
     refine Rv.mono hm.bare (fun q hq b r hb => ?_) (fun q j hq _ => by cases hq) hr
     cases hq
     exact yU (E := E) (ob := ⟨false, e7 cs off us⟩) hw hlab (q := [j, 0 + k]) (fun r' hr' => by simp at hr') b r hb
   ·rw [if_neg hin] at hk
    obtain ⟨z, hz, hr⟩ := bR hrow k v hk
    refine ⟨z, ?_, Rv.mono hm.bare (fun q hq b r hb => ?_) (fun q j hq _ => by cases hq) hr⟩
    ·show w'.cell? ⟨(E.ρ j).1, (E.ρ j).2 + k, none⟩ = _
     rw [hwc, if_neg (by omega)]
     exact hz
    ·cases hq
     exact yU (E := E) (ob := ⟨false, e7 cs off us⟩) hw hlab (q := [j] ++ [0 + k]) (fun r' hr' => by simp at hr') b r hb
  ·rw [if_neg hji] at hj
   rcases hR.ob j _ hj with h0 | ⟨c1, e1, h1, h2, h3⟩
   ·exact .inl h0
   ·have hne : (E.ρ j).1 ≠ (E.ρ i).1 := by
     intro he
     rw [he, hlab] at h2
     simp at h2
     exact hji h2.symm
    refine .inr ⟨c1, e1, (hw.other _ hne).trans h1, h2, Rrow.mono hm.bare (fun q hq b r hb => ?_) (hw.other _ hne) h3⟩
    cases hq
    exact yU (E := E) (ob := ⟨false, e7 cs off us⟩) hw hlab (q := [j]) (fun r' hr' => hji (by simp at hr'; exact hr'.1)) b r hb
 ·obtain ⟨h1, h2⟩ := hR.lab b' p hp
  exact ⟨by show b' < w'.heap.size; rw [hw.size]; exact h1, h2⟩
theorem tE {i sz n lo : Nat} {hi : Option Nat} {K : V → St → Prop} {s : St} : l9 s (.own i sz 0 n lo hi) K ↔ ∃ cs, s.ob i = some ⟨false, cs⟩ ∧ cs.length = n * sz ∧ K (.tr sz n cs) (s.put i none) := by
 simp only [l9]
 constructor
 ·intro h
  split at h
  ·rename_i cs hc; exact ⟨cs, hc, h⟩
  ·exact h.elim
 ·rintro ⟨cs, hc, h⟩
  rw [hc]
  exact h
theorem tF {i j : Nat} {K : V → St → Prop} {s : St} : l9 s (.sub i j) K ↔ ∃ cs, s.ob i = some ⟨false, cs⟩ ∧ ∃ sz n r, cs[j]? = some (.tr sz n r) ∧ K (.tr sz n r) (s.put i (some ⟨false, cs.set j .any⟩)) := by
 simp only [l9]
 constructor
 ·intro h
  split at h
  ·rename_i cs hc; exact ⟨cs, hc, h⟩
  ·exact h.elim
 ·rintro ⟨cs, hc, h⟩
  rw [hc]
  exact h
theorem UO {v : V} {K : V → St → Prop} (h : l9 s v K) : l9 s v fun u s' => K u s' ∧ s'.t = s.t ∧ s'.N = s.N ∧ ∀ X, eH X s.g = true → eH X s'.g = true := by
 have hput : ∀ (X : bM) (g : List (Option Obj)) (i : Nat) (x : Option Obj), (∀ cs, x ≠ some ⟨true, cs⟩) → eH X g = true → eH X (kD g i x) = true := by
  intro X g
  induction g with
  | nil => intro i x hx h; exact h
  | cons o g ih =>
   intro i x hx h
   cases i with
   | zero =>
    have hg : eH X g = true := by
     cases o with
     | none => exact h
     | some ob => obtain ⟨bx, cs⟩ := ob; cases bx <;> simp_all [eH]
    cases x with
    | none => exact hg
    | some ob =>
     obtain ⟨bx, cs⟩ := ob
     cases bx with
     | true => exact absurd rfl (hx cs)
     | false => exact hg
   | succ i =>
    cases o with
    | none => exact ih i x hx h
    | some ob =>
     obtain ⟨bx, cs⟩ := ob
     cases bx with
     | true =>
      simp only [kD, eH, Bool.and_eq_true] at h ⊢
      exact ⟨h.1, ih i x hx h.2⟩
     | false => exact ih i x hx h
 cases v with
 | sc v => exact qF h (fun h => ⟨h, rfl, rfl, fun _ h => h⟩) (fun ⟨sz, h⟩ => ⟨sz, h, rfl, rfl, fun _ h => h⟩)
 | ro n cs => exact ⟨h, rfl, rfl, fun _ h => h⟩
 | own i sz off n lo hi =>
  cases off with
  | succ off => exact False.elim h
  | zero =>
  obtain ⟨cs, h1, h2, h3⟩ := tE.1 h
  exact tE.2 ⟨cs, h1, h2, h3, rfl, rfl, fun X hX => hput X _ _ _ (fun cs => nofun) hX⟩
 | sub i j =>
  obtain ⟨cs, h0, sz, n, r, h1, h2⟩ := tF.1 h
  exact tF.2 ⟨cs, h0, sz, n, r, h1, h2, rfl, rfl, fun X hX => hput X _ _ _ (fun cs => nofun) hX⟩
 | _ => exact False.elim h
theorem EG {v : V} {s : St} {K K' : V → St → Prop} (hK : ∀ u s', K u s' → K' u s') (h : l9 s v K) : l9 s v K' := by
 cases v with
 | sc v => exact qF h (hK _ _) (fun ⟨sz, h⟩ => ⟨sz, hK _ _ h⟩)
 | ro n cs => exact hK _ _ h
 | own i sz off n lo hi =>
  cases off with
  | succ off => exact False.elim h
  | zero =>
  obtain ⟨cs, h1, h2, h3⟩ := tE.1 h
  exact tE.2 ⟨cs, h1, h2, hK _ _ h3⟩
 | sub i j =>
  obtain ⟨cs, h0, sz, n, r, h1, h2⟩ := tF.1 h
  exact tF.2 ⟨cs, h0, sz, n, r, h1, hK _ _ h2⟩
 | _ => exact False.elim h
theorem I6 : ∀ {ws : List V} {s : St} {K K' : List V → St → Prop}, (∀ u s', K u s' → K' u s') → jT s ws K → jT s ws K'
 | [], s, K, K', hK, h => hK _ _ h
 | w :: ws, s, K, K', hK, h => EG (fun u s1 h => I6 (fun us s2 h => hK _ _ h) h) h
theorem EH : ∀ {vs : List V} {s : St} {K : List V → St → Prop}, jT s vs K → jT s vs fun u s' => K u s' ∧ s'.t = s.t ∧ s'.N = s.N ∧ ∀ X, eH X s.g = true → eH X s'.g = true
 | [], s, K, h => ⟨h, rfl, rfl, fun _ h => h⟩
 | v :: vs, s, K, h => by
  refine EG (fun u s1 h1 => ?_) (UO (s := s) (v := v) h)
  obtain ⟨h1, h2, h3, h4⟩ := h1
  have := EH (vs := vs) h1
  have imps : ∀ {ws : List V} {s : St} {K K' : List V → St → Prop}, (∀ u s', K u s' → K' u s') → jT s ws K → jT s ws K' := by
   intro ws
   induction ws with
   | nil => intro s K K' hK h; exact hK _ _ h
   | cons w ws ih => intro s K K' hK h; exact EG (fun u s1 h => ih (fun us s2 h => hK _ _ h) h) h
  exact imps (fun us s2 ⟨g1, g2, g3, g4⟩ => ⟨g1, g2.trans h2, g3.trans h3, fun X hX => g4 X (h4 X hX)⟩) this
theorem B7 : ∀ {vs : List V} {s : St} {K : List V → St → Prop}, jT s vs K → ∀ v ∈ vs, eU v = true
 | [], s, K, h, v, hv => by cases hv
 | w :: vs, s, K, h, v, hv => by
  simp only [List.mem_cons] at hv
  have key : ∀ {s : St} {K : V → St → Prop}, l9 s w K → eU w = true ∧ ∃ u s', K u s' := by
   intro s K h
   cases w with
   | sc v => exact ⟨rfl, (lI h).elim (fun h => ⟨_, _, h⟩) (fun ⟨_, sz, h⟩ => ⟨_, _, h⟩)⟩
   | ro n cs => exact ⟨rfl, _, _, h⟩
   | own i sz off n lo hi =>
    cases off with
    | succ off => exact False.elim h
    | zero =>
    obtain ⟨cs, h1, h2, h3⟩ := tE.1 h
    exact ⟨rfl, _, _, h3⟩
   | sub i j =>
    obtain ⟨cs, h0, sz, n, r, h1, h2⟩ := tF.1 h
    exact ⟨rfl, _, _, h2⟩
   | _ => exact False.elim h
  obtain ⟨h1, u, s', h2⟩ := key h
  rcases hv with rfl | hv
  ·exact h1
  ·exact B7 h2 v hv
theorem CB {t : TypeId} {ti : TI} {x y : Operand} {i off : Nat} {cs vs r : List V} (ho : o.op = .store t x y) (hR : Rel C E s a) (hT : TIOk P t ti) (hx : ev s x = .ptr i off) (hy : kL s (ev s y) = some vs) (hl : vs.length = ti.size) (hob : s.ob i = some ⟨false, cs⟩)
  (hr0 : dP cs off ti.size = some r) (hz0 : ti.size ≠ 0) (hns : wH [(i, none)] s.t = true) (hnb : eH [(i, none)] s.g = true)
  (h : jT s vs fun us s1 => match s1.ob i with
     | some ⟨false, cs1⟩ => off + ti.size ≤ cs1.length ∧ K .any (s1.put i (some ⟨false, e7 cs1 off us⟩))
     | _ => False) : cX P C E s a o K := by
 have hpx := w3 hR hx hob
 have hvy := nG hR hy (cN hR y)
 obtain ⟨hle0, _, _⟩ := e8 hr0
 obtain ⟨E1, us, s1, ⟨h1, ht1, hN1, hg1⟩, hR1, hw1, hρ1, hm1, hl1, hk1, hul, hus⟩ := EI (kid := s.g.length) (j := off) hR (Nat.le_refl _) (EH h) hvy
 cases hob1 : s1.ob i with
 | none => rw [hob1] at h1; exact h1.elim
 | some ob =>
 obtain ⟨bx, cs1⟩ := ob
 cases bx with
 | true => rw [hob1] at h1; exact h1.elim
 | false =>
 rw [hob1] at h1
 obtain ⟨hle, hK⟩ := h1
 have hR2 := a2T hR1 (kid := s.g.length) (by omega) [i]
 have hne : i ≠ s.g.length := by have := eK (g := s.g) hob; omega
 have hxl : (a.eval y).cells.toList.length = ti.size := by rw [← hl]; exact (gF hvy).symm
 rcases hR2.ob i _ hob1 with h0 | ⟨c, e, hh, hlab, hrow⟩
 ·rw [h0] at hle; simp at hle; omega
 ·have hcs : (E.ρ i).2 + off + ti.size ≤ c.size := by
   have hh' := tR hrow hh (off + ti.size - 1) (by omega)
   have hρ : ((E1.rl s.g.length [i]).ρ i).2 = (E.ρ i).2 := by show (E1.ρ i).2 = _; rw [hρ1]
   rw [hρ] at hh'
   omega
  have hh2 : E.w.heap[(E.ρ i).1]? = some (.cells c e (0, 0)) := by
   have : (E1.rl s.g.length [i]).w.heap[((E1.rl s.g.length [i]).ρ i).1]? = E.w.heap[(E.ρ i).1]? := by show E1.w.heap[(E1.ρ i).1]? = _; rw [hw1, hρ1]
   rw [← this]; exact hh
  have hone : ∀ z ∈ (a.eval y).cells.toList, z.oneCell' = true := by
   intro z hz
   obtain ⟨k, hk⟩ := List.getElem?_of_mem hz
   have hkl : k < us.length := by rw [hul]; exact (List.getElem?_eq_some_iff.1 hk).1
   obtain ⟨z', hz', hr⟩ := hus k _ (List.getElem?_eq_getElem hkl)
   rw [hk] at hz'
   cases hz'
   obtain ⟨c', hc', hr'⟩ := sJ hvy k z hk
   exact kG (B7 h c' (List.mem_of_getElem? hc')) hr'
  obtain ⟨w', hrun, hw⟩ := nB (P := P) hT (v := a.eval y) (by simpa using hxl) hh2 hcs hone
  have hwE : Wrote (E1.rl s.g.length [i]).w w' ((E1.rl s.g.length [i]).ρ i).1 (((E1.rl s.g.length [i]).ρ i).2 + off) (a.eval y).cells.toList := by
   have e1 : (E1.rl s.g.length [i]).w = E.w := hw1
   have e2 : (E1.rl s.g.length [i]).ρ i = E.ρ i := by show E1.ρ i = _; rw [hρ1]
   rw [e1, e2]
   exact hw
  have hR3 := VT hR2 hob1 hlab ⟨c, e, hh⟩ hrow hwE hul (by rw [hul, hxl]; exact hle) (fun k u hk => by
   obtain ⟨z, hz, hr⟩ := hus k u hk
   refine ⟨z, hz, ?_⟩
   exact Rv.move (TE hR1 (kid := s.g.length) (by omega) [i]).bare (YL (E := E1) s.g.length [i] [off + k]) hr) (by rw [ht1]; exact hns) (hg1 _ hnb)
  intro next Q hn
  have hrun' : (execOp a.eval o).run P E.w = .ok .skip w' := by
   simp only [execOp, ho]
   rw [hpx]
   simp [Instr.storeAt, Instr.sureAddr, hrun]
  rw [hrun']
  exact hn .any _ ((E1.rl s.g.length [i]).wr w' i ⟨false, e7 cs1 off us⟩) undef hK hR3 trivial
theorem GM {w' : World} {i b off : Nat} {p q : List Nat} {xs : List Value} {ob : Obj} (hw : Wrote E.w w' b off xs) (hlab : E.o b = some p) (hq : ∀ r, q ++ r ≠ p) : Kept E (E.wr w' i ob) q := fun b' r hb' => by
 refine ⟨hb', hw.other b' fun he => ?_⟩
 rw [he, hlab] at hb'
 exact hq r (Option.some.inj hb').symm
theorem OB {t : TypeId} {ti : TI} {x y : Operand} {i j off sz n : Nat} {cs vs r q : List V} (ho : o.op = .store t x y) (hR : Rel C E s a) (hT : TIOk P t ti) (hx : ev s x = .sp i j off) (hy : kL s (ev s y) = some vs) (hl : vs.length = ti.size) (hob : s.ob i = some ⟨false, cs⟩)
  (hf : vs.all fT = true) (hj : cs[j]? = some (.tr sz n r)) (hq : dP r off ti.size = some q) (hz0 : ti.size ≠ 0) (h : K .any (s.put i (some ⟨false, cs.set j (.tr sz n (e7 r off vs))⟩))) : cX P C E s a o K := by
 obtain ⟨b, d, c, e, hv, hlab, hh, hrl, hrow⟩ := a1I hR hx hob hj
 have hvy := nG hR hy (cN hR y)
 obtain ⟨hle, _, hql⟩ := e8 hq
 have hlen : (a.eval y).cells.size = ti.size := by
  have := gF hvy
  simp at this
  omega
 have hone : ∀ z ∈ (a.eval y).cells.toList, z.oneCell' = true := by
  intro z hz
  obtain ⟨k, hk⟩ := List.getElem?_of_mem hz
  obtain ⟨c', hc', hr⟩ := sJ hvy k z hk
  have hfl := List.all_eq_true.1 hf c' (List.mem_of_getElem? hc')
  exact kG (by cases c' <;> simp_all [fT, eU]) hr
 have hcs : d + off + ti.size ≤ c.size := by
  have := tR hrow hh (off + ti.size - 1) (by omega)
  omega
 obtain ⟨w', hrun, hw⟩ := nB (P := P) hT hlen hh hcs hone
 have hxl : (a.eval y).cells.toList.length = vs.length := (gF hvy).symm
 have hlt : j < cs.length := (List.getElem?_eq_some_iff.1 hj).1
 have hsetj : ∀ k v, (cs.set j (.tr sz n (e7 r off vs)))[k]? = some v → (k = j ∧ v = .tr sz n (e7 r off vs)) ∨ (k ≠ j ∧ cs[k]? = some v) := by
  intro k v hk
  rw [List.getElem?_set] at hk
  by_cases hjk : j = k
  ·subst hjk
   rw [if_pos rfl, if_pos hlt] at hk
   cases hk
   exact .inl ⟨rfl, rfl⟩
  ·rw [if_neg hjk] at hk
   exact .inr ⟨fun h => hjk h.symm, hk⟩
 have hbne : ∀ l k, hZ E.g l k → (E.ρ l).1 ≠ b := by
  intro l k ht he
  obtain ⟨cs', _, _, _, hg, hk⟩ := ht
  rw [hR.g] at hg
  rcases hR.ob l _ hg with h0 | ⟨_, _, _, hl', _⟩
  ·rw [h0] at hk; simp at hk
  ·rw [he, hlab] at hl'; simp at hl'
 have hm : Mono E (E.wr w' i ⟨false, cs.set j (.tr sz n (e7 r off vs))⟩) := by
  refine ⟨Nat.le_of_eq hw.size.symm, fun b' hb' hok => ⟨hok, hw.other b' ?_⟩, Nat.le_refl _, fun l hl' hs => ⟨?_, rfl, id, fun c' e' hc => ?_⟩, fun l k hl' ht => ?_⟩
  ·intro he
   rw [hR.okb, he, hlab] at hok
   cases hok
  ·by_cases hli : l = i
   ·rw [hli]; exact dA hR hob
   ·simpa [Env.wr, hli] using hs
  ·by_cases he : (E.ρ l).1 = b
   ·rw [he] at hc ⊢
    obtain ⟨c1, h1, h2, _⟩ := hw.row c' e' hc
    exact ⟨c1, h1, h2⟩
   ·exact ⟨c', by rw [← hc]; exact hw.other _ he, rfl⟩
  ·have ht' : hZ E.g l k := by
    obtain ⟨cs', sz', n', r', hg, hk⟩ := ht
    by_cases hli : l = i
    ·subst hli
     simp only [Env.wr, if_true, Option.some.injEq, Go.Proofs.YtboolngaahifdaaGreatD.Obj.mk.injEq, true_and] at hg
     subst hg
     rcases hsetj k _ hk with ⟨rfl, _⟩ | ⟨_, h1⟩
     ·exact n8 hR hob hj
     ·exact n8 hR hob h1
    ·simp only [Env.wr, if_neg hli] at hg
     exact ⟨cs', sz', n', r', hg, hk⟩
   exact ⟨ht', dQ (hw.other _ (hbne l k ht'))⟩
 intro next Q hn
 have hrun' : (execOp a.eval o).run P E.w = .ok .skip w' := by
  simp only [execOp, ho]
  rw [hv]
  simp [Instr.storeAt, Instr.sureAddr, hrun]
 rw [hrun']
 refine hn .any _ (E.wr w' i ⟨false, cs.set j (.tr sz n (e7 r off vs))⟩) undef h ⟨hR.size, hR.nd, fun k => (hR.slot k).slot hm, ?_, ?_, fun l x hl' => ?_, hR.okb, fun b' p hp => ?_, xJ (i := i) hR.fr hw ((hR.lab _ _ hlab).2.resolve_left (by simp)), hR.old, hR.pin.mono hm⟩ trivial
 ·funext l
  rw [lP hob]
  simp only [Env.wr, hR.g]
 ·simp [Env.wr, St.put, dB, hR.n]
 ·rw [lP hob] at hl'
  by_cases hli : l = i
  ·rw [if_pos hli] at hl'
   cases hl'
   subst hli
   rcases hR.ob l _ hob with h0 | ⟨c1, e1, h1, h2, h3⟩
   ·rw [h0] at hlt; simp at hlt
   ·have hb1 : (E.ρ l).1 ≠ b := hbne l j (n8 hR hob hj)
    refine .inr ⟨c1, e1, (hw.other _ hb1).trans h1, h2, cD fun k v hk => ?_⟩
    rcases hsetj k v hk with ⟨rfl, rfl⟩ | ⟨hkj, hk'⟩
    ·obtain ⟨u, hu, hru⟩ := bR h3 k _ hj
     refine ⟨u, (dQ (hw.other _ hb1)).trans hu, ?_⟩
     obtain ⟨A, cap, rfl, hcap, hrl', hb⟩ := hru
     refine ⟨A, cap, rfl, hcap, by rw [yN (by omega)]; exact hrl', ?_⟩
     rcases hb with hb | ⟨b2, d2, p2, c2, e2, hA, hp2, ho2, hh2, hs2, hrow2⟩
     ·exact .inl hb
     ·simp only [Md.child, Md.leaf, Option.some.injEq, List.cons_append, List.nil_append, Nat.zero_add] at hp2
      subst hp2
      obtain ⟨A', cap', hcell', _, _, hb'⟩ := v7 hR hob hj
      have hu' : E.w.cell? ⟨(E.ρ l).1, (E.ρ l).2 + k, none⟩ = some (.slice A n cap) := hu
      have hsp := cN hR x
      rw [hx] at hsp
      obtain ⟨_, ad, hxv, hlv⟩ := hsp
      obtain ⟨A3, n3, cap3, hc3, hp3, had⟩ := hlv (n8 hR hob hj)
      rw [hu'] at hc3
      cases hc3
      cases hA
      rw [hv] at hxv
      rw [cV] at had
      subst had
      simp only [Value.pointer.injEq, Option.some.injEq, Addr.mk.injEq, and_true] at hxv
      obtain ⟨hbb, hdd⟩ := hxv
      subst hbb
      have hdd' : d = d2 := by omega
      subst hdd'
      obtain ⟨c', hc', hcsz, hck⟩ := hw.row c e hh
      have hcc : c2 = c ∧ e2 = e := by
       have h5 : E.w.heap[b]? = some (.cells c2 e2 (0, 0)) := hh2
       rw [hh] at h5
       simp only [Option.some.injEq, Go.Obj.cells.injEq, and_true] at h5
       exact ⟨h5.1.symm, h5.2.symm⟩
      obtain ⟨rfl, rfl⟩ := hcc
      refine .inr ⟨b, d, [l, k], c', _, rfl, by simp [Md.child, Md.leaf], ho2, hc', by rw [hcsz]; exact hs2, cD fun m v hm' => ?_⟩
      have hwc := jX hw hh (d + m)
      rw [iB (by omega)] at hm'
      by_cases hin : off ≤ m ∧ m < off + vs.length
      ·rw [if_pos hin] at hm'
       obtain ⟨z, hz, hr⟩ := gE hvy (m - off) v hm'
       have hfl := List.all_eq_true.1 hf _ (List.mem_of_getElem? hm')
       refine ⟨z, ?_, k8 (E := E.wr w' l ⟨false, cs.set k (.tr sz n (e7 r off vs))⟩) hfl (hr.slot hm)⟩
       show w'.cell? ⟨b, d + m, none⟩ = _
       rw [hwc, if_pos (by omega), show d + m - (d + off) = m - off from by omega]
       exact hz
      ·rw [if_neg hin] at hm'
       obtain ⟨z, hz, hr⟩ := bR hrow m v hm'
       refine ⟨z, ?_, Rv.mono hm.bare (fun q hq b' r' hb' => ?_) (fun q j hq _ => by cases hq) hr⟩
       ·show w'.cell? ⟨b, d + m, none⟩ = _
        rw [hwc, if_neg (by omega)]
        exact hz
       ·cases hq
        exact GM (i := l) (ob := ⟨false, cs.set k (.tr sz n (e7 r off vs))⟩) hw hlab (q := [l, k] ++ [0 + m]) (fun r' hr' => by simp at hr') b' r' hb'
    ·obtain ⟨u, hu, hru⟩ := bR h3 k v hk'
     refine ⟨u, (dQ (hw.other _ hb1)).trans hu, Rv.mono hm.bare (fun q hq b' r' hb' => ?_) (fun q j hq _ => by cases hq) hru⟩
     cases hq
     exact GM (i := l) (ob := ⟨false, cs.set j (.tr sz n (e7 r off vs))⟩) hw hlab (q := [l] ++ [0 + k]) (fun r' hr' => hkj (by simp at hr'; omega)) b' r' hb'
  ·rw [if_neg hli] at hl'
   exact ObR.mono hm rfl (GM hw hlab (fun r' hr' => hli (by simp at hr'; exact hr'.1))) (hR.ob l x hl')
 ·obtain ⟨h1, h2⟩ := hR.lab b' p hp
  exact ⟨by show b' < w'.heap.size; rw [hw.size]; exact h1, h2⟩
end
end Go.Proofs.YtboolngaahifdaaGreatD
namespace Go.Proofs.YtboolngaahifdaaGreatD
open Go
section
variable {P : Program} {Γ : Tab} {C : Ctx} {E : Env} {s : St} {a : Act} {o : Oper} {K : V → St → Prop}
def Env.drw (E : Env) : Env := { E with w := { E.w with drawn := E.w.drawn + 1 } }
theorem xG (E : Env) : Mono E E.drw := ⟨Nat.le_refl _, fun _ _ h => ⟨h, rfl⟩, Nat.le_refl _, fun _ _ h => ⟨h, rfl, id, fun c e h => ⟨c, h, rfl⟩⟩, fun _ _ _ h => ⟨h, rfl⟩⟩
theorem TA (hR : Rel C E s a) : Rel C E.drw s a :=
 ⟨hR.size, hR.nd, fun k => (hR.slot k).slot (xG E), hR.g, hR.n, fun i ob h => ObR.mono (xG E) rfl (fun _ _ h => ⟨h, rfl⟩) (hR.ob i ob h), hR.okb, hR.lab, ⟨hR.fr.os, hR.fr.tape, hR.fr.output, hR.fr.size, hR.fr.block, hR.fr.shape, Nat.le_succ_of_le hR.fr.drawn⟩, hR.old, hR.pin.mono (xG E)⟩
theorem BI {w : World} : ∀ {fs : List Field} {sz : List Nat}, fs.map (fun f => P.cellsOf f.type) = sz → (∀ f ∈ fs, ∃ i, P.info? f.type = some i ∧ i.size ≠ 0) →
  (fs.mapM (fun f => (do pure (f.offset, ← sizeOf f.type) : Sem (Nat × Nat)))).run P w = .ok (fs.map fun f => (f.offset, P.cellsOf f.type)) w
 | [], sz, _, _ => by simp
 | f :: fs, sz, h, hi => by
  obtain ⟨i, hi1, _⟩ := hi f (by simp)
  have ih := BI (w := w) (fs := fs) rfl (fun g hg => hi g (by simp [hg]))
  have hc : P.cellsOf f.type = i.size := by simp [Program.cellsOf, hi1]
  have hs : (sizeOf f.type).run P w = .ok i.size w := by simp [sizeOf, dI hi1]
  simp only [List.mapM_cons, Sem.run_bind, hs, Result.andThen_ok, Sem.run_pure, List.map_cons, hc]
  rw [ih]
  rfl
theorem Y6 {t : TypeId} {ti : TI} {parts : Array (Nat × Operand)} {cs : List V} (ho : o.op = .build t parts) (hR : Rel C E s a) (hT : TIOk P t ti) (hst : ti.fields ≠ []) (hf : mO s (LA ti.fields ti.fsz) (ti.zero.map .sc) (lL s parts.toList) = some cs) (h : K (.agg cs) s) : cX P C E s a o K := by
 obtain ⟨i, z, hi, _, _, hz, hzc⟩ := hT.info
 obtain ⟨ds, hd, hk⟩ := hT.desc
 have hall : ∀ l : List Value, (∀ v ∈ l, v.oneCell' = true) → Rvs E .none (l.map .sc) l := by
  intro l
  induction l with
  | nil => intro _; trivial
  | cons c l ih => intro hl; exact ⟨⟨rfl, hl c (by simp)⟩, ih fun v hv => hl v (by simp [hv])⟩
 have hv : Rvs E .none (ti.zero.map .sc) z.cells.toList := by rw [hzc]; exact hall _ hT.one
 obtain ⟨c', hc', hr'⟩ := CP hR hv hf
 cases ds <;> simp only [iS] at hk <;> try exact absurd hk.2.2.1 hst
 rename_i fs
 obtain ⟨_, hag, hfs, hsz, hii, _⟩ := hk
 have hpl : (fs.mapM (fun f => (do pure (f.offset, ← sizeOf f.type) : Sem (Nat × Nat)))).run P E.w = .ok (fs.map fun f => (f.offset, P.cellsOf f.type)) E.w := by
  have hm := BI (P := P) (w := E.w) (fs := fs.toList) hsz hii
  rw [Array.mapM_eq_mapM_toList]
  simp only [Sem.run_map, hm, Result.andThen_ok]
  congr 1
  apply Array.toList_inj.1
  rw [Array.toList_map]
 have hplace : (fun i => (fs.map fun f => (f.offset, P.cellsOf f.type))[i]?) = LA ti.fields ti.fsz := by
  funext j
  rw [← hfs, ← hsz]
  simp only [LA, List.getElem?_map]
  cases hj : fs.toList[j]? with
  | none => simp at hj; simp [hj]
  | some f =>
   have : fs[j]? = some f := by simpa using hj
   simp [this]
 refine bN hR (c := Instr.build t (parts.map fun (i, x) => (i, a.eval x))) (x := .agg c') (by simp only [execOp, ho]) ?_ h ⟨c'.toList, by simp, hr'⟩
 have hp2 : (parts.map fun (i, x) => (i, a.eval x)).toList = parts.toList.map fun p => (p.1, a.eval p.2) := by simp
 simp only [Instr.build, zeroValue, Sem.run_bind, dI hi, Result.andThen_ok, hz, Sem.run_pure, aM hd, hpl, hplace, hp2, hc']
theorem iA : ∀ (n : Nat) (z : List V), (o7 n z).length = n * z.length
 | 0, z => by simp [o7]
 | n + 1, z => by simp [o7, iA n z, Nat.succ_mul, Nat.add_comm]
theorem yG : ∀ (n : Nat) (z : List V) (k : Nat), k < n * z.length → (o7 n z)[k]? = z[k % z.length]?
 | 0, z, k, h => by simp at h
 | n + 1, z, k, h => by
  simp only [o7]
  rcases Nat.lt_or_ge k z.length with h1 | h1
  ·rw [List.getElem?_append_left h1, Nat.mod_eq_of_lt h1]
  ·rw [List.getElem?_append_right h1, yG n z _ (by rw [Nat.succ_mul] at h; omega)]
   rw [← Nat.mod_eq_sub_mod h1]
theorem KV {t e : TypeId} {ti te : TI} {x y : Operand} {l c : Int} {k k' : IntKind} {r : List V} (ho : o.op = .makeSlice t x y) (hR : Rel C E s a) (hT : TIOk P t ti) (he : ti.elem = some e) (hE : TIOk P e te) (hb : te.bytes ≤ 64) (hz0 : te.size ≠ 0)
  (hx : ev s x = .sc (.int k l)) (hy : ev s y = .sc (.int k' c)) (hlc : 0 ≤ l ∧ l ≤ c ∧ c ≤ 1099511627776) (hr : o7 l.toNat (te.zero.map .sc) = r) (h : K (.own s.g.length te.size 0 l.toNat l.toNat none) (s.add ⟨false, r⟩)) : cX P C E s a o K := by
 obtain ⟨i, z, hi, hsz, hby, hz, hzc⟩ := hE.info
 have hzl : z.cells.size = te.size := by rw [← Array.length_toList, hzc, hE.zlen]
 have hw : ∀ n : Int, 0 ≤ n → n ≤ 1099511627776 → IntKind.i64.wrap n = n := by
  intro n h1 h2
  have hb : (2 : Int) ^ IntKind.i64.bits = 18446744073709551616 := by decide
  have hc : (2 : Int) ^ (IntKind.i64.bits - 1) = 9223372036854775808 := by decide
  simp only [IntKind.wrap, IntKind.signed, hb, hc, Bool.true_and, decide_eq_true_eq]
  split <;> omega
 have hwl := hw l hlc.1 (by omega)
 have hwc := hw c (by omega) hlc.2.2
 have hnum : (i.bytes : Int) * c ≤ 281474976710656 := by
  rw [hby]
  have : (te.bytes : Int) * c ≤ 64 * 1099511627776 := Int.mul_le_mul (by omega) hlc.2.2 (by omega) (by omega)
  omega
 subst hr
 obtain ⟨zero, hzero⟩ : ∃ zero : Array Value, (if c.toNat * te.size = 0 then (pure #[] : Sem (Array Value)) else do pure (← zeroValue e).cells).run P E.w = .ok zero E.w ∧ (c.toNat * te.size ≠ 0 → zero = z.cells) := by
  by_cases h0 : c.toNat * te.size = 0
  ·exact ⟨#[], by simp [h0], fun h => absurd h0 h⟩
  ·exact ⟨z.cells, by simp [h0, zeroValue, dI hi, hz], fun _ => rfl⟩
 have hcells : ∀ (m : Nat) (v : V), (o7 l.toNat (te.zero.map .sc))[m]? = some v → ∃ u, ((Array.range (c.toNat * te.size)).map (zero[· % zero.size]!))[m]? = some u ∧ v = .sc u ∧ u.oneCell' = true := by
  intro m v hm
  have hlt : m < l.toNat * te.size := by
   have := (List.getElem?_eq_some_iff.1 hm).1
   simpa [iA, hE.zlen] using this
  have hle : l.toNat * te.size ≤ c.toNat * te.size := Nat.mul_le_mul_right _ (by omega)
  have hz' := hzero.2 (by omega)
  subst hz'
  rw [yG _ _ _ (by simpa [hE.zlen] using hlt)] at hm
  simp only [List.length_map, hE.zlen, List.getElem?_map] at hm
  have hmm : m % te.size < te.size := Nat.mod_lt _ (Nat.pos_of_ne_zero hz0)
  have hzk : te.zero[m % te.size]? = some (z.cells[m % te.size]'(by omega)) := by
   rw [← hzc]
   simp [hmm, hzl]
  rw [hzk] at hm
  simp at hm
  subst hm
  refine ⟨_, ?_, rfl, hE.one _ (List.mem_of_getElem? hzk)⟩
  have hlt2 : m < c.toNat * te.size := by omega
  simp [hlt2, hzl, hmm]
 obtain ⟨A0, hA0⟩ : ∃ A0, A0 = (Array.range (c.toNat * te.size)).map (zero[· % zero.size]!) := ⟨_, rfl⟩
 have hA0s : A0.size = c.toNat * te.size := by rw [hA0]; simp
 rw [← hA0] at hcells
 have hrow : Rrow (E.push A0 e ⟨false, o7 l.toNat (te.zero.map .sc)⟩).bare (.at [E.n]) E.w.heap.size 0 0 (o7 l.toNat (te.zero.map .sc)) := by
  refine cD fun m v hm => ?_
  obtain ⟨u, hu, rfl, h1⟩ := hcells m v hm
  refine ⟨u, ?_, rfl, h1⟩
  rw [Nat.zero_add]
  exact (lZ _ _ _ _).trans hu
 have hob : ObR (E.push A0 e ⟨false, o7 l.toNat (te.zero.map .sc)⟩) E.n ⟨false, o7 l.toNat (te.zero.map .sc)⟩ := by
  refine .inr ⟨A0, e, ?_, ?_, ?_⟩
  ·simp only [Env.push, if_true]; exact eJ _ _ _
  ·simp [Env.push]
  ·simpa only [Env.push, if_true] using hrow
 refine iM (E' := E.push A0 e ⟨false, o7 l.toNat (te.zero.map .sc)⟩) (x := .slice (some ⟨E.w.heap.size, 0, none⟩) l.toNat c.toNat) ?_ h (tO hR hob) ?_
 ·simp only [execOp, ho]
  rw [nO (v := .slice (some ⟨E.w.heap.size, 0, none⟩) l.toNat c.toNat) (w' := (E.push A0 e ⟨false, o7 l.toNat (te.zero.map .sc)⟩).w)]
  rw [eS hR hx, eS hR hy]
  simp only [Instr.makeSlice, Sem.run_bind, aM (f4 (te := te) hT he), Result.andThen_ok, asInt, asIntOf, Sem.run_pure, dI hi, hwl, hwc, dZ hE]
  rw [if_neg (by simp; omega)]
  have hroom : ¬ (c.toNat * i.bytes > roomBytes) := by
   rw [hby]
   have : c.toNat * te.bytes ≤ 1099511627776 * 64 := Nat.mul_le_mul (by omega) hb
   simp only [roomBytes]
   omega
  simp only [Sem.run_bind, Sem.run_pure, Result.andThen_ok, askRoom, dZ hE, if_neg hroom]
  by_cases h0 : c.toNat * te.size = 0
  ·rw [if_pos h0]
   have hA1 : A0 = #[] := Array.eq_empty_of_size_eq_zero (by rw [hA0s, h0])
   have hr0 : ∀ f : Nat → Value, (Array.range 0).map f = #[] := fun f => Array.eq_empty_of_size_eq_zero (by simp)
   simp [h0, newRow, Env.push, c9, hA1, hr0]
  ·rw [if_neg h0]
   have hz' := hzero.2 h0
   subst hz'
   simp only [Sem.run_bind, Sem.run_pure, Result.andThen_ok, zeroValue, dI hi, hz, newRow, run_newObj, Env.push, c9, hA0]
 ·rw [← hR.n]
  refine ⟨by simp [Env.push], _, _, rfl, by omega, fun _ => ⟨by omega, by omega, fun h hh => (by cases hh), .inr ⟨A0, e, ?_, ?_, ?_, ?_⟩⟩⟩
  ·simp [Env.push]
  ·simp [Env.push]
  ·simp only [Env.push, if_true]; exact eJ _ _ _
  ·simp [Env.push, hA0s]
theorem HE {t e : TypeId} {ti te : TI} {len : Nat} {parts : Array (Nat × Operand)} {cs : List V} (ho : o.op = .buildSlice t len parts) (hR : Rel C E s a) (hT : TIOk P t ti) (he : ti.elem = some e) (hE : TIOk P e te) (hl : len * te.size ≤ 1000) (hz0 : te.size ≠ 0)
  (hf : mO s (fun i => some (i * te.size, te.size)) (o7 len (te.zero.map .sc)) (lL s parts.toList) = some cs)
  (h : jT s cs fun cs' s' => K (.own s'.g.length te.size 0 len len (some len)) (s'.add ⟨false, cs'⟩)) : cX P C E s a o K := by
 obtain ⟨i, z, hi, hsz, _, hz, hzc⟩ := hE.info
 have hzl : z.cells.size = te.size := by rw [← Array.length_toList, hzc, hE.zlen]
 have hinit : ∀ (c0 : Array Value), c0 = (Array.range (len * te.size)).map (fun i => (if len * te.size = 0 then #[] else z.cells)[i % (if len * te.size = 0 then (#[] : Array Value) else z.cells).size]!) → Rvs E .none (o7 len (te.zero.map .sc)) c0.toList := by
  rintro c0 rfl
  refine JI (by simp [iA, hE.zlen]) fun k c hk => ?_
  have hlt : k < len * te.size := by
   have := (List.getElem?_eq_some_iff.1 hk).1
   simpa [iA, hE.zlen] using this
  have hne : len * te.size ≠ 0 := by omega
  rw [yG _ _ _ (by simpa [hE.zlen] using hlt)] at hk
  simp only [List.length_map, hE.zlen, List.getElem?_map] at hk
  have hm : k % te.size < te.size := Nat.mod_lt _ (Nat.pos_of_ne_zero hz0)
  have hzk : te.zero[k % te.size]? = some (z.cells[k % te.size]'(by omega)) := by
   rw [← hzc]
   simp [hm, hzl]
  rw [hzk] at hk
  simp at hk
  subst hk
  refine ⟨z.cells[k % te.size]'(by omega), ?_, rfl, hE.one _ (List.mem_of_getElem? hzk)⟩
  simp only [if_neg hne, Array.toList_map, List.getElem?_map, Array.toList_range, List.getElem?_range hlt, Option.map_some, hzl]
  simp [getElem!_pos, hm, hzl]
 obtain ⟨c', hc', hr'⟩ := CP (place := fun i => some (i * te.size, te.size)) hR (hinit _ rfl) hf
 obtain ⟨E1, cs', s1, hK, hR1, hw1, hρ1, hm1, hl1, hk1, hn1, hcell⟩ := EI (kid := s.g.length) (j := 0) hR (Nat.le_refl _) h hr'
 have hid : E1.n = s.g.length := by rw [hR1.n, hl1]
 have hrow : Rrow (E1.push c' e ⟨false, cs'⟩).bare (.at [E1.n]) E1.w.heap.size 0 0 cs' := by
  refine cD fun k v hk => ?_
  obtain ⟨x, hx, hr⟩ := hcell k v hk
  refine ⟨x, ?_, ?_⟩
  ·rw [Nat.zero_add]
   exact (lZ _ _ _ _).trans (by simpa using hx)
  ·rw [hid]
   exact Rv.mono (uS hR1 c' e ⟨false, cs'⟩).bare (fun q hq => by cases hq; exact zW hR1 c' e ⟨false, cs'⟩ _) (fun q j hq _ => by cases hq) hr
 have hob : ObR (E1.push c' e ⟨false, cs'⟩) E1.n ⟨false, cs'⟩ := by
  refine .inr ⟨c', e, ?_, ?_, ?_⟩
  ·simp only [Env.push, if_true]; exact eJ _ _ _
  ·simp [Env.push]
  ·simpa only [Env.push, if_true] using hrow
 have hcl : c'.size = len * te.size := by
  have h1 := gF hr'
  have h2 : ∀ (place : Nat → Option (Nat × Nat)) (ps : List (Nat × V)) (cells cs : List V), mO s place cells ps = some cs → cs.length = cells.length := by
   intro place ps
   induction ps with
   | nil => intro cells cs h; simp only [mO, Option.some.injEq] at h; rw [h]
   | cons p ps ih =>
    intro cells cs h
    obtain ⟨j, v⟩ := p
    simp only [mO] at h
    split at h
    ·rename_i off sz vs _ _
     cases hb : (Nat.beq vs.length sz && Nat.ble (off + vs.length) cells.length) with
     | false => rw [hb] at h; cases h
     | true =>
      rw [hb] at h
      simp only [Bool.and_eq_true] at hb
      rw [ih _ _ h, yN (Nat.le_of_ble_eq_true hb.2)]
    ·cases h
  have h3 := h2 _ _ _ _ hf
  simp only [Array.length_toList] at h1
  rw [← h1, h3, iA, List.length_map, hE.zlen]
 refine iM (E' := E1.push c' e ⟨false, cs'⟩) (x := .slice (some ⟨E.w.heap.size, 0, none⟩) len len) ?_ hK (tO hR1 hob) ?_
 ·have hp2 : (parts.map fun (i, x) => (i, a.eval x)).toList = parts.toList.map fun p => (p.1, a.eval p.2) := by simp
  simp only [execOp, ho]
  rw [nO (v := .slice (some ⟨E.w.heap.size, 0, none⟩) len len) (w' := (E1.push c' e ⟨false, cs'⟩).w)]
  simp only [Instr.buildSlice, Sem.run_bind, aM (f4 (te := te) hT he), Result.andThen_ok, dZ hE]
  rw [if_neg (by omega)]
  by_cases hzero : len * te.size = 0
  ·simp only [hzero, if_true, Sem.run_pure, Result.andThen_ok, hp2] at hc' ⊢
   simp only [Sem.run_bind, Sem.run_pure, Result.andThen_ok, hc', newRow, run_newObj, Env.push, c9, hw1]
  ·simp only [if_neg hzero, Sem.run_bind, Sem.run_pure, zeroValue, dI hi, hz, Result.andThen_ok, hp2] at hc' ⊢
   simp only [Sem.run_bind, Sem.run_pure, Result.andThen_ok, hc', newRow, run_newObj, Env.push, c9, hw1]
 ·rw [← hR1.n]
  refine ⟨by simp [Env.push], _, _, rfl, Nat.le_refl _, fun _ => ⟨Nat.le_refl _, Nat.le_refl _, fun h hh => by cases hh; rfl, ?_⟩⟩
  refine .inr ⟨c', e, ?_, ?_, ?_, ?_⟩
  ·simp [Env.push, hw1]
  ·simp [Env.push]
  ·simp only [Env.push, if_true]; exact eJ _ _ _
  ·simp only [Env.push, if_true, Nat.zero_add]; rw [hcl]; exact Nat.le_refl _
def Env.lit (E : Env) (c : Array Value) (e : TypeId) : Env := { E with w := c9 E.w c e }
theorem NQ (hR : Rel C E s a) (c : Array Value) (e : TypeId) : Mono E (E.lit c e) := by
 refine ⟨by simp [Env.lit, c9], fun b hb hok => ⟨hok, cZ _ _ _ hb⟩, Nat.le_refl _, fun i hi hl => ⟨hl, rfl, fun ho => ho, fun c' e' hh => ⟨c', ?_, rfl⟩⟩, fun i j hi ht => ⟨ht, dQ (cZ _ _ _ (qL hR ht))⟩⟩
 show (c9 E.w c e).heap[_]? = _
 rw [cZ _ _ _ (cY hh)]
 exact hh
theorem a0N (hR : Rel C E s a) (c : Array Value) (e : TypeId) : Rel C (E.lit c e) s a := by
 have hm := NQ hR c e
 refine ⟨hR.size, hR.nd, fun k => (hR.slot k).slot hm, hR.g, hR.n, fun i ob hi => ObR.mono hm rfl (fun b r hb => ⟨hb, cZ _ _ _ (hR.lab _ _ hb).1⟩) (hR.ob i ob hi), hR.okb, fun b p hp => ?_, K3 hR.fr c e, hR.old, hR.pin.mono hm⟩
 obtain ⟨h1, h2⟩ := hR.lab b p hp
 exact ⟨by simp only [Env.lit, c9, Array.size_push]; omega, h2⟩
theorem a0E (hR : Rel C E s a) : E.okb E.w.heap.size := by
 rw [hR.okb]
 show E.o _ = none
 cases h : E.o E.w.heap.size with
 | none => rfl
 | some p => exact absurd (hR.lab _ _ h).1 (Nat.lt_irrefl _)
theorem O5 {t e : TypeId} {ti te : TI} {len : Nat} {parts : Array (Nat × Operand)} {cs : List V} (ho : o.op = .buildSlice t len parts) (hR : Rel C E s a) (hT : TIOk P t ti) (he : ti.elem = some e) (hE : TIOk P e te) (hl : len * te.size ≤ 1000) (hz0 : te.size ≠ 0)
  (hf : mO s (fun i => some (i * te.size, te.size)) (o7 len (te.zero.map .sc)) (lL s parts.toList) = some cs)
  (hfl : cs.all fT = true) (h : K (.ro len cs) s) : cX P C E s a o K := by
 obtain ⟨i, z, hi, hsz, _, hz, hzc⟩ := hE.info
 have hzl : z.cells.size = te.size := by rw [← Array.length_toList, hzc, hE.zlen]
 have hinit : ∀ (c0 : Array Value), c0 = (Array.range (len * te.size)).map (fun i => (if len * te.size = 0 then #[] else z.cells)[i % (if len * te.size = 0 then (#[] : Array Value) else z.cells).size]!) → Rvs E .none (o7 len (te.zero.map .sc)) c0.toList := by
  rintro c0 rfl
  refine JI (by simp [iA, hE.zlen]) fun k c hk => ?_
  have hlt : k < len * te.size := by
   have := (List.getElem?_eq_some_iff.1 hk).1
   simpa [iA, hE.zlen] using this
  have hne : len * te.size ≠ 0 := by omega
  rw [yG _ _ _ (by simpa [hE.zlen] using hlt)] at hk
  simp only [List.length_map, hE.zlen, List.getElem?_map] at hk
  have hm : k % te.size < te.size := Nat.mod_lt _ (Nat.pos_of_ne_zero hz0)
  have hzk : te.zero[k % te.size]? = some (z.cells[k % te.size]'(by omega)) := by
   rw [← hzc]
   simp [hm, hzl]
  rw [hzk] at hk
  simp at hk
  subst hk
  refine ⟨z.cells[k % te.size]'(by omega), ?_, rfl, hE.one _ (List.mem_of_getElem? hzk)⟩
  simp only [if_neg hne, Array.toList_map, List.getElem?_map, Array.toList_range, List.getElem?_range hlt, Option.map_some, hzl]
  simp [getElem!_pos, hm, hzl]
 obtain ⟨c', hc', hr'⟩ := CP (place := fun i => some (i * te.size, te.size)) hR (hinit _ rfl) hf
 have hrow : Rrow (E.lit c' e).bare .none E.w.heap.size 0 0 cs := by
  refine cD fun k v hk => ?_
  obtain ⟨x, hx, hr⟩ := gE hr' k v hk
  refine ⟨x, ?_, ?_⟩
  ·rw [Nat.zero_add]
   exact (lZ _ _ _ _).trans (by simpa using hx)
  ·exact k8 (List.all_eq_true.1 hfl v (List.mem_of_getElem? hk)) (hr.slot (NQ hR c' e))
 refine iM (E' := E.lit c' e) (x := .slice (some ⟨E.w.heap.size, 0, none⟩) len len) ?_ h (a0N hR c' e) ?_
 ·have hp2 : (parts.map fun (i, x) => (i, a.eval x)).toList = parts.toList.map fun p => (p.1, a.eval p.2) := by simp
  simp only [execOp, ho]
  rw [nO (v := .slice (some ⟨E.w.heap.size, 0, none⟩) len len) (w' := (E.lit c' e).w)]
  simp only [Instr.buildSlice, Sem.run_bind, aM (f4 (te := te) hT he), Result.andThen_ok, dZ hE]
  rw [if_neg (by omega)]
  by_cases hzero : len * te.size = 0
  ·simp only [hzero, if_true, Sem.run_pure, Result.andThen_ok, hp2] at hc' ⊢
   simp only [Sem.run_bind, Sem.run_pure, Result.andThen_ok, hc', newRow, run_newObj, Env.lit, c9]
  ·simp only [if_neg hzero, Sem.run_bind, Sem.run_pure, zeroValue, dI hi, hz, Result.andThen_ok, hp2] at hc' ⊢
   simp only [Sem.run_bind, Sem.run_pure, Result.andThen_ok, hc', newRow, run_newObj, Env.lit, c9]
 ·refine ⟨_, _, rfl, Nat.le_refl _, fun _ => ⟨_, 0, rfl, a0E hR, ?_, hrow⟩⟩
  simp [Env.lit, c9]
end
end Go.Proofs.YtboolngaahifdaaGreatD
namespace Go.Proofs.YtboolngaahifdaaGreatD
open Go
def GN (w : World) (B : Option Addr) (xs : List Value) : Prop := xs = [] ∨ ∃ ad, B = some ad ∧ ∀ j u, xs[j]? = some u → w.cell? (ad.add j) = some u
theorem zO (P : Program) {w : World} {size m c : Nat} {B : Option Addr} {xs : List Value} (hl : xs.length = m * size) (h : GN w B xs) : (Builtin.firstCells size m (.slice B m c)).run P w = .ok xs.toArray w := by
 rcases h with rfl | ⟨ad, rfl, h⟩
 ·cases B with
  | none => exact run_firstCells_none w size m m c
  | some ad => exact run_firstCells_some w size m ad m c [] hl (by simp)
 ·exact run_firstCells_some w size m ad m c xs hl h
theorem oK {P : Program} {w : World} {t u ty e e' : TypeId} {i : TypeInfo} {z : Value} (ht : P.underlying t = some (.slice e)) (hu : P.underlying u = some (.slice e')) (hi : P.info? e = some i) (hz : i.zero = some z)
  {A B : Option Addr} {n cap m c : Nat} {olds news : List Value} (hol : olds.length = n * i.size) (ho : GN w A olds) (hnl : news.length = m * i.size) (hn : GN w B news)
  (hg : cap < n + m) (hle : n + m ≤ 1099511627776) (hb : i.bytes ≤ 64) :
  (Builtin.append_ #[t, u] ty #[.slice A n cap, .slice B m c]).run P w = .ok (.slice (some ⟨w.heap.size, 0, none⟩) (n + m) (grownCap w (n + m) cap e))
   (w.drew.alloc (.cells (olds.toArray ++ news.toArray ++ Builtin.zeroCells z.cells (grownCap w (n + m) cap e - (n + m))) e)) := by
 have hn' : ¬ (n + m ≤ cap) := by omega
 have h63' : ¬ (9223372036854775807 < ((n : Int) + (m : Int))) := by omega
 have hmul : (n + m) * i.bytes ≤ 1099511627776 * 64 := Nat.mul_le_mul hle hb
 have hfit := growslice_fits (need := n + m) (old := cap) (bytes := i.bytes) (by omega) (by omega)
 have h48' : ¬ (281474976710656 < Builtin.nextslicecap (n + m) cap * i.bytes) := by omega
 have hf : (Builtin.firstCells i.size m (.slice B m c)).run P w.drew = .ok news.toArray w.drew := zO P hnl (by rcases hn with h | ⟨ad, h1, h2⟩; exact .inl h; exact .inr ⟨ad, h1, by simpa using h2⟩)
 have hfo : (Builtin.firstCells i.size n (.slice A n cap)).run P w.drew = .ok olds.toArray w.drew := zO P hol (by rcases ho with h | ⟨ad, h1, h2⟩; exact .inl h; exact .inr ⟨ad, h1, by simpa using h2⟩)
 simp [Builtin.append_, aM ht, aM hu, sizeOf, typeInfo, zeroValue, hi, hz, Builtin.lenOf, hn', h63', h48', Question.forced, hf, hfo, newRow, grownCap]
 congr 2
 apply Array.ext'
 simp [List.append_assoc]
theorem hJ {P : Program} {w w' : World} {t u ty e e' : TypeId} {i : TypeInfo} (ht : P.underlying t = some (.slice e)) (hu : P.underlying u = some (.slice e')) (hi : P.info? e = some i)
  {A B : Option Addr} {n cap m c : Nat} {news : List Value} (hnl : news.length = m * i.size) (hn : GN w B news)
  (hg : n + m ≤ cap) (hs : ∀ ad, A = some ad → (storeCells (ad.add (n * i.size)) news).run P w = .ok () w') (hnone : A = none → w' = w) :
  (Builtin.append_ #[t, u] ty #[.slice A n cap, .slice B m c]).run P w = .ok (.slice A (n + m) cap) w' := by
 have hf : (Builtin.firstCells i.size m (.slice B m c)).run P w = .ok news.toArray w := zO P hnl hn
 cases A with
 | none =>
  rw [hnone rfl]
  simp [Builtin.append_, aM ht, aM hu, sizeOf, typeInfo, hi, Builtin.lenOf, hg, hf]
 | some ad =>
  have := hs ad rfl
  simp [Builtin.append_, aM ht, aM hu, sizeOf, typeInfo, hi, Builtin.lenOf, hg, hf, this]
section
variable {P : Program} {Γ : Tab} {C : Ctx} {E : Env} {s : St} {a : Act} {o : Oper} {K : V → St → Prop}
def kT (j off kid start : Nat) : Option (List Nat) → Option (List Nat)
 | some (h :: k :: r) => if h = j then some (kid :: (start + (k - off)) :: r) else some (h :: k :: r)
 | x => x
def Env.mvr (E : Env) (j off kid start : Nat) : Env :=
 {E with o := fun b => kT j off kid start (E.o b), g := fun i => if i = j then none else E.g i, okb := fun b => kT j off kid start (E.o b) = none }
theorem OM {j off kid start : Nat} {x : Option (List Nat)} : kT j off kid start x = none ↔ x = none := by
 unfold kT
 split
 ·split <;> simp
 ·rfl
theorem yD {j off kid start : Nat} {i : Nat} {r : List Nat} (h : i ≠ j) : kT j off kid start (some (i :: r)) = some (i :: r) := by
 cases r <;> simp [kT, h]
theorem EU (hR : Rel C E s a) (j off kid start : Nat) : Mono E (E.mvr j off kid start) := by
 refine ⟨Nat.le_refl _, fun b _ hok => ⟨?_, rfl⟩, Nat.le_refl _, fun i hi hl => ?_, fun i k hi ht => ?_⟩
 ·show kT j off kid start (E.o b) = none
  rw [hR.okb] at hok
  exact OM.2 hok
 ·have hji : i ≠ j := by
   intro h
   simp [Env.mvr, h] at hl
  refine ⟨by simpa [Env.mvr, hji] using hl, rfl, fun ho => ?_, fun c e h => ⟨c, h, rfl⟩⟩
  show kT j off kid start (E.o (E.ρ i).1) = some [i]
  rw [ho, yD hji]
 ·obtain ⟨cs, sz, n, r, hg, hk⟩ := ht
  have hji : i ≠ j := by
   intro h
   simp [Env.mvr, h] at hg
  exact ⟨⟨cs, sz, n, r, by simpa [Env.mvr, hji] using hg, hk⟩, rfl⟩
theorem Y0 {i j off kid start : Nat} {q : List Nat} (h : i ≠ j) : Kept E (E.mvr j off kid start) (i :: q) := fun b r hb => by
 refine ⟨?_, rfl⟩
 show kT j off kid start (E.o b) = _
 rw [hb]
 exact yD h
theorem UY (j off kid start k : Nat) : Moved E (E.mvr j off kid start) [j, off + k] [kid, start + k] := fun b r hb => by
 refine ⟨?_, rfl⟩
 show kT j off kid start (E.o b) = _
 rw [hb]
 simp [kT]
theorem a0O (hR : Rel C E s a) {j : Nat} {ob0 : Obj} (hj : s.ob j = some ob0) (off kid start : Nat) : Rel C (E.mvr j off kid start) (s.put j none) a := by
 have hm := EU hR j off kid start
 refine ⟨hR.size, hR.nd, fun k => (hR.slot k).slot hm, ?_, ?_, fun i x hx => ?_, rfl, fun b q hq => ?_, hR.fr, fun b hb hl => ?_, hR.pin.mono hm⟩
 ·funext i
  rw [lO hj]
  simp only [Env.mvr, hR.g]
 ·simp [Env.mvr, St.put, dB, hR.n]
 ·rw [lO hj] at hx
  by_cases hji : i = j
  ·rw [if_pos hji] at hx; cases hx
  ·rw [if_neg hji] at hx
   exact ObR.mono hm rfl (Y0 hji) (hR.ob i x hx)
 ·have : E.o b ≠ none := by
   intro h
   simp only [Env.mvr, h, kT] at hq
   cases hq
  cases h : E.o b with
  | none => exact absurd h this
  | some q' =>
   obtain ⟨h1, h2⟩ := hR.lab b q' h
   refine ⟨h1, ?_⟩
   rcases h2 with rfl | h2
   ·left
    simp only [Env.mvr, h, kT, Option.some.injEq] at hq
    exact hq.symm
   ·exact .inr h2
 ·have h := hR.old b hb hl
  show kT j off kid start (E.o b) = _
  rw [h]
  cases ho : C.o0 b with
  | none => rfl
  | some q => rw [C.dull b q hl ho]; rfl
theorem a37 {E : Env} {v : V} {x : Value} (h : Rv E.bare .none v x) (p : List Nat) : Rv E.bare (.at p) v x := by
 cases v <;> try exact h
 ·obtain ⟨A, cap, hx, hc, hl, hr⟩ := h
  refine ⟨A, cap, hx, hc, hl, ?_⟩
  rcases hr with hr | ⟨b, off, q, c, e, hA, hq, _⟩
  ·exact .inl hr
  ·simp [Md.leaf] at hq
 ·obtain ⟨_, _, _, _, _, _, hq, _⟩ := h
  simp [Md.leaf] at hq
theorem g9 {E : Env} : ∀ {m : Md} {b off j : Nat} {cs : List V}, Rrow E m b off j cs → ∃ xs : List Value, xs.length = cs.length ∧ ∀ k c, cs[k]? = some c → ∃ v, xs[k]? = some v ∧ E.w.cell? ⟨b, off + k, none⟩ = some v ∧ Rv E (m.child (j + k)) c v
 | m, b, off, j, [], _ => ⟨[], rfl, fun k v h => by simp at h⟩
 | m, b, off, j, c :: cs, ⟨⟨v, hv, hr⟩, hs⟩ => by
  obtain ⟨xs, hl, hc⟩ := g9 hs
  refine ⟨v :: xs, by simp [hl], fun k u hk => ?_⟩
  cases k with
  | zero => simp at hk; subst hk; exact ⟨v, rfl, hv, hr⟩
  | succ k =>
   obtain ⟨y, h1, h2, h3⟩ := hc k u (by simpa using hk)
   exact ⟨y, by simpa using h1, by rw [← h2]; congr 2; omega, by rw [show j + (k + 1) = j + 1 + k from by omega]; exact h3⟩
theorem E4 {v : V} (h : fT v = true) : eU v = true := by cases v <;> simp_all [fT, eU]
theorem eB {α : Type} {xs : List α} {n k : Nat} {v : α} (hl : xs.length = n) (h : xs[k]? = some v) : k < n := by rw [← hl]; exact (List.getElem?_eq_some_iff.1 h).1
theorem iX {v : V} {K : Nat → List V → St → Prop} {x : Value} {sz kid start : Nat} (hR : Rel C E s a) (hk : s.g.length ≤ kid) (h : LU s sz v K) (hv : Rv E .none v x) :
  ∃ E1 m src s1 B c xs, K m src s1 ∧ Rel C E1 s1 a ∧ E1.w = E.w ∧ Mono E E1 ∧ s1.g.length = s.g.length ∧ x = .slice B m c ∧ xs.length = m * sz ∧ src.length = xs.length ∧ GN E.w B xs ∧ (∀ u ∈ xs, u.oneCell' = true) ∧
   ∀ k c, src[k]? = some c → ∃ z, xs[k]? = some z ∧ Rv E1.bare (.at [kid, start + k]) c z := by
 cases v <;> simp only [LU] at h
 case sc v =>
  obtain ⟨rfl, _⟩ := hv
  split at h <;> try (exact h.elim)
  all_goals rename_i heq
  all_goals first | (cases heq; done) | skip
  ·cases heq
   exact ⟨E, 0, [], s, none, 0, [], h, hR, rfl, eO E, rfl, rfl, by simp, rfl, .inl rfl, by simp, by simp⟩
 case ro m cs =>
  obtain ⟨hl, hsol, hK⟩ := h
  obtain ⟨A, cap, rfl, hc, hr⟩ := hv
  by_cases hne : cs = []
  ·subst hne
   exact ⟨E, m, [], s, A, cap, [], hK, hR, rfl, eO E, rfl, rfl, by simpa using hl, rfl, .inl rfl, by simp, by simp⟩
  ·obtain ⟨b, off, hA, hok, hb, hrow⟩ := hr hne
   obtain ⟨xs, hxl, hx⟩ := g9 hrow
   refine ⟨E, m, cs, s, A, cap, xs, hK, hR, rfl, eO E, rfl, rfl, hxl.trans hl, hxl.symm, .inr ⟨_, hA, fun j u hj => ?_⟩, fun u hu => ?_, fun k c hk => ?_⟩
   ·have hlt := eB hxl hj
    obtain ⟨v', h1, h2, _⟩ := hx j _ (List.getElem?_eq_getElem hlt)
    rw [hj] at h1
    cases h1
    rw [cV]
    exact h2
   ·obtain ⟨j, hj⟩ := List.getElem?_of_mem hu
    have hlt := eB hxl hj
    obtain ⟨v', h1, h2, h3⟩ := hx j _ (List.getElem?_eq_getElem hlt)
    rw [hj] at h1
    cases h1
    exact kG (hsol _ (List.getElem_mem hlt)) h3
   ·obtain ⟨v', h1, h2, h3⟩ := hx k c hk
    exact ⟨v', h1, a37 h3 _⟩
 case own j sz' off m lo hi =>
  cases hob : s.ob j with
  | none => rw [hob] at h; exact h.elim
  | some ob =>
  obtain ⟨bx, cs⟩ := ob
  cases bx with
  | true => rw [hob] at h; exact h.elim
  | false =>
  rw [hob] at h
  simp only at h
  cases hb : Nat.beq sz' sz with
  | false => rw [hb] at h; exact h.elim
  | true =>
  have hszz : sz' = sz := Nat.eq_of_beq_eq_true hb
  subst hszz
  rw [hb] at h
  obtain ⟨r, hr, h⟩ := h
  obtain ⟨hle, hreq, hrl⟩ := e8 hr
  obtain ⟨hin, A, cap, rfl, hnc, hlv⟩ := hv
  obtain ⟨hc, hlo, hhi, hbl⟩ := hlv (dA hR hob)
  have hrc : ∀ k c, r[k]? = some c → cs[off + k]? = some c := by
   intro k c hk
   rw [hreq, List.getElem?_take] at hk
   split at hk
   ·rwa [List.getElem?_drop] at hk
   ·cases hk
  have hvals : ∃ xs : List Value, xs.length = r.length ∧ GN E.w A xs ∧ ∀ k c, r[k]? = some c → ∃ v, xs[k]? = some v ∧ Rv E.bare (.at [j, off + k]) c v := by
   by_cases hne : r = []
   ·subst hne
    exact ⟨[], rfl, .inl rfl, by simp⟩
   ·have hrp : 0 < r.length := List.length_pos_iff.2 hne
    rcases hbl with h0 | ⟨c, e, hA, ho, hh, hs⟩
    ·have hm0 : m = 0 := by omega
     rw [hm0, Nat.zero_mul] at hrl
     omega
    ·rcases hR.ob j _ hob with h0 | ⟨c', e', hh', hl', hrow⟩
     ·rw [h0] at hle; simp at hle; omega
     ·obtain ⟨xs, hxl, hx⟩ := g9 hrow
      have hxr : ((xs.drop off).take (m * sz')).length = r.length := by rw [hrl]; simp; omega
      refine ⟨(xs.drop off).take (m * sz'), hxr, .inr ⟨_, hA, fun k u hk => ?_⟩, fun k c hk => ?_⟩
      ·have hlt := eB hxr hk
       obtain ⟨v', h1, h2, _⟩ := hx (off + k) _ (hrc k _ (List.getElem?_eq_getElem hlt))
       rw [List.getElem?_take, if_pos (by omega), List.getElem?_drop, h1] at hk
       cases hk
       rw [cV, Nat.add_assoc]
       exact h2
      ·obtain ⟨v', h1, h2, h3⟩ := hx (off + k) _ (hrc k _ hk)
       refine ⟨v', ?_, by simpa [Md.child] using h3⟩
       rw [List.getElem?_take, if_pos (by have := eB rfl hk; omega), List.getElem?_drop, h1]
  obtain ⟨xs, hxl, hlies, hx⟩ := hvals
  have hone : (∀ c ∈ r, eU c = true) → ∀ u ∈ xs, u.oneCell' = true := by
   intro hsol u hu
   obtain ⟨k, hk⟩ := List.getElem?_of_mem hu
   have hlt := eB hxl hk
   obtain ⟨v', h1, h3⟩ := hx k _ (List.getElem?_eq_getElem hlt)
   rw [hk] at h1
   cases h1
   exact kG (hsol _ (List.getElem_mem hlt)) h3
  rcases h with ⟨hfl, hK⟩ | ⟨hsol, hK⟩
  ·refine ⟨E, m, r, s, A, cap, xs, hK, hR, rfl, eO E, rfl, rfl, hxl.trans hrl, hxl.symm, hlies, hone fun c hc => E4 (hfl c hc), fun k c hk => ?_⟩
   obtain ⟨v', h1, h3⟩ := hx k c hk
   exact ⟨v', h1, k8 (E := E.bare) (hfl c (List.mem_of_getElem? hk)) h3⟩
  ·refine ⟨E.mvr j off kid start, m, r, s.put j none, A, cap, xs, hK, a0O hR hob _ _ _, rfl, EU hR _ _ _ _, jM _ _ _, rfl, hxl.trans hrl, hxl.symm, hlies, hone hsol, fun k c hk => ?_⟩
   obtain ⟨v', h1, h3⟩ := hx k c hk
   exact ⟨v', h1, Rv.move (EU hR j off kid start).bare (UY j off kid start k) h3⟩
 case sub i j =>
  cases hob : s.ob i with
  | none => rw [hob] at h; exact h.elim
  | some ob =>
  obtain ⟨bx, cs⟩ := ob
  cases bx with
  | true => rw [hob] at h; exact h.elim
  | false =>
  rw [hob] at h
  obtain ⟨m, r, hj, hfl, hK⟩ := h
  have hcell := hv.2.2 (n8 hR hob hj)
  obtain ⟨A, cap, hcell', hc, hrl, hb⟩ := v7 hR hob hj
  rw [hcell] at hcell'
  have hx : x = .slice A m cap := Option.some.inj hcell'
  by_cases hne : r = []
  ·subst hne
   exact ⟨E, m, [], s, A, cap, [], hK, hR, rfl, eO E, rfl, hx, by simpa using hrl, rfl, .inl rfl, by simp, by simp⟩
  ·have hrp : 0 < r.length := List.length_pos_iff.2 hne
   rcases hb with h0 | ⟨b, d, c, e, hA, ho, hh, hs, hrow⟩
   ·have hm0 : m = 0 := by omega
    rw [hm0, Nat.zero_mul] at hrl
    omega
   ·obtain ⟨xs, hxl, hxx⟩ := g9 hrow
    refine ⟨E, m, r, s, A, cap, xs, hK, hR, rfl, eO E, rfl, hx, hxl.trans hrl, hxl.symm, .inr ⟨_, hA, fun k u hk => ?_⟩, fun u hu => ?_, fun k c hk => ?_⟩
    ·have hlt := eB hxl hk
     obtain ⟨v', h1, h2, _⟩ := hxx k _ (List.getElem?_eq_getElem hlt)
     rw [hk] at h1
     cases h1
     rw [cV]
     exact h2
    ·obtain ⟨k, hk⟩ := List.getElem?_of_mem hu
     have hlt := eB hxl hk
     obtain ⟨v', h1, _, h3⟩ := hxx k _ (List.getElem?_eq_getElem hlt)
     rw [hk] at h1
     cases h1
     exact kG (E4 (hfl _ (List.getElem_mem hlt))) h3
    ·obtain ⟨v', h1, _, h3⟩ := hxx k c hk
     exact ⟨v', h1, k8 (E := E.bare) (hfl c (List.mem_of_getElem? hk)) h3⟩
end
end Go.Proofs.YtboolngaahifdaaGreatD
