/- append: how it runs; where its source's cells come from. -/
import Derived.Test.YtiplgkbgkmomlaaD11
import Derived.Laws.Append
set_option linter.unusedVariables false
set_option linter.unusedSimpArgs false
namespace Go.Proofs.YtiplgkbgkmomlaaD
open Go

def Lies (w : World) (B : Option Addr) (xs : List Value) : Prop := xs = [] ∨ ∃ ad, B = some ad ∧ ∀ j u, xs[j]? = some u → w.cell? (ad.add j) = some u

theorem first_run (P : Program) {w : World} {size m c : Nat} {B : Option Addr} {xs : List Value} (hl : xs.length = m * size) (h : Lies w B xs) : (Builtin.firstCells size m (.slice B m c)).run P w = .ok xs.toArray w := by
  rcases h with rfl | ⟨ad, rfl, h⟩
  · cases B with
    | none => exact run_firstCells_none w size m m c
    | some ad => exact run_firstCells_some w size m ad m c [] hl (by simp)
  · exact run_firstCells_some w size m ad m c xs hl h

theorem append_grow {P : Program} {w : World} {t u ty e e' : TypeId} {i : TypeInfo} {z : Value} (ht : P.underlying t = some (.slice e)) (hu : P.underlying u = some (.slice e')) (hi : P.info? e = some i) (hz : i.zero = some z)
    {A B : Option Addr} {n cap m c : Nat} {olds news : List Value} (hol : olds.length = n * i.size) (ho : Lies w A olds) (hnl : news.length = m * i.size) (hn : Lies w B news)
    (hg : cap < n + m) (hle : n + m ≤ 1099511627776) (hb : i.bytes ≤ 64) :
    (Builtin.append_ #[t, u] ty #[.slice A n cap, .slice B m c]).run P w = .ok (.slice (some ⟨w.heap.size, 0, none⟩) (n + m) (grownCap w (n + m) cap e))
      (w.drew.alloc (.cells (olds.toArray ++ news.toArray ++ Builtin.zeroCells z.cells (grownCap w (n + m) cap e - (n + m))) e)) := by
  have hn' : ¬ (n + m ≤ cap) := by omega
  have h63' : ¬ (9223372036854775807 < ((n : Int) + (m : Int))) := by omega
  have hmul : (n + m) * i.bytes ≤ 1099511627776 * 64 := Nat.mul_le_mul hle hb
  have hfit := growslice_fits (need := n + m) (old := cap) (bytes := i.bytes) (by omega) (by omega)
  have h48' : ¬ (281474976710656 < Builtin.nextslicecap (n + m) cap * i.bytes) := by omega
  have hf : (Builtin.firstCells i.size m (.slice B m c)).run P w.drew = .ok news.toArray w.drew := first_run P hnl (by rcases hn with h | ⟨ad, h1, h2⟩; exact .inl h; exact .inr ⟨ad, h1, by simpa using h2⟩)
  have hfo : (Builtin.firstCells i.size n (.slice A n cap)).run P w.drew = .ok olds.toArray w.drew := first_run P hol (by rcases ho with h | ⟨ad, h1, h2⟩; exact .inl h; exact .inr ⟨ad, h1, by simpa using h2⟩)
  simp [Builtin.append_, run_underlying ht, run_underlying hu, sizeOf, typeInfo, zeroValue, hi, hz, Builtin.lenOf, hn', h63', h48', Question.forced, hf, hfo, newRow, grownCap]
  congr 2
  apply Array.ext'
  simp [List.append_assoc]
theorem append_room {P : Program} {w w' : World} {t u ty e e' : TypeId} {i : TypeInfo} (ht : P.underlying t = some (.slice e)) (hu : P.underlying u = some (.slice e')) (hi : P.info? e = some i)
    {A B : Option Addr} {n cap m c : Nat} {news : List Value} (hnl : news.length = m * i.size) (hn : Lies w B news)
    (hg : n + m ≤ cap) (hs : ∀ ad, A = some ad → (storeCells (ad.add (n * i.size)) news).run P w = .ok () w') (hnone : A = none → w' = w) :
    (Builtin.append_ #[t, u] ty #[.slice A n cap, .slice B m c]).run P w = .ok (.slice A (n + m) cap) w' := by
  have hf : (Builtin.firstCells i.size m (.slice B m c)).run P w = .ok news.toArray w := first_run P hnl hn
  cases A with
  | none =>
    rw [hnone rfl]
    simp [Builtin.append_, run_underlying ht, run_underlying hu, sizeOf, typeInfo, hi, Builtin.lenOf, hg, hf]
  | some ad =>
    have := hs ad rfl
    simp [Builtin.append_, run_underlying ht, run_underlying hu, sizeOf, typeInfo, hi, Builtin.lenOf, hg, hf, this]

section
variable {P : Program} {Γ : Tab} {C : Ctx} {E : Env} {s : St} {a : Act} {o : Oper} {K : V → St → Prop}

/-- Part of an object's row goes elsewhere. -/
def relabR (j off kid start : Nat) : Option (List Nat) → Option (List Nat)
  | some (h :: k :: r) => if h = j then some (kid :: (start + (k - off)) :: r) else some (h :: k :: r)
  | x => x
def Env.mvr (E : Env) (j off kid start : Nat) : Env :=
  { E with o := fun b => relabR j off kid start (E.o b), g := fun i => if i = j then none else E.g i, okb := fun b => relabR j off kid start (E.o b) = none }
theorem relabR_none {j off kid start : Nat} {x : Option (List Nat)} : relabR j off kid start x = none ↔ x = none := by
  unfold relabR
  split
  · split <;> simp
  · rfl
theorem relabR_other {j off kid start : Nat} {i : Nat} {r : List Nat} (h : i ≠ j) : relabR j off kid start (some (i :: r)) = some (i :: r) := by
  cases r <;> simp [relabR, h]
theorem mvr_mono (hR : Rel C E s a) (j off kid start : Nat) : Mono E (E.mvr j off kid start) := by
  refine ⟨Nat.le_refl _, fun b _ hok => ⟨?_, rfl⟩, Nat.le_refl _, fun i hi hl => ?_, fun i k hi ht => ?_⟩
  · show relabR j off kid start (E.o b) = none
    rw [hR.okb] at hok
    exact relabR_none.2 hok
  · have hji : i ≠ j := by
      intro h
      simp [Env.mvr, h] at hl
    refine ⟨by simpa [Env.mvr, hji] using hl, rfl, fun ho => ?_, fun c e h => ⟨c, h, rfl⟩⟩
    show relabR j off kid start (E.o (E.ρ i).1) = some [i]
    rw [ho, relabR_other hji]
  · obtain ⟨cs, sz, n, r, hg, hk⟩ := ht
    have hji : i ≠ j := by
      intro h
      simp [Env.mvr, h] at hg
    exact ⟨⟨cs, sz, n, r, by simpa [Env.mvr, hji] using hg, hk⟩, rfl⟩
theorem mvr_kept {i j off kid start : Nat} {q : List Nat} (h : i ≠ j) : Kept E (E.mvr j off kid start) (i :: q) := fun b r hb => by
  refine ⟨?_, rfl⟩
  show relabR j off kid start (E.o b) = _
  rw [hb]
  exact relabR_other h
theorem mvr_moved (j off kid start k : Nat) : Moved E (E.mvr j off kid start) [j, off + k] [kid, start + k] := fun b r hb => by
  refine ⟨?_, rfl⟩
  show relabR j off kid start (E.o b) = _
  rw [hb]
  simp [relabR]
theorem rel_mvr (hR : Rel C E s a) {j : Nat} {ob0 : Obj} (hj : s.ob j = some ob0) (off kid start : Nat) : Rel C (E.mvr j off kid start) (s.put j none) a := by
  have hm := mvr_mono hR j off kid start
  refine ⟨hR.size, hR.nd, fun k => (hR.slot k).slot hm, ?_, ?_, fun i x hx => ?_, rfl, fun b q hq => ?_, hR.fr, fun b hb hl => ?_, hR.pin.mono hm⟩
  · funext i
    rw [putNone_ob hj]
    simp only [Env.mvr, hR.g]
  · simp [Env.mvr, St.put, setOb_length, hR.n]
  · rw [putNone_ob hj] at hx
    by_cases hji : i = j
    · rw [if_pos hji] at hx; cases hx
    · rw [if_neg hji] at hx
      exact ObR.mono hm rfl (mvr_kept hji) (hR.ob i x hx)
  · have : E.o b ≠ none := by
      intro h
      simp only [Env.mvr, h, relabR] at hq
      cases hq
    cases h : E.o b with
    | none => exact absurd h this
    | some q' =>
      obtain ⟨h1, h2⟩ := hR.lab b q' h
      refine ⟨h1, ?_⟩
      rcases h2 with rfl | h2
      · left
        simp only [Env.mvr, h, relabR, Option.some.injEq] at hq
        exact hq.symm
      · exact .inr h2
  · have h := hR.old b hb hl
    show relabR j off kid start (E.o b) = _
    rw [h]
    cases ho : C.o0 b with
    | none => rfl
    | some q => rw [C.dull b q hl ho]; rfl

theorem Rv_at {E : Env} {v : V} {x : Value} (h : Rv E.bare .none v x) (p : List Nat) : Rv E.bare (.at p) v x := by
  cases v <;> try exact h
  · obtain ⟨A, cap, hx, hc, hl, hr⟩ := h
    refine ⟨A, cap, hx, hc, hl, ?_⟩
    rcases hr with hr | ⟨b, off, q, c, e, hA, hq, _⟩
    · exact .inl hr
    · simp [Md.leaf] at hq
  · obtain ⟨_, _, _, _, _, _, hq, _⟩ := h
    simp [Md.leaf] at hq
theorem Rrow_vals' {E : Env} : ∀ {m : Md} {b off j : Nat} {cs : List V}, Rrow E m b off j cs → ∃ xs : List Value, xs.length = cs.length ∧ ∀ k c, cs[k]? = some c → ∃ v, xs[k]? = some v ∧ E.w.cell? ⟨b, off + k, none⟩ = some v ∧ Rv E (m.child (j + k)) c v
  | m, b, off, j, [], _ => ⟨[], rfl, fun k v h => by simp at h⟩
  | m, b, off, j, c :: cs, ⟨⟨v, hv, hr⟩, hs⟩ => by
    obtain ⟨xs, hl, hc⟩ := Rrow_vals' hs
    refine ⟨v :: xs, by simp [hl], fun k u hk => ?_⟩
    cases k with
    | zero => simp at hk; subst hk; exact ⟨v, rfl, hv, hr⟩
    | succ k =>
      obtain ⟨y, h1, h2, h3⟩ := hc k u (by simpa using hk)
      exact ⟨y, by simpa using h1, by rw [← h2]; congr 2; omega, by rw [show j + (k + 1) = j + 1 + k from by omega]; exact h3⟩
theorem flat_solid {v : V} (h : flat v = true) : solid v = true := by cases v <;> simp_all [flat, solid]
theorem list_some {α : Type} {xs : List α} {n k : Nat} {v : α} (hl : xs.length = n) (h : xs[k]? = some v) : k < n := by rw [← hl]; exact (List.getElem?_eq_some_iff.1 h).1

theorem src_ok {v : V} {K : Nat → List V → St → Prop} {x : Value} {sz kid start : Nat} (hR : Rel C E s a) (hk : s.g.length ≤ kid) (h : srcK s sz v K) (hv : Rv E .none v x) :
    ∃ E1 m src s1 B c xs, K m src s1 ∧ Rel C E1 s1 a ∧ E1.w = E.w ∧ Mono E E1 ∧ s1.g.length = s.g.length ∧ x = .slice B m c ∧ xs.length = m * sz ∧ src.length = xs.length ∧ Lies E.w B xs ∧ (∀ u ∈ xs, u.oneCell' = true) ∧
      ∀ k c, src[k]? = some c → ∃ z, xs[k]? = some z ∧ Rv E1.bare (.at [kid, start + k]) c z := by
  cases v <;> simp only [srcK] at h
  case sc v =>
    obtain ⟨rfl, _⟩ := hv
    split at h <;> try (exact h.elim)
    all_goals rename_i heq
    all_goals first | (cases heq; done) | skip
    · cases heq
      exact ⟨E, 0, [], s, none, 0, [], h, hR, rfl, mono_refl E, rfl, rfl, by simp, rfl, .inl rfl, by simp, by simp⟩
  case ro m cs =>
    obtain ⟨hl, hsol, hK⟩ := h
    obtain ⟨A, cap, rfl, hc, hr⟩ := hv
    by_cases hne : cs = []
    · subst hne
      exact ⟨E, m, [], s, A, cap, [], hK, hR, rfl, mono_refl E, rfl, rfl, by simpa using hl, rfl, .inl rfl, by simp, by simp⟩
    · obtain ⟨b, off, hA, hok, hb, hrow⟩ := hr hne
      obtain ⟨xs, hxl, hx⟩ := Rrow_vals' hrow
      refine ⟨E, m, cs, s, A, cap, xs, hK, hR, rfl, mono_refl E, rfl, rfl, hxl.trans hl, hxl.symm, .inr ⟨_, hA, fun j u hj => ?_⟩, fun u hu => ?_, fun k c hk => ?_⟩
      · have hlt := list_some hxl hj
        obtain ⟨v', h1, h2, _⟩ := hx j _ (List.getElem?_eq_getElem hlt)
        rw [hj] at h1
        cases h1
        rw [addr_add]
        exact h2
      · obtain ⟨j, hj⟩ := List.getElem?_of_mem hu
        have hlt := list_some hxl hj
        obtain ⟨v', h1, h2, h3⟩ := hx j _ (List.getElem?_eq_getElem hlt)
        rw [hj] at h1
        cases h1
        exact solid_one (hsol _ (List.getElem_mem hlt)) h3
      · obtain ⟨v', h1, h2, h3⟩ := hx k c hk
        exact ⟨v', h1, Rv_at h3 _⟩
  case own j sz' off m lo hi =>
    cases hob : s.ob j with
    | none => rw [hob] at h; exact h.elim
    | some ob =>
    obtain ⟨bx, cs⟩ := ob
    cases bx with
    | true => rw [hob] at h; exact h.elim
    | false =>
    rw [hob] at h
    simp only at h
    cases hb : Nat.beq sz' sz with
    | false => rw [hb] at h; exact h.elim
    | true =>
    have hszz : sz' = sz := Nat.eq_of_beq_eq_true hb
    subst hszz
    rw [hb] at h
    obtain ⟨r, hr, h⟩ := h
    obtain ⟨hle, hreq, hrl⟩ := takeN_some hr
    obtain ⟨hin, A, cap, rfl, hlv⟩ := hv
    obtain ⟨hc, hlo, hhi, hbl⟩ := hlv (ob_live hR hob)
    have hrc : ∀ k c, r[k]? = some c → cs[off + k]? = some c := by
      intro k c hk
      rw [hreq, List.getElem?_take] at hk
      split at hk
      · rwa [List.getElem?_drop] at hk
      · cases hk
    -- the values that lie there
    have hvals : ∃ xs : List Value, xs.length = r.length ∧ Lies E.w A xs ∧ ∀ k c, r[k]? = some c → ∃ v, xs[k]? = some v ∧ Rv E.bare (.at [j, off + k]) c v := by
      by_cases hne : r = []
      · subst hne
        exact ⟨[], rfl, .inl rfl, by simp⟩
      · have hrp : 0 < r.length := List.length_pos_iff.2 hne
        rcases hbl with h0 | ⟨c, e, hA, ho, hh, hs⟩
        · have hm0 : m = 0 := by omega
          rw [hm0, Nat.zero_mul] at hrl
          omega
        · rcases hR.ob j _ hob with h0 | ⟨c', e', hh', hl', hrow⟩
          · rw [h0] at hle; simp at hle; omega
          · obtain ⟨xs, hxl, hx⟩ := Rrow_vals' hrow
            have hxr : ((xs.drop off).take (m * sz')).length = r.length := by rw [hrl]; simp; omega
            refine ⟨(xs.drop off).take (m * sz'), hxr, .inr ⟨_, hA, fun k u hk => ?_⟩, fun k c hk => ?_⟩
            · have hlt := list_some hxr hk
              obtain ⟨v', h1, h2, _⟩ := hx (off + k) _ (hrc k _ (List.getElem?_eq_getElem hlt))
              rw [List.getElem?_take, if_pos (by omega), List.getElem?_drop, h1] at hk
              cases hk
              rw [addr_add, Nat.add_assoc]
              exact h2
            · obtain ⟨v', h1, h2, h3⟩ := hx (off + k) _ (hrc k _ hk)
              refine ⟨v', ?_, by simpa [Md.child] using h3⟩
              rw [List.getElem?_take, if_pos (by have := list_some rfl hk; omega), List.getElem?_drop, h1]
    obtain ⟨xs, hxl, hlies, hx⟩ := hvals
    have hone : (∀ c ∈ r, solid c = true) → ∀ u ∈ xs, u.oneCell' = true := by
      intro hsol u hu
      obtain ⟨k, hk⟩ := List.getElem?_of_mem hu
      have hlt := list_some hxl hk
      obtain ⟨v', h1, h3⟩ := hx k _ (List.getElem?_eq_getElem hlt)
      rw [hk] at h1
      cases h1
      exact solid_one (hsol _ (List.getElem_mem hlt)) h3
    rcases h with ⟨hfl, hK⟩ | ⟨hsol, hK⟩
    · refine ⟨E, m, r, s, A, cap, xs, hK, hR, rfl, mono_refl E, rfl, rfl, hxl.trans hrl, hxl.symm, hlies, hone fun c hc => flat_solid (hfl c hc), fun k c hk => ?_⟩
      obtain ⟨v', h1, h3⟩ := hx k c hk
      exact ⟨v', h1, flat_bare (E := E.bare) (hfl c (List.mem_of_getElem? hk)) h3⟩
    · refine ⟨E.mvr j off kid start, m, r, s.put j none, A, cap, xs, hK, rel_mvr hR hob _ _ _, rfl, mvr_mono hR _ _ _ _, put_len _ _ _, rfl, hxl.trans hrl, hxl.symm, hlies, hone hsol, fun k c hk => ?_⟩
      obtain ⟨v', h1, h3⟩ := hx k c hk
      exact ⟨v', h1, Rv.move (mvr_mono hR j off kid start).bare (mvr_moved j off kid start k) h3⟩
  case sub i j =>
    cases hob : s.ob i with
    | none => rw [hob] at h; exact h.elim
    | some ob =>
    obtain ⟨bx, cs⟩ := ob
    cases bx with
    | true => rw [hob] at h; exact h.elim
    | false =>
    rw [hob] at h
    obtain ⟨m, r, hj, hfl, hK⟩ := h
    have hcell := hv.2.2 (isTr_of hR hob hj)
    obtain ⟨A, cap, hcell', hc, hrl, hb⟩ := sub_row hR hob hj
    rw [hcell] at hcell'
    have hx : x = .slice A m cap := Option.some.inj hcell'
    by_cases hne : r = []
    · subst hne
      exact ⟨E, m, [], s, A, cap, [], hK, hR, rfl, mono_refl E, rfl, hx, by simpa using hrl, rfl, .inl rfl, by simp, by simp⟩
    · have hrp : 0 < r.length := List.length_pos_iff.2 hne
      rcases hb with h0 | ⟨b, d, c, e, hA, ho, hh, hs, hrow⟩
      · have hm0 : m = 0 := by omega
        rw [hm0, Nat.zero_mul] at hrl
        omega
      · obtain ⟨xs, hxl, hxx⟩ := Rrow_vals' hrow
        refine ⟨E, m, r, s, A, cap, xs, hK, hR, rfl, mono_refl E, rfl, hx, hxl.trans hrl, hxl.symm, .inr ⟨_, hA, fun k u hk => ?_⟩, fun u hu => ?_, fun k c hk => ?_⟩
        · have hlt := list_some hxl hk
          obtain ⟨v', h1, h2, _⟩ := hxx k _ (List.getElem?_eq_getElem hlt)
          rw [hk] at h1
          cases h1
          rw [addr_add]
          exact h2
        · obtain ⟨k, hk⟩ := List.getElem?_of_mem hu
          have hlt := list_some hxl hk
          obtain ⟨v', h1, _, h3⟩ := hxx k _ (List.getElem?_eq_getElem hlt)
          rw [hk] at h1
          cases h1
          exact solid_one (flat_solid (hfl _ (List.getElem_mem hlt))) h3
        · obtain ⟨v', h1, _, h3⟩ := hxx k c hk
          exact ⟨v', h1, flat_bare (E := E.bare) (hfl c (List.mem_of_getElem? hk)) h3⟩
end
end Go.Proofs.YtiplgkbgkmomlaaD
