/- Contracts and plain laws of this seat; no condition. -/
import Derived.Test.YtcjdfeafcmfgpaaGreatQ19
import Derived.Test.YtcjdfeafcmfgpaaGreatQ23
import Derived.Test.YtcjdfeafcmfgpaaGreatQ24
import Derived.Test.YtcjdfeafcmfgpaaGreatQ31
import Derived.Test.YtcjdfeafcmfgpaaGreatQ18
import Derived.Test.YtcjdfeafcmfgpaaGreatQ11
import Derived.Test.YtcjdfeafcmfgpaaGreatQ12
set_option linter.unusedVariables false
set_option linter.unusedSimpArgs false
set_option maxRecDepth 100000
namespace Go.Proofs.YtcjdfeafcmfgpaaGreatD
open Go Go.Proofs
def safeQ (q : QueryE) : Prop := okT q ∧ ∀ t ∈ q.1, isVar t = true → occurs q t = true
theorem safe_bnd {q : QueryE} {db : List FactC} (h : safeQ q) {b : Bnd} (hb : b ∈ visitL db q.2 bNone) : ∀ t ∈ q.1, 0 ≤ t → (b t.toNat).isSome = true := by
 intro t ht h0
 have hr := term_rng (List.all_eq_true.1 h.1.1 t ht)
 obtain ⟨a, ha, hta⟩ := occurs_mem.1 (h.2 t ht (by simp [isVar, inR]; omega))
 exact (visitL_ok db q.2 bNone b hb).2 a ha t hta h0
theorem tS_val {b : Bnd} {t : Int} (ht : isTerm t = true) (hb : 0 ≤ t → (b t.toNat).isSome = true) : tS (sV b) t = val (fnOf b) t := by
 rw [tS_valOf b t ht hb]
 exact valOf_val b ht
theorem raw_iff {q : QueryE} {db : List FactC} (h : safeQ q) (x : List Int) : x ∈ sortL true ((rawP q db).map fun v => q.1.map (tS v)) ↔ ∃ v : Int → Int, Sat v db q.2 ∧ x = q.1.map (val v) := by
 have t1 := h.1.1
 have t2 := h.1.2
 rw [(sortL_ok _).2 x]
 simp only [List.mem_map]
 constructor
 ·rintro ⟨w, hw, rfl⟩
  obtain ⟨b, hb, rfl⟩ := (rawP_ok q db).1 w hw
  exact ⟨fnOf b, (visitL_sound db q.2 bNone b t2 hb).2.1, List.map_congr_left fun t ht => tS_val (List.all_eq_true.1 t1 t ht) (safe_bnd h hb t ht)⟩
 ·rintro ⟨v, hv, rfl⟩
  obtain ⟨b, hb, hu⟩ := visitL_complete db q.2 bNone t2 (under_none v) hv
  refine ⟨sV b, (sortL_ok _).2 _ |>.2 (List.mem_map.2 ⟨b, hb, rfl⟩), ?_⟩
  refine List.map_congr_left fun t ht => ?_
  rw [tS_val (List.all_eq_true.1 t1 t ht) (safe_bnd h hb t ht)]
  exact under_val hu fun hv => safe_bnd h hb t ht ((var_iff (List.all_eq_true.1 t1 t ht)).1 hv)
theorem overK_of {q : QueryE} {n : Nat} (h : safeQ q) (h1 : q.1.length ≤ 3) (h2 : 1 ≤ q.2.length) (h3 : q.2.length ≤ 16) (h4 : ∀ a ∈ q.2, a.2.length ≤ 3) (hn : n ≤ 400) : overK q n = true := by
 simp only [overK, terms3, Bool.and_eq_true, decide_eq_true_eq, Bool.not_eq_true', decide_eq_false_iff_not, List.all_eq_true, inR]
 refine ⟨⟨⟨⟨⟨List.all_eq_true.1 h.1.1, h1⟩, by omega, by omega⟩, by omega⟩, fun a ha => ⟨List.all_eq_true.1 (h.1.2 a ha), h4 a ha⟩⟩, fun t ht => ?_⟩
 unfold safeH
 by_cases h0 : t ≥ 0
 ·have hr := term_rng (List.all_eq_true.1 h.1.1 t ht)
  have hv : isVar t = true := by simp [isVar, inR]; omega
  rw [has_bodyVars q t hv, h.2 t ht hv]
  simp
 ·rw [decide_eq_false h0]
  rfl
theorem over_iff {q : QueryE} {db : List FactC} (h : safeQ q) (hk : overK q db.length = true) (x : List Int) : x ∈ overS q db ↔ ∃ v : Int → Int, Sat v db q.2 ∧ x = q.1.map (val v) := by
 unfold overS
 rw [if_pos hk]
 exact raw_iff h x
theorem isQuery_safeQ {s : List Int} {q : QueryT} (h : isQuery s q = true) : safeQ q := ⟨isQuery_okT h, ((isQuery_iff s q).1 h).2.2.2.2⟩
theorem vfGo_mem {s : List Int} {db : List FactC} (f : FactC) : ∀ (vs : List QueryE) (i : Nat), f ∈ vfGo s db i vs ↔ ∃ j : Nat, ∃ hj : j < vs.length, f.1 = ((i + j : Nat) : Int) ∧ f.2 ∈ answersS s vs[j] db
 | [], i => by simp [vfGo]
 | v :: vs, i => by
  rw [vfGo, List.mem_append, vfGo_mem f vs (i + 1)]
  constructor
  ·rintro (h | ⟨j, hj, h1, h2⟩)
   ·obtain ⟨t, ht, rfl⟩ := List.mem_map.1 h
    exact ⟨0, by simp, by simp, ht⟩
   ·exact ⟨j + 1, by simpa using hj, by rw [h1]; congr 1; omega, by simpa using h2⟩
  ·rintro ⟨j, hj, h1, h2⟩
   cases j with
   | zero =>
    left
    exact List.mem_map.2 ⟨f.2, by simpa using h2, Prod.ext (by simpa using h1.symm) rfl⟩
   | succ j => exact .inr ⟨j, by simpa using hj, by rw [h1]; congr 1; omega, by simpa using h2⟩
theorem view_q {s : List Int} {vs : List QueryT} (h : pAreViews s vs = true) : ∀ v ∈ vs, isQuery s v = true ∧ v.1 ≠ [] := fun v hv => by
 simp only [pAreViews, Bool.and_eq_true, List.all_eq_true] at h
 have := h.1 v hv
 simp only [viewOk, Bool.and_eq_true, Bool.not_eq_true'] at this
 exact ⟨this.1, fun e => by rw [e] at this; simp at this⟩
theorem viewAt_mem {vs : List QueryT} {j : Nat} (hj : j < vs.length) (f : FactC) (hf : f.1 = (j : Int)) : viewAt vs f = vs[j] := by
 unfold viewAt
 rw [hf, Int.toNat_natCast, List.getD_eq_getElem?_getD, List.getElem?_eq_getElem hj]
 rfl
theorem vf_iff {s : List Int} {vs : List QueryT} {db : List FactC} (hv : pAreViews s vs = true) (hd : isDb s db = true) (f : FactC) : f ∈ pViewFacts s vs db ↔ (∃ j : Nat, j < vs.length ∧ f.1 = (j : Int)) ∧ ViewF vs db f := by
 unfold pViewFacts
 rw [hv, hd, Bool.and_self, if_pos rfl, vfGo_mem]
 constructor
 ·rintro ⟨j, hj, h1, h2⟩
  rw [Nat.zero_add] at h1
  refine ⟨⟨j, hj, h1⟩, ?_⟩
  unfold ViewF
  rw [viewAt_mem hj f h1]
  exact (ans_iff (view_q hv _ (List.getElem_mem hj)).1 hd _).1 h2
 ·rintro ⟨⟨j, hj, h1⟩, h2⟩
  refine ⟨j, hj, by rw [Nat.zero_add]; exact h1, ?_⟩
  unfold ViewF at h2
  rw [viewAt_mem hj f h1] at h2
  exact (ans_iff (view_q hv _ (List.getElem_mem hj)).1 hd _).2 h2
def allL : List (List Int) := [] :: SV.map (fun x => [x]) ++ SV.flatMap fun x => SV.map fun y => [x, y]
theorem mem_allL {x : List Int} (h : x.length ≤ 2) (hx : ∀ y ∈ x, y ∈ SV) : x ∈ allL := by
 unfold allL
 match x, h, hx with
 | [], _, _ => simp
 | [a], _, hx =>
  refine List.mem_append.2 (.inl (List.mem_cons.2 (.inr (List.mem_map.2 ⟨a, hx a (by simp), rfl⟩))))
 | [a, b], _, hx =>
  exact List.mem_append.2 (.inr (List.mem_flatMap.2 ⟨a, hx a (by simp), List.mem_map.2 ⟨b, hx b (by simp), rfl⟩⟩))
theorem smT_val {t : Int} (h : smT t) (hn : isVar t = false) (ht : isTerm t = true) (v : Int → Int) : val v t ∈ SV := by
 have h0 := nonvar_neg ht hn
 rw [val_neg h0]
 have := h.1
 have : t = -3 ∨ t = -2 ∨ t = -1 := by omega
 rcases this with rfl | rfl | rfl <;> decide
theorem ans_few {s : List Int} {q : QueryT} {db : List FactC} (hq : isQuery s q = true) (hs : smQ q) (hd : smDb 9 4 db) : (answersS s q db).length ≤ 57 := by
 cases hdb : isDb s db with
 | false => unfold answersS; rw [hdb, Bool.and_false]; simp
 | true =>
  have hst : Strict ltI (answersS s q db) := by unfold answersS; rw [hq, hdb, Bool.and_self, if_pos rfl]; exact (sortL_ok _).1
  have hnd : (answersS s q db).Nodup := hst.imp fun {a b} h1 e => by subst e; rw [totI.irr] at h1; cases h1
  have hsub : answersS s q db ⊆ allL := fun x hx => by
   obtain ⟨v, hv, rfl⟩ := (ans_iff hq hdb x).1 hx
   refine mem_allL (by rw [List.length_map]; exact hs.1) fun y hy => ?_
   obtain ⟨t, ht, rfl⟩ := List.mem_map.1 hy
   obtain ⟨⟨k1, k2⟩, k3⟩ := isQuery_safeQ hq
   have htm := List.all_eq_true.1 k1 t ht
   cases hvr : isVar t with
   | false => exact smT_val (hs.2.1 t ht) hvr htm v
   | true =>
    obtain ⟨a, ha, hta⟩ := occurs_mem.1 (k3 t ht hvr)
    exact (hd.2 _ (hv a ha)).2 _ (List.mem_map.2 ⟨t, hta, rfl⟩)
  exact hnd.length_le_of_subset hsub
theorem vfGo_few {s : List Int} {db : List FactC} (hd : smDb 9 4 db) : ∀ (vs : List QueryT) (i : Nat), (∀ v ∈ vs, isQuery s v = true ∧ smQ v) → (vfGo s db i vs).length ≤ 57 * vs.length
 | [], i, _ => by simp [vfGo]
 | v :: vs, i, h => by
  have h1 := vfGo_few hd vs (i + 1) fun w hw => h w (by simp [hw])
  have h2 := ans_few (h v (by simp)).1 (h v (by simp)).2 hd
  rw [vfGo, List.length_append, List.length_map, List.length_cons]
  omega
theorem vf_few {s : List Int} {vs : List QueryT} {db : List FactC} (hd : smDb 9 4 db) (hvs : okVs vs) : (pViewFacts s vs db).length ≤ 228 ∧ cFactS (pViewFacts s vs db) ≤ 1048576 := by
 have h1 : (pViewFacts s vs db).length ≤ 228 := by
  unfold pViewFacts
  split
  ·rename_i h
   simp only [Bool.and_eq_true] at h
   have h2 := vfGo_few hd vs 0 (s := s) fun v hv => by
    obtain ⟨a, b⟩ := view_q h.1 v hv
    exact ⟨a, (hvs.2 v hv).2.resolve_left b⟩
   have h3 := hvs.1
   omega
  ·simp
 refine ⟨h1, ?_⟩
 have h2 : ∀ x ∈ pViewFacts s vs db, cFact x ≤ 3 := fun x hx => by
  unfold pViewFacts at hx
  split at hx
  ·exact (vfGo_ok s db vs 0).2 x hx
  ·cases hx
 have h3 := sumB_cap3 cFact 3 _ h2
 show (pViewFacts s vs db).length + sumB cFact (pViewFacts s vs db) ≤ _
 omega
theorem frK_few (vars u : List Int) (B : Nat) (h : top u ≤ B) (hv : ∀ i : Nat, 4 ≤ i → has vars (i : Int) = false) : ∀ k, (frK vars u k).1 ≤ B + 4 ∧ top (frK vars u k).2.1 ≤ B + 4 ∧ (k ≤ 4 → (frK vars u k).1 ≤ B + k ∧ top (frK vars u k).2.1 ≤ B + k)
 | 0 => ⟨Nat.zero_le _, by show top u ≤ _; omega, fun _ => ⟨Nat.zero_le _, h⟩⟩
 | k + 1 => by
  obtain ⟨i1, i2, i3⟩ := frK_few vars u B h hv k
  have hn := nx_le (frK vars u k).2.1 (frK vars u k).1
  rw [frK_succ, frS]
  split
  ·rename_i hk
   have hk4 : k < 4 := by
    by_cases h4 : k < 4
    ·exact h4
    ·rw [hv k (by omega)] at hk; cases hk
   obtain ⟨j1, j2⟩ := i3 (by omega)
   have e1 : nx (frK vars u k).2.1 (frK vars u k).1 ≤ B + k := by omega
   refine ⟨?_, ?_, fun _ => ⟨?_, ?_⟩⟩
   ·show nx _ _ ≤ _; omega
   ·show top (_ ++ [((nx _ _ : Nat) : Int)]) ≤ _; rw [top_snoc]; omega
   ·show nx _ _ ≤ _; omega
   ·show top (_ ++ [((nx _ _ : Nat) : Int)]) ≤ _; rw [top_snoc]; omega
  ·refine ⟨i1, i2, fun hk => ?_⟩
   obtain ⟨j1, j2⟩ := i3 (by omega)
   exact ⟨by show (frK vars u k).1 ≤ _; omega, by show top (frK vars u k).2.1 ≤ _; omega⟩
theorem uAll_some {vs : List QueryT} : ∀ (l : List AtomC) (st : U4) (B : Nat), (∀ a ∈ l, ∀ i : Nat, 4 ≤ i → has (varsOf (viewAt vs a)) (i : Int) = false) → top st.1 ≤ B → B + 4 * l.length < 20 → ∃ st', uAll vs l st = some st'
 | [], st, B, _, _, _ => ⟨st, rfl⟩
 | a :: r, st, B, hv, hB, hl => by
  rw [List.length_cons] at hl
  obtain ⟨i1, i2, _⟩ := frK_few (varsOf (viewAt vs a)) st.1 B hB (hv a (by simp)) 20
  have hf : (fresh (viewAt vs a) st.1).1 < 20 := by show (frK _ _ 20).1 < 20; omega
  rw [uAll_cons, if_pos hf]
  exact uAll_some r (uNext vs st a) (B + 4) (fun c hc => hv c (by simp [hc])) i2 (by omega)
theorem vars_few {q : QueryT} (hs : ∀ t ∈ q.1, isVar t = true → occurs q t = true) (hb : ∀ a ∈ q.2, ∀ t ∈ a.2, t ≤ 3) : ∀ i : Nat, 4 ≤ i → has (varsOf q) (i : Int) = false := by
 intro i hi
 cases h : has (varsOf q) (i : Int) with
 | false => rfl
 | true =>
  exfalso
  have hno : occurs q (i : Int) = false := by
   cases ho : occurs q (i : Int) with
   | false => rfl
   | true =>
    obtain ⟨a, ha, hta⟩ := occurs_mem.1 ho
    have := hb a ha _ hta
    omega
  by_cases h20 : i < 20
  ·rw [has_varsOf q i h20] at h
   unfold pvar at h
   rw [hno, Bool.false_or] at h
   simp only [has, List.any_eq_true] at h
   obtain ⟨t, ht, he⟩ := h
   have : t = (i : Int) := by simpa [eqV] using he
   subst this
   rw [hs _ ht (by simp [isVar, inR]; omega)] at hno
   cases hno
  ·simp only [has, List.any_eq_true] at h
   obtain ⟨t, ht, he⟩ := h
   have : t = (i : Int) := by simpa [eqV] using he
   subst this
   have hx := ht
   simp only [varsOf, varsTo, List.mem_map, List.mem_filter, List.mem_range] at hx
   obtain ⟨j, ⟨hj, _⟩, hje⟩ := hx
   have : (j : Int) = i := hje
   omega
theorem top_few {u : List Int} : (∀ i : Nat, 4 ≤ i → has u (i : Int) = false) → top u ≤ 4 := by
 intro h
 have key : ∀ u : List Int, (∀ x ∈ u, x < 4) → top u ≤ 4 := by
  intro u
  induction u with
  | nil => intro _; exact Nat.zero_le _
  | cons x u ih =>
   intro hx
   have h1 := ih fun y hy => hx y (by simp [hy])
   have h2 := hx x (by simp)
   rw [top_cons]
   omega
 refine key u fun x hx => ?_
 by_cases h4 : x < 4
 ·exact h4
 ·have := h x.toNat (by omega)
  rw [show ((x.toNat : Nat) : Int) = x by omega] at this
  have e : has u x = true := by simp only [has, List.any_eq_true]; exact ⟨x, hx, by simp [eqV]⟩
  rw [e] at this
  cases this
theorem uAll_mono {vs : List QueryT} (hl : ∀ a : AtomC, ∀ c ∈ (viewAt vs a).2, c.2.length ≤ 3) : ∀ (l : List AtomC) {st st' : U4}, (∀ c ∈ st.2.2.2, c.2.length ≤ 3) → uAll vs l st = some st' → (∀ c ∈ st'.2.2.2, c.2.length ≤ 3) ∧ st.2.2.2.length ≤ st'.2.2.2.length
 | [], st, st', h1, h => by
  cases h
  exact ⟨h1, Nat.le_refl _⟩
 | a :: r, st, st', h1, h => by
  rw [uAll_cons] at h
  split at h
  ·obtain ⟨i1, i2⟩ := uAll_mono hl r (st := uNext vs st a) (fun c hc => by
    rcases List.mem_append.1 hc with hc | hc
    ·exact h1 c hc
    ·obtain ⟨d, hd, rfl⟩ := List.mem_map.1 hc
     show (d.2.map _).length ≤ 3
     rw [List.length_map]
     exact hl a d hd) h
   refine ⟨i1, ?_⟩
   have : (uNext vs st a).2.2.2.length = st.2.2.2.length + (viewAt vs a).2.length := by simp [uNext, renQ]
   omega
  ·cases h
theorem unf_atoms {vs : List QueryT} {q y : QueryT} (h : UnfOk vs q) (hl : ∀ a : AtomC, ∀ c ∈ (viewAt vs a).2, c.2.length ≤ 3) (hne : ∃ a r, q.2 = a :: r ∧ 1 ≤ (viewAt vs a).2.length) (hp : pUnf vs q = some y) : (∀ c ∈ y.2, c.2.length ≤ 3) ∧ 1 ≤ y.2.length := by
 obtain ⟨st, f, hu, hf, rfl, heq⟩ := unf_some h hp
 obtain ⟨h1, _⟩ := uAll_mono hl q.2 (st := (varsOf q, [], [], [])) (fun c hc => by cases hc) hu
 have h2 : 1 ≤ st.2.2.2.length := by
  obtain ⟨a, r, he, ha⟩ := hne
  rw [he, uAll_cons] at hu
  split at hu
  ·have := (uAll_mono hl r (st := uNext vs (varsOf q, [], [], []) a) (fun c hc => by
    rcases List.mem_append.1 hc with hc | hc
    ·cases hc
    ·obtain ⟨d, hd, rfl⟩ := List.mem_map.1 hc
     show (d.2.map _).length ≤ 3
     rw [List.length_map]
     exact hl a d hd) hu).2
   have e : (uNext vs (varsOf q, [], [], []) a).2.2.2.length = (viewAt vs a).2.length := by simp [uNext, renQ]
   omega
  ·cases hu
 refine ⟨fun c hc => ?_, dedup_pos (by rw [List.length_map]; exact h2)⟩
 obtain ⟨d, hd, rfl⟩ := List.mem_map.1 ((mem_dedup c _).1 hc)
 show (d.2.map _).length ≤ 3
 rw [List.length_map]
 exact h1 d hd
theorem takes_le3 {s : List Int} {r n : Int} (h : takesS s r n = true) : n ≤ 3 := by
 simp only [takesS, Bool.and_eq_true, decide_eq_true_eq] at h
 obtain ⟨h1, h2, h3⟩ := h
 have := isSchema_le h1 (i := r.toNat)
 omega
theorem views_unf {s : List Int} {vs : List QueryT} (hv : pAreViews s vs = true) : (∀ a : AtomC, okT (viewAt vs a) ∧ ∀ t ∈ (viewAt vs a).1, isVar t = true → occurs (viewAt vs a) t = true) ∧ ∀ a : AtomC, ∀ c ∈ (viewAt vs a).2, c.2.length ≤ 3 := by
 have key : ∀ a : AtomC, viewAt vs a ∈ vs ∨ viewAt vs a = ([], []) := fun a => by
  unfold viewAt
  rw [List.getD_eq_getElem?_getD]
  cases h : vs[a.1.toNat]? with
  | none => exact .inr rfl
  | some v => exact .inl (List.mem_of_getElem? h)
 refine ⟨fun a => ?_, fun a c hc => ?_⟩
 ·rcases key a with h | h
  ·exact isQuery_safeQ (view_q hv _ h).1
  ·rw [h]
   exact ⟨⟨rfl, fun a ha => by cases ha⟩, fun t ht => by cases ht⟩
 ·rcases key a with h | h
  ·have := ((isQuery_iff s _).1 (view_q hv _ h).1).2.2.2.1 c hc
   have := takes_le3 this.1
   omega
  ·rw [h] at hc; cases hc
theorem unf_ok {s : List Int} {vs : List QueryT} {q : QueryT} (hv : pAreViews s vs = true) (hq : isQuery (pViewSchema vs) q = true) : UnfOk vs q := by
 obtain ⟨k1, k2⟩ := isQuery_safeQ hq
 refine ⟨(views_unf hv).1, k1, fun a ha => ?_, k2⟩
 obtain ⟨j, h1, h2, h3, _⟩ := body_ok hq a ha
 unfold viewAt
 rw [h1, Int.toNat_natCast]
 exact h3
def hasL (l : List (List Int)) (x : List Int) : Bool := l.any fun y => decide (y = x)
theorem hasL_iff (l : List (List Int)) (x : List Int) : hasL l x = true ↔ x ∈ l := by simp [hasL]
theorem drop_anyL {l : List (List Int)} {x : List Int} {k : Nat} (hk : k < l.length) : ((l.drop k).any fun y => decide (y = x)) = (decide (l[k] = x) || (l.drop (k + 1)).any fun y => decide (y = x)) := by
 rw [List.drop_eq_getElem_cons hk, List.any_cons]
theorem hasTuple_spec (l : List (List Int)) (x : List Int) (hl : l.length ≤ 1099511627776) (hb : ∀ y ∈ l, y.length ≤ 1099511627776) (hx : x.length ≤ 1099511627776) : Spec Tryz.prog 114 [vLists l, ints x] (cb (hasL l x)) := by
 refine Spec_of mx Γ_ok Tryz.func114 rfl ?_
 conv => whnf
 refine ⟨[(1,0),(4,0),(7,0),(8,0),(9,0)], fun m st => ∃ (k : Nat) (e : Int), e = k ∧ m + k = l.length ∧ hasL l x = ((l.drop k).any fun y => decide (y = x)) ∧
  st = ⟨17, [(1, ints x), (4, cb false), (7, vLists l), (8, ci l.length), (9, ci e)], []⟩, l.length, ⟨0, 0, rfl, rfl, rfl, rfl⟩, ?_⟩
 rintro m st ⟨k, _, rfl, hm, hany, rfl⟩
 conv => whnf
 split <;> rename_i h1
 all_goals simp only [decide_eq_true_eq, decide_eq_false_iff_not] at h1
 ·conv => whnf
  have hk : k < l.length := by omega
  rw [drop_anyL hk] at hany
  refine ⟨by omega, rows_len rL_len _, ?_⟩
  conv => whnf
  refine ⟨_, takeN_rp (k := k) rL_len hk, ?_⟩
  conv => whnf
  refine ⟨_, slicesEq_spec l[k] x (hb _ (List.getElem_mem hk)) hx, .inl rfl, .inl ?_⟩
  conv => whnf
  generalize decide (l[k] = x) = b at hany
  cases b with
  | true =>
   conv => whnf
   rw [hany]
   rfl
  | false =>
   conv => whnf
   rw [Bool.false_or] at hany
   exact ⟨m - 1, by omega, k + 1, _, wrap_id (by omega) (by omega), by omega, hany, rfl⟩
 ·conv => whnf
  rw [hany, List.drop_eq_nil_of_le (by omega)]
  rfl
def sameT (a b : List (List Int)) : Bool := (a.all fun x => hasL b x) && b.all fun x => hasL a x
theorem sameT_iff (a b : List (List Int)) : sameT a b = true ↔ ∀ x, x ∈ a ↔ x ∈ b := by
 simp only [sameT, Bool.and_eq_true, List.all_eq_true, hasL_iff]
 exact ⟨fun h x => ⟨h.1 x, h.2 x⟩, fun h => ⟨fun x hx => (h x).1 hx, fun x hx => (h x).2 hx⟩⟩
set_option maxHeartbeats 1000000 in
theorem implSameTuples_spec (a b : List (List Int)) (ha : a.length ≤ 1099511627776) (ha2 : ∀ y ∈ a, y.length ≤ 1099511627776) (hl : b.length ≤ 1099511627776) (hb : ∀ y ∈ b, y.length ≤ 1099511627776) : Spec Tryz.prog 47 [vLists a, vLists b] (cb (sameT a b)) := by
 refine Spec_of mx Γ_ok Tryz.func47 rfl ?_
 conv => whnf
 refine ⟨[(0,0),(1,0),(4,0),(9,0),(10,0),(11,0)], fun m st => ∃ (k : Nat) (e : Int), e = k ∧ m + k = a.length ∧ (a.all fun x => hasL b x) = ((a.drop k).all fun y => hasL b y) ∧
  st = ⟨31, [(0, vLists a), (1, vLists b), (4, cb false), (9, vLists a), (10, ci a.length), (11, ci e)], []⟩, a.length, ⟨0, 0, rfl, rfl, rfl, rfl⟩, ?_⟩
 rintro m st ⟨k, _, rfl, hm, hany, rfl⟩
 conv => whnf
 split <;> rename_i h1
 all_goals simp only [decide_eq_true_eq, decide_eq_false_iff_not] at h1
 ·conv => whnf
  have hk : k < a.length := by omega
  rw [List.drop_eq_getElem_cons hk, List.all_cons] at hany
  refine ⟨by omega, rows_len rL_len _, ?_⟩
  conv => whnf
  refine ⟨_, takeN_rp (k := k) rL_len hk, ?_⟩
  conv => whnf
  refine ⟨_, hasTuple_spec b a[k] hl hb (ha2 _ (List.getElem_mem hk)), .inl rfl, .inl ?_⟩
  conv => whnf
  generalize hasL b a[k] = c at hany
  cases c with
  | false =>
   conv => whnf
   unfold sameT
   rw [hany]
   rfl
  | true =>
   conv => whnf
   rw [Bool.true_and] at hany
   exact ⟨m - 1, by omega, k + 1, _, wrap_id (by omega) (by omega), by omega, hany, rfl⟩
 ·conv => whnf
  have hall : (a.all fun x => hasL b x) = true := by rw [hany, List.drop_eq_nil_of_le (by omega)]; rfl
  refine ⟨[(0,0),(4,0),(20,0),(21,0),(22,0)], fun m st => ∃ (k : Nat) (e : Int), e = k ∧ m + k = b.length ∧ (b.all fun x => hasL a x) = ((b.drop k).all fun y => hasL a y) ∧
   st = ⟨31, [(0, vLists a), (4, cb false), (20, vLists b), (21, ci b.length), (22, ci e)], []⟩, b.length, ⟨0, 0, rfl, rfl, rfl, rfl⟩, ?_⟩
  clear hany hm h1
  rintro m st ⟨k, _, rfl, hm, hany, rfl⟩
  conv => whnf
  split <;> rename_i h1
  all_goals simp only [decide_eq_true_eq, decide_eq_false_iff_not] at h1
  ·conv => whnf
   have hk : k < b.length := by omega
   rw [List.drop_eq_getElem_cons hk, List.all_cons] at hany
   refine ⟨by omega, rows_len rL_len _, ?_⟩
   conv => whnf
   refine ⟨_, takeN_rp (k := k) rL_len hk, ?_⟩
   conv => whnf
   refine ⟨_, hasTuple_spec a b[k] ha ha2 (hb _ (List.getElem_mem hk)), .inl rfl, .inl ?_⟩
   conv => whnf
   generalize hasL a b[k] = c at hany
   cases c with
   | false =>
    conv => whnf
    unfold sameT
    rw [hall, hany]
    rfl
   | true =>
    conv => whnf
    rw [Bool.true_and] at hany
    exact ⟨m - 1, by omega, k + 1, _, wrap_id (by omega) (by omega), by omega, hany, rfl⟩
  ·conv => whnf
   unfold sameT
   rw [hall, hany, List.drop_eq_nil_of_le (by omega)]
   rfl
theorem big_spec (xs : List Int) : Spec Tryz.prog 12 [bytesR xs] (cb (decide ((xs.length : Int) > 1048576))) := by
 unfold bytesR
 refine Spec_of mx Γ_ok Tryz.func12 rfl ?_
 conv => whnf
 rfl
theorem solid_tFactD (f : FactC) : ∀ c ∈ tFact f, solid c = true := by
 intro c hc
 simp only [tFact, List.mem_cons, List.not_mem_nil, or_false] at hc
 rcases hc with rfl | rfl <;> rfl
set_option maxHeartbeats 4000000 in
theorem l6Draw_g (c : Cur) (h : goodC c) : SpecG Tryz.prog 107 [.ptr 0 0] (gC c) fun r g2 => ∃ (s : List Int) (q : QueryW) (db : List FactC) (c' : Cur), r = .tup [vSchema s, wQuery q, wFactS db] ∧ s.length ≤ 8 ∧ qSm q ∧ q.2.length ≤ 3 ∧ smDb 9 4 db ∧ goodC c' ∧ g2 = gC c' := by
 unfold gC
 refine SpecG_of mx Γ_ok 1 Tryz.func107 rfl rfl (by decide) ?_
 conv => whnf
 refine .inr (.inl ?_)
 conv => whnf
 refine ⟨curC_ne c, ?_⟩
 conv => whnf
 refine ⟨_, _, _, l3Schema_spec c h, ?_⟩
 conv => whnf
 refine .inl ?_
 rw [wSchema_ro]
 conv => whnf
 obtain ⟨h1, s1, s2, s3⟩ := schP_ok h
 have hs : sOk (schP c).1 := ⟨s1, s2, by omega⟩
 generalize (schP c).2 = c1 at h1 ⊢
 generalize (schP c).1 = s at hs s3 ⊢
 refine .inr (.inr ⟨[0], [], ?_⟩)
 conv => whnf
 refine ⟨_, l4Query_g s c1 hs h1, fun r g2 hP => ?_⟩
 obtain ⟨q, c2, rfl, q1, q2, _, q3, h2, rfl⟩ := hP
 refine .inr ?_
 conv => whnf
 refine .inr (.inl ?_)
 conv => whnf
 refine ⟨curC_ne c2, ?_⟩
 conv => whnf
 refine ⟨_, _, _, l5Db_spec s c2 hs h2, ?_⟩
 conv => whnf
 refine .inr ?_
 conv => whnf
 obtain ⟨h3, d1, d2⟩ := dbP_sv hs h2
 generalize (dbP s c2).2 = c3 at h3 ⊢
 generalize (dbP s c2).1 = db at d1 d2 ⊢
 refine .inr (.inl ?_)
 conv => whnf
 refine ⟨curC_ne c3, ?_⟩
 conv => whnf
 refine ⟨_, _, _, l1Below_spec c3 14 h3 (by omega), ?_⟩
 conv => whnf
 refine .inl ?_
 conv => whnf
 have h4 := belowP_good h3 14
 generalize (belowP c3 14).2 = c4 at h4 ⊢
 generalize (belowP c3 14).1 = v
 have hqs : qSm q := ⟨by omega, by omega, fun a ha => by have := q3 a ha; omega⟩
 have hd : smDb 9 4 db := ⟨by omega, fun f hf => ⟨by have := (d2 f hf).1; omega, (d2 f hf).2⟩⟩
 generalize (v == 0) = b0
 cases b0 with
 | true =>
  conv => whnf
  refine ⟨[1001, 0, 1, 2, 3, 4, 5, 6, 7, 1000, 1000], by kernel_rfl, ?_⟩
  conv => whnf
  refine .inr (.inr ⟨[0], fun k => noSubT_lk (by kernel_rfl) k, rfl, ?_⟩)
  conv => whnf
  refine ⟨_, l2Any_g c4 h4, fun r g2 hP => ?_⟩
  obtain ⟨t, c5, rfl, h5, rfl⟩ := hP
  refine .inl ?_
  conv => whnf
  refine ⟨_, rfl, .inl ⟨flat1 rfl, ?_⟩⟩
  conv => whnf
  refine ⟨by omega, by rw [rows_len ciL_len], _, snoc_ci _ _, ?_⟩
  conv => whnf
  refine ⟨[2001, 0, 1, 2, 3, 4, 5], by kernel_rfl, ?_⟩
  conv => whnf
  refine ⟨rfl, ?_⟩
  conv => whnf
  refine ⟨[], ?_⟩
  conv => whnf
  refine ⟨by rw [rows_len ciL_len, List.length_append]; rfl, by rw [rows_len tAtom_len], by rw [rows_len tFact_len], ?_⟩
  refine ⟨s, (q.1 ++ [t], q.2), db, c5, ?_, by omega, ⟨by simp; omega, hqs.2.1, hqs.2.2⟩, q2, hd, h5, rfl⟩
  show _ = V.tup [_, .agg [.tr 1 (q.1 ++ [t]).length _, _], _]
  rw [List.length_append]
  rfl
 | false =>
  conv => whnf
  generalize (v == 1) = b1
  cases b1 with
  | true =>
   conv => whnf
   refine .inr (.inr ⟨[0], [], ?_⟩)
   conv => whnf
   refine ⟨_, l5AnyFact_g s c4 hs h4, fun r g2 hP => ?_⟩
   obtain ⟨f, c5, rfl, hf, h5, rfl⟩ := hP
   refine .inr ?_
   conv => whnf
   refine ⟨by rw [rows_len ciL_len], ?_⟩
   conv => whnf
   refine ⟨_, rfl, .inr ⟨solid_tFactD f, ?_⟩⟩
   conv => whnf
   refine ⟨by omega, by rw [rows_len tFact_len], _, snoc_rowsD tFact _ f, ?_⟩
   conv => whnf
   refine ⟨[2001, 0, 1, 2, 3, 4, 5], by kernel_rfl, ?_⟩
   conv => whnf
   refine ⟨rfl, ?_⟩
   conv => whnf
   refine ⟨[], ?_⟩
   conv => whnf
   refine ⟨by rw [rows_len ciL_len], by rw [rows_len tAtom_len], by rw [rows_len tFact_len, List.length_append]; rfl, ?_⟩
   refine ⟨s, q, db ++ [f], c5, ?_, by omega, hqs, q2, ⟨by simp; omega, fun x hx => ?_⟩, h5, rfl⟩
   ·show _ = V.tup [_, _, .tr 2 (db ++ [f]).length _]
    rw [List.length_append]
    rfl
   ·rcases List.mem_append.1 hx with hx | hx
    ·exact hd.2 x hx
    ·rw [List.mem_singleton.1 hx]; exact hf
  | false =>
   conv => whnf
   generalize (v == 2) = b2
   cases b2 with
   | true =>
    conv => whnf
    refine .inr (.inr ⟨[0], [], ?_⟩)
    conv => whnf
    refine ⟨_, l3Any_g c4 h4, fun r g2 hP => ?_⟩
    obtain ⟨s', c5, rfl, hs', h5, rfl⟩ := hP
    refine .inl ?_
    rw [wSchema_ro]
    conv => whnf
    refine ⟨[2001, 0, 1, 2, 3, 4, 5], by kernel_rfl, ?_⟩
    conv => whnf
    refine ⟨rfl, ?_⟩
    conv => whnf
    refine ⟨[], ?_⟩
    conv => whnf
    refine ⟨by rw [rows_len ciL_len], by rw [rows_len tAtom_len], by rw [rows_len tFact_len], ?_⟩
    exact ⟨s', q, db, c5, rfl, hs', hqs, q2, hd, h5, rfl⟩
   | false =>
    conv => whnf
    refine ⟨[2001, 0, 1, 2, 3, 4, 5], by kernel_rfl, ?_⟩
    conv => whnf
    refine ⟨rfl, ?_⟩
    conv => whnf
    refine ⟨[], ?_⟩
    conv => whnf
    refine ⟨by rw [rows_len ciL_len], by rw [rows_len tAtom_len], by rw [rows_len tFact_len], ?_⟩
    exact ⟨s, q, db, c4, rfl, by omega, hqs, q2, hd, h4, rfl⟩
set_option maxHeartbeats 1000000 in
theorem drawAnswers_g (xs : List Int) (h : xs.length ≤ 1099511627776) : SpecG Tryz.prog 17 [bytesR xs] [] fun r g2 => ∃ (s : List Int) (q : QueryW) (db : List FactC), r = .tup [vSchema s, wQuery q, wFactS db] ∧ s.length ≤ 8 ∧ qSm q ∧ q.2.length ≤ 3 ∧ smDb 9 4 db ∧ g2 = [] := by
 refine SpecG_of mx Γ_ok 0 Tryz.func17 rfl rfl (by decide) ?_
 conv => whnf
 refine ⟨_, l1New_spec xs h, .inl rfl, .inr ?_⟩
 conv => whnf
 have g0 := good_new h
 generalize newCur xs = c0 at g0 ⊢
 refine .inr (.inr ⟨[2], [], ?_⟩)
 conv => whnf
 refine ⟨_, l6Draw_g c0 g0, fun r g2 hP => ?_⟩
 obtain ⟨s, q, db, c1, rfl, hs, hq, hq2, hd, g1, rfl⟩ := hP
 refine .inr ?_
 conv => whnf
 refine ⟨[2000, 0, 1, 2, 3, 4, 5], by kernel_rfl, ?_⟩
 conv => whnf
 refine ⟨rfl, ?_⟩
 conv => whnf
 refine ⟨[], ?_⟩
 conv => whnf
 refine ⟨by rw [rows_len ciL_len], by rw [rows_len tAtom_len], by rw [rows_len tFact_len], ?_⟩
 exact ⟨s, q, db, rfl, hs, hq, hq2, hd, rfl⟩
end Go.Proofs.YtcjdfeafcmfgpaaGreatD
