/- Contracts of functions and plain laws that a proof of this seat rests on; no condition. -/
import Derived.Test.YtcjdfeafcmfgpaaGreatQ28
import Derived.Test.YtcjdfeafcmfgpaaGreatQ29
import Derived.Test.YtcjdfeafcmfgpaaGreatQ11
set_option linter.unusedVariables false
set_option linter.unusedSimpArgs false
set_option maxRecDepth 100000
namespace Go.Proofs.YtcjdfeafcmfgpaaGreatD
open Go Go.Proofs
def okT (q : QueryT) : Prop := q.1.all isTerm = true ∧ ∀ a ∈ q.2, a.2.all isTerm = true
structure IsImg (h : Int → Int) (q y : QueryT) : Prop where
  hom : IsHom h q y
  onto : ∀ a ∈ y.2, ∃ c ∈ q.2, appA h c = a
  trm : ∀ t, isTerm t = true → isTerm (app h t) = true
theorem appA_id (a : AtomC) : appA id a = a := Prod.ext rfl ((List.map_congr_left fun t _ => app_id t).trans (List.map_id _))
theorem appA_appA (h k : Int → Int) (a : AtomC) : appA k (appA h a) = appA (fun y => app k (h y)) a := by
  refine Prod.ext rfl ?_
  show (a.2.map (app h)).map (app k) = a.2.map _
  rw [List.map_map]
  exact List.map_congr_left fun t _ => app_app h k t
theorem img_id (q : QueryT) : IsImg id q q := ⟨hom_id q, fun a ha => ⟨a, ha, appA_id a⟩, fun t ht => by rw [app_id]; exact ht⟩
theorem img_comp {h k : Int → Int} {f g t : QueryT} (h1 : IsImg h f g) (h2 : IsImg k g t) : IsImg (fun y => app k (h y)) f t := by
  refine ⟨hom_comp h1.hom h2.hom, fun a ha => ?_, fun x hx => ?_⟩
  · obtain ⟨c, hc, rfl⟩ := h2.onto a ha
    obtain ⟨d, hd, rfl⟩ := h1.onto c hc
    exact ⟨d, hd, (appA_appA h k d).symm⟩
  · rw [← app_app]
    exact h2.trm _ (h1.trm x hx)
theorem img_okT {h : Int → Int} {q y : QueryT} (hi : IsImg h q y) (hq : okT q) : okT y := by
  refine ⟨?_, fun a ha => ?_⟩
  · rw [← hi.hom.1]
    refine List.all_eq_true.2 fun x hx => ?_
    obtain ⟨t, ht, rfl⟩ := List.mem_map.1 hx
    exact hi.trm t (List.all_eq_true.1 hq.1 t ht)
  · obtain ⟨c, hc, rfl⟩ := hi.onto a ha
    refine List.all_eq_true.2 fun x hx => ?_
    obtain ⟨t, ht, rfl⟩ := List.mem_map.1 hx
    exact hi.trm t (List.all_eq_true.1 (hq.2 c hc) t ht)
theorem app_rep {a b : Int} (ha : isVar a = true) (t : Int) : app (fun x => if x = a then b else x) t = rep1 a b t := by
  unfold app rep1
  by_cases h : t = a
  · subst h
    rw [if_pos ha]
    simp
  · cases hv : isVar t <;> simp [h]
theorem img_rep (q : QueryT) {a b : Int} (ha : isVar a = true) (hb : isTerm b = true) : IsImg (fun x => if x = a then b else x) q (pReplaceTerm q a b) := by
  have e : ∀ c : AtomC, appA (fun x => if x = a then b else x) c = repA a b c := fun c => Prod.ext rfl (List.map_congr_left fun t _ => app_rep ha t)
  refine ⟨⟨List.map_congr_left fun t _ => app_rep ha t, fun c hc => ?_⟩, fun c hc => ?_, fun t ht => ?_⟩
  · rw [e]
    exact List.mem_map.2 ⟨c, hc, rfl⟩
  · obtain ⟨d, hd, rfl⟩ := List.mem_map.1 hc
    exact ⟨d, hd, e d⟩
  · rw [app_rep ha]
    unfold rep1
    split
    · exact hb
    · exact ht
theorem dedS_mem (acc : List AtomC) (x y : AtomC) : y ∈ dedS acc x ↔ y = x ∨ y ∈ acc := by
  unfold dedS
  split
  · rename_i h
    obtain ⟨z, hz, he⟩ := List.any_eq_true.1 h
    have hxz : x = z := by
      simp only [eqA, Bool.and_eq_true, decide_eq_true_eq] at he
      exact Prod.ext he.1 he.2
    subst hxz
    exact ⟨.inr, fun h => h.elim (fun e => e ▸ hz) id⟩
  · simp only [List.mem_append, List.mem_singleton]
    exact or_comm
theorem dedF_mem (y : AtomC) : ∀ (xs acc : List AtomC), y ∈ xs.foldl dedS acc ↔ y ∈ xs ∨ y ∈ acc
  | [], acc => by simp
  | x :: xs, acc => by
    rw [List.foldl_cons, dedF_mem y xs, dedS_mem, List.mem_cons]
    constructor
    · rintro (h | h | h) <;> simp [h]
    · rintro ((h | h) | h) <;> simp [h]
theorem mem_dedup (y : AtomC) (xs : List AtomC) : y ∈ dedup xs ↔ y ∈ xs := by
  unfold dedup
  rw [dedF_mem]
  simp
theorem img_dedup (q : QueryT) : IsImg id q (pDedupeAtoms q) := by
  refine ⟨⟨(List.map_congr_left fun t _ => app_id t).trans (List.map_id _), fun a ha => ?_⟩, fun a ha => ?_, fun t ht => by rw [app_id]; exact ht⟩
  · rw [appA_id]
    exact (mem_dedup a q.2).2 ha
  · exact ⟨a, (mem_dedup a q.2).1 ha, appA_id a⟩
theorem dedup_pos {xs : List AtomC} (h : 1 ≤ xs.length) : 1 ≤ (dedup xs).length := by
  cases xs with
  | nil => simp at h
  | cons x xs =>
    have := (mem_dedup x (x :: xs)).2 (by simp)
    exact List.length_pos_of_mem this
theorem nonvar_neg {t : Int} (ht : isTerm t = true) (h : isVar t = false) : t < 0 := by
  have := var_iff ht
  rw [h] at this
  by_cases h0 : 0 ≤ t
  · exact absurd (this.2 h0) (by simp)
  · omega
theorem eqP_img {q y : QueryT} {t u : Int} (ht : isTerm t = true) (hu : isTerm u = true) (h : eqP q t u = some y) : ∃ f, IsImg f q y ∧ y.2.length = q.2.length := by
  unfold eqP at h
  split at h
  · cases h
    exact ⟨id, img_id _, rfl⟩
  · split at h
    · cases h
    · rename_i hv
      split at h
      · rename_i hc
        cases h
        have huv : isVar u = true := by
          cases h1 : isVar t <;> cases h2 : isVar u <;> simp_all
        exact ⟨_, img_rep q huv ht, by simp [pReplaceTerm]⟩
      · rename_i hc
        cases h
        have htv : isVar t = true := by
          cases h1 : isVar t <;> simp_all
        exact ⟨_, img_rep q htv hu, by simp [pReplaceTerm]⟩
theorem val_rep {v : Int → Int} {a b : Int} (h : val v a = val v b) (x : Int) : val v (rep1 a b x) = val v x := by
  unfold rep1
  split
  · rename_i he
    have : x = a := by simpa using he
    rw [this, h]
  · rfl
theorem valA_rep {v : Int → Int} {a b : Int} (h : val v a = val v b) (c : AtomC) : valA v (repA a b c) = valA v c := by
  refine Prod.ext rfl ?_
  show (c.2.map _).map _ = c.2.map _
  rw [List.map_map]
  exact List.map_congr_left fun x _ => val_rep h x
theorem sat_rep {v : Int → Int} {a b : Int} {q : QueryT} {db : List FactC} (h : val v a = val v b) (hs : Sat v db q.2) : Sat v db (pReplaceTerm q a b).2 ∧ (pReplaceTerm q a b).1.map (val v) = q.1.map (val v) := by
  refine ⟨fun c hc => ?_, ?_⟩
  · obtain ⟨d, hd, rfl⟩ := List.mem_map.1 hc
    rw [valA_rep h]
    exact hs d hd
  · show (q.1.map _).map _ = q.1.map _
    rw [List.map_map]
    exact List.map_congr_left fun x _ => val_rep h x
theorem eqP_sat {v : Int → Int} {t u : Int} {q : QueryT} {db : List FactC} (ht : isTerm t = true) (hu : isTerm u = true) (h : val v t = val v u) (hs : Sat v db q.2) : ∃ y, eqP q t u = some y ∧ Sat v db y.2 ∧ y.1.map (val v) = q.1.map (val v) := by
  unfold eqP
  split
  · exact ⟨q, rfl, hs, rfl⟩
  · rename_i hne
    split
    · rename_i hv
      simp only [Bool.and_eq_true, Bool.not_eq_true'] at hv
      have e1 := val_neg (v := v) (nonvar_neg ht hv.1)
      have e2 := val_neg (v := v) (nonvar_neg hu hv.2)
      rw [e1, e2] at h
      exact absurd (show (t == u) = true by simp; omega) hne
    · split
      · obtain ⟨h1, h2⟩ := sat_rep h.symm hs
        exact ⟨_, rfl, h1, h2⟩
      · obtain ⟨h1, h2⟩ := sat_rep h hs
        exact ⟨_, rfl, h1, h2⟩
theorem sat_dedup {v : Int → Int} {q : QueryT} {db : List FactC} : Sat v db (pDedupeAtoms q).2 ↔ Sat v db q.2 :=
  ⟨fun h a ha => h a ((mem_dedup a q.2).2 ha), fun h a ha => h a ((mem_dedup a q.2).1 ha)⟩
theorem isQuery_iff (s : List Int) (q : QueryT) : isQuery s q = true ↔ isSchema s = true ∧ (q.1.all isTerm = true ∧ q.1.length ≤ 3) ∧ (1 ≤ q.2.length ∧ q.2.length ≤ 4) ∧ (∀ a ∈ q.2, takesS s a.1 a.2.length = true ∧ a.2.all isTerm = true) ∧ ∀ t ∈ q.1, isVar t = true → occurs q t = true := by
  simp only [isQuery, fineQ, terms3, Bool.and_eq_true, decide_eq_true_eq, List.all_eq_true, isAtom, safeV]
  constructor
  · rintro ⟨h1, ⟨h2, h3⟩, h4, h5, h6⟩
    have h7 : (1 : Int) ≤ q.2.length ∧ (q.2.length : Int) ≤ 4 := by simpa [inR] using h4
    refine ⟨h1, ⟨h2, h3⟩, ⟨by omega, by omega⟩, h5, fun t ht hv => ?_⟩
    have := h6 t ht
    simpa [hv] using this
  · rintro ⟨h1, ⟨h2, h3⟩, h4, h5, h6⟩
    refine ⟨h1, ⟨h2, h3⟩, by simp [inR]; omega, h5, fun t ht => ?_⟩
    cases hv : isVar t with
    | false => simp [hv]
    | true => simp [hv, h6 t ht hv]
theorem app_neg {h : Int → Int} {t : Int} (ht : isVar t = false) : app h t = t := by unfold app; rw [ht]; simp
theorem isQuery_img {s : List Int} {h : Int → Int} {q y : QueryT} (hi : IsImg h q y) (h1 : 1 ≤ y.2.length) (h2 : y.2.length ≤ q.2.length) (hq : isQuery s q = true) : isQuery s y = true := by
  obtain ⟨q1, ⟨q2, q3⟩, q4, q5, q6⟩ := (isQuery_iff s q).1 hq
  obtain ⟨k1, k2⟩ := img_okT hi ⟨q2, fun a ha => (q5 a ha).2⟩
  refine (isQuery_iff s y).2 ⟨q1, ⟨k1, ?_⟩, ⟨h1, by omega⟩, fun a ha => ⟨?_, k2 a ha⟩, fun t ht hv => ?_⟩
  · rw [← hi.hom.1, List.length_map]; exact q3
  · obtain ⟨c, hc, rfl⟩ := hi.onto a ha
    show takesS s c.1 ((c.2.map _).length : Nat) = true
    rw [List.length_map]
    exact (q5 c hc).1
  · rw [← hi.hom.1] at ht
    obtain ⟨u, hu, rfl⟩ := List.mem_map.1 ht
    have huv : isVar u = true := by
      cases h0 : isVar u with
      | true => rfl
      | false => rw [app_neg h0, h0] at hv; cases hv
    obtain ⟨a, ha, hua⟩ := occurs_mem.1 (q6 u hu huv)
    exact occurs_mem.2 ⟨_, hi.hom.2 a ha, List.mem_map.2 ⟨u, hua, rfl⟩⟩
theorem isQuery_okT {s : List Int} {q : QueryT} (h : isQuery s q = true) : okT q := by
  obtain ⟨_, ⟨q2, _⟩, _, q5, _⟩ := (isQuery_iff s q).1 h
  exact ⟨q2, fun a ha => (q5 a ha).2⟩
end Go.Proofs.YtcjdfeafcmfgpaaGreatD
set_option linter.unusedVariables false
set_option linter.unusedSimpArgs false
set_option maxRecDepth 100000
namespace Go.Proofs.YtcjdfeafcmfgpaaGreatD
open Go Go.Proofs
def ran (k n : Nat) : List Nat := List.range' k (n - k)
theorem ran_at {k n : Nat} (h : k < n) : ran k n = k :: ran (k + 1) n := by
  unfold ran
  rw [show n - k = (n - (k + 1)) + 1 from by omega, List.range'_succ]
theorem ran_end {k n : Nat} (h : n ≤ k) : ran k n = [] := by
  unfold ran
  rw [show n - k = 0 from by omega]
  rfl
def getI (a : List Int) (x : Int) : Int := a.getD x.toNat 0
def agree1 (a b : List Int) (x y : Int) : Bool := inR x 0 (a.length - 1) && (inR y 0 (b.length - 1) && decide (getI a x = getI b y))
def agreeA (a p b q : List Int) (k : Nat) : Bool := agree1 a b (p.getD k 0) (q.getD k 0)
def agreeI (a p b q : List Int) : Bool := decide (p.length = q.length) && (ran 0 p.length).all (agreeA a p b q)
theorem getD_at' {ps : List Int} {k : Nat} (hk : k < ps.length) : ps.getD k 0 = ps[k] := by simp [List.getD_eq_getElem?_getD, hk]
theorem getI_at {a : List Int} {q : Nat} (hq : q < a.length) : getI a (q : Int) = a[q] := by
  unfold getI
  rw [Int.toNat_natCast]
  exact getD_at' hq
theorem l12Agree_spec (a b p : List Int) (ha : a.length ≤ 1099511627776) (hb : b.length ≤ 1099511627776) (hp : p.length ≤ 1099511627776) : Spec Tryz.prog 235 [ints a, ints b, ints p] (cb (agreeI a p b p)) := by
  refine Spec_of mx Γ_ok Tryz.func235 rfl ?_
  conv => whnf
  refine ⟨[(0,0),(1,0),(2,0),(6,0),(7,0)], fun m s => ∃ (k : Nat) (e : Int), e = k ∧ m + k = p.length ∧ agreeI a p b p = (ran k p.length).all (agreeA a p b p) ∧
    s = ⟨49, [(0, ints a), (1, ints b), (2, ints p), (6, cb false), (7, ci e)], []⟩, p.length, ⟨0, 0, rfl, rfl, by unfold agreeI; rw [decide_eq_true rfl, Bool.true_and], rfl⟩, ?_⟩
  rintro m s ⟨k, _, rfl, hm, hall, rfl⟩
  conv => whnf
  split <;> rename_i h1
  all_goals simp only [decide_eq_true_eq, decide_eq_false_iff_not] at h1
  · conv => whnf
    have hk : k < p.length := by omega
    rw [ran_at hk, List.all_cons] at hall
    have hA : agreeA a p b p k = agree1 a b p[k] p[k] := by unfold agreeA; rw [getD_at' hk]
    refine ⟨List.range 35, by kernel_rfl, ?_⟩
    conv => whnf
    refine ⟨by omega, rows_len ciL_len p, ?_⟩
    conv => whnf
    refine ⟨_, takeN_rp (k := k) ciL_len hk, ?_⟩
    conv => whnf
    have hw : IntKind.i64.wrap ((a.length : Int) - 1) = a.length - 1 := wrap_id (by omega) (by omega)
    refine ⟨_, l1In_spec _ _ _, .inl rfl, .inl ?_⟩
    rw [hw]
    conv => whnf
    generalize hb4 : (!inR p[k] 0 (a.length - 1)) = b4
    cases b4 with
    | true =>
      conv => whnf
      show cb false = _
      simp only [Bool.not_eq_true'] at hb4
      rw [hall, hA, agree1, hb4, Bool.false_and, Bool.false_and]
    | false =>
    conv => whnf
    simp only [Bool.not_eq_false'] at hb4
    have hr : 0 ≤ p[k] ∧ p[k] ≤ (a.length : Int) - 1 := by simpa [inR] using hb4
    refine ⟨by omega, rows_len ciL_len p, ?_⟩
    conv => whnf
    refine ⟨_, takeN_rp (k := k) ciL_len hk, ?_⟩
    conv => whnf
    generalize hb5 : decide (p[k] ≥ (b.length : Int)) = b5
    cases b5 with
    | true =>
      conv => whnf
      show cb false = _
      have h5 := of_decide_eq_true hb5
      have : inR p[k] 0 (b.length - 1) = false := by unfold inR; rw [Bool.and_eq_false_iff]; right; exact decide_eq_false (by omega)
      rw [hall, hA, agree1, this, Bool.false_and, Bool.and_false, Bool.false_and]
    | false =>
    conv => whnf
    have h5 := of_decide_eq_false hb5
    have hin : inR p[k] 0 (b.length - 1) = true := by unfold inR; rw [Bool.and_eq_true]; exact ⟨decide_eq_true hr.1, decide_eq_true (by omega)⟩
    obtain ⟨q, hq⟩ : ∃ q : Nat, p[k] = q := ⟨p[k].toNat, by omega⟩
    rw [hq] at hr h5
    have hqa : q < a.length := by omega
    have hqb : q < b.length := by omega
    refine ⟨by omega, rows_len ciL_len p, ?_⟩
    conv => whnf
    refine ⟨_, takeN_rp (k := k) ciL_len hk, ?_⟩
    rw [hq]
    conv => whnf
    refine ⟨by omega, rows_len ciL_len a, ?_⟩
    conv => whnf
    refine ⟨_, takeN_rp (k := q) ciL_len hqa, ?_⟩
    conv => whnf
    refine ⟨by omega, rows_len ciL_len p, ?_⟩
    conv => whnf
    refine ⟨_, takeN_rp (k := k) ciL_len hk, ?_⟩
    rw [hq]
    conv => whnf
    refine ⟨by omega, rows_len ciL_len b, ?_⟩
    conv => whnf
    refine ⟨_, takeN_rp (k := q) ciL_len hqb, ?_⟩
    conv => whnf
    have hA2 : agreeA a p b p k = decide (a[q] = b[q]) := by
      rw [hA, agree1, hb4, hin, Bool.true_and, Bool.true_and, hq, getI_at hqa, getI_at hqb]
    split <;> rename_i h2
    · conv => whnf
      show cb false = _
      rw [hall, hA2, decide_eq_false (by simpa using h2), Bool.false_and]
    · conv => whnf
      rw [hA2, decide_eq_true (p := a[q] = b[q]) (by simpa using h2), Bool.true_and] at hall
      exact ⟨m - 1, by omega, k + 1, _, wrap_id (by omega) (by omega), by omega, hall, rfl⟩
  · conv => whnf
    rw [hall, ran_end (by omega)]
    rfl
end Go.Proofs.YtcjdfeafcmfgpaaGreatD
set_option linter.unusedVariables false
set_option linter.unusedSimpArgs false
set_option maxRecDepth 100000
namespace Go.Proofs.YtcjdfeafcmfgpaaGreatD
open Go Go.Proofs
theorem agree_spec (a p b q : List Int) (ha : a.length ≤ 1099511627776) (hb : b.length ≤ 1099511627776) (hp : p.length ≤ 1099511627776) (hqq : q.length ≤ 1099511627776) : Spec Tryz.prog 140 [ints a, ints p, ints b, ints q] (cb (agreeI a p b q)) := by
  refine Spec_of mx Γ_ok Tryz.func140 rfl ?_
  conv => whnf
  split <;> rename_i h0
  · conv => whnf
    simp only [bne_iff_ne, ne_eq] at h0
    show cb false = _
    unfold agreeI
    rw [decide_eq_false (by omega), Bool.false_and]
  conv => whnf
  have h0' : p.length = q.length := by
    have h3 : (p.length : Int) = q.length := by simpa using h0
    omega
  refine ⟨[(0,0),(1,0),(2,0),(3,0),(8,0),(16,0),(17,0)], fun m s => ∃ (k : Nat) (e : Int), e = k ∧ m + k = p.length ∧ agreeI a p b q = (ran k p.length).all (agreeA a p b q) ∧
    s = ⟨58, [(0, ints a), (1, ints p), (2, ints b), (3, ints q), (8, cb false), (16, ci p.length), (17, ci e)], []⟩, p.length, ⟨0, 0, rfl, rfl, by unfold agreeI; rw [decide_eq_true h0', Bool.true_and], rfl⟩, ?_⟩
  rintro m s ⟨k, _, rfl, hm, hall, rfl⟩
  conv => whnf
  split <;> rename_i h1
  all_goals simp only [decide_eq_true_eq, decide_eq_false_iff_not] at h1
  · conv => whnf
    have hk : k < p.length := by omega
    have hkq : k < q.length := by omega
    rw [ran_at hk, List.all_cons] at hall
    have hA : agreeA a p b q k = agree1 a b p[k] q[k] := by unfold agreeA; rw [getD_at' hk, getD_at' hkq]
    have hw : IntKind.i64.wrap ((a.length : Int) - 1) = a.length - 1 := wrap_id (by omega) (by omega)
    have hwb : IntKind.i64.wrap ((b.length : Int) - 1) = b.length - 1 := wrap_id (by omega) (by omega)
    refine ⟨List.range 37, by kernel_rfl, ?_⟩
    conv => whnf
    refine ⟨by omega, rows_len ciL_len p, ?_⟩
    conv => whnf
    refine ⟨_, takeN_rp (k := k) ciL_len hk, ?_⟩
    conv => whnf
    refine ⟨_, within_spec _ _ _, .inl rfl, .inl ?_⟩
    rw [hw]
    conv => whnf
    generalize hb4 : (!inR p[k] 0 (a.length - 1)) = b4
    cases b4 with
    | true =>
      conv => whnf
      show cb false = _
      simp only [Bool.not_eq_true'] at hb4
      rw [hall, hA, agree1, hb4, Bool.false_and, Bool.false_and]
    | false =>
    conv => whnf
    simp only [Bool.not_eq_false'] at hb4
    have hr : 0 ≤ p[k] ∧ p[k] ≤ (a.length : Int) - 1 := by simpa [inR] using hb4
    refine ⟨by omega, rows_len ciL_len q, ?_⟩
    conv => whnf
    refine ⟨_, takeN_rp (k := k) ciL_len hkq, ?_⟩
    conv => whnf
    refine ⟨_, within_spec _ _ _, .inl rfl, .inl ?_⟩
    rw [hwb]
    conv => whnf
    generalize hb5 : (!inR q[k] 0 (b.length - 1)) = b5
    cases b5 with
    | true =>
      conv => whnf
      show cb false = _
      simp only [Bool.not_eq_true'] at hb5
      rw [hall, hA, agree1, hb5, Bool.false_and, Bool.and_false, Bool.false_and]
    | false =>
    conv => whnf
    simp only [Bool.not_eq_false'] at hb5
    have hs : 0 ≤ q[k] ∧ q[k] ≤ (b.length : Int) - 1 := by simpa [inR] using hb5
    obtain ⟨u, hu⟩ : ∃ u : Nat, p[k] = u := ⟨p[k].toNat, by omega⟩
    obtain ⟨w, hw2⟩ : ∃ w : Nat, q[k] = w := ⟨q[k].toNat, by omega⟩
    rw [hu] at hr
    rw [hw2] at hs
    have hua : u < a.length := by omega
    have hwq : w < b.length := by omega
    refine ⟨by omega, rows_len ciL_len p, ?_⟩
    conv => whnf
    refine ⟨_, takeN_rp (k := k) ciL_len hk, ?_⟩
    rw [hu]
    conv => whnf
    refine ⟨by omega, rows_len ciL_len a, ?_⟩
    conv => whnf
    refine ⟨_, takeN_rp (k := u) ciL_len hua, ?_⟩
    conv => whnf
    refine ⟨by omega, rows_len ciL_len q, ?_⟩
    conv => whnf
    refine ⟨_, takeN_rp (k := k) ciL_len hkq, ?_⟩
    rw [hw2]
    conv => whnf
    refine ⟨by omega, rows_len ciL_len b, ?_⟩
    conv => whnf
    refine ⟨_, takeN_rp (k := w) ciL_len hwq, ?_⟩
    conv => whnf
    have hA2 : agreeA a p b q k = decide (a[u] = b[w]) := by
      rw [hA, agree1, hb4, hb5, Bool.true_and, Bool.true_and, hu, hw2, getI_at hua, getI_at hwq]
    split <;> rename_i h2
    · conv => whnf
      show cb false = _
      rw [hall, hA2, decide_eq_false (by simpa using h2), Bool.false_and]
    · conv => whnf
      rw [hA2, decide_eq_true (p := a[u] = b[w]) (by simpa using h2), Bool.true_and] at hall
      exact ⟨m - 1, by omega, k + 1, _, wrap_id (by omega) (by omega), by omega, hall, rfl⟩
  · conv => whnf
    rw [hall, ran_end (by omega)]
    rfl
end Go.Proofs.YtcjdfeafcmfgpaaGreatD
set_option linter.unusedVariables false
set_option linter.unusedSimpArgs false
set_option maxRecDepth 100000
namespace Go.Proofs.YtcjdfeafcmfgpaaGreatD
open Go Go.Proofs
abbrev FactK := Int × List Int
def violP (key f g : FactK) : Bool := decide (f.1 = key.1) && (decide (g.1 = key.1) && (agreeI f.2 key.2 g.2 key.2 && !decide (f.2 = g.2)))
def getF (x0 : List FactK) (k : Nat) : FactK := x0.getD k (0, [])
def tripJ (x0 x1 : List FactK) (k i : Nat) : List Nat → Option (Nat × Nat × Nat)
  | [] => none
  | j :: js => if violP (getF x1 k) (getF x0 i) (getF x0 j) then some (k, i, j) else tripJ x0 x1 k i js
def tripI (x0 x1 : List FactK) (k : Nat) : List Nat → Option (Nat × Nat × Nat)
  | [] => none
  | i :: is => (tripJ x0 x1 k i (ran (i + 1) x0.length)).or (tripI x0 x1 k is)
def tripK (x0 x1 : List FactK) : List Nat → Option (Nat × Nat × Nat)
  | [] => none
  | k :: ks => (tripI x0 x1 k (ran 0 x0.length)).or (tripK x0 x1 ks)
def out3 : Option (Nat × Nat × Nat) → Int × Int × Int
  | none => (-1, -1, -1)
  | some (k, i, j) => (k, i, j)
def pFirstViolation (x0 x1 : List FactK) : Int × Int × Int := out3 (tripK x0 x1 (ran 0 x1.length))
def v3 (x : Int × Int × Int) : V := .tup [ci x.1, ci x.2.1, ci x.2.2]
theorem getF_at {x0 : List FactK} {k : Nat} (hk : k < x0.length) : getF x0 k = x0[k] := by simp [getF, List.getD_eq_getElem?_getD, hk]
set_option maxHeartbeats 4000000 in
theorem specFirstViolation_gen (x0 x1 : List FactK) (h0 : cFactS x0 ≤ 1048576) (h1 : cKeyS x1 ≤ 1048577) : Spec Tryz.prog 135 [vFactS x0, vKeyS x1] (v3 (pFirstViolation x0 x1)) := by
  unfold cFactS at h0
  unfold cKeyS at h1
  refine Spec_of mx Γ_ok Tryz.func135 rfl ?_
  conv => whnf
  refine ⟨[(0,0),(1,0),(4,0),(5,0),(6,0),(7,0)], fun m s => ∃ (k : Nat) (e : Int), e = k ∧ m + k = x1.length ∧ pFirstViolation x0 x1 = out3 (tripK x0 x1 (ran k x1.length)) ∧
    s = ⟨89, [(0, vFactS x0), (1, vKeyS x1), (4, ci 0), (5, ci 0), (6, ci 0), (7, ci e)], []⟩, x1.length, ⟨0, 0, rfl, rfl, rfl, rfl⟩, ?_⟩
  rintro m s ⟨k, _, rfl, hm, hall, rfl⟩
  conv => whnf
  split <;> rename_i h3
  all_goals simp only [decide_eq_true_eq, decide_eq_false_iff_not] at h3
  · conv => whnf
    have hk : k < x1.length := by omega
    have hb := sumB_one (f := cKey) hk
    have hck : cKey x1[k] = x1[k].2.length := rfl
    rw [ran_at hk, tripK] at hall
    refine ⟨[(0,0),(1,0),(4,0),(5,0),(6,0),(7,0),(8,0)], fun m s => ∃ (i : Nat) (e : Int), e = i ∧ m + i = x0.length ∧ pFirstViolation x0 x1 = out3 ((tripI x0 x1 k (ran i x0.length)).or (tripK x0 x1 (ran (k + 1) x1.length))) ∧
      s = ⟨89, [(0, vFactS x0), (1, vKeyS x1), (4, ci 0), (5, ci 0), (6, ci 0), (7, ci k), (8, ci e)], []⟩, x0.length, ⟨0, 0, rfl, rfl, hall, rfl⟩, ?_⟩
    clear hall
    rintro m1 s ⟨i, _, rfl, hm1, hall, rfl⟩
    conv => whnf
    split <;> rename_i h4
    all_goals simp only [decide_eq_true_eq, decide_eq_false_iff_not] at h4
    · conv => whnf
      have hi : i < x0.length := by omega
      have hbi := sumB_one (f := cFact) hi
      have hci : cFact x0[i] = x0[i].2.length := rfl
      rw [ran_at hi, tripI] at hall
      refine ⟨[(0,0),(1,0),(4,0),(5,0),(6,0),(7,0),(8,0),(9,0)], fun m s => ∃ (j : Nat) (e : Int), e = j ∧ i + 1 ≤ j ∧ m + j = x0.length ∧ pFirstViolation x0 x1 = out3 (((tripJ x0 x1 k i (ran j x0.length)).or (tripI x0 x1 k (ran (i + 1) x0.length))).or (tripK x0 x1 (ran (k + 1) x1.length))) ∧
        s = ⟨89, [(0, vFactS x0), (1, vKeyS x1), (4, ci 0), (5, ci 0), (6, ci 0), (7, ci k), (8, ci i), (9, ci e)], []⟩, x0.length - (i + 1), ⟨i + 1, _, wrap_id (by omega) (by omega), by omega, by omega, hall, rfl⟩, ?_⟩
      clear hall
      rintro m2 s ⟨j, _, rfl, hji, hm2, hall, rfl⟩
      conv => whnf
      split <;> rename_i h5
      all_goals simp only [decide_eq_true_eq, decide_eq_false_iff_not] at h5
      · conv => whnf
        have hj : j < x0.length := by omega
        have hbj := sumB_one (f := cFact) hj
        have hcj : cFact x0[j] = x0[j].2.length := rfl
        rw [ran_at hj, tripJ, getF_at hj, getF_at hi, getF_at hk] at hall
        have hno : violP x1[k] x0[i] x0[j] = false → pFirstViolation x0 x1 = out3 (((tripJ x0 x1 k i (ran (j + 1) x0.length)).or (tripI x0 x1 k (ran (i + 1) x0.length))).or (tripK x0 x1 (ran (k + 1) x1.length))) := fun h => by
          rw [hall, h]
          rfl
        refine ⟨List.range 56, by kernel_rfl, ?_⟩
        conv => whnf
        refine ⟨by omega, rows_len rFact_len _, ?_⟩
        conv => whnf
        refine ⟨_, takeN_rp_field (k := i) (d := 0) (m := 1) (r := [ci x0[i].1]) rFact_len hi (by omega) rfl, ?_⟩
        conv => whnf
        refine ⟨by omega, rows_len rKey_len _, ?_⟩
        conv => whnf
        refine ⟨_, takeN_rp_field (k := k) (d := 0) (m := 1) (r := [ci x1[k].1]) rKey_len hk (by omega) rfl, ?_⟩
        conv => whnf
        generalize hb1 : (x0[i].1 == x1[k].1) = b1
        cases b1 with
        | false =>
          conv => whnf
          refine ⟨m2 - 1, by omega, j + 1, _, wrap_id (by omega) (by omega), by omega, by omega, hno ?_, rfl⟩
          rw [violP, decide_eq_false (p := x0[i].1 = x1[k].1) (by simpa using hb1), Bool.false_and]
        | true =>
        conv => whnf
        refine ⟨by omega, rows_len rFact_len _, ?_⟩
        conv => whnf
        refine ⟨_, takeN_rp_field (k := j) (d := 0) (m := 1) (r := [ci x0[j].1]) rFact_len hj (by omega) rfl, ?_⟩
        conv => whnf
        refine ⟨by omega, rows_len rKey_len _, ?_⟩
        conv => whnf
        refine ⟨_, takeN_rp_field (k := k) (d := 0) (m := 1) (r := [ci x1[k].1]) rKey_len hk (by omega) rfl, ?_⟩
        conv => whnf
        generalize hb2 : (x0[j].1 == x1[k].1) = b2
        cases b2 with
        | false =>
          conv => whnf
          refine ⟨m2 - 1, by omega, j + 1, _, wrap_id (by omega) (by omega), by omega, by omega, hno ?_, rfl⟩
          rw [violP, decide_eq_false (p := x0[j].1 = x1[k].1) (by simpa using hb2), Bool.false_and, Bool.and_false]
        | true =>
        conv => whnf
        refine ⟨by omega, rows_len rFact_len _, ?_⟩
        conv => whnf
        refine ⟨_, takeN_rp_field (k := i) (d := 1) (m := 1) (r := [ints x0[i].2]) rFact_len hi (by omega) rfl, ?_⟩
        conv => whnf
        refine ⟨by omega, rows_len rFact_len _, ?_⟩
        conv => whnf
        refine ⟨_, takeN_rp_field (k := j) (d := 1) (m := 1) (r := [ints x0[j].2]) rFact_len hj (by omega) rfl, ?_⟩
        conv => whnf
        refine ⟨by omega, rows_len rKey_len _, ?_⟩
        conv => whnf
        refine ⟨_, takeN_rp_field (k := k) (d := 1) (m := 1) (r := [ints x1[k].2]) rKey_len hk (by omega) rfl, ?_⟩
        conv => whnf
        refine ⟨_, l12Agree_spec x0[i].2 x0[j].2 x1[k].2 (by omega) (by omega) (by omega), .inl rfl, .inl ?_⟩
        conv => whnf
        generalize hb3 : agreeI x0[i].2 x1[k].2 x0[j].2 x1[k].2 = b3
        cases b3 with
        | false =>
          conv => whnf
          refine ⟨m2 - 1, by omega, j + 1, _, wrap_id (by omega) (by omega), by omega, by omega, hno ?_, rfl⟩
          rw [violP, hb3, Bool.false_and, Bool.and_false, Bool.and_false]
        | true =>
        conv => whnf
        refine ⟨by omega, rows_len rFact_len _, ?_⟩
        conv => whnf
        refine ⟨_, takeN_rp_field (k := i) (d := 1) (m := 1) (r := [ints x0[i].2]) rFact_len hi (by omega) rfl, ?_⟩
        conv => whnf
        refine ⟨by omega, rows_len rFact_len _, ?_⟩
        conv => whnf
        refine ⟨_, takeN_rp_field (k := j) (d := 1) (m := 1) (r := [ints x0[j].2]) rFact_len hj (by omega) rfl, ?_⟩
        conv => whnf
        refine ⟨_, l2Ints_spec x0[i].2 x0[j].2 (by omega) (by omega), .inl rfl, .inl ?_⟩
        conv => whnf
        generalize hb4 : (!decide (x0[i].2 = x0[j].2)) = b4
        have hv : violP x1[k] x0[i] x0[j] = b4 := by
          rw [violP, hb3, hb4, decide_eq_true (p := x0[i].1 = x1[k].1) (by simpa using hb1), decide_eq_true (p := x0[j].1 = x1[k].1) (by simpa using hb2)]
          rfl
        cases b4 with
        | false =>
          conv => whnf
          exact ⟨m2 - 1, by omega, j + 1, _, wrap_id (by omega) (by omega), by omega, by omega, hno hv, rfl⟩
        | true =>
          conv => whnf
          rw [hall, hv]
          rfl
      · conv => whnf
        rw [ran_end (k := j) (by omega), tripJ, Option.none_or] at hall
        exact ⟨m1 - 1, by omega, i + 1, _, wrap_id (by omega) (by omega), by omega, hall, rfl⟩
    · conv => whnf
      rw [ran_end (k := i) (by omega), tripI, Option.none_or] at hall
      exact ⟨m - 1, by omega, k + 1, _, wrap_id (by omega) (by omega), by omega, hall, rfl⟩
  · conv => whnf
    rw [hall, ran_end (by omega)]
    rfl
end Go.Proofs.YtcjdfeafcmfgpaaGreatD
