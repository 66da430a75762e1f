/- Contracts of functions and plain laws that a proof of this seat rests on; no condition. -/
import Derived.Test.YtcjdfeafcmfgpaaGreatQ33
import Derived.Test.YtcjdfeafcmfgpaaGreatQ30
import Derived.Test.YtcjdfeafcmfgpaaGreatQ21
import Derived.Test.YtcjdfeafcmfgpaaGreatQ11
import Derived.Test.YtcjdfeafcmfgpaaGreatQ29
set_option linter.unusedVariables false
set_option linter.unusedSimpArgs false
set_option maxRecDepth 100000
namespace Go.Proofs.YtcjdfeafcmfgpaaGreatD
open Go Go.Proofs
theorem tripJ_none {x0 x1 : List FactK} {k i : Nat} : ∀ {js : List Nat}, tripJ x0 x1 k i js = none ↔ ∀ j ∈ js, violP (getF x1 k) (getF x0 i) (getF x0 j) = false
  | [] => by simp [tripJ]
  | j :: js => by
    unfold tripJ
    cases h : violP (getF x1 k) (getF x0 i) (getF x0 j) with
    | true => simp [h]
    | false => simp [h, tripJ_none (js := js)]
theorem tripI_none {x0 x1 : List FactK} {k : Nat} : ∀ {is : List Nat}, tripI x0 x1 k is = none ↔ ∀ i ∈ is, ∀ j ∈ ran (i + 1) x0.length, violP (getF x1 k) (getF x0 i) (getF x0 j) = false
  | [] => by simp [tripI]
  | i :: is => by
    unfold tripI
    rw [Option.or_eq_none_iff, tripJ_none, tripI_none (is := is)]
    simp
theorem tripK_none {x0 x1 : List FactK} : ∀ {ks : List Nat}, tripK x0 x1 ks = none ↔ ∀ k ∈ ks, tripI x0 x1 k (ran 0 x0.length) = none
  | [] => by simp [tripK]
  | k :: ks => by
    unfold tripK
    rw [Option.or_eq_none_iff, tripK_none (ks := ks)]
    simp
theorem ran_mem' {k n i : Nat} : i ∈ ran k n ↔ k ≤ i ∧ i < n := by
  unfold ran
  simp only [List.mem_range']
  constructor
  · rintro ⟨j, h1, h2⟩; omega
  · rintro ⟨h1, h2⟩; exact ⟨i - k, by omega, by omega⟩
theorem tripJ_is {x0 x1 : List FactK} {k i : Nat} : ∀ {js : List Nat} {r : Nat × Nat × Nat}, tripJ x0 x1 k i js = some r → r.1 = k ∧ r.2.1 = i ∧ r.2.2 ∈ js ∧ violP (getF x1 k) (getF x0 i) (getF x0 r.2.2) = true
  | [], r, h => by cases h
  | j :: js, r, h => by
    unfold tripJ at h
    split at h
    · rename_i hv
      cases h
      exact ⟨rfl, rfl, by simp, hv⟩
    · obtain ⟨h1, h2, h3, h4⟩ := tripJ_is h
      exact ⟨h1, h2, by simp [h3], h4⟩
theorem tripI_is {x0 x1 : List FactK} {k : Nat} : ∀ {is : List Nat} {r : Nat × Nat × Nat}, tripI x0 x1 k is = some r → r.1 = k ∧ r.2.1 ∈ is ∧ r.2.2 ∈ ran (r.2.1 + 1) x0.length ∧ violP (getF x1 k) (getF x0 r.2.1) (getF x0 r.2.2) = true
  | [], r, h => by cases h
  | i :: is, r, h => by
    unfold tripI at h
    cases hj : tripJ x0 x1 k i (ran (i + 1) x0.length) with
    | some q =>
      rw [hj] at h
      cases h
      obtain ⟨h1, h2, h3, h4⟩ := tripJ_is hj
      rw [h2]
      exact ⟨h1, by simp, h3, h4⟩
    | none =>
      rw [hj] at h
      obtain ⟨h1, h2, h3, h4⟩ := tripI_is (r := r) (by simpa using h)
      exact ⟨h1, by simp [h2], h3, h4⟩
theorem tripK_is {x0 x1 : List FactK} : ∀ {ks : List Nat} {r : Nat × Nat × Nat}, tripK x0 x1 ks = some r → r.1 ∈ ks ∧ r.2.1 ∈ ran 0 x0.length ∧ r.2.2 ∈ ran (r.2.1 + 1) x0.length ∧ violP (getF x1 r.1) (getF x0 r.2.1) (getF x0 r.2.2) = true
  | [], r, h => by cases h
  | k :: ks, r, h => by
    unfold tripK at h
    cases hi : tripI x0 x1 k (ran 0 x0.length) with
    | some q =>
      rw [hi] at h
      cases h
      obtain ⟨h1, h2, h3, h4⟩ := tripI_is hi
      rw [h1]
      exact ⟨by simp, h2, h3, h4⟩
    | none =>
      rw [hi] at h
      obtain ⟨h1, h2, h3, h4⟩ := tripK_is (r := r) (by simpa using h)
      exact ⟨by simp [h1], h2, h3, h4⟩
end Go.Proofs.YtcjdfeafcmfgpaaGreatD
set_option linter.unusedVariables false
set_option linter.unusedSimpArgs false
set_option maxRecDepth 100000
namespace Go.Proofs.YtcjdfeafcmfgpaaGreatD
open Go Go.Proofs
def Holds (db : List FactK) (ks : List FactK) : Prop := tripK db ks (ran 0 ks.length) = none
theorem agree_map {f g p : List Int} (k : Int → Int) (h : agreeI f p g p = true) : agreeI (f.map k) p (g.map k) p = true := by
  simp only [agreeI, Bool.and_eq_true, decide_eq_true_eq, List.all_eq_true] at h ⊢
  refine ⟨trivial, fun i hi => ?_⟩
  have h1 := h.2 i hi
  simp only [agreeA, agree1, Bool.and_eq_true, decide_eq_true_eq, inR, List.length_map] at h1 ⊢
  obtain ⟨⟨a1, a2⟩, ⟨b1, b2⟩, c⟩ := h1
  refine ⟨⟨a1, a2⟩, ⟨b1, b2⟩, ?_⟩
  generalize p.getD i 0 = x at *
  obtain ⟨n, rfl⟩ : ∃ n : Nat, x = n := ⟨x.toNat, by omega⟩
  rw [getI_at (show n < f.length by omega), getI_at (show n < g.length by omega)] at c
  rw [getI_at (show n < (f.map k).length by rw [List.length_map]; omega), getI_at (show n < (g.map k).length by rw [List.length_map]; omega)]
  simp [c]
theorem agree_symm {f g p : List Int} (h : agreeI f p g p = true) : agreeI g p f p = true := by
  simp only [agreeI, Bool.and_eq_true, decide_eq_true_eq, List.all_eq_true, agreeA, agree1, inR] at h ⊢
  refine ⟨trivial, fun i hi => ?_⟩
  obtain ⟨a, b, c⟩ := h.2 i hi
  exact ⟨b, a, c.symm⟩
theorem holds_eq {db ks : List FactK} (hk : Holds db ks) {n : Nat} (hn : n < ks.length) {f g : FactK} (hf : f ∈ db) (hg : g ∈ db) (h1 : f.1 = (getF ks n).1) (h2 : g.1 = (getF ks n).1) (h3 : agreeI f.2 (getF ks n).2 g.2 (getF ks n).2 = true) : f.2 = g.2 := by
  have hno := tripI_none.1 (tripK_none.1 hk n (ran_mem'.2 ⟨Nat.zero_le _, hn⟩))
  obtain ⟨i, hi, rfl⟩ := List.getElem_of_mem hf
  obtain ⟨j, hj, rfl⟩ := List.getElem_of_mem hg
  by_cases he : db[i].2 = db[j].2
  · exact he
  · exfalso
    rcases Nat.lt_trichotomy i j with h | h | h
    · have := hno i (ran_mem'.2 ⟨Nat.zero_le _, hi⟩) j (ran_mem'.2 ⟨by omega, hj⟩)
      rw [getF_at hi, getF_at hj] at this
      simp [violP, h1, h2, h3, he] at this
    · subst h; exact he rfl
    · have := hno j (ran_mem'.2 ⟨Nat.zero_le _, hj⟩) i (ran_mem'.2 ⟨by omega, hi⟩)
      rw [getF_at hi, getF_at hj] at this
      have he' : ¬ db[j].2 = db[i].2 := fun e => he e.symm
      simp [violP, h1, h2, agree_symm h3, he'] at this
theorem viol_is {q : QueryT} {ks : List FactK} {k i j : Nat} (h : viol q ks = some (k, i, j)) : k < ks.length ∧ (getF q.2 i).1 = (getF ks k).1 ∧ (getF q.2 j).1 = (getF ks k).1 ∧ agreeI (getF q.2 i).2 (getF ks k).2 (getF q.2 j).2 (getF ks k).2 = true := by
  obtain ⟨h1, _, _, h4⟩ := tripK_some h
  simp only at h1 h4
  rw [ran_mem] at h1
  simp only [violP, Bool.and_eq_true, decide_eq_true_eq] at h4
  exact ⟨h1.2, h4.1, h4.2.1, h4.2.2.1⟩
theorem okT_at {q : QueryT} (h : okT q) {v : Int} (ho : occurs q v = true) : isTerm v = true := by
  obtain ⟨a, ha, hv⟩ := occurs_mem.1 ho
  exact List.all_eq_true.1 (h.2 a ha) v hv
theorem chz_img {ks : List FactK} : ∀ (n : Nat) {q y : QueryT}, okT q → okA q.2 → 1 ≤ q.2.length → chz ks n q = some y → ∃ h, IsImg h q y ∧ 1 ≤ y.2.length ∧ y.2.length ≤ q.2.length
  | 0, q, y, _, _, _, h => by cases h
  | n + 1, q, y, ht, hok, hl, h => by
    simp only [chz] at h
    cases hv : viol q ks with
    | none =>
      rw [hv] at h
      cases h
      exact ⟨id, img_dedup q, dedup_pos hl, (dedup_bound cAtom q.2).1⟩
    | some r =>
      obtain ⟨k, i, j⟩ := r
      obtain ⟨_, _, g3, g4, g5, g6, g7⟩ := viol_terms hok hv
      rw [hv] at h
      simp only at h
      cases he : eqP q (tA q i j) (tB q i j) with
      | none => rw [he] at h; cases h
      | some z =>
        rw [he] at h
        obtain ⟨f, hf, hfl⟩ := eqP_img (okT_at ht g4) (okT_at ht g5) he
        obtain ⟨g, hg, hg1, hg2⟩ := chz_img n (img_okT hf ht) (okA_eqP hok g6 g7 he) (by omega) h
        exact ⟨_, img_comp hf hg, hg1, by omega⟩
theorem chz_sat {ks : List FactK} {db : List FactC} {v : Int → Int} (hk : Holds db ks) : ∀ (n : Nat) {q : QueryT}, okT q → okA q.2 → mu q < n → Sat v db q.2 → ∃ y, chz ks n q = some y ∧ Sat v db y.2 ∧ y.1.map (val v) = q.1.map (val v)
  | 0, q, _, _, hm, _ => absurd hm (Nat.not_lt_zero _)
  | n + 1, q, ht, hok, hm, hs => by
    simp only [chz]
    cases hv : viol q ks with
    | none => exact ⟨_, rfl, sat_dedup.2 hs, rfl⟩
    | some r =>
      obtain ⟨k, i, j⟩ := r
      obtain ⟨g1, g2, g3, g4, g5, g6, g7⟩ := viol_terms hok hv
      obtain ⟨_, hij, hj, _, _⟩ := viol_some hv
      obtain ⟨v1, v2, v3, v4⟩ := viol_is hv
      have mi := getF_mem (q := q) (i := i) (by omega)
      have mj := getF_mem (q := q) (i := j) hj
      have hfg : (getF q.2 i).2.map (val v) = (getF q.2 j).2.map (val v) := holds_eq hk v1 (hs _ mi) (hs _ mj) v2 v3 (agree_map (val v) v4)
      have hval : val v (tA q i j) = val v (tB q i j) := by
        unfold tA tB
        generalize fdiff (getF q.2 i).2 (getF q.2 j).2 = d at g2 ⊢
        have h1 : ((getF q.2 i).2.map (val v))[d]? = ((getF q.2 j).2.map (val v))[d]? := by rw [hfg]
        have hd2 : d < (getF q.2 j).2.length := by omega
        rw [List.getElem?_map, List.getElem?_map, List.getElem?_eq_getElem g2, List.getElem?_eq_getElem hd2] at h1
        rw [getD_at' g2, getD_at' hd2]
        simpa using h1
      obtain ⟨z, hz, hzs, hzh⟩ := eqP_sat (okT_at ht g4) (okT_at ht g5) hval hs
      simp only
      rw [hz]
      simp only
      obtain ⟨f, hf, _⟩ := eqP_img (okT_at ht g4) (okT_at ht g5) hz
      have hmu := (mu_eqP g3 g4 g5 hz).1
      obtain ⟨y, y1, y2, y3⟩ := chz_sat hk n (img_okT hf ht) (okA_eqP hok g6 g7 hz) (by omega) hzs
      exact ⟨y, y1, y2, y3.trans hzh⟩
theorem chZ_query {s : List Int} {q y : QueryT} {ks : List FactK} (hq : isQuery s q = true) (h : chZ ks q = some y) : isQuery s y = true ∧ ∃ f, IsImg f q y := by
  obtain ⟨f, hf, h1, h2⟩ := chz_img _ (isQuery_okT hq) (isQuery_ok hq) (((isQuery_iff s q).1 hq).2.2.1.1) h
  exact ⟨isQuery_img hf h1 h2 hq, f, hf⟩
theorem chZ_ans {s : List Int} {q y : QueryT} {ks : List FactK} {db : List FactC} (hq : isQuery s q = true) (hk : Holds db ks) (h : chZ ks q = some y) : answersS s y db = answersS s q db := by
  obtain ⟨hy, f, hf⟩ := chZ_query hq h
  cases hd : isDb s db with
  | false => simp [answersS, hd]
  | true =>
    have h1 : Strict ltI (answersS s y db) := by unfold answersS; rw [hy, hd, Bool.and_self, if_pos rfl]; exact (sortL_ok _).1
    have h2 : Strict ltI (answersS s q db) := by unfold answersS; rw [hq, hd, Bool.and_self, if_pos rfl]; exact (sortL_ok _).1
    refine strict_unique totI h1 h2 fun x => ?_
    rw [ans_iff hy hd, ans_iff hq hd]
    constructor
    · rintro ⟨v, hv, rfl⟩
      obtain ⟨k1, k2⟩ := sat_hom hf.hom hv
      exact ⟨_, k1, k2.symm⟩
    · rintro ⟨v, hv, rfl⟩
      obtain ⟨z, z1, z2, z3⟩ := chz_sat hk _ (isQuery_okT hq) (isQuery_ok hq) (Nat.lt_succ_self _) hv
      have e : some z = some y := z1.symm.trans h
      cases e
      exact ⟨v, z2, z3.symm⟩
theorem chZ_empty {s : List Int} {q : QueryT} {ks : List FactK} {db : List FactC} (hq : isQuery s q = true) (hk : Holds db ks) (h : chZ ks q = none) : answersS s q db = [] := by
  cases hd : isDb s db with
  | false => simp [answersS, hd]
  | true =>
    refine List.eq_nil_iff_forall_not_mem.2 fun x hx => ?_
    obtain ⟨v, hv, rfl⟩ := (ans_iff hq hd x).1 hx
    obtain ⟨z, z1, _⟩ := chz_sat hk _ (isQuery_okT hq) (isQuery_ok hq) (Nat.lt_succ_self _) hv
    have e : some z = none := z1.symm.trans h
    cases e
theorem under_sound {s : List Int} {a b : QueryT} {ks : List FactK} {db : List FactC} (hu : pContainedUnder s a b ks = true) (hk : Holds db ks) {x : List Int} (hx : x ∈ answersS s a db) : x ∈ answersS s b db := by
  simp only [pContainedUnder, Bool.and_eq_true] at hu
  obtain ⟨ha, hb, hks, _, hund⟩ := hu
  obtain ⟨_, hd⟩ := ans_empty hx
  unfold underP at hund
  cases hc : chZ ks a with
  | none => rw [chZ_empty ha hk hc] at hx; cases hx
  | some y =>
    rw [hc] at hund
    rw [← chZ_ans ha hk hc] at hx
    obtain ⟨hy, _⟩ := chZ_query ha hc
    obtain ⟨h, hh⟩ := (mapP_iff (isQuery_fineQT hy)).1 hund
    exact cont_sound ((contP_iff s y b).2 ⟨hy, hb, h, hh⟩) db hx
theorem cont_under {s : List Int} {a b : QueryT} {ks : List FactK} (hc : contP s a b = true) (hks : pAreKeys s ks = true) : pContainedUnder s a b ks = true := by
  obtain ⟨ha, hb, h, hh⟩ := (contP_iff s a b).1 hc
  have hl : a.1.length = b.1.length := by rw [← hh.1, List.length_map]
  simp only [pContainedUnder, ha, hb, hks, hl, bne_self_eq_false, Bool.not_false, Bool.true_and]
  unfold underP
  cases hz : chZ ks a with
  | none => rfl
  | some y =>
    obtain ⟨hy, f, hf⟩ := chZ_query ha hz
    exact (mapP_iff (isQuery_fineQT hy)).2 ⟨_, hom_comp hh hf.hom⟩
end Go.Proofs.YtcjdfeafcmfgpaaGreatD
set_option linter.unusedVariables false
set_option linter.unusedSimpArgs false
set_option maxRecDepth 100000
namespace Go.Proofs.YtcjdfeafcmfgpaaGreatD
open Go Go.Proofs
def wFactR (x : List FactC) : V := .tr 2 x.length (rows rFact x)
theorem rFact_roT (x : FactC) : roVs (rFact x) = rFact x := by simp only [rFact, roVs, roV, ints, roVs_ci, ci_ro]
theorem wFactR_ro (x : List FactC) : roV (wFactR x) = vFactS x := congrArg (V.ro x.length) (roVs_rows rFact_roT x)
theorem takeN_front {α : Type} {f : α → List V} {n : Nat} (h : ∀ x, (f x).length = n) (xs : List α) {k : Nat} (hk : k ≤ xs.length) : takeN (rows f xs) 0 (k * n) = some (rows f (xs.take k)) := by
  have e : rows f xs = rows f (xs.take k) ++ rows f (xs.drop k) := by rw [← rows_append, List.take_append_drop]
  have hl := rows_len h (xs.take k)
  rw [List.length_take, Nat.min_eq_left hk] at hl
  refine takeN_eq (by rw [e, List.length_append]; omega) ?_
  rw [List.drop_zero, e, ← hl, List.take_left]
theorem takeN_back {α : Type} {f : α → List V} {n m o : Nat} (h : ∀ x, (f x).length = n) (xs : List α) {k : Nat} (hk : k ≤ xs.length) (ho : o = k * n) (hm : m = (xs.length - k) * n) : takeN (rows f xs) o m = some (rows f (xs.drop k)) := by
  have hl := rows_len h (xs.drop k)
  rw [List.length_drop] at hl
  have ha := rows_len h xs
  have hb : k * n + (xs.length - k) * n = xs.length * n := by rw [← Nat.add_mul]; congr 1; omega
  subst hm
  subst ho
  refine takeN_eq (by omega) ?_
  rw [rows_drop h, ← hl, List.take_length]
theorem flat_rFactT (x : FactC) : ∀ c ∈ rFact x, flat c = true := by
  intro c hc
  simp only [rFact, List.mem_cons, List.not_mem_nil, or_false] at hc
  rcases hc with rfl | rfl <;> rfl
theorem flat_rowsT {α : Type} {f : α → List V} (h : ∀ x, ∀ c ∈ f x, flat c = true) : ∀ xs : List α, ∀ c ∈ rows f xs, flat c = true
  | [], c, hc => by cases hc
  | x :: xs, c, hc => by
    simp only [rows, List.mem_append] at hc
    rcases hc with hc | hc
    · exact h x c hc
    · exact flat_rowsT h xs c hc
theorem solid_rowsT {α : Type} {f : α → List V} (h : ∀ x, ∀ c ∈ f x, solid c = true) : ∀ xs : List α, ∀ c ∈ rows f xs, solid c = true
  | [], c, hc => by cases hc
  | x :: xs, c, hc => by
    simp only [rows, List.mem_append] at hc
    rcases hc with hc | hc
    · exact h x c hc
    · exact solid_rowsT h xs c hc
theorem solid_rFactT (x : FactC) : ∀ c ∈ rFact x, solid c = true := by
  intro c hc
  simp only [rFact, List.mem_cons, List.not_mem_nil, or_false] at hc
  rcases hc with rfl | rfl <;> rfl
def tameK (ks : List FactK) (P : List FactC → Int) (x : List FactC) : Int := if (pFirstViolation x ks).2.2 < 0 then P x else (pFirstViolation x ks).2.2
def tameGo (ks : List FactK) (P : List FactC → Int) : Nat → List FactC → List FactC
  | 0, _ => []
  | n + 1, x => if tameK ks P x < 0 then x else tameGo ks P n (x.take (tameK ks P x).toNat ++ x.drop ((tameK ks P x).toNat + 1))
theorem tameGo_succ (ks : List FactK) (P : List FactC → Int) (n : Nat) (x : List FactC) : tameGo ks P (n + 1) x = if tameK ks P x < 0 then x else tameGo ks P n (x.take (tameK ks P x).toNat ++ x.drop ((tameK ks P x).toNat + 1)) := rfl
theorem out3_lt {x : List FactC} {ks : List FactK} : (pFirstViolation x ks).2.2 < x.length ∧ ((pFirstViolation x ks).2.2 < 0 → Holds x ks) := by
  unfold pFirstViolation
  cases h : tripK x ks (ran 0 ks.length) with
  | none => exact ⟨by show (-1 : Int) < _; omega, fun _ => h⟩
  | some r =>
    obtain ⟨n, i, k⟩ := r
    obtain ⟨_, _, h3, _⟩ := tripK_is h
    have := (ran_mem'.1 h3).2
    exact ⟨by show ((k : Nat) : Int) < _; simp only at this; omega, fun h => absurd h (by show ¬ ((k : Nat) : Int) < 0; omega)⟩
theorem tame_mem {ks : List FactK} {P : List FactC → Int} : ∀ (n : Nat) (x : List FactC), (∀ f ∈ tameGo ks P n x, f ∈ x) ∧ (tameGo ks P n x).length ≤ x.length
  | 0, x => ⟨(fun f hf => by cases hf), Nat.zero_le _⟩
  | n + 1, x => by
    rw [tameGo]
    split
    · exact ⟨fun f hf => hf, Nat.le_refl _⟩
    · obtain ⟨h1, h2⟩ := tame_mem (ks := ks) (P := P) n (x.take (tameK ks P x).toNat ++ x.drop ((tameK ks P x).toNat + 1))
      refine ⟨fun f hf => ?_, ?_⟩
      · rcases List.mem_append.1 (h1 f hf) with h | h
        · exact List.mem_of_mem_take h
        · exact List.mem_of_mem_drop h
      · rw [List.length_append, List.length_take, List.length_drop] at h2
        omega
theorem tame_ok {ks : List FactK} {P : List FactC → Int} : ∀ (n : Nat) (x : List FactC), Holds (tameGo ks P n x) ks ∧ (tameGo ks P n x = [] ∨ P (tameGo ks P n x) < 0)
  | 0, x => by
    refine ⟨?_, .inl rfl⟩
    refine tripK_none.2 fun k hk => ?_
    rfl
  | n + 1, x => by
    rw [tameGo]
    split
    · rename_i h
      unfold tameK at h
      split at h
      · rename_i h1
        exact ⟨out3_lt.2 h1, .inr h⟩
      · rename_i h1
        exact absurd h h1
    · exact tame_ok n _
theorem smDb_sub {n m : Nat} {x y : List FactC} (h : smDb n m x) (h1 : ∀ f ∈ y, f ∈ x) (h2 : y.length ≤ x.length) : smDb n m y := ⟨Nat.le_trans h2 h.1, fun f hf => h.2 f (h1 f hf)⟩
theorem smDb_cut {n m : Nat} {x : List FactC} (h : smDb n m x) (k : Nat) : smDb n m (x.take k ++ x.drop (k + 1)) := smDb_sub h (fun f hf => (List.mem_append.1 hf).elim List.mem_of_mem_take List.mem_of_mem_drop) (by rw [List.length_append, List.length_take, List.length_drop]; omega)
set_option maxHeartbeats 4000000 in
theorem tame_g (db : List FactC) (ks : List FactK) (l : List (Int × List Int × Int × List Int)) (P : List FactC → Int) (hd : smDb 9 4 db) (hk : cKeyS ks ≤ 1048576) (hP : ∀ x, smDb 9 4 x → Spec Tryz.prog 136 [vFactS x, vInclusionS l] (ci (P x)) ∧ P x < x.length) :
    SpecG Tryz.prog 32 [vFactS db, vKeyS ks, vInclusionS l] [] fun r g2 => r = wFactR (tameGo ks P 200 db) ∧ g2 = [] := by
  refine SpecG_of mx Γ_ok 0 Tryz.func32 rfl rfl (by decide) ?_
  conv => whnf
  refine ⟨rows_len rFact_len _, solid_rowsT solid_rFactT db, ?_⟩
  conv => whnf
  have hdl := hd.1
  refine ⟨by omega, rfl, _, List.nil_append _, ?_⟩
  conv => whnf
  refine ⟨[(1,0),(2,0),(6,0),(7,0),(8,0)], fun m st => ∃ (i : Nat) (e : Int) (x : List FactC) (n : Nat) (r : List V), e = i ∧ m + i = 200 ∧ tameGo ks P 200 db = tameGo ks P m x ∧ smDb 9 4 x ∧ n = x.length ∧ r = rows rFact x ∧
    st = ⟨45, [(1, vKeyS ks), (2, vInclusionS l), (6, cnil), (7, .own 0 2 0 n n none), (8, ci e)], [some ⟨false, r⟩]⟩, 200, ⟨0, 0, db, 0 + db.length, rows rFact db, rfl, rfl, rfl, hd, Nat.zero_add _, rfl, by kernel_rfl⟩, ?_⟩
  rintro m st ⟨i, _, x, n, _, rfl, hm, hgo, hx, hn, rfl, rfl⟩
  have hxs := smDb_size hx (by omega) (by omega)
  have hxl := hx.1
  conv => whnf
  split <;> rename_i h1
  all_goals simp only [decide_eq_true_eq, decide_eq_false_iff_not] at h1
  · obtain ⟨m', rfl⟩ : ∃ m', m = m' + 1 := ⟨m - 1, by omega⟩
    rw [tameGo_succ ks P m' x] at hgo
    conv => whnf
    refine .inl ?_
    conv => whnf
    refine ⟨_, _, takeN_all (by rw [rows_len rFact_len, hn]), roVs_rows rFact_roT _, ?_⟩
    conv => whnf
    have hfv := specFirstViolation_gen x ks hxs (by omega)
    rw [show vFactS x = .ro n (rows rFact x) from by rw [hn]; rfl] at hfv
    refine ⟨_, hfv, .inr ⟨trivial, trivial, trivial, trivial⟩, .inl ?_⟩
    have hlt := (out3_lt (x := x) (ks := ks)).1
    have hK : tameK ks P x = if (pFirstViolation x ks).2.2 < 0 then P x else (pFirstViolation x ks).2.2 := rfl
    generalize pFirstViolation x ks = v at hlt hK
    obtain ⟨v1, v2, c⟩ := v
    simp only at hlt hK
    rw [show v3 (v1, v2, c) = .tup [ci v1, ci v2, ci c] from rfl]
    conv => whnf
    generalize hc : decide (c < 0) = dc
    cases dc with
    | true =>
      have hc' := of_decide_eq_true hc
      rw [if_pos hc'] at hK
      rw [hK] at hgo
      conv => whnf
      refine .inl ?_
      conv => whnf
      refine ⟨_, _, takeN_all (by rw [rows_len rFact_len, hn]), roVs_rows rFact_roT _, ?_⟩
      conv => whnf
      obtain ⟨hl1, hl2⟩ := hP x hx
      rw [show vFactS x = .ro n (rows rFact x) from by rw [hn]; rfl] at hl1
      refine ⟨_, hl1, .inr trivial, .inl ?_⟩
      generalize P x = p at hgo hl2
      conv => whnf
      generalize hp : decide (p < 0) = dp
      cases dp with
      | true =>
        rw [if_pos (of_decide_eq_true hp)] at hgo
        conv => whnf
        refine ⟨[], ?_⟩
        conv => whnf
        refine ⟨by rw [rows_len rFact_len, hn], ?_⟩
        rw [hgo, hn]
        exact ⟨rfl, rfl⟩
      | false =>
        have hp' := of_decide_eq_false hp
        rw [if_neg hp'] at hgo
        obtain ⟨q, rfl⟩ : ∃ q : Nat, p = q := ⟨p.toNat, by omega⟩
        rw [Int.toNat_natCast] at hgo
        have hq : q < x.length := by omega
        conv => whnf
        refine ⟨[1, 2, 3, 5, 6, 7, 8, 0, 4, 9, 10], by kernel_rfl, ?_⟩
        conv => whnf
        have hw : IntKind.i64.wrap ((q : Int) + 1) = ((q + 1 : Nat) : Int) := wrap_id (by omega) (by omega)
        refine ⟨⟨by omega, by omega⟩, ?_⟩
        conv => whnf
        rw [hw]
        refine ⟨⟨by omega, by omega⟩, ?_⟩
        conv => whnf
        refine ⟨_, takeN_front rFact_len x (k := q) (by omega), .inl ⟨flat_rowsT flat_rFactT _, ?_⟩⟩
        conv => whnf
        refine ⟨by omega, rfl, _, List.nil_append _, ?_⟩
        conv => whnf
        refine ⟨_, takeN_back rFact_len x (k := q + 1) (by omega) (by rw [Int.toNat_natCast, Nat.zero_add]) (by rw [Int.toNat_natCast, Int.toNat_natCast, hn]; rfl), .inl ⟨flat_rowsT flat_rFactT _, ?_⟩⟩
        conv => whnf
        refine ⟨by omega, by rw [rows_len rFact_len, List.length_take, Nat.min_eq_left (by omega)]; show q * 2 = (0 + ((q : Int).toNat - 0)) * 2; rw [Int.toNat_natCast]; omega, _, (rows_append rFact _ _).symm, ?_⟩
        conv => whnf
        exact ⟨m', by omega, i + 1, IntKind.i64.wrap ((i : Int) + 1), x.take q ++ x.drop (q + 1), 0 + ((q : Int).toNat - Int.toNat 0) + ((n : Int).toNat - ((q + 1 : Nat) : Int).toNat), rows rFact (x.take q ++ x.drop (q + 1)), wrap_id (by omega) (by omega), by omega, hgo, smDb_cut hx q, (by rw [Int.toNat_natCast, Int.toNat_natCast, Int.toNat_natCast, List.length_append, List.length_take, List.length_drop]; show 0 + (q - 0) + _ = _; omega), rfl, by kernel_rfl⟩
    | false =>
      have hc' := of_decide_eq_false hc
      rw [if_neg hc'] at hK
      rw [hK, if_neg hc'] at hgo
      obtain ⟨q, rfl⟩ : ∃ q : Nat, c = q := ⟨c.toNat, by omega⟩
      rw [Int.toNat_natCast] at hgo
      have hq : q < x.length := by omega
      conv => whnf
      rw [hc]
      conv => whnf
      refine ⟨[1, 2, 3, 5, 6, 7, 8, 0, 4, 9, 10], by kernel_rfl, ?_⟩
      conv => whnf
      have hw : IntKind.i64.wrap ((q : Int) + 1) = ((q + 1 : Nat) : Int) := wrap_id (by omega) (by omega)
      refine ⟨⟨by omega, by omega⟩, ?_⟩
      conv => whnf
      rw [hw]
      refine ⟨⟨by omega, by omega⟩, ?_⟩
      conv => whnf
      refine ⟨_, takeN_front rFact_len x (k := q) (by omega), .inl ⟨flat_rowsT flat_rFactT _, ?_⟩⟩
      conv => whnf
      refine ⟨by omega, rfl, _, List.nil_append _, ?_⟩
      conv => whnf
      refine ⟨_, takeN_back rFact_len x (k := q + 1) (by omega) (by rw [Int.toNat_natCast, Nat.zero_add]) (by rw [Int.toNat_natCast, Int.toNat_natCast, hn]; rfl), .inl ⟨flat_rowsT flat_rFactT _, ?_⟩⟩
      conv => whnf
      refine ⟨by omega, by rw [rows_len rFact_len, List.length_take, Nat.min_eq_left (by omega)]; show q * 2 = (0 + ((q : Int).toNat - 0)) * 2; rw [Int.toNat_natCast]; omega, _, (rows_append rFact _ _).symm, ?_⟩
      conv => whnf
      exact ⟨m', by omega, i + 1, IntKind.i64.wrap ((i : Int) + 1), x.take q ++ x.drop (q + 1), 0 + ((q : Int).toNat - Int.toNat 0) + ((n : Int).toNat - ((q + 1 : Nat) : Int).toNat), rows rFact (x.take q ++ x.drop (q + 1)), wrap_id (by omega) (by omega), by omega, hgo, smDb_cut hx q, (by rw [Int.toNat_natCast, Int.toNat_natCast, Int.toNat_natCast, List.length_append, List.length_take, List.length_drop]; show 0 + (q - 0) + _ = _; omega), rfl, by kernel_rfl⟩
  · conv => whnf
    have hm0 : m = 0 := by omega
    subst hm0
    rw [hgo]
    refine ⟨[], ?_⟩
    conv => whnf
    exact ⟨rfl, rfl, rfl⟩
end Go.Proofs.YtcjdfeafcmfgpaaGreatD
set_option linter.unusedVariables false
set_option linter.unusedSimpArgs false
set_option maxRecDepth 100000
namespace Go.Proofs.YtcjdfeafcmfgpaaGreatD
open Go Go.Proofs
abbrev QueryQ := List Int × List (Int × List Int)
theorem eqA_dec (a b : AtomC) : eqA a b = decide (a = b) := by
  obtain ⟨a1, a2⟩ := a
  obtain ⟨b1, b2⟩ := b
  unfold eqA
  simp only [Prod.mk.injEq, Bool.decide_and]
theorem eqQ_dec (a b : QueryQ) : decide (a = b) = (decide (a.1 = b.1) && decide (a.2 = b.2)) := by
  obtain ⟨a1, a2⟩ := a
  obtain ⟨b1, b2⟩ := b
  simp only [Prod.mk.injEq, Bool.decide_and]
theorem q_sizes {a : QueryQ} (h : cQuery a ≤ 1048576) : a.1.length ≤ 1048576 ∧ a.2.length ≤ 1048576 ∧ ∀ {k : Nat} (hk : k < a.2.length), a.2[k].2.length ≤ 1048576 := by
  unfold cQuery cAtomS at h
  refine ⟨by omega, by omega, fun {k} hk => ?_⟩
  have := sumB_one (f := cAtom) hk
  have e : cAtom a.2[k] = a.2[k].2.length := rfl
  omega
set_option maxHeartbeats 2000000 in
theorem specEqualQueries_spec (a b : QueryQ) (ha : cQuery a ≤ 1048576) (hb : cQuery b ≤ 1048576) : Spec Tryz.prog 29 [vQuery a, vQuery b] (cb (decide (a = b))) := by
  obtain ⟨a1, a2, a3⟩ := q_sizes ha
  obtain ⟨b1, b2, b3⟩ := q_sizes hb
  rw [eqQ_dec]
  refine Spec_of mx Γ_ok Tryz.func29 rfl ?_
  conv => whnf
  refine ⟨_, l2Ints_spec a.1 b.1 (by omega) (by omega), .inl rfl, .inl ?_⟩
  generalize decide (a.1 = b.1) = c1
  cases c1 with
  | false =>
    conv => whnf
    rfl
  | true =>
  conv => whnf
  rw [Bool.true_and]
  generalize hc2 : ((a.2.length : Int) != (b.2.length : Int)) = c2
  cases c2 with
  | true =>
    conv => whnf
    rw [ne_len (by intro h; rw [h] at hc2; simp at hc2)]
    rfl
  | false =>
  have hlen : a.2.length = b.2.length := by
    have : (a.2.length : Int) = b.2.length := by simpa using hc2
    omega
  conv => whnf
  refine ⟨[(2,0),(3,0),(5,0)], fun m st => ∃ (k : Nat) (e : Int), e = k ∧ m + k = a.2.length ∧ decide (a.2 = b.2) = decide (a.2.drop k = b.2.drop k) ∧
    st = ⟨40, [(2, .ptr 0 0), (3, .ptr 1 0), (5, ci e)], [some ⟨true, rQuery a⟩, some ⟨true, rQuery b⟩]⟩, a.2.length, ⟨0, 0, rfl, rfl, rfl, by kernel_rfl⟩, ?_⟩
  rintro m st ⟨k, _, rfl, hm, hj, rfl⟩
  conv => whnf
  split <;> rename_i h1
  all_goals simp only [decide_eq_true_eq, decide_eq_false_iff_not] at h1
  · have hk : k < a.2.length := by omega
    have hk' : k < b.2.length := by omega
    have h3 := a3 hk
    have h4 := b3 hk'
    rw [drop_eq_at hk hk'] at hj
    conv => whnf
    refine ⟨List.range 12, by kernel_rfl, ?_⟩
    conv => whnf
    refine ⟨by omega, rows_len rAtom_len _, ?_⟩
    conv => whnf
    refine ⟨_, takeN_rp (k := k) rAtom_len hk, ?_⟩
    conv => whnf
    refine ⟨by omega, rows_len rAtom_len _, ?_⟩
    conv => whnf
    refine ⟨_, takeN_rp (k := k) rAtom_len hk', ?_⟩
    conv => whnf
    refine ⟨_, specEqualAtoms_spec a.2[k] b.2[k] (by omega) (by omega), .inl rfl, .inl ?_⟩
    rw [eqA_dec]
    generalize decide (a.2[k] = b.2[k]) = c3 at hj
    cases c3 with
    | false =>
      conv => whnf
      rw [hj]
      rfl
    | true =>
      conv => whnf
      exact ⟨m - 1, by omega, k + 1, IntKind.i64.wrap ((k : Int) + 1), wrap_id (by omega) (by omega), by omega, by rw [hj, Bool.true_and], by kernel_rfl⟩
  · conv => whnf
    rw [hj, List.drop_eq_nil_of_le (by omega), List.drop_eq_nil_of_le (by omega)]
    rfl
end Go.Proofs.YtcjdfeafcmfgpaaGreatD
