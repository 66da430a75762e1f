/- Contracts of functions and plain laws that a proof of this seat rests on; no condition. -/
import Derived.Test.YtcjdfeafcmfgpaaGreatQ29
import Derived.Test.YtcjdfeafcmfgpaaGreatQ27
import Derived.Test.YtcjdfeafcmfgpaaGreatQ13
set_option linter.unusedVariables false
set_option linter.unusedSimpArgs false
set_option maxRecDepth 100000
namespace Go.Proofs.YtcjdfeafcmfgpaaGreatD
open Go Go.Proofs
theorem inR_bd {x lo hi : Int} (h : inR x lo hi = true) : lo ≤ x ∧ x ≤ hi := by simpa [inR] using h
def fzv (x : Int) : Int := 80 + x
theorem fz_val {t : Int} (h : isTerm t = true) : fz t = val fzv t := by
  have := term_rng h
  unfold fz val fzv
  cases hv : isVar t with
  | true =>
    have h0 := (var_iff h).1 hv
    rw [if_neg (by omega), if_pos rfl]
  | false =>
    have h0 : ¬ 0 ≤ t := fun h0 => by rw [(var_iff h).2 h0] at hv; cases hv
    rw [if_pos (by omega)]
    simp
theorem isQ_facts {s : List Int} {q : QueryT} (h : isQuery s q = true) : isSchema s = true ∧ q.1.all isTerm = true ∧ q.1.length ≤ 3 ∧ q.2.length ≤ 4 ∧ ∀ a ∈ q.2, takesS s a.1 a.2.length = true ∧ a.2.all isTerm = true := by
  simp only [isQuery, fineQ, terms3, Bool.and_eq_true, decide_eq_true_eq] at h
  obtain ⟨h1, ⟨h2, h3⟩, h4, h5, h6⟩ := h
  refine ⟨h1, h2, h3, by have := inR_bd h4; omega, fun a ha => ?_⟩
  have := List.all_eq_true.1 h5 a ha
  simp only [isAtom, Bool.and_eq_true] at this
  exact this
theorem takes_len {s : List Int} {r n : Int} (h : takesS s r n = true) : n ≤ 3 := by
  simp only [takesS, Bool.and_eq_true, decide_eq_true_eq] at h
  obtain ⟨h1, h2, h3⟩ := h
  have h4 := inR_bd h2
  obtain ⟨k, rfl⟩ : ∃ k : Nat, r = k := ⟨r.toNat, by omega⟩
  have hk : k < s.length := by omega
  rw [Int.toNat_natCast] at h3
  have : s.getD k 0 = s[k] := by simp [List.getD_eq_getElem?_getD, hk]
  rw [this] at h3
  unfold isSchema at h1
  simp only [Bool.and_eq_true, List.all_eq_true] at h1
  have h5 := inR_bd (h1.1 s[k] (List.getElem_mem hk))
  omega
theorem frz_ok {s : List Int} {q : QueryT} (h : isQuery s q = true) : frzOk q = true := by
  obtain ⟨h1, h2, h3, h4, h5⟩ := isQ_facts h
  simp only [frzOk, terms3, Bool.and_eq_true, decide_eq_true_eq, List.all_eq_true]
  refine ⟨⟨⟨List.all_eq_true.1 h2, h3⟩, by omega⟩, fun a ha => ⟨List.all_eq_true.1 (h5 a ha).2, ?_⟩⟩
  have := takes_len (h5 a ha).1
  omega
theorem strict_go {s : List Int} : ∀ (db : List FactC) (p : Option FactC), Strict ltF db → (∀ f ∈ db, isFact s f = true) → (∀ y, p = some y → ∀ f ∈ db, ltF y f = true) → dbGo s p db = true
  | [], p, _, _, _ => by cases p <;> rfl
  | x :: r, p, hs, hf, hp => by
    obtain ⟨h1, h2⟩ := List.pairwise_cons.1 hs
    simp only [dbGo, Bool.and_eq_true]
    refine ⟨⟨hf x (by simp), ?_⟩, strict_go r (some x) h2 (fun f hf' => hf f (by simp [hf'])) fun y hy f hf' => by cases hy; exact h1 f hf'⟩
    cases p with
    | none => rfl
    | some y => exact hp y rfl x (by simp)
theorem fz_rng {t : Int} (h : isTerm t = true) : 0 ≤ fz t ∧ fz t ≤ 99 := by
  have := term_rng h
  unfold fz
  split <;> omega
theorem frz_mem (q : QueryT) (a : FactC) : a ∈ (q.2.map fzF).foldl putF [] ↔ ∃ c ∈ q.2, fzF c = a := by
  rw [(putAll (q.2.map fzF) [] List.Pairwise.nil).2 a]
  simp
theorem frz_db {s : List Int} {q : QueryT} (h : isQuery s q = true) : isDb s (pFreeze q).1 = true := by
  obtain ⟨h1, h2, h3, h4, h5⟩ := isQ_facts h
  unfold pFreeze
  rw [if_pos (frz_ok h)]
  have hst := (putAll (q.2.map fzF) [] List.Pairwise.nil).1
  simp only [isDb, Bool.and_eq_true, decide_eq_true_eq]
  refine ⟨strict_go _ none hst (fun f hf => ?_) (fun y hy => by cases hy), h1, ?_⟩
  · obtain ⟨c, hc, rfl⟩ := (frz_mem q f).1 hf
    obtain ⟨t1, t2⟩ := h5 c hc
    simp only [isFact, isVals, fzF, Bool.and_eq_true, List.length_map, List.all_eq_true, List.mem_map]
    refine ⟨t1, ?_⟩
    rintro y ⟨t, ht, rfl⟩
    have := fz_rng (List.all_eq_true.1 t2 t ht)
    simp [inR, this.1, this.2]
  · have h6 := (short_fold (q.2.map fzF) [] (fun x hx => by
      obtain ⟨c, hc, rfl⟩ := List.mem_map.1 hx
      have := takes_len (h5 c hc).1
      simp only [fzF, List.length_map]
      omega) (fun x hx => by cases hx)).2
    simp only [List.length_map, List.length_nil] at h6
    omega
theorem frz_ans {s : List Int} {q : QueryT} (h : isQuery s q = true) : (pFreeze q).2 ∈ answersS s q (pFreeze q).1 := by
  obtain ⟨h1, h2, h3, h4, h5⟩ := isQ_facts h
  refine (ans_iff h (frz_db h) _).2 ⟨fzv, ?_, ?_⟩
  all_goals
    unfold pFreeze
    rw [if_pos (frz_ok h)]
  · intro a ha
    refine (frz_mem q _).2 ⟨a, ha, Prod.ext rfl ?_⟩
    exact List.map_congr_left fun t ht => fz_val (List.all_eq_true.1 (h5 a ha).2 t ht)
  · exact List.map_congr_left fun t ht => fz_val (List.all_eq_true.1 h2 t ht)
def unf (x : Int) : Int := if x < 80 then -1 - x else x - 80
theorem unf_fz {t : Int} (h : isTerm t = true) : unf (fz t) = t := by
  have := term_rng h
  unfold unf fz
  split <;> split <;> omega
theorem unf_val {v : Int → Int} {t : Int} (h : isTerm t = true) : unf (val v t) = app (fun k => unf (v k)) t := by
  have := term_rng h
  unfold val app
  cases hv : isVar t with
  | true => rfl
  | false =>
    have h0 : ¬ 0 ≤ t := fun h0 => by rw [(var_iff h).2 h0] at hv; cases hv
    simp only [Bool.false_eq_true, if_false]
    unfold unf
    rw [if_pos (by omega)]
    omega
theorem unf_list {xs : List Int} (h : xs.all isTerm = true) : (xs.map fz).map unf = xs := by
  rw [List.map_map]
  refine (List.map_congr_left fun t ht => ?_).trans (List.map_id xs)
  exact unf_fz (List.all_eq_true.1 h t ht)
theorem frz_cex {s : List Int} {a b : QueryT} (ha : isQuery s a = true) (hb : isQuery s b = true) (hx : (pFreeze a).2 ∈ answersS s b (pFreeze a).1) : contP s a b = true := by
  obtain ⟨_, a2, _, _, a5⟩ := isQ_facts ha
  obtain ⟨_, b2, _, _, b5⟩ := isQ_facts hb
  obtain ⟨v, hv, he⟩ := (ans_iff hb (frz_db ha) _).1 hx
  unfold pFreeze at hv he
  rw [if_pos (frz_ok ha)] at hv he
  refine (contP_iff s a b).2 ⟨ha, hb, fun k => unf (v k), ?_, fun c hc => ?_⟩
  · have : a.1.map fz = b.1.map (val v) := he
    rw [← unf_list a2, this, List.map_map]
    exact List.map_congr_left fun t ht => (unf_val (List.all_eq_true.1 b2 t ht)).symm
  · obtain ⟨d, hd, hde⟩ := (frz_mem a _).1 (hv c hc)
    have h1 : d.1 = c.1 := by have e := congrArg Prod.fst hde; exact e
    have h2 : d.2.map fz = c.2.map (val v) := by have e := congrArg Prod.snd hde; exact e
    have : appA (fun k => unf (v k)) c = d := by
      refine Prod.ext h1.symm ?_
      show c.2.map _ = d.2
      rw [← unf_list (a5 d hd).2, h2, List.map_map]
      exact List.map_congr_left fun t ht => (unf_val (List.all_eq_true.1 (b5 c hc).2 t ht)).symm
    rw [this]
    exact hd
end Go.Proofs.YtcjdfeafcmfgpaaGreatD
