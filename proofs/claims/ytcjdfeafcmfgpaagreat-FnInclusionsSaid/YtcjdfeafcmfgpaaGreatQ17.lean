/- Contracts and plain laws of this seat; no condition. -/
import Derived.Test.YtcjdfeafcmfgpaaGreatQ15
import Derived.Test.YtcjdfeafcmfgpaaGreatQ16
import Derived.Test.YtcjdfeafcmfgpaaGreatQ10
import Derived.Test.YtcjdfeafcmfgpaaGreatQ11
import Derived.Test.YtcjdfeafcmfgpaaGreatQ12
set_option linter.unusedVariables false
set_option linter.unusedSimpArgs false
set_option maxRecDepth 100000
namespace Go.Proofs.YtcjdfeafcmfgpaaGreatD
open Go Go.Proofs
theorem isQuery_terms {s : List Int} {q : QueryE} (h : isQuery s q = true) : q.1.all isTerm = true ∧ (∀ a ∈ q.2, a.2.all isTerm = true) ∧ q.2.length ≤ 8 := by
 have h0 := h
 simp only [isQuery, fineQ, terms3, Bool.and_eq_true, decide_eq_true_eq] at h
 refine ⟨?_, ?_, ?_⟩
 ·exact h.2.1.1
 ·intro a ha
  have := List.all_eq_true.1 h.2.2.2.1 a ha
  simp only [isAtom, Bool.and_eq_true] at this
  exact this.2
 ·have := h.2.2.1
  simp only [inR, Bool.and_eq_true, decide_eq_true_eq] at this
  omega
def answersS (s : List Int) (q : QueryE) (db : List FactC) : List (List Int) := if isQuery s q && isDb s db then sortL true ((rawP q db).map fun v => q.1.map (tS v)) else []
def bindingsS (s : List Int) (q : QueryE) (db : List FactC) : List (List Int) := if isQuery s q && isDb s db then rawP q db else []
theorem isDb_len {s : List Int} {db : List FactC} (h : isDb s db = true) : db.length ≤ 24 := by
 simp only [isDb, Bool.and_eq_true, decide_eq_true_eq] at h
 exact h.2.2
theorem pow_small {n m : Nat} (hn : n ≤ 24) (hm : m ≤ 8) : n ^ m ≤ 549755813888 := by
 have h1 : n ^ m ≤ 24 ^ m := Nat.pow_le_pow_left hn m
 have h2 : 24 ^ m ≤ 24 ^ 8 := Nat.pow_le_pow_right (by decide) hm
 have h3 : 24 ^ 8 ≤ 549755813888 := by decide
 omega
theorem specBindings_spec (s : List Int) (q : QueryE) (db : List FactC) (hs : cSchema s ≤ 1048576) (hq : cQuery q ≤ 1048576) (hd : cFactS db ≤ 1048576) : Spec Tryz.prog 63 [vSchema s, vQuery q, vFactS db] (wLists (bindingsS s q db)) := by
 have hs' : s.length ≤ 1099511627776 := by unfold cSchema at hs; omega
 refine Spec_of mx Γ_ok Tryz.func63 rfl ?_
 conv => whnf
 refine ⟨_, specIsQuery_spec s q hs hq, .inl rfl, .inl ?_⟩
 conv => whnf
 unfold bindingsS
 generalize hb1 : isQuery s q = b1
 cases b1 with
 | false =>
  conv => whnf
  exact ⟨rfl, rfl⟩
 | true =>
  conv => whnf
  refine ⟨_, specIsDatabase_spec s db hs' hd, .inl rfl, .inl ?_⟩
  conv => whnf
  generalize hb2 : isDb s db = b2
  cases b2 with
  | false =>
   conv => whnf
   exact ⟨rfl, rfl⟩
  | true =>
   conv => whnf
   obtain ⟨t1, t2, t3⟩ := isQuery_terms hb1
   refine ⟨_, l6Raw_spec q db hq hd t2 (pow_small (isDb_len hb2) t3), .inl rfl, .inr ?_⟩
   conv => whnf
   refine ⟨by rw [rows_len tL_len], rfl⟩
theorem mem_insL {once : Bool} {out : List (List Int)} {v x : List Int} (h : x ∈ insL once out v) : x = v ∨ x ∈ out := by
 unfold insL at h
 split at h
 ·exact .inr h
 ·rcases List.mem_append.1 h with h | h
  ·exact .inr (List.mem_of_mem_take h)
  ·rcases List.mem_cons.1 h with h | h
   ·exact .inl h
   ·exact .inr (List.mem_of_mem_drop h)
theorem insL_len (once : Bool) (out : List (List Int)) (v : List Int) : (insL once out v).length ≤ out.length + 1 := by
 unfold insL
 split
 ·omega
 ·rw [List.length_append, List.length_cons, List.length_take, List.length_drop]; omega
theorem foldL_ok (once : Bool) : ∀ (l out : List (List Int)), (∀ x ∈ l.foldl (insL once) out, x ∈ l ∨ x ∈ out) ∧ (l.foldl (insL once) out).length ≤ l.length + out.length
 | [], out => ⟨fun x h => .inr h, by simp⟩
 | v :: l, out => by
  obtain ⟨h1, h2⟩ := foldL_ok once l (insL once out v)
  have h3 := insL_len once out v
  refine ⟨fun x hx => ?_, ?_⟩
  ·rcases h1 x hx with h | h
   ·exact .inl (by simp [h])
   ·rcases mem_insL h with h | h
    ·exact .inl (by simp [h])
    ·exact .inr h
  ·rw [List.foldl_cons, List.length_cons]; omega
theorem mem_sortL {once : Bool} {l : List (List Int)} {x : List Int} (h : x ∈ sortL once l) : x ∈ l := by
 rcases (foldL_ok once l []).1 x h with h | h
 ·exact h
 ·cases h
theorem sortL_len (once : Bool) (l : List (List Int)) : (sortL once l).length ≤ l.length := (foldL_ok once l []).2
theorem rawP_ok (q : QueryE) (db : List FactC) : (∀ v ∈ rawP q db, ∃ b ∈ visitL db q.2 bNone, v = sV b) ∧ (rawP q db).length ≤ db.length ^ q.2.length := by
 refine ⟨fun v hv => ?_, ?_⟩
 ·obtain ⟨b, hb, rfl⟩ := List.mem_map.1 (mem_sortL hv)
  exact ⟨b, hb, rfl⟩
 ·have h1 := sortL_len true ((visitL db q.2 bNone).map sV)
  rw [List.length_map] at h1
  exact Nat.le_trans h1 (visitL_len db q.2 bNone)
theorem l6Heads_nil (q : QueryE) (hq : cQuery q ≤ 1048576) : Spec Tryz.prog 110 [vQuery q, vLists []] (wLists []) := by
 refine Spec_of mx Γ_ok Tryz.func110 rfl ?_
 conv => whnf
 refine ⟨[(1,0),(2,0),(4,0),(5,0),(6,0)], fun m s => s = ⟨25, [(1, vLists []), (2, .ptr 0 0), (4, cnil), (5, .own 1 1 0 0 0 none), (6, ci 0)], [some ⟨true, rQuery q⟩, some ⟨false, []⟩]⟩, 0, rfl, ?_⟩
 rintro m s rfl
 conv => whnf
 exact ⟨rfl, rfl⟩
set_option maxHeartbeats 4000000 in
theorem specAnswers_spec (s : List Int) (q : QueryE) (db : List FactC) (hs : cSchema s ≤ 1048576) (hq : cQuery q ≤ 1048576) (hd : cFactS db ≤ 1048576) : Spec Tryz.prog 19 [vSchema s, vQuery q, vFactS db] (wLists (answersS s q db)) := by
 refine Spec_of mx Γ_ok Tryz.func19 rfl ?_
 conv => whnf
 refine ⟨List.range 8, by kernel_rfl, ?_⟩
 conv => whnf
 refine ⟨_, specBindings_spec s q db hs hq hd, .inl rfl, .inl ?_⟩
 rw [wLists_ro]
 conv => whnf
 have hq' := hq
 unfold cQuery at hq'
 unfold bindingsS answersS
 generalize hb1 : (isQuery s q && isDb s db) = b1
 cases b1 with
 | false =>
  refine ⟨_, l6Heads_nil q hq, .inl rfl, .inl ?_⟩
  rw [wLists_ro]
  conv => whnf
  refine ⟨_, l6Sort_spec [] true (by simp) (by simp), .inl rfl, .inr ?_⟩
  conv => whnf
  exact ⟨rfl, rfl⟩
 | true =>
  simp only [Bool.and_eq_true] at hb1
  obtain ⟨t1, t2, t3⟩ := isQuery_terms hb1.1
  obtain ⟨r1, r2⟩ := rawP_ok q db
  have hp := pow_small (isDb_len hb1.2) t3
  refine ⟨_, l6Heads_spec q (rawP q db) hq (by omega) (fun v hv => by obtain ⟨b, _, rfl⟩ := r1 v hv; rfl) t1, .inl rfl, .inl ?_⟩
  rw [wLists_ro]
  conv => whnf
  refine ⟨_, l6Sort_spec ((rawP q db).map fun v => q.1.map (tS v)) true (by rw [List.length_map]; omega) (fun v hv => by obtain ⟨x, _, rfl⟩ := List.mem_map.1 hv; rw [List.length_map]; omega), .inl rfl, .inr ?_⟩
  conv => whnf
  exact ⟨by rw [rows_len tL_len], rfl⟩
theorem scanL_ok (v : List Int) (out : List (List Int)) : ∀ n, n ≤ out.length → scanL v out n ≤ n ∧ (∀ j, scanL v out n ≤ j → j < n → ∀ h : j < out.length, ltI v out[j] = true) ∧ (0 < scanL v out n → ltI v (out.getD (scanL v out n - 1) []) = false)
 | 0, _ => ⟨Nat.le_refl _, fun j _ h => absurd h (Nat.not_lt_zero _), fun h => absurd h (by simp [scanL])⟩
 | n + 1, hn => by
  obtain ⟨i1, i2, i3⟩ := scanL_ok v out n (by omega)
  have hg : out.getD n [] = out[n] := by rw [List.getD_eq_getElem?_getD, List.getElem?_eq_getElem (by omega)]; rfl
  simp only [scanL]
  split
  ·rename_i h
   refine ⟨by omega, fun j h1 h2 h3 => ?_, i3⟩
   by_cases e : j = n
   ·subst e; rw [← hg]; exact h
   ·exact i2 j h1 (by omega) h3
  ·rename_i h
   exact ⟨Nat.le_refl _, fun j h1 h2 => by omega, fun _ => by simpa using h⟩
theorem insL_ok {out : List (List Int)} (hs : Strict ltI out) (v : List Int) : Strict ltI (insL true out v) ∧ ∀ x, x ∈ insL true out v ↔ x = v ∨ x ∈ out := by
 obtain ⟨h1, h2, h3⟩ := scanL_ok v out out.length (Nat.le_refl _)
 unfold insL
 generalize scanL v out out.length = k at *
 have hpw := List.pairwise_iff_getElem.1 hs
 by_cases hc : (true && decide (0 < k) && decide (out.getD (k - 1) [] = v)) = true
 ·rw [if_pos hc]
  simp only [Bool.and_eq_true, decide_eq_true_eq, true_and] at hc
  have hk1 : k - 1 < out.length := by omega
  have hg : out.getD (k - 1) [] = out[k - 1] := by rw [List.getD_eq_getElem?_getD, List.getElem?_eq_getElem hk1]; rfl
  refine ⟨hs, fun x => ⟨.inr, ?_⟩⟩
  rintro (rfl | h)
  ·rw [← hc.2, hg]; exact List.getElem_mem hk1
  ·exact h
 ·rw [if_neg hc]
  have hlow : ∀ j (h : j < out.length), j < k → ltI out[j] v = true := by
   intro j h hj
   have hk0 : 0 < k := by omega
   have hk1 : k - 1 < out.length := by omega
   have hg : out.getD (k - 1) [] = out[k - 1] := by rw [List.getD_eq_getElem?_getD, List.getElem?_eq_getElem hk1]; rfl
   have h4 := h3 hk0
   rw [hg] at h4
   have h5 : ¬ out[k - 1] = v := fun e => hc (by rw [hg]; simp [hk0, e])
   have h6 : ltI out[k - 1] v = true := by
    rcases totI.tri out[k - 1] v with h | h | h
    ·exact h
    ·exact absurd h h5
    ·rw [h4] at h; cases h
   by_cases e : j = k - 1
   ·subst e; exact h6
   ·exact totI.tr _ _ _ (hpw j (k - 1) h hk1 (by omega)) h6
  refine ⟨?_, fun x => ?_⟩
  ·refine List.pairwise_append.2 ⟨hs.sublist (List.take_sublist _ _), List.pairwise_cons.2 ⟨fun x hx => ?_, hs.sublist (List.drop_sublist _ _)⟩, fun x hx y hy => ?_⟩
   ·obtain ⟨j, hj, rfl⟩ := List.getElem_of_mem hx
    rw [List.length_drop] at hj
    rw [List.getElem_drop]
    exact h2 (k + j) (by omega) (by omega) (by omega)
   ·obtain ⟨j, hj, rfl⟩ := List.getElem_of_mem hx
    rw [List.length_take] at hj
    rw [List.getElem_take]
    have h4 := hlow j (by omega) (by omega)
    rcases List.mem_cons.1 hy with rfl | hy
    ·exact h4
    ·obtain ⟨p, hp, rfl⟩ := List.getElem_of_mem hy
     rw [List.length_drop] at hp
     rw [List.getElem_drop]
     exact totI.tr _ _ _ h4 (h2 (k + p) (by omega) (by omega) (by omega))
  ·rw [List.mem_append, List.mem_cons]
   constructor
   ·rintro (h | h | h)
    ·exact .inr (List.mem_of_mem_take h)
    ·exact .inl h
    ·exact .inr (List.mem_of_mem_drop h)
   ·rintro (h | h)
    ·exact .inr (.inl h)
    ·rw [← List.take_append_drop k out] at h
     rcases List.mem_append.1 h with h | h
     ·exact .inl h
     ·exact .inr (.inr h)
theorem sortL_ok (l : List (List Int)) : Strict ltI (sortL true l) ∧ ∀ x, x ∈ sortL true l ↔ x ∈ l := by
 have : ∀ (l out : List (List Int)), Strict ltI out → Strict ltI (l.foldl (insL true) out) ∧ ∀ x, x ∈ l.foldl (insL true) out ↔ x ∈ l ∨ x ∈ out := by
  intro l
  induction l with
  | nil => intro out h; exact ⟨h, fun x => by simp⟩
  | cons v l ih =>
   intro out h
   obtain ⟨h1, h2⟩ := insL_ok h v
   obtain ⟨i1, i2⟩ := ih _ h1
   refine ⟨i1, fun x => ?_⟩
   rw [List.foldl_cons, i2 x, h2 x, List.mem_cons]
   constructor
   ·rintro (h | h | h) <;> simp [h]
   ·rintro ((h | h) | h) <;> simp [h]
 obtain ⟨h1, h2⟩ := this l [] List.Pairwise.nil
 exact ⟨h1, fun x => by rw [sortL, h2 x]; simp⟩
theorem safe_bound {s : List Int} {q : QueryE} {db : List FactC} (h : isQuery s q = true) {b : Bnd} (hb : b ∈ visitL db q.2 bNone) : q.1.map (tS (sV b)) = tupOf b q.1 := by
 obtain ⟨t1, t2, t3⟩ := isQuery_terms h
 refine List.map_congr_left fun t ht => tS_valOf b t (List.all_eq_true.1 t1 t ht) fun h0 => ?_
 simp only [isQuery, fineQ, Bool.and_eq_true] at h
 have hs := List.all_eq_true.1 h.2.2.2.2 t ht
 have hr : -80 ≤ t ∧ t ≤ 19 := by simpa [isTerm, inR] using List.all_eq_true.1 t1 t ht
 have hv : isVar t = true := by simp [isVar, inR]; omega
 have hoc : occurs q t = true := by simpa [safeV, hv] using hs
 obtain ⟨a, ha, hx⟩ := List.any_eq_true.1 hoc
 obtain ⟨u, hu, he⟩ := List.any_eq_true.1 hx
 have hut : u = t := by
  have := he
  simp [eqV] at this
  first | exact this.symm | exact this
 subst hut
 exact (visitL_ok db q.2 bNone b hb).2 a ha u hu h0
def hasL (l : List (List Int)) (x : List Int) : Bool := l.any fun y => decide (y = x)
theorem hasL_iff (l : List (List Int)) (x : List Int) : hasL l x = true ↔ x ∈ l := by simp [hasL]
theorem drop_anyL {l : List (List Int)} {x : List Int} {k : Nat} (hk : k < l.length) : ((l.drop k).any fun y => decide (y = x)) = (decide (l[k] = x) || (l.drop (k + 1)).any fun y => decide (y = x)) := by
 rw [List.drop_eq_getElem_cons hk, List.any_cons]
theorem l6Has_spec (l : List (List Int)) (x : List Int) (hl : l.length ≤ 1099511627776) (hb : ∀ y ∈ l, y.length ≤ 1099511627776) (hx : x.length ≤ 1099511627776) : Spec Tryz.prog 113 [vLists l, ints x] (cb (hasL l x)) := by
 refine Spec_of mx Γ_ok Tryz.func113 rfl ?_
 conv => whnf
 refine ⟨[(0,0),(1,0),(4,0),(5,0)], fun m st => ∃ (k : Nat) (e : Int), e = k ∧ m + k = l.length ∧ hasL l x = ((l.drop k).any fun y => decide (y = x)) ∧
  st = ⟨18, [(0, vLists l), (1, ints x), (4, cb false), (5, ci e)], []⟩, l.length, ⟨0, 0, rfl, rfl, rfl, rfl⟩, ?_⟩
 rintro m st ⟨k, _, rfl, hm, hany, rfl⟩
 conv => whnf
 split <;> rename_i h1
 all_goals simp only [decide_eq_true_eq, decide_eq_false_iff_not] at h1
 ·conv => whnf
  have hk : k < l.length := by omega
  rw [drop_anyL hk] at hany
  refine ⟨by omega, rows_len rL_len _, ?_⟩
  conv => whnf
  refine ⟨_, takeN_rp (k := k) rL_len hk, ?_⟩
  conv => whnf
  refine ⟨_, l2Ints_spec l[k] x (hb _ (List.getElem_mem hk)) hx, .inl rfl, .inl ?_⟩
  conv => whnf
  generalize decide (l[k] = x) = b at hany
  cases b with
  | true =>
   conv => whnf
   rw [hany]
   rfl
  | false =>
   conv => whnf
   rw [Bool.false_or] at hany
   exact ⟨m - 1, by omega, k + 1, _, wrap_id (by omega) (by omega), by omega, hany, rfl⟩
 ·conv => whnf
  rw [hany, List.drop_eq_nil_of_le (by omega)]
  rfl
theorem answersS_size (s : List Int) (q : QueryE) (db : List FactC) : (answersS s q db).length ≤ 549755813888 ∧ ∀ x ∈ answersS s q db, x.length = q.1.length := by
 unfold answersS
 split
 ·rename_i h
  simp only [Bool.and_eq_true] at h
  obtain ⟨t1, t2, t3⟩ := isQuery_terms h.1
  have h1 := sortL_len true ((rawP q db).map fun v => q.1.map (tS v))
  rw [List.length_map] at h1
  have h2 := (rawP_ok q db).2
  have hp := pow_small (isDb_len h.2) t3
  refine ⟨by omega, fun x hx => ?_⟩
  obtain ⟨v, _, rfl⟩ := List.mem_map.1 (mem_sortL hx)
  rw [List.length_map]
 ·exact ⟨by simp, fun x hx => by cases hx⟩
theorem specIsAnswer_spec (s : List Int) (q : QueryE) (db : List FactC) (x : List Int) (hs : cSchema s ≤ 1048576) (hq : cQuery q ≤ 1048576) (hd : cFactS db ≤ 1048576) (hx : x.length ≤ 1099511627776) : Spec Tryz.prog 22 [vSchema s, vQuery q, vFactS db, ints x] (cb (hasL (answersS s q db) x)) := by
 obtain ⟨a1, a2⟩ := answersS_size s q db
 have hq' := hq
 unfold cQuery at hq'
 refine Spec_of mx Γ_ok Tryz.func22 rfl ?_
 conv => whnf
 refine ⟨_, specAnswers_spec s q db hs hq hd, .inl rfl, .inl ?_⟩
 rw [wLists_ro]
 conv => whnf
 refine ⟨_, l6Has_spec (answersS s q db) x (by omega) (fun y hy => by rw [a2 y hy]; omega) hx, .inl rfl, .inl ?_⟩
 conv => whnf
 rfl
def cu8 (x : Int) : List V := [.sc (.int .u8 x)]
theorem cu8_len (x : Int) : (cu8 x).length = 1 := rfl
def bytesR (xs : List Int) : V := .ro xs.length (rows cu8 xs)
abbrev Cur := List Int × Nat × Int
def curC (c : Cur) : List V := [bytesR c.1, ci c.2.1, ci c.2.2]
def vCur (c : Cur) : V := .bp (curC c)
def goodC (c : Cur) : Prop := c.1.length ≤ 1099511627776 ∧ c.2.1 ≤ c.1.length
def hStep (h b : Int) : Int := andI .i64 (IntKind.i64.wrap (IntKind.i64.wrap (IntKind.i64.wrap (h * 131) + IntKind.i64.wrap b) + 7)) 1073741823
def newCur (xs : List Int) : Cur := (xs, 0, (xs.take 4000).foldl hStep (IntKind.i64.wrap (10101 + xs.length)))
theorem good_new {xs : List Int} (h : xs.length ≤ 1099511627776) : goodC (newCur xs) := ⟨h, Nat.zero_le _⟩
theorem l1New_spec (xs : List Int) (h : xs.length ≤ 1099511627776) : Spec Tryz.prog 104 [bytesR xs] (vCur (newCur xs)) := by
 unfold bytesR
 refine Spec_of mx Γ_ok Tryz.func104 rfl ?_
 conv => whnf
 refine ⟨[(0,0),(3,0),(4,0)], fun m st => ∃ (k : Nat) (e f : Int), e = k ∧ m + k = xs.length + 1 ∧ k ≤ 4000 ∧ k ≤ xs.length ∧ f = ((xs.take k).foldl hStep (IntKind.i64.wrap (10101 + xs.length))) ∧
  st = ⟨32, [(0, bytesR xs), (3, ci f), (4, ci e)], []⟩, xs.length + 1, ⟨0, 0, _, rfl, rfl, by omega, by omega, rfl, by kernel_rfl⟩, ?_⟩
 rintro m st ⟨k, _, _, rfl, hm, hk4, hkl, rfl, rfl⟩
 unfold bytesR
 have fin : ∀ f : Int, (k = xs.length ∨ k = 4000) → f = (xs.take k).foldl hStep (IntKind.i64.wrap (10101 + xs.length)) → (newCur xs) = (xs, 0, f) := by
  rintro f hk rfl
  unfold newCur
  rcases hk with rfl | rfl
  ·rw [List.take_length, List.take_of_length_le (by omega)]
  ·rfl
 conv => whnf
 generalize hc1 : decide ((k : Int) < (xs.length : Int)) = c1
 cases c1 with
 | false =>
  conv => whnf
  rw [fin _ (.inl (by have := of_decide_eq_false hc1; omega)) rfl]
  exact ⟨rfl, rfl, rfl⟩
 | true =>
  have hk : k < xs.length := by have := of_decide_eq_true hc1; omega
  conv => whnf
  generalize hc2 : decide ((k : Int) < 4000) = c2
  cases c2 with
  | false =>
   conv => whnf
   rw [fin _ (.inr (by have := of_decide_eq_false hc2; omega)) rfl]
   exact ⟨rfl, rfl, rfl⟩
  | true =>
   have hk4 : k < 4000 := by have := of_decide_eq_true hc2; omega
   conv => whnf
   refine ⟨by omega, rows_len cu8_len _, ?_⟩
   conv => whnf
   refine ⟨_, takeN_rp (k := k) cu8_len hk, ?_⟩
   conv => whnf
   refine ⟨m - 1, by omega, k + 1, _, hStep ((xs.take k).foldl hStep (IntKind.i64.wrap (10101 + xs.length))) xs[k], wrap_id (by omega) (by omega), by omega, by omega, by omega, ?_, by kernel_rfl⟩
   rw [List.take_succ_eq_append_getElem hk, List.foldl_append]
   rfl
def nextH (h : Int) : Int := IntKind.i64.wrap (IntKind.i64.wrap (h * 6364136223846793005) + 1442695040888963407)
def rawB (h : Int) : Int := andI .i64 (xorI .i64 (shrI .i64 h 33) (shrI .i64 h 45)) 255
def byteP (c : Cur) : Int × Cur := if c.2.1 < c.1.length then (andI .i64 (IntKind.i64.wrap (rawB (nextH c.2.2) + IntKind.i64.wrap (c.1.getD c.2.1 0))) 255, (c.1, c.2.1 + 1, nextH c.2.2)) else (rawB (nextH c.2.2), (c.1, c.2.1, nextH c.2.2))
theorem and_255 (a : Int) : 0 ≤ andI .i64 a 255 ∧ andI .i64 a 255 ≤ 255 := by
 have h : (BitVec.ofInt 64 a &&& BitVec.ofInt 64 255).toNat ≤ 255 := by
  rw [BitVec.toNat_and]
  have : (BitVec.ofInt 64 255).toNat = 255 := by decide
  rw [this]
  exact Nat.and_le_right
 have e : andI .i64 a 255 = IntKind.i64.wrap ((BitVec.ofInt 64 a &&& BitVec.ofInt 64 255).toNat : Int) := rfl
 rw [e, wrap_id (by omega) (by omega)]
 omega
theorem byteP_bd (c : Cur) : 0 ≤ (byteP c).1 ∧ (byteP c).1 ≤ 255 := by
 unfold byteP
 split
 ·exact and_255 _
 ·exact and_255 _
theorem byteP_good {c : Cur} (h : goodC c) : goodC (byteP c).2 := by
 unfold byteP
 obtain ⟨h1, h2⟩ := h
 split
 ·exact ⟨h1, by simp only; omega⟩
 ·exact ⟨h1, h2⟩
theorem curC_ne (c : Cur) : curC c ≠ [] := by unfold curC; simp
theorem set3_ne {a b d x : V} : setC [a, b, d] 2 [x] ≠ [] := by show [a, b, x] ≠ []; simp
theorem set31_ne {a b d x y : V} : setC (setC [a, b, d] 2 [x]) 1 [y] ≠ [] := by show [a, y, x] ≠ []; simp
theorem getD_at0 {l : List Int} {i : Nat} (h : i < l.length) : l.getD i 0 = l[i] := by simp [List.getD_eq_getElem?_getD, h]
set_option maxHeartbeats 1000000 in
theorem l1Byte_spec (c : Cur) (h : goodC c) : SpecR Tryz.prog 254 [vCur c] (ci (byteP c).1) [vCur (byteP c).2] := by
 obtain ⟨xs, i, hh⟩ := c
 obtain ⟨h1, h2⟩ := h
 simp only at h1 h2
 unfold vCur curC bytesR
 refine SpecL_of mx Γ_ok 1 Tryz.func254 rfl rfl (by omega) ?_
 conv => whnf
 refine ⟨_, rfl, ?_⟩
 conv => whnf
 refine ⟨_, rfl, _, rfl, ?_⟩
 conv => whnf
 refine ⟨List.range 13, by kernel_rfl, ?_⟩
 conv => whnf
 refine ⟨_, rfl, ?_⟩
 conv => whnf
 refine ⟨by decide, ?_⟩
 conv => whnf
 refine ⟨_, rfl, ?_⟩
 conv => whnf
 refine ⟨by decide, ?_⟩
 conv => whnf
 refine ⟨List.range 10, by kernel_rfl, ?_⟩
 conv => whnf
 refine ⟨_, rfl, ?_⟩
 conv => whnf
 refine ⟨_, rfl, ?_⟩
 conv => whnf
 unfold byteP
 simp only
 generalize hc1 : decide ((i : Int) < (xs.length : Int)) = c1
 cases c1 with
 | false =>
  have hk : ¬ i < xs.length := by have := of_decide_eq_false hc1; omega
  simp only [if_neg hk]
  conv => whnf
  exact ⟨rfl, set3_ne, rfl⟩
 | true =>
  have hk : i < xs.length := by have := of_decide_eq_true hc1; omega
  have hw : IntKind.i64.wrap ((i : Int) + 1) = ((i + 1 : Nat) : Int) := wrap_id (by omega) (by omega)
  simp only [if_pos hk, getD_at0 hk]
  conv => whnf
  refine ⟨List.range 15, by kernel_rfl, ?_⟩
  conv => whnf
  refine ⟨_, rfl, ?_⟩
  conv => whnf
  refine ⟨_, rfl, ?_⟩
  conv => whnf
  refine ⟨by omega, rows_len cu8_len _, ?_⟩
  conv => whnf
  refine ⟨_, takeN_rp (k := i) cu8_len hk, ?_⟩
  conv => whnf
  refine ⟨_, rfl, ?_⟩
  conv => whnf
  refine ⟨_, rfl, _, rfl, ?_⟩
  conv => whnf
  refine ⟨rfl, set31_ne, ?_⟩
  rw [← hw]
  rfl
def belowP (c : Cur) (n : Int) : Int × Cur :=
 if n ≤ 0 then (0, c) else if n ≤ 256 then ((byteP c).1.tmod n, (byteP c).2) else
  let a := byteP c
  let b := byteP a.2
  let d := byteP b.2
  let e := byteP d.2
  ((IntKind.i64.wrap (IntKind.i64.wrap (IntKind.i64.wrap (IntKind.i64.wrap (a.1 * 16777216) + IntKind.i64.wrap (b.1 * 65536)) + IntKind.i64.wrap (d.1 * 256)) + e.1)).tmod n, e.2)
theorem belowP_bd (c : Cur) {n : Int} (h : 0 < n) (h2 : n ≤ 256) : 0 ≤ (belowP c n).1 ∧ (belowP c n).1 < n := by
 unfold belowP
 rw [if_neg (by omega), if_pos h2]
 have := byteP_bd c
 simp only
 rw [Int.tmod_eq_emod_of_nonneg this.1]
 exact ⟨Int.emod_nonneg _ (by omega), Int.emod_lt_of_pos _ h⟩
theorem belowP_good {c : Cur} (h : goodC c) (n : Int) : goodC (belowP c n).2 := by
 unfold belowP
 split
 ·exact h
 ·split
  ·exact byteP_good h
  ·exact byteP_good (byteP_good (byteP_good (byteP_good h)))
theorem l1Below_spec (c : Cur) (n : Int) (h : goodC c) (hn : n ≤ 256) : SpecR Tryz.prog 166 [vCur c, ci n] (ci (belowP c n).1) [vCur (belowP c n).2, ci n] := by
 unfold belowP
 rw [show vCur c = .bp (curC c) from rfl]
 unfold curC bytesR
 refine SpecL_of mx Γ_ok 2 Tryz.func166 rfl rfl (by omega) ?_
 conv => whnf
 generalize hc1 : decide (n ≤ 0) = c1
 cases c1 with
 | true =>
  rw [if_pos (of_decide_eq_true hc1)]
  conv => whnf
  exact ⟨rfl, by simp, rfl⟩
 | false =>
  have h0 := of_decide_eq_false hc1
  rw [if_neg h0, if_pos hn]
  have e : decide (n ≤ 256) = true := decide_eq_true hn
  conv => whnf
  rw [e]
  conv => whnf
  refine .inr (.inl ?_)
  conv => whnf
  refine ⟨by simp, ?_⟩
  conv => whnf
  have hs := l1Byte_spec c h
  refine ⟨_, _, _, hs, ?_⟩
  conv => whnf
  refine .inl ?_
  conv => whnf
  refine ⟨by omega, ?_⟩
  conv => whnf
  exact ⟨rfl, curC_ne _, rfl⟩
theorem big_spec (xs : List Int) : Spec Tryz.prog 12 [bytesR xs] (cb (decide ((xs.length : Int) > 1048576))) := by
 unfold bytesR
 refine Spec_of mx Γ_ok Tryz.func12 rfl ?_
 conv => whnf
 rfl
theorem sameInts_spec (xs ys : List Int) (hl : xs.length ≤ 1099511627776) (hl' : ys.length ≤ 1099511627776) : Spec Tryz.prog 50 [ints xs, ints ys] (cb (decide (xs = ys))) := by
 refine Spec_of mx Γ_ok Tryz.func50 rfl ?_
 conv => whnf
 split <;> rename_i h0
 ·conv => whnf
  simp only [bne_iff_ne, ne_eq] at h0
  show cb false = _
  rw [ne_len (by omega)]
 conv => whnf
 have h0' : xs.length = ys.length := by
  have h3 : (xs.length : Int) = ys.length := by simpa using h0
  omega
 refine ⟨[(0,0),(1,0),(4,0),(5,0)], fun m s => ∃ (k : Nat) (e : Int), e = k ∧ m + k = xs.length ∧ decide (xs = ys) = decide (xs.drop k = ys.drop k) ∧
  s = ⟨26, [(0, ints xs), (1, ints ys), (4, cb false), (5, ci e)], []⟩, xs.length, ⟨0, 0, rfl, rfl, rfl, rfl⟩, ?_⟩
 rintro m s ⟨k, _, rfl, hm, hj, rfl⟩
 conv => whnf
 split <;> rename_i h1
 all_goals simp only [decide_eq_true_eq, decide_eq_false_iff_not] at h1
 ·conv => whnf
  have hk : k < xs.length := by omega
  have hk' : k < ys.length := by omega
  rw [drop_eq_at hk hk'] at hj
  refine ⟨List.range 9, by kernel_rfl, ?_⟩
  conv => whnf
  refine ⟨by omega, rows_len ciL_len xs, ?_⟩
  conv => whnf
  refine ⟨_, takeN_rp (k := k) ciL_len hk, ?_⟩
  conv => whnf
  refine ⟨by omega, rows_len ciL_len ys, ?_⟩
  conv => whnf
  refine ⟨_, takeN_rp (k := k) ciL_len hk', ?_⟩
  conv => whnf
  split <;> rename_i h2
  ·conv => whnf
   show cb false = _
   rw [hj, decide_eq_false (p := xs[k] = ys[k]) (by simpa using h2), Bool.false_and]
  ·conv => whnf
   rw [decide_eq_true (p := xs[k] = ys[k]) (by simpa using h2), Bool.true_and] at hj
   exact ⟨m - 1, by omega, k + 1, _, wrap_id (by omega) (by omega), by omega, hj, rfl⟩
 ·conv => whnf
  rw [hj, drop_end (by omega), drop_end (by omega)]
  rfl
theorem lawHasTuple_spec (l : List (List Int)) (x : List Int) (hl : l.length ≤ 1099511627776) (hb : ∀ y ∈ l, y.length ≤ 1099511627776) (hx : x.length ≤ 1099511627776) : Spec Tryz.prog 108 [vLists l, ints x] (cb (hasL l x)) := by
 refine Spec_of mx Γ_ok Tryz.func108 rfl ?_
 conv => whnf
 refine ⟨[(0,0),(1,0),(4,0),(5,0)], fun m st => ∃ (k : Nat) (e : Int), e = k ∧ m + k = l.length ∧ hasL l x = ((l.drop k).any fun y => decide (y = x)) ∧
  st = ⟨18, [(0, vLists l), (1, ints x), (4, cb false), (5, ci e)], []⟩, l.length, ⟨0, 0, rfl, rfl, rfl, rfl⟩, ?_⟩
 rintro m st ⟨k, _, rfl, hm, hany, rfl⟩
 conv => whnf
 split <;> rename_i h1
 all_goals simp only [decide_eq_true_eq, decide_eq_false_iff_not] at h1
 ·conv => whnf
  have hk : k < l.length := by omega
  rw [drop_anyL hk] at hany
  refine ⟨by omega, rows_len rL_len _, ?_⟩
  conv => whnf
  refine ⟨_, takeN_rp (k := k) rL_len hk, ?_⟩
  conv => whnf
  refine ⟨_, sameInts_spec l[k] x (hb _ (List.getElem_mem hk)) hx, .inl rfl, .inl ?_⟩
  conv => whnf
  generalize decide (l[k] = x) = b at hany
  cases b with
  | true =>
   conv => whnf
   rw [hany]
   rfl
  | false =>
   conv => whnf
   rw [Bool.false_or] at hany
   exact ⟨m - 1, by omega, k + 1, _, wrap_id (by omega) (by omega), by omega, hany, rfl⟩
 ·conv => whnf
  rw [hany, List.drop_eq_nil_of_le (by omega)]
  rfl
def withinL (a b : List (List Int)) : Bool := a.all fun x => hasL b x
theorem withinL_iff (a b : List (List Int)) : withinL a b = true ↔ ∀ x ∈ a, x ∈ b := by simp [withinL, hasL_iff]
theorem lawWithin_spec (a b : List (List Int)) (ha : a.length ≤ 1099511627776) (ha2 : ∀ y ∈ a, y.length ≤ 1099511627776) (hl : b.length ≤ 1099511627776) (hb : ∀ y ∈ b, y.length ≤ 1099511627776) : Spec Tryz.prog 18 [vLists a, vLists b] (cb (withinL a b)) := by
 refine Spec_of mx Γ_ok Tryz.func18 rfl ?_
 conv => whnf
 refine ⟨[(0,0),(1,0),(4,0),(5,0)], fun m st => ∃ (k : Nat) (e : Int), e = k ∧ m + k = a.length ∧ withinL a b = ((a.drop k).all fun y => hasL b y) ∧
  st = ⟨19, [(0, vLists a), (1, vLists b), (4, cb false), (5, ci e)], []⟩, a.length, ⟨0, 0, rfl, rfl, rfl, rfl⟩, ?_⟩
 rintro m st ⟨k, _, rfl, hm, hany, rfl⟩
 conv => whnf
 split <;> rename_i h1
 all_goals simp only [decide_eq_true_eq, decide_eq_false_iff_not] at h1
 ·conv => whnf
  have hk : k < a.length := by omega
  rw [List.drop_eq_getElem_cons hk, List.all_cons] at hany
  refine ⟨by omega, rows_len rL_len _, ?_⟩
  conv => whnf
  refine ⟨_, takeN_rp (k := k) rL_len hk, ?_⟩
  conv => whnf
  refine ⟨_, lawHasTuple_spec b a[k] hl hb (ha2 _ (List.getElem_mem hk)), .inl rfl, .inl ?_⟩
  conv => whnf
  generalize hasL b a[k] = c at hany
  cases c with
  | false =>
   conv => whnf
   rw [hany]
   rfl
  | true =>
   conv => whnf
   rw [Bool.true_and] at hany
   exact ⟨m - 1, by omega, k + 1, _, wrap_id (by omega) (by omega), by omega, hany, rfl⟩
 ·conv => whnf
  rw [hany, List.drop_eq_nil_of_le (by omega)]
  rfl
end Go.Proofs.YtcjdfeafcmfgpaaGreatD
