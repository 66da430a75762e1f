/- Contracts and plain laws of this seat; no condition. -/
import Derived.Test.YtcjdfeafcmfgpaaGreatQ18
import Derived.Test.YtcjdfeafcmfgpaaGreatQ21
import Derived.Test.YtcjdfeafcmfgpaaGreatQ11
set_option linter.unusedVariables false
set_option linter.unusedSimpArgs false
set_option maxRecDepth 100000
namespace Go.Proofs.YtcjdfeafcmfgpaaGreatD
open Go Go.Proofs
def vfGo (s : List Int) (db : List FactC) : Nat → List QueryE → List FactC
 | _, [] => []
 | i, v :: r => (answersS s v db).map (fun t => ((i : Int), t)) ++ vfGo s db (i + 1) r
def pViewFacts (s : List Int) (vs : List QueryE) (db : List FactC) : List FactC := if pAreViews s vs && isDb s db then vfGo s db 0 vs else []
theorem isQuery_len4 {s : List Int} {q : QueryE} (h : isQuery s q = true) : q.2.length ≤ 4 := by
 simp only [isQuery, fineQ, Bool.and_eq_true] at h
 have := h.2.2.1
 simp only [inR, Bool.and_eq_true, decide_eq_true_eq] at this
 omega
theorem answersS_len (s : List Int) (q : QueryE) (db : List FactC) : (answersS s q db).length ≤ 331776 := by
 unfold answersS
 split
 ·rename_i h
  simp only [Bool.and_eq_true] at h
  have t3 := isQuery_len4 h.1
  have h1 := sortL_len true ((rawP q db).map fun v => q.1.map (tS v))
  rw [List.length_map] at h1
  have h2 := (rawP_ok q db).2
  have h3 : db.length ^ q.2.length ≤ 331776 := by
   have e1 : db.length ^ q.2.length ≤ 24 ^ q.2.length := Nat.pow_le_pow_left (isDb_len h.2) _
   have e2 : 24 ^ q.2.length ≤ 24 ^ 4 := Nat.pow_le_pow_right (by decide) t3
   have e3 : 24 ^ 4 ≤ 331776 := by decide
   omega
  omega
 ·simp
theorem pAreViews_len {s : List Int} {vs : List QueryE} (h : pAreViews s vs = true) : vs.length ≤ 4 := by
 simp only [pAreViews, inR, Bool.and_eq_true, decide_eq_true_eq] at h
 omega
set_option maxHeartbeats 8000000 in
theorem specViewFacts_spec (s : List Int) (vs : List QueryE) (db : List FactC) (hs : cSchema s ≤ 1048576) (hv : cQueryS vs ≤ 1048576) (hd : cFactS db ≤ 1048576) : Spec Tryz.prog 44 [vSchema s, vQueryS vs, vFactS db] (wFactS (pViewFacts s vs db)) := by
 have hs' : s.length ≤ 1099511627776 := by unfold cSchema at hs; omega
 refine Spec_of mx Γ_ok Tryz.func44 rfl ?_
 conv => whnf
 refine ⟨_, specAreViews_spec s vs hs hv, .inl rfl, .inl ?_⟩
 conv => whnf
 unfold pViewFacts
 generalize hb1 : pAreViews s vs = b1
 cases b1 with
 | false =>
  conv => whnf
  exact ⟨rfl, rfl⟩
 | true =>
  conv => whnf
  refine ⟨_, specIsDatabase_spec s db hs' hd, .inl rfl, .inl ?_⟩
  conv => whnf
  generalize hb2 : isDb s db = b2
  cases b2 with
  | false =>
   conv => whnf
   exact ⟨rfl, rfl⟩
  | true =>
   conv => whnf
   have hv4 := pAreViews_len hb1
   refine ⟨[(1,0),(2,0),(3,0),(6,0),(7,0),(8,0)], fun m st => ∃ (i : Nat) (e : Int) (out : List FactC), e = i ∧ m + i = vs.length ∧ vfGo s db 0 vs = out ++ vfGo s db i (vs.drop i) ∧ out.length ≤ i * 331776 ∧
    st = ⟨52, [(1, vQueryS vs), (2, vFactS db), (3, .ptr 0 0), (6, cnil), (7, .own 1 2 0 out.length out.length none), (8, ci e)], [some ⟨true, [ints s]⟩, some ⟨false, rows tFact out⟩]⟩, vs.length, ⟨0, 0, [], rfl, rfl, rfl, by simp, by kernel_rfl⟩, ?_⟩
   rintro m st ⟨i, _, out, rfl, hm, hj, hol, rfl⟩
   conv => whnf
   split <;> rename_i h1
   all_goals simp only [decide_eq_true_eq, decide_eq_false_iff_not] at h1
   ·conv => whnf
    have hi : i < vs.length := by omega
    have hqi : cQuery vs[i] ≤ 1048576 := by
     have h3 := sumB_one (f := cQuery) hi
     unfold cQueryS at hv
     omega
    rw [List.drop_eq_getElem_cons hi, vfGo, ← List.append_assoc] at hj
    refine ⟨List.range 8, by kernel_rfl, ?_⟩
    conv => whnf
    refine ⟨by omega, rows_len rQuery_len _, ?_⟩
    conv => whnf
    refine ⟨_, takeN_rp (k := i) rQuery_len hi, ?_⟩
    conv => whnf
    refine ⟨_, specAnswers_spec s vs[i] db hs hqi hd, .inl rfl, .inr ?_⟩
    conv => whnf
    have hal := answersS_len s vs[i] db
    generalize answersS s vs[i] db = A at hj hal
    refine ⟨[(1,0),(2,0),(3,0),(6,0),(7,0),(8,0),(9,0),(10,0)], fun m st => ∃ (k : Nat) (e : Int) (cs : List V) (n : Nat) (r : List V), e = k ∧ m + k = A.length ∧ cs.length = A.length ∧ (∀ p, k ≤ p → ∀ h : p < A.length, cs[p]? = some (intsT A[p])) ∧ n = out.length + k ∧ r = rows tFact (out ++ (A.take k).map fun t => ((i : Int), t)) ∧
     st = ⟨52, [(1, vQueryS vs), (2, vFactS db), (3, .ptr 0 0), (6, cnil), (7, .own 1 2 0 n n none), (8, ci i), (9, .own 2 1 0 A.length A.length none), (10, ci e)], [some ⟨true, [ints s]⟩, some ⟨false, r⟩, some ⟨false, cs⟩]⟩, A.length, ⟨0, _, rows tL A, out.length, rows tFact out, rfl, rfl, by rw [rows_len tL_len, Nat.mul_one], ?_, rfl, by rw [List.take_zero, List.map_nil, List.append_nil], by kernel_rfl⟩, ?_⟩
    ·intro p _ h
     exact rows_cell (v := intsT A[p]) (f := tL) tL_len (k := p) (d := 0) (by omega) h rfl
    rintro m2 st ⟨k, _, cs, n, _, rfl, hm2, hcl, hcs, hn, rfl, rfl⟩
    conv => whnf
    split <;> rename_i h2
    all_goals simp only [decide_eq_true_eq, decide_eq_false_iff_not] at h2
    ·conv => whnf
     have hk : k < A.length := by omega
     have hcell : cs[0 + (k : Int).toNat * 1]? = some (intsT A[k]) := by
      have := hcs k (Nat.le_refl _) hk
      simpa using this
     refine ⟨by omega, ?_⟩
     conv => whnf
     refine ⟨_, take1 hcell, ?_⟩
     conv => whnf
     refine ⟨_, _, _, hcell, ?_⟩
     conv => whnf
     refine ⟨_, rfl, .inr ⟨solid_tFact ((i : Int), A[k]), ?_⟩⟩
     conv => whnf
     refine ⟨by omega, by rw [rows_len tFact_len, List.length_append, List.length_map, List.length_take, Nat.min_eq_left (by omega)]; omega, _, snoc_rows tFact _ ((i : Int), A[k]), ?_⟩
     conv => whnf
     refine ⟨m2 - 1, by omega, k + 1, _, cs.set (0 + (k : Int).toNat * 1) .any, n + 1, rows tFact ((out ++ (A.take k).map fun t => ((i : Int), t)) ++ [((i : Int), A[k])]), wrap_id (by omega) (by omega), by omega, by rw [List.length_set, hcl], ?_, by omega, ?_, by kernel_rfl⟩
     ·intro p hp h
      rw [List.getElem?_set_ne (by simp; omega)]
      exact hcs p (by omega) h
     ·rw [List.take_succ_eq_append_getElem hk, List.map_append, ← List.append_assoc]; rfl
    ·conv => whnf
     have hke : k = A.length := by omega
     subst hke
     rw [List.take_length]
     have hlen : (out ++ A.map fun t => ((i : Int), t)).length = n := by rw [List.length_append, List.length_map]; omega
     exact ⟨m - 1, by omega, i + 1, _, out ++ A.map fun t => ((i : Int), t), wrap_id (by omega) (by omega), by omega, hj, by rw [hlen]; omega, by rw [hlen]; kernel_rfl⟩
   ·conv => whnf
    rw [drop_end (by omega)] at hj
    simp only [vfGo, List.append_nil] at hj
    refine ⟨by rw [rows_len tFact_len], ?_⟩
    simp only [Bool.and_self, if_true]
    rw [hj]
    rfl
set_option maxHeartbeats 8000000 in
theorem implViewFacts_spec (s : List Int) (vs : List QueryE) (db : List FactC) (hs : cSchema s ≤ 1048576) (hv : cQueryS vs ≤ 1048576) (hd : cFactS db ≤ 1048576) : Spec Tryz.prog 42 [vSchema s, vQueryS vs, vFactS db] (wFactS (pViewFacts s vs db)) := by
 have hs' : s.length ≤ 1099511627776 := by unfold cSchema at hs; omega
 refine Spec_of mx Γ_ok Tryz.func42 rfl ?_
 conv => whnf
 refine ⟨_, implAreViews_spec s vs hs hv, .inl rfl, .inl ?_⟩
 conv => whnf
 unfold pViewFacts
 generalize hb1 : pAreViews s vs = b1
 cases b1 with
 | false =>
  conv => whnf
  exact ⟨rfl, rfl⟩
 | true =>
  conv => whnf
  refine ⟨_, implIsDatabase_spec s db hs' hd, .inl rfl, .inl ?_⟩
  conv => whnf
  generalize hb2 : isDb s db = b2
  cases b2 with
  | false =>
   conv => whnf
   exact ⟨rfl, rfl⟩
  | true =>
   conv => whnf
   have hv4 := pAreViews_len hb1
   refine ⟨[(2,0),(3,0),(6,0),(7,0),(24,0),(25,0),(26,0)], fun m st => ∃ (i : Nat) (e : Int) (out : List FactC), e = i ∧ m + i = vs.length ∧ vfGo s db 0 vs = out ++ vfGo s db i (vs.drop i) ∧ out.length ≤ i * 331776 ∧
    st = ⟨49, [(2, vFactS db), (3, .ptr 0 0), (6, cnil), (7, .own 1 2 0 out.length out.length none), (24, vQueryS vs), (25, ci vs.length), (26, ci e)], [some ⟨true, [ints s]⟩, some ⟨false, rows tFact out⟩]⟩, vs.length, ⟨0, 0, [], rfl, rfl, rfl, by simp, by kernel_rfl⟩, ?_⟩
   rintro m st ⟨i, _, out, rfl, hm, hj, hol, rfl⟩
   conv => whnf
   split <;> rename_i h1
   all_goals simp only [decide_eq_true_eq, decide_eq_false_iff_not] at h1
   ·conv => whnf
    have hi : i < vs.length := by omega
    have hqi : cQuery vs[i] ≤ 1048576 := by
     have h3 := sumB_one (f := cQuery) hi
     unfold cQueryS at hv
     omega
    rw [List.drop_eq_getElem_cons hi, vfGo, ← List.append_assoc] at hj
    refine ⟨by omega, rows_len rQuery_len _, ?_⟩
    conv => whnf
    refine ⟨_, takeN_rp (k := i) rQuery_len hi, ?_⟩
    conv => whnf
    refine ⟨_, implAnswers_spec s vs[i] db hs hqi hd, .inl rfl, .inr ?_⟩
    conv => whnf
    have hal := answersS_len s vs[i] db
    generalize answersS s vs[i] db = A at hj hal
    refine ⟨[(2,0),(3,0),(6,0),(7,0),(8,0),(24,0),(25,0),(26,0),(34,0),(35,0),(36,0)], fun m st => ∃ (k : Nat) (e : Int) (cs : List V) (n : Nat) (r : List V), e = k ∧ m + k = A.length ∧ cs.length = A.length ∧ (∀ p, k ≤ p → ∀ h : p < A.length, cs[p]? = some (intsT A[p])) ∧ n = out.length + k ∧ r = rows tFact (out ++ (A.take k).map fun t => ((i : Int), t)) ∧
     st = ⟨49, [(2, vFactS db), (3, .ptr 0 0), (6, cnil), (7, .own 1 2 0 n n none), (8, ci i), (24, vQueryS vs), (25, ci vs.length), (26, ci i), (34, .own 2 1 0 A.length A.length none), (35, ci A.length), (36, ci e)], [some ⟨true, [ints s]⟩, some ⟨false, r⟩, some ⟨false, cs⟩]⟩, A.length, ⟨0, _, rows tL A, out.length, rows tFact out, rfl, rfl, by rw [rows_len tL_len, Nat.mul_one], ?_, rfl, by rw [List.take_zero, List.map_nil, List.append_nil], by kernel_rfl⟩, ?_⟩
    ·intro p _ h
     exact rows_cell (v := intsT A[p]) (f := tL) tL_len (k := p) (d := 0) (by omega) h rfl
    rintro m2 st ⟨k, _, cs, n, _, rfl, hm2, hcl, hcs, hn, rfl, rfl⟩
    conv => whnf
    split <;> rename_i h2
    all_goals simp only [decide_eq_true_eq, decide_eq_false_iff_not] at h2
    ·conv => whnf
     have hk : k < A.length := by omega
     have hcell : cs[0 + (k : Int).toNat * 1]? = some (intsT A[k]) := by
      have := hcs k (Nat.le_refl _) hk
      simpa using this
     refine ⟨by omega, ?_⟩
     conv => whnf
     refine ⟨_, take1 hcell, ?_⟩
     conv => whnf
     refine ⟨_, _, _, hcell, ?_⟩
     conv => whnf
     refine ⟨_, rfl, .inr ⟨solid_tFact ((i : Int), A[k]), ?_⟩⟩
     conv => whnf
     refine ⟨by omega, by rw [rows_len tFact_len, List.length_append, List.length_map, List.length_take, Nat.min_eq_left (by omega)]; omega, _, snoc_rows tFact _ ((i : Int), A[k]), ?_⟩
     conv => whnf
     refine ⟨m2 - 1, by omega, k + 1, _, cs.set (0 + (k : Int).toNat * 1) .any, n + 1, rows tFact ((out ++ (A.take k).map fun t => ((i : Int), t)) ++ [((i : Int), A[k])]), wrap_id (by omega) (by omega), by omega, by rw [List.length_set, hcl], ?_, by omega, ?_, by kernel_rfl⟩
     ·intro p hp h
      rw [List.getElem?_set_ne (by simp; omega)]
      exact hcs p (by omega) h
     ·rw [List.take_succ_eq_append_getElem hk, List.map_append, ← List.append_assoc]; rfl
    ·conv => whnf
     have hke : k = A.length := by omega
     subst hke
     rw [List.take_length]
     have hlen : (out ++ A.map fun t => ((i : Int), t)).length = n := by rw [List.length_append, List.length_map]; omega
     exact ⟨m - 1, by omega, i + 1, _, out ++ A.map fun t => ((i : Int), t), wrap_id (by omega) (by omega), by omega, hj, by rw [hlen]; omega, by rw [hlen]; kernel_rfl⟩
   ·conv => whnf
    rw [drop_end (by omega)] at hj
    simp only [vfGo, List.append_nil] at hj
    refine ⟨by rw [rows_len tFact_len], ?_⟩
    simp only [Bool.and_self, if_true]
    rw [hj]
    rfl
theorem answersS_short (s : List Int) (q : QueryE) (db : List FactC) : ∀ x ∈ answersS s q db, x.length ≤ 3 := by
 intro x hx
 unfold answersS at hx
 split at hx
 ·rename_i h
  simp only [Bool.and_eq_true] at h
  obtain ⟨v, _, rfl⟩ := List.mem_map.1 (mem_sortL hx)
  have h1 := h.1
  simp only [isQuery, fineQ, terms3, Bool.and_eq_true, decide_eq_true_eq] at h1
  rw [List.length_map]
  exact h1.2.1.2
 ·cases hx
theorem vfGo_ok (s : List Int) (db : List FactC) : ∀ (vs : List QueryE) (i : Nat), (vfGo s db i vs).length ≤ vs.length * 331776 ∧ ∀ x ∈ vfGo s db i vs, x.2.length ≤ 3
 | [], i => ⟨by simp [vfGo], fun x hx => by cases hx⟩
 | v :: vs, i => by
  obtain ⟨h1, h2⟩ := vfGo_ok s db vs (i + 1)
  have h3 := answersS_len s v db
  refine ⟨by simp only [vfGo, List.length_append, List.length_map, List.length_cons]; omega, fun x hx => ?_⟩
  rcases List.mem_append.1 hx with hx | hx
  ·obtain ⟨t, ht, rfl⟩ := List.mem_map.1 hx
   exact answersS_short s v db t ht
  ·exact h2 x hx
theorem sumB_cap3 {α : Type} (f : α → Nat) (n : Nat) : ∀ (xs : List α), (∀ x ∈ xs, f x ≤ n) → sumB f xs ≤ n * xs.length
 | [], _ => by simp [sumB]
 | x :: xs, h => by
  have h1 := sumB_cap3 f n xs fun y hy => h y (by simp [hy])
  have h2 := h x (by simp)
  simp only [sumB, List.length_cons, Nat.mul_add, Nat.mul_one]
  omega
def cu8 (x : Int) : List V := [.sc (.int .u8 x)]
theorem cu8_len (x : Int) : (cu8 x).length = 1 := rfl
def bytesR (xs : List Int) : V := .ro xs.length (rows cu8 xs)
abbrev Cur := List Int × Nat × Int
def curC (c : Cur) : List V := [bytesR c.1, ci c.2.1, ci c.2.2]
def vCur (c : Cur) : V := .bp (curC c)
def goodC (c : Cur) : Prop := c.1.length ≤ 1099511627776 ∧ c.2.1 ≤ c.1.length
def hStep (h b : Int) : Int := andI .i64 (IntKind.i64.wrap (IntKind.i64.wrap (IntKind.i64.wrap (h * 131) + IntKind.i64.wrap b) + 7)) 1073741823
def newCur (xs : List Int) : Cur := (xs, 0, (xs.take 4000).foldl hStep (IntKind.i64.wrap (10101 + xs.length)))
theorem good_new {xs : List Int} (h : xs.length ≤ 1099511627776) : goodC (newCur xs) := ⟨h, Nat.zero_le _⟩
theorem l1New_spec (xs : List Int) (h : xs.length ≤ 1099511627776) : Spec Tryz.prog 104 [bytesR xs] (vCur (newCur xs)) := by
 unfold bytesR
 refine Spec_of mx Γ_ok Tryz.func104 rfl ?_
 conv => whnf
 refine ⟨[(0,0),(3,0),(4,0)], fun m st => ∃ (k : Nat) (e f : Int), e = k ∧ m + k = xs.length + 1 ∧ k ≤ 4000 ∧ k ≤ xs.length ∧ f = ((xs.take k).foldl hStep (IntKind.i64.wrap (10101 + xs.length))) ∧
  st = ⟨32, [(0, bytesR xs), (3, ci f), (4, ci e)], []⟩, xs.length + 1, ⟨0, 0, _, rfl, rfl, by omega, by omega, rfl, by kernel_rfl⟩, ?_⟩
 rintro m st ⟨k, _, _, rfl, hm, hk4, hkl, rfl, rfl⟩
 unfold bytesR
 have fin : ∀ f : Int, (k = xs.length ∨ k = 4000) → f = (xs.take k).foldl hStep (IntKind.i64.wrap (10101 + xs.length)) → (newCur xs) = (xs, 0, f) := by
  rintro f hk rfl
  unfold newCur
  rcases hk with rfl | rfl
  ·rw [List.take_length, List.take_of_length_le (by omega)]
  ·rfl
 conv => whnf
 generalize hc1 : decide ((k : Int) < (xs.length : Int)) = c1
 cases c1 with
 | false =>
  conv => whnf
  rw [fin _ (.inl (by have := of_decide_eq_false hc1; omega)) rfl]
  exact ⟨rfl, rfl, rfl⟩
 | true =>
  have hk : k < xs.length := by have := of_decide_eq_true hc1; omega
  conv => whnf
  generalize hc2 : decide ((k : Int) < 4000) = c2
  cases c2 with
  | false =>
   conv => whnf
   rw [fin _ (.inr (by have := of_decide_eq_false hc2; omega)) rfl]
   exact ⟨rfl, rfl, rfl⟩
  | true =>
   have hk4 : k < 4000 := by have := of_decide_eq_true hc2; omega
   conv => whnf
   refine ⟨by omega, rows_len cu8_len _, ?_⟩
   conv => whnf
   refine ⟨_, takeN_rp (k := k) cu8_len hk, ?_⟩
   conv => whnf
   refine ⟨m - 1, by omega, k + 1, _, hStep ((xs.take k).foldl hStep (IntKind.i64.wrap (10101 + xs.length))) xs[k], wrap_id (by omega) (by omega), by omega, by omega, by omega, ?_, by kernel_rfl⟩
   rw [List.take_succ_eq_append_getElem hk, List.foldl_append]
   rfl
def nextH (h : Int) : Int := IntKind.i64.wrap (IntKind.i64.wrap (h * 6364136223846793005) + 1442695040888963407)
def rawB (h : Int) : Int := andI .i64 (xorI .i64 (shrI .i64 h 33) (shrI .i64 h 45)) 255
def byteP (c : Cur) : Int × Cur := if c.2.1 < c.1.length then (andI .i64 (IntKind.i64.wrap (rawB (nextH c.2.2) + IntKind.i64.wrap (c.1.getD c.2.1 0))) 255, (c.1, c.2.1 + 1, nextH c.2.2)) else (rawB (nextH c.2.2), (c.1, c.2.1, nextH c.2.2))
theorem and_255 (a : Int) : 0 ≤ andI .i64 a 255 ∧ andI .i64 a 255 ≤ 255 := by
 have h : (BitVec.ofInt 64 a &&& BitVec.ofInt 64 255).toNat ≤ 255 := by
  rw [BitVec.toNat_and]
  have : (BitVec.ofInt 64 255).toNat = 255 := by decide
  rw [this]
  exact Nat.and_le_right
 have e : andI .i64 a 255 = IntKind.i64.wrap ((BitVec.ofInt 64 a &&& BitVec.ofInt 64 255).toNat : Int) := rfl
 rw [e, wrap_id (by omega) (by omega)]
 omega
theorem byteP_bd (c : Cur) : 0 ≤ (byteP c).1 ∧ (byteP c).1 ≤ 255 := by
 unfold byteP
 split
 ·exact and_255 _
 ·exact and_255 _
theorem byteP_good {c : Cur} (h : goodC c) : goodC (byteP c).2 := by
 unfold byteP
 obtain ⟨h1, h2⟩ := h
 split
 ·exact ⟨h1, by simp only; omega⟩
 ·exact ⟨h1, h2⟩
theorem curC_ne (c : Cur) : curC c ≠ [] := by unfold curC; simp
theorem set3_ne {a b d x : V} : setC [a, b, d] 2 [x] ≠ [] := by show [a, b, x] ≠ []; simp
theorem set31_ne {a b d x y : V} : setC (setC [a, b, d] 2 [x]) 1 [y] ≠ [] := by show [a, y, x] ≠ []; simp
theorem getD_at0 {l : List Int} {i : Nat} (h : i < l.length) : l.getD i 0 = l[i] := by simp [List.getD_eq_getElem?_getD, h]
set_option maxHeartbeats 1000000 in
theorem l1Byte_spec (c : Cur) (h : goodC c) : SpecR Tryz.prog 254 [vCur c] (ci (byteP c).1) [vCur (byteP c).2] := by
 obtain ⟨xs, i, hh⟩ := c
 obtain ⟨h1, h2⟩ := h
 simp only at h1 h2
 unfold vCur curC bytesR
 refine SpecL_of mx Γ_ok 1 Tryz.func254 rfl rfl (by omega) ?_
 conv => whnf
 refine ⟨_, rfl, ?_⟩
 conv => whnf
 refine ⟨_, rfl, _, rfl, ?_⟩
 conv => whnf
 refine ⟨List.range 13, by kernel_rfl, ?_⟩
 conv => whnf
 refine ⟨_, rfl, ?_⟩
 conv => whnf
 refine ⟨by decide, ?_⟩
 conv => whnf
 refine ⟨_, rfl, ?_⟩
 conv => whnf
 refine ⟨by decide, ?_⟩
 conv => whnf
 refine ⟨List.range 10, by kernel_rfl, ?_⟩
 conv => whnf
 refine ⟨_, rfl, ?_⟩
 conv => whnf
 refine ⟨_, rfl, ?_⟩
 conv => whnf
 unfold byteP
 simp only
 generalize hc1 : decide ((i : Int) < (xs.length : Int)) = c1
 cases c1 with
 | false =>
  have hk : ¬ i < xs.length := by have := of_decide_eq_false hc1; omega
  simp only [if_neg hk]
  conv => whnf
  exact ⟨rfl, set3_ne, rfl⟩
 | true =>
  have hk : i < xs.length := by have := of_decide_eq_true hc1; omega
  have hw : IntKind.i64.wrap ((i : Int) + 1) = ((i + 1 : Nat) : Int) := wrap_id (by omega) (by omega)
  simp only [if_pos hk, getD_at0 hk]
  conv => whnf
  refine ⟨List.range 15, by kernel_rfl, ?_⟩
  conv => whnf
  refine ⟨_, rfl, ?_⟩
  conv => whnf
  refine ⟨_, rfl, ?_⟩
  conv => whnf
  refine ⟨by omega, rows_len cu8_len _, ?_⟩
  conv => whnf
  refine ⟨_, takeN_rp (k := i) cu8_len hk, ?_⟩
  conv => whnf
  refine ⟨_, rfl, ?_⟩
  conv => whnf
  refine ⟨_, rfl, _, rfl, ?_⟩
  conv => whnf
  refine ⟨rfl, set31_ne, ?_⟩
  rw [← hw]
  rfl
def belowP (c : Cur) (n : Int) : Int × Cur :=
 if n ≤ 0 then (0, c) else if n ≤ 256 then ((byteP c).1.tmod n, (byteP c).2) else
  let a := byteP c
  let b := byteP a.2
  let d := byteP b.2
  let e := byteP d.2
  ((IntKind.i64.wrap (IntKind.i64.wrap (IntKind.i64.wrap (IntKind.i64.wrap (a.1 * 16777216) + IntKind.i64.wrap (b.1 * 65536)) + IntKind.i64.wrap (d.1 * 256)) + e.1)).tmod n, e.2)
theorem belowP_bd (c : Cur) {n : Int} (h : 0 < n) (h2 : n ≤ 256) : 0 ≤ (belowP c n).1 ∧ (belowP c n).1 < n := by
 unfold belowP
 rw [if_neg (by omega), if_pos h2]
 have := byteP_bd c
 simp only
 rw [Int.tmod_eq_emod_of_nonneg this.1]
 exact ⟨Int.emod_nonneg _ (by omega), Int.emod_lt_of_pos _ h⟩
theorem belowP_good {c : Cur} (h : goodC c) (n : Int) : goodC (belowP c n).2 := by
 unfold belowP
 split
 ·exact h
 ·split
  ·exact byteP_good h
  ·exact byteP_good (byteP_good (byteP_good (byteP_good h)))
theorem l1Below_spec (c : Cur) (n : Int) (h : goodC c) (hn : n ≤ 256) : SpecR Tryz.prog 166 [vCur c, ci n] (ci (belowP c n).1) [vCur (belowP c n).2, ci n] := by
 unfold belowP
 rw [show vCur c = .bp (curC c) from rfl]
 unfold curC bytesR
 refine SpecL_of mx Γ_ok 2 Tryz.func166 rfl rfl (by omega) ?_
 conv => whnf
 generalize hc1 : decide (n ≤ 0) = c1
 cases c1 with
 | true =>
  rw [if_pos (of_decide_eq_true hc1)]
  conv => whnf
  exact ⟨rfl, by simp, rfl⟩
 | false =>
  have h0 := of_decide_eq_false hc1
  rw [if_neg h0, if_pos hn]
  have e : decide (n ≤ 256) = true := decide_eq_true hn
  conv => whnf
  rw [e]
  conv => whnf
  refine .inr (.inl ?_)
  conv => whnf
  refine ⟨by simp, ?_⟩
  conv => whnf
  have hs := l1Byte_spec c h
  refine ⟨_, _, _, hs, ?_⟩
  conv => whnf
  refine .inl ?_
  conv => whnf
  refine ⟨by omega, ?_⟩
  conv => whnf
  exact ⟨rfl, curC_ne _, rfl⟩
end Go.Proofs.YtcjdfeafcmfgpaaGreatD
