/- Contracts of functions and plain laws that a proof of this seat rests on; no condition. -/
import Derived.Test.YtcjdfeafcmfgpaaGreatQ19
import Derived.Test.YtcjdfeafcmfgpaaGreatQ11
import Derived.Test.YtcjdfeafcmfgpaaGreatQ12
import Derived.Test.YtcjdfeafcmfgpaaGreatQ13
set_option linter.unusedVariables false
set_option linter.unusedSimpArgs false
set_option maxRecDepth 100000
namespace Go.Proofs.YtcjdfeafcmfgpaaGreatD
open Go Go.Proofs
def hasL (l : List (List Int)) (x : List Int) : Bool := l.any fun y => decide (y = x)
theorem hasL_iff (l : List (List Int)) (x : List Int) : hasL l x = true ↔ x ∈ l := by simp [hasL]
theorem drop_anyL {l : List (List Int)} {x : List Int} {k : Nat} (hk : k < l.length) : ((l.drop k).any fun y => decide (y = x)) = (decide (l[k] = x) || (l.drop (k + 1)).any fun y => decide (y = x)) := by
  rw [List.drop_eq_getElem_cons hk, List.any_cons]
theorem hasTuple_spec (l : List (List Int)) (x : List Int) (hl : l.length ≤ 1099511627776) (hb : ∀ y ∈ l, y.length ≤ 1099511627776) (hx : x.length ≤ 1099511627776) : Spec Tryz.prog 114 [vLists l, ints x] (cb (hasL l x)) := by
  refine Spec_of mx Γ_ok Tryz.func114 rfl ?_
  conv => whnf
  refine ⟨[(1,0),(4,0),(7,0),(8,0),(9,0)], fun m st => ∃ (k : Nat) (e : Int), e = k ∧ m + k = l.length ∧ hasL l x = ((l.drop k).any fun y => decide (y = x)) ∧
    st = ⟨17, [(1, ints x), (4, cb false), (7, vLists l), (8, ci l.length), (9, ci e)], []⟩, l.length, ⟨0, 0, rfl, rfl, rfl, rfl⟩, ?_⟩
  rintro m st ⟨k, _, rfl, hm, hany, rfl⟩
  conv => whnf
  split <;> rename_i h1
  all_goals simp only [decide_eq_true_eq, decide_eq_false_iff_not] at h1
  · conv => whnf
    have hk : k < l.length := by omega
    rw [drop_anyL hk] at hany
    refine ⟨by omega, rows_len rL_len _, ?_⟩
    conv => whnf
    refine ⟨_, takeN_rp (k := k) rL_len hk, ?_⟩
    conv => whnf
    refine ⟨_, slicesEq_spec l[k] x (hb _ (List.getElem_mem hk)) hx, .inl rfl, .inl ?_⟩
    conv => whnf
    generalize decide (l[k] = x) = b at hany
    cases b with
    | true =>
      conv => whnf
      rw [hany]
      rfl
    | false =>
      conv => whnf
      rw [Bool.false_or] at hany
      exact ⟨m - 1, by omega, k + 1, _, wrap_id (by omega) (by omega), by omega, hany, rfl⟩
  · conv => whnf
    rw [hany, List.drop_eq_nil_of_le (by omega)]
    rfl
theorem l6Has_spec (l : List (List Int)) (x : List Int) (hl : l.length ≤ 1099511627776) (hb : ∀ y ∈ l, y.length ≤ 1099511627776) (hx : x.length ≤ 1099511627776) : Spec Tryz.prog 113 [vLists l, ints x] (cb (hasL l x)) := by
  refine Spec_of mx Γ_ok Tryz.func113 rfl ?_
  conv => whnf
  refine ⟨[(0,0),(1,0),(4,0),(5,0)], fun m st => ∃ (k : Nat) (e : Int), e = k ∧ m + k = l.length ∧ hasL l x = ((l.drop k).any fun y => decide (y = x)) ∧
    st = ⟨18, [(0, vLists l), (1, ints x), (4, cb false), (5, ci e)], []⟩, l.length, ⟨0, 0, rfl, rfl, rfl, rfl⟩, ?_⟩
  rintro m st ⟨k, _, rfl, hm, hany, rfl⟩
  conv => whnf
  split <;> rename_i h1
  all_goals simp only [decide_eq_true_eq, decide_eq_false_iff_not] at h1
  · conv => whnf
    have hk : k < l.length := by omega
    rw [drop_anyL hk] at hany
    refine ⟨by omega, rows_len rL_len _, ?_⟩
    conv => whnf
    refine ⟨_, takeN_rp (k := k) rL_len hk, ?_⟩
    conv => whnf
    refine ⟨_, l2Ints_spec l[k] x (hb _ (List.getElem_mem hk)) hx, .inl rfl, .inl ?_⟩
    conv => whnf
    generalize decide (l[k] = x) = b at hany
    cases b with
    | true =>
      conv => whnf
      rw [hany]
      rfl
    | false =>
      conv => whnf
      rw [Bool.false_or] at hany
      exact ⟨m - 1, by omega, k + 1, _, wrap_id (by omega) (by omega), by omega, hany, rfl⟩
  · conv => whnf
    rw [hany, List.drop_eq_nil_of_le (by omega)]
    rfl
theorem answersS_size (s : List Int) (q : QueryE) (db : List FactC) : (answersS s q db).length ≤ 549755813888 ∧ ∀ x ∈ answersS s q db, x.length = q.1.length := by
  unfold answersS
  split
  · rename_i h
    simp only [Bool.and_eq_true] at h
    obtain ⟨t1, t2, t3⟩ := isQuery_terms h.1
    have h1 := sortL_len true ((rawP q db).map fun v => q.1.map (tS v))
    rw [List.length_map] at h1
    have h2 := (rawP_ok q db).2
    have hp := pow_small (isDb_len h.2) t3
    refine ⟨by omega, fun x hx => ?_⟩
    obtain ⟨v, _, rfl⟩ := List.mem_map.1 (mem_sortL hx)
    rw [List.length_map]
  · exact ⟨by simp, fun x hx => by cases hx⟩
theorem implIsAnswer_spec (s : List Int) (q : QueryE) (db : List FactC) (x : List Int) (hs : cSchema s ≤ 1048576) (hq : cQuery q ≤ 1048576) (hd : cFactS db ≤ 1048576) (hx : x.length ≤ 1099511627776) : Spec Tryz.prog 23 [vSchema s, vQuery q, vFactS db, ints x] (cb (hasL (answersS s q db) x)) := by
  obtain ⟨a1, a2⟩ := answersS_size s q db
  have hq' := hq
  unfold cQuery at hq'
  refine Spec_of mx Γ_ok Tryz.func23 rfl ?_
  conv => whnf
  refine ⟨_, implAnswers_spec s q db hs hq hd, .inl rfl, .inl ?_⟩
  rw [wLists_ro]
  conv => whnf
  refine ⟨_, hasTuple_spec (answersS s q db) x (by omega) (fun y hy => by rw [a2 y hy]; omega) hx, .inl rfl, .inl ?_⟩
  conv => whnf
  rfl
theorem specIsAnswer_spec (s : List Int) (q : QueryE) (db : List FactC) (x : List Int) (hs : cSchema s ≤ 1048576) (hq : cQuery q ≤ 1048576) (hd : cFactS db ≤ 1048576) (hx : x.length ≤ 1099511627776) : Spec Tryz.prog 22 [vSchema s, vQuery q, vFactS db, ints x] (cb (hasL (answersS s q db) x)) := by
  obtain ⟨a1, a2⟩ := answersS_size s q db
  have hq' := hq
  unfold cQuery at hq'
  refine Spec_of mx Γ_ok Tryz.func22 rfl ?_
  conv => whnf
  refine ⟨_, specAnswers_spec s q db hs hq hd, .inl rfl, .inl ?_⟩
  rw [wLists_ro]
  conv => whnf
  refine ⟨_, l6Has_spec (answersS s q db) x (by omega) (fun y hy => by rw [a2 y hy]; omega) hx, .inl rfl, .inl ?_⟩
  conv => whnf
  rfl
end Go.Proofs.YtcjdfeafcmfgpaaGreatD
set_option linter.unusedVariables false
set_option linter.unusedSimpArgs false
set_option maxRecDepth 100000
namespace Go.Proofs.YtcjdfeafcmfgpaaGreatD
open Go Go.Proofs
def cu8 (x : Int) : List V := [.sc (.int .u8 x)]
theorem cu8_len (x : Int) : (cu8 x).length = 1 := rfl
def bytesR (xs : List Int) : V := .ro xs.length (rows cu8 xs)
abbrev Cur := List Int × Nat × Int
def curC (c : Cur) : List V := [bytesR c.1, ci c.2.1, ci c.2.2]
def vCur (c : Cur) : V := .bp (curC c)
def goodC (c : Cur) : Prop := c.1.length ≤ 1099511627776 ∧ c.2.1 ≤ c.1.length
def hStep (h b : Int) : Int := andI .i64 (IntKind.i64.wrap (IntKind.i64.wrap (IntKind.i64.wrap (h * 131) + IntKind.i64.wrap b) + 7)) 1073741823
def newCur (xs : List Int) : Cur := (xs, 0, (xs.take 4000).foldl hStep (IntKind.i64.wrap (10101 + xs.length)))
theorem good_new {xs : List Int} (h : xs.length ≤ 1099511627776) : goodC (newCur xs) := ⟨h, Nat.zero_le _⟩
theorem l1New_spec (xs : List Int) (h : xs.length ≤ 1099511627776) : Spec Tryz.prog 104 [bytesR xs] (vCur (newCur xs)) := by
  unfold bytesR
  refine Spec_of mx Γ_ok Tryz.func104 rfl ?_
  conv => whnf
  refine ⟨[(0,0),(3,0),(4,0)], fun m st => ∃ (k : Nat) (e f : Int), e = k ∧ m + k = xs.length + 1 ∧ k ≤ 4000 ∧ k ≤ xs.length ∧ f = ((xs.take k).foldl hStep (IntKind.i64.wrap (10101 + xs.length))) ∧
    st = ⟨32, [(0, bytesR xs), (3, ci f), (4, ci e)], []⟩, xs.length + 1, ⟨0, 0, _, rfl, rfl, by omega, by omega, rfl, by kernel_rfl⟩, ?_⟩
  rintro m st ⟨k, _, _, rfl, hm, hk4, hkl, rfl, rfl⟩
  unfold bytesR
  have fin : ∀ f : Int, (k = xs.length ∨ k = 4000) → f = (xs.take k).foldl hStep (IntKind.i64.wrap (10101 + xs.length)) → (newCur xs) = (xs, 0, f) := by
    rintro f hk rfl
    unfold newCur
    rcases hk with rfl | rfl
    · rw [List.take_length, List.take_of_length_le (by omega)]
    · rfl
  conv => whnf
  generalize hc1 : decide ((k : Int) < (xs.length : Int)) = c1
  cases c1 with
  | false =>
    conv => whnf
    rw [fin _ (.inl (by have := of_decide_eq_false hc1; omega)) rfl]
    exact ⟨rfl, rfl, rfl⟩
  | true =>
    have hk : k < xs.length := by have := of_decide_eq_true hc1; omega
    conv => whnf
    generalize hc2 : decide ((k : Int) < 4000) = c2
    cases c2 with
    | false =>
      conv => whnf
      rw [fin _ (.inr (by have := of_decide_eq_false hc2; omega)) rfl]
      exact ⟨rfl, rfl, rfl⟩
    | true =>
      have hk4 : k < 4000 := by have := of_decide_eq_true hc2; omega
      conv => whnf
      refine ⟨by omega, rows_len cu8_len _, ?_⟩
      conv => whnf
      refine ⟨_, takeN_rp (k := k) cu8_len hk, ?_⟩
      conv => whnf
      refine ⟨m - 1, by omega, k + 1, _, hStep ((xs.take k).foldl hStep (IntKind.i64.wrap (10101 + xs.length))) xs[k], wrap_id (by omega) (by omega), by omega, by omega, by omega, ?_, by kernel_rfl⟩
      rw [List.take_succ_eq_append_getElem hk, List.foldl_append]
      rfl
def nextH (h : Int) : Int := IntKind.i64.wrap (IntKind.i64.wrap (h * 6364136223846793005) + 1442695040888963407)
def rawB (h : Int) : Int := andI .i64 (xorI .i64 (shrI .i64 h 33) (shrI .i64 h 45)) 255
def byteP (c : Cur) : Int × Cur := if c.2.1 < c.1.length then (andI .i64 (IntKind.i64.wrap (rawB (nextH c.2.2) + IntKind.i64.wrap (c.1.getD c.2.1 0))) 255, (c.1, c.2.1 + 1, nextH c.2.2)) else (rawB (nextH c.2.2), (c.1, c.2.1, nextH c.2.2))
theorem and_255 (a : Int) : 0 ≤ andI .i64 a 255 ∧ andI .i64 a 255 ≤ 255 := by
  have h : (BitVec.ofInt 64 a &&& BitVec.ofInt 64 255).toNat ≤ 255 := by
    rw [BitVec.toNat_and]
    have : (BitVec.ofInt 64 255).toNat = 255 := by decide
    rw [this]
    exact Nat.and_le_right
  have e : andI .i64 a 255 = IntKind.i64.wrap ((BitVec.ofInt 64 a &&& BitVec.ofInt 64 255).toNat : Int) := rfl
  rw [e, wrap_id (by omega) (by omega)]
  omega
theorem byteP_bd (c : Cur) : 0 ≤ (byteP c).1 ∧ (byteP c).1 ≤ 255 := by
  unfold byteP
  split
  · exact and_255 _
  · exact and_255 _
theorem byteP_good {c : Cur} (h : goodC c) : goodC (byteP c).2 := by
  unfold byteP
  obtain ⟨h1, h2⟩ := h
  split
  · exact ⟨h1, by simp only; omega⟩
  · exact ⟨h1, h2⟩
theorem curC_ne (c : Cur) : curC c ≠ [] := by unfold curC; simp
theorem set3_ne {a b d x : V} : setC [a, b, d] 2 [x] ≠ [] := by show [a, b, x] ≠ []; simp
theorem set31_ne {a b d x y : V} : setC (setC [a, b, d] 2 [x]) 1 [y] ≠ [] := by show [a, y, x] ≠ []; simp
theorem getD_at0 {l : List Int} {i : Nat} (h : i < l.length) : l.getD i 0 = l[i] := by simp [List.getD_eq_getElem?_getD, h]
set_option maxHeartbeats 1000000 in
theorem l1Byte_spec (c : Cur) (h : goodC c) : SpecR Tryz.prog 254 [vCur c] (ci (byteP c).1) [vCur (byteP c).2] := by
  obtain ⟨xs, i, hh⟩ := c
  obtain ⟨h1, h2⟩ := h
  simp only at h1 h2
  unfold vCur curC bytesR
  refine SpecL_of mx Γ_ok 1 Tryz.func254 rfl rfl (by omega) ?_
  conv => whnf
  refine ⟨_, rfl, ?_⟩
  conv => whnf
  refine ⟨_, rfl, _, rfl, ?_⟩
  conv => whnf
  refine ⟨List.range 13, by kernel_rfl, ?_⟩
  conv => whnf
  refine ⟨_, rfl, ?_⟩
  conv => whnf
  refine ⟨by decide, ?_⟩
  conv => whnf
  refine ⟨_, rfl, ?_⟩
  conv => whnf
  refine ⟨by decide, ?_⟩
  conv => whnf
  refine ⟨List.range 10, by kernel_rfl, ?_⟩
  conv => whnf
  refine ⟨_, rfl, ?_⟩
  conv => whnf
  refine ⟨_, rfl, ?_⟩
  conv => whnf
  unfold byteP
  simp only
  generalize hc1 : decide ((i : Int) < (xs.length : Int)) = c1
  cases c1 with
  | false =>
    have hk : ¬ i < xs.length := by have := of_decide_eq_false hc1; omega
    simp only [if_neg hk]
    conv => whnf
    exact ⟨rfl, set3_ne, rfl⟩
  | true =>
    have hk : i < xs.length := by have := of_decide_eq_true hc1; omega
    have hw : IntKind.i64.wrap ((i : Int) + 1) = ((i + 1 : Nat) : Int) := wrap_id (by omega) (by omega)
    simp only [if_pos hk, getD_at0 hk]
    conv => whnf
    refine ⟨List.range 15, by kernel_rfl, ?_⟩
    conv => whnf
    refine ⟨_, rfl, ?_⟩
    conv => whnf
    refine ⟨_, rfl, ?_⟩
    conv => whnf
    refine ⟨by omega, rows_len cu8_len _, ?_⟩
    conv => whnf
    refine ⟨_, takeN_rp (k := i) cu8_len hk, ?_⟩
    conv => whnf
    refine ⟨_, rfl, ?_⟩
    conv => whnf
    refine ⟨_, rfl, _, rfl, ?_⟩
    conv => whnf
    refine ⟨rfl, set31_ne, ?_⟩
    rw [← hw]
    rfl
def belowP (c : Cur) (n : Int) : Int × Cur :=
  if n ≤ 0 then (0, c) else if n ≤ 256 then ((byteP c).1.tmod n, (byteP c).2) else
    let a := byteP c
    let b := byteP a.2
    let d := byteP b.2
    let e := byteP d.2
    ((IntKind.i64.wrap (IntKind.i64.wrap (IntKind.i64.wrap (IntKind.i64.wrap (a.1 * 16777216) + IntKind.i64.wrap (b.1 * 65536)) + IntKind.i64.wrap (d.1 * 256)) + e.1)).tmod n, e.2)
theorem belowP_bd (c : Cur) {n : Int} (h : 0 < n) (h2 : n ≤ 256) : 0 ≤ (belowP c n).1 ∧ (belowP c n).1 < n := by
  unfold belowP
  rw [if_neg (by omega), if_pos h2]
  have := byteP_bd c
  simp only
  rw [Int.tmod_eq_emod_of_nonneg this.1]
  exact ⟨Int.emod_nonneg _ (by omega), Int.emod_lt_of_pos _ h⟩
theorem belowP_good {c : Cur} (h : goodC c) (n : Int) : goodC (belowP c n).2 := by
  unfold belowP
  split
  · exact h
  · split
    · exact byteP_good h
    · exact byteP_good (byteP_good (byteP_good (byteP_good h)))
theorem l1Below_spec (c : Cur) (n : Int) (h : goodC c) (hn : n ≤ 256) : SpecR Tryz.prog 166 [vCur c, ci n] (ci (belowP c n).1) [vCur (belowP c n).2, ci n] := by
  unfold belowP
  rw [show vCur c = .bp (curC c) from rfl]
  unfold curC bytesR
  refine SpecL_of mx Γ_ok 2 Tryz.func166 rfl rfl (by omega) ?_
  conv => whnf
  generalize hc1 : decide (n ≤ 0) = c1
  cases c1 with
  | true =>
    rw [if_pos (of_decide_eq_true hc1)]
    conv => whnf
    exact ⟨rfl, by simp, rfl⟩
  | false =>
    have h0 := of_decide_eq_false hc1
    rw [if_neg h0, if_pos hn]
    have e : decide (n ≤ 256) = true := decide_eq_true hn
    conv => whnf
    rw [e]
    conv => whnf
    refine .inr (.inl ?_)
    conv => whnf
    refine ⟨by simp, ?_⟩
    conv => whnf
    have hs := l1Byte_spec c h
    refine ⟨_, _, _, hs, ?_⟩
    conv => whnf
    refine .inl ?_
    conv => whnf
    refine ⟨by omega, ?_⟩
    conv => whnf
    exact ⟨rfl, curC_ne _, rfl⟩
end Go.Proofs.YtcjdfeafcmfgpaaGreatD
set_option linter.unusedVariables false
set_option linter.unusedSimpArgs false
set_option maxRecDepth 100000
namespace Go.Proofs.YtcjdfeafcmfgpaaGreatD
open Go Go.Proofs
theorem big_spec (xs : List Int) : Spec Tryz.prog 12 [bytesR xs] (cb (decide ((xs.length : Int) > 1048576))) := by
  unfold bytesR
  refine Spec_of mx Γ_ok Tryz.func12 rfl ?_
  conv => whnf
  rfl
theorem sameInts_spec (xs ys : List Int) (hl : xs.length ≤ 1099511627776) (hl' : ys.length ≤ 1099511627776) : Spec Tryz.prog 50 [ints xs, ints ys] (cb (decide (xs = ys))) := by
  refine Spec_of mx Γ_ok Tryz.func50 rfl ?_
  conv => whnf
  split <;> rename_i h0
  · conv => whnf
    simp only [bne_iff_ne, ne_eq] at h0
    show cb false = _
    rw [ne_len (by omega)]
  conv => whnf
  have h0' : xs.length = ys.length := by
    have h3 : (xs.length : Int) = ys.length := by simpa using h0
    omega
  refine ⟨[(0,0),(1,0),(4,0),(5,0)], fun m s => ∃ (k : Nat) (e : Int), e = k ∧ m + k = xs.length ∧ decide (xs = ys) = decide (xs.drop k = ys.drop k) ∧
    s = ⟨26, [(0, ints xs), (1, ints ys), (4, cb false), (5, ci e)], []⟩, xs.length, ⟨0, 0, rfl, rfl, rfl, rfl⟩, ?_⟩
  rintro m s ⟨k, _, rfl, hm, hj, rfl⟩
  conv => whnf
  split <;> rename_i h1
  all_goals simp only [decide_eq_true_eq, decide_eq_false_iff_not] at h1
  · conv => whnf
    have hk : k < xs.length := by omega
    have hk' : k < ys.length := by omega
    rw [drop_eq_at hk hk'] at hj
    refine ⟨List.range 9, by kernel_rfl, ?_⟩
    conv => whnf
    refine ⟨by omega, rows_len ciL_len xs, ?_⟩
    conv => whnf
    refine ⟨_, takeN_rp (k := k) ciL_len hk, ?_⟩
    conv => whnf
    refine ⟨by omega, rows_len ciL_len ys, ?_⟩
    conv => whnf
    refine ⟨_, takeN_rp (k := k) ciL_len hk', ?_⟩
    conv => whnf
    split <;> rename_i h2
    · conv => whnf
      show cb false = _
      rw [hj, decide_eq_false (p := xs[k] = ys[k]) (by simpa using h2), Bool.false_and]
    · conv => whnf
      rw [decide_eq_true (p := xs[k] = ys[k]) (by simpa using h2), Bool.true_and] at hj
      exact ⟨m - 1, by omega, k + 1, _, wrap_id (by omega) (by omega), by omega, hj, rfl⟩
  · conv => whnf
    rw [hj, drop_end (by omega), drop_end (by omega)]
    rfl
end Go.Proofs.YtcjdfeafcmfgpaaGreatD
set_option linter.unusedVariables false
set_option linter.unusedSimpArgs false
set_option maxRecDepth 100000
namespace Go.Proofs.YtcjdfeafcmfgpaaGreatD
open Go Go.Proofs
theorem lawHasTuple_spec (l : List (List Int)) (x : List Int) (hl : l.length ≤ 1099511627776) (hb : ∀ y ∈ l, y.length ≤ 1099511627776) (hx : x.length ≤ 1099511627776) : Spec Tryz.prog 108 [vLists l, ints x] (cb (hasL l x)) := by
  refine Spec_of mx Γ_ok Tryz.func108 rfl ?_
  conv => whnf
  refine ⟨[(0,0),(1,0),(4,0),(5,0)], fun m st => ∃ (k : Nat) (e : Int), e = k ∧ m + k = l.length ∧ hasL l x = ((l.drop k).any fun y => decide (y = x)) ∧
    st = ⟨18, [(0, vLists l), (1, ints x), (4, cb false), (5, ci e)], []⟩, l.length, ⟨0, 0, rfl, rfl, rfl, rfl⟩, ?_⟩
  rintro m st ⟨k, _, rfl, hm, hany, rfl⟩
  conv => whnf
  split <;> rename_i h1
  all_goals simp only [decide_eq_true_eq, decide_eq_false_iff_not] at h1
  · conv => whnf
    have hk : k < l.length := by omega
    rw [drop_anyL hk] at hany
    refine ⟨by omega, rows_len rL_len _, ?_⟩
    conv => whnf
    refine ⟨_, takeN_rp (k := k) rL_len hk, ?_⟩
    conv => whnf
    refine ⟨_, sameInts_spec l[k] x (hb _ (List.getElem_mem hk)) hx, .inl rfl, .inl ?_⟩
    conv => whnf
    generalize decide (l[k] = x) = b at hany
    cases b with
    | true =>
      conv => whnf
      rw [hany]
      rfl
    | false =>
      conv => whnf
      rw [Bool.false_or] at hany
      exact ⟨m - 1, by omega, k + 1, _, wrap_id (by omega) (by omega), by omega, hany, rfl⟩
  · conv => whnf
    rw [hany, List.drop_eq_nil_of_le (by omega)]
    rfl
def withinL (a b : List (List Int)) : Bool := a.all fun x => hasL b x
theorem withinL_iff (a b : List (List Int)) : withinL a b = true ↔ ∀ x ∈ a, x ∈ b := by simp [withinL, hasL_iff]
theorem lawWithin_spec (a b : List (List Int)) (ha : a.length ≤ 1099511627776) (ha2 : ∀ y ∈ a, y.length ≤ 1099511627776) (hl : b.length ≤ 1099511627776) (hb : ∀ y ∈ b, y.length ≤ 1099511627776) : Spec Tryz.prog 18 [vLists a, vLists b] (cb (withinL a b)) := by
  refine Spec_of mx Γ_ok Tryz.func18 rfl ?_
  conv => whnf
  refine ⟨[(0,0),(1,0),(4,0),(5,0)], fun m st => ∃ (k : Nat) (e : Int), e = k ∧ m + k = a.length ∧ withinL a b = ((a.drop k).all fun y => hasL b y) ∧
    st = ⟨19, [(0, vLists a), (1, vLists b), (4, cb false), (5, ci e)], []⟩, a.length, ⟨0, 0, rfl, rfl, rfl, rfl⟩, ?_⟩
  rintro m st ⟨k, _, rfl, hm, hany, rfl⟩
  conv => whnf
  split <;> rename_i h1
  all_goals simp only [decide_eq_true_eq, decide_eq_false_iff_not] at h1
  · conv => whnf
    have hk : k < a.length := by omega
    rw [List.drop_eq_getElem_cons hk, List.all_cons] at hany
    refine ⟨by omega, rows_len rL_len _, ?_⟩
    conv => whnf
    refine ⟨_, takeN_rp (k := k) rL_len hk, ?_⟩
    conv => whnf
    refine ⟨_, lawHasTuple_spec b a[k] hl hb (ha2 _ (List.getElem_mem hk)), .inl rfl, .inl ?_⟩
    conv => whnf
    generalize hasL b a[k] = c at hany
    cases c with
    | false =>
      conv => whnf
      rw [hany]
      rfl
    | true =>
      conv => whnf
      rw [Bool.true_and] at hany
      exact ⟨m - 1, by omega, k + 1, _, wrap_id (by omega) (by omega), by omega, hany, rfl⟩
  · conv => whnf
    rw [hany, List.drop_eq_nil_of_le (by omega)]
    rfl
end Go.Proofs.YtcjdfeafcmfgpaaGreatD
