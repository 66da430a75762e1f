/- Contracts and plain laws of this seat; no condition. -/
import Derived.Test.YtcjdfeafcmfgpaaGreatQ11
import Derived.Test.YtcjdfeafcmfgpaaGreatQ29
import Derived.Test.YtcjdfeafcmfgpaaGreatQ27
import Derived.Test.YtcjdfeafcmfgpaaGreatQ30
set_option linter.unusedVariables false
set_option linter.unusedSimpArgs false
set_option maxRecDepth 100000
namespace Go.Proofs.YtcjdfeafcmfgpaaGreatD
open Go Go.Proofs
def isKeyOf (s : List Int) (k : Int × List Int) : Bool := isKey s k.1 k.2
def pAreKeys (s : List Int) (ks : List (Int × List Int)) : Bool := ks.all (isKeyOf s) && (isSchema s && decide (ks.length ≤ 4))
theorem schema_wf {xs : List Int} (h : isSchema xs = true) : ∀ x ∈ xs, -9223372036854775808 ≤ x ∧ x ≤ 9223372036854775807 := fun x hx => by
 obtain ⟨q, hq, rfl⟩ := List.getElem_of_mem hx
 have := schema_at h hq
 omega
theorem specIsKey_any (xs : List Int) (r : Int) (ps : List Int) (hl : xs.length ≤ 1099511627776) (hp : ps.length ≤ 1099511627776) : Spec Tryz.prog 131 [schema xs, key r ps] (cb (isKey xs r ps)) := by
 cases hs : isSchema xs with
 | true => exact specIsKey_spec xs r ps hl hp (schema_wf hs)
 | false =>
  unfold isKey
  rw [hs]
  refine Spec_of mx Γ_ok Tryz.func131 rfl ?_
  conv => whnf
  refine ⟨_, specIsSchema_spec xs hl, .inl rfl, .inl ?_⟩
  rw [hs]
  conv => whnf
  rfl
theorem implIsKey_any (xs : List Int) (r : Int) (ps : List Int) (hl : xs.length ≤ 1099511627776) (hp : ps.length ≤ 1099511627776) : Spec Tryz.prog 222 [schema xs, key r ps] (cb (isKey xs r ps)) := by
 cases hs : isSchema xs with
 | true => exact implIsKey_spec xs r ps hl hp (schema_wf hs)
 | false =>
  unfold isKey
  rw [hs]
  refine Spec_of mx Γ_ok Tryz.func222 rfl ?_
  conv => whnf
  refine ⟨_, implIsSchema_spec xs hl, .inl rfl, .inl ?_⟩
  rw [hs]
  conv => whnf
  rfl
theorem specAreKeys_gen (x0 : List Int) (x1 : List (Int × List Int)) (h0 : cSchema x0 ≤ 1048576) (h1 : cKeyS x1 ≤ 1048576): Spec Tryz.prog 30 [vSchema x0, vKeyS x1] (cb (pAreKeys x0 x1)) := by
 unfold cSchema at h0
 unfold cKeyS at h1
 refine Spec_of mx Γ_ok Tryz.func30 rfl ?_
 conv => whnf
 refine ⟨[(1,0),(2,0),(4,0),(5,0)], fun m s => ∃ (k : Nat) (e : Int), e = k ∧ m + k = x1.length ∧ x1.all (isKeyOf x0) = (x1.drop k).all (isKeyOf x0) ∧
  s = ⟨26, [(1, vKeyS x1), (2, .ptr 0 0), (4, cb false), (5, ci e)], [some ⟨true, [ints x0]⟩]⟩, x1.length, ⟨0, 0, rfl, rfl, rfl, rfl⟩, ?_⟩
 rintro m s ⟨k, _, rfl, hm, hall, rfl⟩
 conv => whnf
 split <;> rename_i h3
 all_goals simp only [decide_eq_true_eq, decide_eq_false_iff_not] at h3
 ·conv => whnf
  have hk : k < x1.length := by omega
  have hb := sumB_one (f := cKey) hk
  rw [drop_all hk] at hall
  have hck : cKey x1[k] = x1[k].2.length := rfl
  refine ⟨List.range 7, by kernel_rfl, ?_⟩
  conv => whnf
  refine ⟨by omega, rows_len rKey_len _, ?_⟩
  conv => whnf
  refine ⟨_, takeN_rp (k := k) rKey_len hk, ?_⟩
  conv => whnf
  refine ⟨_, specIsKey_any x0 x1[k].1 x1[k].2 (by omega) (by omega), .inl rfl, .inl ?_⟩
  conv => whnf
  generalize hb1 : (!isKey x0 x1[k].1 x1[k].2) = b1
  cases b1 with
  | true =>
   conv => whnf
   simp only [Bool.not_eq_true'] at hb1
   show cb false = _
   unfold pAreKeys
   rw [hall, show isKeyOf x0 x1[k] = false from hb1]
   rfl
  | false =>
   conv => whnf
   simp only [Bool.not_eq_false'] at hb1
   refine ⟨m - 1, by omega, k + 1, _, wrap_id (by omega) (by omega), by omega, ?_, rfl⟩
   rw [hall, show isKeyOf x0 x1[k] = true from hb1, Bool.true_and]
 ·conv => whnf
  rw [drop_end (by omega)] at hall
  refine ⟨_, specIsSchema_spec x0 (by omega), .inl rfl, .inl ?_⟩
  conv => whnf
  unfold pAreKeys
  rw [hall]
  generalize isSchema x0 = b2
  cases b2 with
  | true =>
   conv => whnf
   show cb _ = cb _
   congr 1
   simp only [List.all_nil, Bool.true_and, decide_eq_decide]
   omega
  | false =>
   conv => whnf
   rfl
theorem implAreKeys_gen (x0 : List Int) (x1 : List (Int × List Int)) (h0 : cSchema x0 ≤ 1048576) (h1 : cKeyS x1 ≤ 1048576): Spec Tryz.prog 116 [vSchema x0, vKeyS x1] (cb (pAreKeys x0 x1)) := by
 unfold cSchema at h0
 unfold cKeyS at h1
 refine Spec_of mx Γ_ok Tryz.func116 rfl ?_
 conv => whnf
 refine ⟨[(1,0),(2,0),(4,0),(7,0),(8,0),(9,0)], fun m s => ∃ (k : Nat) (e : Int), e = k ∧ m + k = x1.length ∧ x1.all (isKeyOf x0) = (x1.drop k).all (isKeyOf x0) ∧
  s = ⟨25, [(1, vKeyS x1), (2, .ptr 0 0), (4, cb false), (7, vKeyS x1), (8, ci x1.length), (9, ci e)], [some ⟨true, [ints x0]⟩]⟩, x1.length, ⟨0, 0, rfl, rfl, rfl, rfl⟩, ?_⟩
 rintro m s ⟨k, _, rfl, hm, hall, rfl⟩
 conv => whnf
 split <;> rename_i h3
 all_goals simp only [decide_eq_true_eq, decide_eq_false_iff_not] at h3
 ·conv => whnf
  have hk : k < x1.length := by omega
  have hb := sumB_one (f := cKey) hk
  rw [drop_all hk] at hall
  have hck : cKey x1[k] = x1[k].2.length := rfl
  refine ⟨by omega, rows_len rKey_len _, ?_⟩
  conv => whnf
  refine ⟨_, takeN_rp (k := k) rKey_len hk, ?_⟩
  conv => whnf
  refine ⟨_, implIsKey_any x0 x1[k].1 x1[k].2 (by omega) (by omega), .inl rfl, .inl ?_⟩
  conv => whnf
  generalize hb1 : (!isKey x0 x1[k].1 x1[k].2) = b1
  cases b1 with
  | true =>
   conv => whnf
   simp only [Bool.not_eq_true'] at hb1
   show cb false = _
   unfold pAreKeys
   rw [hall, show isKeyOf x0 x1[k] = false from hb1]
   rfl
  | false =>
   conv => whnf
   simp only [Bool.not_eq_false'] at hb1
   refine ⟨m - 1, by omega, k + 1, _, wrap_id (by omega) (by omega), by omega, ?_, rfl⟩
   rw [hall, show isKeyOf x0 x1[k] = true from hb1, Bool.true_and]
 ·conv => whnf
  rw [drop_end (by omega)] at hall
  refine ⟨_, implIsSchema_spec x0 (by omega), .inl rfl, .inl ?_⟩
  conv => whnf
  unfold pAreKeys
  rw [hall]
  generalize isSchema x0 = b2
  cases b2 with
  | true =>
   conv => whnf
   show cb _ = cb _
   congr 1
   simp only [List.all_nil, Bool.true_and, decide_eq_decide]
   omega
  | false =>
   conv => whnf
   rfl
def viol (q : QueryT) (ks : List FactK) : Option (Nat × Nat × Nat) := tripK q.2 ks (ran 0 ks.length)
def fdiff : List Int → List Int → Nat
 | x :: xs, y :: ys => if x == y then fdiff xs ys + 1 else 0
 | _, _ => 0
def tA (q : QueryT) (i j : Nat) : Int := (getF q.2 i).2.getD (fdiff (getF q.2 i).2 (getF q.2 j).2) 0
def tB (q : QueryT) (i j : Nat) : Int := (getF q.2 j).2.getD (fdiff (getF q.2 i).2 (getF q.2 j).2) 0
theorem tripJ_some {x0 x1 : List FactK} {k i : Nat} : ∀ {js : List Nat} {r : Nat × Nat × Nat}, tripJ x0 x1 k i js = some r → r.1 = k ∧ r.2.1 = i ∧ r.2.2 ∈ js ∧ violP (getF x1 k) (getF x0 i) (getF x0 r.2.2) = true
 | [], r, h => by cases h
 | j :: js, r, h => by
  simp only [tripJ] at h
  split at h
  ·rename_i hv
   cases h
   exact ⟨rfl, rfl, by simp, hv⟩
  ·obtain ⟨h1, h2, h3, h4⟩ := tripJ_some h
   exact ⟨h1, h2, by simp [h3], h4⟩
theorem tripI_some {x0 x1 : List FactK} {k : Nat} : ∀ {is : List Nat} {r : Nat × Nat × Nat}, tripI x0 x1 k is = some r → r.1 = k ∧ r.2.1 ∈ is ∧ r.2.2 ∈ ran (r.2.1 + 1) x0.length ∧ violP (getF x1 k) (getF x0 r.2.1) (getF x0 r.2.2) = true
 | [], r, h => by cases h
 | i :: is, r, h => by
  simp only [tripI] at h
  cases hj : tripJ x0 x1 k i (ran (i + 1) x0.length) with
  | some r' =>
   rw [hj] at h
   cases h
   obtain ⟨h1, h2, h3, h4⟩ := tripJ_some hj
   rw [← h2] at h3 h4
   exact ⟨h1, by rw [h2]; simp, h3, h4⟩
  | none =>
   rw [hj] at h
   obtain ⟨h1, h2, h3, h4⟩ := tripI_some (is := is) (by simpa using h)
   exact ⟨h1, by simp [h2], h3, h4⟩
theorem tripK_some {x0 x1 : List FactK} : ∀ {ks : List Nat} {r : Nat × Nat × Nat}, tripK x0 x1 ks = some r → r.1 ∈ ks ∧ r.2.1 ∈ ran 0 x0.length ∧ r.2.2 ∈ ran (r.2.1 + 1) x0.length ∧ violP (getF x1 r.1) (getF x0 r.2.1) (getF x0 r.2.2) = true
 | [], r, h => by cases h
 | k :: ks, r, h => by
  simp only [tripK] at h
  cases hj : tripI x0 x1 k (ran 0 x0.length) with
  | some r' =>
   rw [hj] at h
   cases h
   obtain ⟨h1, h2, h3, h4⟩ := tripI_some hj
   rw [← h1] at h4
   exact ⟨by rw [h1]; simp, h2, h3, h4⟩
  | none =>
   rw [hj] at h
   obtain ⟨h1, h2, h3, h4⟩ := tripK_some (ks := ks) (by simpa using h)
   exact ⟨by simp [h1], h2, h3, h4⟩
theorem ran_mem {k n i : Nat} : i ∈ ran k n ↔ k ≤ i ∧ i < n := by
 unfold ran
 rw [List.mem_range'_1]
 omega
theorem viol_some {q : QueryT} {ks : List FactK} {k i j : Nat} (h : viol q ks = some (k, i, j)) : k < ks.length ∧ i < j ∧ j < q.2.length ∧ (getF q.2 i).1 = (getF q.2 j).1 ∧ (getF q.2 i).2 ≠ (getF q.2 j).2 := by
 obtain ⟨h1, h2, h3, h4⟩ := tripK_some h
 simp only at h1 h2 h3 h4
 rw [ran_mem] at h1 h2 h3
 simp only [violP, Bool.and_eq_true, decide_eq_true_eq, Bool.not_eq_true', decide_eq_false_iff_not] at h4
 exact ⟨by omega, by omega, by omega, h4.1.trans h4.2.1.symm, h4.2.2.2⟩
theorem fdiff_ok : ∀ {xs ys : List Int}, xs.length = ys.length → xs ≠ ys → fdiff xs ys < xs.length ∧ xs.getD (fdiff xs ys) 0 ≠ ys.getD (fdiff xs ys) 0 ∧ ∀ r, r < fdiff xs ys → xs.getD r 0 = ys.getD r 0
 | [], [], _, h => absurd rfl h
 | [], _ :: _, h, _ => by simp at h
 | _ :: _, [], h, _ => by simp at h
 | x :: xs, y :: ys, hl, hne => by
  simp only [fdiff]
  split
  ·rename_i he
   have he' : x = y := by simpa using he
   subst he'
   obtain ⟨h1, h2, h3⟩ := fdiff_ok (xs := xs) (ys := ys) (by simpa using hl) (fun h => hne (by rw [h]))
   refine ⟨by simp; exact h1, by simpa using h2, fun r hr => ?_⟩
   cases r with
   | zero => simp
   | succ r => simpa using h3 r (by omega)
  ·rename_i he
   refine ⟨by simp, by simpa using he, fun r hr => absurd hr (Nat.not_lt_zero _)⟩
theorem getF_mem {q : QueryT} {i : Nat} (hi : i < q.2.length) : getF q.2 i ∈ q.2 := by
 rw [getF_at hi]
 exact List.getElem_mem hi
theorem viol_terms {q : QueryT} {ks : List FactK} {k i j : Nat} (hok : okA q.2) (h : viol q ks = some (k, i, j)) :
  (getF q.2 i).2.length = (getF q.2 j).2.length ∧ fdiff (getF q.2 i).2 (getF q.2 j).2 < (getF q.2 i).2.length ∧ tA q i j ≠ tB q i j ∧ occurs q (tA q i j) = true ∧ occurs q (tB q i j) = true ∧ tA q i j < 20 ∧ tB q i j < 20 := by
 obtain ⟨_, hij, hj, hrel, hne⟩ := viol_some h
 have hmi := getF_mem (q := q) (i := i) (by omega)
 have hmj := getF_mem (q := q) (i := j) hj
 have hl := hok.1 _ hmi _ hmj hrel
 obtain ⟨h1, h2, _⟩ := fdiff_ok hl hne
 have e1 : tA q i j ∈ (getF q.2 i).2 := by
  unfold tA
  rw [getD_int h1]
  exact List.getElem_mem h1
 have e2 : tB q i j ∈ (getF q.2 j).2 := by
  unfold tB
  rw [getD_int (by omega)]
  exact List.getElem_mem (by omega)
 exact ⟨hl, h1, h2, occurs_mem.2 ⟨_, hmi, e1⟩, occurs_mem.2 ⟨_, hmj, e2⟩, hok.2 _ hmi _ e1, hok.2 _ hmj _ e2⟩
def chz (ks : List FactK) : Nat → QueryT → Option QueryT
 | 0, _ => none
 | n + 1, q => match viol q ks with
  | none => some (pDedupeAtoms q)
  | some (_, i, j) => match eqP q (tA q i j) (tB q i j) with
   | none => none
   | some y => chz ks n y
theorem chz_any {ks : List FactK} : ∀ (n m : Nat) (q : QueryT), okA q.2 → mu q < n → mu q < m → chz ks n q = chz ks m q
 | 0, m, q, _, h, _ => absurd h (Nat.not_lt_zero _)
 | n + 1, 0, q, _, _, h => absurd h (Nat.not_lt_zero _)
 | n + 1, m + 1, q, hok, h1, h2 => by
  simp only [chz]
  cases hv : viol q ks with
  | none => rfl
  | some r =>
   obtain ⟨k, i, j⟩ := r
   obtain ⟨_, _, g3, g4, g5, g6, g7⟩ := viol_terms hok hv
   simp only
   cases he : eqP q (tA q i j) (tB q i j) with
   | none => rfl
   | some y =>
    have := (mu_eqP g3 g4 g5 he).1
    exact chz_any n m y (okA_eqP hok g6 g7 he) (by omega) (by omega)
def chZ (ks : List FactK) (q : QueryT) : Option QueryT := chz ks (mu q + 1) q
theorem chZ_end {ks : List FactK} {q : QueryT} (h : viol q ks = none) : chZ ks q = some (pDedupeAtoms q) := by
 simp only [chZ, chz, h]
theorem chZ_fail {ks : List FactK} {q : QueryT} {k i j : Nat} (h : viol q ks = some (k, i, j)) (he : eqP q (tA q i j) (tB q i j) = none) : chZ ks q = none := by
 simp only [chZ, chz, h, he]
theorem chZ_step {ks : List FactK} {q y : QueryT} {k i j : Nat} (hok : okA q.2) (h : viol q ks = some (k, i, j)) (he : eqP q (tA q i j) (tB q i j) = some y) : chZ ks q = chZ ks y := by
 obtain ⟨_, _, g3, g4, g5, g6, g7⟩ := viol_terms hok h
 have := (mu_eqP g3 g4 g5 he).1
 rw [show chZ ks q = chz ks (mu q) y from by simp only [chZ, chz, h, he]]
 exact chz_any _ _ y (okA_eqP hok g6 g7 he) (by omega) (by omega)
theorem rAtom_ro (x : AtomC) : roVs (rAtom x) = rAtom x := by simp only [rAtom, roVs, ints_ro, ci_ro]
theorem vQuery_ro' (q : QueryT) : roV (vQuery q) = vQuery q := by
 show V.agg [roV (ints q.1), roV (vAtomS q.2)] = _
 rw [ints_ro, show roV (vAtomS q.2) = vAtomS q.2 from congrArg (V.ro q.2.length) (roVs_rows rAtom_ro q.2)]
 rfl
theorem v3_mk (a b c : Int) : v3 (a, b, c) = .tup [ci a, ci b, ci c] := rfl
def wCh : Option QueryT → V
 | none => .tup [wQuery ([], []), cb false]
 | some y => .tup [wQuery y, cb true]
theorem dedup_mem {x : AtomC} : ∀ {xs acc : List AtomC}, x ∈ xs.foldl dedS acc → x ∈ xs ∨ x ∈ acc
 | [], acc, h => .inr h
 | y :: xs, acc, h => by
  rcases dedup_mem (xs := xs) h with h | h
  ·exact .inl (by simp [h])
  ·unfold dedS at h
   split at h
   ·exact .inr h
   ·simp only [List.mem_append, List.mem_singleton] at h
    rcases h with h | h
    ·exact .inr h
    ·exact .inl (by simp [h])
end Go.Proofs.YtcjdfeafcmfgpaaGreatD
