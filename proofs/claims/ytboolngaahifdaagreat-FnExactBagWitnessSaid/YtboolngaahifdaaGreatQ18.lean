/- Contracts and plain laws of this seat; no condition. -/
import Derived.Test.YtboolngaahifdaaGreatQ17
import Derived.Test.YtboolngaahifdaaGreatQ13
set_option linter.unusedVariables false
set_option linter.unusedSimpArgs false
set_option maxRecDepth 100000
namespace Go.Proofs.YtboolngaahifdaaGreatD
open Go Go.Proofs
theorem solid_tFactT (f : FactC) : ∀ c ∈ tFact f, solid c = true := by
 intro c hc
 simp only [tFact, List.mem_cons, List.not_mem_nil, or_false] at hc
 rcases hc with rfl | rfl <;> rfl
theorem copyFact_spec (f : FactC) (h : f.2.length ≤ 1099511627776) : Spec Tryz.prog 177 [vFact f] (wFact f) := by
 refine Spec_of mx Γ_ok Tryz.func177 rfl ?_
 conv => whnf
 refine ⟨[0, 1, 2, 3, 4, 5, 6], by kernel_rfl, ?_⟩
 conv => whnf
 refine ⟨_, copyInts_spec f.2 h, .inl rfl, .inr ?_⟩
 conv => whnf
 refine ⟨by rw [rows_len ciL_len], ?_⟩
 rfl
set_option maxHeartbeats 1000000 in
theorem l5All_spec (db : List FactC) (h : cFactS db ≤ 1048576) : Spec Tryz.prog 168 [vFactS db] (wFactS db) := by
 unfold cFactS at h
 refine Spec_of mx Γ_ok Tryz.func168 rfl ?_
 conv => whnf
 refine ⟨[(0,0),(2,0),(3,0),(4,0)], fun m s => ∃ (k : Nat) (e : Int) (n : Nat) (r : List V), e = k ∧ m + k = db.length ∧ n = k ∧ r = rows tFact (db.take k) ∧
  s = ⟨23, [(0, vFactS db), (2, cnil), (3, .own 0 2 0 n n none), (4, ci e)], [some ⟨false, r⟩]⟩, db.length, ⟨0, 0, 0, _, rfl, rfl, rfl, rfl, rfl⟩, ?_⟩
 rintro m s ⟨k, _, n, _, rfl, hm, rfl, rfl, rfl⟩
 conv => whnf
 split <;> rename_i h1
 all_goals simp only [decide_eq_true_eq, decide_eq_false_iff_not] at h1
 ·conv => whnf
  have hk : n < db.length := by omega
  have hb := sumB_one (f := cFact) hk
  have hcb : cFact db[n] = db[n].2.length := rfl
  refine ⟨by omega, rows_len rFact_len db, ?_⟩
  conv => whnf
  refine ⟨_, takeN_rp (k := n) rFact_len hk, ?_⟩
  conv => whnf
  refine ⟨_, l5Copy_spec db[n] (by omega), .inl rfl, .inr ?_⟩
  conv => whnf
  refine ⟨by rw [rows_len ciL_len], ?_⟩
  conv => whnf
  refine ⟨_, rfl, .inr ⟨solid_tFactT db[n], ?_⟩⟩
  conv => whnf
  refine ⟨by omega, by rw [rows_len tFact_len, List.length_take]; congr 1; omega, _, snoc_rows tFact _ db[n], ?_⟩
  conv => whnf
  refine ⟨m - 1, by omega, n + 1, _, n + 1, rows tFact (db.take n ++ [db[n]]), wrap_id (by omega) (by omega), by omega, rfl, ?_, by kernel_rfl⟩
  rw [List.take_succ_eq_append_getElem hk]
 ·conv => whnf
  have hkk : n = db.length := by omega
  subst hkk
  rw [List.take_length]
  refine ⟨by rw [rows_len tFact_len], ?_⟩
  rfl
set_option maxHeartbeats 1000000 in
theorem copyFacts_spec (db : List FactC) (h : cFactS db ≤ 1048576) : Spec Tryz.prog 176 [vFactS db] (wFactS db) := by
 unfold cFactS at h
 refine Spec_of mx Γ_ok Tryz.func176 rfl ?_
 conv => whnf
 refine ⟨[(2,0),(3,0),(7,0),(8,0),(9,0)], fun m s => ∃ (k : Nat) (e : Int) (n : Nat) (r : List V), e = k ∧ m + k = db.length ∧ n = k ∧ r = rows tFact (db.take k) ∧
  s = ⟨20, [(2, cnil), (3, .own 0 2 0 n n none), (7, vFactS db), (8, ci db.length), (9, ci e)], [some ⟨false, r⟩]⟩, db.length, ⟨0, 0, 0, _, rfl, rfl, rfl, rfl, rfl⟩, ?_⟩
 rintro m s ⟨k, _, n, _, rfl, hm, rfl, rfl, rfl⟩
 conv => whnf
 split <;> rename_i h1
 all_goals simp only [decide_eq_true_eq, decide_eq_false_iff_not] at h1
 ·conv => whnf
  have hk : n < db.length := by omega
  have hb := sumB_one (f := cFact) hk
  have hcb : cFact db[n] = db[n].2.length := rfl
  refine ⟨by omega, rows_len rFact_len db, ?_⟩
  conv => whnf
  refine ⟨_, takeN_rp (k := n) rFact_len hk, ?_⟩
  conv => whnf
  refine ⟨_, copyFact_spec db[n] (by omega), .inl rfl, .inr ?_⟩
  conv => whnf
  refine ⟨by rw [rows_len ciL_len], ?_⟩
  conv => whnf
  refine ⟨_, rfl, .inr ⟨solid_tFactT db[n], ?_⟩⟩
  conv => whnf
  refine ⟨by omega, by rw [rows_len tFact_len, List.length_take]; congr 1; omega, _, snoc_rows tFact _ db[n], ?_⟩
  conv => whnf
  refine ⟨m - 1, by omega, n + 1, _, n + 1, rows tFact (db.take n ++ [db[n]]), wrap_id (by omega) (by omega), by omega, rfl, ?_, by kernel_rfl⟩
  rw [List.take_succ_eq_append_getElem hk]
 ·conv => whnf
  have hkk : n = db.length := by omega
  subst hkk
  rw [List.take_length]
  refine ⟨by rw [rows_len tFact_len], ?_⟩
  rfl
def atF (g : Nat → Int → Int) (k : Nat) (xs : List Int) : List Int := (xs.take k).mapIdx g ++ xs.drop k
theorem atF_end (g : Nat → Int → Int) (xs : List Int) {k : Nat} (h : xs.length ≤ k) : atF g k xs = xs.mapIdx g := by unfold atF; rw [List.take_of_length_le h, List.drop_eq_nil_of_le h, List.append_nil]
theorem atF_len (g : Nat → Int → Int) (k : Nat) (xs : List Int) : (atF g k xs).length = xs.length := by simp [atF]; omega
theorem atF_get {g : Nat → Int → Int} {k : Nat} {xs : List Int} (hk : k < xs.length) (h : k < (atF g k xs).length) : (atF g k xs)[k] = xs[k] := by
 have hl : ((xs.take k).mapIdx g).length = k := by simp; omega
 have e : (atF g k xs)[k]? = some xs[k] := by
  unfold atF
  rw [List.getElem?_append_right (by omega), hl, Nat.sub_self, List.getElem?_drop, Nat.add_zero, List.getElem?_eq_getElem hk]
 exact (List.getElem?_eq_some_iff.1 e).2
theorem atF_succ {g : Nat → Int → Int} {k : Nat} {xs : List Int} (hk : k < xs.length) : atF g (k + 1) xs = (atF g k xs).set k (g k xs[k]) := by
 have hl : ((xs.take k).mapIdx g).length = k := by simp; omega
 unfold atF
 rw [List.set_append_right _ _ (by omega), hl, Nat.sub_self, List.drop_eq_getElem_cons hk, List.set_cons_zero, List.take_succ_eq_append_getElem hk]
 rw [List.mapIdx_append, List.append_assoc, List.length_take, Nat.min_eq_left (by omega)]
 simp
theorem atF_same {g : Nat → Int → Int} {k : Nat} {xs : List Int} (hk : k < xs.length) (h : g k xs[k] = xs[k]) : atF g (k + 1) xs = atF g k xs := by
 rw [atF_succ hk, h]
 have h2 := atF_get hk (by rw [atF_len]; exact hk) (g := g)
 conv => lhs; rw [← h2]
 exact List.set_getElem_self _
theorem twA_take {db : List FactC} {v : Int} {i : Nat} (hi : i < db.length) : twA (db.take (i + 1)) v = twA (db.take i) v ++ (List.range 8).map fun m => twF v (m : Nat) db[i] := by
 unfold twA
 rw [List.take_succ_eq_append_getElem hi, List.flatMap_append]
 simp
theorem tw_size {db P : List FactC} (hl : db.length ≤ 8) (h3 : ∀ f ∈ db, f.2.length ≤ 3) (hP : P.length ≤ 64) (h4 : ∀ f ∈ P, f.2.length ≤ 3) : (∀ f ∈ P.foldl putF db, f.2.length ≤ 3) ∧ (P.foldl putF db).length ≤ 72 ∧ cFactS (P.foldl putF db) ≤ 1048576 := by
 obtain ⟨s1, s2⟩ := short_fold P db h4 h3
 refine ⟨s1, by omega, ?_⟩
 have h5 := sumB_cap cFact 3 (P.foldl putF db) s1
 show (P.foldl putF db).length + sumB cFact (P.foldl putF db) ≤ 1048576
 omega
theorem twA_short {db : List FactC} (h3 : ∀ f ∈ db, f.2.length ≤ 3) (v : Int) : ∀ f ∈ twA db v, f.2.length ≤ 3 := fun f hf => by
 unfold twA at hf
 simp only [List.mem_flatMap, List.mem_map] at hf
 obtain ⟨g, hg, m, _, rfl⟩ := hf
 rw [twF_len]
 exact h3 g hg
theorem set_ciK {ys : List Int} {k : Nat} (h : k < ys.length) (t : Int) : setC (rows ciL ys) (0 + ((k : Nat) : Int).toNat * 1) [ci t] = rows ciL (ys.set k t) := by
 have e : 0 + ((k : Nat) : Int).toNat * 1 = k * 1 := by rw [Int.toNat_natCast]; omega
 rw [e]
 exact setC_rows ciL_len (by omega) h _
set_option maxHeartbeats 4000000 in
theorem l11Twins_spec (db : List FactC) (v : Int) (hl : db.length ≤ 8) (h3 : ∀ f ∈ db, f.2.length ≤ 3) : Spec Tryz.prog 99 [vFactS db, ci v] (wFactS (twS db v)) := by
 have hsz : cFactS db ≤ 1048576 := (tw_size (P := []) hl h3 (by simp) (fun f hf => by cases hf)).2.2
 refine Spec_of mx Γ_ok Tryz.func99 rfl ?_
 conv => whnf
 refine ⟨_, l5All_spec db hsz, .inl rfl, .inr ?_⟩
 conv => whnf
 refine ⟨[(0,0),(1,0),(4,0),(5,0),(6,0)], fun m s => ∃ (i : Nat) (e : Int) (out : List FactC) (n : Nat) (r : List V), e = i ∧ m + i = db.length ∧ out = (twA (db.take i) v).foldl putF db ∧ n = out.length ∧ r = rows tFact out ∧
  s = ⟨56, [(0, vFactS db), (1, ci v), (4, cnil), (5, .own 0 2 0 n n none), (6, ci e)], [some ⟨false, r⟩]⟩, db.length, ⟨0, 0, db, _, _, rfl, rfl, rfl, rfl, rfl, rfl⟩, ?_⟩
 rintro m s ⟨i, _, out, n, _, rfl, hm, ho, hn, rfl, rfl⟩
 conv => whnf
 split <;> rename_i h1
 all_goals simp only [decide_eq_true_eq, decide_eq_false_iff_not] at h1
 ·conv => whnf
  have hi : i < db.length := by omega
  have h3i := h3 _ (List.getElem_mem hi)
  have hPl : (twA (db.take i) v).length ≤ 56 := by rw [twA_len, List.length_take]; omega
  have hPs : ∀ f ∈ twA (db.take i) v, f.2.length ≤ 3 := twA_short (fun f hf => h3 f (List.mem_of_mem_take hf)) v
  refine ⟨[(0,0),(1,0),(4,0),(5,0),(6,0),(7,0)], fun m s => ∃ (j : Nat) (e : Int) (out : List FactC) (n : Nat) (r : List V), e = j ∧ m + j = 8 ∧ out = (twA (db.take i) v ++ (List.range j).map fun m => twF v (m : Nat) db[i]).foldl putF db ∧ n = out.length ∧ r = rows tFact out ∧
   s = ⟨56, [(0, vFactS db), (1, ci v), (4, cnil), (5, .own 0 2 0 n n none), (6, ci i), (7, ci e)], [some ⟨false, r⟩]⟩, 8, ⟨0, 0, out, _, _, rfl, rfl, by simpa using ho, hn, rfl, rfl⟩, ?_⟩
  rintro m2 s ⟨j, _, out, n, _, rfl, hm2, ho, hn, rfl, rfl⟩
  conv => whnf
  split <;> rename_i h2
  all_goals simp only [decide_eq_true_eq, decide_eq_false_iff_not] at h2
  ·conv => whnf
   refine ⟨by omega, rows_len rFact_len db, ?_⟩
   conv => whnf
   refine ⟨_, takeN_rp (k := i) rFact_len hi, ?_⟩
   conv => whnf
   refine ⟨_, l5Copy_spec db[i] (by omega), .inl rfl, .inr ?_⟩
   conv => whnf
   have hsz2 := tw_size (P := twA (db.take i) v ++ (List.range j).map fun m => twF v (m : Nat) db[i]) hl h3 (by rw [List.length_append, List.length_map, List.length_range]; omega) (fun f hf => by
    rcases List.mem_append.1 hf with hf | hf
    ·exact hPs f hf
    ·obtain ⟨q, _, rfl⟩ := List.mem_map.1 hf
     rw [twF_len]; exact h3i)
   rw [← ho] at hsz2
   obtain ⟨z1, z2, z3⟩ := hsz2
   have hnext : out = (twA (db.take i) v ++ (List.range j).map fun m => twF v (m : Nat) db[i]).foldl putF db → putF out (twF v (j : Nat) db[i]) = (twA (db.take i) v ++ (List.range (j + 1)).map fun m => twF v (m : Nat) db[i]).foldl putF db := fun h => by
    rw [List.range_succ, List.map_append, ← List.append_assoc, List.foldl_append, ← h]
    rfl
   have hnext := hnext ho
   clear ho
   generalize db[i] = f at h3i hnext ⊢
   refine ⟨[(0,0),(1,0),(4,0),(5,0),(6,0),(7,0),(8,0),(9,0)], fun m s => ∃ (k : Nat) (e : Int) (ys : List Int) (r : List V) (r2 : List V), e = k ∧ m + k = f.2.length ∧ ys = atF (twX v (j : Nat)) k f.2 ∧ r = rows tFact out ∧ r2 = rows ciL ys ∧
    s = ⟨56, [(0, vFactS db), (1, ci v), (4, cnil), (5, .own 0 2 0 n n none), (6, ci i), (7, ci (j : Nat)), (8, .ptr 1 0), (9, ci e)], [some ⟨false, r⟩, some ⟨true, [ci f.1, .own 2 1 0 f.2.length f.2.length none]⟩, some ⟨false, r2⟩]⟩, f.2.length, ⟨0, 0, f.2, _, _, rfl, rfl, rfl, rfl, rfl, by kernel_rfl⟩, ?_⟩
   rintro m3 s ⟨k, _, ys, _, _, rfl, hm3, hys, rfl, rfl, rfl⟩
   have hyl : ys.length = f.2.length := by rw [hys, atF_len]
   conv => whnf
   split <;> rename_i h4
   all_goals simp only [decide_eq_true_eq, decide_eq_false_iff_not] at h4
   ·conv => whnf
    have hk : k < f.2.length := by omega
    have hky : k < ys.length := by omega
    have hyk : ys[k] = f.2[k] := by simp only [hys]; exact atF_get hk (by rw [atF_len]; exact hk)
    refine ⟨by omega, ?_⟩
    conv => whnf
    refine ⟨_, takeN_own (f := ciL) (k := k) (d := 0) (m := 1) (xs := ys) ciL_len (by show 0 + ((k : Nat) : Int).toNat * 1 = _; omega) hky (by omega) rfl, ?_⟩
    conv => whnf
    rw [hyk]
    have hset : ys.set k 99 = (atF (twX v (j : Nat)) k f.2).set k 99 := by rw [hys]
    generalize hb1 : (f.2[k] == v) = b1
    cases b1 with
    | false =>
     have hne : decide (f.2[k] = v) = false := decide_eq_false (by simpa using hb1)
     conv => whnf
     exact ⟨m3 - 1, by omega, k + 1, _, ys, rows tFact out, rows ciL ys, wrap_id (by omega) (by omega), by omega, by rw [hys]; exact (atF_same hk (twX_none (by rw [hne, Bool.false_and]))).symm, rfl, rfl, by kernel_rfl⟩
    | true =>
     have heq : decide (f.2[k] = v) = true := decide_eq_true (by simpa using hb1)
     conv => whnf
     refine ⟨by omega, ?_⟩
     conv => whnf
     generalize hb2 : (andI .i64 (shrI .i64 ((j : Nat) : Int) ((k : Nat) : Int)) 1 == 1) = b2
     have hbit : bitI ((j : Nat) : Int) ((k : Nat) : Int) = b2 := hb2
     cases b2 with
     | false =>
      conv => whnf
      exact ⟨m3 - 1, by omega, k + 1, _, ys, rows tFact out, rows ciL ys, wrap_id (by omega) (by omega), by omega, by rw [hys]; exact (atF_same hk (twX_none (by rw [hbit, Bool.and_false]))).symm, rfl, rfl, by kernel_rfl⟩
     | true =>
      conv => whnf
      refine ⟨by omega, ?_⟩
      conv => whnf
      refine ⟨_, takeN_own (f := ciL) (k := k) (d := 0) (m := 1) (xs := ys) ciL_len (by show 0 + ((k : Nat) : Int).toNat * 1 = _; omega) hky (by omega) rfl, _, set_ciK hky 99, ?_⟩
      conv => whnf
      refine ⟨m3 - 1, by omega, k + 1, _, ys.set k 99, rows tFact out, rows ciL (ys.set k 99), wrap_id (by omega) (by omega), by omega, ?_, rfl, rfl, by kernel_rfl⟩
      rw [hset, atF_succ hk]
      congr 1
      unfold twX
      rw [heq, hbit]
      rfl
   ·conv => whnf
    have hkk : k = f.2.length := by omega
    subst hkk
    rw [atF_end _ _ (Nat.le_refl _)] at hys
    have hyF : (f.1, ys) = twF v (j : Nat) f := Prod.ext rfl hys
    refine .inl ?_
    conv => whnf
    refine ⟨_, _, takeN_all (by rw [rows_len tFact_len, hn]), roVs_rows tFact_ro _, ?_⟩
    conv => whnf
    refine ⟨_, _, takeN_all (by rw [rows_len ciL_len, hyl]), roVs_ci _, ?_⟩
    conv => whnf
    have hp := l5Put_spec out (f.1, ys) z3 (by show ys.length ≤ _; omega)
    rw [hyF, hnext, show vFact (twF v (j : Nat) f) = .agg [ci f.1, .ro f.2.length (rows ciL ys)] from by rw [← hyF, ← hyl]; rfl] at hp
    rw [hn]
    refine ⟨_, hp, .inr (closed_wFactS _), .inr ?_⟩
    conv => whnf
    exact ⟨m2 - 1, by omega, j + 1, _, _, _, _, wrap_id (by omega) (by omega), by omega, rfl, rfl, rfl, by kernel_rfl⟩
  ·conv => whnf
   have hj : j = 8 := by omega
   subst hj
   rw [← twA_take hi] at ho
   exact ⟨m - 1, by omega, i + 1, _, out, n, _, wrap_id (by omega) (by omega), by omega, ho, hn, rfl, by kernel_rfl⟩
 ·conv => whnf
  have hii : i = db.length := by omega
  subst hii
  rw [List.take_length] at ho
  subst ho
  refine ⟨by rw [rows_len tFact_len, hn], ?_⟩
  rw [hn]
  rfl
def bX (m : Int) (p : Nat) (x : Int) : Int := bif bitI m p then 99 else x
def fitsK (v m : Int) (k : Nat) (xs : List Int) : Bool := fitsL v m (xs.take k)
theorem fitsK_succ {v m : Int} {k : Nat} {xs : List Int} (hk : k < xs.length) : fitsK v m (k + 1) xs = (fitsK v m k xs && (!bitI m k || decide (xs[k] = v))) := by
 unfold fitsK fitsL
 rw [List.take_succ_eq_append_getElem hk, List.mapIdx_append, List.all_append, List.length_take, Nat.min_eq_left (by omega)]
 simp
theorem fits_bX {v m : Int} {xs : List Int} (h : fitsL v m xs = true) : xs.mapIdx (bX m) = twL v m xs := by
 unfold twL
 refine List.ext_getElem (by simp) fun k h1 h2 => ?_
 simp only [List.getElem_mapIdx]
 have hk : k < xs.length := by simpa using h1
 unfold fitsL at h
 rw [List.all_eq_true] at h
 have := h (!bitI m k || decide (xs[k] = v)) (List.mem_mapIdx.2 ⟨k, hk, rfl⟩)
 unfold bX twX
 cases hb : bitI m k with
 | false => rw [Bool.and_false]
 | true =>
  rw [hb] at this
  have h3 : decide (xs[k] = v) = true := by simpa using this
  rw [h3]; rfl
def dbMj (v : Int) (f : FactC) (j : Nat) : List FactC := ((List.range j).drop 1).flatMap fun m => if fitsL v (m : Nat) f.2 then [twF v (m : Nat) f] else []
theorem dbMj_one (v : Int) (f : FactC) : dbMj v f 1 = [] := rfl
theorem dbMj_succ (v : Int) (f : FactC) {j : Nat} (hj : 1 ≤ j) : dbMj v f (j + 1) = dbMj v f j ++ if fitsL v (j : Nat) f.2 then [twF v (j : Nat) f] else [] := by
 unfold dbMj
 rw [List.range_succ, List.drop_append_of_le_length (by rw [List.length_range]; exact hj), List.flatMap_append]
 simp
theorem dbMj_len (v : Int) (f : FactC) (j : Nat) : (dbMj v f j).length ≤ j - 1 := by
 unfold dbMj
 have : ∀ l : List Nat, (l.flatMap fun m => if fitsL v (m : Nat) f.2 then [twF v (m : Nat) f] else []).length ≤ l.length := by
  intro l
  induction l with
  | nil => simp
  | cons a l ih =>
   rw [List.flatMap_cons, List.length_append, List.length_cons]
   have h0 : (if fitsL v (a : Nat) f.2 then [twF v (a : Nat) f] else []).length ≤ 1 := by split <;> simp
   omega
 have := this ((List.range j).drop 1)
 rw [List.length_drop, List.length_range] at this
 exact this
theorem dbMj_short {f : FactC} (h : f.2.length ≤ 3) (v : Int) (j : Nat) : ∀ x ∈ dbMj v f j, x.2.length ≤ 3 := fun x hx => by
 unfold dbMj at hx
 obtain ⟨m, _, hx⟩ := List.mem_flatMap.1 hx
 split at hx
 ·rw [List.mem_singleton.1 hx, twF_len]; exact h
 ·cases hx
theorem shl_one {L : Nat} (h : L ≤ 3) : shlI .i64 1 (L : Nat) = ((2 ^ L : Nat) : Int) := by
 have : L = 0 ∨ L = 1 ∨ L = 2 ∨ L = 3 := by omega
 rcases this with rfl | rfl | rfl | rfl <;> decide
theorem dbL_take {db : List FactC} {v : Int} {i : Nat} (hi : i < db.length) : db ++ (db.take (i + 1)).flatMap (dbM v) = db ++ (db.take i).flatMap (dbM v) ++ dbMj v db[i] (2 ^ db[i].2.length) := by
 rw [List.take_succ_eq_append_getElem hi, List.flatMap_append, ← List.append_assoc]
 simp [dbM, dbMj]
theorem dbL_len {db : List FactC} (h3 : ∀ f ∈ db, f.2.length ≤ 3) (v : Int) : (db.flatMap (dbM v)).length ≤ 7 * db.length := by
 induction db with
 | nil => simp
 | cons f db ih =>
  have h1 := dbMj_len v f (2 ^ f.2.length)
  have h2 := pow8 (h3 f (by simp))
  have h4 := ih fun g hg => h3 g (by simp [hg])
  rw [List.flatMap_cons, List.length_append, List.length_cons]
  have : (dbM v f).length ≤ 7 := by
   have : dbM v f = dbMj v f (2 ^ f.2.length) := rfl
   rw [this]; omega
  omega
theorem dbL_short {db : List FactC} (h3 : ∀ f ∈ db, f.2.length ≤ 3) (v : Int) : ∀ x ∈ db.flatMap (dbM v), x.2.length ≤ 3 := fun x hx => by
 obtain ⟨f, hf, hx⟩ := List.mem_flatMap.1 hx
 exact dbMj_short (h3 f hf) v (2 ^ f.2.length) x hx
set_option maxHeartbeats 8000000 in
theorem doubled_spec (db : List FactC) (v : Int) (hst : Strict ltF db) (hl : db.length ≤ 8) (h3 : ∀ f ∈ db, f.2.length ≤ 3) : Spec Tryz.prog 106 [vFactS db, ci v] (wFactS (twS db v)) := by
 have hsz : cFactS db ≤ 1048576 := (tw_size (P := []) hl h3 (by simp) (fun f hf => by cases hf)).2.2
 refine Spec_of mx Γ_ok Tryz.func106 rfl ?_
 conv => whnf
 refine ⟨_, copyFacts_spec db hsz, .inl rfl, .inr ?_⟩
 conv => whnf
 refine ⟨[(1,0),(4,0),(5,0),(14,0),(15,0),(16,0)], fun m s => ∃ (i : Nat) (e : Int) (out : List FactC) (n : Nat) (r : List V), e = i ∧ m + i = db.length ∧ out = db ++ (db.take i).flatMap (dbM v) ∧ n = out.length ∧ r = rows tFact out ∧
  s = ⟨66, [(1, ci v), (4, cnil), (5, .own 0 2 0 n n none), (14, vFactS db), (15, ci db.length), (16, ci e)], [some ⟨false, r⟩]⟩, db.length, ⟨0, 0, db, _, _, rfl, rfl, by simp, rfl, rfl, rfl⟩, ?_⟩
 rintro m s ⟨i, _, out, n, _, rfl, hm, ho, hn, rfl, rfl⟩
 conv => whnf
 split <;> rename_i h1
 all_goals simp only [decide_eq_true_eq, decide_eq_false_iff_not] at h1
 ·conv => whnf
  have hi : i < db.length := by omega
  have h3i := h3 _ (List.getElem_mem hi)
  have hPl : out.length ≤ 64 := by
   have h5 := dbL_len (fun f hf => h3 f (List.mem_of_mem_take hf) : ∀ f ∈ db.take i, f.2.length ≤ 3) v
   rw [List.length_take] at h5
   rw [ho, List.length_append]; omega
  have hnx := dbL_take (v := v) hi
  rw [← ho] at hnx
  clear ho
  refine ⟨by omega, rows_len rFact_len db, ?_⟩
  conv => whnf
  refine ⟨_, takeN_rp (k := i) rFact_len hi, ?_⟩
  conv => whnf
  generalize hF : db[i] = F at h3i hnx
  refine ⟨[(1,0),(4,0),(5,0),(7,0),(8,0),(14,0),(15,0),(16,0)], fun m s => ∃ (j : Nat) (e : Int) (o2 : List FactC) (n : Nat) (r : List V), e = j ∧ 1 ≤ j ∧ m + j = 2 ^ F.2.length ∧ o2 = out ++ dbMj v F j ∧ n = o2.length ∧ r = rows tFact o2 ∧
   s = ⟨66, [(1, ci v), (4, cnil), (5, .own 0 2 0 n n none), (7, .ptr 1 0), (8, ci e), (14, vFactS db), (15, ci db.length), (16, ci i)], [some ⟨false, r⟩, some ⟨true, rFact F⟩]⟩, 2 ^ F.2.length - 1, ⟨1, 1, out, _, _, rfl, Nat.le_refl _, by have := Nat.pow_pos (n := F.2.length) (show 0 < 2 by decide); omega, by rw [dbMj_one, List.append_nil], hn, rfl, by rw [← hF]; kernel_rfl⟩, ?_⟩
  rintro m2 s ⟨j, _, o2, n, _, rfl, hj1, hm2, ho2, hn2, rfl, rfl⟩
  conv => whnf
  refine ⟨by omega, ?_⟩
  rw [shl_one h3i]
  conv => whnf
  have hp8 := pow8 h3i
  split <;> rename_i h2
  all_goals simp only [decide_eq_true_eq, decide_eq_false_iff_not] at h2
  ·conv => whnf
   have hj : j < 2 ^ F.2.length := by omega
   have h6 := dbMj_len v F j
   have ho2l : o2.length = out.length + (dbMj v F j).length := by rw [ho2, List.length_append]
   refine ⟨_, copyFact_spec F (by omega), .inl rfl, .inr ?_⟩
   conv => whnf
   refine ⟨[(1,0),(4,0),(5,0),(7,0),(8,0),(9,0),(10,0),(14,0),(15,0),(16,0),(32,0),(33,0)], fun m s => ∃ (k : Nat) (e : Int) (ft : Bool) (ys : List Int) (r r2 : List V), e = k ∧ m + k = F.2.length ∧ ft = fitsK v (j : Nat) k F.2 ∧ ys = atF (bX (j : Nat)) k F.2 ∧ r = rows tFact o2 ∧ r2 = rows ciL ys ∧
    s = ⟨66, [(1, ci v), (4, cnil), (5, .own 0 2 0 n n none), (7, .ptr 1 0), (8, ci (j : Nat)), (9, .ptr 2 0), (10, cb ft), (14, vFactS db), (15, ci db.length), (16, ci i), (32, ci F.2.length), (33, ci e)], [some ⟨false, r⟩, some ⟨true, rFact F⟩, some ⟨true, [ci F.1, .own 3 1 0 F.2.length F.2.length none]⟩, some ⟨false, r2⟩]⟩, F.2.length, ⟨0, 0, true, F.2, _, _, rfl, rfl, rfl, rfl, rfl, rfl, by kernel_rfl⟩, ?_⟩
   rintro m3 s ⟨k, _, ft, ys, _, _, rfl, hm3, hft, hys, rfl, rfl, rfl⟩
   have hyl : ys.length = F.2.length := by rw [hys, atF_len]
   conv => whnf
   split <;> rename_i h4
   all_goals simp only [decide_eq_true_eq, decide_eq_false_iff_not] at h4
   ·conv => whnf
    have hk : k < F.2.length := by omega
    have hky : k < ys.length := by omega
    have hyk : ys[k] = F.2[k] := by simp only [hys]; exact atF_get hk (by rw [atF_len]; exact hk)
    refine ⟨by omega, ?_⟩
    conv => whnf
    generalize hb2 : (andI .i64 (shrI .i64 ((j : Nat) : Int) ((k : Nat) : Int)) 1 == 1) = b2
    have hbit : bitI ((j : Nat) : Int) ((k : Nat) : Int) = b2 := hb2
    have hfs := fitsK_succ (v := v) (m := (j : Nat)) hk
    rw [← hft, hbit] at hfs
    have hset : ys.set k 99 = (atF (bX (j : Nat)) k F.2).set k 99 := by rw [hys]
    cases b2 with
    | false =>
     conv => whnf
     exact ⟨m3 - 1, by omega, k + 1, _, ft, ys, rows tFact o2, rows ciL ys, wrap_id (by omega) (by omega), by omega, by rw [hfs]; simp, by rw [hys]; exact (atF_same hk (by unfold bX; rw [hbit]; rfl)).symm, rfl, rfl, by kernel_rfl⟩
    | true =>
     have hnew : ys.set k 99 = atF (bX (j : Nat)) (k + 1) F.2 := by
      rw [hset, atF_succ hk]
      congr 1
      unfold bX
      rw [hbit]
      rfl
     conv => whnf
     cases ft with
     | false =>
      conv => whnf
      refine ⟨by omega, ?_⟩
      conv => whnf
      refine ⟨_, takeN_own (f := ciL) (k := k) (d := 0) (m := 1) (xs := ys) ciL_len (by show 0 + ((k : Nat) : Int).toNat * 1 = _; omega) hky (by omega) rfl, _, set_ciK hky 99, ?_⟩
      conv => whnf
      exact ⟨m3 - 1, by omega, k + 1, _, false, ys.set k 99, rows tFact o2, rows ciL (ys.set k 99), wrap_id (by omega) (by omega), by omega, by rw [hfs]; rfl, hnew, rfl, rfl, by kernel_rfl⟩
     | true =>
      conv => whnf
      refine ⟨by omega, ?_⟩
      conv => whnf
      refine ⟨_, takeN_own (f := ciL) (k := k) (d := 0) (m := 1) (xs := ys) ciL_len (by show 0 + ((k : Nat) : Int).toNat * 1 = _; omega) hky (by omega) rfl, ?_⟩
      conv => whnf
      rw [hyk]
      have hq : decide (F.2[k] = v) = (F.2[k] == v) := by rw [Bool.eq_iff_iff]; simp
      rw [hq] at hfs
      generalize (F.2[k] == v) = b1 at hfs ⊢
      refine ⟨by omega, ?_⟩
      conv => whnf
      refine ⟨_, takeN_own (f := ciL) (k := k) (d := 0) (m := 1) (xs := ys) ciL_len (by show 0 + ((k : Nat) : Int).toNat * 1 = _; omega) hky (by omega) rfl, _, set_ciK hky 99, ?_⟩
      conv => whnf
      exact ⟨m3 - 1, by omega, k + 1, _, b1, ys.set k 99, rows tFact o2, rows ciL (ys.set k 99), wrap_id (by omega) (by omega), by omega, by rw [hfs]; simp, hnew, rfl, rfl, by kernel_rfl⟩
   ·conv => whnf
    have hkk : k = F.2.length := by omega
    subst hkk
    rw [atF_end _ _ (Nat.le_refl _)] at hys
    have hfit : ft = fitsL v (j : Nat) F.2 := by rw [hft]; unfold fitsK; rw [List.take_length]
    have hstep := dbMj_succ v F hj1
    rw [← hfit] at hstep
    cases ft with
    | false =>
     conv => whnf
     rw [if_neg (by simp), List.append_nil] at hstep
     exact ⟨m2 - 1, by omega, j + 1, _, o2, n, rows tFact o2, wrap_id (by omega) (by omega), by omega, by omega, by rw [hstep]; exact ho2, hn2, rfl, by kernel_rfl⟩
    | true =>
     have hyF : (F.1, ys) = twF v (j : Nat) F := Prod.ext rfl (by rw [hys]; exact fits_bX hfit.symm)
     rw [if_pos rfl, ← hyF] at hstep
     conv => whnf
     refine ⟨by rw [rows_len ciL_len, hyl], ?_⟩
     conv => whnf
     have hsol : ∀ c ∈ [ci F.1, V.tr 1 F.2.length (rows ciL ys)], solid c = true := by rw [← hyl]; exact solid_tFactT (F.1, ys)
     have hsn : rows tFact o2 ++ [ci F.1, V.tr 1 F.2.length (rows ciL ys)] = rows tFact (o2 ++ [(F.1, ys)]) := by rw [← hyl]; exact snoc_rows tFact o2 (F.1, ys)
     refine ⟨_, rfl, .inr ⟨hsol, ?_⟩⟩
     conv => whnf
     refine ⟨by omega, by rw [rows_len tFact_len, hn2], _, hsn, ?_⟩
     conv => whnf
     exact ⟨m2 - 1, by omega, j + 1, _, o2 ++ [(F.1, ys)], n + 1, rows tFact (o2 ++ [(F.1, ys)]), wrap_id (by omega) (by omega), by omega, by omega, by rw [hstep, ho2, List.append_assoc], by rw [List.length_append, hn2]; rfl, rfl, by kernel_rfl⟩
  ·conv => whnf
   have hjj : j = 2 ^ F.2.length := by omega
   subst hjj
   rw [← hnx] at ho2
   exact ⟨m - 1, by omega, i + 1, _, o2, n, _, wrap_id (by omega) (by omega), by omega, ho2, hn2, rfl, by kernel_rfl⟩
 ·conv => whnf
  have hii : i = db.length := by omega
  subst hii
  rw [List.take_length] at ho
  have hA : out = dbA db v := ho
  subst hA
  have hsh : ∀ x ∈ dbA db v, x.2.length ≤ 1099511627776 := fun x hx => by
   have : x.2.length ≤ 3 := by
    rcases List.mem_append.1 hx with hx | hx
    ·exact h3 x hx
    ·exact dbL_short h3 v x hx
   omega
  have hlen : (dbA db v).length ≤ 64 := by
   have := dbL_len h3 v
   unfold dbA
   rw [List.length_append]; omega
  have hsrt := sortFacts_spec (dbA db v) hsh (by omega)
  rw [← hn] at hsrt
  refine .inr (.inr ⟨[0], [], ?_⟩)
  conv => whnf
  refine ⟨_, hsrt, fun r g2 hP => ?_⟩
  obtain ⟨rfl, ys, hp, hps, rfl⟩ := hP
  have hyl : n = ys.length := by rw [hp.length_eq, hn]
  refine .inl ?_
  conv => whnf
  refine .inr (.inr ⟨[0], [], ?_⟩)
  conv => whnf
  have hys : ∀ x ∈ ys, x.2.length ≤ 1099511627776 := fun x hx => hsh x (hp.mem_iff.1 hx)
  have hcs := compFacts_spec ys hys (by omega)
  rw [← hyl] at hcs
  refine ⟨_, hcs, fun r g2 hP => ?_⟩
  obtain ⟨rfl, rfl⟩ := hP
  refine .inr ?_
  conv => whnf
  refine ⟨by rw [rows_len tFact_len], ?_⟩
  rw [← tw_same hst h3 v, ← sort_comp (dbA db v) ys hp hps]
  rfl
end Go.Proofs.YtboolngaahifdaaGreatD
