/- Contracts and plain laws of this seat; no condition. -/
import Derived.Test.YtboolngaahifdaaGreatQ27
import Derived.Test.YtboolngaahifdaaGreatQ12
set_option linter.unusedVariables false
set_option linter.unusedSimpArgs false
set_option maxRecDepth 100000
namespace Go.Proofs.YtboolngaahifdaaGreatD
open Go Go.Proofs
theorem rH (f : aG) : ∀ c ∈ cF f, eU c = true := by
 intro c hc
 simp only [cF, List.mem_cons, List.not_mem_nil, or_false] at hc
 rcases hc with rfl | rfl <;> rfl
theorem vI (f : aG) (h : f.2.length ≤ 1099511627776) : bI Tryz.prog 177 [mI f] (BX f) := by
 refine aF mx aJ Tryz.func177 rfl ?_
 conv => whnf
 refine ⟨[0, 1, 2, 3, 4, 5, 6], by kernel_rfl, ?_⟩
 conv => whnf
 refine ⟨_, jB f.2 h, .inl rfl, .inr ?_⟩
 conv => whnf
 refine ⟨by rw [a6 a7], ?_⟩
 rfl
set_option maxHeartbeats 1000000 in
theorem Q7 (db : List aG) (h : d6 db ≤ 1048576) : bI Tryz.prog 168 [c7 db] (fP db) := by
 unfold d6 at h
 refine aF mx aJ Tryz.func168 rfl ?_
 conv => whnf
 refine ⟨[(0,0),(2,0),(3,0),(4,0)], fun m s => ∃ (k : Nat) (e : Int) (n : Nat) (r : List V), e = k ∧ m + k = db.length ∧ n = k ∧ r = aB cF (db.take k) ∧
  s = ⟨23, [(0, c7 db), (2, cG), (3, .own 0 2 0 n n none), (4, ci e)], [some ⟨false, r⟩]⟩, db.length, ⟨0, 0, 0, _, rfl, rfl, rfl, rfl, rfl⟩, ?_⟩
 rintro m s ⟨k, _, n, _, rfl, hm, rfl, rfl, rfl⟩
 conv => whnf
 split <;> rename_i h1
 all_goals simp only [decide_eq_true_eq, decide_eq_false_iff_not] at h1
 ·conv => whnf
  have hk : n < db.length := by omega
  have hb := bH (f := eF) hk
  have hcb : eF db[n] = db[n].2.length := rfl
  refine ⟨by omega, a6 aS db, ?_⟩
  conv => whnf
  refine ⟨_, aD (k := n) aS hk, ?_⟩
  conv => whnf
  refine ⟨_, fY db[n] (by omega), .inl rfl, .inr ?_⟩
  conv => whnf
  refine ⟨by rw [a6 a7], ?_⟩
  conv => whnf
  refine ⟨_, rfl, .inr ⟨rH db[n], ?_⟩⟩
  conv => whnf
  refine ⟨by omega, by rw [a6 aT, List.length_take]; congr 1; omega, _, bQ cF _ db[n], ?_⟩
  conv => whnf
  refine ⟨m - 1, by omega, n + 1, _, n + 1, aB cF (db.take n ++ [db[n]]), a8 (by omega) (by omega), by omega, rfl, ?_, by kernel_rfl⟩
  rw [List.take_succ_eq_append_getElem hk]
 ·conv => whnf
  have hkk : n = db.length := by omega
  subst hkk
  rw [List.take_length]
  refine ⟨by rw [a6 aT], ?_⟩
  rfl
set_option maxHeartbeats 1000000 in
theorem DO (db : List aG) (h : d6 db ≤ 1048576) : bI Tryz.prog 176 [c7 db] (fP db) := by
 unfold d6 at h
 refine aF mx aJ Tryz.func176 rfl ?_
 conv => whnf
 refine ⟨[(2,0),(3,0),(7,0),(8,0),(9,0)], fun m s => ∃ (k : Nat) (e : Int) (n : Nat) (r : List V), e = k ∧ m + k = db.length ∧ n = k ∧ r = aB cF (db.take k) ∧
  s = ⟨20, [(2, cG), (3, .own 0 2 0 n n none), (7, c7 db), (8, ci db.length), (9, ci e)], [some ⟨false, r⟩]⟩, db.length, ⟨0, 0, 0, _, rfl, rfl, rfl, rfl, rfl⟩, ?_⟩
 rintro m s ⟨k, _, n, _, rfl, hm, rfl, rfl, rfl⟩
 conv => whnf
 split <;> rename_i h1
 all_goals simp only [decide_eq_true_eq, decide_eq_false_iff_not] at h1
 ·conv => whnf
  have hk : n < db.length := by omega
  have hb := bH (f := eF) hk
  have hcb : eF db[n] = db[n].2.length := rfl
  refine ⟨by omega, a6 aS db, ?_⟩
  conv => whnf
  refine ⟨_, aD (k := n) aS hk, ?_⟩
  conv => whnf
  refine ⟨_, vI db[n] (by omega), .inl rfl, .inr ?_⟩
  conv => whnf
  refine ⟨by rw [a6 a7], ?_⟩
  conv => whnf
  refine ⟨_, rfl, .inr ⟨rH db[n], ?_⟩⟩
  conv => whnf
  refine ⟨by omega, by rw [a6 aT, List.length_take]; congr 1; omega, _, bQ cF _ db[n], ?_⟩
  conv => whnf
  refine ⟨m - 1, by omega, n + 1, _, n + 1, aB cF (db.take n ++ [db[n]]), a8 (by omega) (by omega), by omega, rfl, ?_, by kernel_rfl⟩
  rw [List.take_succ_eq_append_getElem hk]
 ·conv => whnf
  have hkk : n = db.length := by omega
  subst hkk
  rw [List.take_length]
  refine ⟨by rw [a6 aT], ?_⟩
  rfl
def atF (g : Nat → Int → Int) (k : Nat) (xs : List Int) : List Int := (xs.take k).mapIdx g ++ xs.drop k
theorem RN (g : Nat → Int → Int) (xs : List Int) {k : Nat} (h : xs.length ≤ k) : atF g k xs = xs.mapIdx g := by unfold atF; rw [List.take_of_length_le h, List.drop_eq_nil_of_le h, List.append_nil]
theorem x5 (g : Nat → Int → Int) (k : Nat) (xs : List Int) : (atF g k xs).length = xs.length := by simp [atF]; omega
theorem JM {g : Nat → Int → Int} {k : Nat} {xs : List Int} (hk : k < xs.length) (h : k < (atF g k xs).length) : (atF g k xs)[k] = xs[k] := by
 have hl : ((xs.take k).mapIdx g).length = k := by simp; omega
 have e : (atF g k xs)[k]? = some xs[k] := by
  unfold atF
  rw [List.getElem?_append_right (by omega), hl, Nat.sub_self, List.getElem?_drop, Nat.add_zero, List.getElem?_eq_getElem hk]
 exact (List.getElem?_eq_some_iff.1 e).2
theorem D9 {g : Nat → Int → Int} {k : Nat} {xs : List Int} (hk : k < xs.length) : atF g (k + 1) xs = (atF g k xs).set k (g k xs[k]) := by
 have hl : ((xs.take k).mapIdx g).length = k := by simp; omega
 unfold atF
 rw [List.set_append_right _ _ (by omega), hl, Nat.sub_self, List.drop_eq_getElem_cons hk, List.set_cons_zero, List.take_succ_eq_append_getElem hk]
 rw [List.mapIdx_append, List.append_assoc, List.length_take, Nat.min_eq_left (by omega)]
 simp
theorem D8 {g : Nat → Int → Int} {k : Nat} {xs : List Int} (hk : k < xs.length) (h : g k xs[k] = xs[k]) : atF g (k + 1) xs = atF g k xs := by
 rw [D9 hk, h]
 have h2 := JM hk (by rw [x5]; exact hk) (g := g)
 conv => lhs; rw [← h2]
 exact List.set_getElem_self _
theorem Z6 {db : List aG} {v : Int} {i : Nat} (hi : i < db.length) : twA (db.take (i + 1)) v = twA (db.take i) v ++ (List.range 8).map fun m => twF v (m : Nat) db[i] := by
 unfold twA
 rw [List.take_succ_eq_append_getElem hi, List.flatMap_append]
 simp
theorem CX {db P : List aG} (hl : db.length ≤ 8) (h3 : ∀ f ∈ db, f.2.length ≤ 3) (hP : P.length ≤ 64) (h4 : ∀ f ∈ P, f.2.length ≤ 3) : (∀ f ∈ P.foldl gH db, f.2.length ≤ 3) ∧ (P.foldl gH db).length ≤ 72 ∧ d6 (P.foldl gH db) ≤ 1048576 := by
 obtain ⟨s1, s2⟩ := o9 P db h4 h3
 refine ⟨s1, by omega, ?_⟩
 have h5 := u3 eF 3 (P.foldl gH db) s1
 show (P.foldl gH db).length + bS eF (P.foldl gH db) ≤ 1048576
 omega
theorem J9 {db : List aG} (h3 : ∀ f ∈ db, f.2.length ≤ 3) (v : Int) : ∀ f ∈ twA db v, f.2.length ≤ 3 := fun f hf => by
 unfold twA at hf
 simp only [List.mem_flatMap, List.mem_map] at hf
 obtain ⟨g, hg, m, _, rfl⟩ := hf
 rw [LY]
 exact h3 g hg
theorem LQ {ys : List Int} {k : Nat} (h : k < ys.length) (t : Int) : e7 (aB ciL ys) (0 + ((k : Nat) : Int).toNat * 1) [ci t] = aB ciL (ys.set k t) := by
 have e : 0 + ((k : Nat) : Int).toNat * 1 = k * 1 := by rw [Int.toNat_natCast]; omega
 rw [e]
 exact iO a7 (by omega) h _
set_option maxHeartbeats 4000000 in
theorem vK (db : List aG) (v : Int) (hl : db.length ≤ 8) (h3 : ∀ f ∈ db, f.2.length ≤ 3) : bI Tryz.prog 99 [c7 db, ci v] (fP (twS db v)) := by
 have hsz : d6 db ≤ 1048576 := (CX (P := []) hl h3 (by simp) (fun f hf => by cases hf)).2.2
 refine aF mx aJ Tryz.func99 rfl ?_
 conv => whnf
 refine ⟨_, Q7 db hsz, .inl rfl, .inr ?_⟩
 conv => whnf
 refine ⟨[(0,0),(1,0),(4,0),(5,0),(6,0)], fun m s => ∃ (i : Nat) (e : Int) (out : List aG) (n : Nat) (r : List V), e = i ∧ m + i = db.length ∧ out = (twA (db.take i) v).foldl gH db ∧ n = out.length ∧ r = aB cF out ∧
  s = ⟨56, [(0, c7 db), (1, ci v), (4, cG), (5, .own 0 2 0 n n none), (6, ci e)], [some ⟨false, r⟩]⟩, db.length, ⟨0, 0, db, _, _, rfl, rfl, rfl, rfl, rfl, rfl⟩, ?_⟩
 rintro m s ⟨i, _, out, n, _, rfl, hm, ho, hn, rfl, rfl⟩
 conv => whnf
 split <;> rename_i h1
 all_goals simp only [decide_eq_true_eq, decide_eq_false_iff_not] at h1
 ·conv => whnf
  have hi : i < db.length := by omega
  have h3i := h3 _ (List.getElem_mem hi)
  have hPl : (twA (db.take i) v).length ≤ 56 := by rw [TU, List.length_take]; omega
  have hPs : ∀ f ∈ twA (db.take i) v, f.2.length ≤ 3 := J9 (fun f hf => h3 f (List.mem_of_mem_take hf)) v
  refine ⟨[(0,0),(1,0),(4,0),(5,0),(6,0),(7,0)], fun m s => ∃ (j : Nat) (e : Int) (out : List aG) (n : Nat) (r : List V), e = j ∧ m + j = 8 ∧ out = (twA (db.take i) v ++ (List.range j).map fun m => twF v (m : Nat) db[i]).foldl gH db ∧ n = out.length ∧ r = aB cF out ∧
   s = ⟨56, [(0, c7 db), (1, ci v), (4, cG), (5, .own 0 2 0 n n none), (6, ci i), (7, ci e)], [some ⟨false, r⟩]⟩, 8, ⟨0, 0, out, _, _, rfl, rfl, by simpa using ho, hn, rfl, rfl⟩, ?_⟩
  rintro m2 s ⟨j, _, out, n, _, rfl, hm2, ho, hn, rfl, rfl⟩
  conv => whnf
  split <;> rename_i h2
  all_goals simp only [decide_eq_true_eq, decide_eq_false_iff_not] at h2
  ·conv => whnf
   refine ⟨by omega, a6 aS db, ?_⟩
   conv => whnf
   refine ⟨_, aD (k := i) aS hi, ?_⟩
   conv => whnf
   refine ⟨_, fY db[i] (by omega), .inl rfl, .inr ?_⟩
   conv => whnf
   have hsz2 := CX (P := twA (db.take i) v ++ (List.range j).map fun m => twF v (m : Nat) db[i]) hl h3 (by rw [List.length_append, List.length_map, List.length_range]; omega) (fun f hf => by
    rcases List.mem_append.1 hf with hf | hf
    ·exact hPs f hf
    ·obtain ⟨q, _, rfl⟩ := List.mem_map.1 hf
     rw [LY]; exact h3i)
   rw [← ho] at hsz2
   obtain ⟨z1, z2, z3⟩ := hsz2
   have hnext : out = (twA (db.take i) v ++ (List.range j).map fun m => twF v (m : Nat) db[i]).foldl gH db → gH out (twF v (j : Nat) db[i]) = (twA (db.take i) v ++ (List.range (j + 1)).map fun m => twF v (m : Nat) db[i]).foldl gH db := fun h => by
    rw [List.range_succ, List.map_append, ← List.append_assoc, List.foldl_append, ← h]
    rfl
   have hnext := hnext ho
   clear ho
   generalize db[i] = f at h3i hnext ⊢
   refine ⟨[(0,0),(1,0),(4,0),(5,0),(6,0),(7,0),(8,0),(9,0)], fun m s => ∃ (k : Nat) (e : Int) (ys : List Int) (r : List V) (r2 : List V), e = k ∧ m + k = f.2.length ∧ ys = atF (twX v (j : Nat)) k f.2 ∧ r = aB cF out ∧ r2 = aB ciL ys ∧
    s = ⟨56, [(0, c7 db), (1, ci v), (4, cG), (5, .own 0 2 0 n n none), (6, ci i), (7, ci (j : Nat)), (8, .ptr 1 0), (9, ci e)], [some ⟨false, r⟩, some ⟨true, [ci f.1, .own 2 1 0 f.2.length f.2.length none]⟩, some ⟨false, r2⟩]⟩, f.2.length, ⟨0, 0, f.2, _, _, rfl, rfl, rfl, rfl, rfl, by kernel_rfl⟩, ?_⟩
   rintro m3 s ⟨k, _, ys, _, _, rfl, hm3, hys, rfl, rfl, rfl⟩
   have hyl : ys.length = f.2.length := by rw [hys, x5]
   conv => whnf
   split <;> rename_i h4
   all_goals simp only [decide_eq_true_eq, decide_eq_false_iff_not] at h4
   ·conv => whnf
    have hk : k < f.2.length := by omega
    have hky : k < ys.length := by omega
    have hyk : ys[k] = f.2[k] := by simp only [hys]; exact JM hk (by rw [x5]; exact hk)
    refine ⟨by omega, ?_⟩
    conv => whnf
    refine ⟨_, b7 (f := ciL) (k := k) (d := 0) (m := 1) (xs := ys) a7 (by show 0 + ((k : Nat) : Int).toNat * 1 = _; omega) hky (by omega) rfl, ?_⟩
    conv => whnf
    rw [hyk]
    have hset : ys.set k 99 = (atF (twX v (j : Nat)) k f.2).set k 99 := by rw [hys]
    generalize hb1 : (f.2[k] == v) = b1
    cases b1 with
    | false =>
     have hne : decide (f.2[k] = v) = false := decide_eq_false (by simpa using hb1)
     conv => whnf
     exact ⟨m3 - 1, by omega, k + 1, _, ys, aB cF out, aB ciL ys, a8 (by omega) (by omega), by omega, by rw [hys]; exact (D8 hk (kX (by rw [hne, Bool.false_and]))).symm, rfl, rfl, by kernel_rfl⟩
    | true =>
     have heq : decide (f.2[k] = v) = true := decide_eq_true (by simpa using hb1)
     conv => whnf
     refine ⟨by omega, ?_⟩
     conv => whnf
     generalize hb2 : (D3 .i64 (R2 .i64 ((j : Nat) : Int) ((k : Nat) : Int)) 1 == 1) = b2
     have hbit : iZ ((j : Nat) : Int) ((k : Nat) : Int) = b2 := hb2
     cases b2 with
     | false =>
      conv => whnf
      exact ⟨m3 - 1, by omega, k + 1, _, ys, aB cF out, aB ciL ys, a8 (by omega) (by omega), by omega, by rw [hys]; exact (D8 hk (kX (by rw [hbit, Bool.and_false]))).symm, rfl, rfl, by kernel_rfl⟩
     | true =>
      conv => whnf
      refine ⟨by omega, ?_⟩
      conv => whnf
      refine ⟨_, b7 (f := ciL) (k := k) (d := 0) (m := 1) (xs := ys) a7 (by show 0 + ((k : Nat) : Int).toNat * 1 = _; omega) hky (by omega) rfl, _, LQ hky 99, ?_⟩
      conv => whnf
      refine ⟨m3 - 1, by omega, k + 1, _, ys.set k 99, aB cF out, aB ciL (ys.set k 99), a8 (by omega) (by omega), by omega, ?_, rfl, rfl, by kernel_rfl⟩
      rw [hset, D9 hk]
      congr 1
      unfold twX
      rw [heq, hbit]
      rfl
   ·conv => whnf
    have hkk : k = f.2.length := by omega
    subst hkk
    rw [RN _ _ (Nat.le_refl _)] at hys
    have hyF : (f.1, ys) = twF v (j : Nat) f := Prod.ext rfl hys
    refine .inl ?_
    conv => whnf
    refine ⟨_, _, aN (by rw [a6 aT, hn]), bF dL _, ?_⟩
    conv => whnf
    refine ⟨_, _, aN (by rw [a6 a7, hyl]), cK _, ?_⟩
    conv => whnf
    have hp := wA out (f.1, ys) z3 (by show ys.length ≤ _; omega)
    rw [hyF, hnext, show mI (twF v (j : Nat) f) = .agg [ci f.1, .ro f.2.length (aB ciL ys)] from by rw [← hyF, ← hyl]; rfl] at hp
    rw [hn]
    refine ⟨_, hp, .inr (fK _), .inr ?_⟩
    conv => whnf
    exact ⟨m2 - 1, by omega, j + 1, _, _, _, _, a8 (by omega) (by omega), by omega, rfl, rfl, rfl, by kernel_rfl⟩
  ·conv => whnf
   have hj : j = 8 := by omega
   subst hj
   rw [← Z6 hi] at ho
   exact ⟨m - 1, by omega, i + 1, _, out, n, _, a8 (by omega) (by omega), by omega, ho, hn, rfl, by kernel_rfl⟩
 ·conv => whnf
  have hii : i = db.length := by omega
  subst hii
  rw [List.take_length] at ho
  subst ho
  refine ⟨by rw [a6 aT, hn], ?_⟩
  rw [hn]
  rfl
def bX (m : Int) (p : Nat) (x : Int) : Int := bif iZ m p then 99 else x
def MX (v m : Int) (k : Nat) (xs : List Int) : Bool := rU v m (xs.take k)
theorem PV {v m : Int} {k : Nat} {xs : List Int} (hk : k < xs.length) : MX v m (k + 1) xs = (MX v m k xs && (!iZ m k || decide (xs[k] = v))) := by
 unfold MX rU
 rw [List.take_succ_eq_append_getElem hk, List.mapIdx_append, List.all_append, List.length_take, Nat.min_eq_left (by omega)]
 simp
theorem ZT {v m : Int} {xs : List Int} (h : rU v m xs = true) : xs.mapIdx (bX m) = twL v m xs := by
 unfold twL
 refine List.ext_getElem (by simp) fun k h1 h2 => ?_
 simp only [List.getElem_mapIdx]
 have hk : k < xs.length := by simpa using h1
 unfold rU at h
 rw [List.all_eq_true] at h
 have := h (!iZ m k || decide (xs[k] = v)) (List.mem_mapIdx.2 ⟨k, hk, rfl⟩)
 unfold bX twX
 cases hb : iZ m k with
 | false => rw [Bool.and_false]
 | true =>
  rw [hb] at this
  have h3 : decide (xs[k] = v) = true := by simpa using this
  rw [h3]; rfl
def zK (v : Int) (f : aG) (j : Nat) : List aG := ((List.range j).drop 1).flatMap fun m => if rU v (m : Nat) f.2 then [twF v (m : Nat) f] else []
theorem WQ (v : Int) (f : aG) : zK v f 1 = [] := rfl
theorem UH (v : Int) (f : aG) {j : Nat} (hj : 1 ≤ j) : zK v f (j + 1) = zK v f j ++ if rU v (j : Nat) f.2 then [twF v (j : Nat) f] else [] := by
 unfold zK
 rw [List.range_succ, List.drop_append_of_le_length (by rw [List.length_range]; exact hj), List.flatMap_append]
 simp
theorem MO (v : Int) (f : aG) (j : Nat) : (zK v f j).length ≤ j - 1 := by
 unfold zK
 have : ∀ l : List Nat, (l.flatMap fun m => if rU v (m : Nat) f.2 then [twF v (m : Nat) f] else []).length ≤ l.length := by
  intro l
  induction l with
  | nil => simp
  | cons a l ih =>
   rw [List.flatMap_cons, List.length_append, List.length_cons]
   have h0 : (if rU v (a : Nat) f.2 then [twF v (a : Nat) f] else []).length ≤ 1 := by split <;> simp
   omega
 have := this ((List.range j).drop 1)
 rw [List.length_drop, List.length_range] at this
 exact this
theorem PO {f : aG} (h : f.2.length ≤ 3) (v : Int) (j : Nat) : ∀ x ∈ zK v f j, x.2.length ≤ 3 := fun x hx => by
 unfold zK at hx
 obtain ⟨m, _, hx⟩ := List.mem_flatMap.1 hx
 split at hx
 ·rw [List.mem_singleton.1 hx, LY]; exact h
 ·cases hx
theorem a10 {L : Nat} (h : L ≤ 3) : a30 .i64 1 (L : Nat) = ((2 ^ L : Nat) : Int) := by
 have : L = 0 ∨ L = 1 ∨ L = 2 ∨ L = 3 := by omega
 rcases this with rfl | rfl | rfl | rfl <;> decide
theorem WP {db : List aG} {v : Int} {i : Nat} (hi : i < db.length) : db ++ (db.take (i + 1)).flatMap (dbM v) = db ++ (db.take i).flatMap (dbM v) ++ zK v db[i] (2 ^ db[i].2.length) := by
 rw [List.take_succ_eq_append_getElem hi, List.flatMap_append, ← List.append_assoc]
 simp [dbM, zK]
theorem S5 {db : List aG} (h3 : ∀ f ∈ db, f.2.length ≤ 3) (v : Int) : (db.flatMap (dbM v)).length ≤ 7 * db.length := by
 induction db with
 | nil => simp
 | cons f db ih =>
  have h1 := MO v f (2 ^ f.2.length)
  have h2 := a2O (h3 f (by simp))
  have h4 := ih fun g hg => h3 g (by simp [hg])
  rw [List.flatMap_cons, List.length_append, List.length_cons]
  have : (dbM v f).length ≤ 7 := by
   have : dbM v f = zK v f (2 ^ f.2.length) := rfl
   rw [this]; omega
  omega
theorem UG {db : List aG} (h3 : ∀ f ∈ db, f.2.length ≤ 3) (v : Int) : ∀ x ∈ db.flatMap (dbM v), x.2.length ≤ 3 := fun x hx => by
 obtain ⟨f, hf, hx⟩ := List.mem_flatMap.1 hx
 exact PO (h3 f hf) v (2 ^ f.2.length) x hx
set_option maxHeartbeats 8000000 in
theorem xD (db : List aG) (v : Int) (hst : fR ltF db) (hl : db.length ≤ 8) (h3 : ∀ f ∈ db, f.2.length ≤ 3) : bI Tryz.prog 106 [c7 db, ci v] (fP (twS db v)) := by
 have hsz : d6 db ≤ 1048576 := (CX (P := []) hl h3 (by simp) (fun f hf => by cases hf)).2.2
 refine aF mx aJ Tryz.func106 rfl ?_
 conv => whnf
 refine ⟨_, DO db hsz, .inl rfl, .inr ?_⟩
 conv => whnf
 refine ⟨[(1,0),(4,0),(5,0),(14,0),(15,0),(16,0)], fun m s => ∃ (i : Nat) (e : Int) (out : List aG) (n : Nat) (r : List V), e = i ∧ m + i = db.length ∧ out = db ++ (db.take i).flatMap (dbM v) ∧ n = out.length ∧ r = aB cF out ∧
  s = ⟨66, [(1, ci v), (4, cG), (5, .own 0 2 0 n n none), (14, c7 db), (15, ci db.length), (16, ci e)], [some ⟨false, r⟩]⟩, db.length, ⟨0, 0, db, _, _, rfl, rfl, by simp, rfl, rfl, rfl⟩, ?_⟩
 rintro m s ⟨i, _, out, n, _, rfl, hm, ho, hn, rfl, rfl⟩
 conv => whnf
 split <;> rename_i h1
 all_goals simp only [decide_eq_true_eq, decide_eq_false_iff_not] at h1
 ·conv => whnf
  have hi : i < db.length := by omega
  have h3i := h3 _ (List.getElem_mem hi)
  have hPl : out.length ≤ 64 := by
   have h5 := S5 (fun f hf => h3 f (List.mem_of_mem_take hf) : ∀ f ∈ db.take i, f.2.length ≤ 3) v
   rw [List.length_take] at h5
   rw [ho, List.length_append]; omega
  have hnx := WP (v := v) hi
  rw [← ho] at hnx
  clear ho
  refine ⟨by omega, a6 aS db, ?_⟩
  conv => whnf
  refine ⟨_, aD (k := i) aS hi, ?_⟩
  conv => whnf
  generalize hF : db[i] = F at h3i hnx
  refine ⟨[(1,0),(4,0),(5,0),(7,0),(8,0),(14,0),(15,0),(16,0)], fun m s => ∃ (j : Nat) (e : Int) (o2 : List aG) (n : Nat) (r : List V), e = j ∧ 1 ≤ j ∧ m + j = 2 ^ F.2.length ∧ o2 = out ++ zK v F j ∧ n = o2.length ∧ r = aB cF o2 ∧
   s = ⟨66, [(1, ci v), (4, cG), (5, .own 0 2 0 n n none), (7, .ptr 1 0), (8, ci e), (14, c7 db), (15, ci db.length), (16, ci i)], [some ⟨false, r⟩, some ⟨true, vN F⟩]⟩, 2 ^ F.2.length - 1, ⟨1, 1, out, _, _, rfl, Nat.le_refl _, by have := Nat.pow_pos (n := F.2.length) (show 0 < 2 by decide); omega, by rw [WQ, List.append_nil], hn, rfl, by rw [← hF]; kernel_rfl⟩, ?_⟩
  rintro m2 s ⟨j, _, o2, n, _, rfl, hj1, hm2, ho2, hn2, rfl, rfl⟩
  conv => whnf
  refine ⟨by omega, ?_⟩
  rw [a10 h3i]
  conv => whnf
  have hp8 := a2O h3i
  split <;> rename_i h2
  all_goals simp only [decide_eq_true_eq, decide_eq_false_iff_not] at h2
  ·conv => whnf
   have hj : j < 2 ^ F.2.length := by omega
   have h6 := MO v F j
   have ho2l : o2.length = out.length + (zK v F j).length := by rw [ho2, List.length_append]
   refine ⟨_, vI F (by omega), .inl rfl, .inr ?_⟩
   conv => whnf
   refine ⟨[(1,0),(4,0),(5,0),(7,0),(8,0),(9,0),(10,0),(14,0),(15,0),(16,0),(32,0),(33,0)], fun m s => ∃ (k : Nat) (e : Int) (ft : Bool) (ys : List Int) (r r2 : List V), e = k ∧ m + k = F.2.length ∧ ft = MX v (j : Nat) k F.2 ∧ ys = atF (bX (j : Nat)) k F.2 ∧ r = aB cF o2 ∧ r2 = aB ciL ys ∧
    s = ⟨66, [(1, ci v), (4, cG), (5, .own 0 2 0 n n none), (7, .ptr 1 0), (8, ci (j : Nat)), (9, .ptr 2 0), (10, cb ft), (14, c7 db), (15, ci db.length), (16, ci i), (32, ci F.2.length), (33, ci e)], [some ⟨false, r⟩, some ⟨true, vN F⟩, some ⟨true, [ci F.1, .own 3 1 0 F.2.length F.2.length none]⟩, some ⟨false, r2⟩]⟩, F.2.length, ⟨0, 0, true, F.2, _, _, rfl, rfl, rfl, rfl, rfl, rfl, by kernel_rfl⟩, ?_⟩
   rintro m3 s ⟨k, _, ft, ys, _, _, rfl, hm3, hft, hys, rfl, rfl, rfl⟩
   have hyl : ys.length = F.2.length := by rw [hys, x5]
   conv => whnf
   split <;> rename_i h4
   all_goals simp only [decide_eq_true_eq, decide_eq_false_iff_not] at h4
   ·conv => whnf
    have hk : k < F.2.length := by omega
    have hky : k < ys.length := by omega
    have hyk : ys[k] = F.2[k] := by simp only [hys]; exact JM hk (by rw [x5]; exact hk)
    refine ⟨by omega, ?_⟩
    conv => whnf
    generalize hb2 : (D3 .i64 (R2 .i64 ((j : Nat) : Int) ((k : Nat) : Int)) 1 == 1) = b2
    have hbit : iZ ((j : Nat) : Int) ((k : Nat) : Int) = b2 := hb2
    have hfs := PV (v := v) (m := (j : Nat)) hk
    rw [← hft, hbit] at hfs
    have hset : ys.set k 99 = (atF (bX (j : Nat)) k F.2).set k 99 := by rw [hys]
    cases b2 with
    | false =>
     conv => whnf
     exact ⟨m3 - 1, by omega, k + 1, _, ft, ys, aB cF o2, aB ciL ys, a8 (by omega) (by omega), by omega, by rw [hfs]; simp, by rw [hys]; exact (D8 hk (by unfold bX; rw [hbit]; rfl)).symm, rfl, rfl, by kernel_rfl⟩
    | true =>
     have hnew : ys.set k 99 = atF (bX (j : Nat)) (k + 1) F.2 := by
      rw [hset, D9 hk]
      congr 1
      unfold bX
      rw [hbit]
      rfl
     conv => whnf
     cases ft with
     | false =>
      conv => whnf
      refine ⟨by omega, ?_⟩
      conv => whnf
      refine ⟨_, b7 (f := ciL) (k := k) (d := 0) (m := 1) (xs := ys) a7 (by show 0 + ((k : Nat) : Int).toNat * 1 = _; omega) hky (by omega) rfl, _, LQ hky 99, ?_⟩
      conv => whnf
      exact ⟨m3 - 1, by omega, k + 1, _, false, ys.set k 99, aB cF o2, aB ciL (ys.set k 99), a8 (by omega) (by omega), by omega, by rw [hfs]; rfl, hnew, rfl, rfl, by kernel_rfl⟩
     | true =>
      conv => whnf
      refine ⟨by omega, ?_⟩
      conv => whnf
      refine ⟨_, b7 (f := ciL) (k := k) (d := 0) (m := 1) (xs := ys) a7 (by show 0 + ((k : Nat) : Int).toNat * 1 = _; omega) hky (by omega) rfl, ?_⟩
      conv => whnf
      rw [hyk]
      have hq : decide (F.2[k] = v) = (F.2[k] == v) := by rw [Bool.eq_iff_iff]; simp
      rw [hq] at hfs
      generalize (F.2[k] == v) = b1 at hfs ⊢
      refine ⟨by omega, ?_⟩
      conv => whnf
      refine ⟨_, b7 (f := ciL) (k := k) (d := 0) (m := 1) (xs := ys) a7 (by show 0 + ((k : Nat) : Int).toNat * 1 = _; omega) hky (by omega) rfl, _, LQ hky 99, ?_⟩
      conv => whnf
      exact ⟨m3 - 1, by omega, k + 1, _, b1, ys.set k 99, aB cF o2, aB ciL (ys.set k 99), a8 (by omega) (by omega), by omega, by rw [hfs]; simp, hnew, rfl, rfl, by kernel_rfl⟩
   ·conv => whnf
    have hkk : k = F.2.length := by omega
    subst hkk
    rw [RN _ _ (Nat.le_refl _)] at hys
    have hfit : ft = rU v (j : Nat) F.2 := by rw [hft]; unfold MX; rw [List.take_length]
    have hstep := UH v F hj1
    rw [← hfit] at hstep
    cases ft with
    | false =>
     conv => whnf
     rw [if_neg (by simp), List.append_nil] at hstep
     exact ⟨m2 - 1, by omega, j + 1, _, o2, n, aB cF o2, a8 (by omega) (by omega), by omega, by omega, by rw [hstep]; exact ho2, hn2, rfl, by kernel_rfl⟩
    | true =>
     have hyF : (F.1, ys) = twF v (j : Nat) F := Prod.ext rfl (by rw [hys]; exact ZT hfit.symm)
     rw [if_pos rfl, ← hyF] at hstep
     conv => whnf
     refine ⟨by rw [a6 a7, hyl], ?_⟩
     conv => whnf
     have hsol : ∀ c ∈ [ci F.1, V.tr 1 F.2.length (aB ciL ys)], eU c = true := by rw [← hyl]; exact rH (F.1, ys)
     have hsn : aB cF o2 ++ [ci F.1, V.tr 1 F.2.length (aB ciL ys)] = aB cF (o2 ++ [(F.1, ys)]) := by rw [← hyl]; exact bQ cF o2 (F.1, ys)
     refine ⟨_, rfl, .inr ⟨hsol, ?_⟩⟩
     conv => whnf
     refine ⟨by omega, by rw [a6 aT, hn2], _, hsn, ?_⟩
     conv => whnf
     exact ⟨m2 - 1, by omega, j + 1, _, o2 ++ [(F.1, ys)], n + 1, aB cF (o2 ++ [(F.1, ys)]), a8 (by omega) (by omega), by omega, by omega, by rw [hstep, ho2, List.append_assoc], by rw [List.length_append, hn2]; rfl, rfl, by kernel_rfl⟩
  ·conv => whnf
   have hjj : j = 2 ^ F.2.length := by omega
   subst hjj
   rw [← hnx] at ho2
   exact ⟨m - 1, by omega, i + 1, _, o2, n, _, a8 (by omega) (by omega), by omega, ho2, hn2, rfl, by kernel_rfl⟩
 ·conv => whnf
  have hii : i = db.length := by omega
  subst hii
  rw [List.take_length] at ho
  have hA : out = dbA db v := ho
  subst hA
  have hsh : ∀ x ∈ dbA db v, x.2.length ≤ 1099511627776 := fun x hx => by
   have : x.2.length ≤ 3 := by
    rcases List.mem_append.1 hx with hx | hx
    ·exact h3 x hx
    ·exact UG h3 v x hx
   omega
  have hlen : (dbA db v).length ≤ 64 := by
   have := S5 h3 v
   unfold dbA
   rw [List.length_append]; omega
  have hsrt := tW (dbA db v) hsh (by omega)
  rw [← hn] at hsrt
  refine .inr (.inr ⟨[0], [], ?_⟩)
  conv => whnf
  refine ⟨_, hsrt, fun r g2 hP => ?_⟩
  obtain ⟨rfl, ys, hp, hps, rfl⟩ := hP
  have hyl : n = ys.length := by rw [hp.length_eq, hn]
  refine .inl ?_
  conv => whnf
  refine .inr (.inr ⟨[0], [], ?_⟩)
  conv => whnf
  have hys : ∀ x ∈ ys, x.2.length ≤ 1099511627776 := fun x hx => hsh x (hp.mem_iff.1 hx)
  have hcs := sQ ys hys (by omega)
  rw [← hyl] at hcs
  refine ⟨_, hcs, fun r g2 hP => ?_⟩
  obtain ⟨rfl, rfl⟩ := hP
  refine .inr ?_
  conv => whnf
  refine ⟨by rw [a6 aT], ?_⟩
  rw [← a18 hst h3 v, ← J0 (dbA db v) ys hp hps]
  rfl
end Go.Proofs.YtboolngaahifdaaGreatD
