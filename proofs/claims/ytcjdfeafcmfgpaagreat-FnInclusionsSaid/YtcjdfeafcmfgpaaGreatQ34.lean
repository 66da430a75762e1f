/- Contracts and plain laws of this seat; no condition. -/
import Derived.Test.YtcjdfeafcmfgpaaGreatQ20
import Derived.Test.YtcjdfeafcmfgpaaGreatQ33
import Derived.Test.YtcjdfeafcmfgpaaGreatQ30
set_option linter.unusedVariables false
set_option linter.unusedSimpArgs false
set_option maxRecDepth 100000
namespace Go.Proofs.YtcjdfeafcmfgpaaGreatD
open Go Go.Proofs
def wFactR (x : List FactC) : V := .tr 2 x.length (rows rFact x)
theorem rFact_roT (x : FactC) : roVs (rFact x) = rFact x := by simp only [rFact, roVs, roV, ints, roVs_ci, ci_ro]
theorem wFactR_ro (x : List FactC) : roV (wFactR x) = vFactS x := congrArg (V.ro x.length) (roVs_rows rFact_roT x)
theorem takeN_front {α : Type} {f : α → List V} {n : Nat} (h : ∀ x, (f x).length = n) (xs : List α) {k : Nat} (hk : k ≤ xs.length) : takeN (rows f xs) 0 (k * n) = some (rows f (xs.take k)) := by
 have e : rows f xs = rows f (xs.take k) ++ rows f (xs.drop k) := by rw [← rows_append, List.take_append_drop]
 have hl := rows_len h (xs.take k)
 rw [List.length_take, Nat.min_eq_left hk] at hl
 refine takeN_eq (by rw [e, List.length_append]; omega) ?_
 rw [List.drop_zero, e, ← hl, List.take_left]
theorem takeN_back {α : Type} {f : α → List V} {n m o : Nat} (h : ∀ x, (f x).length = n) (xs : List α) {k : Nat} (hk : k ≤ xs.length) (ho : o = k * n) (hm : m = (xs.length - k) * n) : takeN (rows f xs) o m = some (rows f (xs.drop k)) := by
 have hl := rows_len h (xs.drop k)
 rw [List.length_drop] at hl
 have ha := rows_len h xs
 have hb : k * n + (xs.length - k) * n = xs.length * n := by rw [← Nat.add_mul]; congr 1; omega
 subst hm
 subst ho
 refine takeN_eq (by omega) ?_
 rw [rows_drop h, ← hl, List.take_length]
theorem flat_rFactT (x : FactC) : ∀ c ∈ rFact x, flat c = true := by
 intro c hc
 simp only [rFact, List.mem_cons, List.not_mem_nil, or_false] at hc
 rcases hc with rfl | rfl <;> rfl
theorem flat_rowsT {α : Type} {f : α → List V} (h : ∀ x, ∀ c ∈ f x, flat c = true) : ∀ xs : List α, ∀ c ∈ rows f xs, flat c = true
 | [], c, hc => by cases hc
 | x :: xs, c, hc => by
  simp only [rows, List.mem_append] at hc
  rcases hc with hc | hc
  ·exact h x c hc
  ·exact flat_rowsT h xs c hc
theorem solid_rowsT {α : Type} {f : α → List V} (h : ∀ x, ∀ c ∈ f x, solid c = true) : ∀ xs : List α, ∀ c ∈ rows f xs, solid c = true
 | [], c, hc => by cases hc
 | x :: xs, c, hc => by
  simp only [rows, List.mem_append] at hc
  rcases hc with hc | hc
  ·exact h x c hc
  ·exact solid_rowsT h xs c hc
theorem solid_rFactT (x : FactC) : ∀ c ∈ rFact x, solid c = true := by
 intro c hc
 simp only [rFact, List.mem_cons, List.not_mem_nil, or_false] at hc
 rcases hc with rfl | rfl <;> rfl
def tameK (ks : List FactK) (P : List FactC → Int) (x : List FactC) : Int := if (pFirstViolation x ks).2.2 < 0 then P x else (pFirstViolation x ks).2.2
def tameGo (ks : List FactK) (P : List FactC → Int) : Nat → List FactC → List FactC
 | 0, _ => []
 | n + 1, x => if tameK ks P x < 0 then x else tameGo ks P n (x.take (tameK ks P x).toNat ++ x.drop ((tameK ks P x).toNat + 1))
theorem tameGo_succ (ks : List FactK) (P : List FactC → Int) (n : Nat) (x : List FactC) : tameGo ks P (n + 1) x = if tameK ks P x < 0 then x else tameGo ks P n (x.take (tameK ks P x).toNat ++ x.drop ((tameK ks P x).toNat + 1)) := rfl
theorem out3_lt {x : List FactC} {ks : List FactK} : (pFirstViolation x ks).2.2 < x.length ∧ ((pFirstViolation x ks).2.2 < 0 → Holds x ks) := by
 unfold pFirstViolation
 cases h : tripK x ks (ran 0 ks.length) with
 | none => exact ⟨by show (-1 : Int) < _; omega, fun _ => h⟩
 | some r =>
  obtain ⟨n, i, k⟩ := r
  obtain ⟨_, _, h3, _⟩ := tripK_is h
  have := (ran_mem'.1 h3).2
  exact ⟨by show ((k : Nat) : Int) < _; simp only at this; omega, fun h => absurd h (by show ¬ ((k : Nat) : Int) < 0; omega)⟩
theorem tame_mem {ks : List FactK} {P : List FactC → Int} : ∀ (n : Nat) (x : List FactC), (∀ f ∈ tameGo ks P n x, f ∈ x) ∧ (tameGo ks P n x).length ≤ x.length
 | 0, x => ⟨(fun f hf => by cases hf), Nat.zero_le _⟩
 | n + 1, x => by
  rw [tameGo]
  split
  ·exact ⟨fun f hf => hf, Nat.le_refl _⟩
  ·obtain ⟨h1, h2⟩ := tame_mem (ks := ks) (P := P) n (x.take (tameK ks P x).toNat ++ x.drop ((tameK ks P x).toNat + 1))
   refine ⟨fun f hf => ?_, ?_⟩
   ·rcases List.mem_append.1 (h1 f hf) with h | h
    ·exact List.mem_of_mem_take h
    ·exact List.mem_of_mem_drop h
   ·rw [List.length_append, List.length_take, List.length_drop] at h2
    omega
theorem tame_ok {ks : List FactK} {P : List FactC → Int} : ∀ (n : Nat) (x : List FactC), Holds (tameGo ks P n x) ks ∧ (tameGo ks P n x = [] ∨ P (tameGo ks P n x) < 0)
 | 0, x => by
  refine ⟨?_, .inl rfl⟩
  refine tripK_none.2 fun k hk => ?_
  rfl
 | n + 1, x => by
  rw [tameGo]
  split
  ·rename_i h
   unfold tameK at h
   split at h
   ·rename_i h1
    exact ⟨out3_lt.2 h1, .inr h⟩
   ·rename_i h1
    exact absurd h h1
  ·exact tame_ok n _
theorem smDb_sub {n m : Nat} {x y : List FactC} (h : smDb n m x) (h1 : ∀ f ∈ y, f ∈ x) (h2 : y.length ≤ x.length) : smDb n m y := ⟨Nat.le_trans h2 h.1, fun f hf => h.2 f (h1 f hf)⟩
theorem smDb_cut {n m : Nat} {x : List FactC} (h : smDb n m x) (k : Nat) : smDb n m (x.take k ++ x.drop (k + 1)) := smDb_sub h (fun f hf => (List.mem_append.1 hf).elim List.mem_of_mem_take List.mem_of_mem_drop) (by rw [List.length_append, List.length_take, List.length_drop]; omega)
set_option maxHeartbeats 4000000 in
theorem tame_g (db : List FactC) (ks : List FactK) (l : List (Int × List Int × Int × List Int)) (P : List FactC → Int) (hd : smDb 9 4 db) (hk : cKeyS ks ≤ 1048576) (hP : ∀ x, smDb 9 4 x → Spec Tryz.prog 136 [vFactS x, vInclusionS l] (ci (P x)) ∧ P x < x.length) :
  SpecG Tryz.prog 32 [vFactS db, vKeyS ks, vInclusionS l] [] fun r g2 => r = wFactR (tameGo ks P 200 db) ∧ g2 = [] := by
 refine SpecG_of mx Γ_ok 0 Tryz.func32 rfl rfl (by decide) ?_
 conv => whnf
 refine ⟨rows_len rFact_len _, solid_rowsT solid_rFactT db, ?_⟩
 conv => whnf
 have hdl := hd.1
 refine ⟨by omega, rfl, _, List.nil_append _, ?_⟩
 conv => whnf
 refine ⟨[(1,0),(2,0),(6,0),(7,0),(8,0)], fun m st => ∃ (i : Nat) (e : Int) (x : List FactC) (n : Nat) (r : List V), e = i ∧ m + i = 200 ∧ tameGo ks P 200 db = tameGo ks P m x ∧ smDb 9 4 x ∧ n = x.length ∧ r = rows rFact x ∧
  st = ⟨45, [(1, vKeyS ks), (2, vInclusionS l), (6, cnil), (7, .own 0 2 0 n n none), (8, ci e)], [some ⟨false, r⟩]⟩, 200, ⟨0, 0, db, 0 + db.length, rows rFact db, rfl, rfl, rfl, hd, Nat.zero_add _, rfl, by kernel_rfl⟩, ?_⟩
 rintro m st ⟨i, _, x, n, _, rfl, hm, hgo, hx, hn, rfl, rfl⟩
 have hxs := smDb_size hx (by omega) (by omega)
 have hxl := hx.1
 conv => whnf
 split <;> rename_i h1
 all_goals simp only [decide_eq_true_eq, decide_eq_false_iff_not] at h1
 ·obtain ⟨m', rfl⟩ : ∃ m', m = m' + 1 := ⟨m - 1, by omega⟩
  rw [tameGo_succ ks P m' x] at hgo
  conv => whnf
  refine .inl ?_
  conv => whnf
  refine ⟨_, _, takeN_all (by rw [rows_len rFact_len, hn]), roVs_rows rFact_roT _, ?_⟩
  conv => whnf
  have hfv := specFirstViolation_gen x ks hxs (by omega)
  rw [show vFactS x = .ro n (rows rFact x) from by rw [hn]; rfl] at hfv
  refine ⟨_, hfv, .inr ⟨trivial, trivial, trivial, trivial⟩, .inl ?_⟩
  have hlt := (out3_lt (x := x) (ks := ks)).1
  have hK : tameK ks P x = if (pFirstViolation x ks).2.2 < 0 then P x else (pFirstViolation x ks).2.2 := rfl
  generalize pFirstViolation x ks = v at hlt hK
  obtain ⟨v1, v2, c⟩ := v
  simp only at hlt hK
  rw [show v3 (v1, v2, c) = .tup [ci v1, ci v2, ci c] from rfl]
  conv => whnf
  generalize hc : decide (c < 0) = dc
  cases dc with
  | true =>
   have hc' := of_decide_eq_true hc
   rw [if_pos hc'] at hK
   rw [hK] at hgo
   conv => whnf
   refine .inl ?_
   conv => whnf
   refine ⟨_, _, takeN_all (by rw [rows_len rFact_len, hn]), roVs_rows rFact_roT _, ?_⟩
   conv => whnf
   obtain ⟨hl1, hl2⟩ := hP x hx
   rw [show vFactS x = .ro n (rows rFact x) from by rw [hn]; rfl] at hl1
   refine ⟨_, hl1, .inr trivial, .inl ?_⟩
   generalize P x = p at hgo hl2
   conv => whnf
   generalize hp : decide (p < 0) = dp
   cases dp with
   | true =>
    rw [if_pos (of_decide_eq_true hp)] at hgo
    conv => whnf
    refine ⟨[], ?_⟩
    conv => whnf
    refine ⟨by rw [rows_len rFact_len, hn], ?_⟩
    rw [hgo, hn]
    exact ⟨rfl, rfl⟩
   | false =>
    have hp' := of_decide_eq_false hp
    rw [if_neg hp'] at hgo
    obtain ⟨q, rfl⟩ : ∃ q : Nat, p = q := ⟨p.toNat, by omega⟩
    rw [Int.toNat_natCast] at hgo
    have hq : q < x.length := by omega
    conv => whnf
    refine ⟨[1, 2, 3, 5, 6, 7, 8, 0, 4, 9, 10], by kernel_rfl, ?_⟩
    conv => whnf
    have hw : IntKind.i64.wrap ((q : Int) + 1) = ((q + 1 : Nat) : Int) := wrap_id (by omega) (by omega)
    refine ⟨⟨by omega, by omega⟩, ?_⟩
    conv => whnf
    rw [hw]
    refine ⟨⟨by omega, by omega⟩, ?_⟩
    conv => whnf
    refine ⟨_, takeN_front rFact_len x (k := q) (by omega), .inl ⟨flat_rowsT flat_rFactT _, ?_⟩⟩
    conv => whnf
    refine ⟨by omega, rfl, _, List.nil_append _, ?_⟩
    conv => whnf
    refine ⟨_, takeN_back rFact_len x (k := q + 1) (by omega) (by rw [Int.toNat_natCast, Nat.zero_add]) (by rw [Int.toNat_natCast, Int.toNat_natCast, hn]; rfl), .inl ⟨flat_rowsT flat_rFactT _, ?_⟩⟩
    conv => whnf
    refine ⟨by omega, by rw [rows_len rFact_len, List.length_take, Nat.min_eq_left (by omega)]; show q * 2 = (0 + ((q : Int).toNat - 0)) * 2; rw [Int.toNat_natCast]; omega, _, (rows_append rFact _ _).symm, ?_⟩
    conv => whnf
    exact ⟨m', by omega, i + 1, IntKind.i64.wrap ((i : Int) + 1), x.take q ++ x.drop (q + 1), 0 + ((q : Int).toNat - Int.toNat 0) + ((n : Int).toNat - ((q + 1 : Nat) : Int).toNat), rows rFact (x.take q ++ x.drop (q + 1)), wrap_id (by omega) (by omega), by omega, hgo, smDb_cut hx q, (by rw [Int.toNat_natCast, Int.toNat_natCast, Int.toNat_natCast, List.length_append, List.length_take, List.length_drop]; show 0 + (q - 0) + _ = _; omega), rfl, by kernel_rfl⟩
  | false =>
   have hc' := of_decide_eq_false hc
   rw [if_neg hc'] at hK
   rw [hK, if_neg hc'] at hgo
   obtain ⟨q, rfl⟩ : ∃ q : Nat, c = q := ⟨c.toNat, by omega⟩
   rw [Int.toNat_natCast] at hgo
   have hq : q < x.length := by omega
   conv => whnf
   rw [hc]
   conv => whnf
   refine ⟨[1, 2, 3, 5, 6, 7, 8, 0, 4, 9, 10], by kernel_rfl, ?_⟩
   conv => whnf
   have hw : IntKind.i64.wrap ((q : Int) + 1) = ((q + 1 : Nat) : Int) := wrap_id (by omega) (by omega)
   refine ⟨⟨by omega, by omega⟩, ?_⟩
   conv => whnf
   rw [hw]
   refine ⟨⟨by omega, by omega⟩, ?_⟩
   conv => whnf
   refine ⟨_, takeN_front rFact_len x (k := q) (by omega), .inl ⟨flat_rowsT flat_rFactT _, ?_⟩⟩
   conv => whnf
   refine ⟨by omega, rfl, _, List.nil_append _, ?_⟩
   conv => whnf
   refine ⟨_, takeN_back rFact_len x (k := q + 1) (by omega) (by rw [Int.toNat_natCast, Nat.zero_add]) (by rw [Int.toNat_natCast, Int.toNat_natCast, hn]; rfl), .inl ⟨flat_rowsT flat_rFactT _, ?_⟩⟩
   conv => whnf
   refine ⟨by omega, by rw [rows_len rFact_len, List.length_take, Nat.min_eq_left (by omega)]; show q * 2 = (0 + ((q : Int).toNat - 0)) * 2; rw [Int.toNat_natCast]; omega, _, (rows_append rFact _ _).symm, ?_⟩
   conv => whnf
   exact ⟨m', by omega, i + 1, IntKind.i64.wrap ((i : Int) + 1), x.take q ++ x.drop (q + 1), 0 + ((q : Int).toNat - Int.toNat 0) + ((n : Int).toNat - ((q + 1 : Nat) : Int).toNat), rows rFact (x.take q ++ x.drop (q + 1)), wrap_id (by omega) (by omega), by omega, hgo, smDb_cut hx q, (by rw [Int.toNat_natCast, Int.toNat_natCast, Int.toNat_natCast, List.length_append, List.length_take, List.length_drop]; show 0 + (q - 0) + _ = _; omega), rfl, by kernel_rfl⟩
 ·conv => whnf
  have hm0 : m = 0 := by omega
  subst hm0
  rw [hgo]
  refine ⟨[], ?_⟩
  conv => whnf
  exact ⟨rfl, rfl, rfl⟩
theorem l14Fits_spec (a b : List Int) (x : Int × List Int × Int × List Int) (ha : a.length ≤ 1099511627776) (hb : b.length ≤ 1099511627776) (hp : x.2.1.length ≤ 1099511627776) (hqq : x.2.2.2.length ≤ 1099511627776) : Spec Tryz.prog 233 [ints a, ints b, vInclusion x] (cb (agreeI a x.2.1 b x.2.2.2)) := by
 have hw : IntKind.i64.wrap ((a.length : Int) - 1) = a.length - 1 := wrap_id (by omega) (by omega)
 have hwb : IntKind.i64.wrap ((b.length : Int) - 1) = b.length - 1 := wrap_id (by omega) (by omega)
 refine Spec_of mx Γ_ok Tryz.func233 rfl ?_
 conv => whnf
 refine ⟨[(0,0),(1,0),(5,0),(6,0),(7,0)], fun m s => ∃ (k : Nat) (e : Int), e = k ∧ m + k = x.2.1.length ∧ (x.2.1.length = x.2.2.2.length → agreeI a x.2.1 b x.2.2.2 = (ran k x.2.1.length).all (agreeA a x.2.1 b x.2.2.2)) ∧
  s = ⟨72, [(0, ints a), (1, ints b), (5, .ptr 0 0), (6, cb false), (7, ci e)], [some ⟨true, rInclusion x⟩]⟩, x.2.1.length, ⟨0, 0, rfl, rfl, fun h => by unfold agreeI; rw [decide_eq_true h, Bool.true_and], rfl⟩, ?_⟩
 rintro m s ⟨k, _, rfl, hm, hall, rfl⟩
 conv => whnf
 generalize hb1 : decide ((k : Int) < x.2.1.length) = b1
 cases b1 with
 | false =>
  have h1 := of_decide_eq_false hb1
  conv => whnf
  by_cases h0 : x.2.1.length = x.2.2.2.length
  ·rw [hall h0, ran_end (by omega)]
   show cb _ = cb true
   congr 1 <;> simp <;> omega
  ·show cb _ = _
   unfold agreeI
   rw [decide_eq_false h0, Bool.false_and]
   congr 1 <;> simp <;> omega
 | true =>
 have h1 := of_decide_eq_true hb1
 conv => whnf
 split <;> rename_i h0
 ·conv => whnf
  have h0' : x.2.1.length = x.2.2.2.length := by
   have h3 : (x.2.1.length : Int) = x.2.2.2.length := by simpa using h0
   omega
  have hk : k < x.2.1.length := by omega
  have hkq : k < x.2.2.2.length := by omega
  have hall := hall h0'
  rw [ran_at hk, List.all_cons] at hall
  have hA : agreeA a x.2.1 b x.2.2.2 k = agree1 a b x.2.1[k] x.2.2.2[k] := by unfold agreeA; rw [getD_at' hk, getD_at' hkq]
  refine ⟨List.range 41, by kernel_rfl, ?_⟩
  conv => whnf
  refine ⟨by omega, rows_len ciL_len x.2.1, ?_⟩
  conv => whnf
  refine ⟨_, takeN_rp (k := k) ciL_len hk, ?_⟩
  conv => whnf
  refine ⟨_, l1In_spec _ _ _, .inl rfl, .inl ?_⟩
  rw [hw]
  conv => whnf
  generalize hb4 : (!inR x.2.1[k] 0 (a.length - 1)) = b4
  cases b4 with
  | true =>
   conv => whnf
   show cb false = _
   simp only [Bool.not_eq_true'] at hb4
   rw [hall, hA, agree1, hb4, Bool.false_and, Bool.false_and]
  | false =>
  conv => whnf
  simp only [Bool.not_eq_false'] at hb4
  have hr : 0 ≤ x.2.1[k] ∧ x.2.1[k] ≤ (a.length : Int) - 1 := by simpa [inR] using hb4
  refine ⟨by omega, rows_len ciL_len x.2.2.2, ?_⟩
  conv => whnf
  refine ⟨_, takeN_rp (k := k) ciL_len hkq, ?_⟩
  conv => whnf
  refine ⟨_, l1In_spec _ _ _, .inl rfl, .inl ?_⟩
  rw [hwb]
  conv => whnf
  generalize hb5 : (!inR x.2.2.2[k] 0 (b.length - 1)) = b5
  cases b5 with
  | true =>
   conv => whnf
   show cb false = _
   simp only [Bool.not_eq_true'] at hb5
   rw [hall, hA, agree1, hb5, Bool.false_and, Bool.and_false, Bool.false_and]
  | false =>
  conv => whnf
  simp only [Bool.not_eq_false'] at hb5
  have hs : 0 ≤ x.2.2.2[k] ∧ x.2.2.2[k] ≤ (b.length : Int) - 1 := by simpa [inR] using hb5
  obtain ⟨u, hu⟩ : ∃ u : Nat, x.2.1[k] = u := ⟨x.2.1[k].toNat, by omega⟩
  obtain ⟨w, hw2⟩ : ∃ w : Nat, x.2.2.2[k] = w := ⟨x.2.2.2[k].toNat, by omega⟩
  rw [hu] at hr
  rw [hw2] at hs
  have hua : u < a.length := by omega
  have hwq : w < b.length := by omega
  refine ⟨by omega, rows_len ciL_len x.2.1, ?_⟩
  conv => whnf
  refine ⟨_, takeN_rp (k := k) ciL_len hk, ?_⟩
  rw [hu]
  conv => whnf
  refine ⟨by omega, rows_len ciL_len a, ?_⟩
  conv => whnf
  refine ⟨_, takeN_rp (k := u) ciL_len hua, ?_⟩
  conv => whnf
  refine ⟨by omega, rows_len ciL_len x.2.2.2, ?_⟩
  conv => whnf
  refine ⟨_, takeN_rp (k := k) ciL_len hkq, ?_⟩
  rw [hw2]
  conv => whnf
  refine ⟨by omega, rows_len ciL_len b, ?_⟩
  conv => whnf
  refine ⟨_, takeN_rp (k := w) ciL_len hwq, ?_⟩
  conv => whnf
  have hA2 : agreeA a x.2.1 b x.2.2.2 k = decide (a[u] = b[w]) := by
   rw [hA, agree1, hb4, hb5, Bool.true_and, Bool.true_and, hu, hw2, getI_at hua, getI_at hwq]
  split <;> rename_i h2
  ·conv => whnf
   show cb false = _
   rw [hall, hA2, decide_eq_false (by simpa using h2), Bool.false_and]
  ·conv => whnf
   rw [hA2, decide_eq_true (p := a[u] = b[w]) (by simpa using h2), Bool.true_and] at hall
   exact ⟨m - 1, by omega, k + 1, _, wrap_id (by omega) (by omega), by omega, fun _ => hall, rfl⟩
 ·conv => whnf
  have h0' : ¬ x.2.1.length = x.2.2.2.length := by
   have h3 : ¬ (x.2.1.length : Int) = x.2.2.2.length := by simpa using h0
   omega
  show cb _ = _
  unfold agreeI
  rw [decide_eq_false h0', Bool.false_and]
  congr 1 <;> simp <;> omega
abbrev FactL := Int × List Int
abbrev InclL := Int × List Int × Int × List Int
def lackP (x1 : InclL) (f g : FactL) : Bool := decide (g.1 = x1.2.2.1) && agreeI f.2 x1.2.1 g.2 x1.2.2.2
def okF (x0 : List FactL) (x1 : InclL) (f : FactL) : Bool := !decide (f.1 = x1.1) || x0.any (lackP x1 f)
def okK (x0 : List FactL) (x1 : InclL) (k : Nat) : Bool := okF x0 x1 (x0.getD k (0, []))
def pHoldsInclusion (x0 : List FactL) (x1 : InclL) : Bool := (ran 0 x0.length).all (okK x0 x1)
def firstI (p : Nat → Bool) : List Nat → Int
 | [] => -1
 | k :: ks => if p k then k else firstI p ks
theorem firstI_neg (p : Nat → Bool) : ∀ ks, decide (firstI p ks < 0) = ks.all (fun k => !p k)
 | [] => rfl
 | k :: ks => by
  unfold firstI
  rw [List.all_cons]
  cases h : p k with
  | true =>
   rw [if_pos rfl]
   exact decide_eq_false (by omega)
  | false =>
   rw [if_neg (by simp)]
   exact firstI_neg p ks
theorem getD_fact {x0 : List FactL} {k : Nat} (hk : k < x0.length) : x0.getD k (0, []) = x0[k] := by simp [List.getD_eq_getElem?_getD, hk]
def lackI (x0 : List FactL) (x1 : InclL) : Int := firstI (fun k => !okK x0 x1 k) (ran 0 x0.length)
set_option maxHeartbeats 2000000 in
theorem lacking_spec (x0 : List FactL) (x1 : InclL) (h0 : cFactS x0 ≤ 1048576) (h1 : cInclusion x1 ≤ 1048576) : Spec Tryz.prog 122 [vFactS x0, vInclusion x1] (ci (lackI x0 x1)) := by
 unfold cFactS at h0
 unfold cInclusion at h1
 refine Spec_of mx Γ_ok Tryz.func122 rfl ?_
 conv => whnf
 refine ⟨[(0,0),(3,0),(4,0),(10,0),(11,0),(12,0)], fun m s => ∃ (k : Nat) (e : Int), e = k ∧ m + k = x0.length ∧ lackI x0 x1 = firstI (fun k => !okK x0 x1 k) (ran k x0.length) ∧
  s = ⟨52, [(0, vFactS x0), (3, .ptr 0 0), (4, ci 0), (10, vFactS x0), (11, ci x0.length), (12, ci e)], [some ⟨true, rInclusion x1⟩]⟩, x0.length, ⟨0, 0, rfl, rfl, rfl, rfl⟩, ?_⟩
 rintro m s ⟨k, _, rfl, hm, hall, rfl⟩
 conv => whnf
 split <;> rename_i h3
 all_goals simp only [decide_eq_true_eq, decide_eq_false_iff_not] at h3
 ·conv => whnf
  have hk : k < x0.length := by omega
  have hb := sumB_one (f := cFact) hk
  have hck : cFact x0[k] = x0[k].2.length := rfl
  rw [ran_at hk, firstI] at hall
  refine ⟨by omega, rows_len rFact_len _, ?_⟩
  conv => whnf
  refine ⟨_, takeN_rp (k := k) rFact_len hk, ?_⟩
  conv => whnf
  refine ⟨[(0,0),(3,0),(4,0),(5,0),(6,0),(7,0),(10,0),(11,0),(12,0),(22,0),(23,0),(24,0)], fun m s => ∃ (j : Nat) (e : Int) (fl : Bool), e = j ∧ m + j = x0.length ∧ okK x0 x1 k = (fl || (x0.drop j).any (lackP x1 x0[k])) ∧
   s = ⟨52, [(0, vFactS x0), (3, .ptr 0 0), (4, ci 0), (5, ci k), (6, .ptr 1 0), (7, cb fl), (10, vFactS x0), (11, ci x0.length), (12, ci k), (22, vFactS x0), (23, ci x0.length), (24, ci e)], [some ⟨true, rInclusion x1⟩, some ⟨true, rFact x0[k]⟩]⟩, x0.length, ⟨0, 0, _, rfl, rfl, ?_, rfl⟩, ?_⟩
  ·rw [okK, getD_fact hk, okF, List.drop_zero]
   congr 1
  rintro m' s ⟨j, _, fl, rfl, hm', hany, rfl⟩
  conv => whnf
  split <;> rename_i h4
  all_goals simp only [decide_eq_true_eq, decide_eq_false_iff_not] at h4
  ·conv => whnf
   have hj : j < x0.length := by omega
   have hbj := sumB_one (f := cFact) hj
   have hcj : cFact x0[j] = x0[j].2.length := rfl
   rw [drop_any hj] at hany
   refine ⟨by omega, rows_len rFact_len _, ?_⟩
   conv => whnf
   refine ⟨_, takeN_rp (k := j) rFact_len hj, ?_⟩
   conv => whnf
   cases fl with
   | true =>
    conv => whnf
    exact ⟨m' - 1, by omega, j + 1, _, true, wrap_id (by omega) (by omega), by omega, by rw [hany, Bool.true_or, Bool.true_or], rfl⟩
   | false =>
   conv => whnf
   rw [Bool.false_or] at hany
   generalize hb5 : (x0[j].1 == x1.2.2.1) = b5
   cases b5 with
   | false =>
    conv => whnf
    refine ⟨m' - 1, by omega, j + 1, _, false, wrap_id (by omega) (by omega), by omega, ?_, rfl⟩
    rw [hany, lackP, decide_eq_false (by simpa using hb5), Bool.false_and, Bool.false_or]
   | true =>
   conv => whnf
   refine ⟨_, agree_spec x0[k].2 x1.2.1 x0[j].2 x1.2.2.2 (by omega) (by omega) (by omega) (by omega), .inl rfl, .inl ?_⟩
   conv => whnf
   refine ⟨m' - 1, by omega, j + 1, _, agreeI x0[k].2 x1.2.1 x0[j].2 x1.2.2.2, wrap_id (by omega) (by omega), by omega, ?_, rfl⟩
   rw [hany, lackP, decide_eq_true (p := x0[j].1 = x1.2.2.1) (by simpa using hb5), Bool.true_and]
  ·conv => whnf
   rw [drop_end (by omega), List.any_nil, Bool.or_false] at hany
   rw [hany] at hall
   cases fl with
   | false =>
    conv => whnf
    rw [hall]
    rfl
   | true =>
    conv => whnf
    exact ⟨m - 1, by omega, k + 1, _, wrap_id (by omega) (by omega), by omega, hall, rfl⟩
 ·conv => whnf
  rw [hall, ran_end (by omega)]
  rfl
end Go.Proofs.YtcjdfeafcmfgpaaGreatD
