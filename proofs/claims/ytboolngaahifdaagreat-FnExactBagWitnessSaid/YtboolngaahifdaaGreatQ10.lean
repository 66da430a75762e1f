/- Contracts and plain laws of this seat; no condition. -/
import Derived.Test.YtboolngaahifdaaGreatChecked
import Derived.Test.YtboolngaahifdaaGreatQ8
set_option linter.unusedVariables false
set_option linter.unusedSimpArgs false
namespace Go.Proofs.YtboolngaahifdaaGreatD
open Go Go.Proofs
def tz : TI := { agg := false, size := 1, bytes := 8, zero := [], elem := none, fields := [], fsz := [], kind := none, str := false, boo := false, fty := [] }
def ti1 : TI := { tz with zero := [Value.nilFunc] }
def ti2 : TI := { tz with zero := [Value.int IntKind.i64 0], kind := some IntKind.i64 }
def ti3 : TI := { tz with zero := [Value.int IntKind.i64 0], kind := some IntKind.i64 }
def ti4 : TI := { tz with bytes := 1, zero := [Value.bool false], boo := true }
def ti5 : TI := { tz with bytes := 1, zero := [Value.int IntKind.u8 0], kind := some IntKind.u8 }
def ti6 : TI := { tz with bytes := 1, zero := [Value.int IntKind.u8 0], kind := some IntKind.u8 }
def ti7 : TI := { tz with agg := true, size := 4, bytes := 24, zero := [Value.int IntKind.i64 0, Value.int IntKind.i64 0, Value.bool false, Value.int IntKind.u8 0], fields := [0, 1, 2, 3], fsz := [1, 1, 1, 1], fty := [2, 3, 4, 6] }
def ti8 : TI := { tz with agg := true, size := 4, bytes := 24, zero := [Value.int IntKind.i64 0, Value.int IntKind.i64 0, Value.bool false, Value.int IntKind.u8 0], fields := [0, 1, 2, 3], fsz := [1, 1, 1, 1], fty := [2, 3, 4, 6] }
def ti9 : TI := { tz with bytes := 16, zero := [Value.string ByteArray.empty], str := true }
def ti10 : TI := { tz with bytes := 16, zero := [Value.string ByteArray.empty], str := true }
def ti11 : TI := { tz with bytes := 16, zero := [Value.string ByteArray.empty], str := true }
def ti12 : TI := { tz with zero := [Value.int IntKind.u64 0], kind := some IntKind.u64 }
def ti13 : TI := { tz with agg := true, size := 2, bytes := 24, zero := [Value.string ByteArray.empty, Value.int IntKind.u64 0], fields := [0, 1], fsz := [1, 1], fty := [9, 12] }
def ti14 : TI := { tz with agg := true, size := 2, bytes := 24, zero := [Value.string ByteArray.empty, Value.int IntKind.u64 0], fields := [0, 1], fsz := [1, 1], fty := [9, 12] }
def ti15 : TI := { tz with zero := [Value.pointer none] }
def ti16 : TI := { tz with zero := [Value.pointer none] }
def ti17 : TI := { tz with zero := [Value.pointer none] }
def ti18 : TI := { tz with agg := true, zero := [Value.pointer none], fields := [0], fsz := [1], fty := [17] }
def ti19 : TI := { tz with agg := true, zero := [Value.pointer none], fields := [0], fsz := [1], fty := [17] }
def ti21 : TI := { tz with bytes := 4, zero := [Value.int IntKind.i32 0], kind := some IntKind.i32 }
def ti22 : TI := { tz with bytes := 24, zero := [Value.slice none 0 0], elem := some 5 }
def ti23 : TI := { tz with zero := [Value.nilFunc] }
def ti24 : TI := { tz with bytes := 24, zero := [Value.slice none 0 0], elem := some 3 }
def ti25 : TI := { tz with agg := true, bytes := 24, zero := [Value.slice none 0 0], fields := [0], fsz := [1], fty := [24] }
def ti26 : TI := { tz with agg := true, bytes := 24, zero := [Value.slice none 0 0], fields := [0], fsz := [1], fty := [24] }
def ti27 : TI := { tz with bytes := 24, zero := [Value.slice none 0 0], elem := some 75 }
def ti28 : TI := { tz with agg := true, size := 2, bytes := 48, zero := [Value.slice none 0 0, Value.slice none 0 0], fields := [0, 1], fsz := [1, 1], fty := [24, 27] }
def ti29 : TI := { tz with agg := true, size := 2, bytes := 48, zero := [Value.slice none 0 0, Value.slice none 0 0], fields := [0, 1], fsz := [1, 1], fty := [24, 27] }
def ti30 : TI := { tz with bytes := 24, zero := [Value.slice none 0 0], elem := some 121 }
def ti32 : TI := { tz with zero := [Value.nilFunc] }
def ti33 : TI := { tz with bytes := 24, zero := [Value.slice none 0 0], elem := some 24 }
def ti34 : TI := { tz with zero := [Value.nilFunc] }
def ti35 : TI := { tz with bytes := 24, zero := [Value.slice none 0 0], elem := some 40 }
def ti36 : TI := { tz with zero := [Value.nilFunc] }
def ti37 : TI := { tz with zero := [Value.nilFunc] }
def ti38 : TI := { tz with zero := [Value.nilFunc] }
def ti39 : TI := { tz with agg := true, size := 2, bytes := 32, zero := [Value.slice none 0 0, Value.int IntKind.i64 0], fields := [0, 1], fsz := [1, 1], fty := [24, 3] }
def ti40 : TI := { tz with agg := true, size := 2, bytes := 32, zero := [Value.slice none 0 0, Value.int IntKind.i64 0], fields := [0, 1], fsz := [1, 1], fty := [24, 3] }
def ti41 : TI := { tz with zero := [Value.nilFunc] }
def ti43 : TI := { tz with zero := [Value.nilFunc] }
def ti45 : TI := { tz with zero := [Value.nilFunc] }
def ti47 : TI := { tz with zero := [Value.nilFunc] }
def ti48 : TI := { tz with zero := [Value.nilFunc] }
def ti49 : TI := { tz with zero := [Value.nilFunc] }
def ti52 : TI := { tz with agg := true, bytes := 24, zero := [Value.slice none 0 0], fields := [0], fsz := [1], fty := [24] }
def ti53 : TI := { tz with bytes := 24, zero := [Value.slice none 0 0], elem := some 167 }
def ti54 : TI := { tz with agg := true, size := 2, bytes := 48, zero := [Value.slice none 0 0, Value.slice none 0 0], fields := [0, 1], fsz := [1, 1], fty := [24, 53] }
def ti55 : TI := { tz with agg := true, size := 2, bytes := 48, zero := [Value.slice none 0 0, Value.slice none 0 0], fields := [0, 1], fsz := [1, 1], fty := [24, 53] }
def ti56 : TI := { tz with zero := [Value.nilFunc] }
def ti59 : TI := { tz with zero := [Value.nilFunc] }
def ti60 : TI := { tz with zero := [Value.nilFunc] }
def ti62 : TI := { tz with zero := [Value.nilFunc] }
def ti63 : TI := { tz with zero := [Value.nilFunc] }
def ti64 : TI := { tz with zero := [Value.nilFunc] }
def ti65 : TI := { tz with zero := [Value.nilFunc] }
def ti66 : TI := { tz with zero := [Value.nilFunc] }
def ti67 : TI := { tz with zero := [Value.nilFunc] }
def ti69 : TI := { tz with bytes := 24, zero := [Value.slice none 0 0], elem := some 29 }
def ti71 : TI := { tz with zero := [Value.nilFunc] }
def ti74 : TI := { tz with agg := true, size := 2, bytes := 32, zero := [Value.int IntKind.i64 0, Value.slice none 0 0], fields := [0, 1], fsz := [1, 1], fty := [3, 24] }
def ti75 : TI := { tz with agg := true, size := 2, bytes := 32, zero := [Value.int IntKind.i64 0, Value.slice none 0 0], fields := [0, 1], fsz := [1, 1], fty := [3, 24] }
def ti81 : TI := { tz with zero := [Value.nilFunc] }
def ti88 : TI := { tz with zero := [Value.nilFunc] }
def ti90 : TI := { tz with zero := [Value.nilFunc] }
def ti97 : TI := { tz with agg := true, size := 20, bytes := 160, zero := [Value.int IntKind.i64 0, Value.int IntKind.i64 0, Value.int IntKind.i64 0, Value.int IntKind.i64 0, Value.int IntKind.i64 0, Value.int IntKind.i64 0, Value.int IntKind.i64 0, Value.int IntKind.i64 0, Value.int IntKind.i64 0, Value.int IntKind.i64 0, Value.int IntKind.i64 0, Value.int IntKind.i64 0, Value.int IntKind.i64 0, Value.int IntKind.i64 0, Value.int IntKind.i64 0, Value.int IntKind.i64 0, Value.int IntKind.i64 0, Value.int IntKind.i64 0, Value.int IntKind.i64 0, Value.int IntKind.i64 0], fsz := [20, 3] }
def ti98 : TI := { tz with agg := true, size := 20, bytes := 20, zero := [Value.bool false, Value.bool false, Value.bool false, Value.bool false, Value.bool false, Value.bool false, Value.bool false, Value.bool false, Value.bool false, Value.bool false, Value.bool false, Value.bool false, Value.bool false, Value.bool false, Value.bool false, Value.bool false, Value.bool false, Value.bool false, Value.bool false, Value.bool false], fsz := [20, 4] }
def ti100 : TI := { tz with agg := true, size := 40, bytes := 184, zero := [Value.int IntKind.i64 0, Value.int IntKind.i64 0, Value.int IntKind.i64 0, Value.int IntKind.i64 0, Value.int IntKind.i64 0, Value.int IntKind.i64 0, Value.int IntKind.i64 0, Value.int IntKind.i64 0, Value.int IntKind.i64 0, Value.int IntKind.i64 0, Value.int IntKind.i64 0, Value.int IntKind.i64 0, Value.int IntKind.i64 0, Value.int IntKind.i64 0, Value.int IntKind.i64 0, Value.int IntKind.i64 0, Value.int IntKind.i64 0, Value.int IntKind.i64 0, Value.int IntKind.i64 0, Value.int IntKind.i64 0, Value.bool false, Value.bool false, Value.bool false, Value.bool false, Value.bool false, Value.bool false, Value.bool false, Value.bool false, Value.bool false, Value.bool false, Value.bool false, Value.bool false, Value.bool false, Value.bool false, Value.bool false, Value.bool false, Value.bool false, Value.bool false, Value.bool false, Value.bool false], fields := [0, 20], fsz := [20, 20], fty := [97, 98] }
def ti101 : TI := { tz with zero := [Value.nilFunc] }
def ti103 : TI := { tz with zero := [Value.nilFunc] }
def ti106 : TI := { tz with zero := [Value.nilFunc] }
def ti108 : TI := { tz with zero := [Value.nilFunc] }
def ti109 : TI := { tz with zero := [Value.nilFunc] }
def ti112 : TI := { tz with zero := [Value.nilFunc] }
def ti115 : TI := { tz with zero := [Value.nilFunc] }
def ti119 : TI := { tz with zero := [Value.nilFunc] }
def ti121 : TI := { tz with agg := true, size := 2, bytes := 32, zero := [Value.int IntKind.i64 0, Value.slice none 0 0], fields := [0, 1], fsz := [1, 1], fty := [3, 24] }
def ti122 : TI := { tz with zero := [Value.nilFunc] }
def ti123 : TI := { tz with zero := [Value.nilFunc] }
def ti126 : TI := { tz with zero := [Value.nilFunc] }
def ti129 : TI := { tz with zero := [Value.nilFunc] }
def ti131 : TI := { tz with zero := [Value.nilFunc] }
def ti141 : TI := { tz with zero := [Value.nilFunc] }
def ti142 : TI := { tz with zero := [Value.nilFunc] }
def ti143 : TI := { tz with zero := [Value.nilFunc] }
def ti148 : TI := { tz with zero := [Value.nilFunc] }
def ti150 : TI := { tz with agg := true, size := 3, bytes := 40, zero := [Value.slice none 0 0, Value.int IntKind.i64 0, Value.int IntKind.i64 0], fields := [0, 1, 2], fsz := [1, 1, 1], fty := [22, 3, 3] }
def ti152 : TI := { tz with zero := [Value.nilFunc] }
def ti155 : TI := { tz with zero := [Value.nilFunc] }
def ti157 : TI := { tz with zero := [Value.int IntKind.u64 0], kind := some IntKind.u64 }
def ti161 : TI := { tz with zero := [Value.pointer none] }
def ti165 : TI := { tz with zero := [Value.nilFunc] }
def ti167 : TI := { tz with agg := true, size := 2, bytes := 32, zero := [Value.int IntKind.i64 0, Value.slice none 0 0], fields := [0, 1], fsz := [1, 1], fty := [3, 24] }
def ti169 : TI := { tz with zero := [Value.nilFunc] }
def ti175 : TI := { tz with zero := [Value.nilFunc] }
def ti178 : TI := { tz with zero := [Value.nilFunc] }
def ti183 : TI := { tz with zero := [Value.nilFunc] }
def ti185 : TI := { tz with zero := [Value.int IntKind.i64 0], kind := some IntKind.i64 }
def ti192 : TI := { tz with zero := [Value.nilFunc] }
def ti193 : TI := { tz with bytes := 4, zero := [Value.int IntKind.u32 0], kind := some IntKind.u32 }
def ti195 : TI := { tz with zero := [Value.int IntKind.u64 0], kind := some IntKind.u64 }
def ti197 : TI := { tz with zero := [Value.pointer none] }
def ti209 : TI := { tz with zero := [Value.int IntKind.u64 0], kind := some IntKind.u64 }
def ti213 : TI := { tz with zero := [Value.pointer none] }
def ti214 : TI := { tz with zero := [Value.nilFunc] }
def ti221 : TI := { tz with zero := [Value.nilFunc] }
def ti226 : TI := { tz with zero := [Value.pointer none] }
def ti235 : TI := { tz with agg := true, size := 0, bytes := 0, fsz := [0, 16] }
def tis : List (Nat × TI) := [(1, ti1), (2, ti2), (3, ti3), (4, ti4), (5, ti5), (6, ti6), (7, ti7), (8, ti8), (9, ti9), (10, ti10), (11, ti11), (12, ti12), (13, ti13), (14, ti14), (15, ti15), (16, ti16), (17, ti17), (18, ti18), (19, ti19), (21, ti21), (22, ti22), (23, ti23), (24, ti24), (25, ti25), (26, ti26), (27, ti27), (28, ti28), (29, ti29), (30, ti30), (32, ti32), (33, ti33), (34, ti34), (35, ti35), (36, ti36), (37, ti37), (38, ti38), (39, ti39), (40, ti40), (41, ti41), (43, ti43), (45, ti45), (47, ti47), (48, ti48), (49, ti49), (52, ti52), (53, ti53), (54, ti54), (55, ti55), (56, ti56), (59, ti59), (60, ti60), (62, ti62), (63, ti63), (64, ti64), (65, ti65), (66, ti66), (67, ti67), (69, ti69), (71, ti71), (74, ti74), (75, ti75), (81, ti81), (88, ti88), (90, ti90), (97, ti97), (98, ti98), (100, ti100), (101, ti101), (103, ti103), (106, ti106), (108, ti108), (109, ti109), (112, ti112), (115, ti115), (119, ti119), (121, ti121), (122, ti122), (123, ti123), (126, ti126), (129, ti129), (131, ti131), (141, ti141), (142, ti142), (143, ti143), (148, ti148), (150, ti150), (152, ti152), (155, ti155), (157, ti157), (161, ti161), (165, ti165), (167, ti167), (169, ti169), (175, ti175), (178, ti178), (183, ti183), (185, ti185), (192, ti192), (193, ti193), (195, ti195), (197, ti197), (209, ti209), (213, ti213), (214, ti214), (221, ti221), (226, ti226), (235, ti235)]
def Γ : Tab := tabL tis
set_option maxRecDepth 100000 in
theorem Γ_ok : TabOk Tryz.prog Γ := tabL_ok (by
 simp only [tis, List.forall_mem_cons, List.not_mem_nil, false_implies, implies_true, and_true]
 refine ⟨?_, ?_, ?_, ?_, ?_, ?_, ?_, ?_, ?_, ?_, ?_, ?_, ?_, ?_, ?_, ?_, ?_, ?_, ?_, ?_, ?_, ?_, ?_, ?_, ?_, ?_, ?_, ?_, ?_, ?_, ?_, ?_, ?_, ?_, ?_, ?_, ?_, ?_, ?_, ?_, ?_, ?_, ?_, ?_, ?_, ?_, ?_, ?_, ?_, ?_, ?_, ?_, ?_, ?_, ?_, ?_, ?_, ?_, ?_, ?_, ?_, ?_, ?_, ?_, ?_, ?_, ?_, ?_, ?_, ?_, ?_, ?_, ?_, ?_, ?_, ?_, ?_, ?_, ?_, ?_, ?_, ?_, ?_, ?_, ?_, ?_, ?_, ?_, ?_, ?_, ?_, ?_, ?_, ?_, ?_, ?_, ?_, ?_, ?_, ?_, ?_, ?_, ?_, ?_, ?_, ?_, ?_⟩ <;> kernel_rfl)
theorem mx : Tryz.prog.follows .mixedOrders = true := by kernel_rfl
theorem repl_rows {α : Type} {f : α → List V} {d : α} {z : List V} (h : f d = z) : ∀ n : Nat, repl n z = rows f (List.replicate n d)
 | 0 => rfl
 | n + 1 => by simp only [repl, List.replicate_succ, rows, h, repl_rows h n]
theorem list_eq {xs ys : List Int} (hl : ys.length = xs.length) (h : ∀ j, j < xs.length → ys[j]? = xs[j]?) : ys = xs := by
 apply List.ext_getElem?
 intro j
 rcases Nat.lt_or_ge j xs.length with h1 | h1
 ·exact h j h1
 ·rw [List.getElem?_eq_none h1, List.getElem?_eq_none (by omega)]
theorem toIntS_spec (xs : List Int) (hl : xs.length ≤ 1099511627776) : Spec Tryz.prog 101 [ints xs] (intsT xs) := by
 refine Spec_of mx Γ_ok Tryz.func101 rfl ?_
 conv => whnf
 refine ⟨by omega, _, repl_rows (f := ciL) (d := 0) rfl _, ?_⟩
 conv => whnf
 refine ⟨[(0,0),(2,0),(3,0),(4,0)], fun m s => ∃ (k : Nat) (e : Int) (ys : List Int) (r : List V), e = k ∧ m + k = xs.length ∧ ys.length = xs.length ∧ (∀ j, j < k → ys[j]? = xs[j]?) ∧ r = rows ciL ys ∧
  s = ⟨22, [(0, ints xs), (2, cnil), (3, .own 0 1 0 xs.length xs.length none), (4, ci e)], [some ⟨false, r⟩]⟩, xs.length, ⟨0, 0, List.replicate xs.length 0, _, rfl, rfl, by simp, by simp, rfl, rfl⟩, ?_⟩
 rintro m s ⟨k, _, ys, _, rfl, hm, hy, hj, rfl, rfl⟩
 conv => whnf
 split <;> rename_i h1
 all_goals simp only [decide_eq_true_eq, decide_eq_false_iff_not] at h1
 ·conv => whnf
  have hk : k < xs.length := by omega
  refine ⟨by omega, rows_len ciL_len xs, ?_⟩
  conv => whnf
  refine ⟨_, takeN_rp (k := k) ciL_len hk, ?_⟩
  conv => whnf
  refine ⟨by omega, ?_⟩
  conv => whnf
  refine ⟨_, takeN_own (k := k) (d := 0) (xs := ys) ciL_len (Nat.zero_add _) (by omega) (Nat.le_refl _) rfl, _, rfl, ?_⟩
  conv => whnf
  refine ⟨m - 1, by omega, k + 1, _, ys.set k xs[k], _, wrap_id (by omega) (by omega), by omega, by simp [hy], ?_, ?_, rfl⟩
  ·intro j hj'
   rw [List.getElem?_set]
   by_cases h2 : k = j
   ·subst h2
    rw [if_pos rfl, if_pos (by omega), List.getElem?_eq_getElem hk]
   ·rw [if_neg h2]
    exact hj j (by omega)
  ·exact (congrArg (fun o => setC (rows ciL ys) o (ciL xs[k])) (Nat.zero_add _)).trans (setC_rows ciL_len (by omega) (by omega) _)
 ·conv => whnf
  refine ⟨by rw [rows_len ciL_len, hy], ?_⟩
  have : ys = xs := list_eq hy fun j h => hj j (by omega)
  rw [this]
  rfl
theorem beq_len {xs ys : List Int} (h : xs.length ≠ ys.length) : (xs == ys) = false := by
 rw [beq_eq_false_iff_ne]
 intro he
 exact h (congrArg List.length he)
theorem eqIntS_spec (xs ys : List Int) (hl : xs.length ≤ 1099511627776) (hl' : ys.length ≤ 1099511627776) : Spec Tryz.prog 109 [ints xs, ints ys] (cb (xs == ys)) := by
 refine Spec_of mx Γ_ok Tryz.func109 rfl ?_
 conv => whnf
 split <;> rename_i h0
 ·conv => whnf
  simp only [bne_iff_ne, ne_eq] at h0
  show cb false = _
  rw [beq_len (by omega)]
 conv => whnf
 have h0' : xs.length = ys.length := by
  have h3 : (xs.length : Int) = ys.length := by simpa using h0
  omega
 refine ⟨[(0,0),(1,0),(4,0),(5,0)], fun m s => ∃ (k : Nat) (e : Int), e = k ∧ m + k = xs.length ∧ (∀ j, j < k → ys[j]? = xs[j]?) ∧
  s = ⟨26, [(0, ints xs), (1, ints ys), (4, cb false), (5, ci e)], []⟩, xs.length, ⟨0, 0, rfl, rfl, by simp, rfl⟩, ?_⟩
 rintro m s ⟨k, _, rfl, hm, hj, rfl⟩
 conv => whnf
 split <;> rename_i h1
 all_goals simp only [decide_eq_true_eq, decide_eq_false_iff_not] at h1
 ·conv => whnf
  have hk : k < xs.length := by omega
  refine ⟨[0,1,2,3,4,5,6,7,8], by kernel_rfl, ?_⟩
  conv => whnf
  refine ⟨by omega, rows_len ciL_len xs, ?_⟩
  conv => whnf
  refine ⟨_, takeN_rp (k := k) ciL_len hk, ?_⟩
  conv => whnf
  refine ⟨by omega, rows_len ciL_len ys, ?_⟩
  conv => whnf
  refine ⟨_, takeN_rp (k := k) ciL_len (by omega), ?_⟩
  conv => whnf
  split <;> rename_i h2
  ·conv => whnf
   show cb false = _
   have : (xs == ys) = false := by
    rw [beq_eq_false_iff_ne]
    rintro rfl
    simp at h2
   rw [this]
  ·conv => whnf
   refine ⟨m - 1, by omega, k + 1, _, wrap_id (by omega) (by omega), by omega, fun j hj' => ?_, rfl⟩
   rcases Nat.lt_succ_iff_lt_or_eq.1 hj' with h | rfl
   ·exact hj j h
   ·rw [List.getElem?_eq_getElem hk, List.getElem?_eq_getElem (by omega)]
    simp at h2
    rw [h2]
 ·conv => whnf
  show cb true = _
  have : ys = xs := list_eq h0'.symm fun j h => hj j (by omega)
  rw [this, beq_self_eq_true]
def sz1 (n : Nat) (left : Int) : Int := if left - n < 0 then -1 else left - n
theorem szIntS_spec (xs : List Int) (left : Int) (hl : xs.length ≤ 9223372036854775807) (h1 : 0 ≤ left) (h2 : left ≤ 1099511627776) : Spec Tryz.prog 96 [ints xs, ci left] (ci (sz1 xs.length left)) := by
 refine Spec_of mx Γ_ok Tryz.func96 rfl ?_
 conv => whnf
 have hw : IntKind.i64.wrap (left - xs.length) = left - xs.length := wrap_id (by omega) (by omega)
 rw [hw]
 split <;> rename_i h0
 all_goals simp only [decide_eq_true_eq, decide_eq_false_iff_not] at h0
 ·conv => whnf
  show ci (-1) = _
  unfold sz1
  rw [if_pos h0]
 ·conv => whnf
  show ci (left - xs.length) = _
  unfold sz1
  rw [if_neg h0]
def mkI : Nat → Int → List Int
 | 0, _ => []
 | n + 1, k => k :: mkI n (k + 1)
theorem mkI_len : ∀ (n : Nat) (k : Int), (mkI n k).length = n
 | 0, _ => rfl
 | n + 1, k => by simp [mkI, mkI_len n]
theorem mkI_get : ∀ (n : Nat) (k : Int) (j : Nat), j < n → (mkI n k)[j]? = some (k + j)
 | n + 1, k, 0, _ => by simp [mkI]
 | n + 1, k, j + 1, h => by
  simp only [mkI, List.getElem?_cons_succ]
  rw [mkI_get n (k + 1) j (by omega)]
  congr 1
  omega
theorem markIntS_spec (xs : List Int) (k : Int) (hl : xs.length ≤ 1099511627776) (h1 : 0 ≤ k) (h2 : k ≤ 4398046511104) : SpecR Tryz.prog 111 [intsT xs, ci k] (ci (k + xs.length)) [intsT (mkI xs.length k), ci k] := by
 refine SpecL_of mx Γ_ok 2 Tryz.func111 rfl rfl (by omega) ?_
 conv => whnf
 refine ⟨[(0,0),(1,0),(4,0),(5,0)], fun m s => ∃ (i : Nat) (e f : Int) (ys : List Int) (r : List V), e = i ∧ f = k + i ∧ m + i = xs.length ∧ ys.length = xs.length ∧ (∀ j, j < i → ys[j]? = some (k + j)) ∧ r = rows ciL ys ∧
  s = ⟨19, [(0, .own 0 1 0 xs.length xs.length none), (1, ci f), (4, ci 0), (5, ci e)], [some ⟨false, r⟩, none]⟩, xs.length, ⟨0, 0, k, xs, _, rfl, by simp, rfl, rfl, by simp, rfl, rfl⟩, ?_⟩
 rintro m s ⟨i, _, _, ys, _, rfl, rfl, hm, hy, hj, rfl, rfl⟩
 conv => whnf
 split <;> rename_i h3
 all_goals simp only [decide_eq_true_eq, decide_eq_false_iff_not] at h3
 ·conv => whnf
  have hi : i < xs.length := by omega
  refine ⟨by omega, ?_⟩
  conv => whnf
  refine ⟨_, takeN_own (k := i) (d := 0) (xs := ys) ciL_len (Nat.zero_add _) (by omega) (Nat.le_refl _) rfl, _, rfl, ?_⟩
  conv => whnf
  refine ⟨m - 1, by omega, i + 1, _, _, ys.set i (k + i), _, wrap_id (by omega) (by omega), ?_, by omega, by simp [hy], fun j hjj => ?_, ?_, rfl⟩
  ·rw [wrap_id (by omega) (by omega)]
   omega
  ·rw [List.getElem?_set]
   by_cases h4 : i = j
   ·subst h4
    rw [if_pos rfl, if_pos (by omega)]
   ·rw [if_neg h4]
    exact hj j (by omega)
  ·exact (congrArg (fun o => setC (rows ciL ys) o (ciL (k + i))) (Nat.zero_add _)).trans (setC_rows ciL_len (by omega) (by omega) _)
 ·conv => whnf
  have hii : i = xs.length := by omega
  subst hii
  refine ⟨rfl, by rw [rows_len ciL_len, hy], ?_⟩
  have : ys = mkI xs.length k := by
   apply List.ext_getElem?
   intro j
   rcases Nat.lt_or_ge j xs.length with h4 | h4
   ·rw [hj j h4, mkI_get _ _ _ h4]
   ·rw [List.getElem?_eq_none (by omega), List.getElem?_eq_none (by rw [mkI_len]; exact h4)]
  rw [this]
  unfold intsT
  rw [mkI_len]
  rfl
theorem heldIntS_spec (n : Nat) (k : Int) (hl : n ≤ 1099511627776) (h1 : 0 ≤ k) (h2 : k ≤ 4398046511104) : Spec Tryz.prog 113 [ints (mkI n k), ci k] (ci (k + n)) := by
 refine Spec_of mx Γ_ok Tryz.func113 rfl ?_
 conv => whnf
 have hn := mkI_len n k
 refine ⟨[(0,0),(1,0),(4,0),(5,0)], fun m s => ∃ (i : Nat) (e f : Int), e = i ∧ f = k + i ∧ m + i = n ∧
  s = ⟨21, [(0, ints (mkI n k)), (1, ci f), (4, ci 0), (5, ci e)], []⟩, n, ⟨0, 0, k, rfl, by simp, rfl, rfl⟩, ?_⟩
 rintro m s ⟨i, _, _, rfl, rfl, hm, rfl⟩
 conv => whnf
 rw [hn]
 split <;> rename_i h3
 all_goals simp only [decide_eq_true_eq, decide_eq_false_iff_not] at h3
 ·conv => whnf
  have hi : i < (mkI n k).length := by omega
  refine ⟨by omega, rows_len ciL_len _, ?_⟩
  conv => whnf
  refine ⟨_, takeN_rp (k := i) ciL_len hi, ?_⟩
  conv => whnf
  have hg : (mkI n k)[i] = k + i := by
   have := mkI_get n k i (by omega)
   rw [List.getElem?_eq_getElem hi] at this
   exact Option.some.inj this
  rw [hg, bne_self_eq_false]
  conv => whnf
  refine ⟨m - 1, by omega, i + 1, _, _, wrap_id (by omega) (by omega), ?_, by omega, rfl⟩
  rw [wrap_id (by omega) (by omega)]
  omega
 ·conv => whnf
  show ci (k + i) = _
  have hii : i = n := by omega
  rw [hii]
end Go.Proofs.YtboolngaahifdaaGreatD
