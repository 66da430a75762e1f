/- Contracts and plain laws of this seat; no condition. -/
import Derived.Test.YtboolngaahifdaaGreatChecked
import Derived.Test.YtboolngaahifdaaGreatQ8
set_option linter.unusedVariables false
set_option linter.unusedSimpArgs false
set_option maxRecDepth 100000
namespace Go.Proofs.YtboolngaahifdaaGreatD
open Go Go.Proofs
def tz : TI := { agg := false, size := 1, bytes := 8, zero := [], elem := none, fields := [], fsz := [], kind := none, str := false, boo := false, fty := [] }
def ti1 : TI := { tz with zero := [Value.nilFunc] }
def ti2 : TI := { tz with zero := [Value.int IntKind.i64 0], kind := some IntKind.i64 }
def ti3 : TI := { tz with zero := [Value.int IntKind.i64 0], kind := some IntKind.i64 }
def ti4 : TI := { tz with bytes := 1, zero := [Value.bool false], boo := true }
def ti5 : TI := { tz with bytes := 1, zero := [Value.int IntKind.u8 0], kind := some IntKind.u8 }
def ti6 : TI := { tz with bytes := 1, zero := [Value.int IntKind.u8 0], kind := some IntKind.u8 }
def ti7 : TI := { tz with agg := true, size := 4, bytes := 24, zero := [Value.int IntKind.i64 0, Value.int IntKind.i64 0, Value.bool false, Value.int IntKind.u8 0], fields := [0, 1, 2, 3], fsz := [1, 1, 1, 1], fty := [2, 3, 4, 6] }
def ti8 : TI := { tz with agg := true, size := 4, bytes := 24, zero := [Value.int IntKind.i64 0, Value.int IntKind.i64 0, Value.bool false, Value.int IntKind.u8 0], fields := [0, 1, 2, 3], fsz := [1, 1, 1, 1], fty := [2, 3, 4, 6] }
def ti9 : TI := { tz with bytes := 16, zero := [Value.string ByteArray.empty], str := true }
def ti10 : TI := { tz with bytes := 16, zero := [Value.string ByteArray.empty], str := true }
def ti11 : TI := { tz with bytes := 16, zero := [Value.string ByteArray.empty], str := true }
def ti12 : TI := { tz with zero := [Value.int IntKind.u64 0], kind := some IntKind.u64 }
def ti13 : TI := { tz with agg := true, size := 2, bytes := 24, zero := [Value.string ByteArray.empty, Value.int IntKind.u64 0], fields := [0, 1], fsz := [1, 1], fty := [9, 12] }
def ti14 : TI := { tz with agg := true, size := 2, bytes := 24, zero := [Value.string ByteArray.empty, Value.int IntKind.u64 0], fields := [0, 1], fsz := [1, 1], fty := [9, 12] }
def ti15 : TI := { tz with zero := [Value.pointer none] }
def ti16 : TI := { tz with zero := [Value.pointer none] }
def ti17 : TI := { tz with zero := [Value.pointer none] }
def ti18 : TI := { tz with agg := true, zero := [Value.pointer none], fields := [0], fsz := [1], fty := [17] }
def ti19 : TI := { tz with agg := true, zero := [Value.pointer none], fields := [0], fsz := [1], fty := [17] }
def ti21 : TI := { tz with bytes := 4, zero := [Value.int IntKind.i32 0], kind := some IntKind.i32 }
def ti22 : TI := { tz with bytes := 24, zero := [Value.slice none 0 0], elem := some 5 }
def ti23 : TI := { tz with zero := [Value.nilFunc] }
def ti24 : TI := { tz with bytes := 24, zero := [Value.slice none 0 0], elem := some 3 }
def ti25 : TI := { tz with agg := true, bytes := 24, zero := [Value.slice none 0 0], fields := [0], fsz := [1], fty := [24] }
def ti26 : TI := { tz with agg := true, bytes := 24, zero := [Value.slice none 0 0], fields := [0], fsz := [1], fty := [24] }
def ti27 : TI := { tz with bytes := 24, zero := [Value.slice none 0 0], elem := some 75 }
def ti28 : TI := { tz with agg := true, size := 2, bytes := 48, zero := [Value.slice none 0 0, Value.slice none 0 0], fields := [0, 1], fsz := [1, 1], fty := [24, 27] }
def ti29 : TI := { tz with agg := true, size := 2, bytes := 48, zero := [Value.slice none 0 0, Value.slice none 0 0], fields := [0, 1], fsz := [1, 1], fty := [24, 27] }
def ti30 : TI := { tz with bytes := 24, zero := [Value.slice none 0 0], elem := some 121 }
def ti32 : TI := { tz with zero := [Value.nilFunc] }
def ti33 : TI := { tz with bytes := 24, zero := [Value.slice none 0 0], elem := some 24 }
def ti34 : TI := { tz with zero := [Value.nilFunc] }
def ti35 : TI := { tz with bytes := 24, zero := [Value.slice none 0 0], elem := some 40 }
def ti36 : TI := { tz with zero := [Value.nilFunc] }
def ti37 : TI := { tz with zero := [Value.nilFunc] }
def ti38 : TI := { tz with zero := [Value.nilFunc] }
def ti39 : TI := { tz with agg := true, size := 2, bytes := 32, zero := [Value.slice none 0 0, Value.int IntKind.i64 0], fields := [0, 1], fsz := [1, 1], fty := [24, 3] }
def ti40 : TI := { tz with agg := true, size := 2, bytes := 32, zero := [Value.slice none 0 0, Value.int IntKind.i64 0], fields := [0, 1], fsz := [1, 1], fty := [24, 3] }
def ti41 : TI := { tz with zero := [Value.nilFunc] }
def ti43 : TI := { tz with zero := [Value.nilFunc] }
def ti45 : TI := { tz with zero := [Value.nilFunc] }
def ti47 : TI := { tz with zero := [Value.nilFunc] }
def ti48 : TI := { tz with zero := [Value.nilFunc] }
def ti49 : TI := { tz with zero := [Value.nilFunc] }
def ti52 : TI := { tz with agg := true, bytes := 24, zero := [Value.slice none 0 0], fields := [0], fsz := [1], fty := [24] }
def ti53 : TI := { tz with bytes := 24, zero := [Value.slice none 0 0], elem := some 167 }
def ti54 : TI := { tz with agg := true, size := 2, bytes := 48, zero := [Value.slice none 0 0, Value.slice none 0 0], fields := [0, 1], fsz := [1, 1], fty := [24, 53] }
def ti55 : TI := { tz with agg := true, size := 2, bytes := 48, zero := [Value.slice none 0 0, Value.slice none 0 0], fields := [0, 1], fsz := [1, 1], fty := [24, 53] }
def ti56 : TI := { tz with zero := [Value.nilFunc] }
def ti57 : TI := { tz with zero := [Value.nilFunc] }
def ti59 : TI := { tz with zero := [Value.nilFunc] }
def ti60 : TI := { tz with zero := [Value.nilFunc] }
def ti61 : TI := { tz with zero := [Value.nilFunc] }
def ti62 : TI := { tz with zero := [Value.nilFunc] }
def ti63 : TI := { tz with zero := [Value.nilFunc] }
def ti64 : TI := { tz with zero := [Value.nilFunc] }
def ti65 : TI := { tz with zero := [Value.nilFunc] }
def ti66 : TI := { tz with zero := [Value.nilFunc] }
def ti67 : TI := { tz with zero := [Value.nilFunc] }
def ti68 : TI := { tz with zero := [Value.nilFunc] }
def ti69 : TI := { tz with bytes := 24, zero := [Value.slice none 0 0], elem := some 29 }
def ti71 : TI := { tz with zero := [Value.nilFunc] }
def ti73 : TI := { tz with zero := [Value.nilFunc] }
def ti74 : TI := { tz with agg := true, size := 2, bytes := 32, zero := [Value.int IntKind.i64 0, Value.slice none 0 0], fields := [0, 1], fsz := [1, 1], fty := [3, 24] }
def ti75 : TI := { tz with agg := true, size := 2, bytes := 32, zero := [Value.int IntKind.i64 0, Value.slice none 0 0], fields := [0, 1], fsz := [1, 1], fty := [3, 24] }
def ti81 : TI := { tz with zero := [Value.nilFunc] }
def ti85 : TI := { tz with zero := [Value.nilFunc] }
def ti88 : TI := { tz with zero := [Value.nilFunc] }
def ti89 : TI := { tz with zero := [Value.nilFunc] }
def ti90 : TI := { tz with zero := [Value.nilFunc] }
def ti93 : TI := { tz with zero := [Value.nilFunc] }
def ti94 : TI := { tz with zero := [Value.pointer none] }
def ti97 : TI := { tz with agg := true, size := 20, bytes := 160, zero := [Value.int IntKind.i64 0, Value.int IntKind.i64 0, Value.int IntKind.i64 0, Value.int IntKind.i64 0, Value.int IntKind.i64 0, Value.int IntKind.i64 0, Value.int IntKind.i64 0, Value.int IntKind.i64 0, Value.int IntKind.i64 0, Value.int IntKind.i64 0, Value.int IntKind.i64 0, Value.int IntKind.i64 0, Value.int IntKind.i64 0, Value.int IntKind.i64 0, Value.int IntKind.i64 0, Value.int IntKind.i64 0, Value.int IntKind.i64 0, Value.int IntKind.i64 0, Value.int IntKind.i64 0, Value.int IntKind.i64 0], fsz := [20, 3] }
def ti98 : TI := { tz with agg := true, size := 20, bytes := 20, zero := [Value.bool false, Value.bool false, Value.bool false, Value.bool false, Value.bool false, Value.bool false, Value.bool false, Value.bool false, Value.bool false, Value.bool false, Value.bool false, Value.bool false, Value.bool false, Value.bool false, Value.bool false, Value.bool false, Value.bool false, Value.bool false, Value.bool false, Value.bool false], fsz := [20, 4] }
def ti100 : TI := { tz with agg := true, size := 40, bytes := 184, zero := [Value.int IntKind.i64 0, Value.int IntKind.i64 0, Value.int IntKind.i64 0, Value.int IntKind.i64 0, Value.int IntKind.i64 0, Value.int IntKind.i64 0, Value.int IntKind.i64 0, Value.int IntKind.i64 0, Value.int IntKind.i64 0, Value.int IntKind.i64 0, Value.int IntKind.i64 0, Value.int IntKind.i64 0, Value.int IntKind.i64 0, Value.int IntKind.i64 0, Value.int IntKind.i64 0, Value.int IntKind.i64 0, Value.int IntKind.i64 0, Value.int IntKind.i64 0, Value.int IntKind.i64 0, Value.int IntKind.i64 0, Value.bool false, Value.bool false, Value.bool false, Value.bool false, Value.bool false, Value.bool false, Value.bool false, Value.bool false, Value.bool false, Value.bool false, Value.bool false, Value.bool false, Value.bool false, Value.bool false, Value.bool false, Value.bool false, Value.bool false, Value.bool false, Value.bool false, Value.bool false], fields := [0, 20], fsz := [20, 20], fty := [97, 98] }
def ti101 : TI := { tz with zero := [Value.nilFunc] }
def ti102 : TI := { tz with zero := [Value.nilFunc] }
def ti103 : TI := { tz with zero := [Value.nilFunc] }
def ti106 : TI := { tz with zero := [Value.nilFunc] }
def ti108 : TI := { tz with zero := [Value.nilFunc] }
def ti111 : TI := { tz with zero := [Value.nilFunc] }
def ti112 : TI := { tz with zero := [Value.nilFunc] }
def ti119 : TI := { tz with zero := [Value.nilFunc] }
def ti121 : TI := { tz with agg := true, size := 2, bytes := 32, zero := [Value.int IntKind.i64 0, Value.slice none 0 0], fields := [0, 1], fsz := [1, 1], fty := [3, 24] }
def ti122 : TI := { tz with zero := [Value.nilFunc] }
def ti126 : TI := { tz with zero := [Value.nilFunc] }
def ti128 : TI := { tz with zero := [Value.nilFunc] }
def ti129 : TI := { tz with zero := [Value.nilFunc] }
def ti131 : TI := { tz with zero := [Value.nilFunc] }
def ti133 : TI := { tz with zero := [Value.nilFunc] }
def ti139 : TI := { tz with zero := [Value.nilFunc] }
def ti141 : TI := { tz with zero := [Value.nilFunc] }
def ti142 : TI := { tz with zero := [Value.nilFunc] }
def ti143 : TI := { tz with zero := [Value.nilFunc] }
def ti148 : TI := { tz with zero := [Value.nilFunc] }
def ti150 : TI := { tz with agg := true, size := 3, bytes := 40, zero := [Value.slice none 0 0, Value.int IntKind.i64 0, Value.int IntKind.i64 0], fields := [0, 1, 2], fsz := [1, 1, 1], fty := [22, 3, 3] }
def ti152 : TI := { tz with zero := [Value.nilFunc] }
def ti155 : TI := { tz with zero := [Value.nilFunc] }
def ti157 : TI := { tz with zero := [Value.int IntKind.u64 0], kind := some IntKind.u64 }
def ti160 : TI := { tz with zero := [Value.nilFunc] }
def ti161 : TI := { tz with zero := [Value.pointer none] }
def ti164 : TI := { tz with zero := [Value.nilFunc] }
def ti167 : TI := { tz with agg := true, size := 2, bytes := 32, zero := [Value.int IntKind.i64 0, Value.slice none 0 0], fields := [0, 1], fsz := [1, 1], fty := [3, 24] }
def ti168 : TI := { tz with zero := [Value.nilFunc] }
def ti169 : TI := { tz with zero := [Value.nilFunc] }
def ti178 : TI := { tz with zero := [Value.nilFunc] }
def ti183 : TI := { tz with zero := [Value.nilFunc] }
def ti185 : TI := { tz with zero := [Value.int IntKind.i64 0], kind := some IntKind.i64 }
def ti192 : TI := { tz with zero := [Value.nilFunc] }
def ti193 : TI := { tz with bytes := 4, zero := [Value.int IntKind.u32 0], kind := some IntKind.u32 }
def ti195 : TI := { tz with zero := [Value.int IntKind.u64 0], kind := some IntKind.u64 }
def ti197 : TI := { tz with zero := [Value.pointer none] }
def ti202 : TI := { tz with zero := [Value.nilFunc] }
def ti205 : TI := { tz with bytes := 24, zero := [Value.slice none 0 0], elem := some 4 }
def ti206 : TI := { tz with zero := [Value.pointer none] }
def ti207 : TI := { tz with zero := [Value.pointer none] }
def ti209 : TI := { tz with zero := [Value.int IntKind.u64 0], kind := some IntKind.u64 }
def ti213 : TI := { tz with zero := [Value.pointer none] }
def ti220 : TI := { tz with zero := [Value.nilFunc] }
def ti222 : TI := { tz with zero := [Value.map none], fsz := [1] }
def ti225 : TI := { tz with zero := [Value.nilFunc] }
def ti226 : TI := { tz with zero := [Value.pointer none] }
def ti239 : TI := { tz with bytes := 1, zero := [Value.int IntKind.u8 0], kind := some IntKind.u8 }
def ti240 : TI := { tz with bytes := 1, zero := [Value.int IntKind.u8 0], kind := some IntKind.u8 }
def ti241 : TI := { tz with zero := [Value.nilFunc] }
def ti242 : TI := { tz with zero := [Value.pointer none] }
def ti243 : TI := { tz with bytes := 4, zero := [Value.int IntKind.i32 0], kind := some IntKind.i32 }
def ti244 : TI := { tz with bytes := 4, zero := [Value.int IntKind.i32 0], kind := some IntKind.i32 }
def ti245 : TI := { tz with agg := true, size := 11, bytes := 48, zero := [Value.int IntKind.u64 0, Value.int IntKind.u64 0, Value.int IntKind.u32 0, Value.int IntKind.u8 0, Value.int IntKind.u8 0, Value.int IntKind.u8 0, Value.int IntKind.u8 0, Value.nilFunc, Value.pointer none, Value.int IntKind.i32 0, Value.int IntKind.i32 0], fields := [0, 1, 2, 3, 4, 5, 6, 7, 8, 9, 10], fsz := [1, 1, 1, 1, 1, 1, 1, 1, 1, 1, 1], fty := [12, 12, 193, 239, 5, 5, 240, 241, 242, 243, 244] }
def tis : List (Nat × TI) := [(1, ti1), (2, ti2), (3, ti3), (4, ti4), (5, ti5), (6, ti6), (7, ti7), (8, ti8), (9, ti9), (10, ti10), (11, ti11), (12, ti12), (13, ti13), (14, ti14), (15, ti15), (16, ti16), (17, ti17), (18, ti18), (19, ti19), (21, ti21), (22, ti22), (23, ti23), (24, ti24), (25, ti25), (26, ti26), (27, ti27), (28, ti28), (29, ti29), (30, ti30), (32, ti32), (33, ti33), (34, ti34), (35, ti35), (36, ti36), (37, ti37), (38, ti38), (39, ti39), (40, ti40), (41, ti41), (43, ti43), (45, ti45), (47, ti47), (48, ti48), (49, ti49), (52, ti52), (53, ti53), (54, ti54), (55, ti55), (56, ti56), (57, ti57), (59, ti59), (60, ti60), (61, ti61), (62, ti62), (63, ti63), (64, ti64), (65, ti65), (66, ti66), (67, ti67), (68, ti68), (69, ti69), (71, ti71), (73, ti73), (74, ti74), (75, ti75), (81, ti81), (85, ti85), (88, ti88), (89, ti89), (90, ti90), (93, ti93), (94, ti94), (97, ti97), (98, ti98), (100, ti100), (101, ti101), (102, ti102), (103, ti103), (106, ti106), (108, ti108), (111, ti111), (112, ti112), (119, ti119), (121, ti121), (122, ti122), (126, ti126), (128, ti128), (129, ti129), (131, ti131), (133, ti133), (139, ti139), (141, ti141), (142, ti142), (143, ti143), (148, ti148), (150, ti150), (152, ti152), (155, ti155), (157, ti157), (160, ti160), (161, ti161), (164, ti164), (167, ti167), (168, ti168), (169, ti169), (178, ti178), (183, ti183), (185, ti185), (192, ti192), (193, ti193), (195, ti195), (197, ti197), (202, ti202), (205, ti205), (206, ti206), (207, ti207), (209, ti209), (213, ti213), (220, ti220), (222, ti222), (225, ti225), (226, ti226), (239, ti239), (240, ti240), (241, ti241), (242, ti242), (243, ti243), (244, ti244), (245, ti245)]
def Γ : Tab := a15 tis
set_option maxRecDepth 100000 in
theorem aJ : fD Tryz.prog Γ := TR (by
 simp only [tis, List.forall_mem_cons, List.not_mem_nil, false_implies, implies_true, and_true]
 refine ⟨?_, ?_, ?_, ?_, ?_, ?_, ?_, ?_, ?_, ?_, ?_, ?_, ?_, ?_, ?_, ?_, ?_, ?_, ?_, ?_, ?_, ?_, ?_, ?_, ?_, ?_, ?_, ?_, ?_, ?_, ?_, ?_, ?_, ?_, ?_, ?_, ?_, ?_, ?_, ?_, ?_, ?_, ?_, ?_, ?_, ?_, ?_, ?_, ?_, ?_, ?_, ?_, ?_, ?_, ?_, ?_, ?_, ?_, ?_, ?_, ?_, ?_, ?_, ?_, ?_, ?_, ?_, ?_, ?_, ?_, ?_, ?_, ?_, ?_, ?_, ?_, ?_, ?_, ?_, ?_, ?_, ?_, ?_, ?_, ?_, ?_, ?_, ?_, ?_, ?_, ?_, ?_, ?_, ?_, ?_, ?_, ?_, ?_, ?_, ?_, ?_, ?_, ?_, ?_, ?_, ?_, ?_, ?_, ?_, ?_, ?_, ?_, ?_, ?_, ?_, ?_, ?_, ?_, ?_, ?_, ?_, ?_, ?_, ?_, ?_, ?_, ?_, ?_, ?_⟩ <;> kernel_rfl)
theorem mx : Tryz.prog.follows .mixedOrders = true := by kernel_rfl
theorem IT {α : Type} {f : α → List V} {d : α} {z : List V} (h : f d = z) : ∀ n : Nat, o7 n z = aB f (List.replicate n d)
 | 0 => rfl
 | n + 1 => by simp only [o7, List.replicate_succ, aB, h, IT h n]
def sz1 (n : Nat) (left : Int) : Int := if left - n < 0 then -1 else left - n
end Go.Proofs.YtboolngaahifdaaGreatD
namespace Go.Proofs.YtboolngaahifdaaGreatD
open Go Go.Proofs
section
variable {α : Type}
def bS (f : α → Nat) : List α → Nat
 | [] => 0
 | x :: xs => f x + bS f xs
theorem TP {f : α → Nat} : ∀ {xs : List α} {k : Nat} (hk : k < xs.length), bS f (xs.take (k + 1)) = bS f (xs.take k) + f xs[k]
 | x :: xs, 0, _ => by simp [bS]
 | x :: xs, k + 1, hk => by
  have := TP (f := f) (xs := xs) (k := k) (by simpa using hk)
  simp only [List.take_succ_cons, bS, List.getElem_cons_succ] at this ⊢
  omega
theorem qO {f : α → Nat} : ∀ (xs : List α) (k : Nat), bS f (xs.take k) ≤ bS f xs
 | [], k => by simp
 | x :: xs, 0 => by simp [bS]
 | x :: xs, k + 1 => by have := qO (f := f) xs k; simp only [List.take_succ_cons, bS]; omega
theorem a13 {f : α → Nat} {xs : List α} {k : Nat} (hk : k < xs.length) : bS f (xs.take k) + f xs[k] ≤ bS f xs := by
 rw [← TP hk]; exact qO xs _
theorem bH {f : α → Nat} {xs : List α} {k : Nat} (hk : k < xs.length) : f xs[k] ≤ bS f xs := by have := a13 (f := f) hk; omega
theorem P5 {e c : α → Nat} (h : ∀ x, e x ≤ 2 + 4 * c x) : ∀ xs : List α, bS e xs ≤ 2 * xs.length + 4 * bS c xs
 | [] => by simp [bS]
 | x :: xs => by
  have h1 := h x
  have h2 := P5 h xs
  simp only [bS, List.length_cons]
  omega
theorem eP {f : α → List V} {n : Nat} (h : ∀ x, (f x).length = n) {xs : List α} {k d o : Nat} {v : V} (ho : o = k * n + d) (hk : k < xs.length) (hd : (f xs[k])[d]? = some v) : (aB f xs)[o]? = some v := by
 subst ho
 have hdn : d < n := by rw [← h xs[k]]; exact (List.getElem?_eq_some_iff.1 hd).1
 rw [← List.getElem?_drop, rE h xs k hk, List.getElem?_append_left (by rw [h]; exact hdn)]
 exact hd
theorem yJ {f : α → List V} {n : Nat} (h : ∀ x, (f x).length = n) {xs : List α} {k d o : Nat} {v : V} {y : α} (ho : o = k * n + d) (hk : k < xs.length) (hy : f y = (f xs[k]).set d v) (hd : d < n) : (aB f xs).set o v = aB f (xs.set k y) := by
 subst ho
 have hn : n ≠ 0 := by omega
 rw [← iO h hn hk y]
 apply List.ext_getElem?
 intro i
 have hmul : (k + 1) * n ≤ xs.length * n := Nat.mul_le_mul_right _ hk
 rw [Nat.succ_mul] at hmul
 have hlen := a6 h xs
 rw [List.getElem?_set, iB (by rw [h]; omega), h]
 by_cases hi : k * n + d = i
 ·subst hi
  rw [if_pos rfl, if_pos (by omega), if_pos (by omega), hy, show k * n + d - k * n = d from by omega, List.getElem?_set, if_pos rfl, if_pos (by rw [h]; exact hd)]
 ·rw [if_neg hi]
  by_cases hin : k * n ≤ i ∧ i < k * n + n
  ·rw [if_pos hin, hy, List.getElem?_set, if_neg (by omega)]
   obtain ⟨q, rfl⟩ : ∃ q, i = k * n + q := ⟨i - k * n, by omega⟩
   rw [show k * n + q - k * n = q from by omega, ← List.getElem?_drop, rE h xs k hk, List.getElem?_append_left (by rw [h]; omega)]
  ·rw [if_neg hin]
end
theorem fU {v : V} (h : fT v = true) : ∀ c ∈ [v], fT c = true := fun c hc => by
 simp only [List.mem_singleton] at hc
 rw [hc]; exact h
theorem f5 (xs : List Int) : ∀ c ∈ aB ciL xs, eU c = true := D2 (fun x c hc => by simp only [ciL, List.mem_singleton] at hc; rw [hc]; rfl) xs
theorem dC (xs : List Int) (x : Int) : aB ciL xs ++ [ci x] = aB ciL (xs ++ [x]) := by rw [fH]; rfl
theorem jO (xs ys : List Int) : aB ciL xs ++ aB ciL ys = aB ciL (xs ++ ys) := (fH ciL ys xs).symm
theorem lE {α β : Type} {f : α → List β} {xs : List α} {k : Nat} (hk : k < xs.length) : (xs.take (k + 1)).flatMap f = (xs.take k).flatMap f ++ f xs[k] := by
 rw [List.take_succ_eq_append_getElem hk, List.flatMap_append]
 simp
theorem k7 {α β : Type} {f : α → List β} {c : α → Nat} (h : ∀ x, (f x).length = c x) : ∀ xs : List α, (xs.flatMap f).length = bS c xs
 | [] => rfl
 | x :: xs => by simp only [List.flatMap_cons, List.length_append, h, k7 h xs, bS]
theorem kN {α : Type} {p : α → Bool} {xs : List α} {k : Nat} (hk : k < xs.length) : (xs.drop k).all p = (p xs[k] && (xs.drop (k + 1)).all p) := by
 rw [List.drop_eq_getElem_cons hk]
 rfl
theorem xF {α : Type} {p : α → Bool} {xs : List α} {k : Nat} (hk : k < xs.length) : (xs.drop k).any p = (p xs[k] || (xs.drop (k + 1)).any p) := by
 rw [List.drop_eq_getElem_cons hk]
 rfl
theorem bG {α : Type} {xs : List α} {k : Nat} (hk : xs.length ≤ k) : xs.drop k = [] := List.drop_eq_nil_of_le hk
theorem cK (xs : List Int) : dM (aB ciL xs) = aB ciL xs := bF (fun _ => rfl) xs
end Go.Proofs.YtboolngaahifdaaGreatD
namespace Go.Proofs.YtboolngaahifdaaGreatD
open Go Go.Proofs
theorem RX (x : Int) : roV (ci x) = ci x := rfl
theorem fW (x : List Int) : roV (bE x) = aW x := by simp only [bE, aW, roV, cK]
def LD (x : (List Int)) : List V := [aW (x)]
def LV (x : (List Int)) : List V := [bE (x)]
def aV (x : (List Int)) : V := .agg (LD x)
def CZ (x : (List Int)) : V := .agg (LV x)
theorem RB (x : (List Int)) : dM (LV x) = LD x := by
 simp only [LV, LD, dM, fW]
theorem lR (x : (List Int)) : roV (CZ x) = aV x := by simp only [CZ, aV, roV, RB]
def cT (x : (List Int)) : Nat := (x).length
def d7 (x : (Int × (List Int))) : List V := [ci (x.1), aW (x.2)]
def bY (x : (Int × (List Int))) : List V := [ci (x.1), bE (x.2)]
def GF (x : (Int × (List Int))) : V := .agg (d7 x)
def a3Q (x : (Int × (List Int))) : V := .agg (bY x)
theorem aA (x : (Int × (List Int))) : (d7 x).length = 2 := rfl
theorem aK (x : (Int × (List Int))) : (bY x).length = 2 := rfl
theorem jF (x : (Int × (List Int))) : dM (bY x) = d7 x := by
 simp only [bY, d7, dM, RX, fW]
def b9 (x : (Int × (List Int))) : Nat := (x.2).length
def HZ (x : (Int × (List Int))) : Nat := 1 + (x.2).length
theorem JS (x : (Int × (List Int))) : f7 (bY x) := ⟨trivial, dG (f := ciL) (fun _ => ⟨trivial, trivial⟩) _, trivial⟩
theorem WT (x : (Int × (List Int))) : HZ x ≤ 2 + 4 * b9 x := by
 unfold HZ b9
 omega
def cE (xs : (List (Int × (List Int)))) : V := .ro xs.length (aB d7 xs)
def wW (xs : (List (Int × (List Int)))) : V := .tr 2 xs.length (aB bY xs)
theorem VR (xs : (List (Int × (List Int)))) : roV (wW xs) = cE xs := by simp only [wW, cE, roV, bF jF]
def dW (xs : (List (Int × (List Int)))) : Nat := xs.length + bS b9 xs
theorem GR (xs : (List (Int × (List Int)))) : pD (wW xs) := dG (f := bY) JS xs
def aO (x : ((List Int) × (List (Int × (List Int))))) : List V := [aW (x.1), cE (x.2)]
def AN (x : ((List Int) × (List (Int × (List Int))))) : List V := [bE (x.1), wW (x.2)]
def aP (x : ((List Int) × (List (Int × (List Int))))) : V := .agg (aO x)
def cC (x : ((List Int) × (List (Int × (List Int))))) : V := .agg (AN x)
theorem VO (x : ((List Int) × (List (Int × (List Int))))) : dM (AN x) = aO x := by
 simp only [AN, aO, dM, fW, VR]
theorem cW (x : ((List Int) × (List (Int × (List Int))))) : roV (cC x) = aP x := by simp only [cC, aP, roV, VO]
def aC (x : ((List Int) × (List (Int × (List Int))))) : Nat := (x.1).length + dW (x.2)
theorem GQ (x : ((List Int) × (List (Int × (List Int))))) : f7 (AN x) := ⟨dG (f := ciL) (fun _ => ⟨trivial, trivial⟩) _, GR _, trivial⟩
theorem gM (x : ((List Int) × (List (Int × (List Int))))) : pD (cC x) := GQ x
def vN (x : (Int × (List Int))) : List V := [ci (x.1), aW (x.2)]
def cF (x : (Int × (List Int))) : List V := [ci (x.1), bE (x.2)]
def mI (x : (Int × (List Int))) : V := .agg (vN x)
def BX (x : (Int × (List Int))) : V := .agg (cF x)
theorem aS (x : (Int × (List Int))) : (vN x).length = 2 := rfl
theorem aT (x : (Int × (List Int))) : (cF x).length = 2 := rfl
theorem dL (x : (Int × (List Int))) : dM (cF x) = vN x := by
 simp only [cF, vN, dM, RX, fW]
theorem ZC (x : (Int × (List Int))) : roV (BX x) = mI x := by simp only [BX, mI, roV, dL]
def eF (x : (Int × (List Int))) : Nat := (x.2).length
theorem JT (x : (Int × (List Int))) : f7 (cF x) := ⟨trivial, dG (f := ciL) (fun _ => ⟨trivial, trivial⟩) _, trivial⟩
def eT (x : ((List Int) × Int)) : List V := [aW (x.1), ci (x.2)]
def cL (x : ((List Int) × Int)) : List V := [bE (x.1), ci (x.2)]
def PD (x : ((List Int) × Int)) : V := .agg (eT x)
theorem bW (x : ((List Int) × Int)) : (eT x).length = 2 := rfl
theorem d4 (x : ((List Int) × Int)) : (cL x).length = 2 := rfl
theorem P7 (x : ((List Int) × Int)) : dM (cL x) = eT x := by
 simp only [cL, eT, dM, RX, fW]
def fS (x : ((List Int) × Int)) : Nat := (x.1).length
def c7 (xs : (List (Int × (List Int)))) : V := .ro xs.length (aB vN xs)
def fP (xs : (List (Int × (List Int)))) : V := .tr 2 xs.length (aB cF xs)
theorem AR (xs : (List (Int × (List Int)))) : roV (fP xs) = c7 xs := by simp only [fP, c7, roV, bF dL]
def d6 (xs : (List (Int × (List Int)))) : Nat := xs.length + bS eF xs
theorem fK (xs : (List (Int × (List Int)))) : pD (fP xs) := dG (f := cF) JT xs
def aY (xs : (List ((List Int) × Int))) : V := .ro xs.length (aB eT xs)
def JE (xs : (List ((List Int) × Int))) : V := .tr 2 xs.length (aB cL xs)
theorem rQ (xs : (List ((List Int) × Int))) : roV (JE xs) = aY xs := by simp only [JE, aY, roV, bF P7]
def cJ (xs : (List ((List Int) × Int))) : Nat := xs.length + bS fS xs
end Go.Proofs.YtboolngaahifdaaGreatD
