/- Contracts and plain laws of this seat; no condition. -/
import Derived.Test.YtboolngaahifdaaGreatChecked
import Derived.Test.YtboolngaahifdaaGreatQ8
set_option linter.unusedVariables false
set_option linter.unusedSimpArgs false
set_option maxRecDepth 100000
namespace Go.Proofs.YtboolngaahifdaaGreatD
open Go Go.Proofs
def tz : TI := { agg := false, size := 1, bytes := 8, zero := [], elem := none, fields := [], fsz := [], kind := none, str := false, boo := false, fty := [] }
def ti1 : TI := { tz with zero := [Value.nilFunc] }
def ti2 : TI := { tz with zero := [Value.int IntKind.i64 0], kind := some IntKind.i64 }
def ti3 : TI := { tz with zero := [Value.int IntKind.i64 0], kind := some IntKind.i64 }
def ti4 : TI := { tz with bytes := 1, zero := [Value.bool false], boo := true }
def ti5 : TI := { tz with bytes := 1, zero := [Value.int IntKind.u8 0], kind := some IntKind.u8 }
def ti6 : TI := { tz with bytes := 1, zero := [Value.int IntKind.u8 0], kind := some IntKind.u8 }
def ti7 : TI := { tz with agg := true, size := 4, bytes := 24, zero := [Value.int IntKind.i64 0, Value.int IntKind.i64 0, Value.bool false, Value.int IntKind.u8 0], fields := [0, 1, 2, 3], fsz := [1, 1, 1, 1], fty := [2, 3, 4, 6] }
def ti8 : TI := { tz with agg := true, size := 4, bytes := 24, zero := [Value.int IntKind.i64 0, Value.int IntKind.i64 0, Value.bool false, Value.int IntKind.u8 0], fields := [0, 1, 2, 3], fsz := [1, 1, 1, 1], fty := [2, 3, 4, 6] }
def ti9 : TI := { tz with bytes := 16, zero := [Value.string ByteArray.empty], str := true }
def ti10 : TI := { tz with bytes := 16, zero := [Value.string ByteArray.empty], str := true }
def ti11 : TI := { tz with bytes := 16, zero := [Value.string ByteArray.empty], str := true }
def ti12 : TI := { tz with zero := [Value.int IntKind.u64 0], kind := some IntKind.u64 }
def ti13 : TI := { tz with agg := true, size := 2, bytes := 24, zero := [Value.string ByteArray.empty, Value.int IntKind.u64 0], fields := [0, 1], fsz := [1, 1], fty := [9, 12] }
def ti14 : TI := { tz with agg := true, size := 2, bytes := 24, zero := [Value.string ByteArray.empty, Value.int IntKind.u64 0], fields := [0, 1], fsz := [1, 1], fty := [9, 12] }
def ti15 : TI := { tz with zero := [Value.pointer none] }
def ti16 : TI := { tz with zero := [Value.pointer none] }
def ti17 : TI := { tz with zero := [Value.pointer none] }
def ti18 : TI := { tz with agg := true, zero := [Value.pointer none], fields := [0], fsz := [1], fty := [17] }
def ti19 : TI := { tz with agg := true, zero := [Value.pointer none], fields := [0], fsz := [1], fty := [17] }
def ti21 : TI := { tz with bytes := 4, zero := [Value.int IntKind.i32 0], kind := some IntKind.i32 }
def ti22 : TI := { tz with bytes := 24, zero := [Value.slice none 0 0], elem := some 5 }
def ti23 : TI := { tz with zero := [Value.nilFunc] }
def ti24 : TI := { tz with bytes := 24, zero := [Value.slice none 0 0], elem := some 3 }
def ti25 : TI := { tz with agg := true, bytes := 24, zero := [Value.slice none 0 0], fields := [0], fsz := [1], fty := [24] }
def ti26 : TI := { tz with agg := true, bytes := 24, zero := [Value.slice none 0 0], fields := [0], fsz := [1], fty := [24] }
def ti27 : TI := { tz with bytes := 24, zero := [Value.slice none 0 0], elem := some 75 }
def ti29 : TI := { tz with agg := true, size := 2, bytes := 48, zero := [Value.slice none 0 0, Value.slice none 0 0], fields := [0, 1], fsz := [1, 1], fty := [24, 27] }
def ti30 : TI := { tz with bytes := 24, zero := [Value.slice none 0 0], elem := some 121 }
def ti32 : TI := { tz with zero := [Value.nilFunc] }
def ti33 : TI := { tz with bytes := 24, zero := [Value.slice none 0 0], elem := some 24 }
def ti34 : TI := { tz with zero := [Value.nilFunc] }
def ti35 : TI := { tz with bytes := 24, zero := [Value.slice none 0 0], elem := some 40 }
def ti36 : TI := { tz with zero := [Value.nilFunc] }
def ti37 : TI := { tz with zero := [Value.nilFunc] }
def ti38 : TI := { tz with zero := [Value.nilFunc] }
def ti39 : TI := { tz with agg := true, size := 2, bytes := 32, zero := [Value.slice none 0 0, Value.int IntKind.i64 0], fields := [0, 1], fsz := [1, 1], fty := [24, 3] }
def ti40 : TI := { tz with agg := true, size := 2, bytes := 32, zero := [Value.slice none 0 0, Value.int IntKind.i64 0], fields := [0, 1], fsz := [1, 1], fty := [24, 3] }
def ti41 : TI := { tz with zero := [Value.nilFunc] }
def ti43 : TI := { tz with zero := [Value.nilFunc] }
def ti45 : TI := { tz with zero := [Value.nilFunc] }
def ti47 : TI := { tz with zero := [Value.nilFunc] }
def ti48 : TI := { tz with zero := [Value.nilFunc] }
def ti52 : TI := { tz with agg := true, bytes := 24, zero := [Value.slice none 0 0], fields := [0], fsz := [1], fty := [24] }
def ti53 : TI := { tz with bytes := 24, zero := [Value.slice none 0 0], elem := some 167 }
def ti54 : TI := { tz with agg := true, size := 2, bytes := 48, zero := [Value.slice none 0 0, Value.slice none 0 0], fields := [0, 1], fsz := [1, 1], fty := [24, 53] }
def ti55 : TI := { tz with agg := true, size := 2, bytes := 48, zero := [Value.slice none 0 0, Value.slice none 0 0], fields := [0, 1], fsz := [1, 1], fty := [24, 53] }
def ti56 : TI := { tz with zero := [Value.nilFunc] }
def ti57 : TI := { tz with zero := [Value.nilFunc] }
def ti59 : TI := { tz with zero := [Value.nilFunc] }
def ti60 : TI := { tz with zero := [Value.nilFunc] }
def ti61 : TI := { tz with zero := [Value.nilFunc] }
def ti62 : TI := { tz with zero := [Value.nilFunc] }
def ti63 : TI := { tz with zero := [Value.nilFunc] }
def ti64 : TI := { tz with zero := [Value.nilFunc] }
def ti65 : TI := { tz with zero := [Value.nilFunc] }
def ti66 : TI := { tz with zero := [Value.nilFunc] }
def ti67 : TI := { tz with zero := [Value.nilFunc] }
def ti68 : TI := { tz with zero := [Value.nilFunc] }
def ti71 : TI := { tz with zero := [Value.nilFunc] }
def ti74 : TI := { tz with agg := true, size := 2, bytes := 32, zero := [Value.int IntKind.i64 0, Value.slice none 0 0], fields := [0, 1], fsz := [1, 1], fty := [3, 24] }
def ti75 : TI := { tz with agg := true, size := 2, bytes := 32, zero := [Value.int IntKind.i64 0, Value.slice none 0 0], fields := [0, 1], fsz := [1, 1], fty := [3, 24] }
def ti81 : TI := { tz with zero := [Value.nilFunc] }
def ti86 : TI := { tz with zero := [Value.nilFunc] }
def ti88 : TI := { tz with zero := [Value.nilFunc] }
def ti89 : TI := { tz with zero := [Value.nilFunc] }
def ti90 : TI := { tz with zero := [Value.nilFunc] }
def ti94 : TI := { tz with zero := [Value.pointer none] }
def ti96 : TI := { tz with zero := [Value.nilFunc] }
def ti97 : TI := { tz with agg := true, size := 20, bytes := 160, zero := [Value.int IntKind.i64 0, Value.int IntKind.i64 0, Value.int IntKind.i64 0, Value.int IntKind.i64 0, Value.int IntKind.i64 0, Value.int IntKind.i64 0, Value.int IntKind.i64 0, Value.int IntKind.i64 0, Value.int IntKind.i64 0, Value.int IntKind.i64 0, Value.int IntKind.i64 0, Value.int IntKind.i64 0, Value.int IntKind.i64 0, Value.int IntKind.i64 0, Value.int IntKind.i64 0, Value.int IntKind.i64 0, Value.int IntKind.i64 0, Value.int IntKind.i64 0, Value.int IntKind.i64 0, Value.int IntKind.i64 0], fsz := [20, 3] }
def ti98 : TI := { tz with agg := true, size := 20, bytes := 20, zero := [Value.bool false, Value.bool false, Value.bool false, Value.bool false, Value.bool false, Value.bool false, Value.bool false, Value.bool false, Value.bool false, Value.bool false, Value.bool false, Value.bool false, Value.bool false, Value.bool false, Value.bool false, Value.bool false, Value.bool false, Value.bool false, Value.bool false, Value.bool false], fsz := [20, 4] }
def ti100 : TI := { tz with agg := true, size := 40, bytes := 184, zero := [Value.int IntKind.i64 0, Value.int IntKind.i64 0, Value.int IntKind.i64 0, Value.int IntKind.i64 0, Value.int IntKind.i64 0, Value.int IntKind.i64 0, Value.int IntKind.i64 0, Value.int IntKind.i64 0, Value.int IntKind.i64 0, Value.int IntKind.i64 0, Value.int IntKind.i64 0, Value.int IntKind.i64 0, Value.int IntKind.i64 0, Value.int IntKind.i64 0, Value.int IntKind.i64 0, Value.int IntKind.i64 0, Value.int IntKind.i64 0, Value.int IntKind.i64 0, Value.int IntKind.i64 0, Value.int IntKind.i64 0, Value.bool false, Value.bool false, Value.bool false, Value.bool false, Value.bool false, Value.bool false, Value.bool false, Value.bool false, Value.bool false, Value.bool false, Value.bool false, Value.bool false, Value.bool false, Value.bool false, Value.bool false, Value.bool false, Value.bool false, Value.bool false, Value.bool false, Value.bool false], fields := [0, 20], fsz := [20, 20], fty := [97, 98] }
def ti101 : TI := { tz with zero := [Value.nilFunc] }
def ti102 : TI := { tz with zero := [Value.nilFunc] }
def ti103 : TI := { tz with zero := [Value.nilFunc] }
def ti106 : TI := { tz with zero := [Value.nilFunc] }
def ti108 : TI := { tz with zero := [Value.nilFunc] }
def ti111 : TI := { tz with zero := [Value.nilFunc] }
def ti112 : TI := { tz with zero := [Value.nilFunc] }
def ti113 : TI := { tz with zero := [Value.nilFunc] }
def ti115 : TI := { tz with zero := [Value.nilFunc] }
def ti119 : TI := { tz with zero := [Value.nilFunc] }
def ti121 : TI := { tz with agg := true, size := 2, bytes := 32, zero := [Value.int IntKind.i64 0, Value.slice none 0 0], fields := [0, 1], fsz := [1, 1], fty := [3, 24] }
def ti122 : TI := { tz with zero := [Value.nilFunc] }
def ti126 : TI := { tz with zero := [Value.nilFunc] }
def ti129 : TI := { tz with zero := [Value.nilFunc] }
def ti131 : TI := { tz with zero := [Value.nilFunc] }
def ti132 : TI := { tz with zero := [Value.nilFunc] }
def ti135 : TI := { tz with zero := [Value.nilFunc] }
def ti136 : TI := { tz with zero := [Value.nilFunc] }
def ti139 : TI := { tz with zero := [Value.nilFunc] }
def ti141 : TI := { tz with zero := [Value.nilFunc] }
def ti148 : TI := { tz with zero := [Value.nilFunc] }
def ti150 : TI := { tz with agg := true, size := 3, bytes := 40, zero := [Value.slice none 0 0, Value.int IntKind.i64 0, Value.int IntKind.i64 0], fields := [0, 1, 2], fsz := [1, 1, 1], fty := [22, 3, 3] }
def ti152 : TI := { tz with zero := [Value.nilFunc] }
def ti155 : TI := { tz with zero := [Value.nilFunc] }
def ti157 : TI := { tz with zero := [Value.int IntKind.u64 0], kind := some IntKind.u64 }
def ti160 : TI := { tz with zero := [Value.nilFunc] }
def ti161 : TI := { tz with zero := [Value.pointer none] }
def ti167 : TI := { tz with agg := true, size := 2, bytes := 32, zero := [Value.int IntKind.i64 0, Value.slice none 0 0], fields := [0, 1], fsz := [1, 1], fty := [3, 24] }
def ti168 : TI := { tz with zero := [Value.nilFunc] }
def ti169 : TI := { tz with zero := [Value.nilFunc] }
def ti175 : TI := { tz with zero := [Value.nilFunc] }
def ti178 : TI := { tz with zero := [Value.nilFunc] }
def ti185 : TI := { tz with zero := [Value.int IntKind.i64 0], kind := some IntKind.i64 }
def ti192 : TI := { tz with zero := [Value.nilFunc] }
def ti193 : TI := { tz with bytes := 4, zero := [Value.int IntKind.u32 0], kind := some IntKind.u32 }
def ti195 : TI := { tz with zero := [Value.int IntKind.u64 0], kind := some IntKind.u64 }
def ti197 : TI := { tz with zero := [Value.pointer none] }
def ti202 : TI := { tz with zero := [Value.nilFunc] }
def ti209 : TI := { tz with zero := [Value.int IntKind.u64 0], kind := some IntKind.u64 }
def ti210 : TI := { tz with zero := [Value.nilFunc] }
def ti213 : TI := { tz with zero := [Value.pointer none] }
def ti215 : TI := { tz with zero := [Value.nilFunc] }
def ti226 : TI := { tz with zero := [Value.pointer none] }
def tis : List (Nat × TI) := [(1, ti1), (2, ti2), (3, ti3), (4, ti4), (5, ti5), (6, ti6), (7, ti7), (8, ti8), (9, ti9), (10, ti10), (11, ti11), (12, ti12), (13, ti13), (14, ti14), (15, ti15), (16, ti16), (17, ti17), (18, ti18), (19, ti19), (21, ti21), (22, ti22), (23, ti23), (24, ti24), (25, ti25), (26, ti26), (27, ti27), (29, ti29), (30, ti30), (32, ti32), (33, ti33), (34, ti34), (35, ti35), (36, ti36), (37, ti37), (38, ti38), (39, ti39), (40, ti40), (41, ti41), (43, ti43), (45, ti45), (47, ti47), (48, ti48), (52, ti52), (53, ti53), (54, ti54), (55, ti55), (56, ti56), (57, ti57), (59, ti59), (60, ti60), (61, ti61), (62, ti62), (63, ti63), (64, ti64), (65, ti65), (66, ti66), (67, ti67), (68, ti68), (71, ti71), (74, ti74), (75, ti75), (81, ti81), (86, ti86), (88, ti88), (89, ti89), (90, ti90), (94, ti94), (96, ti96), (97, ti97), (98, ti98), (100, ti100), (101, ti101), (102, ti102), (103, ti103), (106, ti106), (108, ti108), (111, ti111), (112, ti112), (113, ti113), (115, ti115), (119, ti119), (121, ti121), (122, ti122), (126, ti126), (129, ti129), (131, ti131), (132, ti132), (135, ti135), (136, ti136), (139, ti139), (141, ti141), (148, ti148), (150, ti150), (152, ti152), (155, ti155), (157, ti157), (160, ti160), (161, ti161), (167, ti167), (168, ti168), (169, ti169), (175, ti175), (178, ti178), (185, ti185), (192, ti192), (193, ti193), (195, ti195), (197, ti197), (202, ti202), (209, ti209), (210, ti210), (213, ti213), (215, ti215), (226, ti226)]
def Γ : Tab := tabL tis
set_option maxRecDepth 100000 in
theorem Γ_ok : TabOk Tryz.prog Γ := tabL_ok (by
 simp only [tis, List.forall_mem_cons, List.not_mem_nil, false_implies, implies_true, and_true]
 refine ⟨?_, ?_, ?_, ?_, ?_, ?_, ?_, ?_, ?_, ?_, ?_, ?_, ?_, ?_, ?_, ?_, ?_, ?_, ?_, ?_, ?_, ?_, ?_, ?_, ?_, ?_, ?_, ?_, ?_, ?_, ?_, ?_, ?_, ?_, ?_, ?_, ?_, ?_, ?_, ?_, ?_, ?_, ?_, ?_, ?_, ?_, ?_, ?_, ?_, ?_, ?_, ?_, ?_, ?_, ?_, ?_, ?_, ?_, ?_, ?_, ?_, ?_, ?_, ?_, ?_, ?_, ?_, ?_, ?_, ?_, ?_, ?_, ?_, ?_, ?_, ?_, ?_, ?_, ?_, ?_, ?_, ?_, ?_, ?_, ?_, ?_, ?_, ?_, ?_, ?_, ?_, ?_, ?_, ?_, ?_, ?_, ?_, ?_, ?_, ?_, ?_, ?_, ?_, ?_, ?_, ?_, ?_, ?_, ?_, ?_, ?_, ?_, ?_, ?_⟩ <;> kernel_rfl)
theorem mx : Tryz.prog.follows .mixedOrders = true := by kernel_rfl
theorem repl_rows {α : Type} {f : α → List V} {d : α} {z : List V} (h : f d = z) : ∀ n : Nat, repl n z = rows f (List.replicate n d)
 | 0 => rfl
 | n + 1 => by simp only [repl, List.replicate_succ, rows, h, repl_rows h n]
def sz1 (n : Nat) (left : Int) : Int := if left - n < 0 then -1 else left - n
end Go.Proofs.YtboolngaahifdaaGreatD
namespace Go.Proofs.YtboolngaahifdaaGreatD
open Go Go.Proofs
section
variable {α : Type}
def sumB (f : α → Nat) : List α → Nat
 | [] => 0
 | x :: xs => f x + sumB f xs
theorem sumB_at {f : α → Nat} : ∀ {xs : List α} {k : Nat} (hk : k < xs.length), sumB f (xs.take (k + 1)) = sumB f (xs.take k) + f xs[k]
 | x :: xs, 0, _ => by simp [sumB]
 | x :: xs, k + 1, hk => by
  have := sumB_at (f := f) (xs := xs) (k := k) (by simpa using hk)
  simp only [List.take_succ_cons, sumB, List.getElem_cons_succ] at this ⊢
  omega
theorem sumB_take {f : α → Nat} : ∀ (xs : List α) (k : Nat), sumB f (xs.take k) ≤ sumB f xs
 | [], k => by simp
 | x :: xs, 0 => by simp [sumB]
 | x :: xs, k + 1 => by have := sumB_take (f := f) xs k; simp only [List.take_succ_cons, sumB]; omega
theorem sumB_le {f : α → Nat} {xs : List α} {k : Nat} (hk : k < xs.length) : sumB f (xs.take k) + f xs[k] ≤ sumB f xs := by
 rw [← sumB_at hk]; exact sumB_take xs _
theorem sumB_one {f : α → Nat} {xs : List α} {k : Nat} (hk : k < xs.length) : f xs[k] ≤ sumB f xs := by have := sumB_le (f := f) hk; omega
theorem rows_cell {f : α → List V} {n : Nat} (h : ∀ x, (f x).length = n) {xs : List α} {k d o : Nat} {v : V} (ho : o = k * n + d) (hk : k < xs.length) (hd : (f xs[k])[d]? = some v) : (rows f xs)[o]? = some v := by
 subst ho
 have hdn : d < n := by rw [← h xs[k]]; exact (List.getElem?_eq_some_iff.1 hd).1
 rw [← List.getElem?_drop, rows_at h xs k hk, List.getElem?_append_left (by rw [h]; exact hdn)]
 exact hd
end
theorem flat1 {v : V} (h : flat v = true) : ∀ c ∈ [v], flat c = true := fun c hc => by
 simp only [List.mem_singleton] at hc
 rw [hc]; exact h
theorem flat_ci (xs : List Int) : ∀ c ∈ rows ciL xs, flat c = true := all_rows (fun x => flat1 rfl) xs
theorem solid_ci (xs : List Int) : ∀ c ∈ rows ciL xs, solid c = true := all_rows (fun x c hc => by simp only [ciL, List.mem_singleton] at hc; rw [hc]; rfl) xs
theorem snoc_ci (xs : List Int) (x : Int) : rows ciL xs ++ [ci x] = rows ciL (xs ++ [x]) := by rw [rows_append]; rfl
theorem app_ci (xs ys : List Int) : rows ciL xs ++ rows ciL ys = rows ciL (xs ++ ys) := (rows_append ciL ys xs).symm
theorem drop_all {α : Type} {p : α → Bool} {xs : List α} {k : Nat} (hk : k < xs.length) : (xs.drop k).all p = (p xs[k] && (xs.drop (k + 1)).all p) := by
 rw [List.drop_eq_getElem_cons hk]
 rfl
theorem drop_any {α : Type} {p : α → Bool} {xs : List α} {k : Nat} (hk : k < xs.length) : (xs.drop k).any p = (p xs[k] || (xs.drop (k + 1)).any p) := by
 rw [List.drop_eq_getElem_cons hk]
 rfl
theorem drop_end {α : Type} {xs : List α} {k : Nat} (hk : xs.length ≤ k) : xs.drop k = [] := List.drop_eq_nil_of_le hk
theorem roVs_ci (xs : List Int) : roVs (rows ciL xs) = rows ciL xs := roVs_rows (fun _ => rfl) xs
end Go.Proofs.YtboolngaahifdaaGreatD
namespace Go.Proofs.YtboolngaahifdaaGreatD
open Go Go.Proofs
theorem ci_ro (x : Int) : roV (ci x) = ci x := rfl
theorem intsT_ro (x : List Int) : roV (intsT x) = ints x := by simp only [intsT, ints, roV, roVs_ci]
def rSchema (x : (List Int)) : List V := [ints (x)]
def tSchema (x : (List Int)) : List V := [intsT (x)]
def vSchema (x : (List Int)) : V := .agg (rSchema x)
def wSchema (x : (List Int)) : V := .agg (tSchema x)
theorem tSchema_ro (x : (List Int)) : roVs (tSchema x) = rSchema x := by
 simp only [tSchema, rSchema, roVs, intsT_ro]
theorem wSchema_ro (x : (List Int)) : roV (wSchema x) = vSchema x := by simp only [wSchema, vSchema, roV, tSchema_ro]
def cSchema (x : (List Int)) : Nat := (x).length
def rAtom (x : (Int × (List Int))) : List V := [ci (x.1), ints (x.2)]
def tAtom (x : (Int × (List Int))) : List V := [ci (x.1), intsT (x.2)]
def vAtom (x : (Int × (List Int))) : V := .agg (rAtom x)
def wAtom (x : (Int × (List Int))) : V := .agg (tAtom x)
theorem rAtom_len (x : (Int × (List Int))) : (rAtom x).length = 2 := rfl
theorem tAtom_len (x : (Int × (List Int))) : (tAtom x).length = 2 := rfl
theorem tAtom_ro (x : (Int × (List Int))) : roVs (tAtom x) = rAtom x := by
 simp only [tAtom, rAtom, roVs, ci_ro, intsT_ro]
def cAtom (x : (Int × (List Int))) : Nat := (x.2).length
def vAtomS (xs : (List (Int × (List Int)))) : V := .ro xs.length (rows rAtom xs)
def wAtomS (xs : (List (Int × (List Int)))) : V := .tr 2 xs.length (rows tAtom xs)
theorem wAtomS_ro (xs : (List (Int × (List Int)))) : roV (wAtomS xs) = vAtomS xs := by simp only [wAtomS, vAtomS, roV, roVs_rows tAtom_ro]
def cAtomS (xs : (List (Int × (List Int)))) : Nat := xs.length + sumB cAtom xs
def rQuery (x : ((List Int) × (List (Int × (List Int))))) : List V := [ints (x.1), vAtomS (x.2)]
def tQuery (x : ((List Int) × (List (Int × (List Int))))) : List V := [intsT (x.1), wAtomS (x.2)]
def vQuery (x : ((List Int) × (List (Int × (List Int))))) : V := .agg (rQuery x)
def wQuery (x : ((List Int) × (List (Int × (List Int))))) : V := .agg (tQuery x)
theorem tQuery_ro (x : ((List Int) × (List (Int × (List Int))))) : roVs (tQuery x) = rQuery x := by
 simp only [tQuery, rQuery, roVs, intsT_ro, wAtomS_ro]
theorem wQuery_ro (x : ((List Int) × (List (Int × (List Int))))) : roV (wQuery x) = vQuery x := by simp only [wQuery, vQuery, roV, tQuery_ro]
def cQuery (x : ((List Int) × (List (Int × (List Int))))) : Nat := (x.1).length + cAtomS (x.2)
def rFact (x : (Int × (List Int))) : List V := [ci (x.1), ints (x.2)]
def tFact (x : (Int × (List Int))) : List V := [ci (x.1), intsT (x.2)]
def vFact (x : (Int × (List Int))) : V := .agg (rFact x)
def wFact (x : (Int × (List Int))) : V := .agg (tFact x)
theorem rFact_len (x : (Int × (List Int))) : (rFact x).length = 2 := rfl
theorem tFact_len (x : (Int × (List Int))) : (tFact x).length = 2 := rfl
theorem tFact_ro (x : (Int × (List Int))) : roVs (tFact x) = rFact x := by
 simp only [tFact, rFact, roVs, ci_ro, intsT_ro]
theorem wFact_ro (x : (Int × (List Int))) : roV (wFact x) = vFact x := by simp only [wFact, vFact, roV, tFact_ro]
def cFact (x : (Int × (List Int))) : Nat := (x.2).length
theorem closed_rFact (x : (Int × (List Int))) : closeds (tFact x) := ⟨trivial, closeds_rows (f := ciL) (fun _ => ⟨trivial, trivial⟩) _, trivial⟩
def rCounted (x : ((List Int) × Int)) : List V := [ints (x.1), ci (x.2)]
def tCounted (x : ((List Int) × Int)) : List V := [intsT (x.1), ci (x.2)]
theorem rCounted_len (x : ((List Int) × Int)) : (rCounted x).length = 2 := rfl
theorem tCounted_len (x : ((List Int) × Int)) : (tCounted x).length = 2 := rfl
theorem tCounted_ro (x : ((List Int) × Int)) : roVs (tCounted x) = rCounted x := by
 simp only [tCounted, rCounted, roVs, ci_ro, intsT_ro]
def cCounted (x : ((List Int) × Int)) : Nat := (x.1).length
def vFactS (xs : (List (Int × (List Int)))) : V := .ro xs.length (rows rFact xs)
def wFactS (xs : (List (Int × (List Int)))) : V := .tr 2 xs.length (rows tFact xs)
theorem wFactS_ro (xs : (List (Int × (List Int)))) : roV (wFactS xs) = vFactS xs := by simp only [wFactS, vFactS, roV, roVs_rows tFact_ro]
def cFactS (xs : (List (Int × (List Int)))) : Nat := xs.length + sumB cFact xs
theorem closed_wFactS (xs : (List (Int × (List Int)))) : closed (wFactS xs) := closeds_rows (f := tFact) closed_rFact xs
def vCountedS (xs : (List ((List Int) × Int))) : V := .ro xs.length (rows rCounted xs)
def wCountedS (xs : (List ((List Int) × Int))) : V := .tr 2 xs.length (rows tCounted xs)
theorem wCountedS_ro (xs : (List ((List Int) × Int))) : roV (wCountedS xs) = vCountedS xs := by simp only [wCountedS, vCountedS, roV, roVs_rows tCounted_ro]
def cCountedS (xs : (List ((List Int) × Int))) : Nat := xs.length + sumB cCounted xs
def schema (xs : List Int) : V := .agg [ints xs]
def key (r : Int) (xs : List Int) : V := .agg [ci r, ints xs]
def inR (x lo hi : Int) : Bool := decide (lo ≤ x) && decide (x ≤ hi)
theorem inR_of {x lo hi : Int} {b : Bool} (h : decide (x ≥ lo) = b) : inR x lo hi = (b && decide (x ≤ hi)) := by
 unfold inR
 rw [show decide (lo ≤ x) = b from h]
theorem l1In_spec (x lo hi : Int) : Spec Tryz.prog 127 [ci x, ci lo, ci hi] (cb (inR x lo hi)) := by
 refine Spec_of mx Γ_ok Tryz.func127 rfl ?_
 (repeat' ((conv => whnf); (split <;> rename_i hsplit <;> (try rw [hsplit]))))
 all_goals conv => whnf
 ·rw [inR_of hsplit, Bool.true_and]
  rfl
 ·rw [inR_of hsplit, Bool.false_and]
  rfl
theorem within_spec (x lo hi : Int) : Spec Tryz.prog 85 [ci x, ci lo, ci hi] (cb (inR x lo hi)) := by
 refine Spec_of mx Γ_ok Tryz.func85 rfl ?_
 (repeat' ((conv => whnf); (split <;> rename_i hsplit <;> (try rw [hsplit]))))
 all_goals conv => whnf
 ·rw [inR_of hsplit, Bool.true_and]
  rfl
 ·rw [inR_of hsplit, Bool.false_and]
  rfl
def isSchema (xs : List Int) : Bool := xs.all (fun x => inR x 1 3) && inR xs.length 1 4
theorem all_true {α : Type} {p : α → Bool} {xs : List α} (h : ∀ j y, j < xs.length → xs[j]? = some y → p y = true) : xs.all p = true := by
 rw [List.all_eq_true]
 intro y hy
 obtain ⟨j, hj⟩ := List.getElem?_of_mem hy
 exact h j y (List.getElem?_eq_some_iff.1 hj).1 hj
theorem all_false {α : Type} {p : α → Bool} {xs : List α} {k : Nat} (hk : k < xs.length) (h : p xs[k] = false) : xs.all p = false := by
 rw [Bool.eq_false_iff]
 intro ha
 rw [List.all_eq_true] at ha
 rw [ha _ (List.getElem_mem hk)] at h
 cases h
theorem step_inv {α : Type} {p : α → Bool} {xs : List α} {k : Nat} (hk : k < xs.length) (hj : ∀ j y, j < k → xs[j]? = some y → p y = true) (h : p xs[k] = true) : ∀ j y, j < k + 1 → xs[j]? = some y → p y = true := by
 intro j y hlt hy
 rcases Nat.lt_succ_iff_lt_or_eq.1 hlt with h1 | rfl
 ·exact hj j y h1 hy
 ·rw [List.getElem?_eq_getElem hk] at hy
  cases hy
  exact h
theorem specIsSchema_spec (xs : List Int) (hl : xs.length ≤ 1099511627776) : Spec Tryz.prog 95 [schema xs] (cb (isSchema xs)) := by
 refine Spec_of mx Γ_ok Tryz.func95 rfl ?_
 conv => whnf
 refine ⟨[(1,0),(2,0),(3,0)], fun m s => ∃ (k : Nat) (e : Int), e = k ∧ m + k = xs.length ∧ (∀ j y, j < k → xs[j]? = some y → inR y 1 3 = true) ∧
  s = ⟨22, [(1, .ptr 0 0), (2, cb false), (3, ci e)], [some ⟨true, [ints xs]⟩]⟩, xs.length, ⟨0, 0, rfl, rfl, by simp, rfl⟩, ?_⟩
 rintro m s ⟨k, _, rfl, hm, hj, rfl⟩
 conv => whnf
 split <;> rename_i h1
 all_goals simp only [decide_eq_true_eq, decide_eq_false_iff_not] at h1
 ·conv => whnf
  have hk : k < xs.length := by omega
  refine ⟨by omega, rows_len ciL_len xs, ?_⟩
  conv => whnf
  refine ⟨_, takeN_rp (k := k) ciL_len hk, ?_⟩
  conv => whnf
  refine ⟨_, l1In_spec _ _ _, .inl rfl, .inl ?_⟩
  conv => whnf
  split <;> rename_i h2
  all_goals simp only [Bool.not_eq_true', Bool.not_eq_false'] at h2
  ·conv => whnf
   show cb false = _
   unfold isSchema
   rw [all_false (p := fun x => inR x 1 3) hk h2, Bool.false_and]
  ·conv => whnf
   exact ⟨m - 1, by omega, k + 1, _, wrap_id (by omega) (by omega), by omega, step_inv hk hj h2, rfl⟩
 ·conv => whnf
  refine ⟨_, l1In_spec _ _ _, .inl rfl, .inl ?_⟩
  conv => whnf
  show cb (inR xs.length 1 4) = _
  unfold isSchema
  rw [all_true (p := fun x => inR x 1 3) fun j y h hy => hj j y (by omega) hy, Bool.true_and]
theorem implIsSchema_spec (xs : List Int) (hl : xs.length ≤ 1099511627776) : Spec Tryz.prog 144 [schema xs] (cb (isSchema xs)) := by
 refine Spec_of mx Γ_ok Tryz.func144 rfl ?_
 conv => whnf
 refine ⟨[(1,0),(2,0),(6,0),(7,0),(8,0)], fun m s => ∃ (k : Nat) (e : Int), e = k ∧ m + k = xs.length ∧ (∀ j y, j < k → xs[j]? = some y → inR y 1 3 = true) ∧
  s = ⟨20, [(1, .ptr 0 0), (2, cb false), (6, ints xs), (7, ci xs.length), (8, ci e)], [some ⟨true, [ints xs]⟩]⟩, xs.length, ⟨0, 0, rfl, rfl, by simp, rfl⟩, ?_⟩
 rintro m s ⟨k, _, rfl, hm, hj, rfl⟩
 conv => whnf
 split <;> rename_i h1
 all_goals simp only [decide_eq_true_eq, decide_eq_false_iff_not] at h1
 ·conv => whnf
  have hk : k < xs.length := by omega
  refine ⟨by omega, rows_len ciL_len xs, ?_⟩
  conv => whnf
  refine ⟨_, takeN_rp (k := k) ciL_len hk, ?_⟩
  conv => whnf
  refine ⟨_, within_spec _ _ _, .inl rfl, .inl ?_⟩
  conv => whnf
  split <;> rename_i h2
  all_goals simp only [Bool.not_eq_true', Bool.not_eq_false'] at h2
  ·conv => whnf
   show cb false = _
   unfold isSchema
   rw [all_false (p := fun x => inR x 1 3) hk h2, Bool.false_and]
  ·conv => whnf
   exact ⟨m - 1, by omega, k + 1, _, wrap_id (by omega) (by omega), by omega, step_inv hk hj h2, rfl⟩
 ·conv => whnf
  refine ⟨_, within_spec _ _ _, .inl rfl, .inl ?_⟩
  conv => whnf
  show cb (inR xs.length 1 4) = _
  unfold isSchema
  rw [all_true (p := fun x => inR x 1 3) fun j y h hy => hj j y (by omega) hy, Bool.true_and]
end Go.Proofs.YtboolngaahifdaaGreatD
