/- Contracts and plain laws of this seat; no condition. -/
import Derived.Test.YtcjdfeafcmfgpaaGreatChecked
import Derived.Test.YtcjdfeafcmfgpaaGreatQ8
set_option linter.unusedVariables false
set_option linter.unusedSimpArgs false
set_option maxRecDepth 100000
namespace Go.Proofs.YtcjdfeafcmfgpaaGreatD
open Go Go.Proofs
def tz : TI := { agg := false, size := 1, bytes := 8, zero := [], elem := none, fields := [], fsz := [], kind := none, str := false, boo := false, fty := [] }
def ti1 : TI := { tz with zero := [Value.nilFunc] }
def ti2 : TI := { tz with zero := [Value.int IntKind.i64 0], kind := some IntKind.i64 }
def ti3 : TI := { tz with zero := [Value.int IntKind.i64 0], kind := some IntKind.i64 }
def ti4 : TI := { tz with bytes := 1, zero := [Value.bool false], boo := true }
def ti5 : TI := { tz with bytes := 1, zero := [Value.int IntKind.u8 0], kind := some IntKind.u8 }
def ti6 : TI := { tz with bytes := 1, zero := [Value.int IntKind.u8 0], kind := some IntKind.u8 }
def ti7 : TI := { tz with agg := true, size := 4, bytes := 24, zero := [Value.int IntKind.i64 0, Value.int IntKind.i64 0, Value.bool false, Value.int IntKind.u8 0], fields := [0, 1, 2, 3], fsz := [1, 1, 1, 1], fty := [2, 3, 4, 6] }
def ti8 : TI := { tz with agg := true, size := 4, bytes := 24, zero := [Value.int IntKind.i64 0, Value.int IntKind.i64 0, Value.bool false, Value.int IntKind.u8 0], fields := [0, 1, 2, 3], fsz := [1, 1, 1, 1], fty := [2, 3, 4, 6] }
def ti9 : TI := { tz with bytes := 16, zero := [Value.string ByteArray.empty], str := true }
def ti10 : TI := { tz with bytes := 16, zero := [Value.string ByteArray.empty], str := true }
def ti11 : TI := { tz with bytes := 16, zero := [Value.string ByteArray.empty], str := true }
def ti12 : TI := { tz with zero := [Value.int IntKind.u64 0], kind := some IntKind.u64 }
def ti13 : TI := { tz with agg := true, size := 2, bytes := 24, zero := [Value.string ByteArray.empty, Value.int IntKind.u64 0], fields := [0, 1], fsz := [1, 1], fty := [9, 12] }
def ti14 : TI := { tz with agg := true, size := 2, bytes := 24, zero := [Value.string ByteArray.empty, Value.int IntKind.u64 0], fields := [0, 1], fsz := [1, 1], fty := [9, 12] }
def ti15 : TI := { tz with zero := [Value.pointer none] }
def ti16 : TI := { tz with zero := [Value.pointer none] }
def ti17 : TI := { tz with zero := [Value.pointer none] }
def ti18 : TI := { tz with agg := true, zero := [Value.pointer none], fields := [0], fsz := [1], fty := [17] }
def ti19 : TI := { tz with agg := true, zero := [Value.pointer none], fields := [0], fsz := [1], fty := [17] }
def ti21 : TI := { tz with bytes := 4, zero := [Value.int IntKind.i32 0], kind := some IntKind.i32 }
def ti22 : TI := { tz with bytes := 24, zero := [Value.slice none 0 0], elem := some 5 }
def ti23 : TI := { tz with zero := [Value.nilFunc] }
def ti24 : TI := { tz with bytes := 24, zero := [Value.slice none 0 0], elem := some 3 }
def ti25 : TI := { tz with agg := true, bytes := 24, zero := [Value.slice none 0 0], fields := [0], fsz := [1], fty := [24] }
def ti26 : TI := { tz with agg := true, bytes := 24, zero := [Value.slice none 0 0], fields := [0], fsz := [1], fty := [24] }
def ti27 : TI := { tz with bytes := 24, zero := [Value.slice none 0 0], elem := some 111 }
def ti28 : TI := { tz with agg := true, size := 2, bytes := 48, zero := [Value.slice none 0 0, Value.slice none 0 0], fields := [0, 1], fsz := [1, 1], fty := [24, 27] }
def ti29 : TI := { tz with agg := true, size := 2, bytes := 48, zero := [Value.slice none 0 0, Value.slice none 0 0], fields := [0, 1], fsz := [1, 1], fty := [24, 27] }
def ti31 : TI := { tz with zero := [Value.nilFunc] }
def ti32 : TI := { tz with zero := [Value.nilFunc] }
def ti33 : TI := { tz with bytes := 24, zero := [Value.slice none 0 0], elem := some 151 }
def ti36 : TI := { tz with zero := [Value.nilFunc] }
def ti37 : TI := { tz with bytes := 24, zero := [Value.slice none 0 0], elem := some 24 }
def ti38 : TI := { tz with zero := [Value.nilFunc] }
def ti40 : TI := { tz with zero := [Value.nilFunc] }
def ti41 : TI := { tz with zero := [Value.nilFunc] }
def ti42 : TI := { tz with zero := [Value.nilFunc] }
def ti43 : TI := { tz with bytes := 24, zero := [Value.slice none 0 0], elem := some 144 }
def ti44 : TI := { tz with bytes := 24, zero := [Value.slice none 0 0], elem := some 54 }
def ti46 : TI := { tz with zero := [Value.nilFunc] }
def ti47 : TI := { tz with zero := [Value.nilFunc] }
def ti49 : TI := { tz with zero := [Value.nilFunc] }
def ti52 : TI := { tz with zero := [Value.nilFunc] }
def ti54 : TI := { tz with agg := true, size := 4, bytes := 64, zero := [Value.int IntKind.i64 0, Value.slice none 0 0, Value.int IntKind.i64 0, Value.slice none 0 0], fields := [0, 1, 2, 3], fsz := [1, 1, 1, 1], fty := [3, 24, 3, 24] }
def ti55 : TI := { tz with zero := [Value.nilFunc] }
def ti57 : TI := { tz with zero := [Value.nilFunc] }
def ti58 : TI := { tz with zero := [Value.nilFunc] }
def ti60 : TI := { tz with zero := [Value.nilFunc] }
def ti61 : TI := { tz with bytes := 24, zero := [Value.slice none 0 0], elem := some 29 }
def ti63 : TI := { tz with zero := [Value.nilFunc] }
def ti65 : TI := { tz with zero := [Value.nilFunc] }
def ti67 : TI := { tz with zero := [Value.nilFunc] }
def ti68 : TI := { tz with zero := [Value.nilFunc] }
def ti69 : TI := { tz with zero := [Value.nilFunc] }
def ti70 : TI := { tz with zero := [Value.nilFunc] }
def ti71 : TI := { tz with zero := [Value.nilFunc] }
def ti72 : TI := { tz with zero := [Value.nilFunc] }
def ti73 : TI := { tz with zero := [Value.nilFunc] }
def ti75 : TI := { tz with zero := [Value.nilFunc] }
def ti76 : TI := { tz with zero := [Value.nilFunc] }
def ti77 : TI := { tz with zero := [Value.nilFunc] }
def ti79 : TI := { tz with zero := [Value.nilFunc] }
def ti80 : TI := { tz with zero := [Value.nilFunc] }
def ti81 : TI := { tz with zero := [Value.nilFunc] }
def ti85 : TI := { tz with agg := true, size := 2, bytes := 32, zero := [Value.slice none 0 0, Value.int IntKind.i64 0], fields := [0, 1], fsz := [1, 1], fty := [24, 3] }
def ti88 : TI := { tz with zero := [Value.nilFunc] }
def ti93 : TI := { tz with agg := true, bytes := 24, zero := [Value.slice none 0 0], fields := [0], fsz := [1], fty := [24] }
def ti94 : TI := { tz with bytes := 24, zero := [Value.slice none 0 0], elem := some 240 }
def ti96 : TI := { tz with agg := true, size := 2, bytes := 48, zero := [Value.slice none 0 0, Value.slice none 0 0], fields := [0, 1], fsz := [1, 1], fty := [24, 94] }
def ti98 : TI := { tz with zero := [Value.nilFunc] }
def ti100 : TI := { tz with zero := [Value.nilFunc] }
def ti101 : TI := { tz with zero := [Value.nilFunc] }
def ti102 : TI := { tz with zero := [Value.nilFunc] }
def ti103 : TI := { tz with zero := [Value.nilFunc] }
def ti106 : TI := { tz with zero := [Value.nilFunc] }
def ti107 : TI := { tz with zero := [Value.nilFunc] }
def ti108 : TI := { tz with zero := [Value.nilFunc] }
def ti110 : TI := { tz with agg := true, size := 2, bytes := 32, zero := [Value.int IntKind.i64 0, Value.slice none 0 0], fields := [0, 1], fsz := [1, 1], fty := [3, 24] }
def ti111 : TI := { tz with agg := true, size := 2, bytes := 32, zero := [Value.int IntKind.i64 0, Value.slice none 0 0], fields := [0, 1], fsz := [1, 1], fty := [3, 24] }
def ti119 : TI := { tz with zero := [Value.nilFunc] }
def ti121 : TI := { tz with zero := [Value.nilFunc] }
def ti123 : TI := { tz with zero := [Value.pointer none] }
def ti128 : TI := { tz with zero := [Value.nilFunc] }
def ti131 : TI := { tz with zero := [Value.nilFunc] }
def ti133 : TI := { tz with zero := [Value.nilFunc] }
def ti135 : TI := { tz with zero := [Value.nilFunc] }
def ti144 : TI := { tz with agg := true, size := 2, bytes := 32, zero := [Value.int IntKind.i64 0, Value.slice none 0 0], fields := [0, 1], fsz := [1, 1], fty := [3, 24] }
def ti150 : TI := { tz with zero := [Value.nilFunc] }
def ti151 : TI := { tz with agg := true, size := 2, bytes := 32, zero := [Value.int IntKind.i64 0, Value.slice none 0 0], fields := [0, 1], fsz := [1, 1], fty := [3, 24] }
def ti152 : TI := { tz with zero := [Value.nilFunc] }
def ti155 : TI := { tz with bytes := 24, zero := [Value.slice none 0 0], elem := some 4 }
def ti160 : TI := { tz with zero := [Value.nilFunc] }
def ti164 : TI := { tz with zero := [Value.nilFunc] }
def ti165 : TI := { tz with zero := [Value.nilFunc] }
def ti168 : TI := { tz with zero := [Value.nilFunc] }
def ti173 : TI := { tz with zero := [Value.nilFunc] }
def ti174 : TI := { tz with zero := [Value.nilFunc] }
def ti178 : TI := { tz with zero := [Value.nilFunc] }
def ti183 : TI := { tz with zero := [Value.nilFunc] }
def ti186 : TI := { tz with zero := [Value.nilFunc] }
def ti187 : TI := { tz with zero := [Value.nilFunc] }
def ti192 : TI := { tz with zero := [Value.nilFunc] }
def ti198 : TI := { tz with zero := [Value.nilFunc] }
def ti200 : TI := { tz with agg := true, size := 3, bytes := 40, zero := [Value.slice none 0 0, Value.int IntKind.i64 0, Value.int IntKind.i64 0], fields := [0, 1, 2], fsz := [1, 1, 1], fty := [22, 3, 3] }
def ti211 : TI := { tz with zero := [Value.nilFunc] }
def ti215 : TI := { tz with zero := [Value.map none], fsz := [1] }
def ti221 : TI := { tz with zero := [Value.nilFunc] }
def ti225 : TI := { tz with zero := [Value.nilFunc] }
def ti227 : TI := { tz with zero := [Value.pointer none] }
def ti231 : TI := { tz with zero := [Value.int IntKind.u64 0], kind := some IntKind.u64 }
def ti240 : TI := { tz with agg := true, size := 2, bytes := 32, zero := [Value.int IntKind.i64 0, Value.slice none 0 0], fields := [0, 1], fsz := [1, 1], fty := [3, 24] }
def ti255 : TI := { tz with zero := [Value.nilFunc] }
def tis : List (Nat × TI) := [(1, ti1), (2, ti2), (3, ti3), (4, ti4), (5, ti5), (6, ti6), (7, ti7), (8, ti8), (9, ti9), (10, ti10), (11, ti11), (12, ti12), (13, ti13), (14, ti14), (15, ti15), (16, ti16), (17, ti17), (18, ti18), (19, ti19), (21, ti21), (22, ti22), (23, ti23), (24, ti24), (25, ti25), (26, ti26), (27, ti27), (28, ti28), (29, ti29), (31, ti31), (32, ti32), (33, ti33), (36, ti36), (37, ti37), (38, ti38), (40, ti40), (41, ti41), (42, ti42), (43, ti43), (44, ti44), (46, ti46), (47, ti47), (49, ti49), (52, ti52), (54, ti54), (55, ti55), (57, ti57), (58, ti58), (60, ti60), (61, ti61), (63, ti63), (65, ti65), (67, ti67), (68, ti68), (69, ti69), (70, ti70), (71, ti71), (72, ti72), (73, ti73), (75, ti75), (76, ti76), (77, ti77), (79, ti79), (80, ti80), (81, ti81), (85, ti85), (88, ti88), (93, ti93), (94, ti94), (96, ti96), (98, ti98), (100, ti100), (101, ti101), (102, ti102), (103, ti103), (106, ti106), (107, ti107), (108, ti108), (110, ti110), (111, ti111), (119, ti119), (121, ti121), (123, ti123), (128, ti128), (131, ti131), (133, ti133), (135, ti135), (144, ti144), (150, ti150), (151, ti151), (152, ti152), (155, ti155), (160, ti160), (164, ti164), (165, ti165), (168, ti168), (173, ti173), (174, ti174), (178, ti178), (183, ti183), (186, ti186), (187, ti187), (192, ti192), (198, ti198), (200, ti200), (211, ti211), (215, ti215), (221, ti221), (225, ti225), (227, ti227), (231, ti231), (240, ti240), (255, ti255)]
def Γ : Tab := tabL tis
set_option maxRecDepth 100000 in
theorem Γ_ok : TabOk Tryz.prog Γ := tabL_ok (by
 simp only [tis, List.forall_mem_cons, List.not_mem_nil, false_implies, implies_true, and_true]
 refine ⟨?_, ?_, ?_, ?_, ?_, ?_, ?_, ?_, ?_, ?_, ?_, ?_, ?_, ?_, ?_, ?_, ?_, ?_, ?_, ?_, ?_, ?_, ?_, ?_, ?_, ?_, ?_, ?_, ?_, ?_, ?_, ?_, ?_, ?_, ?_, ?_, ?_, ?_, ?_, ?_, ?_, ?_, ?_, ?_, ?_, ?_, ?_, ?_, ?_, ?_, ?_, ?_, ?_, ?_, ?_, ?_, ?_, ?_, ?_, ?_, ?_, ?_, ?_, ?_, ?_, ?_, ?_, ?_, ?_, ?_, ?_, ?_, ?_, ?_, ?_, ?_, ?_, ?_, ?_, ?_, ?_, ?_, ?_, ?_, ?_, ?_, ?_, ?_, ?_, ?_, ?_, ?_, ?_, ?_, ?_, ?_, ?_, ?_, ?_, ?_, ?_, ?_, ?_, ?_, ?_, ?_, ?_, ?_, ?_, ?_, ?_, ?_⟩ <;> kernel_rfl)
theorem mx : Tryz.prog.follows .mixedOrders = true := by kernel_rfl
theorem repl_rows {α : Type} {f : α → List V} {d : α} {z : List V} (h : f d = z) : ∀ n : Nat, repl n z = rows f (List.replicate n d)
 | 0 => rfl
 | n + 1 => by simp only [repl, List.replicate_succ, rows, h, repl_rows h n]
def sz1 (n : Nat) (left : Int) : Int := if left - n < 0 then -1 else left - n
end Go.Proofs.YtcjdfeafcmfgpaaGreatD
namespace Go.Proofs.YtcjdfeafcmfgpaaGreatD
open Go Go.Proofs
section
variable {α : Type}
def sumB (f : α → Nat) : List α → Nat
 | [] => 0
 | x :: xs => f x + sumB f xs
theorem sumB_at {f : α → Nat} : ∀ {xs : List α} {k : Nat} (hk : k < xs.length), sumB f (xs.take (k + 1)) = sumB f (xs.take k) + f xs[k]
 | x :: xs, 0, _ => by simp [sumB]
 | x :: xs, k + 1, hk => by
  have := sumB_at (f := f) (xs := xs) (k := k) (by simpa using hk)
  simp only [List.take_succ_cons, sumB, List.getElem_cons_succ] at this ⊢
  omega
theorem sumB_take {f : α → Nat} : ∀ (xs : List α) (k : Nat), sumB f (xs.take k) ≤ sumB f xs
 | [], k => by simp
 | x :: xs, 0 => by simp [sumB]
 | x :: xs, k + 1 => by have := sumB_take (f := f) xs k; simp only [List.take_succ_cons, sumB]; omega
theorem sumB_le {f : α → Nat} {xs : List α} {k : Nat} (hk : k < xs.length) : sumB f (xs.take k) + f xs[k] ≤ sumB f xs := by
 rw [← sumB_at hk]; exact sumB_take xs _
theorem sumB_one {f : α → Nat} {xs : List α} {k : Nat} (hk : k < xs.length) : f xs[k] ≤ sumB f xs := by have := sumB_le (f := f) hk; omega
theorem rows_cell {f : α → List V} {n : Nat} (h : ∀ x, (f x).length = n) {xs : List α} {k d o : Nat} {v : V} (ho : o = k * n + d) (hk : k < xs.length) (hd : (f xs[k])[d]? = some v) : (rows f xs)[o]? = some v := by
 subst ho
 have hdn : d < n := by rw [← h xs[k]]; exact (List.getElem?_eq_some_iff.1 hd).1
 rw [← List.getElem?_drop, rows_at h xs k hk, List.getElem?_append_left (by rw [h]; exact hdn)]
 exact hd
theorem rows_setCell {f : α → List V} {n : Nat} (h : ∀ x, (f x).length = n) {xs : List α} {k d o : Nat} {v : V} {y : α} (ho : o = k * n + d) (hk : k < xs.length) (hy : f y = (f xs[k]).set d v) (hd : d < n) : (rows f xs).set o v = rows f (xs.set k y) := by
 subst ho
 have hn : n ≠ 0 := by omega
 rw [← setC_rows h hn hk y]
 apply List.ext_getElem?
 intro i
 have hmul : (k + 1) * n ≤ xs.length * n := Nat.mul_le_mul_right _ hk
 rw [Nat.succ_mul] at hmul
 have hlen := rows_len h xs
 rw [List.getElem?_set, setC_get (by rw [h]; omega), h]
 by_cases hi : k * n + d = i
 ·subst hi
  rw [if_pos rfl, if_pos (by omega), if_pos (by omega), hy, show k * n + d - k * n = d from by omega, List.getElem?_set, if_pos rfl, if_pos (by rw [h]; exact hd)]
 ·rw [if_neg hi]
  by_cases hin : k * n ≤ i ∧ i < k * n + n
  ·rw [if_pos hin, hy, List.getElem?_set, if_neg (by omega)]
   obtain ⟨q, rfl⟩ : ∃ q, i = k * n + q := ⟨i - k * n, by omega⟩
   rw [show k * n + q - k * n = q from by omega, ← List.getElem?_drop, rows_at h xs k hk, List.getElem?_append_left (by rw [h]; omega)]
  ·rw [if_neg hin]
end
theorem flat1 {v : V} (h : flat v = true) : ∀ c ∈ [v], flat c = true := fun c hc => by
 simp only [List.mem_singleton] at hc
 rw [hc]; exact h
theorem solid_ci (xs : List Int) : ∀ c ∈ rows ciL xs, solid c = true := all_rows (fun x c hc => by simp only [ciL, List.mem_singleton] at hc; rw [hc]; rfl) xs
theorem snoc_ci (xs : List Int) (x : Int) : rows ciL xs ++ [ci x] = rows ciL (xs ++ [x]) := by rw [rows_append]; rfl
theorem app_ci (xs ys : List Int) : rows ciL xs ++ rows ciL ys = rows ciL (xs ++ ys) := (rows_append ciL ys xs).symm
theorem drop_all {α : Type} {p : α → Bool} {xs : List α} {k : Nat} (hk : k < xs.length) : (xs.drop k).all p = (p xs[k] && (xs.drop (k + 1)).all p) := by
 rw [List.drop_eq_getElem_cons hk]
 rfl
theorem drop_any {α : Type} {p : α → Bool} {xs : List α} {k : Nat} (hk : k < xs.length) : (xs.drop k).any p = (p xs[k] || (xs.drop (k + 1)).any p) := by
 rw [List.drop_eq_getElem_cons hk]
 rfl
theorem drop_end {α : Type} {xs : List α} {k : Nat} (hk : xs.length ≤ k) : xs.drop k = [] := List.drop_eq_nil_of_le hk
theorem roVs_ci (xs : List Int) : roVs (rows ciL xs) = rows ciL xs := roVs_rows (fun _ => rfl) xs
end Go.Proofs.YtcjdfeafcmfgpaaGreatD
namespace Go.Proofs.YtcjdfeafcmfgpaaGreatD
open Go Go.Proofs
theorem ci_ro (x : Int) : roV (ci x) = ci x := rfl
theorem intsT_ro (x : List Int) : roV (intsT x) = ints x := by simp only [intsT, ints, roV, roVs_ci]
def rSchema (x : (List Int)) : List V := [ints (x)]
def tSchema (x : (List Int)) : List V := [intsT (x)]
def vSchema (x : (List Int)) : V := .agg (rSchema x)
def wSchema (x : (List Int)) : V := .agg (tSchema x)
theorem tSchema_ro (x : (List Int)) : roVs (tSchema x) = rSchema x := by
 simp only [tSchema, rSchema, roVs, intsT_ro]
theorem wSchema_ro (x : (List Int)) : roV (wSchema x) = vSchema x := by simp only [wSchema, vSchema, roV, tSchema_ro]
def cSchema (x : (List Int)) : Nat := (x).length
def rAtom (x : (Int × (List Int))) : List V := [ci (x.1), ints (x.2)]
def tAtom (x : (Int × (List Int))) : List V := [ci (x.1), intsT (x.2)]
def vAtom (x : (Int × (List Int))) : V := .agg (rAtom x)
def wAtom (x : (Int × (List Int))) : V := .agg (tAtom x)
theorem rAtom_len (x : (Int × (List Int))) : (rAtom x).length = 2 := rfl
theorem tAtom_len (x : (Int × (List Int))) : (tAtom x).length = 2 := rfl
theorem tAtom_ro (x : (Int × (List Int))) : roVs (tAtom x) = rAtom x := by
 simp only [tAtom, rAtom, roVs, ci_ro, intsT_ro]
def cAtom (x : (Int × (List Int))) : Nat := (x.2).length
theorem closed_rAtom (x : (Int × (List Int))) : closeds (tAtom x) := ⟨trivial, closeds_rows (f := ciL) (fun _ => ⟨trivial, trivial⟩) _, trivial⟩
def vAtomS (xs : (List (Int × (List Int)))) : V := .ro xs.length (rows rAtom xs)
def wAtomS (xs : (List (Int × (List Int)))) : V := .tr 2 xs.length (rows tAtom xs)
theorem wAtomS_ro (xs : (List (Int × (List Int)))) : roV (wAtomS xs) = vAtomS xs := by simp only [wAtomS, vAtomS, roV, roVs_rows tAtom_ro]
def cAtomS (xs : (List (Int × (List Int)))) : Nat := xs.length + sumB cAtom xs
theorem closed_wAtomS (xs : (List (Int × (List Int)))) : closed (wAtomS xs) := closeds_rows (f := tAtom) closed_rAtom xs
def rQuery (x : ((List Int) × (List (Int × (List Int))))) : List V := [ints (x.1), vAtomS (x.2)]
def tQuery (x : ((List Int) × (List (Int × (List Int))))) : List V := [intsT (x.1), wAtomS (x.2)]
def vQuery (x : ((List Int) × (List (Int × (List Int))))) : V := .agg (rQuery x)
def wQuery (x : ((List Int) × (List (Int × (List Int))))) : V := .agg (tQuery x)
theorem tQuery_ro (x : ((List Int) × (List (Int × (List Int))))) : roVs (tQuery x) = rQuery x := by
 simp only [tQuery, rQuery, roVs, intsT_ro, wAtomS_ro]
theorem wQuery_ro (x : ((List Int) × (List (Int × (List Int))))) : roV (wQuery x) = vQuery x := by simp only [wQuery, vQuery, roV, tQuery_ro]
def cQuery (x : ((List Int) × (List (Int × (List Int))))) : Nat := (x.1).length + cAtomS (x.2)
theorem closed_rQuery (x : ((List Int) × (List (Int × (List Int))))) : closeds (tQuery x) := ⟨closeds_rows (f := ciL) (fun _ => ⟨trivial, trivial⟩) _, closed_wAtomS _, trivial⟩
theorem closed_wQuery (x : ((List Int) × (List (Int × (List Int))))) : closed (wQuery x) := closed_rQuery x
def rFact (x : (Int × (List Int))) : List V := [ci (x.1), ints (x.2)]
def tFact (x : (Int × (List Int))) : List V := [ci (x.1), intsT (x.2)]
def vFact (x : (Int × (List Int))) : V := .agg (rFact x)
def wFact (x : (Int × (List Int))) : V := .agg (tFact x)
theorem rFact_len (x : (Int × (List Int))) : (rFact x).length = 2 := rfl
theorem tFact_len (x : (Int × (List Int))) : (tFact x).length = 2 := rfl
theorem tFact_ro (x : (Int × (List Int))) : roVs (tFact x) = rFact x := by
 simp only [tFact, rFact, roVs, ci_ro, intsT_ro]
theorem wFact_ro (x : (Int × (List Int))) : roV (wFact x) = vFact x := by simp only [wFact, vFact, roV, tFact_ro]
def cFact (x : (Int × (List Int))) : Nat := (x.2).length
theorem closed_rFact (x : (Int × (List Int))) : closeds (tFact x) := ⟨trivial, closeds_rows (f := ciL) (fun _ => ⟨trivial, trivial⟩) _, trivial⟩
def rKey (x : (Int × (List Int))) : List V := [ci (x.1), ints (x.2)]
def tKey (x : (Int × (List Int))) : List V := [ci (x.1), intsT (x.2)]
def wKey (x : (Int × (List Int))) : V := .agg (tKey x)
theorem rKey_len (x : (Int × (List Int))) : (rKey x).length = 2 := rfl
theorem tKey_len (x : (Int × (List Int))) : (tKey x).length = 2 := rfl
theorem tKey_ro (x : (Int × (List Int))) : roVs (tKey x) = rKey x := by
 simp only [tKey, rKey, roVs, ci_ro, intsT_ro]
def cKey (x : (Int × (List Int))) : Nat := (x.2).length
def rInclusion (x : (Int × (List Int) × Int × (List Int))) : List V := [ci (x.1), ints (x.2.1), ci (x.2.2.1), ints (x.2.2.2)]
def tInclusion (x : (Int × (List Int) × Int × (List Int))) : List V := [ci (x.1), intsT (x.2.1), ci (x.2.2.1), intsT (x.2.2.2)]
def vInclusion (x : (Int × (List Int) × Int × (List Int))) : V := .agg (rInclusion x)
def wInclusion (x : (Int × (List Int) × Int × (List Int))) : V := .agg (tInclusion x)
theorem rInclusion_len (x : (Int × (List Int) × Int × (List Int))) : (rInclusion x).length = 4 := rfl
theorem tInclusion_len (x : (Int × (List Int) × Int × (List Int))) : (tInclusion x).length = 4 := rfl
theorem tInclusion_ro (x : (Int × (List Int) × Int × (List Int))) : roVs (tInclusion x) = rInclusion x := by
 simp only [tInclusion, rInclusion, roVs, ci_ro, intsT_ro]
def cInclusion (x : (Int × (List Int) × Int × (List Int))) : Nat := (x.2.1).length + (x.2.2.2).length
def vFactS (xs : (List (Int × (List Int)))) : V := .ro xs.length (rows rFact xs)
def wFactS (xs : (List (Int × (List Int)))) : V := .tr 2 xs.length (rows tFact xs)
theorem wFactS_ro (xs : (List (Int × (List Int)))) : roV (wFactS xs) = vFactS xs := by simp only [wFactS, vFactS, roV, roVs_rows tFact_ro]
def cFactS (xs : (List (Int × (List Int)))) : Nat := xs.length + sumB cFact xs
theorem closed_wFactS (xs : (List (Int × (List Int)))) : closed (wFactS xs) := closeds_rows (f := tFact) closed_rFact xs
def vKeyS (xs : (List (Int × (List Int)))) : V := .ro xs.length (rows rKey xs)
def wKeyS (xs : (List (Int × (List Int)))) : V := .tr 2 xs.length (rows tKey xs)
theorem wKeyS_ro (xs : (List (Int × (List Int)))) : roV (wKeyS xs) = vKeyS xs := by simp only [wKeyS, vKeyS, roV, roVs_rows tKey_ro]
def cKeyS (xs : (List (Int × (List Int)))) : Nat := xs.length + sumB cKey xs
def vInclusionS (xs : (List (Int × (List Int) × Int × (List Int)))) : V := .ro xs.length (rows rInclusion xs)
def wInclusionS (xs : (List (Int × (List Int) × Int × (List Int)))) : V := .tr 4 xs.length (rows tInclusion xs)
theorem wInclusionS_ro (xs : (List (Int × (List Int) × Int × (List Int)))) : roV (wInclusionS xs) = vInclusionS xs := by simp only [wInclusionS, vInclusionS, roV, roVs_rows tInclusion_ro]
def cInclusionS (xs : (List (Int × (List Int) × Int × (List Int)))) : Nat := xs.length + sumB cInclusion xs
theorem drop_eq_at {α : Type} [DecidableEq α] {xs ys : List α} {k : Nat} (hk : k < xs.length) (hk' : k < ys.length) : decide (xs.drop k = ys.drop k) = (decide (xs[k] = ys[k]) && decide (xs.drop (k + 1) = ys.drop (k + 1))) := by
 rw [List.drop_eq_getElem_cons hk, List.drop_eq_getElem_cons hk', ← Bool.decide_and, decide_eq_decide]
 simp only [List.cons.injEq]
theorem ne_len {α : Type} [DecidableEq α] {xs ys : List α} (h : xs.length ≠ ys.length) : decide (xs = ys) = false := decide_eq_false fun e => h (congrArg List.length e)
theorem l2Ints_spec (xs ys : List Int) (hl : xs.length ≤ 1099511627776) (hl' : ys.length ≤ 1099511627776) : Spec Tryz.prog 129 [ints xs, ints ys] (cb (decide (xs = ys))) := by
 refine Spec_of mx Γ_ok Tryz.func129 rfl ?_
 conv => whnf
 split <;> rename_i h0
 ·conv => whnf
  simp only [bne_iff_ne, ne_eq] at h0
  show cb false = _
  rw [ne_len (by omega)]
 conv => whnf
 have h0' : xs.length = ys.length := by
  have h3 : (xs.length : Int) = ys.length := by simpa using h0
  omega
 refine ⟨[(0,0),(1,0),(4,0),(5,0)], fun m s => ∃ (k : Nat) (e : Int), e = k ∧ m + k = xs.length ∧ decide (xs = ys) = decide (xs.drop k = ys.drop k) ∧
  s = ⟨26, [(0, ints xs), (1, ints ys), (4, cb false), (5, ci e)], []⟩, xs.length, ⟨0, 0, rfl, rfl, rfl, rfl⟩, ?_⟩
 rintro m s ⟨k, _, rfl, hm, hj, rfl⟩
 conv => whnf
 split <;> rename_i h1
 all_goals simp only [decide_eq_true_eq, decide_eq_false_iff_not] at h1
 ·conv => whnf
  have hk : k < xs.length := by omega
  have hk' : k < ys.length := by omega
  rw [drop_eq_at hk hk'] at hj
  refine ⟨List.range 9, by kernel_rfl, ?_⟩
  conv => whnf
  refine ⟨by omega, rows_len ciL_len xs, ?_⟩
  conv => whnf
  refine ⟨_, takeN_rp (k := k) ciL_len hk, ?_⟩
  conv => whnf
  refine ⟨by omega, rows_len ciL_len ys, ?_⟩
  conv => whnf
  refine ⟨_, takeN_rp (k := k) ciL_len hk', ?_⟩
  conv => whnf
  split <;> rename_i h2
  ·conv => whnf
   show cb false = _
   rw [hj, decide_eq_false (p := xs[k] = ys[k]) (by simpa using h2), Bool.false_and]
  ·conv => whnf
   rw [decide_eq_true (p := xs[k] = ys[k]) (by simpa using h2), Bool.true_and] at hj
   exact ⟨m - 1, by omega, k + 1, _, wrap_id (by omega) (by omega), by omega, hj, rfl⟩
 ·conv => whnf
  rw [hj, drop_end (by omega), drop_end (by omega)]
  rfl
theorem slicesEq_spec (xs ys : List Int) (hl : xs.length ≤ 1099511627776) (hl' : ys.length ≤ 1099511627776) : Spec Tryz.prog 197 [ints xs, ints ys] (cb (decide (xs = ys))) := by
 refine Spec_of mx Γ_ok Tryz.func197 rfl ?_
 conv => whnf
 split <;> rename_i h0
 ·conv => whnf
  simp only [bne_iff_ne, ne_eq] at h0
  show cb false = _
  rw [ne_len (by omega)]
 conv => whnf
 have h0' : xs.length = ys.length := by
  have h3 : (xs.length : Int) = ys.length := by simpa using h0
  omega
 refine ⟨[(0,0),(1,0),(4,0),(12,0),(13,0)], fun m s => ∃ (k : Nat) (e : Int), e = k ∧ m + k = xs.length ∧ decide (xs = ys) = decide (xs.drop k = ys.drop k) ∧
  s = ⟨26, [(0, ints xs), (1, ints ys), (4, cb false), (12, ci xs.length), (13, ci e)], []⟩, xs.length, ⟨0, 0, rfl, rfl, rfl, rfl⟩, ?_⟩
 rintro m s ⟨k, _, rfl, hm, hj, rfl⟩
 conv => whnf
 split <;> rename_i h1
 all_goals simp only [decide_eq_true_eq, decide_eq_false_iff_not] at h1
 ·conv => whnf
  have hk : k < xs.length := by omega
  have hk' : k < ys.length := by omega
  rw [drop_eq_at hk hk'] at hj
  refine ⟨List.range 9, by kernel_rfl, ?_⟩
  conv => whnf
  refine ⟨by omega, rows_len ciL_len xs, ?_⟩
  conv => whnf
  refine ⟨_, takeN_rp (k := k) ciL_len hk, ?_⟩
  conv => whnf
  refine ⟨by omega, rows_len ciL_len ys, ?_⟩
  conv => whnf
  refine ⟨_, takeN_rp (k := k) ciL_len hk', ?_⟩
  conv => whnf
  split <;> rename_i h2
  ·conv => whnf
   show cb false = _
   rw [hj, decide_eq_false (p := xs[k] = ys[k]) (by simpa using h2), Bool.false_and]
  ·conv => whnf
   rw [decide_eq_true (p := xs[k] = ys[k]) (by simpa using h2), Bool.true_and] at hj
   exact ⟨m - 1, by omega, k + 1, _, wrap_id (by omega) (by omega), by omega, hj, rfl⟩
 ·conv => whnf
  rw [hj, drop_end (by omega), drop_end (by omega)]
  rfl
end Go.Proofs.YtcjdfeafcmfgpaaGreatD
