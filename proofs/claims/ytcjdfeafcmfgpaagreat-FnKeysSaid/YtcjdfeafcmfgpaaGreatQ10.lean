/- Contracts of functions and plain laws that a proof of this seat rests on; no condition. -/
import Derived.Test.YtcjdfeafcmfgpaaGreatChecked
import Derived.Test.YtcjdfeafcmfgpaaGreatQ8
namespace Go.Proofs.YtcjdfeafcmfgpaaGreatD
open Go Go.Proofs
def ti1 : TI := { agg := false, size := 1, bytes := 8, zero := [Value.nilFunc], elem := none, fields := [], fsz := [], kind := none, str := false, boo := false, fty := [] }
theorem ti1_ok : tiOf Tryz.prog 1 = some ti1 := by kernel_rfl
def ti2 : TI := { agg := false, size := 1, bytes := 8, zero := [Value.int IntKind.i64 0], elem := none, fields := [], fsz := [], kind := some IntKind.i64, str := false, boo := false, fty := [] }
theorem ti2_ok : tiOf Tryz.prog 2 = some ti2 := by kernel_rfl
def ti3 : TI := { agg := false, size := 1, bytes := 8, zero := [Value.int IntKind.i64 0], elem := none, fields := [], fsz := [], kind := some IntKind.i64, str := false, boo := false, fty := [] }
theorem ti3_ok : tiOf Tryz.prog 3 = some ti3 := by kernel_rfl
def ti4 : TI := { agg := false, size := 1, bytes := 1, zero := [Value.bool false], elem := none, fields := [], fsz := [], kind := none, str := false, boo := true, fty := [] }
theorem ti4_ok : tiOf Tryz.prog 4 = some ti4 := by kernel_rfl
def ti5 : TI := { agg := false, size := 1, bytes := 1, zero := [Value.int IntKind.u8 0], elem := none, fields := [], fsz := [], kind := some IntKind.u8, str := false, boo := false, fty := [] }
theorem ti5_ok : tiOf Tryz.prog 5 = some ti5 := by kernel_rfl
def ti6 : TI := { agg := false, size := 1, bytes := 1, zero := [Value.int IntKind.u8 0], elem := none, fields := [], fsz := [], kind := some IntKind.u8, str := false, boo := false, fty := [] }
theorem ti6_ok : tiOf Tryz.prog 6 = some ti6 := by kernel_rfl
def ti7 : TI := { agg := true, size := 4, bytes := 24, zero := [Value.int IntKind.i64 0, Value.int IntKind.i64 0, Value.bool false, Value.int IntKind.u8 0], elem := none, fields := [0, 1, 2, 3], fsz := [1, 1, 1, 1], kind := none, str := false, boo := false, fty := [2, 3, 4, 6] }
theorem ti7_ok : tiOf Tryz.prog 7 = some ti7 := by kernel_rfl
def ti8 : TI := { agg := true, size := 4, bytes := 24, zero := [Value.int IntKind.i64 0, Value.int IntKind.i64 0, Value.bool false, Value.int IntKind.u8 0], elem := none, fields := [0, 1, 2, 3], fsz := [1, 1, 1, 1], kind := none, str := false, boo := false, fty := [2, 3, 4, 6] }
theorem ti8_ok : tiOf Tryz.prog 8 = some ti8 := by kernel_rfl
def ti9 : TI := { agg := false, size := 1, bytes := 16, zero := [Value.string ByteArray.empty], elem := none, fields := [], fsz := [], kind := none, str := true, boo := false, fty := [] }
theorem ti9_ok : tiOf Tryz.prog 9 = some ti9 := by kernel_rfl
def ti10 : TI := { agg := false, size := 1, bytes := 16, zero := [Value.string ByteArray.empty], elem := none, fields := [], fsz := [], kind := none, str := true, boo := false, fty := [] }
theorem ti10_ok : tiOf Tryz.prog 10 = some ti10 := by kernel_rfl
def ti11 : TI := { agg := false, size := 1, bytes := 16, zero := [Value.string ByteArray.empty], elem := none, fields := [], fsz := [], kind := none, str := true, boo := false, fty := [] }
theorem ti11_ok : tiOf Tryz.prog 11 = some ti11 := by kernel_rfl
def ti12 : TI := { agg := false, size := 1, bytes := 8, zero := [Value.int IntKind.u64 0], elem := none, fields := [], fsz := [], kind := some IntKind.u64, str := false, boo := false, fty := [] }
theorem ti12_ok : tiOf Tryz.prog 12 = some ti12 := by kernel_rfl
def ti13 : TI := { agg := true, size := 2, bytes := 24, zero := [Value.string ByteArray.empty, Value.int IntKind.u64 0], elem := none, fields := [0, 1], fsz := [1, 1], kind := none, str := false, boo := false, fty := [9, 12] }
theorem ti13_ok : tiOf Tryz.prog 13 = some ti13 := by kernel_rfl
def ti14 : TI := { agg := true, size := 2, bytes := 24, zero := [Value.string ByteArray.empty, Value.int IntKind.u64 0], elem := none, fields := [0, 1], fsz := [1, 1], kind := none, str := false, boo := false, fty := [9, 12] }
theorem ti14_ok : tiOf Tryz.prog 14 = some ti14 := by kernel_rfl
def ti15 : TI := { agg := false, size := 1, bytes := 8, zero := [Value.pointer none], elem := none, fields := [], fsz := [], kind := none, str := false, boo := false, fty := [] }
theorem ti15_ok : tiOf Tryz.prog 15 = some ti15 := by kernel_rfl
def ti16 : TI := { agg := false, size := 1, bytes := 8, zero := [Value.pointer none], elem := none, fields := [], fsz := [], kind := none, str := false, boo := false, fty := [] }
theorem ti16_ok : tiOf Tryz.prog 16 = some ti16 := by kernel_rfl
def ti17 : TI := { agg := false, size := 1, bytes := 8, zero := [Value.pointer none], elem := none, fields := [], fsz := [], kind := none, str := false, boo := false, fty := [] }
theorem ti17_ok : tiOf Tryz.prog 17 = some ti17 := by kernel_rfl
def ti18 : TI := { agg := true, size := 1, bytes := 8, zero := [Value.pointer none], elem := none, fields := [0], fsz := [1], kind := none, str := false, boo := false, fty := [17] }
theorem ti18_ok : tiOf Tryz.prog 18 = some ti18 := by kernel_rfl
def ti19 : TI := { agg := true, size := 1, bytes := 8, zero := [Value.pointer none], elem := none, fields := [0], fsz := [1], kind := none, str := false, boo := false, fty := [17] }
theorem ti19_ok : tiOf Tryz.prog 19 = some ti19 := by kernel_rfl
def ti21 : TI := { agg := false, size := 1, bytes := 4, zero := [Value.int IntKind.i32 0], elem := none, fields := [], fsz := [], kind := some IntKind.i32, str := false, boo := false, fty := [] }
theorem ti21_ok : tiOf Tryz.prog 21 = some ti21 := by kernel_rfl
def ti22 : TI := { agg := false, size := 1, bytes := 24, zero := [Value.slice none 0 0], elem := some 5, fields := [], fsz := [], kind := none, str := false, boo := false, fty := [] }
theorem ti22_ok : tiOf Tryz.prog 22 = some ti22 := by kernel_rfl
def ti23 : TI := { agg := false, size := 1, bytes := 8, zero := [Value.nilFunc], elem := none, fields := [], fsz := [], kind := none, str := false, boo := false, fty := [] }
theorem ti23_ok : tiOf Tryz.prog 23 = some ti23 := by kernel_rfl
def ti24 : TI := { agg := false, size := 1, bytes := 24, zero := [Value.slice none 0 0], elem := some 3, fields := [], fsz := [], kind := none, str := false, boo := false, fty := [] }
theorem ti24_ok : tiOf Tryz.prog 24 = some ti24 := by kernel_rfl
def ti25 : TI := { agg := true, size := 1, bytes := 24, zero := [Value.slice none 0 0], elem := none, fields := [0], fsz := [1], kind := none, str := false, boo := false, fty := [24] }
theorem ti25_ok : tiOf Tryz.prog 25 = some ti25 := by kernel_rfl
def ti26 : TI := { agg := true, size := 1, bytes := 24, zero := [Value.slice none 0 0], elem := none, fields := [0], fsz := [1], kind := none, str := false, boo := false, fty := [24] }
theorem ti26_ok : tiOf Tryz.prog 26 = some ti26 := by kernel_rfl
def ti27 : TI := { agg := false, size := 1, bytes := 24, zero := [Value.slice none 0 0], elem := some 111, fields := [], fsz := [], kind := none, str := false, boo := false, fty := [] }
theorem ti27_ok : tiOf Tryz.prog 27 = some ti27 := by kernel_rfl
def ti28 : TI := { agg := true, size := 2, bytes := 48, zero := [Value.slice none 0 0, Value.slice none 0 0], elem := none, fields := [0, 1], fsz := [1, 1], kind := none, str := false, boo := false, fty := [24, 27] }
theorem ti28_ok : tiOf Tryz.prog 28 = some ti28 := by kernel_rfl
def ti29 : TI := { agg := true, size := 2, bytes := 48, zero := [Value.slice none 0 0, Value.slice none 0 0], elem := none, fields := [0, 1], fsz := [1, 1], kind := none, str := false, boo := false, fty := [24, 27] }
theorem ti29_ok : tiOf Tryz.prog 29 = some ti29 := by kernel_rfl
def ti31 : TI := { agg := false, size := 1, bytes := 8, zero := [Value.nilFunc], elem := none, fields := [], fsz := [], kind := none, str := false, boo := false, fty := [] }
theorem ti31_ok : tiOf Tryz.prog 31 = some ti31 := by kernel_rfl
def ti32 : TI := { agg := false, size := 1, bytes := 8, zero := [Value.nilFunc], elem := none, fields := [], fsz := [], kind := none, str := false, boo := false, fty := [] }
theorem ti32_ok : tiOf Tryz.prog 32 = some ti32 := by kernel_rfl
def ti33 : TI := { agg := false, size := 1, bytes := 24, zero := [Value.slice none 0 0], elem := some 151, fields := [], fsz := [], kind := none, str := false, boo := false, fty := [] }
theorem ti33_ok : tiOf Tryz.prog 33 = some ti33 := by kernel_rfl
def ti35 : TI := { agg := false, size := 1, bytes := 8, zero := [Value.nilFunc], elem := none, fields := [], fsz := [], kind := none, str := false, boo := false, fty := [] }
theorem ti35_ok : tiOf Tryz.prog 35 = some ti35 := by kernel_rfl
def ti36 : TI := { agg := false, size := 1, bytes := 8, zero := [Value.nilFunc], elem := none, fields := [], fsz := [], kind := none, str := false, boo := false, fty := [] }
theorem ti36_ok : tiOf Tryz.prog 36 = some ti36 := by kernel_rfl
def ti37 : TI := { agg := false, size := 1, bytes := 24, zero := [Value.slice none 0 0], elem := some 24, fields := [], fsz := [], kind := none, str := false, boo := false, fty := [] }
theorem ti37_ok : tiOf Tryz.prog 37 = some ti37 := by kernel_rfl
def ti38 : TI := { agg := false, size := 1, bytes := 8, zero := [Value.nilFunc], elem := none, fields := [], fsz := [], kind := none, str := false, boo := false, fty := [] }
theorem ti38_ok : tiOf Tryz.prog 38 = some ti38 := by kernel_rfl
def ti40 : TI := { agg := false, size := 1, bytes := 8, zero := [Value.nilFunc], elem := none, fields := [], fsz := [], kind := none, str := false, boo := false, fty := [] }
theorem ti40_ok : tiOf Tryz.prog 40 = some ti40 := by kernel_rfl
def ti41 : TI := { agg := false, size := 1, bytes := 8, zero := [Value.nilFunc], elem := none, fields := [], fsz := [], kind := none, str := false, boo := false, fty := [] }
theorem ti41_ok : tiOf Tryz.prog 41 = some ti41 := by kernel_rfl
def ti42 : TI := { agg := false, size := 1, bytes := 8, zero := [Value.nilFunc], elem := none, fields := [], fsz := [], kind := none, str := false, boo := false, fty := [] }
theorem ti42_ok : tiOf Tryz.prog 42 = some ti42 := by kernel_rfl
def ti43 : TI := { agg := false, size := 1, bytes := 24, zero := [Value.slice none 0 0], elem := some 144, fields := [], fsz := [], kind := none, str := false, boo := false, fty := [] }
theorem ti43_ok : tiOf Tryz.prog 43 = some ti43 := by kernel_rfl
def ti44 : TI := { agg := false, size := 1, bytes := 24, zero := [Value.slice none 0 0], elem := some 54, fields := [], fsz := [], kind := none, str := false, boo := false, fty := [] }
theorem ti44_ok : tiOf Tryz.prog 44 = some ti44 := by kernel_rfl
def ti46 : TI := { agg := false, size := 1, bytes := 8, zero := [Value.nilFunc], elem := none, fields := [], fsz := [], kind := none, str := false, boo := false, fty := [] }
theorem ti46_ok : tiOf Tryz.prog 46 = some ti46 := by kernel_rfl
def ti47 : TI := { agg := false, size := 1, bytes := 8, zero := [Value.nilFunc], elem := none, fields := [], fsz := [], kind := none, str := false, boo := false, fty := [] }
theorem ti47_ok : tiOf Tryz.prog 47 = some ti47 := by kernel_rfl
def ti49 : TI := { agg := false, size := 1, bytes := 8, zero := [Value.nilFunc], elem := none, fields := [], fsz := [], kind := none, str := false, boo := false, fty := [] }
theorem ti49_ok : tiOf Tryz.prog 49 = some ti49 := by kernel_rfl
def ti50 : TI := { agg := false, size := 1, bytes := 8, zero := [Value.nilFunc], elem := none, fields := [], fsz := [], kind := none, str := false, boo := false, fty := [] }
theorem ti50_ok : tiOf Tryz.prog 50 = some ti50 := by kernel_rfl
def ti51 : TI := { agg := false, size := 1, bytes := 8, zero := [Value.nilFunc], elem := none, fields := [], fsz := [], kind := none, str := false, boo := false, fty := [] }
theorem ti51_ok : tiOf Tryz.prog 51 = some ti51 := by kernel_rfl
def ti52 : TI := { agg := false, size := 1, bytes := 8, zero := [Value.nilFunc], elem := none, fields := [], fsz := [], kind := none, str := false, boo := false, fty := [] }
theorem ti52_ok : tiOf Tryz.prog 52 = some ti52 := by kernel_rfl
def ti53 : TI := { agg := true, size := 4, bytes := 64, zero := [Value.int IntKind.i64 0, Value.slice none 0 0, Value.int IntKind.i64 0, Value.slice none 0 0], elem := none, fields := [0, 1, 2, 3], fsz := [1, 1, 1, 1], kind := none, str := false, boo := false, fty := [3, 24, 3, 24] }
theorem ti53_ok : tiOf Tryz.prog 53 = some ti53 := by kernel_rfl
def ti54 : TI := { agg := true, size := 4, bytes := 64, zero := [Value.int IntKind.i64 0, Value.slice none 0 0, Value.int IntKind.i64 0, Value.slice none 0 0], elem := none, fields := [0, 1, 2, 3], fsz := [1, 1, 1, 1], kind := none, str := false, boo := false, fty := [3, 24, 3, 24] }
theorem ti54_ok : tiOf Tryz.prog 54 = some ti54 := by kernel_rfl
def ti55 : TI := { agg := false, size := 1, bytes := 8, zero := [Value.nilFunc], elem := none, fields := [], fsz := [], kind := none, str := false, boo := false, fty := [] }
theorem ti55_ok : tiOf Tryz.prog 55 = some ti55 := by kernel_rfl
def ti57 : TI := { agg := false, size := 1, bytes := 8, zero := [Value.nilFunc], elem := none, fields := [], fsz := [], kind := none, str := false, boo := false, fty := [] }
theorem ti57_ok : tiOf Tryz.prog 57 = some ti57 := by kernel_rfl
def ti58 : TI := { agg := false, size := 1, bytes := 8, zero := [Value.nilFunc], elem := none, fields := [], fsz := [], kind := none, str := false, boo := false, fty := [] }
theorem ti58_ok : tiOf Tryz.prog 58 = some ti58 := by kernel_rfl
def ti60 : TI := { agg := false, size := 1, bytes := 8, zero := [Value.nilFunc], elem := none, fields := [], fsz := [], kind := none, str := false, boo := false, fty := [] }
theorem ti60_ok : tiOf Tryz.prog 60 = some ti60 := by kernel_rfl
def ti61 : TI := { agg := false, size := 1, bytes := 24, zero := [Value.slice none 0 0], elem := some 29, fields := [], fsz := [], kind := none, str := false, boo := false, fty := [] }
theorem ti61_ok : tiOf Tryz.prog 61 = some ti61 := by kernel_rfl
def ti63 : TI := { agg := false, size := 1, bytes := 8, zero := [Value.nilFunc], elem := none, fields := [], fsz := [], kind := none, str := false, boo := false, fty := [] }
theorem ti63_ok : tiOf Tryz.prog 63 = some ti63 := by kernel_rfl
def ti65 : TI := { agg := false, size := 1, bytes := 8, zero := [Value.nilFunc], elem := none, fields := [], fsz := [], kind := none, str := false, boo := false, fty := [] }
theorem ti65_ok : tiOf Tryz.prog 65 = some ti65 := by kernel_rfl
def ti66 : TI := { agg := false, size := 1, bytes := 8, zero := [Value.nilFunc], elem := none, fields := [], fsz := [], kind := none, str := false, boo := false, fty := [] }
theorem ti66_ok : tiOf Tryz.prog 66 = some ti66 := by kernel_rfl
def ti67 : TI := { agg := false, size := 1, bytes := 8, zero := [Value.nilFunc], elem := none, fields := [], fsz := [], kind := none, str := false, boo := false, fty := [] }
theorem ti67_ok : tiOf Tryz.prog 67 = some ti67 := by kernel_rfl
def ti68 : TI := { agg := false, size := 1, bytes := 8, zero := [Value.nilFunc], elem := none, fields := [], fsz := [], kind := none, str := false, boo := false, fty := [] }
theorem ti68_ok : tiOf Tryz.prog 68 = some ti68 := by kernel_rfl
def ti69 : TI := { agg := false, size := 1, bytes := 8, zero := [Value.nilFunc], elem := none, fields := [], fsz := [], kind := none, str := false, boo := false, fty := [] }
theorem ti69_ok : tiOf Tryz.prog 69 = some ti69 := by kernel_rfl
def ti70 : TI := { agg := false, size := 1, bytes := 8, zero := [Value.nilFunc], elem := none, fields := [], fsz := [], kind := none, str := false, boo := false, fty := [] }
theorem ti70_ok : tiOf Tryz.prog 70 = some ti70 := by kernel_rfl
def ti71 : TI := { agg := false, size := 1, bytes := 8, zero := [Value.nilFunc], elem := none, fields := [], fsz := [], kind := none, str := false, boo := false, fty := [] }
theorem ti71_ok : tiOf Tryz.prog 71 = some ti71 := by kernel_rfl
def ti72 : TI := { agg := false, size := 1, bytes := 8, zero := [Value.nilFunc], elem := none, fields := [], fsz := [], kind := none, str := false, boo := false, fty := [] }
theorem ti72_ok : tiOf Tryz.prog 72 = some ti72 := by kernel_rfl
def ti73 : TI := { agg := false, size := 1, bytes := 8, zero := [Value.nilFunc], elem := none, fields := [], fsz := [], kind := none, str := false, boo := false, fty := [] }
theorem ti73_ok : tiOf Tryz.prog 73 = some ti73 := by kernel_rfl
def ti75 : TI := { agg := false, size := 1, bytes := 8, zero := [Value.nilFunc], elem := none, fields := [], fsz := [], kind := none, str := false, boo := false, fty := [] }
theorem ti75_ok : tiOf Tryz.prog 75 = some ti75 := by kernel_rfl
def ti76 : TI := { agg := false, size := 1, bytes := 8, zero := [Value.nilFunc], elem := none, fields := [], fsz := [], kind := none, str := false, boo := false, fty := [] }
theorem ti76_ok : tiOf Tryz.prog 76 = some ti76 := by kernel_rfl
def ti77 : TI := { agg := false, size := 1, bytes := 8, zero := [Value.nilFunc], elem := none, fields := [], fsz := [], kind := none, str := false, boo := false, fty := [] }
theorem ti77_ok : tiOf Tryz.prog 77 = some ti77 := by kernel_rfl
def ti79 : TI := { agg := false, size := 1, bytes := 8, zero := [Value.nilFunc], elem := none, fields := [], fsz := [], kind := none, str := false, boo := false, fty := [] }
theorem ti79_ok : tiOf Tryz.prog 79 = some ti79 := by kernel_rfl
def ti80 : TI := { agg := false, size := 1, bytes := 8, zero := [Value.nilFunc], elem := none, fields := [], fsz := [], kind := none, str := false, boo := false, fty := [] }
theorem ti80_ok : tiOf Tryz.prog 80 = some ti80 := by kernel_rfl
def ti81 : TI := { agg := false, size := 1, bytes := 8, zero := [Value.nilFunc], elem := none, fields := [], fsz := [], kind := none, str := false, boo := false, fty := [] }
theorem ti81_ok : tiOf Tryz.prog 81 = some ti81 := by kernel_rfl
def ti82 : TI := { agg := false, size := 1, bytes := 24, zero := [Value.slice none 0 0], elem := some 86, fields := [], fsz := [], kind := none, str := false, boo := false, fty := [] }
theorem ti82_ok : tiOf Tryz.prog 82 = some ti82 := by kernel_rfl
def ti83 : TI := { agg := false, size := 1, bytes := 8, zero := [Value.nilFunc], elem := none, fields := [], fsz := [], kind := none, str := false, boo := false, fty := [] }
theorem ti83_ok : tiOf Tryz.prog 83 = some ti83 := by kernel_rfl
def ti84 : TI := { agg := false, size := 1, bytes := 8, zero := [Value.nilFunc], elem := none, fields := [], fsz := [], kind := none, str := false, boo := false, fty := [] }
theorem ti84_ok : tiOf Tryz.prog 84 = some ti84 := by kernel_rfl
def ti85 : TI := { agg := true, size := 2, bytes := 32, zero := [Value.slice none 0 0, Value.int IntKind.i64 0], elem := none, fields := [0, 1], fsz := [1, 1], kind := none, str := false, boo := false, fty := [24, 3] }
theorem ti85_ok : tiOf Tryz.prog 85 = some ti85 := by kernel_rfl
def ti86 : TI := { agg := true, size := 2, bytes := 32, zero := [Value.slice none 0 0, Value.int IntKind.i64 0], elem := none, fields := [0, 1], fsz := [1, 1], kind := none, str := false, boo := false, fty := [24, 3] }
theorem ti86_ok : tiOf Tryz.prog 86 = some ti86 := by kernel_rfl
def ti88 : TI := { agg := false, size := 1, bytes := 8, zero := [Value.nilFunc], elem := none, fields := [], fsz := [], kind := none, str := false, boo := false, fty := [] }
theorem ti88_ok : tiOf Tryz.prog 88 = some ti88 := by kernel_rfl
def ti90 : TI := { agg := false, size := 1, bytes := 8, zero := [Value.nilFunc], elem := none, fields := [], fsz := [], kind := none, str := false, boo := false, fty := [] }
theorem ti90_ok : tiOf Tryz.prog 90 = some ti90 := by kernel_rfl
def ti92 : TI := { agg := false, size := 1, bytes := 8, zero := [Value.nilFunc], elem := none, fields := [], fsz := [], kind := none, str := false, boo := false, fty := [] }
theorem ti92_ok : tiOf Tryz.prog 92 = some ti92 := by kernel_rfl
def ti93 : TI := { agg := true, size := 1, bytes := 24, zero := [Value.slice none 0 0], elem := none, fields := [0], fsz := [1], kind := none, str := false, boo := false, fty := [24] }
theorem ti93_ok : tiOf Tryz.prog 93 = some ti93 := by kernel_rfl
def ti94 : TI := { agg := false, size := 1, bytes := 24, zero := [Value.slice none 0 0], elem := some 240, fields := [], fsz := [], kind := none, str := false, boo := false, fty := [] }
theorem ti94_ok : tiOf Tryz.prog 94 = some ti94 := by kernel_rfl
def ti95 : TI := { agg := true, size := 2, bytes := 48, zero := [Value.slice none 0 0, Value.slice none 0 0], elem := none, fields := [0, 1], fsz := [1, 1], kind := none, str := false, boo := false, fty := [24, 94] }
theorem ti95_ok : tiOf Tryz.prog 95 = some ti95 := by kernel_rfl
def ti96 : TI := { agg := true, size := 2, bytes := 48, zero := [Value.slice none 0 0, Value.slice none 0 0], elem := none, fields := [0, 1], fsz := [1, 1], kind := none, str := false, boo := false, fty := [24, 94] }
theorem ti96_ok : tiOf Tryz.prog 96 = some ti96 := by kernel_rfl
def ti97 : TI := { agg := false, size := 1, bytes := 8, zero := [Value.nilFunc], elem := none, fields := [], fsz := [], kind := none, str := false, boo := false, fty := [] }
theorem ti97_ok : tiOf Tryz.prog 97 = some ti97 := by kernel_rfl
def ti98 : TI := { agg := false, size := 1, bytes := 8, zero := [Value.nilFunc], elem := none, fields := [], fsz := [], kind := none, str := false, boo := false, fty := [] }
theorem ti98_ok : tiOf Tryz.prog 98 = some ti98 := by kernel_rfl
def ti100 : TI := { agg := false, size := 1, bytes := 8, zero := [Value.nilFunc], elem := none, fields := [], fsz := [], kind := none, str := false, boo := false, fty := [] }
theorem ti100_ok : tiOf Tryz.prog 100 = some ti100 := by kernel_rfl
def ti101 : TI := { agg := false, size := 1, bytes := 8, zero := [Value.nilFunc], elem := none, fields := [], fsz := [], kind := none, str := false, boo := false, fty := [] }
theorem ti101_ok : tiOf Tryz.prog 101 = some ti101 := by kernel_rfl
def ti102 : TI := { agg := false, size := 1, bytes := 8, zero := [Value.nilFunc], elem := none, fields := [], fsz := [], kind := none, str := false, boo := false, fty := [] }
theorem ti102_ok : tiOf Tryz.prog 102 = some ti102 := by kernel_rfl
def ti103 : TI := { agg := false, size := 1, bytes := 8, zero := [Value.nilFunc], elem := none, fields := [], fsz := [], kind := none, str := false, boo := false, fty := [] }
theorem ti103_ok : tiOf Tryz.prog 103 = some ti103 := by kernel_rfl
def ti104 : TI := { agg := false, size := 1, bytes := 8, zero := [Value.nilFunc], elem := none, fields := [], fsz := [], kind := none, str := false, boo := false, fty := [] }
theorem ti104_ok : tiOf Tryz.prog 104 = some ti104 := by kernel_rfl
def ti105 : TI := { agg := false, size := 1, bytes := 8, zero := [Value.nilFunc], elem := none, fields := [], fsz := [], kind := none, str := false, boo := false, fty := [] }
theorem ti105_ok : tiOf Tryz.prog 105 = some ti105 := by kernel_rfl
def ti106 : TI := { agg := false, size := 1, bytes := 8, zero := [Value.nilFunc], elem := none, fields := [], fsz := [], kind := none, str := false, boo := false, fty := [] }
theorem ti106_ok : tiOf Tryz.prog 106 = some ti106 := by kernel_rfl
def ti107 : TI := { agg := false, size := 1, bytes := 8, zero := [Value.nilFunc], elem := none, fields := [], fsz := [], kind := none, str := false, boo := false, fty := [] }
theorem ti107_ok : tiOf Tryz.prog 107 = some ti107 := by kernel_rfl
def ti108 : TI := { agg := false, size := 1, bytes := 8, zero := [Value.nilFunc], elem := none, fields := [], fsz := [], kind := none, str := false, boo := false, fty := [] }
theorem ti108_ok : tiOf Tryz.prog 108 = some ti108 := by kernel_rfl
def ti109 : TI := { agg := false, size := 1, bytes := 8, zero := [Value.nilFunc], elem := none, fields := [], fsz := [], kind := none, str := false, boo := false, fty := [] }
theorem ti109_ok : tiOf Tryz.prog 109 = some ti109 := by kernel_rfl
def ti110 : TI := { agg := true, size := 2, bytes := 32, zero := [Value.int IntKind.i64 0, Value.slice none 0 0], elem := none, fields := [0, 1], fsz := [1, 1], kind := none, str := false, boo := false, fty := [3, 24] }
theorem ti110_ok : tiOf Tryz.prog 110 = some ti110 := by kernel_rfl
def ti111 : TI := { agg := true, size := 2, bytes := 32, zero := [Value.int IntKind.i64 0, Value.slice none 0 0], elem := none, fields := [0, 1], fsz := [1, 1], kind := none, str := false, boo := false, fty := [3, 24] }
theorem ti111_ok : tiOf Tryz.prog 111 = some ti111 := by kernel_rfl
def ti113 : TI := { agg := false, size := 1, bytes := 8, zero := [Value.nilFunc], elem := none, fields := [], fsz := [], kind := none, str := false, boo := false, fty := [] }
theorem ti113_ok : tiOf Tryz.prog 113 = some ti113 := by kernel_rfl
def ti115 : TI := { agg := false, size := 1, bytes := 8, zero := [Value.nilFunc], elem := none, fields := [], fsz := [], kind := none, str := false, boo := false, fty := [] }
theorem ti115_ok : tiOf Tryz.prog 115 = some ti115 := by kernel_rfl
def ti117 : TI := { agg := false, size := 1, bytes := 8, zero := [Value.nilFunc], elem := none, fields := [], fsz := [], kind := none, str := false, boo := false, fty := [] }
theorem ti117_ok : tiOf Tryz.prog 117 = some ti117 := by kernel_rfl
def ti118 : TI := { agg := false, size := 1, bytes := 8, zero := [Value.nilFunc], elem := none, fields := [], fsz := [], kind := none, str := false, boo := false, fty := [] }
theorem ti118_ok : tiOf Tryz.prog 118 = some ti118 := by kernel_rfl
def ti119 : TI := { agg := false, size := 1, bytes := 8, zero := [Value.nilFunc], elem := none, fields := [], fsz := [], kind := none, str := false, boo := false, fty := [] }
theorem ti119_ok : tiOf Tryz.prog 119 = some ti119 := by kernel_rfl
def ti121 : TI := { agg := false, size := 1, bytes := 8, zero := [Value.nilFunc], elem := none, fields := [], fsz := [], kind := none, str := false, boo := false, fty := [] }
theorem ti121_ok : tiOf Tryz.prog 121 = some ti121 := by kernel_rfl
def ti122 : TI := { agg := false, size := 1, bytes := 8, zero := [Value.nilFunc], elem := none, fields := [], fsz := [], kind := none, str := false, boo := false, fty := [] }
theorem ti122_ok : tiOf Tryz.prog 122 = some ti122 := by kernel_rfl
def ti123 : TI := { agg := false, size := 1, bytes := 8, zero := [Value.pointer none], elem := none, fields := [], fsz := [], kind := none, str := false, boo := false, fty := [] }
theorem ti123_ok : tiOf Tryz.prog 123 = some ti123 := by kernel_rfl
def ti124 : TI := { agg := false, size := 1, bytes := 8, zero := [Value.nilFunc], elem := none, fields := [], fsz := [], kind := none, str := false, boo := false, fty := [] }
theorem ti124_ok : tiOf Tryz.prog 124 = some ti124 := by kernel_rfl
def ti125 : TI := { agg := false, size := 1, bytes := 8, zero := [Value.nilFunc], elem := none, fields := [], fsz := [], kind := none, str := false, boo := false, fty := [] }
theorem ti125_ok : tiOf Tryz.prog 125 = some ti125 := by kernel_rfl
def ti126 : TI := { agg := false, size := 1, bytes := 8, zero := [Value.nilFunc], elem := none, fields := [], fsz := [], kind := none, str := false, boo := false, fty := [] }
theorem ti126_ok : tiOf Tryz.prog 126 = some ti126 := by kernel_rfl
def ti127 : TI := { agg := false, size := 1, bytes := 8, zero := [Value.nilFunc], elem := none, fields := [], fsz := [], kind := none, str := false, boo := false, fty := [] }
theorem ti127_ok : tiOf Tryz.prog 127 = some ti127 := by kernel_rfl
def ti128 : TI := { agg := false, size := 1, bytes := 8, zero := [Value.nilFunc], elem := none, fields := [], fsz := [], kind := none, str := false, boo := false, fty := [] }
theorem ti128_ok : tiOf Tryz.prog 128 = some ti128 := by kernel_rfl
def ti129 : TI := { agg := false, size := 1, bytes := 8, zero := [Value.nilFunc], elem := none, fields := [], fsz := [], kind := none, str := false, boo := false, fty := [] }
theorem ti129_ok : tiOf Tryz.prog 129 = some ti129 := by kernel_rfl
def ti130 : TI := { agg := false, size := 1, bytes := 8, zero := [Value.nilFunc], elem := none, fields := [], fsz := [], kind := none, str := false, boo := false, fty := [] }
theorem ti130_ok : tiOf Tryz.prog 130 = some ti130 := by kernel_rfl
def ti131 : TI := { agg := false, size := 1, bytes := 8, zero := [Value.nilFunc], elem := none, fields := [], fsz := [], kind := none, str := false, boo := false, fty := [] }
theorem ti131_ok : tiOf Tryz.prog 131 = some ti131 := by kernel_rfl
def ti132 : TI := { agg := false, size := 1, bytes := 8, zero := [Value.nilFunc], elem := none, fields := [], fsz := [], kind := none, str := false, boo := false, fty := [] }
theorem ti132_ok : tiOf Tryz.prog 132 = some ti132 := by kernel_rfl
def ti133 : TI := { agg := false, size := 1, bytes := 8, zero := [Value.nilFunc], elem := none, fields := [], fsz := [], kind := none, str := false, boo := false, fty := [] }
theorem ti133_ok : tiOf Tryz.prog 133 = some ti133 := by kernel_rfl
def ti134 : TI := { agg := false, size := 1, bytes := 8, zero := [Value.nilFunc], elem := none, fields := [], fsz := [], kind := none, str := false, boo := false, fty := [] }
theorem ti134_ok : tiOf Tryz.prog 134 = some ti134 := by kernel_rfl
def ti135 : TI := { agg := false, size := 1, bytes := 8, zero := [Value.nilFunc], elem := none, fields := [], fsz := [], kind := none, str := false, boo := false, fty := [] }
theorem ti135_ok : tiOf Tryz.prog 135 = some ti135 := by kernel_rfl
def ti137 : TI := { agg := false, size := 1, bytes := 8, zero := [Value.nilFunc], elem := none, fields := [], fsz := [], kind := none, str := false, boo := false, fty := [] }
theorem ti137_ok : tiOf Tryz.prog 137 = some ti137 := by kernel_rfl
def ti138 : TI := { agg := false, size := 1, bytes := 8, zero := [Value.nilFunc], elem := none, fields := [], fsz := [], kind := none, str := false, boo := false, fty := [] }
theorem ti138_ok : tiOf Tryz.prog 138 = some ti138 := by kernel_rfl
def ti140 : TI := { agg := false, size := 1, bytes := 8, zero := [Value.nilFunc], elem := none, fields := [], fsz := [], kind := none, str := false, boo := false, fty := [] }
theorem ti140_ok : tiOf Tryz.prog 140 = some ti140 := by kernel_rfl
def ti141 : TI := { agg := false, size := 1, bytes := 8, zero := [Value.nilFunc], elem := none, fields := [], fsz := [], kind := none, str := false, boo := false, fty := [] }
theorem ti141_ok : tiOf Tryz.prog 141 = some ti141 := by kernel_rfl
def ti142 : TI := { agg := false, size := 1, bytes := 8, zero := [Value.nilFunc], elem := none, fields := [], fsz := [], kind := none, str := false, boo := false, fty := [] }
theorem ti142_ok : tiOf Tryz.prog 142 = some ti142 := by kernel_rfl
def ti143 : TI := { agg := true, size := 2, bytes := 32, zero := [Value.int IntKind.i64 0, Value.slice none 0 0], elem := none, fields := [0, 1], fsz := [1, 1], kind := none, str := false, boo := false, fty := [3, 24] }
theorem ti143_ok : tiOf Tryz.prog 143 = some ti143 := by kernel_rfl
def ti144 : TI := { agg := true, size := 2, bytes := 32, zero := [Value.int IntKind.i64 0, Value.slice none 0 0], elem := none, fields := [0, 1], fsz := [1, 1], kind := none, str := false, boo := false, fty := [3, 24] }
theorem ti144_ok : tiOf Tryz.prog 144 = some ti144 := by kernel_rfl
def ti145 : TI := { agg := false, size := 1, bytes := 8, zero := [Value.nilFunc], elem := none, fields := [], fsz := [], kind := none, str := false, boo := false, fty := [] }
theorem ti145_ok : tiOf Tryz.prog 145 = some ti145 := by kernel_rfl
def ti146 : TI := { agg := false, size := 1, bytes := 8, zero := [Value.nilFunc], elem := none, fields := [], fsz := [], kind := none, str := false, boo := false, fty := [] }
theorem ti146_ok : tiOf Tryz.prog 146 = some ti146 := by kernel_rfl
def ti147 : TI := { agg := false, size := 1, bytes := 8, zero := [Value.nilFunc], elem := none, fields := [], fsz := [], kind := none, str := false, boo := false, fty := [] }
theorem ti147_ok : tiOf Tryz.prog 147 = some ti147 := by kernel_rfl
def ti148 : TI := { agg := false, size := 1, bytes := 8, zero := [Value.nilFunc], elem := none, fields := [], fsz := [], kind := none, str := false, boo := false, fty := [] }
theorem ti148_ok : tiOf Tryz.prog 148 = some ti148 := by kernel_rfl
def ti149 : TI := { agg := false, size := 1, bytes := 8, zero := [Value.nilFunc], elem := none, fields := [], fsz := [], kind := none, str := false, boo := false, fty := [] }
theorem ti149_ok : tiOf Tryz.prog 149 = some ti149 := by kernel_rfl
def ti150 : TI := { agg := false, size := 1, bytes := 8, zero := [Value.nilFunc], elem := none, fields := [], fsz := [], kind := none, str := false, boo := false, fty := [] }
theorem ti150_ok : tiOf Tryz.prog 150 = some ti150 := by kernel_rfl
def ti151 : TI := { agg := true, size := 2, bytes := 32, zero := [Value.int IntKind.i64 0, Value.slice none 0 0], elem := none, fields := [0, 1], fsz := [1, 1], kind := none, str := false, boo := false, fty := [3, 24] }
theorem ti151_ok : tiOf Tryz.prog 151 = some ti151 := by kernel_rfl
def ti152 : TI := { agg := false, size := 1, bytes := 8, zero := [Value.nilFunc], elem := none, fields := [], fsz := [], kind := none, str := false, boo := false, fty := [] }
theorem ti152_ok : tiOf Tryz.prog 152 = some ti152 := by kernel_rfl
def ti153 : TI := { agg := false, size := 1, bytes := 8, zero := [Value.nilFunc], elem := none, fields := [], fsz := [], kind := none, str := false, boo := false, fty := [] }
theorem ti153_ok : tiOf Tryz.prog 153 = some ti153 := by kernel_rfl
def ti154 : TI := { agg := false, size := 1, bytes := 8, zero := [Value.nilFunc], elem := none, fields := [], fsz := [], kind := none, str := false, boo := false, fty := [] }
theorem ti154_ok : tiOf Tryz.prog 154 = some ti154 := by kernel_rfl
def ti155 : TI := { agg := false, size := 1, bytes := 24, zero := [Value.slice none 0 0], elem := some 4, fields := [], fsz := [], kind := none, str := false, boo := false, fty := [] }
theorem ti155_ok : tiOf Tryz.prog 155 = some ti155 := by kernel_rfl
def ti156 : TI := { agg := false, size := 1, bytes := 8, zero := [Value.nilFunc], elem := none, fields := [], fsz := [], kind := none, str := false, boo := false, fty := [] }
theorem ti156_ok : tiOf Tryz.prog 156 = some ti156 := by kernel_rfl
def ti157 : TI := { agg := false, size := 1, bytes := 8, zero := [Value.nilFunc], elem := none, fields := [], fsz := [], kind := none, str := false, boo := false, fty := [] }
theorem ti157_ok : tiOf Tryz.prog 157 = some ti157 := by kernel_rfl
def ti158 : TI := { agg := false, size := 1, bytes := 8, zero := [Value.nilFunc], elem := none, fields := [], fsz := [], kind := none, str := false, boo := false, fty := [] }
theorem ti158_ok : tiOf Tryz.prog 158 = some ti158 := by kernel_rfl
def ti159 : TI := { agg := false, size := 1, bytes := 8, zero := [Value.nilFunc], elem := none, fields := [], fsz := [], kind := none, str := false, boo := false, fty := [] }
theorem ti159_ok : tiOf Tryz.prog 159 = some ti159 := by kernel_rfl
def ti160 : TI := { agg := false, size := 1, bytes := 8, zero := [Value.nilFunc], elem := none, fields := [], fsz := [], kind := none, str := false, boo := false, fty := [] }
theorem ti160_ok : tiOf Tryz.prog 160 = some ti160 := by kernel_rfl
def ti161 : TI := { agg := false, size := 1, bytes := 8, zero := [Value.nilFunc], elem := none, fields := [], fsz := [], kind := none, str := false, boo := false, fty := [] }
theorem ti161_ok : tiOf Tryz.prog 161 = some ti161 := by kernel_rfl
def ti162 : TI := { agg := false, size := 1, bytes := 8, zero := [Value.nilFunc], elem := none, fields := [], fsz := [], kind := none, str := false, boo := false, fty := [] }
theorem ti162_ok : tiOf Tryz.prog 162 = some ti162 := by kernel_rfl
def ti163 : TI := { agg := false, size := 1, bytes := 8, zero := [Value.nilFunc], elem := none, fields := [], fsz := [], kind := none, str := false, boo := false, fty := [] }
theorem ti163_ok : tiOf Tryz.prog 163 = some ti163 := by kernel_rfl
def ti164 : TI := { agg := false, size := 1, bytes := 8, zero := [Value.nilFunc], elem := none, fields := [], fsz := [], kind := none, str := false, boo := false, fty := [] }
theorem ti164_ok : tiOf Tryz.prog 164 = some ti164 := by kernel_rfl
def ti165 : TI := { agg := false, size := 1, bytes := 8, zero := [Value.nilFunc], elem := none, fields := [], fsz := [], kind := none, str := false, boo := false, fty := [] }
theorem ti165_ok : tiOf Tryz.prog 165 = some ti165 := by kernel_rfl
def ti166 : TI := { agg := false, size := 1, bytes := 8, zero := [Value.nilFunc], elem := none, fields := [], fsz := [], kind := none, str := false, boo := false, fty := [] }
theorem ti166_ok : tiOf Tryz.prog 166 = some ti166 := by kernel_rfl
def ti167 : TI := { agg := false, size := 1, bytes := 8, zero := [Value.nilFunc], elem := none, fields := [], fsz := [], kind := none, str := false, boo := false, fty := [] }
theorem ti167_ok : tiOf Tryz.prog 167 = some ti167 := by kernel_rfl
def ti168 : TI := { agg := false, size := 1, bytes := 8, zero := [Value.nilFunc], elem := none, fields := [], fsz := [], kind := none, str := false, boo := false, fty := [] }
theorem ti168_ok : tiOf Tryz.prog 168 = some ti168 := by kernel_rfl
def ti169 : TI := { agg := true, size := 20, bytes := 160, zero := [Value.int IntKind.i64 0, Value.int IntKind.i64 0, Value.int IntKind.i64 0, Value.int IntKind.i64 0, Value.int IntKind.i64 0, Value.int IntKind.i64 0, Value.int IntKind.i64 0, Value.int IntKind.i64 0, Value.int IntKind.i64 0, Value.int IntKind.i64 0, Value.int IntKind.i64 0, Value.int IntKind.i64 0, Value.int IntKind.i64 0, Value.int IntKind.i64 0, Value.int IntKind.i64 0, Value.int IntKind.i64 0, Value.int IntKind.i64 0, Value.int IntKind.i64 0, Value.int IntKind.i64 0, Value.int IntKind.i64 0], elem := none, fields := [], fsz := [20, 3], kind := none, str := false, boo := false, fty := [] }
theorem ti169_ok : tiOf Tryz.prog 169 = some ti169 := by kernel_rfl
def ti170 : TI := { agg := true, size := 20, bytes := 20, zero := [Value.bool false, Value.bool false, Value.bool false, Value.bool false, Value.bool false, Value.bool false, Value.bool false, Value.bool false, Value.bool false, Value.bool false, Value.bool false, Value.bool false, Value.bool false, Value.bool false, Value.bool false, Value.bool false, Value.bool false, Value.bool false, Value.bool false, Value.bool false], elem := none, fields := [], fsz := [20, 4], kind := none, str := false, boo := false, fty := [] }
theorem ti170_ok : tiOf Tryz.prog 170 = some ti170 := by kernel_rfl
def ti171 : TI := { agg := true, size := 40, bytes := 184, zero := [Value.int IntKind.i64 0, Value.int IntKind.i64 0, Value.int IntKind.i64 0, Value.int IntKind.i64 0, Value.int IntKind.i64 0, Value.int IntKind.i64 0, Value.int IntKind.i64 0, Value.int IntKind.i64 0, Value.int IntKind.i64 0, Value.int IntKind.i64 0, Value.int IntKind.i64 0, Value.int IntKind.i64 0, Value.int IntKind.i64 0, Value.int IntKind.i64 0, Value.int IntKind.i64 0, Value.int IntKind.i64 0, Value.int IntKind.i64 0, Value.int IntKind.i64 0, Value.int IntKind.i64 0, Value.int IntKind.i64 0, Value.bool false, Value.bool false, Value.bool false, Value.bool false, Value.bool false, Value.bool false, Value.bool false, Value.bool false, Value.bool false, Value.bool false, Value.bool false, Value.bool false, Value.bool false, Value.bool false, Value.bool false, Value.bool false, Value.bool false, Value.bool false, Value.bool false, Value.bool false], elem := none, fields := [0, 20], fsz := [20, 20], kind := none, str := false, boo := false, fty := [169, 170] }
theorem ti171_ok : tiOf Tryz.prog 171 = some ti171 := by kernel_rfl
def ti172 : TI := { agg := true, size := 40, bytes := 184, zero := [Value.int IntKind.i64 0, Value.int IntKind.i64 0, Value.int IntKind.i64 0, Value.int IntKind.i64 0, Value.int IntKind.i64 0, Value.int IntKind.i64 0, Value.int IntKind.i64 0, Value.int IntKind.i64 0, Value.int IntKind.i64 0, Value.int IntKind.i64 0, Value.int IntKind.i64 0, Value.int IntKind.i64 0, Value.int IntKind.i64 0, Value.int IntKind.i64 0, Value.int IntKind.i64 0, Value.int IntKind.i64 0, Value.int IntKind.i64 0, Value.int IntKind.i64 0, Value.int IntKind.i64 0, Value.int IntKind.i64 0, Value.bool false, Value.bool false, Value.bool false, Value.bool false, Value.bool false, Value.bool false, Value.bool false, Value.bool false, Value.bool false, Value.bool false, Value.bool false, Value.bool false, Value.bool false, Value.bool false, Value.bool false, Value.bool false, Value.bool false, Value.bool false, Value.bool false, Value.bool false], elem := none, fields := [0, 20], fsz := [20, 20], kind := none, str := false, boo := false, fty := [169, 170] }
theorem ti172_ok : tiOf Tryz.prog 172 = some ti172 := by kernel_rfl
def ti173 : TI := { agg := false, size := 1, bytes := 8, zero := [Value.nilFunc], elem := none, fields := [], fsz := [], kind := none, str := false, boo := false, fty := [] }
theorem ti173_ok : tiOf Tryz.prog 173 = some ti173 := by kernel_rfl
def ti174 : TI := { agg := false, size := 1, bytes := 8, zero := [Value.nilFunc], elem := none, fields := [], fsz := [], kind := none, str := false, boo := false, fty := [] }
theorem ti174_ok : tiOf Tryz.prog 174 = some ti174 := by kernel_rfl
def ti175 : TI := { agg := false, size := 1, bytes := 8, zero := [Value.nilFunc], elem := none, fields := [], fsz := [], kind := none, str := false, boo := false, fty := [] }
theorem ti175_ok : tiOf Tryz.prog 175 = some ti175 := by kernel_rfl
def ti176 : TI := { agg := false, size := 1, bytes := 8, zero := [Value.nilFunc], elem := none, fields := [], fsz := [], kind := none, str := false, boo := false, fty := [] }
theorem ti176_ok : tiOf Tryz.prog 176 = some ti176 := by kernel_rfl
def ti177 : TI := { agg := false, size := 1, bytes := 8, zero := [Value.nilFunc], elem := none, fields := [], fsz := [], kind := none, str := false, boo := false, fty := [] }
theorem ti177_ok : tiOf Tryz.prog 177 = some ti177 := by kernel_rfl
def ti178 : TI := { agg := false, size := 1, bytes := 8, zero := [Value.nilFunc], elem := none, fields := [], fsz := [], kind := none, str := false, boo := false, fty := [] }
theorem ti178_ok : tiOf Tryz.prog 178 = some ti178 := by kernel_rfl
def ti179 : TI := { agg := false, size := 1, bytes := 8, zero := [Value.nilFunc], elem := none, fields := [], fsz := [], kind := none, str := false, boo := false, fty := [] }
theorem ti179_ok : tiOf Tryz.prog 179 = some ti179 := by kernel_rfl
def ti180 : TI := { agg := false, size := 1, bytes := 8, zero := [Value.nilFunc], elem := none, fields := [], fsz := [], kind := none, str := false, boo := false, fty := [] }
theorem ti180_ok : tiOf Tryz.prog 180 = some ti180 := by kernel_rfl
def ti181 : TI := { agg := false, size := 1, bytes := 8, zero := [Value.nilFunc], elem := none, fields := [], fsz := [], kind := none, str := false, boo := false, fty := [] }
theorem ti181_ok : tiOf Tryz.prog 181 = some ti181 := by kernel_rfl
def ti182 : TI := { agg := false, size := 1, bytes := 8, zero := [Value.nilFunc], elem := none, fields := [], fsz := [], kind := none, str := false, boo := false, fty := [] }
theorem ti182_ok : tiOf Tryz.prog 182 = some ti182 := by kernel_rfl
def ti183 : TI := { agg := false, size := 1, bytes := 8, zero := [Value.nilFunc], elem := none, fields := [], fsz := [], kind := none, str := false, boo := false, fty := [] }
theorem ti183_ok : tiOf Tryz.prog 183 = some ti183 := by kernel_rfl
def ti184 : TI := { agg := false, size := 1, bytes := 8, zero := [Value.nilFunc], elem := none, fields := [], fsz := [], kind := none, str := false, boo := false, fty := [] }
theorem ti184_ok : tiOf Tryz.prog 184 = some ti184 := by kernel_rfl
def ti185 : TI := { agg := false, size := 1, bytes := 8, zero := [Value.nilFunc], elem := none, fields := [], fsz := [], kind := none, str := false, boo := false, fty := [] }
theorem ti185_ok : tiOf Tryz.prog 185 = some ti185 := by kernel_rfl
def ti186 : TI := { agg := false, size := 1, bytes := 8, zero := [Value.nilFunc], elem := none, fields := [], fsz := [], kind := none, str := false, boo := false, fty := [] }
theorem ti186_ok : tiOf Tryz.prog 186 = some ti186 := by kernel_rfl
def ti187 : TI := { agg := false, size := 1, bytes := 8, zero := [Value.nilFunc], elem := none, fields := [], fsz := [], kind := none, str := false, boo := false, fty := [] }
theorem ti187_ok : tiOf Tryz.prog 187 = some ti187 := by kernel_rfl
def ti188 : TI := { agg := false, size := 1, bytes := 8, zero := [Value.nilFunc], elem := none, fields := [], fsz := [], kind := none, str := false, boo := false, fty := [] }
theorem ti188_ok : tiOf Tryz.prog 188 = some ti188 := by kernel_rfl
def ti189 : TI := { agg := false, size := 1, bytes := 8, zero := [Value.nilFunc], elem := none, fields := [], fsz := [], kind := none, str := false, boo := false, fty := [] }
theorem ti189_ok : tiOf Tryz.prog 189 = some ti189 := by kernel_rfl
def ti190 : TI := { agg := false, size := 1, bytes := 8, zero := [Value.nilFunc], elem := none, fields := [], fsz := [], kind := none, str := false, boo := false, fty := [] }
theorem ti190_ok : tiOf Tryz.prog 190 = some ti190 := by kernel_rfl
def ti191 : TI := { agg := false, size := 1, bytes := 8, zero := [Value.nilFunc], elem := none, fields := [], fsz := [], kind := none, str := false, boo := false, fty := [] }
theorem ti191_ok : tiOf Tryz.prog 191 = some ti191 := by kernel_rfl
def ti192 : TI := { agg := false, size := 1, bytes := 8, zero := [Value.nilFunc], elem := none, fields := [], fsz := [], kind := none, str := false, boo := false, fty := [] }
theorem ti192_ok : tiOf Tryz.prog 192 = some ti192 := by kernel_rfl
def ti193 : TI := { agg := false, size := 1, bytes := 8, zero := [Value.nilFunc], elem := none, fields := [], fsz := [], kind := none, str := false, boo := false, fty := [] }
theorem ti193_ok : tiOf Tryz.prog 193 = some ti193 := by kernel_rfl
def ti194 : TI := { agg := false, size := 1, bytes := 8, zero := [Value.nilFunc], elem := none, fields := [], fsz := [], kind := none, str := false, boo := false, fty := [] }
theorem ti194_ok : tiOf Tryz.prog 194 = some ti194 := by kernel_rfl
def ti195 : TI := { agg := false, size := 1, bytes := 8, zero := [Value.nilFunc], elem := none, fields := [], fsz := [], kind := none, str := false, boo := false, fty := [] }
theorem ti195_ok : tiOf Tryz.prog 195 = some ti195 := by kernel_rfl
def ti196 : TI := { agg := false, size := 1, bytes := 8, zero := [Value.nilFunc], elem := none, fields := [], fsz := [], kind := none, str := false, boo := false, fty := [] }
theorem ti196_ok : tiOf Tryz.prog 196 = some ti196 := by kernel_rfl
def ti197 : TI := { agg := false, size := 1, bytes := 8, zero := [Value.nilFunc], elem := none, fields := [], fsz := [], kind := none, str := false, boo := false, fty := [] }
theorem ti197_ok : tiOf Tryz.prog 197 = some ti197 := by kernel_rfl
def ti198 : TI := { agg := false, size := 1, bytes := 8, zero := [Value.nilFunc], elem := none, fields := [], fsz := [], kind := none, str := false, boo := false, fty := [] }
theorem ti198_ok : tiOf Tryz.prog 198 = some ti198 := by kernel_rfl
def ti199 : TI := { agg := true, size := 3, bytes := 40, zero := [Value.slice none 0 0, Value.int IntKind.i64 0, Value.int IntKind.i64 0], elem := none, fields := [0, 1, 2], fsz := [1, 1, 1], kind := none, str := false, boo := false, fty := [22, 3, 3] }
theorem ti199_ok : tiOf Tryz.prog 199 = some ti199 := by kernel_rfl
def ti200 : TI := { agg := true, size := 3, bytes := 40, zero := [Value.slice none 0 0, Value.int IntKind.i64 0, Value.int IntKind.i64 0], elem := none, fields := [0, 1, 2], fsz := [1, 1, 1], kind := none, str := false, boo := false, fty := [22, 3, 3] }
theorem ti200_ok : tiOf Tryz.prog 200 = some ti200 := by kernel_rfl
def ti201 : TI := { agg := false, size := 1, bytes := 8, zero := [Value.nilFunc], elem := none, fields := [], fsz := [], kind := none, str := false, boo := false, fty := [] }
theorem ti201_ok : tiOf Tryz.prog 201 = some ti201 := by kernel_rfl
def ti202 : TI := { agg := false, size := 1, bytes := 8, zero := [Value.nilFunc], elem := none, fields := [], fsz := [], kind := none, str := false, boo := false, fty := [] }
theorem ti202_ok : tiOf Tryz.prog 202 = some ti202 := by kernel_rfl
def ti203 : TI := { agg := false, size := 1, bytes := 8, zero := [Value.nilFunc], elem := none, fields := [], fsz := [], kind := none, str := false, boo := false, fty := [] }
theorem ti203_ok : tiOf Tryz.prog 203 = some ti203 := by kernel_rfl
def ti204 : TI := { agg := false, size := 1, bytes := 8, zero := [Value.nilFunc], elem := none, fields := [], fsz := [], kind := none, str := false, boo := false, fty := [] }
theorem ti204_ok : tiOf Tryz.prog 204 = some ti204 := by kernel_rfl
def ti205 : TI := { agg := false, size := 1, bytes := 8, zero := [Value.nilFunc], elem := none, fields := [], fsz := [], kind := none, str := false, boo := false, fty := [] }
theorem ti205_ok : tiOf Tryz.prog 205 = some ti205 := by kernel_rfl
def ti206 : TI := { agg := false, size := 1, bytes := 8, zero := [Value.nilFunc], elem := none, fields := [], fsz := [], kind := none, str := false, boo := false, fty := [] }
theorem ti206_ok : tiOf Tryz.prog 206 = some ti206 := by kernel_rfl
def ti207 : TI := { agg := false, size := 1, bytes := 8, zero := [Value.nilFunc], elem := none, fields := [], fsz := [], kind := none, str := false, boo := false, fty := [] }
theorem ti207_ok : tiOf Tryz.prog 207 = some ti207 := by kernel_rfl
def ti208 : TI := { agg := false, size := 1, bytes := 8, zero := [Value.nilFunc], elem := none, fields := [], fsz := [], kind := none, str := false, boo := false, fty := [] }
theorem ti208_ok : tiOf Tryz.prog 208 = some ti208 := by kernel_rfl
def ti209 : TI := { agg := false, size := 1, bytes := 8, zero := [Value.nilFunc], elem := none, fields := [], fsz := [], kind := none, str := false, boo := false, fty := [] }
theorem ti209_ok : tiOf Tryz.prog 209 = some ti209 := by kernel_rfl
def ti210 : TI := { agg := false, size := 1, bytes := 8, zero := [Value.nilFunc], elem := none, fields := [], fsz := [], kind := none, str := false, boo := false, fty := [] }
theorem ti210_ok : tiOf Tryz.prog 210 = some ti210 := by kernel_rfl
def ti211 : TI := { agg := false, size := 1, bytes := 8, zero := [Value.nilFunc], elem := none, fields := [], fsz := [], kind := none, str := false, boo := false, fty := [] }
theorem ti211_ok : tiOf Tryz.prog 211 = some ti211 := by kernel_rfl
def ti212 : TI := { agg := false, size := 1, bytes := 8, zero := [Value.nilFunc], elem := none, fields := [], fsz := [], kind := none, str := false, boo := false, fty := [] }
theorem ti212_ok : tiOf Tryz.prog 212 = some ti212 := by kernel_rfl
def ti213 : TI := { agg := false, size := 1, bytes := 8, zero := [Value.nilFunc], elem := none, fields := [], fsz := [], kind := none, str := false, boo := false, fty := [] }
theorem ti213_ok : tiOf Tryz.prog 213 = some ti213 := by kernel_rfl
def ti214 : TI := { agg := false, size := 1, bytes := 8, zero := [Value.nilFunc], elem := none, fields := [], fsz := [], kind := none, str := false, boo := false, fty := [] }
theorem ti214_ok : tiOf Tryz.prog 214 = some ti214 := by kernel_rfl
def ti215 : TI := { agg := false, size := 1, bytes := 8, zero := [Value.map none], elem := none, fields := [], fsz := [1], kind := none, str := false, boo := false, fty := [] }
theorem ti215_ok : tiOf Tryz.prog 215 = some ti215 := by kernel_rfl
def ti216 : TI := { agg := false, size := 1, bytes := 8, zero := [Value.nilFunc], elem := none, fields := [], fsz := [], kind := none, str := false, boo := false, fty := [] }
theorem ti216_ok : tiOf Tryz.prog 216 = some ti216 := by kernel_rfl
def ti217 : TI := { agg := false, size := 1, bytes := 8, zero := [Value.nilFunc], elem := none, fields := [], fsz := [], kind := none, str := false, boo := false, fty := [] }
theorem ti217_ok : tiOf Tryz.prog 217 = some ti217 := by kernel_rfl
def ti218 : TI := { agg := false, size := 1, bytes := 8, zero := [Value.nilFunc], elem := none, fields := [], fsz := [], kind := none, str := false, boo := false, fty := [] }
theorem ti218_ok : tiOf Tryz.prog 218 = some ti218 := by kernel_rfl
def ti219 : TI := { agg := false, size := 1, bytes := 8, zero := [Value.nilFunc], elem := none, fields := [], fsz := [], kind := none, str := false, boo := false, fty := [] }
theorem ti219_ok : tiOf Tryz.prog 219 = some ti219 := by kernel_rfl
def ti220 : TI := { agg := false, size := 1, bytes := 8, zero := [Value.nilFunc], elem := none, fields := [], fsz := [], kind := none, str := false, boo := false, fty := [] }
theorem ti220_ok : tiOf Tryz.prog 220 = some ti220 := by kernel_rfl
def ti221 : TI := { agg := false, size := 1, bytes := 8, zero := [Value.nilFunc], elem := none, fields := [], fsz := [], kind := none, str := false, boo := false, fty := [] }
theorem ti221_ok : tiOf Tryz.prog 221 = some ti221 := by kernel_rfl
def ti222 : TI := { agg := false, size := 1, bytes := 8, zero := [Value.nilFunc], elem := none, fields := [], fsz := [], kind := none, str := false, boo := false, fty := [] }
theorem ti222_ok : tiOf Tryz.prog 222 = some ti222 := by kernel_rfl
def ti223 : TI := { agg := false, size := 1, bytes := 8, zero := [Value.nilFunc], elem := none, fields := [], fsz := [], kind := none, str := false, boo := false, fty := [] }
theorem ti223_ok : tiOf Tryz.prog 223 = some ti223 := by kernel_rfl
def ti225 : TI := { agg := false, size := 1, bytes := 8, zero := [Value.nilFunc], elem := none, fields := [], fsz := [], kind := none, str := false, boo := false, fty := [] }
theorem ti225_ok : tiOf Tryz.prog 225 = some ti225 := by kernel_rfl
def ti226 : TI := { agg := false, size := 1, bytes := 8, zero := [Value.nilFunc], elem := none, fields := [], fsz := [], kind := none, str := false, boo := false, fty := [] }
theorem ti226_ok : tiOf Tryz.prog 226 = some ti226 := by kernel_rfl
def ti227 : TI := { agg := false, size := 1, bytes := 8, zero := [Value.pointer none], elem := none, fields := [], fsz := [], kind := none, str := false, boo := false, fty := [] }
theorem ti227_ok : tiOf Tryz.prog 227 = some ti227 := by kernel_rfl
def ti228 : TI := { agg := false, size := 1, bytes := 8, zero := [Value.nilFunc], elem := none, fields := [], fsz := [], kind := none, str := false, boo := false, fty := [] }
theorem ti228_ok : tiOf Tryz.prog 228 = some ti228 := by kernel_rfl
def ti229 : TI := { agg := false, size := 1, bytes := 8, zero := [Value.nilFunc], elem := none, fields := [], fsz := [], kind := none, str := false, boo := false, fty := [] }
theorem ti229_ok : tiOf Tryz.prog 229 = some ti229 := by kernel_rfl
def ti230 : TI := { agg := false, size := 1, bytes := 8, zero := [Value.nilFunc], elem := none, fields := [], fsz := [], kind := none, str := false, boo := false, fty := [] }
theorem ti230_ok : tiOf Tryz.prog 230 = some ti230 := by kernel_rfl
def ti231 : TI := { agg := false, size := 1, bytes := 8, zero := [Value.int IntKind.u64 0], elem := none, fields := [], fsz := [], kind := some IntKind.u64, str := false, boo := false, fty := [] }
theorem ti231_ok : tiOf Tryz.prog 231 = some ti231 := by kernel_rfl
def ti232 : TI := { agg := false, size := 1, bytes := 8, zero := [Value.nilFunc], elem := none, fields := [], fsz := [], kind := none, str := false, boo := false, fty := [] }
theorem ti232_ok : tiOf Tryz.prog 232 = some ti232 := by kernel_rfl
def ti234 : TI := { agg := false, size := 1, bytes := 8, zero := [Value.nilFunc], elem := none, fields := [], fsz := [], kind := none, str := false, boo := false, fty := [] }
theorem ti234_ok : tiOf Tryz.prog 234 = some ti234 := by kernel_rfl
def ti235 : TI := { agg := false, size := 1, bytes := 8, zero := [Value.nilFunc], elem := none, fields := [], fsz := [], kind := none, str := false, boo := false, fty := [] }
theorem ti235_ok : tiOf Tryz.prog 235 = some ti235 := by kernel_rfl
def ti236 : TI := { agg := false, size := 1, bytes := 8, zero := [Value.nilFunc], elem := none, fields := [], fsz := [], kind := none, str := false, boo := false, fty := [] }
theorem ti236_ok : tiOf Tryz.prog 236 = some ti236 := by kernel_rfl
def ti237 : TI := { agg := false, size := 1, bytes := 8, zero := [Value.nilFunc], elem := none, fields := [], fsz := [], kind := none, str := false, boo := false, fty := [] }
theorem ti237_ok : tiOf Tryz.prog 237 = some ti237 := by kernel_rfl
def ti238 : TI := { agg := false, size := 1, bytes := 8, zero := [Value.nilFunc], elem := none, fields := [], fsz := [], kind := none, str := false, boo := false, fty := [] }
theorem ti238_ok : tiOf Tryz.prog 238 = some ti238 := by kernel_rfl
def ti239 : TI := { agg := false, size := 1, bytes := 8, zero := [Value.nilFunc], elem := none, fields := [], fsz := [], kind := none, str := false, boo := false, fty := [] }
theorem ti239_ok : tiOf Tryz.prog 239 = some ti239 := by kernel_rfl
def ti240 : TI := { agg := true, size := 2, bytes := 32, zero := [Value.int IntKind.i64 0, Value.slice none 0 0], elem := none, fields := [0, 1], fsz := [1, 1], kind := none, str := false, boo := false, fty := [3, 24] }
theorem ti240_ok : tiOf Tryz.prog 240 = some ti240 := by kernel_rfl
def ti241 : TI := { agg := false, size := 1, bytes := 8, zero := [Value.nilFunc], elem := none, fields := [], fsz := [], kind := none, str := false, boo := false, fty := [] }
theorem ti241_ok : tiOf Tryz.prog 241 = some ti241 := by kernel_rfl
def ti242 : TI := { agg := false, size := 1, bytes := 8, zero := [Value.nilFunc], elem := none, fields := [], fsz := [], kind := none, str := false, boo := false, fty := [] }
theorem ti242_ok : tiOf Tryz.prog 242 = some ti242 := by kernel_rfl
def ti243 : TI := { agg := false, size := 1, bytes := 8, zero := [Value.nilFunc], elem := none, fields := [], fsz := [], kind := none, str := false, boo := false, fty := [] }
theorem ti243_ok : tiOf Tryz.prog 243 = some ti243 := by kernel_rfl
def ti244 : TI := { agg := false, size := 1, bytes := 8, zero := [Value.nilFunc], elem := none, fields := [], fsz := [], kind := none, str := false, boo := false, fty := [] }
theorem ti244_ok : tiOf Tryz.prog 244 = some ti244 := by kernel_rfl
def ti245 : TI := { agg := false, size := 1, bytes := 8, zero := [Value.nilFunc], elem := none, fields := [], fsz := [], kind := none, str := false, boo := false, fty := [] }
theorem ti245_ok : tiOf Tryz.prog 245 = some ti245 := by kernel_rfl
def ti246 : TI := { agg := false, size := 1, bytes := 8, zero := [Value.int IntKind.i64 0], elem := none, fields := [], fsz := [], kind := some IntKind.i64, str := false, boo := false, fty := [] }
theorem ti246_ok : tiOf Tryz.prog 246 = some ti246 := by kernel_rfl
def ti248 : TI := { agg := false, size := 1, bytes := 8, zero := [Value.nilFunc], elem := none, fields := [], fsz := [], kind := none, str := false, boo := false, fty := [] }
theorem ti248_ok : tiOf Tryz.prog 248 = some ti248 := by kernel_rfl
def ti249 : TI := { agg := false, size := 1, bytes := 8, zero := [Value.nilFunc], elem := none, fields := [], fsz := [], kind := none, str := false, boo := false, fty := [] }
theorem ti249_ok : tiOf Tryz.prog 249 = some ti249 := by kernel_rfl
def ti250 : TI := { agg := false, size := 1, bytes := 8, zero := [Value.nilFunc], elem := none, fields := [], fsz := [], kind := none, str := false, boo := false, fty := [] }
theorem ti250_ok : tiOf Tryz.prog 250 = some ti250 := by kernel_rfl
def ti252 : TI := { agg := false, size := 1, bytes := 8, zero := [Value.nilFunc], elem := none, fields := [], fsz := [], kind := none, str := false, boo := false, fty := [] }
theorem ti252_ok : tiOf Tryz.prog 252 = some ti252 := by kernel_rfl
def ti253 : TI := { agg := false, size := 1, bytes := 8, zero := [Value.nilFunc], elem := none, fields := [], fsz := [], kind := none, str := false, boo := false, fty := [] }
theorem ti253_ok : tiOf Tryz.prog 253 = some ti253 := by kernel_rfl
def ti254 : TI := { agg := false, size := 1, bytes := 4, zero := [Value.int IntKind.u32 0], elem := none, fields := [], fsz := [], kind := some IntKind.u32, str := false, boo := false, fty := [] }
theorem ti254_ok : tiOf Tryz.prog 254 = some ti254 := by kernel_rfl
def ti255 : TI := { agg := false, size := 1, bytes := 8, zero := [Value.nilFunc], elem := none, fields := [], fsz := [], kind := none, str := false, boo := false, fty := [] }
theorem ti255_ok : tiOf Tryz.prog 255 = some ti255 := by kernel_rfl
def ti256 : TI := { agg := false, size := 1, bytes := 8, zero := [Value.int IntKind.u64 0], elem := none, fields := [], fsz := [], kind := some IntKind.u64, str := false, boo := false, fty := [] }
theorem ti256_ok : tiOf Tryz.prog 256 = some ti256 := by kernel_rfl
def ti257 : TI := { agg := false, size := 1, bytes := 8, zero := [Value.nilFunc], elem := none, fields := [], fsz := [], kind := none, str := false, boo := false, fty := [] }
theorem ti257_ok : tiOf Tryz.prog 257 = some ti257 := by kernel_rfl
def ti258 : TI := { agg := false, size := 1, bytes := 8, zero := [Value.nilFunc], elem := none, fields := [], fsz := [], kind := none, str := false, boo := false, fty := [] }
theorem ti258_ok : tiOf Tryz.prog 258 = some ti258 := by kernel_rfl
def ti259 : TI := { agg := false, size := 1, bytes := 8, zero := [Value.nilFunc], elem := none, fields := [], fsz := [], kind := none, str := false, boo := false, fty := [] }
theorem ti259_ok : tiOf Tryz.prog 259 = some ti259 := by kernel_rfl
def ti260 : TI := { agg := false, size := 1, bytes := 8, zero := [Value.nilFunc], elem := none, fields := [], fsz := [], kind := none, str := false, boo := false, fty := [] }
theorem ti260_ok : tiOf Tryz.prog 260 = some ti260 := by kernel_rfl
def ti261 : TI := { agg := false, size := 1, bytes := 8, zero := [Value.nilFunc], elem := none, fields := [], fsz := [], kind := none, str := false, boo := false, fty := [] }
theorem ti261_ok : tiOf Tryz.prog 261 = some ti261 := by kernel_rfl
def ti262 : TI := { agg := false, size := 1, bytes := 8, zero := [Value.pointer none], elem := none, fields := [], fsz := [], kind := none, str := false, boo := false, fty := [] }
theorem ti262_ok : tiOf Tryz.prog 262 = some ti262 := by kernel_rfl
def ti263 : TI := { agg := false, size := 1, bytes := 8, zero := [Value.nilFunc], elem := none, fields := [], fsz := [], kind := none, str := false, boo := false, fty := [] }
theorem ti263_ok : tiOf Tryz.prog 263 = some ti263 := by kernel_rfl
def ti264 : TI := { agg := false, size := 1, bytes := 8, zero := [Value.nilFunc], elem := none, fields := [], fsz := [], kind := none, str := false, boo := false, fty := [] }
theorem ti264_ok : tiOf Tryz.prog 264 = some ti264 := by kernel_rfl
def ti265 : TI := { agg := false, size := 1, bytes := 8, zero := [Value.nilFunc], elem := none, fields := [], fsz := [], kind := none, str := false, boo := false, fty := [] }
theorem ti265_ok : tiOf Tryz.prog 265 = some ti265 := by kernel_rfl
def ti266 : TI := { agg := false, size := 1, bytes := 8, zero := [Value.pointer none], elem := none, fields := [], fsz := [], kind := none, str := false, boo := false, fty := [] }
theorem ti266_ok : tiOf Tryz.prog 266 = some ti266 := by kernel_rfl
def ti267 : TI := { agg := false, size := 1, bytes := 8, zero := [Value.pointer none], elem := none, fields := [], fsz := [], kind := none, str := false, boo := false, fty := [] }
theorem ti267_ok : tiOf Tryz.prog 267 = some ti267 := by kernel_rfl
def ti268 : TI := { agg := false, size := 1, bytes := 8, zero := [Value.nilFunc], elem := none, fields := [], fsz := [], kind := none, str := false, boo := false, fty := [] }
theorem ti268_ok : tiOf Tryz.prog 268 = some ti268 := by kernel_rfl
def ti269 : TI := { agg := false, size := 1, bytes := 8, zero := [Value.nilFunc], elem := none, fields := [], fsz := [], kind := none, str := false, boo := false, fty := [] }
theorem ti269_ok : tiOf Tryz.prog 269 = some ti269 := by kernel_rfl
def ti270 : TI := { agg := false, size := 1, bytes := 8, zero := [Value.int IntKind.u64 0], elem := none, fields := [], fsz := [], kind := some IntKind.u64, str := false, boo := false, fty := [] }
theorem ti270_ok : tiOf Tryz.prog 270 = some ti270 := by kernel_rfl
def ti271 : TI := { agg := false, size := 1, bytes := 8, zero := [Value.nilFunc], elem := none, fields := [], fsz := [], kind := none, str := false, boo := false, fty := [] }
theorem ti271_ok : tiOf Tryz.prog 271 = some ti271 := by kernel_rfl
def ti272 : TI := { agg := false, size := 1, bytes := 8, zero := [Value.nilFunc], elem := none, fields := [], fsz := [], kind := none, str := false, boo := false, fty := [] }
theorem ti272_ok : tiOf Tryz.prog 272 = some ti272 := by kernel_rfl
def ti273 : TI := { agg := false, size := 1, bytes := 8, zero := [Value.nilFunc], elem := none, fields := [], fsz := [], kind := none, str := false, boo := false, fty := [] }
theorem ti273_ok : tiOf Tryz.prog 273 = some ti273 := by kernel_rfl
def ti274 : TI := { agg := false, size := 1, bytes := 8, zero := [Value.pointer none], elem := none, fields := [], fsz := [], kind := none, str := false, boo := false, fty := [] }
theorem ti274_ok : tiOf Tryz.prog 274 = some ti274 := by kernel_rfl
def ti275 : TI := { agg := false, size := 1, bytes := 8, zero := [Value.nilFunc], elem := none, fields := [], fsz := [], kind := none, str := false, boo := false, fty := [] }
theorem ti275_ok : tiOf Tryz.prog 275 = some ti275 := by kernel_rfl
def ti276 : TI := { agg := false, size := 1, bytes := 8, zero := [Value.nilFunc], elem := none, fields := [], fsz := [], kind := none, str := false, boo := false, fty := [] }
theorem ti276_ok : tiOf Tryz.prog 276 = some ti276 := by kernel_rfl
def ti277 : TI := { agg := false, size := 1, bytes := 8, zero := [Value.nilFunc], elem := none, fields := [], fsz := [], kind := none, str := false, boo := false, fty := [] }
theorem ti277_ok : tiOf Tryz.prog 277 = some ti277 := by kernel_rfl
def ti278 : TI := { agg := false, size := 1, bytes := 8, zero := [Value.pointer none], elem := none, fields := [], fsz := [], kind := none, str := false, boo := false, fty := [] }
theorem ti278_ok : tiOf Tryz.prog 278 = some ti278 := by kernel_rfl
def ti279 : TI := { agg := false, size := 1, bytes := 8, zero := [Value.nilFunc], elem := none, fields := [], fsz := [], kind := none, str := false, boo := false, fty := [] }
theorem ti279_ok : tiOf Tryz.prog 279 = some ti279 := by kernel_rfl
def ti280 : TI := { agg := false, size := 1, bytes := 8, zero := [Value.nilFunc], elem := none, fields := [], fsz := [], kind := none, str := false, boo := false, fty := [] }
theorem ti280_ok : tiOf Tryz.prog 280 = some ti280 := by kernel_rfl
def ti281 : TI := { agg := false, size := 1, bytes := 8, zero := [Value.nilFunc], elem := none, fields := [], fsz := [], kind := none, str := false, boo := false, fty := [] }
theorem ti281_ok : tiOf Tryz.prog 281 = some ti281 := by kernel_rfl
def ti282 : TI := { agg := true, size := 4, bytes := 40, zero := [Value.pointer none, Value.pointer none, Value.pointer none, Value.string ByteArray.empty], elem := none, fields := [0, 1, 2, 3], fsz := [1, 1, 1, 1], kind := none, str := false, boo := false, fty := [17, 17, 17, 9] }
theorem ti282_ok : tiOf Tryz.prog 282 = some ti282 := by kernel_rfl
def ti283 : TI := { agg := true, size := 4, bytes := 40, zero := [Value.pointer none, Value.pointer none, Value.pointer none, Value.string ByteArray.empty], elem := none, fields := [0, 1, 2, 3], fsz := [1, 1, 1, 1], kind := none, str := false, boo := false, fty := [17, 17, 17, 9] }
theorem ti283_ok : tiOf Tryz.prog 283 = some ti283 := by kernel_rfl
def ti284 : TI := { agg := true, size := 0, bytes := 0, zero := [], elem := none, fields := [], fsz := [0, 16], kind := none, str := false, boo := false, fty := [] }
theorem ti284_ok : tiOf Tryz.prog 284 = some ti284 := by kernel_rfl
def ti287 : TI := { agg := false, size := 1, bytes := 8, zero := [Value.nilFunc], elem := none, fields := [], fsz := [], kind := none, str := false, boo := false, fty := [] }
theorem ti287_ok : tiOf Tryz.prog 287 = some ti287 := by kernel_rfl
def ti288 : TI := { agg := false, size := 1, bytes := 1, zero := [Value.int IntKind.u8 0], elem := none, fields := [], fsz := [], kind := some IntKind.u8, str := false, boo := false, fty := [] }
theorem ti288_ok : tiOf Tryz.prog 288 = some ti288 := by kernel_rfl
def ti289 : TI := { agg := false, size := 1, bytes := 1, zero := [Value.int IntKind.u8 0], elem := none, fields := [], fsz := [], kind := some IntKind.u8, str := false, boo := false, fty := [] }
theorem ti289_ok : tiOf Tryz.prog 289 = some ti289 := by kernel_rfl
def ti290 : TI := { agg := false, size := 1, bytes := 8, zero := [Value.nilFunc], elem := none, fields := [], fsz := [], kind := none, str := false, boo := false, fty := [] }
theorem ti290_ok : tiOf Tryz.prog 290 = some ti290 := by kernel_rfl
def ti291 : TI := { agg := false, size := 1, bytes := 8, zero := [Value.pointer none], elem := none, fields := [], fsz := [], kind := none, str := false, boo := false, fty := [] }
theorem ti291_ok : tiOf Tryz.prog 291 = some ti291 := by kernel_rfl
def ti292 : TI := { agg := false, size := 1, bytes := 4, zero := [Value.int IntKind.i32 0], elem := none, fields := [], fsz := [], kind := some IntKind.i32, str := false, boo := false, fty := [] }
theorem ti292_ok : tiOf Tryz.prog 292 = some ti292 := by kernel_rfl
def ti293 : TI := { agg := false, size := 1, bytes := 4, zero := [Value.int IntKind.i32 0], elem := none, fields := [], fsz := [], kind := some IntKind.i32, str := false, boo := false, fty := [] }
theorem ti293_ok : tiOf Tryz.prog 293 = some ti293 := by kernel_rfl
def ti294 : TI := { agg := true, size := 11, bytes := 48, zero := [Value.int IntKind.u64 0, Value.int IntKind.u64 0, Value.int IntKind.u32 0, Value.int IntKind.u8 0, Value.int IntKind.u8 0, Value.int IntKind.u8 0, Value.int IntKind.u8 0, Value.nilFunc, Value.pointer none, Value.int IntKind.i32 0, Value.int IntKind.i32 0], elem := none, fields := [0, 1, 2, 3, 4, 5, 6, 7, 8, 9, 10], fsz := [1, 1, 1, 1, 1, 1, 1, 1, 1, 1, 1], kind := none, str := false, boo := false, fty := [12, 12, 254, 288, 5, 5, 289, 290, 291, 292, 293] }
theorem ti294_ok : tiOf Tryz.prog 294 = some ti294 := by kernel_rfl
def ti295 : TI := { agg := true, size := 11, bytes := 48, zero := [Value.int IntKind.u64 0, Value.int IntKind.u64 0, Value.int IntKind.u32 0, Value.int IntKind.u8 0, Value.int IntKind.u8 0, Value.int IntKind.u8 0, Value.int IntKind.u8 0, Value.nilFunc, Value.pointer none, Value.int IntKind.i32 0, Value.int IntKind.i32 0], elem := none, fields := [0, 1, 2, 3, 4, 5, 6, 7, 8, 9, 10], fsz := [1, 1, 1, 1, 1, 1, 1, 1, 1, 1, 1], kind := none, str := false, boo := false, fty := [12, 12, 254, 288, 5, 5, 289, 290, 291, 292, 293] }
theorem ti295_ok : tiOf Tryz.prog 295 = some ti295 := by kernel_rfl
def tis : List (Nat × TI) := [(1, ti1), (2, ti2), (3, ti3), (4, ti4), (5, ti5), (6, ti6), (7, ti7), (8, ti8), (9, ti9), (10, ti10), (11, ti11), (12, ti12), (13, ti13), (14, ti14), (15, ti15), (16, ti16), (17, ti17), (18, ti18), (19, ti19), (21, ti21), (22, ti22), (23, ti23), (24, ti24), (25, ti25), (26, ti26), (27, ti27), (28, ti28), (29, ti29), (31, ti31), (32, ti32), (33, ti33), (35, ti35), (36, ti36), (37, ti37), (38, ti38), (40, ti40), (41, ti41), (42, ti42), (43, ti43), (44, ti44), (46, ti46), (47, ti47), (49, ti49), (50, ti50), (51, ti51), (52, ti52), (53, ti53), (54, ti54), (55, ti55), (57, ti57), (58, ti58), (60, ti60), (61, ti61), (63, ti63), (65, ti65), (66, ti66), (67, ti67), (68, ti68), (69, ti69), (70, ti70), (71, ti71), (72, ti72), (73, ti73), (75, ti75), (76, ti76), (77, ti77), (79, ti79), (80, ti80), (81, ti81), (82, ti82), (83, ti83), (84, ti84), (85, ti85), (86, ti86), (88, ti88), (90, ti90), (92, ti92), (93, ti93), (94, ti94), (95, ti95), (96, ti96), (97, ti97), (98, ti98), (100, ti100), (101, ti101), (102, ti102), (103, ti103), (104, ti104), (105, ti105), (106, ti106), (107, ti107), (108, ti108), (109, ti109), (110, ti110), (111, ti111), (113, ti113), (115, ti115), (117, ti117), (118, ti118), (119, ti119), (121, ti121), (122, ti122), (123, ti123), (124, ti124), (125, ti125), (126, ti126), (127, ti127), (128, ti128), (129, ti129), (130, ti130), (131, ti131), (132, ti132), (133, ti133), (134, ti134), (135, ti135), (137, ti137), (138, ti138), (140, ti140), (141, ti141), (142, ti142), (143, ti143), (144, ti144), (145, ti145), (146, ti146), (147, ti147), (148, ti148), (149, ti149), (150, ti150), (151, ti151), (152, ti152), (153, ti153), (154, ti154), (155, ti155), (156, ti156), (157, ti157), (158, ti158), (159, ti159), (160, ti160), (161, ti161), (162, ti162), (163, ti163), (164, ti164), (165, ti165), (166, ti166), (167, ti167), (168, ti168), (169, ti169), (170, ti170), (171, ti171), (172, ti172), (173, ti173), (174, ti174), (175, ti175), (176, ti176), (177, ti177), (178, ti178), (179, ti179), (180, ti180), (181, ti181), (182, ti182), (183, ti183), (184, ti184), (185, ti185), (186, ti186), (187, ti187), (188, ti188), (189, ti189), (190, ti190), (191, ti191), (192, ti192), (193, ti193), (194, ti194), (195, ti195), (196, ti196), (197, ti197), (198, ti198), (199, ti199), (200, ti200), (201, ti201), (202, ti202), (203, ti203), (204, ti204), (205, ti205), (206, ti206), (207, ti207), (208, ti208), (209, ti209), (210, ti210), (211, ti211), (212, ti212), (213, ti213), (214, ti214), (215, ti215), (216, ti216), (217, ti217), (218, ti218), (219, ti219), (220, ti220), (221, ti221), (222, ti222), (223, ti223), (225, ti225), (226, ti226), (227, ti227), (228, ti228), (229, ti229), (230, ti230), (231, ti231), (232, ti232), (234, ti234), (235, ti235), (236, ti236), (237, ti237), (238, ti238), (239, ti239), (240, ti240), (241, ti241), (242, ti242), (243, ti243), (244, ti244), (245, ti245), (246, ti246), (248, ti248), (249, ti249), (250, ti250), (252, ti252), (253, ti253), (254, ti254), (255, ti255), (256, ti256), (257, ti257), (258, ti258), (259, ti259), (260, ti260), (261, ti261), (262, ti262), (263, ti263), (264, ti264), (265, ti265), (266, ti266), (267, ti267), (268, ti268), (269, ti269), (270, ti270), (271, ti271), (272, ti272), (273, ti273), (274, ti274), (275, ti275), (276, ti276), (277, ti277), (278, ti278), (279, ti279), (280, ti280), (281, ti281), (282, ti282), (283, ti283), (284, ti284), (287, ti287), (288, ti288), (289, ti289), (290, ti290), (291, ti291), (292, ti292), (293, ti293), (294, ti294), (295, ti295)]
def Γ : Tab := tabL tis
set_option maxRecDepth 100000 in
theorem Γ_ok : TabOk Tryz.prog Γ := tabL_ok (by
  simp only [tis, List.forall_mem_cons, List.not_mem_nil, false_implies, implies_true, and_true]
  exact ⟨ti1_ok, ti2_ok, ti3_ok, ti4_ok, ti5_ok, ti6_ok, ti7_ok, ti8_ok, ti9_ok, ti10_ok, ti11_ok, ti12_ok, ti13_ok, ti14_ok, ti15_ok, ti16_ok, ti17_ok, ti18_ok, ti19_ok, ti21_ok, ti22_ok, ti23_ok, ti24_ok, ti25_ok, ti26_ok, ti27_ok, ti28_ok, ti29_ok, ti31_ok, ti32_ok, ti33_ok, ti35_ok, ti36_ok, ti37_ok, ti38_ok, ti40_ok, ti41_ok, ti42_ok, ti43_ok, ti44_ok, ti46_ok, ti47_ok, ti49_ok, ti50_ok, ti51_ok, ti52_ok, ti53_ok, ti54_ok, ti55_ok, ti57_ok, ti58_ok, ti60_ok, ti61_ok, ti63_ok, ti65_ok, ti66_ok, ti67_ok, ti68_ok, ti69_ok, ti70_ok, ti71_ok, ti72_ok, ti73_ok, ti75_ok, ti76_ok, ti77_ok, ti79_ok, ti80_ok, ti81_ok, ti82_ok, ti83_ok, ti84_ok, ti85_ok, ti86_ok, ti88_ok, ti90_ok, ti92_ok, ti93_ok, ti94_ok, ti95_ok, ti96_ok, ti97_ok, ti98_ok, ti100_ok, ti101_ok, ti102_ok, ti103_ok, ti104_ok, ti105_ok, ti106_ok, ti107_ok, ti108_ok, ti109_ok, ti110_ok, ti111_ok, ti113_ok, ti115_ok, ti117_ok, ti118_ok, ti119_ok, ti121_ok, ti122_ok, ti123_ok, ti124_ok, ti125_ok, ti126_ok, ti127_ok, ti128_ok, ti129_ok, ti130_ok, ti131_ok, ti132_ok, ti133_ok, ti134_ok, ti135_ok, ti137_ok, ti138_ok, ti140_ok, ti141_ok, ti142_ok, ti143_ok, ti144_ok, ti145_ok, ti146_ok, ti147_ok, ti148_ok, ti149_ok, ti150_ok, ti151_ok, ti152_ok, ti153_ok, ti154_ok, ti155_ok, ti156_ok, ti157_ok, ti158_ok, ti159_ok, ti160_ok, ti161_ok, ti162_ok, ti163_ok, ti164_ok, ti165_ok, ti166_ok, ti167_ok, ti168_ok, ti169_ok, ti170_ok, ti171_ok, ti172_ok, ti173_ok, ti174_ok, ti175_ok, ti176_ok, ti177_ok, ti178_ok, ti179_ok, ti180_ok, ti181_ok, ti182_ok, ti183_ok, ti184_ok, ti185_ok, ti186_ok, ti187_ok, ti188_ok, ti189_ok, ti190_ok, ti191_ok, ti192_ok, ti193_ok, ti194_ok, ti195_ok, ti196_ok, ti197_ok, ti198_ok, ti199_ok, ti200_ok, ti201_ok, ti202_ok, ti203_ok, ti204_ok, ti205_ok, ti206_ok, ti207_ok, ti208_ok, ti209_ok, ti210_ok, ti211_ok, ti212_ok, ti213_ok, ti214_ok, ti215_ok, ti216_ok, ti217_ok, ti218_ok, ti219_ok, ti220_ok, ti221_ok, ti222_ok, ti223_ok, ti225_ok, ti226_ok, ti227_ok, ti228_ok, ti229_ok, ti230_ok, ti231_ok, ti232_ok, ti234_ok, ti235_ok, ti236_ok, ti237_ok, ti238_ok, ti239_ok, ti240_ok, ti241_ok, ti242_ok, ti243_ok, ti244_ok, ti245_ok, ti246_ok, ti248_ok, ti249_ok, ti250_ok, ti252_ok, ti253_ok, ti254_ok, ti255_ok, ti256_ok, ti257_ok, ti258_ok, ti259_ok, ti260_ok, ti261_ok, ti262_ok, ti263_ok, ti264_ok, ti265_ok, ti266_ok, ti267_ok, ti268_ok, ti269_ok, ti270_ok, ti271_ok, ti272_ok, ti273_ok, ti274_ok, ti275_ok, ti276_ok, ti277_ok, ti278_ok, ti279_ok, ti280_ok, ti281_ok, ti282_ok, ti283_ok, ti284_ok, ti287_ok, ti288_ok, ti289_ok, ti290_ok, ti291_ok, ti292_ok, ti293_ok, ti294_ok, ti295_ok⟩)
theorem mx : Tryz.prog.follows .mixedOrders = true := by kernel_rfl
end Go.Proofs.YtcjdfeafcmfgpaaGreatD
