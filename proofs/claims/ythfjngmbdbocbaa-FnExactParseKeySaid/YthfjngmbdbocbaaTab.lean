/- What is asked of the types of this seat's program; written by wip/mktab.py. -/
import Derived.Test.YthfjngmbdbocbaaChecked
import Derived.Test.YthfjngmbdbocbaaD22
namespace Go.Proofs.YthfjngmbdbocbaaD
open Go Go.Proofs

/-- func() -/
def ti1 : TI := { agg := false, size := 1, bytes := 8, zero := [Value.nilFunc], elem := none, fields := [], fsz := [], kind := none, str := false, boo := false, fty := [] }
theorem ti1_ok : tiOf Try.prog 1 = some ti1 := by kernel_rfl
/-- int64 -/
def ti2 : TI := { agg := false, size := 1, bytes := 8, zero := [Value.int IntKind.i64 0], elem := none, fields := [], fsz := [], kind := some IntKind.i64, str := false, boo := false, fty := [] }
theorem ti2_ok : tiOf Try.prog 2 = some ti2 := by kernel_rfl
/-- int -/
def ti3 : TI := { agg := false, size := 1, bytes := 8, zero := [Value.int IntKind.i64 0], elem := none, fields := [], fsz := [], kind := some IntKind.i64, str := false, boo := false, fty := [] }
theorem ti3_ok : tiOf Try.prog 3 = some ti3 := by kernel_rfl
/-- bool -/
def ti4 : TI := { agg := false, size := 1, bytes := 1, zero := [Value.bool false], elem := none, fields := [], fsz := [], kind := none, str := false, boo := true, fty := [] }
theorem ti4_ok : tiOf Try.prog 4 = some ti4 := by kernel_rfl
/-- uint8 -/
def ti5 : TI := { agg := false, size := 1, bytes := 1, zero := [Value.int IntKind.u8 0], elem := none, fields := [], fsz := [], kind := some IntKind.u8, str := false, boo := false, fty := [] }
theorem ti5_ok : tiOf Try.prog 5 = some ti5 := by kernel_rfl
/-- abi.BoundsErrorCode = internal/abi.BoundsErrorCode -/
def ti6 : TI := { agg := false, size := 1, bytes := 1, zero := [Value.int IntKind.u8 0], elem := none, fields := [], fsz := [], kind := some IntKind.u8, str := false, boo := false, fty := [] }
theorem ti6_ok : tiOf Try.prog 6 = some ti6 := by kernel_rfl
/-- struct { x int64; y int; signed bool; code abi.BoundsErrorCode } -/
def ti7 : TI := { agg := true, size := 4, bytes := 24, zero := [Value.int IntKind.i64 0, Value.int IntKind.i64 0, Value.bool false, Value.int IntKind.u8 0], elem := none, fields := [0, 1, 2, 3], fsz := [1, 1, 1, 1], kind := none, str := false, boo := false, fty := [2, 3, 4, 6] }
theorem ti7_ok : tiOf Try.prog 7 = some ti7 := by kernel_rfl
/-- runtime.boundsError -/
def ti8 : TI := { agg := true, size := 4, bytes := 24, zero := [Value.int IntKind.i64 0, Value.int IntKind.i64 0, Value.bool false, Value.int IntKind.u8 0], elem := none, fields := [0, 1, 2, 3], fsz := [1, 1, 1, 1], kind := none, str := false, boo := false, fty := [2, 3, 4, 6] }
theorem ti8_ok : tiOf Try.prog 8 = some ti8 := by kernel_rfl
/-- string -/
def ti9 : TI := { agg := false, size := 1, bytes := 16, zero := [Value.string ByteArray.empty], elem := none, fields := [], fsz := [], kind := none, str := true, boo := false, fty := [] }
theorem ti9_ok : tiOf Try.prog 9 = some ti9 := by kernel_rfl
/-- runtime.errorString -/
def ti10 : TI := { agg := false, size := 1, bytes := 16, zero := [Value.string ByteArray.empty], elem := none, fields := [], fsz := [], kind := none, str := true, boo := false, fty := [] }
theorem ti10_ok : tiOf Try.prog 10 = some ti10 := by kernel_rfl
/-- runtime.plainError -/
def ti11 : TI := { agg := false, size := 1, bytes := 16, zero := [Value.string ByteArray.empty], elem := none, fields := [], fsz := [], kind := none, str := true, boo := false, fty := [] }
theorem ti11_ok : tiOf Try.prog 11 = some ti11 := by kernel_rfl
/-- uintptr -/
def ti12 : TI := { agg := false, size := 1, bytes := 8, zero := [Value.int IntKind.u64 0], elem := none, fields := [], fsz := [], kind := some IntKind.u64, str := false, boo := false, fty := [] }
theorem ti12_ok : tiOf Try.prog 12 = some ti12 := by kernel_rfl
/-- struct { msg string; addr uintptr } -/
def ti13 : TI := { agg := true, size := 2, bytes := 24, zero := [Value.string ByteArray.empty, Value.int IntKind.u64 0], elem := none, fields := [0, 1], fsz := [1, 1], kind := none, str := false, boo := false, fty := [9, 12] }
theorem ti13_ok : tiOf Try.prog 13 = some ti13 := by kernel_rfl
/-- runtime.errorAddressString -/
def ti14 : TI := { agg := true, size := 2, bytes := 24, zero := [Value.string ByteArray.empty, Value.int IntKind.u64 0], elem := none, fields := [0, 1], fsz := [1, 1], kind := none, str := false, boo := false, fty := [9, 12] }
theorem ti14_ok : tiOf Try.prog 14 = some ti14 := by kernel_rfl
/-- *runtime.TypeAssertionError -/
def ti15 : TI := { agg := false, size := 1, bytes := 8, zero := [Value.pointer none], elem := none, fields := [], fsz := [], kind := none, str := false, boo := false, fty := [] }
theorem ti15_ok : tiOf Try.prog 15 = some ti15 := by kernel_rfl
/-- *runtime.PanicNilError -/
def ti16 : TI := { agg := false, size := 1, bytes := 8, zero := [Value.pointer none], elem := none, fields := [], fsz := [], kind := none, str := false, boo := false, fty := [] }
theorem ti16_ok : tiOf Try.prog 16 = some ti16 := by kernel_rfl
/-- *abi.Type -/
def ti17 : TI := { agg := false, size := 1, bytes := 8, zero := [Value.pointer none], elem := none, fields := [], fsz := [], kind := none, str := false, boo := false, fty := [] }
theorem ti17_ok : tiOf Try.prog 17 = some ti17 := by kernel_rfl
/-- struct { typ *abi.Type } -/
def ti18 : TI := { agg := true, size := 1, bytes := 8, zero := [Value.pointer none], elem := none, fields := [0], fsz := [1], kind := none, str := false, boo := false, fty := [17] }
theorem ti18_ok : tiOf Try.prog 18 = some ti18 := by kernel_rfl
/-- maps.unhashableTypeError = internal/runtime/maps.unhashableTypeError -/
def ti19 : TI := { agg := true, size := 1, bytes := 8, zero := [Value.pointer none], elem := none, fields := [0], fsz := [1], kind := none, str := false, boo := false, fty := [17] }
theorem ti19_ok : tiOf Try.prog 19 = some ti19 := by kernel_rfl
/-- int32 -/
def ti21 : TI := { agg := false, size := 1, bytes := 4, zero := [Value.int IntKind.i32 0], elem := none, fields := [], fsz := [], kind := some IntKind.i32, str := false, boo := false, fty := [] }
theorem ti21_ok : tiOf Try.prog 21 = some ti21 := by kernel_rfl
/-- []int -/
def ti22 : TI := { agg := false, size := 1, bytes := 24, zero := [Value.slice none 0 0], elem := some 3, fields := [], fsz := [], kind := none, str := false, boo := false, fty := [] }
theorem ti22_ok : tiOf Try.prog 22 = some ti22 := by kernel_rfl
/-- struct { Arity []int } -/
def ti23 : TI := { agg := true, size := 1, bytes := 24, zero := [Value.slice none 0 0], elem := none, fields := [0], fsz := [1], kind := none, str := false, boo := false, fty := [22] }
theorem ti23_ok : tiOf Try.prog 23 = some ti23 := by kernel_rfl
/-- laws.Schema = loop.example/g01985/laws.Schema -/
def ti24 : TI := { agg := true, size := 1, bytes := 24, zero := [Value.slice none 0 0], elem := none, fields := [0], fsz := [1], kind := none, str := false, boo := false, fty := [22] }
theorem ti24_ok : tiOf Try.prog 24 = some ti24 := by kernel_rfl
/-- func(laws.Schema, int) int -/
def ti25 : TI := { agg := false, size := 1, bytes := 8, zero := [Value.nilFunc], elem := none, fields := [], fsz := [], kind := none, str := false, boo := false, fty := [] }
theorem ti25_ok : tiOf Try.prog 25 = some ti25 := by kernel_rfl
/-- struct { Rel int; Left []int } -/
def ti26 : TI := { agg := true, size := 2, bytes := 32, zero := [Value.int IntKind.i64 0, Value.slice none 0 0], elem := none, fields := [0, 1], fsz := [1, 1], kind := none, str := false, boo := false, fty := [3, 22] }
theorem ti26_ok : tiOf Try.prog 26 = some ti26 := by kernel_rfl
/-- impl.Key = loop.example/g01985/impl.Key -/
def ti27 : TI := { agg := true, size := 2, bytes := 32, zero := [Value.int IntKind.i64 0, Value.slice none 0 0], elem := none, fields := [0, 1], fsz := [1, 1], kind := none, str := false, boo := false, fty := [3, 22] }
theorem ti27_ok : tiOf Try.prog 27 = some ti27 := by kernel_rfl
/-- func(impl.Schema, string) (impl.Key, bool) -/
def ti29 : TI := { agg := false, size := 1, bytes := 8, zero := [Value.nilFunc], elem := none, fields := [], fsz := [], kind := none, str := false, boo := false, fty := [] }
theorem ti29_ok : tiOf Try.prog 29 = some ti29 := by kernel_rfl
/-- impl.Schema = loop.example/g01985/impl.Schema -/
def ti30 : TI := { agg := true, size := 1, bytes := 24, zero := [Value.slice none 0 0], elem := none, fields := [0], fsz := [1], kind := none, str := false, boo := false, fty := [22] }
theorem ti30_ok : tiOf Try.prog 30 = some ti30 := by kernel_rfl
/-- func(laws.Schema) impl.Schema -/
def ti31 : TI := { agg := false, size := 1, bytes := 8, zero := [Value.nilFunc], elem := none, fields := [], fsz := [], kind := none, str := false, boo := false, fty := [] }
theorem ti31_ok : tiOf Try.prog 31 = some ti31 := by kernel_rfl
/-- func(impl.Key, impl.Key) bool -/
def ti32 : TI := { agg := false, size := 1, bytes := 8, zero := [Value.nilFunc], elem := none, fields := [], fsz := [], kind := none, str := false, boo := false, fty := [] }
theorem ti32_ok : tiOf Try.prog 32 = some ti32 := by kernel_rfl
/-- func(impl.Schema, impl.Schema) bool -/
def ti33 : TI := { agg := false, size := 1, bytes := 8, zero := [Value.nilFunc], elem := none, fields := [], fsz := [], kind := none, str := false, boo := false, fty := [] }
theorem ti33_ok : tiOf Try.prog 33 = some ti33 := by kernel_rfl
/-- func(impl.Schema, int) int -/
def ti34 : TI := { agg := false, size := 1, bytes := 8, zero := [Value.nilFunc], elem := none, fields := [], fsz := [], kind := none, str := false, boo := false, fty := [] }
theorem ti34_ok : tiOf Try.prog 34 = some ti34 := by kernel_rfl
/-- func(impl.Key, int) int -/
def ti35 : TI := { agg := false, size := 1, bytes := 8, zero := [Value.nilFunc], elem := none, fields := [], fsz := [], kind := none, str := false, boo := false, fty := [] }
theorem ti35_ok : tiOf Try.prog 35 = some ti35 := by kernel_rfl
/-- func(laws.Schema, string) bool -/
def ti36 : TI := { agg := false, size := 1, bytes := 8, zero := [Value.nilFunc], elem := none, fields := [], fsz := [], kind := none, str := false, boo := false, fty := [] }
theorem ti36_ok : tiOf Try.prog 36 = some ti36 := by kernel_rfl
/-- []uint8 -/
def ti37 : TI := { agg := false, size := 1, bytes := 24, zero := [Value.slice none 0 0], elem := some 5, fields := [], fsz := [], kind := none, str := false, boo := false, fty := [] }
theorem ti37_ok : tiOf Try.prog 37 = some ti37 := by kernel_rfl
/-- func([]uint8) bool -/
def ti38 : TI := { agg := false, size := 1, bytes := 8, zero := [Value.nilFunc], elem := none, fields := [], fsz := [], kind := none, str := false, boo := false, fty := [] }
theorem ti38_ok : tiOf Try.prog 38 = some ti38 := by kernel_rfl
/-- func([]uint8) int -/
def ti39 : TI := { agg := false, size := 1, bytes := 8, zero := [Value.nilFunc], elem := none, fields := [], fsz := [], kind := none, str := false, boo := false, fty := [] }
theorem ti39_ok : tiOf Try.prog 39 = some ti39 := by kernel_rfl
/-- func(int) int -/
def ti40 : TI := { agg := false, size := 1, bytes := 8, zero := [Value.nilFunc], elem := none, fields := [], fsz := [], kind := none, str := false, boo := false, fty := [] }
theorem ti40_ok : tiOf Try.prog 40 = some ti40 := by kernel_rfl
/-- func(int) bool -/
def ti41 : TI := { agg := false, size := 1, bytes := 8, zero := [Value.nilFunc], elem := none, fields := [], fsz := [], kind := none, str := false, boo := false, fty := [] }
theorem ti41_ok : tiOf Try.prog 41 = some ti41 := by kernel_rfl
/-- []impl.Atom -/
def ti42 : TI := { agg := false, size := 1, bytes := 24, zero := [Value.slice none 0 0], elem := some 51, fields := [], fsz := [], kind := none, str := false, boo := false, fty := [] }
theorem ti42_ok : tiOf Try.prog 42 = some ti42 := by kernel_rfl
/-- struct { Head []int; Body []impl.Atom } -/
def ti43 : TI := { agg := true, size := 2, bytes := 48, zero := [Value.slice none 0 0, Value.slice none 0 0], elem := none, fields := [0, 1], fsz := [1, 1], kind := none, str := false, boo := false, fty := [22, 42] }
theorem ti43_ok : tiOf Try.prog 43 = some ti43 := by kernel_rfl
/-- impl.Query = loop.example/g01985/impl.Query -/
def ti44 : TI := { agg := true, size := 2, bytes := 48, zero := [Value.slice none 0 0, Value.slice none 0 0], elem := none, fields := [0, 1], fsz := [1, 1], kind := none, str := false, boo := false, fty := [22, 42] }
theorem ti44_ok : tiOf Try.prog 44 = some ti44 := by kernel_rfl
/-- func([]uint8) (impl.Query, int, int) -/
def ti46 : TI := { agg := false, size := 1, bytes := 8, zero := [Value.nilFunc], elem := none, fields := [], fsz := [], kind := none, str := false, boo := false, fty := [] }
theorem ti46_ok : tiOf Try.prog 46 = some ti46 := by kernel_rfl
/-- func(impl.Query, int, int) impl.Query -/
def ti47 : TI := { agg := false, size := 1, bytes := 8, zero := [Value.nilFunc], elem := none, fields := [], fsz := [], kind := none, str := false, boo := false, fty := [] }
theorem ti47_ok : tiOf Try.prog 47 = some ti47 := by kernel_rfl
/-- func([]uint8) (impl.Query, []int) -/
def ti49 : TI := { agg := false, size := 1, bytes := 8, zero := [Value.nilFunc], elem := none, fields := [], fsz := [], kind := none, str := false, boo := false, fty := [] }
theorem ti49_ok : tiOf Try.prog 49 = some ti49 := by kernel_rfl
/-- struct { Rel int; Args []int } -/
def ti50 : TI := { agg := true, size := 2, bytes := 32, zero := [Value.int IntKind.i64 0, Value.slice none 0 0], elem := none, fields := [0, 1], fsz := [1, 1], kind := none, str := false, boo := false, fty := [3, 22] }
theorem ti50_ok : tiOf Try.prog 50 = some ti50 := by kernel_rfl
/-- impl.Atom = loop.example/g01985/impl.Atom -/
def ti51 : TI := { agg := true, size := 2, bytes := 32, zero := [Value.int IntKind.i64 0, Value.slice none 0 0], elem := none, fields := [0, 1], fsz := [1, 1], kind := none, str := false, boo := false, fty := [3, 22] }
theorem ti51_ok : tiOf Try.prog 51 = some ti51 := by kernel_rfl
/-- func([]uint8) (impl.Atom, impl.Atom) -/
def ti53 : TI := { agg := false, size := 1, bytes := 8, zero := [Value.nilFunc], elem := none, fields := [], fsz := [], kind := none, str := false, boo := false, fty := [] }
theorem ti53_ok : tiOf Try.prog 53 = some ti53 := by kernel_rfl
/-- func([]uint8) (impl.Schema, impl.Atom) -/
def ti55 : TI := { agg := false, size := 1, bytes := 8, zero := [Value.nilFunc], elem := none, fields := [], fsz := [], kind := none, str := false, boo := false, fty := [] }
theorem ti55_ok : tiOf Try.prog 55 = some ti55 := by kernel_rfl
/-- func(impl.Query, impl.Query) bool -/
def ti56 : TI := { agg := false, size := 1, bytes := 8, zero := [Value.nilFunc], elem := none, fields := [], fsz := [], kind := none, str := false, boo := false, fty := [] }
theorem ti56_ok : tiOf Try.prog 56 = some ti56 := by kernel_rfl
/-- func([]int, int) bool -/
def ti57 : TI := { agg := false, size := 1, bytes := 8, zero := [Value.nilFunc], elem := none, fields := [], fsz := [], kind := none, str := false, boo := false, fty := [] }
theorem ti57_ok : tiOf Try.prog 57 = some ti57 := by kernel_rfl
/-- func(impl.Query) []int -/
def ti58 : TI := { agg := false, size := 1, bytes := 8, zero := [Value.nilFunc], elem := none, fields := [], fsz := [], kind := none, str := false, boo := false, fty := [] }
theorem ti58_ok : tiOf Try.prog 58 = some ti58 := by kernel_rfl
/-- func(impl.Query, []int) impl.Query -/
def ti59 : TI := { agg := false, size := 1, bytes := 8, zero := [Value.nilFunc], elem := none, fields := [], fsz := [], kind := none, str := false, boo := false, fty := [] }
theorem ti59_ok : tiOf Try.prog 59 = some ti59 := by kernel_rfl
/-- func([]int, []int) bool -/
def ti60 : TI := { agg := false, size := 1, bytes := 8, zero := [Value.nilFunc], elem := none, fields := [], fsz := [], kind := none, str := false, boo := false, fty := [] }
theorem ti60_ok : tiOf Try.prog 60 = some ti60 := by kernel_rfl
/-- func(impl.Atom, impl.Atom) bool -/
def ti61 : TI := { agg := false, size := 1, bytes := 8, zero := [Value.nilFunc], elem := none, fields := [], fsz := [], kind := none, str := false, boo := false, fty := [] }
theorem ti61_ok : tiOf Try.prog 61 = some ti61 := by kernel_rfl
/-- func(impl.Schema, impl.Atom) bool -/
def ti62 : TI := { agg := false, size := 1, bytes := 8, zero := [Value.nilFunc], elem := none, fields := [], fsz := [], kind := none, str := false, boo := false, fty := [] }
theorem ti62_ok : tiOf Try.prog 62 = some ti62 := by kernel_rfl
/-- func(impl.Schema) bool -/
def ti63 : TI := { agg := false, size := 1, bytes := 8, zero := [Value.nilFunc], elem := none, fields := [], fsz := [], kind := none, str := false, boo := false, fty := [] }
theorem ti63_ok : tiOf Try.prog 63 = some ti63 := by kernel_rfl
/-- func([]uint8) (impl.Schema, impl.Query) -/
def ti65 : TI := { agg := false, size := 1, bytes := 8, zero := [Value.nilFunc], elem := none, fields := [], fsz := [], kind := none, str := false, boo := false, fty := [] }
theorem ti65_ok : tiOf Try.prog 65 = some ti65 := by kernel_rfl
/-- func(impl.Schema, impl.Query) (impl.Query, bool) -/
def ti67 : TI := { agg := false, size := 1, bytes := 8, zero := [Value.nilFunc], elem := none, fields := [], fsz := [], kind := none, str := false, boo := false, fty := [] }
theorem ti67_ok : tiOf Try.prog 67 = some ti67 := by kernel_rfl
/-- func(impl.Schema, impl.Query, impl.Query) bool -/
def ti68 : TI := { agg := false, size := 1, bytes := 8, zero := [Value.nilFunc], elem := none, fields := [], fsz := [], kind := none, str := false, boo := false, fty := [] }
theorem ti68_ok : tiOf Try.prog 68 = some ti68 := by kernel_rfl
/-- func([]uint8) (impl.Schema, impl.Query, impl.Query) -/
def ti70 : TI := { agg := false, size := 1, bytes := 8, zero := [Value.nilFunc], elem := none, fields := [], fsz := [], kind := none, str := false, boo := false, fty := [] }
theorem ti70_ok : tiOf Try.prog 70 = some ti70 := by kernel_rfl
/-- func([]uint8) impl.Query -/
def ti71 : TI := { agg := false, size := 1, bytes := 8, zero := [Value.nilFunc], elem := none, fields := [], fsz := [], kind := none, str := false, boo := false, fty := [] }
theorem ti71_ok : tiOf Try.prog 71 = some ti71 := by kernel_rfl
/-- func(impl.Query) impl.Query -/
def ti72 : TI := { agg := false, size := 1, bytes := 8, zero := [Value.nilFunc], elem := none, fields := [], fsz := [], kind := none, str := false, boo := false, fty := [] }
theorem ti72_ok : tiOf Try.prog 72 = some ti72 := by kernel_rfl
/-- func(impl.Schema, impl.Query) impl.Query -/
def ti73 : TI := { agg := false, size := 1, bytes := 8, zero := [Value.nilFunc], elem := none, fields := [], fsz := [], kind := none, str := false, boo := false, fty := [] }
theorem ti73_ok : tiOf Try.prog 73 = some ti73 := by kernel_rfl
/-- func(impl.Schema, impl.Query) bool -/
def ti74 : TI := { agg := false, size := 1, bytes := 8, zero := [Value.nilFunc], elem := none, fields := [], fsz := [], kind := none, str := false, boo := false, fty := [] }
theorem ti74_ok : tiOf Try.prog 74 = some ti74 := by kernel_rfl
/-- func([]uint8) (impl.Schema, impl.Query, int) -/
def ti76 : TI := { agg := false, size := 1, bytes := 8, zero := [Value.nilFunc], elem := none, fields := [], fsz := [], kind := none, str := false, boo := false, fty := [] }
theorem ti76_ok : tiOf Try.prog 76 = some ti76 := by kernel_rfl
/-- func(impl.Schema, impl.Query, int) (impl.Query, bool) -/
def ti77 : TI := { agg := false, size := 1, bytes := 8, zero := [Value.nilFunc], elem := none, fields := [], fsz := [], kind := none, str := false, boo := false, fty := [] }
theorem ti77_ok : tiOf Try.prog 77 = some ti77 := by kernel_rfl
/-- func(impl.Schema, impl.Query, int) bool -/
def ti78 : TI := { agg := false, size := 1, bytes := 8, zero := [Value.nilFunc], elem := none, fields := [], fsz := [], kind := none, str := false, boo := false, fty := [] }
theorem ti78_ok : tiOf Try.prog 78 = some ti78 := by kernel_rfl
/-- func([]int, int) int -/
def ti79 : TI := { agg := false, size := 1, bytes := 8, zero := [Value.nilFunc], elem := none, fields := [], fsz := [], kind := none, str := false, boo := false, fty := [] }
theorem ti79_ok : tiOf Try.prog 79 = some ti79 := by kernel_rfl
/-- []string -/
def ti80 : TI := { agg := false, size := 1, bytes := 24, zero := [Value.slice none 0 0], elem := some 9, fields := [], fsz := [], kind := none, str := false, boo := false, fty := [] }
theorem ti80_ok : tiOf Try.prog 80 = some ti80 := by kernel_rfl
/-- func(string, uint8) []string -/
def ti81 : TI := { agg := false, size := 1, bytes := 8, zero := [Value.nilFunc], elem := none, fields := [], fsz := [], kind := none, str := false, boo := false, fty := [] }
theorem ti81_ok : tiOf Try.prog 81 = some ti81 := by kernel_rfl
/-- func(string) (int, bool) -/
def ti83 : TI := { agg := false, size := 1, bytes := 8, zero := [Value.nilFunc], elem := none, fields := [], fsz := [], kind := none, str := false, boo := false, fty := [] }
theorem ti83_ok : tiOf Try.prog 83 = some ti83 := by kernel_rfl
/-- func(impl.Schema, impl.Key) bool -/
def ti84 : TI := { agg := false, size := 1, bytes := 8, zero := [Value.nilFunc], elem := none, fields := [], fsz := [], kind := none, str := false, boo := false, fty := [] }
theorem ti84_ok : tiOf Try.prog 84 = some ti84 := by kernel_rfl
/-- func(impl.Key) string -/
def ti85 : TI := { agg := false, size := 1, bytes := 8, zero := [Value.nilFunc], elem := none, fields := [], fsz := [], kind := none, str := false, boo := false, fty := [] }
theorem ti85_ok : tiOf Try.prog 85 = some ti85 := by kernel_rfl
/-- func([]int) []int -/
def ti86 : TI := { agg := false, size := 1, bytes := 8, zero := [Value.nilFunc], elem := none, fields := [], fsz := [], kind := none, str := false, boo := false, fty := [] }
theorem ti86_ok : tiOf Try.prog 86 = some ti86 := by kernel_rfl
/-- func(string, string) []string -/
def ti87 : TI := { agg := false, size := 1, bytes := 8, zero := [Value.nilFunc], elem := none, fields := [], fsz := [], kind := none, str := false, boo := false, fty := [] }
theorem ti87_ok : tiOf Try.prog 87 = some ti87 := by kernel_rfl
/-- func(*spec.l1Cur) int -/
def ti88 : TI := { agg := false, size := 1, bytes := 8, zero := [Value.nilFunc], elem := none, fields := [], fsz := [], kind := none, str := false, boo := false, fty := [] }
theorem ti88_ok : tiOf Try.prog 88 = some ti88 := by kernel_rfl
/-- *spec.l1Cur -/
def ti89 : TI := { agg := false, size := 1, bytes := 8, zero := [Value.pointer none], elem := none, fields := [], fsz := [], kind := none, str := false, boo := false, fty := [] }
theorem ti89_ok : tiOf Try.prog 89 = some ti89 := by kernel_rfl
/-- func([]uint8) *spec.l1Cur -/
def ti90 : TI := { agg := false, size := 1, bytes := 8, zero := [Value.nilFunc], elem := none, fields := [], fsz := [], kind := none, str := false, boo := false, fty := [] }
theorem ti90_ok : tiOf Try.prog 90 = some ti90 := by kernel_rfl
/-- func(*spec.l1Cur, []int) int -/
def ti91 : TI := { agg := false, size := 1, bytes := 8, zero := [Value.nilFunc], elem := none, fields := [], fsz := [], kind := none, str := false, boo := false, fty := [] }
theorem ti91_ok : tiOf Try.prog 91 = some ti91 := by kernel_rfl
/-- func(int, int, int) bool -/
def ti92 : TI := { agg := false, size := 1, bytes := 8, zero := [Value.nilFunc], elem := none, fields := [], fsz := [], kind := none, str := false, boo := false, fty := [] }
theorem ti92_ok : tiOf Try.prog 92 = some ti92 := by kernel_rfl
/-- func(*spec.l1Cur) (impl.Schema, impl.Query) -/
def ti93 : TI := { agg := false, size := 1, bytes := 8, zero := [Value.nilFunc], elem := none, fields := [], fsz := [], kind := none, str := false, boo := false, fty := [] }
theorem ti93_ok : tiOf Try.prog 93 = some ti93 := by kernel_rfl
/-- func(func(int) int) impl.Query -/
def ti94 : TI := { agg := false, size := 1, bytes := 8, zero := [Value.nilFunc], elem := none, fields := [], fsz := [], kind := none, str := false, boo := false, fty := [] }
theorem ti94_ok : tiOf Try.prog 94 = some ti94 := by kernel_rfl
/-- func(*spec.l1Cur, int) int -/
def ti95 : TI := { agg := false, size := 1, bytes := 8, zero := [Value.nilFunc], elem := none, fields := [], fsz := [], kind := none, str := false, boo := false, fty := [] }
theorem ti95_ok : tiOf Try.prog 95 = some ti95 := by kernel_rfl
/-- func(*spec.l1Cur) impl.Atom -/
def ti96 : TI := { agg := false, size := 1, bytes := 8, zero := [Value.nilFunc], elem := none, fields := [], fsz := [], kind := none, str := false, boo := false, fty := [] }
theorem ti96_ok : tiOf Try.prog 96 = some ti96 := by kernel_rfl
/-- func(*spec.l1Cur) impl.Schema -/
def ti97 : TI := { agg := false, size := 1, bytes := 8, zero := [Value.nilFunc], elem := none, fields := [], fsz := [], kind := none, str := false, boo := false, fty := [] }
theorem ti97_ok : tiOf Try.prog 97 = some ti97 := by kernel_rfl
/-- func(*spec.l1Cur, int) bool -/
def ti98 : TI := { agg := false, size := 1, bytes := 8, zero := [Value.nilFunc], elem := none, fields := [], fsz := [], kind := none, str := false, boo := false, fty := [] }
theorem ti98_ok : tiOf Try.prog 98 = some ti98 := by kernel_rfl
/-- func(*spec.l1Cur, impl.Schema) impl.Atom -/
def ti99 : TI := { agg := false, size := 1, bytes := 8, zero := [Value.nilFunc], elem := none, fields := [], fsz := [], kind := none, str := false, boo := false, fty := [] }
theorem ti99_ok : tiOf Try.prog 99 = some ti99 := by kernel_rfl
/-- func([]int, int, int) []int -/
def ti100 : TI := { agg := false, size := 1, bytes := 8, zero := [Value.nilFunc], elem := none, fields := [], fsz := [], kind := none, str := false, boo := false, fty := [] }
theorem ti100_ok : tiOf Try.prog 100 = some ti100 := by kernel_rfl
/-- func([]int, []int) []int -/
def ti101 : TI := { agg := false, size := 1, bytes := 8, zero := [Value.nilFunc], elem := none, fields := [], fsz := [], kind := none, str := false, boo := false, fty := [] }
theorem ti101_ok : tiOf Try.prog 101 = some ti101 := by kernel_rfl
/-- func([]int, []int) int -/
def ti102 : TI := { agg := false, size := 1, bytes := 8, zero := [Value.nilFunc], elem := none, fields := [], fsz := [], kind := none, str := false, boo := false, fty := [] }
theorem ti102_ok : tiOf Try.prog 102 = some ti102 := by kernel_rfl
/-- func(int, int) bool -/
def ti103 : TI := { agg := false, size := 1, bytes := 8, zero := [Value.nilFunc], elem := none, fields := [], fsz := [], kind := none, str := false, boo := false, fty := [] }
theorem ti103_ok : tiOf Try.prog 103 = some ti103 := by kernel_rfl
/-- func([]int) bool -/
def ti104 : TI := { agg := false, size := 1, bytes := 8, zero := [Value.nilFunc], elem := none, fields := [], fsz := [], kind := none, str := false, boo := false, fty := [] }
theorem ti104_ok : tiOf Try.prog 104 = some ti104 := by kernel_rfl
/-- func([]uint8) (*spec.l1Cur, impl.Schema, impl.Query) -/
def ti106 : TI := { agg := false, size := 1, bytes := 8, zero := [Value.nilFunc], elem := none, fields := [], fsz := [], kind := none, str := false, boo := false, fty := [] }
theorem ti106_ok : tiOf Try.prog 106 = some ti106 := by kernel_rfl
/-- func([]impl.Atom, []impl.Atom) -/
def ti107 : TI := { agg := false, size := 1, bytes := 8, zero := [Value.nilFunc], elem := none, fields := [], fsz := [], kind := none, str := false, boo := false, fty := [] }
theorem ti107_ok : tiOf Try.prog 107 = some ti107 := by kernel_rfl
/-- func(impl.Query, []bool, impl.Query, *impl.Query, *bool) -/
def ti108 : TI := { agg := false, size := 1, bytes := 8, zero := [Value.nilFunc], elem := none, fields := [], fsz := [], kind := none, str := false, boo := false, fty := [] }
theorem ti108_ok : tiOf Try.prog 108 = some ti108 := by kernel_rfl
/-- []bool -/
def ti109 : TI := { agg := false, size := 1, bytes := 24, zero := [Value.slice none 0 0], elem := some 4, fields := [], fsz := [], kind := none, str := false, boo := false, fty := [] }
theorem ti109_ok : tiOf Try.prog 109 = some ti109 := by kernel_rfl
/-- *impl.Query -/
def ti110 : TI := { agg := false, size := 1, bytes := 8, zero := [Value.pointer none], elem := none, fields := [], fsz := [], kind := none, str := false, boo := false, fty := [] }
theorem ti110_ok : tiOf Try.prog 110 = some ti110 := by kernel_rfl
/-- *bool -/
def ti111 : TI := { agg := false, size := 1, bytes := 8, zero := [Value.pointer none], elem := none, fields := [], fsz := [], kind := none, str := false, boo := false, fty := [] }
theorem ti111_ok : tiOf Try.prog 111 = some ti111 := by kernel_rfl
/-- func(*spec.l1Cur) (impl.Schema, impl.Query, impl.Query) -/
def ti112 : TI := { agg := false, size := 1, bytes := 8, zero := [Value.nilFunc], elem := none, fields := [], fsz := [], kind := none, str := false, boo := false, fty := [] }
theorem ti112_ok : tiOf Try.prog 112 = some ti112 := by kernel_rfl
/-- map[int]int -/
def ti113 : TI := { agg := false, size := 1, bytes := 8, zero := [Value.map none], elem := none, fields := [], fsz := [1], kind := none, str := false, boo := false, fty := [] }
theorem ti113_ok : tiOf Try.prog 113 = some ti113 := by kernel_rfl
/-- func([]impl.Atom) []impl.Atom -/
def ti114 : TI := { agg := false, size := 1, bytes := 8, zero := [Value.nilFunc], elem := none, fields := [], fsz := [], kind := none, str := false, boo := false, fty := [] }
theorem ti114_ok : tiOf Try.prog 114 = some ti114 := by kernel_rfl
/-- func(int) string -/
def ti115 : TI := { agg := false, size := 1, bytes := 8, zero := [Value.nilFunc], elem := none, fields := [], fsz := [], kind := none, str := false, boo := false, fty := [] }
theorem ti115_ok : tiOf Try.prog 115 = some ti115 := by kernel_rfl
/-- func([]int) string -/
def ti116 : TI := { agg := false, size := 1, bytes := 8, zero := [Value.nilFunc], elem := none, fields := [], fsz := [], kind := none, str := false, boo := false, fty := [] }
theorem ti116_ok : tiOf Try.prog 116 = some ti116 := by kernel_rfl
/-- struct { b []uint8; i int; h int } -/
def ti117 : TI := { agg := true, size := 3, bytes := 40, zero := [Value.slice none 0 0, Value.int IntKind.i64 0, Value.int IntKind.i64 0], elem := none, fields := [0, 1, 2], fsz := [1, 1, 1], kind := none, str := false, boo := false, fty := [37, 3, 3] }
theorem ti117_ok : tiOf Try.prog 117 = some ti117 := by kernel_rfl
/-- spec.l1Cur = loop.example/g01985/spec.l1Cur -/
def ti118 : TI := { agg := true, size := 3, bytes := 40, zero := [Value.slice none 0 0, Value.int IntKind.i64 0, Value.int IntKind.i64 0], elem := none, fields := [0, 1, 2], fsz := [1, 1, 1], kind := none, str := false, boo := false, fty := [37, 3, 3] }
theorem ti118_ok : tiOf Try.prog 118 = some ti118 := by kernel_rfl
/-- func(*spec.l1Cur, impl.Schema) impl.Query -/
def ti119 : TI := { agg := false, size := 1, bytes := 8, zero := [Value.nilFunc], elem := none, fields := [], fsz := [], kind := none, str := false, boo := false, fty := [] }
theorem ti119_ok : tiOf Try.prog 119 = some ti119 := by kernel_rfl
/-- func(int, []int) int -/
def ti120 : TI := { agg := false, size := 1, bytes := 8, zero := [Value.nilFunc], elem := none, fields := [], fsz := [], kind := none, str := false, boo := false, fty := [] }
theorem ti120_ok : tiOf Try.prog 120 = some ti120 := by kernel_rfl
/-- func(int, int) int -/
def ti121 : TI := { agg := false, size := 1, bytes := 8, zero := [Value.nilFunc], elem := none, fields := [], fsz := [], kind := none, str := false, boo := false, fty := [] }
theorem ti121_ok : tiOf Try.prog 121 = some ti121 := by kernel_rfl
/-- func(*spec.l1Cur, impl.Schema, impl.Query) impl.Query -/
def ti122 : TI := { agg := false, size := 1, bytes := 8, zero := [Value.nilFunc], elem := none, fields := [], fsz := [], kind := none, str := false, boo := false, fty := [] }
theorem ti122_ok : tiOf Try.prog 122 = some ti122 := by kernel_rfl
/-- func() bool -/
def ti123 : TI := { agg := false, size := 1, bytes := 8, zero := [Value.nilFunc], elem := none, fields := [], fsz := [], kind := none, str := false, boo := false, fty := [] }
theorem ti123_ok : tiOf Try.prog 123 = some ti123 := by kernel_rfl
/-- func([]impl.Atom, []impl.Atom, func(impl.Atom, impl.Atom) bool) bool -/
def ti124 : TI := { agg := false, size := 1, bytes := 8, zero := [Value.nilFunc], elem := none, fields := [], fsz := [], kind := none, str := false, boo := false, fty := [] }
theorem ti124_ok : tiOf Try.prog 124 = some ti124 := by kernel_rfl
/-- func(impl.Schema, impl.Query, impl.Query) ([]int, bool) -/
def ti126 : TI := { agg := false, size := 1, bytes := 8, zero := [Value.nilFunc], elem := none, fields := [], fsz := [], kind := none, str := false, boo := false, fty := [] }
theorem ti126_ok : tiOf Try.prog 126 = some ti126 := by kernel_rfl
/-- func([]string, string) string -/
def ti127 : TI := { agg := false, size := 1, bytes := 8, zero := [Value.nilFunc], elem := none, fields := [], fsz := [], kind := none, str := false, boo := false, fty := [] }
theorem ti127_ok : tiOf Try.prog 127 = some ti127 := by kernel_rfl
/-- uint -/
def ti128 : TI := { agg := false, size := 1, bytes := 8, zero := [Value.int IntKind.u64 0], elem := none, fields := [], fsz := [], kind := some IntKind.u64, str := false, boo := false, fty := [] }
theorem ti128_ok : tiOf Try.prog 128 = some ti128 := by kernel_rfl
/-- func(impl.Query, impl.Query) ([]int, bool) -/
def ti129 : TI := { agg := false, size := 1, bytes := 8, zero := [Value.nilFunc], elem := none, fields := [], fsz := [], kind := none, str := false, boo := false, fty := [] }
theorem ti129_ok : tiOf Try.prog 129 = some ti129 := by kernel_rfl
/-- func([]int, int, int) bool -/
def ti130 : TI := { agg := false, size := 1, bytes := 8, zero := [Value.nilFunc], elem := none, fields := [], fsz := [], kind := none, str := false, boo := false, fty := [] }
theorem ti130_ok : tiOf Try.prog 130 = some ti130 := by kernel_rfl
/-- func([]int, int) []int -/
def ti131 : TI := { agg := false, size := 1, bytes := 8, zero := [Value.nilFunc], elem := none, fields := [], fsz := [], kind := none, str := false, boo := false, fty := [] }
theorem ti131_ok : tiOf Try.prog 131 = some ti131 := by kernel_rfl
/-- func([]int, []int, []int) ([]int, bool) -/
def ti132 : TI := { agg := false, size := 1, bytes := 8, zero := [Value.nilFunc], elem := none, fields := [], fsz := [], kind := none, str := false, boo := false, fty := [] }
theorem ti132_ok : tiOf Try.prog 132 = some ti132 := by kernel_rfl
/-- func() []int -/
def ti133 : TI := { agg := false, size := 1, bytes := 8, zero := [Value.nilFunc], elem := none, fields := [], fsz := [], kind := none, str := false, boo := false, fty := [] }
theorem ti133_ok : tiOf Try.prog 133 = some ti133 := by kernel_rfl
/-- func(impl.Query, impl.Query, int, []int) ([]int, bool) -/
def ti134 : TI := { agg := false, size := 1, bytes := 8, zero := [Value.nilFunc], elem := none, fields := [], fsz := [], kind := none, str := false, boo := false, fty := [] }
theorem ti134_ok : tiOf Try.prog 134 = some ti134 := by kernel_rfl
/-- func() string -/
def ti135 : TI := { agg := false, size := 1, bytes := 8, zero := [Value.nilFunc], elem := none, fields := [], fsz := [], kind := none, str := false, boo := false, fty := [] }
theorem ti135_ok : tiOf Try.prog 135 = some ti135 := by kernel_rfl
/-- struct { _interface *abi.Type; concrete *abi.Type; asserted *abi.Type; missingMethod string } -/
def ti136 : TI := { agg := true, size := 4, bytes := 40, zero := [Value.pointer none, Value.pointer none, Value.pointer none, Value.string ByteArray.empty], elem := none, fields := [0, 1, 2, 3], fsz := [1, 1, 1, 1], kind := none, str := false, boo := false, fty := [17, 17, 17, 9] }
theorem ti136_ok : tiOf Try.prog 136 = some ti136 := by kernel_rfl
/-- runtime.TypeAssertionError -/
def ti137 : TI := { agg := true, size := 4, bytes := 40, zero := [Value.pointer none, Value.pointer none, Value.pointer none, Value.string ByteArray.empty], elem := none, fields := [0, 1, 2, 3], fsz := [1, 1, 1, 1], kind := none, str := false, boo := false, fty := [17, 17, 17, 9] }
theorem ti137_ok : tiOf Try.prog 137 = some ti137 := by kernel_rfl
/-- [0]*runtime.PanicNilError -/
def ti138 : TI := { agg := true, size := 0, bytes := 0, zero := [], elem := none, fields := [], fsz := [0, 16], kind := none, str := false, boo := false, fty := [] }
theorem ti138_ok : tiOf Try.prog 138 = some ti138 := by kernel_rfl
/-- func() int -/
def ti141 : TI := { agg := false, size := 1, bytes := 8, zero := [Value.nilFunc], elem := none, fields := [], fsz := [], kind := none, str := false, boo := false, fty := [] }
theorem ti141_ok : tiOf Try.prog 141 = some ti141 := by kernel_rfl
/-- uint32 -/
def ti142 : TI := { agg := false, size := 1, bytes := 4, zero := [Value.int IntKind.u32 0], elem := none, fields := [], fsz := [], kind := some IntKind.u32, str := false, boo := false, fty := [] }
theorem ti142_ok : tiOf Try.prog 142 = some ti142 := by kernel_rfl
/-- abi.TFlag = internal/abi.TFlag -/
def ti143 : TI := { agg := false, size := 1, bytes := 1, zero := [Value.int IntKind.u8 0], elem := none, fields := [], fsz := [], kind := some IntKind.u8, str := false, boo := false, fty := [] }
theorem ti143_ok : tiOf Try.prog 143 = some ti143 := by kernel_rfl
/-- abi.Kind = internal/abi.Kind -/
def ti144 : TI := { agg := false, size := 1, bytes := 1, zero := [Value.int IntKind.u8 0], elem := none, fields := [], fsz := [], kind := some IntKind.u8, str := false, boo := false, fty := [] }
theorem ti144_ok : tiOf Try.prog 144 = some ti144 := by kernel_rfl
/-- func(unsafe.Pointer, unsafe.Pointer) bool -/
def ti145 : TI := { agg := false, size := 1, bytes := 8, zero := [Value.nilFunc], elem := none, fields := [], fsz := [], kind := none, str := false, boo := false, fty := [] }
theorem ti145_ok : tiOf Try.prog 145 = some ti145 := by kernel_rfl
/-- *uint8 -/
def ti146 : TI := { agg := false, size := 1, bytes := 8, zero := [Value.pointer none], elem := none, fields := [], fsz := [], kind := none, str := false, boo := false, fty := [] }
theorem ti146_ok : tiOf Try.prog 146 = some ti146 := by kernel_rfl
/-- abi.NameOff = internal/abi.NameOff -/
def ti147 : TI := { agg := false, size := 1, bytes := 4, zero := [Value.int IntKind.i32 0], elem := none, fields := [], fsz := [], kind := some IntKind.i32, str := false, boo := false, fty := [] }
theorem ti147_ok : tiOf Try.prog 147 = some ti147 := by kernel_rfl
/-- abi.TypeOff = internal/abi.TypeOff -/
def ti148 : TI := { agg := false, size := 1, bytes := 4, zero := [Value.int IntKind.i32 0], elem := none, fields := [], fsz := [], kind := some IntKind.i32, str := false, boo := false, fty := [] }
theorem ti148_ok : tiOf Try.prog 148 = some ti148 := by kernel_rfl
/-- struct { Size_ uintptr; PtrBytes uintptr; Hash uint32; TFlag abi.TFlag; Align_ uint8; FieldAlign_ uint8; Kind_ abi.Kind; Equal func(unsafe.Pointer, unsafe.Pointer) bool; GCData *uint8; Str abi.NameOff; PtrToThis abi.TypeOff } -/
def ti149 : TI := { agg := true, size := 11, bytes := 48, zero := [Value.int IntKind.u64 0, Value.int IntKind.u64 0, Value.int IntKind.u32 0, Value.int IntKind.u8 0, Value.int IntKind.u8 0, Value.int IntKind.u8 0, Value.int IntKind.u8 0, Value.nilFunc, Value.pointer none, Value.int IntKind.i32 0, Value.int IntKind.i32 0], elem := none, fields := [0, 1, 2, 3, 4, 5, 6, 7, 8, 9, 10], fsz := [1, 1, 1, 1, 1, 1, 1, 1, 1, 1, 1], kind := none, str := false, boo := false, fty := [12, 12, 142, 143, 5, 5, 144, 145, 146, 147, 148] }
theorem ti149_ok : tiOf Try.prog 149 = some ti149 := by kernel_rfl
/-- abi.Type = internal/abi.Type -/
def ti150 : TI := { agg := true, size := 11, bytes := 48, zero := [Value.int IntKind.u64 0, Value.int IntKind.u64 0, Value.int IntKind.u32 0, Value.int IntKind.u8 0, Value.int IntKind.u8 0, Value.int IntKind.u8 0, Value.int IntKind.u8 0, Value.nilFunc, Value.pointer none, Value.int IntKind.i32 0, Value.int IntKind.i32 0], elem := none, fields := [0, 1, 2, 3, 4, 5, 6, 7, 8, 9, 10], fsz := [1, 1, 1, 1, 1, 1, 1, 1, 1, 1, 1], kind := none, str := false, boo := false, fty := [12, 12, 142, 143, 5, 5, 144, 145, 146, 147, 148] }
theorem ti150_ok : tiOf Try.prog 150 = some ti150 := by kernel_rfl
def tis : List (Nat × TI) := [(1, ti1), (2, ti2), (3, ti3), (4, ti4), (5, ti5), (6, ti6), (7, ti7), (8, ti8), (9, ti9), (10, ti10), (11, ti11), (12, ti12), (13, ti13), (14, ti14), (15, ti15), (16, ti16), (17, ti17), (18, ti18), (19, ti19), (21, ti21), (22, ti22), (23, ti23), (24, ti24), (25, ti25), (26, ti26), (27, ti27), (29, ti29), (30, ti30), (31, ti31), (32, ti32), (33, ti33), (34, ti34), (35, ti35), (36, ti36), (37, ti37), (38, ti38), (39, ti39), (40, ti40), (41, ti41), (42, ti42), (43, ti43), (44, ti44), (46, ti46), (47, ti47), (49, ti49), (50, ti50), (51, ti51), (53, ti53), (55, ti55), (56, ti56), (57, ti57), (58, ti58), (59, ti59), (60, ti60), (61, ti61), (62, ti62), (63, ti63), (65, ti65), (67, ti67), (68, ti68), (70, ti70), (71, ti71), (72, ti72), (73, ti73), (74, ti74), (76, ti76), (77, ti77), (78, ti78), (79, ti79), (80, ti80), (81, ti81), (83, ti83), (84, ti84), (85, ti85), (86, ti86), (87, ti87), (88, ti88), (89, ti89), (90, ti90), (91, ti91), (92, ti92), (93, ti93), (94, ti94), (95, ti95), (96, ti96), (97, ti97), (98, ti98), (99, ti99), (100, ti100), (101, ti101), (102, ti102), (103, ti103), (104, ti104), (106, ti106), (107, ti107), (108, ti108), (109, ti109), (110, ti110), (111, ti111), (112, ti112), (113, ti113), (114, ti114), (115, ti115), (116, ti116), (117, ti117), (118, ti118), (119, ti119), (120, ti120), (121, ti121), (122, ti122), (123, ti123), (124, ti124), (126, ti126), (127, ti127), (128, ti128), (129, ti129), (130, ti130), (131, ti131), (132, ti132), (133, ti133), (134, ti134), (135, ti135), (136, ti136), (137, ti137), (138, ti138), (141, ti141), (142, ti142), (143, ti143), (144, ti144), (145, ti145), (146, ti146), (147, ti147), (148, ti148), (149, ti149), (150, ti150)]
def Γ : Tab := tabL tis
set_option maxRecDepth 100000 in
theorem Γ_ok : TabOk Try.prog Γ := tabL_ok (by
  simp only [tis, List.forall_mem_cons, List.not_mem_nil, false_implies, implies_true, and_true]
  exact ⟨ti1_ok, ti2_ok, ti3_ok, ti4_ok, ti5_ok, ti6_ok, ti7_ok, ti8_ok, ti9_ok, ti10_ok, ti11_ok, ti12_ok, ti13_ok, ti14_ok, ti15_ok, ti16_ok, ti17_ok, ti18_ok, ti19_ok, ti21_ok, ti22_ok, ti23_ok, ti24_ok, ti25_ok, ti26_ok, ti27_ok, ti29_ok, ti30_ok, ti31_ok, ti32_ok, ti33_ok, ti34_ok, ti35_ok, ti36_ok, ti37_ok, ti38_ok, ti39_ok, ti40_ok, ti41_ok, ti42_ok, ti43_ok, ti44_ok, ti46_ok, ti47_ok, ti49_ok, ti50_ok, ti51_ok, ti53_ok, ti55_ok, ti56_ok, ti57_ok, ti58_ok, ti59_ok, ti60_ok, ti61_ok, ti62_ok, ti63_ok, ti65_ok, ti67_ok, ti68_ok, ti70_ok, ti71_ok, ti72_ok, ti73_ok, ti74_ok, ti76_ok, ti77_ok, ti78_ok, ti79_ok, ti80_ok, ti81_ok, ti83_ok, ti84_ok, ti85_ok, ti86_ok, ti87_ok, ti88_ok, ti89_ok, ti90_ok, ti91_ok, ti92_ok, ti93_ok, ti94_ok, ti95_ok, ti96_ok, ti97_ok, ti98_ok, ti99_ok, ti100_ok, ti101_ok, ti102_ok, ti103_ok, ti104_ok, ti106_ok, ti107_ok, ti108_ok, ti109_ok, ti110_ok, ti111_ok, ti112_ok, ti113_ok, ti114_ok, ti115_ok, ti116_ok, ti117_ok, ti118_ok, ti119_ok, ti120_ok, ti121_ok, ti122_ok, ti123_ok, ti124_ok, ti126_ok, ti127_ok, ti128_ok, ti129_ok, ti130_ok, ti131_ok, ti132_ok, ti133_ok, ti134_ok, ti135_ok, ti136_ok, ti137_ok, ti138_ok, ti141_ok, ti142_ok, ti143_ok, ti144_ok, ti145_ok, ti146_ok, ti147_ok, ti148_ok, ti149_ok, ti150_ok⟩)
theorem mx : Try.prog.follows .mixedOrders = true := by kernel_rfl
end Go.Proofs.YthfjngmbdbocbaaD
