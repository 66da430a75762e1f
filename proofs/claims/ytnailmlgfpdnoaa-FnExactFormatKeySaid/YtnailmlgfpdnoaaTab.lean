/- What is asked of the types of this seat's program; written by wip/mktab.py. -/
import Derived.Test.YtnailmlgfpdnoaaChecked
import Derived.Test.YtnailmlgfpdnoaaD20
namespace Go.Proofs.YtnailmlgfpdnoaaD
open Go Go.Proofs

/-- func() -/
def ti1 : TI := { agg := false, size := 1, bytes := 8, zero := [Value.nilFunc], elem := none, fields := [], fsz := [], kind := none, str := false, boo := false }
theorem ti1_ok : tiOf Try.prog 1 = some ti1 := by kernel_rfl
/-- int64 -/
def ti2 : TI := { agg := false, size := 1, bytes := 8, zero := [Value.int IntKind.i64 0], elem := none, fields := [], fsz := [], kind := some IntKind.i64, str := false, boo := false }
theorem ti2_ok : tiOf Try.prog 2 = some ti2 := by kernel_rfl
/-- int -/
def ti3 : TI := { agg := false, size := 1, bytes := 8, zero := [Value.int IntKind.i64 0], elem := none, fields := [], fsz := [], kind := some IntKind.i64, str := false, boo := false }
theorem ti3_ok : tiOf Try.prog 3 = some ti3 := by kernel_rfl
/-- bool -/
def ti4 : TI := { agg := false, size := 1, bytes := 1, zero := [Value.bool false], elem := none, fields := [], fsz := [], kind := none, str := false, boo := true }
theorem ti4_ok : tiOf Try.prog 4 = some ti4 := by kernel_rfl
/-- uint8 -/
def ti5 : TI := { agg := false, size := 1, bytes := 1, zero := [Value.int IntKind.u8 0], elem := none, fields := [], fsz := [], kind := some IntKind.u8, str := false, boo := false }
theorem ti5_ok : tiOf Try.prog 5 = some ti5 := by kernel_rfl
/-- abi.BoundsErrorCode = internal/abi.BoundsErrorCode -/
def ti6 : TI := { agg := false, size := 1, bytes := 1, zero := [Value.int IntKind.u8 0], elem := none, fields := [], fsz := [], kind := some IntKind.u8, str := false, boo := false }
theorem ti6_ok : tiOf Try.prog 6 = some ti6 := by kernel_rfl
/-- struct { x int64; y int; signed bool; code abi.BoundsErrorCode } -/
def ti7 : TI := { agg := true, size := 4, bytes := 24, zero := [Value.int IntKind.i64 0, Value.int IntKind.i64 0, Value.bool false, Value.int IntKind.u8 0], elem := none, fields := [0, 1, 2, 3], fsz := [1, 1, 1, 1], kind := none, str := false, boo := false }
theorem ti7_ok : tiOf Try.prog 7 = some ti7 := by kernel_rfl
/-- runtime.boundsError -/
def ti8 : TI := { agg := true, size := 4, bytes := 24, zero := [Value.int IntKind.i64 0, Value.int IntKind.i64 0, Value.bool false, Value.int IntKind.u8 0], elem := none, fields := [0, 1, 2, 3], fsz := [1, 1, 1, 1], kind := none, str := false, boo := false }
theorem ti8_ok : tiOf Try.prog 8 = some ti8 := by kernel_rfl
/-- string -/
def ti9 : TI := { agg := false, size := 1, bytes := 16, zero := [Value.string ByteArray.empty], elem := none, fields := [], fsz := [], kind := none, str := true, boo := false }
theorem ti9_ok : tiOf Try.prog 9 = some ti9 := by kernel_rfl
/-- runtime.errorString -/
def ti10 : TI := { agg := false, size := 1, bytes := 16, zero := [Value.string ByteArray.empty], elem := none, fields := [], fsz := [], kind := none, str := true, boo := false }
theorem ti10_ok : tiOf Try.prog 10 = some ti10 := by kernel_rfl
/-- runtime.plainError -/
def ti11 : TI := { agg := false, size := 1, bytes := 16, zero := [Value.string ByteArray.empty], elem := none, fields := [], fsz := [], kind := none, str := true, boo := false }
theorem ti11_ok : tiOf Try.prog 11 = some ti11 := by kernel_rfl
/-- uintptr -/
def ti12 : TI := { agg := false, size := 1, bytes := 8, zero := [Value.int IntKind.u64 0], elem := none, fields := [], fsz := [], kind := some IntKind.u64, str := false, boo := false }
theorem ti12_ok : tiOf Try.prog 12 = some ti12 := by kernel_rfl
/-- struct { msg string; addr uintptr } -/
def ti13 : TI := { agg := true, size := 2, bytes := 24, zero := [Value.string ByteArray.empty, Value.int IntKind.u64 0], elem := none, fields := [0, 1], fsz := [1, 1], kind := none, str := false, boo := false }
theorem ti13_ok : tiOf Try.prog 13 = some ti13 := by kernel_rfl
/-- runtime.errorAddressString -/
def ti14 : TI := { agg := true, size := 2, bytes := 24, zero := [Value.string ByteArray.empty, Value.int IntKind.u64 0], elem := none, fields := [0, 1], fsz := [1, 1], kind := none, str := false, boo := false }
theorem ti14_ok : tiOf Try.prog 14 = some ti14 := by kernel_rfl
/-- *runtime.TypeAssertionError -/
def ti15 : TI := { agg := false, size := 1, bytes := 8, zero := [Value.pointer none], elem := none, fields := [], fsz := [], kind := none, str := false, boo := false }
theorem ti15_ok : tiOf Try.prog 15 = some ti15 := by kernel_rfl
/-- *runtime.PanicNilError -/
def ti16 : TI := { agg := false, size := 1, bytes := 8, zero := [Value.pointer none], elem := none, fields := [], fsz := [], kind := none, str := false, boo := false }
theorem ti16_ok : tiOf Try.prog 16 = some ti16 := by kernel_rfl
/-- *abi.Type -/
def ti17 : TI := { agg := false, size := 1, bytes := 8, zero := [Value.pointer none], elem := none, fields := [], fsz := [], kind := none, str := false, boo := false }
theorem ti17_ok : tiOf Try.prog 17 = some ti17 := by kernel_rfl
/-- struct { typ *abi.Type } -/
def ti18 : TI := { agg := true, size := 1, bytes := 8, zero := [Value.pointer none], elem := none, fields := [0], fsz := [1], kind := none, str := false, boo := false }
theorem ti18_ok : tiOf Try.prog 18 = some ti18 := by kernel_rfl
/-- maps.unhashableTypeError = internal/runtime/maps.unhashableTypeError -/
def ti19 : TI := { agg := true, size := 1, bytes := 8, zero := [Value.pointer none], elem := none, fields := [0], fsz := [1], kind := none, str := false, boo := false }
theorem ti19_ok : tiOf Try.prog 19 = some ti19 := by kernel_rfl
/-- int32 -/
def ti21 : TI := { agg := false, size := 1, bytes := 4, zero := [Value.int IntKind.i32 0], elem := none, fields := [], fsz := [], kind := some IntKind.i32, str := false, boo := false }
theorem ti21_ok : tiOf Try.prog 21 = some ti21 := by kernel_rfl
/-- []int -/
def ti22 : TI := { agg := false, size := 1, bytes := 24, zero := [Value.slice none 0 0], elem := some 3, fields := [], fsz := [], kind := none, str := false, boo := false }
theorem ti22_ok : tiOf Try.prog 22 = some ti22 := by kernel_rfl
/-- func([]int, int) ([]int, bool) -/
def ti24 : TI := { agg := false, size := 1, bytes := 8, zero := [Value.nilFunc], elem := none, fields := [], fsz := [], kind := none, str := false, boo := false }
theorem ti24_ok : tiOf Try.prog 24 = some ti24 := by kernel_rfl
/-- func([]int) []int -/
def ti25 : TI := { agg := false, size := 1, bytes := 8, zero := [Value.nilFunc], elem := none, fields := [], fsz := [], kind := none, str := false, boo := false }
theorem ti25_ok : tiOf Try.prog 25 = some ti25 := by kernel_rfl
/-- func([]int, []int) bool -/
def ti26 : TI := { agg := false, size := 1, bytes := 8, zero := [Value.nilFunc], elem := none, fields := [], fsz := [], kind := none, str := false, boo := false }
theorem ti26_ok : tiOf Try.prog 26 = some ti26 := by kernel_rfl
/-- func([]int, int) int -/
def ti27 : TI := { agg := false, size := 1, bytes := 8, zero := [Value.nilFunc], elem := none, fields := [], fsz := [], kind := none, str := false, boo := false }
theorem ti27_ok : tiOf Try.prog 27 = some ti27 := by kernel_rfl
/-- func([]int, int) bool -/
def ti28 : TI := { agg := false, size := 1, bytes := 8, zero := [Value.nilFunc], elem := none, fields := [], fsz := [], kind := none, str := false, boo := false }
theorem ti28_ok : tiOf Try.prog 28 = some ti28 := by kernel_rfl
/-- []laws.Counted -/
def ti29 : TI := { agg := false, size := 1, bytes := 24, zero := [Value.slice none 0 0], elem := some 63, fields := [], fsz := [], kind := none, str := false, boo := false }
theorem ti29_ok : tiOf Try.prog 29 = some ti29 := by kernel_rfl
/-- func([]laws.Counted, int) int -/
def ti30 : TI := { agg := false, size := 1, bytes := 8, zero := [Value.nilFunc], elem := none, fields := [], fsz := [], kind := none, str := false, boo := false }
theorem ti30_ok : tiOf Try.prog 30 = some ti30 := by kernel_rfl
/-- func([]impl.Counted) int -/
def ti31 : TI := { agg := false, size := 1, bytes := 8, zero := [Value.nilFunc], elem := none, fields := [], fsz := [], kind := none, str := false, boo := false }
theorem ti31_ok : tiOf Try.prog 31 = some ti31 := by kernel_rfl
/-- []impl.Counted -/
def ti32 : TI := { agg := false, size := 1, bytes := 24, zero := [Value.slice none 0 0], elem := some 64, fields := [], fsz := [], kind := none, str := false, boo := false }
theorem ti32_ok : tiOf Try.prog 32 = some ti32 := by kernel_rfl
/-- func([]laws.Counted) []impl.Counted -/
def ti33 : TI := { agg := false, size := 1, bytes := 8, zero := [Value.nilFunc], elem := none, fields := [], fsz := [], kind := none, str := false, boo := false }
theorem ti33_ok : tiOf Try.prog 33 = some ti33 := by kernel_rfl
/-- func([]impl.Counted, []impl.Counted) bool -/
def ti34 : TI := { agg := false, size := 1, bytes := 8, zero := [Value.nilFunc], elem := none, fields := [], fsz := [], kind := none, str := false, boo := false }
theorem ti34_ok : tiOf Try.prog 34 = some ti34 := by kernel_rfl
/-- func([]laws.Counted) bool -/
def ti35 : TI := { agg := false, size := 1, bytes := 8, zero := [Value.nilFunc], elem := none, fields := [], fsz := [], kind := none, str := false, boo := false }
theorem ti35_ok : tiOf Try.prog 35 = some ti35 := by kernel_rfl
/-- struct { Arity []int } -/
def ti36 : TI := { agg := true, size := 1, bytes := 24, zero := [Value.slice none 0 0], elem := none, fields := [0], fsz := [1], kind := none, str := false, boo := false }
theorem ti36_ok : tiOf Try.prog 36 = some ti36 := by kernel_rfl
/-- laws.Schema = loop.example/g01985/laws.Schema -/
def ti37 : TI := { agg := true, size := 1, bytes := 24, zero := [Value.slice none 0 0], elem := none, fields := [0], fsz := [1], kind := none, str := false, boo := false }
theorem ti37_ok : tiOf Try.prog 37 = some ti37 := by kernel_rfl
/-- struct { Rel int; Left []int } -/
def ti38 : TI := { agg := true, size := 2, bytes := 32, zero := [Value.int IntKind.i64 0, Value.slice none 0 0], elem := none, fields := [0, 1], fsz := [1, 1], kind := none, str := false, boo := false }
theorem ti38_ok : tiOf Try.prog 38 = some ti38 := by kernel_rfl
/-- laws.Key = loop.example/g01985/laws.Key -/
def ti39 : TI := { agg := true, size := 2, bytes := 32, zero := [Value.int IntKind.i64 0, Value.slice none 0 0], elem := none, fields := [0, 1], fsz := [1, 1], kind := none, str := false, boo := false }
theorem ti39_ok : tiOf Try.prog 39 = some ti39 := by kernel_rfl
/-- func(laws.Schema, int) int -/
def ti40 : TI := { agg := false, size := 1, bytes := 8, zero := [Value.nilFunc], elem := none, fields := [], fsz := [], kind := none, str := false, boo := false }
theorem ti40_ok : tiOf Try.prog 40 = some ti40 := by kernel_rfl
/-- func(laws.Key, int) int -/
def ti41 : TI := { agg := false, size := 1, bytes := 8, zero := [Value.nilFunc], elem := none, fields := [], fsz := [], kind := none, str := false, boo := false }
theorem ti41_ok : tiOf Try.prog 41 = some ti41 := by kernel_rfl
/-- func(impl.Schema, impl.Key) bool -/
def ti42 : TI := { agg := false, size := 1, bytes := 8, zero := [Value.nilFunc], elem := none, fields := [], fsz := [], kind := none, str := false, boo := false }
theorem ti42_ok : tiOf Try.prog 42 = some ti42 := by kernel_rfl
/-- impl.Schema = loop.example/g01985/impl.Schema -/
def ti43 : TI := { agg := true, size := 1, bytes := 24, zero := [Value.slice none 0 0], elem := none, fields := [0], fsz := [1], kind := none, str := false, boo := false }
theorem ti43_ok : tiOf Try.prog 43 = some ti43 := by kernel_rfl
/-- func(laws.Schema) impl.Schema -/
def ti44 : TI := { agg := false, size := 1, bytes := 8, zero := [Value.nilFunc], elem := none, fields := [], fsz := [], kind := none, str := false, boo := false }
theorem ti44_ok : tiOf Try.prog 44 = some ti44 := by kernel_rfl
/-- impl.Key = loop.example/g01985/impl.Key -/
def ti45 : TI := { agg := true, size := 2, bytes := 32, zero := [Value.int IntKind.i64 0, Value.slice none 0 0], elem := none, fields := [0, 1], fsz := [1, 1], kind := none, str := false, boo := false }
theorem ti45_ok : tiOf Try.prog 45 = some ti45 := by kernel_rfl
/-- func(laws.Key) impl.Key -/
def ti46 : TI := { agg := false, size := 1, bytes := 8, zero := [Value.nilFunc], elem := none, fields := [], fsz := [], kind := none, str := false, boo := false }
theorem ti46_ok : tiOf Try.prog 46 = some ti46 := by kernel_rfl
/-- func(impl.Schema, impl.Schema) bool -/
def ti47 : TI := { agg := false, size := 1, bytes := 8, zero := [Value.nilFunc], elem := none, fields := [], fsz := [], kind := none, str := false, boo := false }
theorem ti47_ok : tiOf Try.prog 47 = some ti47 := by kernel_rfl
/-- func(impl.Key, impl.Key) bool -/
def ti48 : TI := { agg := false, size := 1, bytes := 8, zero := [Value.nilFunc], elem := none, fields := [], fsz := [], kind := none, str := false, boo := false }
theorem ti48_ok : tiOf Try.prog 48 = some ti48 := by kernel_rfl
/-- func(laws.Schema, laws.Key) bool -/
def ti49 : TI := { agg := false, size := 1, bytes := 8, zero := [Value.nilFunc], elem := none, fields := [], fsz := [], kind := none, str := false, boo := false }
theorem ti49_ok : tiOf Try.prog 49 = some ti49 := by kernel_rfl
/-- func([]laws.Counted, []laws.Counted) bool -/
def ti50 : TI := { agg := false, size := 1, bytes := 8, zero := [Value.nilFunc], elem := none, fields := [], fsz := [], kind := none, str := false, boo := false }
theorem ti50_ok : tiOf Try.prog 50 = some ti50 := by kernel_rfl
/-- func(impl.Key) string -/
def ti51 : TI := { agg := false, size := 1, bytes := 8, zero := [Value.nilFunc], elem := none, fields := [], fsz := [], kind := none, str := false, boo := false }
theorem ti51_ok : tiOf Try.prog 51 = some ti51 := by kernel_rfl
/-- func(laws.Key) bool -/
def ti52 : TI := { agg := false, size := 1, bytes := 8, zero := [Value.nilFunc], elem := none, fields := [], fsz := [], kind := none, str := false, boo := false }
theorem ti52_ok : tiOf Try.prog 52 = some ti52 := by kernel_rfl
/-- struct { From int; FromAt []int; To int; ToAt []int } -/
def ti53 : TI := { agg := true, size := 4, bytes := 64, zero := [Value.int IntKind.i64 0, Value.slice none 0 0, Value.int IntKind.i64 0, Value.slice none 0 0], elem := none, fields := [0, 1, 2, 3], fsz := [1, 1, 1, 1], kind := none, str := false, boo := false }
theorem ti53_ok : tiOf Try.prog 53 = some ti53 := by kernel_rfl
/-- laws.Inclusion = loop.example/g01985/laws.Inclusion -/
def ti54 : TI := { agg := true, size := 4, bytes := 64, zero := [Value.int IntKind.i64 0, Value.slice none 0 0, Value.int IntKind.i64 0, Value.slice none 0 0], elem := none, fields := [0, 1, 2, 3], fsz := [1, 1, 1, 1], kind := none, str := false, boo := false }
theorem ti54_ok : tiOf Try.prog 54 = some ti54 := by kernel_rfl
/-- func(laws.Inclusion, int) int -/
def ti55 : TI := { agg := false, size := 1, bytes := 8, zero := [Value.nilFunc], elem := none, fields := [], fsz := [], kind := none, str := false, boo := false }
theorem ti55_ok : tiOf Try.prog 55 = some ti55 := by kernel_rfl
/-- func(impl.Schema, impl.Inclusion) bool -/
def ti56 : TI := { agg := false, size := 1, bytes := 8, zero := [Value.nilFunc], elem := none, fields := [], fsz := [], kind := none, str := false, boo := false }
theorem ti56_ok : tiOf Try.prog 56 = some ti56 := by kernel_rfl
/-- impl.Inclusion = loop.example/g01985/impl.Inclusion -/
def ti57 : TI := { agg := true, size := 4, bytes := 64, zero := [Value.int IntKind.i64 0, Value.slice none 0 0, Value.int IntKind.i64 0, Value.slice none 0 0], elem := none, fields := [0, 1, 2, 3], fsz := [1, 1, 1, 1], kind := none, str := false, boo := false }
theorem ti57_ok : tiOf Try.prog 57 = some ti57 := by kernel_rfl
/-- func(laws.Inclusion) impl.Inclusion -/
def ti58 : TI := { agg := false, size := 1, bytes := 8, zero := [Value.nilFunc], elem := none, fields := [], fsz := [], kind := none, str := false, boo := false }
theorem ti58_ok : tiOf Try.prog 58 = some ti58 := by kernel_rfl
/-- func(impl.Inclusion, impl.Inclusion) bool -/
def ti59 : TI := { agg := false, size := 1, bytes := 8, zero := [Value.nilFunc], elem := none, fields := [], fsz := [], kind := none, str := false, boo := false }
theorem ti59_ok : tiOf Try.prog 59 = some ti59 := by kernel_rfl
/-- func(laws.Schema, laws.Inclusion) bool -/
def ti60 : TI := { agg := false, size := 1, bytes := 8, zero := [Value.nilFunc], elem := none, fields := [], fsz := [], kind := none, str := false, boo := false }
theorem ti60_ok : tiOf Try.prog 60 = some ti60 := by kernel_rfl
/-- func(laws.Counted, int) int -/
def ti61 : TI := { agg := false, size := 1, bytes := 8, zero := [Value.nilFunc], elem := none, fields := [], fsz := [], kind := none, str := false, boo := false }
theorem ti61_ok : tiOf Try.prog 61 = some ti61 := by kernel_rfl
/-- struct { Tuple []int; Count int } -/
def ti62 : TI := { agg := true, size := 2, bytes := 32, zero := [Value.slice none 0 0, Value.int IntKind.i64 0], elem := none, fields := [0, 1], fsz := [1, 1], kind := none, str := false, boo := false }
theorem ti62_ok : tiOf Try.prog 62 = some ti62 := by kernel_rfl
/-- laws.Counted = loop.example/g01985/laws.Counted -/
def ti63 : TI := { agg := true, size := 2, bytes := 32, zero := [Value.slice none 0 0, Value.int IntKind.i64 0], elem := none, fields := [0, 1], fsz := [1, 1], kind := none, str := false, boo := false }
theorem ti63_ok : tiOf Try.prog 63 = some ti63 := by kernel_rfl
/-- impl.Counted = loop.example/g01985/impl.Counted -/
def ti64 : TI := { agg := true, size := 2, bytes := 32, zero := [Value.slice none 0 0, Value.int IntKind.i64 0], elem := none, fields := [0, 1], fsz := [1, 1], kind := none, str := false, boo := false }
theorem ti64_ok : tiOf Try.prog 64 = some ti64 := by kernel_rfl
/-- func(laws.Counted) impl.Counted -/
def ti65 : TI := { agg := false, size := 1, bytes := 8, zero := [Value.nilFunc], elem := none, fields := [], fsz := [], kind := none, str := false, boo := false }
theorem ti65_ok : tiOf Try.prog 65 = some ti65 := by kernel_rfl
/-- func(impl.Counted, impl.Counted) bool -/
def ti66 : TI := { agg := false, size := 1, bytes := 8, zero := [Value.nilFunc], elem := none, fields := [], fsz := [], kind := none, str := false, boo := false }
theorem ti66_ok : tiOf Try.prog 66 = some ti66 := by kernel_rfl
/-- func(impl.Schema) bool -/
def ti67 : TI := { agg := false, size := 1, bytes := 8, zero := [Value.nilFunc], elem := none, fields := [], fsz := [], kind := none, str := false, boo := false }
theorem ti67_ok : tiOf Try.prog 67 = some ti67 := by kernel_rfl
/-- func(int, int, int) bool -/
def ti68 : TI := { agg := false, size := 1, bytes := 8, zero := [Value.nilFunc], elem := none, fields := [], fsz := [], kind := none, str := false, boo := false }
theorem ti68_ok : tiOf Try.prog 68 = some ti68 := by kernel_rfl
/-- func([]impl.Counted, []impl.Counted, func(impl.Counted, impl.Counted) bool) bool -/
def ti69 : TI := { agg := false, size := 1, bytes := 8, zero := [Value.nilFunc], elem := none, fields := [], fsz := [], kind := none, str := false, boo := false }
theorem ti69_ok : tiOf Try.prog 69 = some ti69 := by kernel_rfl
/-- func(int) string -/
def ti70 : TI := { agg := false, size := 1, bytes := 8, zero := [Value.nilFunc], elem := none, fields := [], fsz := [], kind := none, str := false, boo := false }
theorem ti70_ok : tiOf Try.prog 70 = some ti70 := by kernel_rfl
/-- func([]int) bool -/
def ti71 : TI := { agg := false, size := 1, bytes := 8, zero := [Value.nilFunc], elem := none, fields := [], fsz := [], kind := none, str := false, boo := false }
theorem ti71_ok : tiOf Try.prog 71 = some ti71 := by kernel_rfl
/-- func([]int) string -/
def ti72 : TI := { agg := false, size := 1, bytes := 8, zero := [Value.nilFunc], elem := none, fields := [], fsz := [], kind := none, str := false, boo := false }
theorem ti72_ok : tiOf Try.prog 72 = some ti72 := by kernel_rfl
/-- []uint8 -/
def ti73 : TI := { agg := false, size := 1, bytes := 24, zero := [Value.slice none 0 0], elem := some 5, fields := [], fsz := [], kind := none, str := false, boo := false }
theorem ti73_ok : tiOf Try.prog 73 = some ti73 := by kernel_rfl
/-- []string -/
def ti74 : TI := { agg := false, size := 1, bytes := 24, zero := [Value.slice none 0 0], elem := some 9, fields := [], fsz := [], kind := none, str := false, boo := false }
theorem ti74_ok : tiOf Try.prog 74 = some ti74 := by kernel_rfl
/-- func([]string, string) string -/
def ti75 : TI := { agg := false, size := 1, bytes := 8, zero := [Value.nilFunc], elem := none, fields := [], fsz := [], kind := none, str := false, boo := false }
theorem ti75_ok : tiOf Try.prog 75 = some ti75 := by kernel_rfl
/-- func() string -/
def ti76 : TI := { agg := false, size := 1, bytes := 8, zero := [Value.nilFunc], elem := none, fields := [], fsz := [], kind := none, str := false, boo := false }
theorem ti76_ok : tiOf Try.prog 76 = some ti76 := by kernel_rfl
/-- struct { _interface *abi.Type; concrete *abi.Type; asserted *abi.Type; missingMethod string } -/
def ti77 : TI := { agg := true, size := 4, bytes := 40, zero := [Value.pointer none, Value.pointer none, Value.pointer none, Value.string ByteArray.empty], elem := none, fields := [0, 1, 2, 3], fsz := [1, 1, 1, 1], kind := none, str := false, boo := false }
theorem ti77_ok : tiOf Try.prog 77 = some ti77 := by kernel_rfl
/-- runtime.TypeAssertionError -/
def ti78 : TI := { agg := true, size := 4, bytes := 40, zero := [Value.pointer none, Value.pointer none, Value.pointer none, Value.string ByteArray.empty], elem := none, fields := [0, 1, 2, 3], fsz := [1, 1, 1, 1], kind := none, str := false, boo := false }
theorem ti78_ok : tiOf Try.prog 78 = some ti78 := by kernel_rfl
/-- [0]*runtime.PanicNilError -/
def ti79 : TI := { agg := true, size := 0, bytes := 0, zero := [], elem := none, fields := [], fsz := [], kind := none, str := false, boo := false }
theorem ti79_ok : tiOf Try.prog 79 = some ti79 := by kernel_rfl
/-- func() int -/
def ti82 : TI := { agg := false, size := 1, bytes := 8, zero := [Value.nilFunc], elem := none, fields := [], fsz := [], kind := none, str := false, boo := false }
theorem ti82_ok : tiOf Try.prog 82 = some ti82 := by kernel_rfl
/-- uint32 -/
def ti83 : TI := { agg := false, size := 1, bytes := 4, zero := [Value.int IntKind.u32 0], elem := none, fields := [], fsz := [], kind := some IntKind.u32, str := false, boo := false }
theorem ti83_ok : tiOf Try.prog 83 = some ti83 := by kernel_rfl
/-- abi.TFlag = internal/abi.TFlag -/
def ti84 : TI := { agg := false, size := 1, bytes := 1, zero := [Value.int IntKind.u8 0], elem := none, fields := [], fsz := [], kind := some IntKind.u8, str := false, boo := false }
theorem ti84_ok : tiOf Try.prog 84 = some ti84 := by kernel_rfl
/-- abi.Kind = internal/abi.Kind -/
def ti85 : TI := { agg := false, size := 1, bytes := 1, zero := [Value.int IntKind.u8 0], elem := none, fields := [], fsz := [], kind := some IntKind.u8, str := false, boo := false }
theorem ti85_ok : tiOf Try.prog 85 = some ti85 := by kernel_rfl
/-- func(unsafe.Pointer, unsafe.Pointer) bool -/
def ti86 : TI := { agg := false, size := 1, bytes := 8, zero := [Value.nilFunc], elem := none, fields := [], fsz := [], kind := none, str := false, boo := false }
theorem ti86_ok : tiOf Try.prog 86 = some ti86 := by kernel_rfl
/-- *uint8 -/
def ti87 : TI := { agg := false, size := 1, bytes := 8, zero := [Value.pointer none], elem := none, fields := [], fsz := [], kind := none, str := false, boo := false }
theorem ti87_ok : tiOf Try.prog 87 = some ti87 := by kernel_rfl
/-- abi.NameOff = internal/abi.NameOff -/
def ti88 : TI := { agg := false, size := 1, bytes := 4, zero := [Value.int IntKind.i32 0], elem := none, fields := [], fsz := [], kind := some IntKind.i32, str := false, boo := false }
theorem ti88_ok : tiOf Try.prog 88 = some ti88 := by kernel_rfl
/-- abi.TypeOff = internal/abi.TypeOff -/
def ti89 : TI := { agg := false, size := 1, bytes := 4, zero := [Value.int IntKind.i32 0], elem := none, fields := [], fsz := [], kind := some IntKind.i32, str := false, boo := false }
theorem ti89_ok : tiOf Try.prog 89 = some ti89 := by kernel_rfl
/-- struct { Size_ uintptr; PtrBytes uintptr; Hash uint32; TFlag abi.TFlag; Align_ uint8; FieldAlign_ uint8; Kind_ abi.Kind; Equal func(unsafe.Pointer, unsafe.Pointer) bool; GCData *uint8; Str abi.NameOff; PtrToThis abi.TypeOff } -/
def ti90 : TI := { agg := true, size := 11, bytes := 48, zero := [Value.int IntKind.u64 0, Value.int IntKind.u64 0, Value.int IntKind.u32 0, Value.int IntKind.u8 0, Value.int IntKind.u8 0, Value.int IntKind.u8 0, Value.int IntKind.u8 0, Value.nilFunc, Value.pointer none, Value.int IntKind.i32 0, Value.int IntKind.i32 0], elem := none, fields := [0, 1, 2, 3, 4, 5, 6, 7, 8, 9, 10], fsz := [1, 1, 1, 1, 1, 1, 1, 1, 1, 1, 1], kind := none, str := false, boo := false }
theorem ti90_ok : tiOf Try.prog 90 = some ti90 := by kernel_rfl
/-- abi.Type = internal/abi.Type -/
def ti91 : TI := { agg := true, size := 11, bytes := 48, zero := [Value.int IntKind.u64 0, Value.int IntKind.u64 0, Value.int IntKind.u32 0, Value.int IntKind.u8 0, Value.int IntKind.u8 0, Value.int IntKind.u8 0, Value.int IntKind.u8 0, Value.nilFunc, Value.pointer none, Value.int IntKind.i32 0, Value.int IntKind.i32 0], elem := none, fields := [0, 1, 2, 3, 4, 5, 6, 7, 8, 9, 10], fsz := [1, 1, 1, 1, 1, 1, 1, 1, 1, 1, 1], kind := none, str := false, boo := false }
theorem ti91_ok : tiOf Try.prog 91 = some ti91 := by kernel_rfl
/-- func(int, int) bool -/
def ti92 : TI := { agg := false, size := 1, bytes := 8, zero := [Value.nilFunc], elem := none, fields := [], fsz := [], kind := none, str := false, boo := false }
theorem ti92_ok : tiOf Try.prog 92 = some ti92 := by kernel_rfl
def tis : List (Nat × TI) := [(1, ti1), (2, ti2), (3, ti3), (4, ti4), (5, ti5), (6, ti6), (7, ti7), (8, ti8), (9, ti9), (10, ti10), (11, ti11), (12, ti12), (13, ti13), (14, ti14), (15, ti15), (16, ti16), (17, ti17), (18, ti18), (19, ti19), (21, ti21), (22, ti22), (24, ti24), (25, ti25), (26, ti26), (27, ti27), (28, ti28), (29, ti29), (30, ti30), (31, ti31), (32, ti32), (33, ti33), (34, ti34), (35, ti35), (36, ti36), (37, ti37), (38, ti38), (39, ti39), (40, ti40), (41, ti41), (42, ti42), (43, ti43), (44, ti44), (45, ti45), (46, ti46), (47, ti47), (48, ti48), (49, ti49), (50, ti50), (51, ti51), (52, ti52), (53, ti53), (54, ti54), (55, ti55), (56, ti56), (57, ti57), (58, ti58), (59, ti59), (60, ti60), (61, ti61), (62, ti62), (63, ti63), (64, ti64), (65, ti65), (66, ti66), (67, ti67), (68, ti68), (69, ti69), (70, ti70), (71, ti71), (72, ti72), (73, ti73), (74, ti74), (75, ti75), (76, ti76), (77, ti77), (78, ti78), (79, ti79), (82, ti82), (83, ti83), (84, ti84), (85, ti85), (86, ti86), (87, ti87), (88, ti88), (89, ti89), (90, ti90), (91, ti91), (92, ti92)]
def Γ : Tab := tabL tis
theorem Γ_ok : TabOk Try.prog Γ := tabL_ok (by
  simp only [tis, List.forall_mem_cons, List.not_mem_nil, false_implies, implies_true, and_true]
  exact ⟨ti1_ok, ti2_ok, ti3_ok, ti4_ok, ti5_ok, ti6_ok, ti7_ok, ti8_ok, ti9_ok, ti10_ok, ti11_ok, ti12_ok, ti13_ok, ti14_ok, ti15_ok, ti16_ok, ti17_ok, ti18_ok, ti19_ok, ti21_ok, ti22_ok, ti24_ok, ti25_ok, ti26_ok, ti27_ok, ti28_ok, ti29_ok, ti30_ok, ti31_ok, ti32_ok, ti33_ok, ti34_ok, ti35_ok, ti36_ok, ti37_ok, ti38_ok, ti39_ok, ti40_ok, ti41_ok, ti42_ok, ti43_ok, ti44_ok, ti45_ok, ti46_ok, ti47_ok, ti48_ok, ti49_ok, ti50_ok, ti51_ok, ti52_ok, ti53_ok, ti54_ok, ti55_ok, ti56_ok, ti57_ok, ti58_ok, ti59_ok, ti60_ok, ti61_ok, ti62_ok, ti63_ok, ti64_ok, ti65_ok, ti66_ok, ti67_ok, ti68_ok, ti69_ok, ti70_ok, ti71_ok, ti72_ok, ti73_ok, ti74_ok, ti75_ok, ti76_ok, ti77_ok, ti78_ok, ti79_ok, ti82_ok, ti83_ok, ti84_ok, ti85_ok, ti86_ok, ti87_ok, ti88_ok, ti89_ok, ti90_ok, ti91_ok, ti92_ok⟩)
theorem mx : Try.prog.follows .mixedOrders = true := by kernel_rfl
end Go.Proofs.YtnailmlgfpdnoaaD
