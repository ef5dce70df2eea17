/- What is known of this seat's types: a table, each row held against the loaded program. Written by mktab.py. -/
import Derived.Test.YtabobghngfmilaaDoorProg
import Derived.Test.YtabobghngfmilaaDoorS2I
namespace Go.S2.Tryd
open Go.Proofs

def ti0 : TI := { d := .other, size := 1, bytes := 0, infos := true, zero := some [.undef] }
theorem ti0_ok : ti0 = tiOf Tryd.prog 0 := by kernel_rfl
def ti1 : TI := { d := .fn, size := 1, bytes := 8, infos := true, zero := some [.nofn] }
theorem ti1_ok : ti1 = tiOf Tryd.prog 1 := by kernel_rfl
def ti2 : TI := { d := .int .i64, size := 1, bytes := 8, infos := true, zero := some [.i .i64 0] }
theorem ti2_ok : ti2 = tiOf Tryd.prog 2 := by kernel_rfl
def ti3 : TI := { d := .int .i64, size := 1, bytes := 8, infos := true, zero := some [.i .i64 0] }
theorem ti3_ok : ti3 = tiOf Tryd.prog 3 := by kernel_rfl
def ti4 : TI := { d := .bool, size := 1, bytes := 1, infos := true, zero := some [.b false] }
theorem ti4_ok : ti4 = tiOf Tryd.prog 4 := by kernel_rfl
def ti5 : TI := { d := .int .u8, size := 1, bytes := 1, infos := true, zero := some [.i .u8 0] }
theorem ti5_ok : ti5 = tiOf Tryd.prog 5 := by kernel_rfl
def ti6 : TI := { d := .int .u8, size := 1, bytes := 1, infos := true, zero := some [.i .u8 0] }
theorem ti6_ok : ti6 = tiOf Tryd.prog 6 := by kernel_rfl
def ti7 : TI := { d := .st [(0, 1, false), (1, 1, false), (2, 1, false), (3, 1, false)], size := 4, bytes := 24, infos := true, zero := some [.i .i64 0, .i .i64 0, .b false, .i .u8 0] }
theorem ti7_ok : ti7 = tiOf Tryd.prog 7 := by kernel_rfl
def ti8 : TI := { d := .st [(0, 1, false), (1, 1, false), (2, 1, false), (3, 1, false)], size := 4, bytes := 24, infos := true, zero := some [.i .i64 0, .i .i64 0, .b false, .i .u8 0] }
theorem ti8_ok : ti8 = tiOf Tryd.prog 8 := by kernel_rfl
def ti9 : TI := { d := .str, size := 1, bytes := 16, infos := true, zero := some [.s []] }
theorem ti9_ok : ti9 = tiOf Tryd.prog 9 := by kernel_rfl
def ti10 : TI := { d := .str, size := 1, bytes := 16, infos := true, zero := some [.s []] }
theorem ti10_ok : ti10 = tiOf Tryd.prog 10 := by kernel_rfl
def ti11 : TI := { d := .str, size := 1, bytes := 16, infos := true, zero := some [.s []] }
theorem ti11_ok : ti11 = tiOf Tryd.prog 11 := by kernel_rfl
def ti12 : TI := { d := .int .u64, size := 1, bytes := 8, infos := true, zero := some [.i .u64 0] }
theorem ti12_ok : ti12 = tiOf Tryd.prog 12 := by kernel_rfl
def ti13 : TI := { d := .st [(0, 1, false), (1, 1, false)], size := 2, bytes := 24, infos := true, zero := some [.s [], .i .u64 0] }
theorem ti13_ok : ti13 = tiOf Tryd.prog 13 := by kernel_rfl
def ti14 : TI := { d := .st [(0, 1, false), (1, 1, false)], size := 2, bytes := 24, infos := true, zero := some [.s [], .i .u64 0] }
theorem ti14_ok : ti14 = tiOf Tryd.prog 14 := by kernel_rfl
def ti15 : TI := { d := .ptr 154, size := 1, bytes := 8, infos := true, zero := some [.p none] }
theorem ti15_ok : ti15 = tiOf Tryd.prog 15 := by kernel_rfl
def ti16 : TI := { d := .ptr 157, size := 1, bytes := 8, infos := true, zero := some [.p none] }
theorem ti16_ok : ti16 = tiOf Tryd.prog 16 := by kernel_rfl
def ti17 : TI := { d := .ptr 164, size := 1, bytes := 8, infos := true, zero := some [.p none] }
theorem ti17_ok : ti17 = tiOf Tryd.prog 17 := by kernel_rfl
def ti18 : TI := { d := .st [(0, 1, false)], size := 1, bytes := 8, infos := true, zero := some [.p none] }
theorem ti18_ok : ti18 = tiOf Tryd.prog 18 := by kernel_rfl
def ti19 : TI := { d := .st [(0, 1, false)], size := 1, bytes := 8, infos := true, zero := some [.p none] }
theorem ti19_ok : ti19 = tiOf Tryd.prog 19 := by kernel_rfl
def ti20 : TI := { d := .ifc, size := 1, bytes := 16, infos := true, zero := some [.noif] }
theorem ti20_ok : ti20 = tiOf Tryd.prog 20 := by kernel_rfl
def ti21 : TI := { d := .int .i32, size := 1, bytes := 4, infos := true, zero := some [.i .i32 0] }
theorem ti21_ok : ti21 = tiOf Tryd.prog 21 := by kernel_rfl
def ti22 : TI := { d := .fn, size := 1, bytes := 8, infos := true, zero := some [.nofn] }
theorem ti22_ok : ti22 = tiOf Tryd.prog 22 := by kernel_rfl
def ti23 : TI := { d := .fn, size := 1, bytes := 8, infos := true, zero := some [.nofn] }
theorem ti23_ok : ti23 = tiOf Tryd.prog 23 := by kernel_rfl
def ti24 : TI := { d := .sl 52, size := 1, bytes := 24, infos := true, zero := some [.sl none 0 0 true] }
theorem ti24_ok : ti24 = tiOf Tryd.prog 24 := by kernel_rfl
def ti25 : TI := { d := .int .i64, size := 1, bytes := 8, infos := true, zero := some [.i .i64 0] }
theorem ti25_ok : ti25 = tiOf Tryd.prog 25 := by kernel_rfl
def ti26 : TI := { d := .other, size := 1, bytes := 0, infos := true, zero := some [.undef] }
theorem ti26_ok : ti26 = tiOf Tryd.prog 26 := by kernel_rfl
def ti27 : TI := { d := .fn, size := 1, bytes := 8, infos := true, zero := some [.nofn] }
theorem ti27_ok : ti27 = tiOf Tryd.prog 27 := by kernel_rfl
def ti28 : TI := { d := .sl 5, size := 1, bytes := 24, infos := true, zero := some [.sl none 0 0 true] }
theorem ti28_ok : ti28 = tiOf Tryd.prog 28 := by kernel_rfl
def ti29 : TI := { d := .fn, size := 1, bytes := 8, infos := true, zero := some [.nofn] }
theorem ti29_ok : ti29 = tiOf Tryd.prog 29 := by kernel_rfl
def ti30 : TI := { d := .fn, size := 1, bytes := 8, infos := true, zero := some [.nofn] }
theorem ti30_ok : ti30 = tiOf Tryd.prog 30 := by kernel_rfl
def ti31 : TI := { d := .sl 3, size := 1, bytes := 24, infos := true, zero := some [.sl none 0 0 true] }
theorem ti31_ok : ti31 = tiOf Tryd.prog 31 := by kernel_rfl
def ti32 : TI := { d := .fn, size := 1, bytes := 8, infos := true, zero := some [.nofn] }
theorem ti32_ok : ti32 = tiOf Tryd.prog 32 := by kernel_rfl
def ti33 : TI := { d := .fn, size := 1, bytes := 8, infos := true, zero := some [.nofn] }
theorem ti33_ok : ti33 = tiOf Tryd.prog 33 := by kernel_rfl
def ti34 : TI := { d := .sl 9, size := 1, bytes := 24, infos := true, zero := some [.sl none 0 0 true] }
theorem ti34_ok : ti34 = tiOf Tryd.prog 34 := by kernel_rfl
def ti35 : TI := { d := .fn, size := 1, bytes := 8, infos := true, zero := some [.nofn] }
theorem ti35_ok : ti35 = tiOf Tryd.prog 35 := by kernel_rfl
def ti36 : TI := { d := .fn, size := 1, bytes := 8, infos := true, zero := some [.nofn] }
theorem ti36_ok : ti36 = tiOf Tryd.prog 36 := by kernel_rfl
def ti37 : TI := { d := .sl 63, size := 1, bytes := 24, infos := true, zero := some [.sl none 0 0 true] }
theorem ti37_ok : ti37 = tiOf Tryd.prog 37 := by kernel_rfl
def ti38 : TI := { d := .sl 63, size := 1, bytes := 24, infos := true, zero := some [.sl none 0 0 true] }
theorem ti38_ok : ti38 = tiOf Tryd.prog 38 := by kernel_rfl
def ti39 : TI := { d := .other, size := 1, bytes := 0, infos := true, zero := some [.undef] }
theorem ti39_ok : ti39 = tiOf Tryd.prog 39 := by kernel_rfl
def ti40 : TI := { d := .fn, size := 1, bytes := 8, infos := true, zero := some [.nofn] }
theorem ti40_ok : ti40 = tiOf Tryd.prog 40 := by kernel_rfl
def ti41 : TI := { d := .fn, size := 1, bytes := 8, infos := true, zero := some [.nofn] }
theorem ti41_ok : ti41 = tiOf Tryd.prog 41 := by kernel_rfl
def ti42 : TI := { d := .sl 67, size := 1, bytes := 24, infos := true, zero := some [.sl none 0 0 true] }
theorem ti42_ok : ti42 = tiOf Tryd.prog 42 := by kernel_rfl
def ti43 : TI := { d := .fn, size := 1, bytes := 8, infos := true, zero := some [.nofn] }
theorem ti43_ok : ti43 = tiOf Tryd.prog 43 := by kernel_rfl
def ti44 : TI := { d := .fn, size := 1, bytes := 8, infos := true, zero := some [.nofn] }
theorem ti44_ok : ti44 = tiOf Tryd.prog 44 := by kernel_rfl
def ti45 : TI := { d := .fn, size := 1, bytes := 8, infos := true, zero := some [.nofn] }
theorem ti45_ok : ti45 = tiOf Tryd.prog 45 := by kernel_rfl
def ti46 : TI := { d := .fn, size := 1, bytes := 8, infos := true, zero := some [.nofn] }
theorem ti46_ok : ti46 = tiOf Tryd.prog 46 := by kernel_rfl
def ti47 : TI := { d := .fn, size := 1, bytes := 8, infos := true, zero := some [.nofn] }
theorem ti47_ok : ti47 = tiOf Tryd.prog 47 := by kernel_rfl
def ti48 : TI := { d := .ptr 50, size := 1, bytes := 8, infos := true, zero := some [.p none] }
theorem ti48_ok : ti48 = tiOf Tryd.prog 48 := by kernel_rfl
def ti49 : TI := { d := .st [(0, 1, false), (1, 1, false), (2, 1, false)], size := 3, bytes := 32, infos := true, zero := some [.s [], .i .i64 0, .i .i64 0] }
theorem ti49_ok : ti49 = tiOf Tryd.prog 49 := by kernel_rfl
def ti50 : TI := { d := .st [(0, 1, false), (1, 1, false), (2, 1, false)], size := 3, bytes := 32, infos := true, zero := some [.s [], .i .i64 0, .i .i64 0] }
theorem ti50_ok : ti50 = tiOf Tryd.prog 50 := by kernel_rfl
def ti51 : TI := { d := .st [(0, 1, false), (1, 1, false), (2, 1, false), (3, 1, false), (4, 1, false)], size := 5, bytes := 48, infos := true, zero := some [.i .i64 0, .i .i64 0, .i .i64 0, .i .i64 0, .s []] }
theorem ti51_ok : ti51 = tiOf Tryd.prog 51 := by kernel_rfl
def ti52 : TI := { d := .st [(0, 1, false), (1, 1, false), (2, 1, false), (3, 1, false), (4, 1, false)], size := 5, bytes := 48, infos := true, zero := some [.i .i64 0, .i .i64 0, .i .i64 0, .i .i64 0, .s []] }
theorem ti52_ok : ti52 = tiOf Tryd.prog 52 := by kernel_rfl
def ti53 : TI := { d := .other, size := 1, bytes := 0, infos := true, zero := some [.undef] }
theorem ti53_ok : ti53 = tiOf Tryd.prog 53 := by kernel_rfl
def ti54 : TI := { d := .fn, size := 1, bytes := 8, infos := true, zero := some [.nofn] }
theorem ti54_ok : ti54 = tiOf Tryd.prog 54 := by kernel_rfl
def ti55 : TI := { d := .fn, size := 1, bytes := 8, infos := true, zero := some [.nofn] }
theorem ti55_ok : ti55 = tiOf Tryd.prog 55 := by kernel_rfl
def ti56 : TI := { d := .fn, size := 1, bytes := 8, infos := true, zero := some [.nofn] }
theorem ti56_ok : ti56 = tiOf Tryd.prog 56 := by kernel_rfl
def ti57 : TI := { d := .fn, size := 1, bytes := 8, infos := true, zero := some [.nofn] }
theorem ti57_ok : ti57 = tiOf Tryd.prog 57 := by kernel_rfl
def ti58 : TI := { d := .fn, size := 1, bytes := 8, infos := true, zero := some [.nofn] }
theorem ti58_ok : ti58 = tiOf Tryd.prog 58 := by kernel_rfl
def ti59 : TI := { d := .fn, size := 1, bytes := 8, infos := true, zero := some [.nofn] }
theorem ti59_ok : ti59 = tiOf Tryd.prog 59 := by kernel_rfl
def ti60 : TI := { d := .other, size := 1, bytes := 0, infos := true, zero := some [.undef] }
theorem ti60_ok : ti60 = tiOf Tryd.prog 60 := by kernel_rfl
def ti61 : TI := { d := .fn, size := 1, bytes := 8, infos := true, zero := some [.nofn] }
theorem ti61_ok : ti61 = tiOf Tryd.prog 61 := by kernel_rfl
def ti62 : TI := { d := .st [(0, 1, false), (1, 1, false), (2, 1, false), (3, 1, false), (4, 1, false)], size := 5, bytes := 48, infos := true, zero := some [.i .i64 0, .i .i64 0, .i .i64 0, .i .i64 0, .s []] }
theorem ti62_ok : ti62 = tiOf Tryd.prog 62 := by kernel_rfl
def ti63 : TI := { d := .st [(0, 1, false), (1, 1, false), (2, 1, false), (3, 1, false), (4, 1, false)], size := 5, bytes := 48, infos := true, zero := some [.i .i64 0, .i .i64 0, .i .i64 0, .i .i64 0, .s []] }
theorem ti63_ok : ti63 = tiOf Tryd.prog 63 := by kernel_rfl
def ti64 : TI := { d := .fn, size := 1, bytes := 8, infos := true, zero := some [.nofn] }
theorem ti64_ok : ti64 = tiOf Tryd.prog 64 := by kernel_rfl
def ti65 : TI := { d := .fn, size := 1, bytes := 8, infos := true, zero := some [.nofn] }
theorem ti65_ok : ti65 = tiOf Tryd.prog 65 := by kernel_rfl
def ti66 : TI := { d := .fn, size := 1, bytes := 8, infos := true, zero := some [.nofn] }
theorem ti66_ok : ti66 = tiOf Tryd.prog 66 := by kernel_rfl
def ti67 : TI := { d := .st [(0, 1, false), (1, 1, false), (2, 1, false), (3, 1, false), (4, 1, false)], size := 5, bytes := 48, infos := true, zero := some [.i .i64 0, .i .i64 0, .i .i64 0, .i .i64 0, .s []] }
theorem ti67_ok : ti67 = tiOf Tryd.prog 67 := by kernel_rfl
def ti68 : TI := { d := .fn, size := 1, bytes := 8, infos := true, zero := some [.nofn] }
theorem ti68_ok : ti68 = tiOf Tryd.prog 68 := by kernel_rfl
def ti69 : TI := { d := .fn, size := 1, bytes := 8, infos := true, zero := some [.nofn] }
theorem ti69_ok : ti69 = tiOf Tryd.prog 69 := by kernel_rfl
def ti70 : TI := { d := .fn, size := 1, bytes := 8, infos := true, zero := some [.nofn] }
theorem ti70_ok : ti70 = tiOf Tryd.prog 70 := by kernel_rfl
def ti71 : TI := { d := .sl 4, size := 1, bytes := 24, infos := true, zero := some [.sl none 0 0 true] }
theorem ti71_ok : ti71 = tiOf Tryd.prog 71 := by kernel_rfl
def ti72 : TI := { d := .fn, size := 1, bytes := 8, infos := true, zero := some [.nofn] }
theorem ti72_ok : ti72 = tiOf Tryd.prog 72 := by kernel_rfl
def ti73 : TI := { d := .ifc, size := 1, bytes := 16, infos := true, zero := some [.noif] }
theorem ti73_ok : ti73 = tiOf Tryd.prog 73 := by kernel_rfl
def ti74 : TI := { d := .ifc, size := 1, bytes := 16, infos := true, zero := some [.noif] }
theorem ti74_ok : ti74 = tiOf Tryd.prog 74 := by kernel_rfl
def ti75 : TI := { d := .other, size := 1, bytes := 0, infos := true, zero := some [.undef] }
theorem ti75_ok : ti75 = tiOf Tryd.prog 75 := by kernel_rfl
def ti76 : TI := { d := .fn, size := 1, bytes := 8, infos := true, zero := some [.nofn] }
theorem ti76_ok : ti76 = tiOf Tryd.prog 76 := by kernel_rfl
def ti77 : TI := { d := .fn, size := 1, bytes := 8, infos := true, zero := some [.nofn] }
theorem ti77_ok : ti77 = tiOf Tryd.prog 77 := by kernel_rfl
def ti78 : TI := { d := .arr 256 5, size := 256, bytes := 256, infos := true, zero := some [.i .u8 0, .i .u8 0, .i .u8 0, .i .u8 0, .i .u8 0, .i .u8 0, .i .u8 0, .i .u8 0, .i .u8 0, .i .u8 0, .i .u8 0, .i .u8 0, .i .u8 0, .i .u8 0, .i .u8 0, .i .u8 0, .i .u8 0, .i .u8 0, .i .u8 0, .i .u8 0, .i .u8 0, .i .u8 0, .i .u8 0, .i .u8 0, .i .u8 0, .i .u8 0, .i .u8 0, .i .u8 0, .i .u8 0, .i .u8 0, .i .u8 0, .i .u8 0, .i .u8 0, .i .u8 0, .i .u8 0, .i .u8 0, .i .u8 0, .i .u8 0, .i .u8 0, .i .u8 0, .i .u8 0, .i .u8 0, .i .u8 0, .i .u8 0, .i .u8 0, .i .u8 0, .i .u8 0, .i .u8 0, .i .u8 0, .i .u8 0, .i .u8 0, .i .u8 0, .i .u8 0, .i .u8 0, .i .u8 0, .i .u8 0, .i .u8 0, .i .u8 0, .i .u8 0, .i .u8 0, .i .u8 0, .i .u8 0, .i .u8 0, .i .u8 0, .i .u8 0, .i .u8 0, .i .u8 0, .i .u8 0, .i .u8 0, .i .u8 0, .i .u8 0, .i .u8 0, .i .u8 0, .i .u8 0, .i .u8 0, .i .u8 0, .i .u8 0, .i .u8 0, .i .u8 0, .i .u8 0, .i .u8 0, .i .u8 0, .i .u8 0, .i .u8 0, .i .u8 0, .i .u8 0, .i .u8 0, .i .u8 0, .i .u8 0, .i .u8 0, .i .u8 0, .i .u8 0, .i .u8 0, .i .u8 0, .i .u8 0, .i .u8 0, .i .u8 0, .i .u8 0, .i .u8 0, .i .u8 0, .i .u8 0, .i .u8 0, .i .u8 0, .i .u8 0, .i .u8 0, .i .u8 0, .i .u8 0, .i .u8 0, .i .u8 0, .i .u8 0, .i .u8 0, .i .u8 0, .i .u8 0, .i .u8 0, .i .u8 0, .i .u8 0, .i .u8 0, .i .u8 0, .i .u8 0, .i .u8 0, .i .u8 0, .i .u8 0, .i .u8 0, .i .u8 0, .i .u8 0, .i .u8 0, .i .u8 0, .i .u8 0, .i .u8 0, .i .u8 0, .i .u8 0, .i .u8 0, .i .u8 0, .i .u8 0, .i .u8 0, .i .u8 0, .i .u8 0, .i .u8 0, .i .u8 0, .i .u8 0, .i .u8 0, .i .u8 0, .i .u8 0, .i .u8 0, .i .u8 0, .i .u8 0, .i .u8 0, .i .u8 0, .i .u8 0, .i .u8 0, .i .u8 0, .i .u8 0, .i .u8 0, .i .u8 0, .i .u8 0, .i .u8 0, .i .u8 0, .i .u8 0, .i .u8 0, .i .u8 0, .i .u8 0, .i .u8 0, .i .u8 0, .i .u8 0, .i .u8 0, .i .u8 0, .i .u8 0, .i .u8 0, .i .u8 0, .i .u8 0, .i .u8 0, .i .u8 0, .i .u8 0, .i .u8 0, .i .u8 0, .i .u8 0, .i .u8 0, .i .u8 0, .i .u8 0, .i .u8 0, .i .u8 0, .i .u8 0, .i .u8 0, .i .u8 0, .i .u8 0, .i .u8 0, .i .u8 0, .i .u8 0, .i .u8 0, .i .u8 0, .i .u8 0, .i .u8 0, .i .u8 0, .i .u8 0, .i .u8 0, .i .u8 0, .i .u8 0, .i .u8 0, .i .u8 0, .i .u8 0, .i .u8 0, .i .u8 0, .i .u8 0, .i .u8 0, .i .u8 0, .i .u8 0, .i .u8 0, .i .u8 0, .i .u8 0, .i .u8 0, .i .u8 0, .i .u8 0, .i .u8 0, .i .u8 0, .i .u8 0, .i .u8 0, .i .u8 0, .i .u8 0, .i .u8 0, .i .u8 0, .i .u8 0, .i .u8 0, .i .u8 0, .i .u8 0, .i .u8 0, .i .u8 0, .i .u8 0, .i .u8 0, .i .u8 0, .i .u8 0, .i .u8 0, .i .u8 0, .i .u8 0, .i .u8 0, .i .u8 0, .i .u8 0, .i .u8 0, .i .u8 0, .i .u8 0, .i .u8 0, .i .u8 0, .i .u8 0, .i .u8 0, .i .u8 0, .i .u8 0, .i .u8 0, .i .u8 0, .i .u8 0, .i .u8 0, .i .u8 0, .i .u8 0, .i .u8 0, .i .u8 0, .i .u8 0, .i .u8 0, .i .u8 0] }
theorem ti78_ok : ti78 = tiOf Tryd.prog 78 := by kernel_rfl
def ti79 : TI := { d := .fn, size := 1, bytes := 8, infos := true, zero := some [.nofn] }
theorem ti79_ok : ti79 = tiOf Tryd.prog 79 := by kernel_rfl
def ti80 : TI := { d := .fn, size := 1, bytes := 8, infos := true, zero := some [.nofn] }
theorem ti80_ok : ti80 = tiOf Tryd.prog 80 := by kernel_rfl
def ti81 : TI := { d := .ptr 83, size := 1, bytes := 8, infos := true, zero := some [.p none] }
theorem ti81_ok : ti81 = tiOf Tryd.prog 81 := by kernel_rfl
def ti82 : TI := { d := .st [(0, 1, false), (1, 1, false), (2, 1, false), (3, 1, false), (4, 1, false), (5, 1, false)], size := 6, bytes := 80, infos := true, zero := some [.sl none 0 0 true, .i .i64 0, .i .i64 0, .b false, .nofn, .sl none 0 0 true] }
theorem ti82_ok : ti82 = tiOf Tryd.prog 82 := by kernel_rfl
def ti83 : TI := { d := .st [(0, 1, false), (1, 1, false), (2, 1, false), (3, 1, false), (4, 1, false), (5, 1, false)], size := 6, bytes := 80, infos := true, zero := some [.sl none 0 0 true, .i .i64 0, .i .i64 0, .b false, .nofn, .sl none 0 0 true] }
theorem ti83_ok : ti83 = tiOf Tryd.prog 83 := by kernel_rfl
def ti84 : TI := { d := .st [(0, 1, false)], size := 1, bytes := 8, infos := true, zero := some [.i .i64 0] }
theorem ti84_ok : ti84 = tiOf Tryd.prog 84 := by kernel_rfl
def ti85 : TI := { d := .st [(0, 1, false)], size := 1, bytes := 8, infos := true, zero := some [.i .i64 0] }
theorem ti85_ok : ti85 = tiOf Tryd.prog 85 := by kernel_rfl
def ti86 : TI := { d := .fn, size := 1, bytes := 8, infos := true, zero := some [.nofn] }
theorem ti86_ok : ti86 = tiOf Tryd.prog 86 := by kernel_rfl
def ti87 : TI := { d := .fn, size := 1, bytes := 8, infos := true, zero := some [.nofn] }
theorem ti87_ok : ti87 = tiOf Tryd.prog 87 := by kernel_rfl
def ti88 : TI := { d := .fn, size := 1, bytes := 8, infos := true, zero := some [.nofn] }
theorem ti88_ok : ti88 = tiOf Tryd.prog 88 := by kernel_rfl
def ti89 : TI := { d := .fn, size := 1, bytes := 8, infos := true, zero := some [.nofn] }
theorem ti89_ok : ti89 = tiOf Tryd.prog 89 := by kernel_rfl
def ti90 : TI := { d := .sl 92, size := 1, bytes := 24, infos := true, zero := some [.sl none 0 0 true] }
theorem ti90_ok : ti90 = tiOf Tryd.prog 90 := by kernel_rfl
def ti91 : TI := { d := .st [(0, 1, false), (1, 1, false)], size := 2, bytes := 16, infos := true, zero := some [.i .i64 0, .b false] }
theorem ti91_ok : ti91 = tiOf Tryd.prog 91 := by kernel_rfl
def ti92 : TI := { d := .st [(0, 1, false), (1, 1, false)], size := 2, bytes := 16, infos := true, zero := some [.i .i64 0, .b false] }
theorem ti92_ok : ti92 = tiOf Tryd.prog 92 := by kernel_rfl
def ti93 : TI := { d := .fn, size := 1, bytes := 8, infos := true, zero := some [.nofn] }
theorem ti93_ok : ti93 = tiOf Tryd.prog 93 := by kernel_rfl
def ti94 : TI := { d := .sl 96, size := 1, bytes := 24, infos := true, zero := some [.sl none 0 0 true] }
theorem ti94_ok : ti94 = tiOf Tryd.prog 94 := by kernel_rfl
def ti95 : TI := { d := .st [(0, 1, false), (1, 1, false)], size := 2, bytes := 16, infos := true, zero := some [.i .i64 0, .i .i64 0] }
theorem ti95_ok : ti95 = tiOf Tryd.prog 95 := by kernel_rfl
def ti96 : TI := { d := .st [(0, 1, false), (1, 1, false)], size := 2, bytes := 16, infos := true, zero := some [.i .i64 0, .i .i64 0] }
theorem ti96_ok : ti96 = tiOf Tryd.prog 96 := by kernel_rfl
def ti97 : TI := { d := .int .u32, size := 1, bytes := 4, infos := true, zero := some [.i .u32 0] }
theorem ti97_ok : ti97 = tiOf Tryd.prog 97 := by kernel_rfl
def ti98 : TI := { d := .fn, size := 1, bytes := 8, infos := true, zero := some [.nofn] }
theorem ti98_ok : ti98 = tiOf Tryd.prog 98 := by kernel_rfl
def ti99 : TI := { d := .ptr 110, size := 1, bytes := 8, infos := true, zero := some [.p none] }
theorem ti99_ok : ti99 = tiOf Tryd.prog 99 := by kernel_rfl
def ti100 : TI := { d := .fn, size := 1, bytes := 8, infos := true, zero := some [.nofn] }
theorem ti100_ok : ti100 = tiOf Tryd.prog 100 := by kernel_rfl
def ti101 : TI := { d := .int .i64, size := 1, bytes := 8, infos := true, zero := some [.i .i64 0] }
theorem ti101_ok : ti101 = tiOf Tryd.prog 101 := by kernel_rfl
def ti102 : TI := { d := .other, size := 1, bytes := 0, infos := true, zero := some [.undef] }
theorem ti102_ok : ti102 = tiOf Tryd.prog 102 := by kernel_rfl
def ti103 : TI := { d := .fn, size := 1, bytes := 8, infos := true, zero := some [.nofn] }
theorem ti103_ok : ti103 = tiOf Tryd.prog 103 := by kernel_rfl
def ti104 : TI := { d := .ptr 125, size := 1, bytes := 8, infos := true, zero := some [.p none] }
theorem ti104_ok : ti104 = tiOf Tryd.prog 104 := by kernel_rfl
def ti105 : TI := { d := .fn, size := 1, bytes := 8, infos := true, zero := some [.nofn] }
theorem ti105_ok : ti105 = tiOf Tryd.prog 105 := by kernel_rfl
def ti106 : TI := { d := .fn, size := 1, bytes := 8, infos := true, zero := some [.nofn] }
theorem ti106_ok : ti106 = tiOf Tryd.prog 106 := by kernel_rfl
def ti107 : TI := { d := .sl 113, size := 1, bytes := 24, infos := true, zero := some [.sl none 0 0 true] }
theorem ti107_ok : ti107 = tiOf Tryd.prog 107 := by kernel_rfl
def ti108 : TI := { d := .sl 116, size := 1, bytes := 24, infos := true, zero := some [.sl none 0 0 true] }
theorem ti108_ok : ti108 = tiOf Tryd.prog 108 := by kernel_rfl
def ti109 : TI := { d := .st [(0, 1, false), (1, 1, false), (2, 1, false)], size := 3, bytes := 56, infos := true, zero := some [.sl none 0 0 true, .sl none 0 0 true, .i .i64 0] }
theorem ti109_ok : ti109 = tiOf Tryd.prog 109 := by kernel_rfl
def ti110 : TI := { d := .st [(0, 1, false), (1, 1, false), (2, 1, false)], size := 3, bytes := 56, infos := true, zero := some [.sl none 0 0 true, .sl none 0 0 true, .i .i64 0] }
theorem ti110_ok : ti110 = tiOf Tryd.prog 110 := by kernel_rfl
def ti111 : TI := { d := .int .u16, size := 1, bytes := 2, infos := true, zero := some [.i .u16 0] }
theorem ti111_ok : ti111 = tiOf Tryd.prog 111 := by kernel_rfl
def ti112 : TI := { d := .st [(0, 1, false), (1, 1, false), (2, 1, false)], size := 3, bytes := 6, infos := true, zero := some [.i .u16 0, .i .u16 0, .i .u16 0] }
theorem ti112_ok : ti112 = tiOf Tryd.prog 112 := by kernel_rfl
def ti113 : TI := { d := .st [(0, 1, false), (1, 1, false), (2, 1, false)], size := 3, bytes := 6, infos := true, zero := some [.i .u16 0, .i .u16 0, .i .u16 0] }
theorem ti113_ok : ti113 = tiOf Tryd.prog 113 := by kernel_rfl
def ti114 : TI := { d := .fn, size := 1, bytes := 8, infos := true, zero := some [.nofn] }
theorem ti114_ok : ti114 = tiOf Tryd.prog 114 := by kernel_rfl
def ti115 : TI := { d := .st [(0, 1, false), (1, 1, false), (2, 1, false)], size := 3, bytes := 12, infos := true, zero := some [.i .u32 0, .i .u32 0, .i .u32 0] }
theorem ti115_ok : ti115 = tiOf Tryd.prog 115 := by kernel_rfl
def ti116 : TI := { d := .st [(0, 1, false), (1, 1, false), (2, 1, false)], size := 3, bytes := 12, infos := true, zero := some [.i .u32 0, .i .u32 0, .i .u32 0] }
theorem ti116_ok : ti116 = tiOf Tryd.prog 116 := by kernel_rfl
def ti117 : TI := { d := .fn, size := 1, bytes := 8, infos := true, zero := some [.nofn] }
theorem ti117_ok : ti117 = tiOf Tryd.prog 117 := by kernel_rfl
def ti118 : TI := { d := .fn, size := 1, bytes := 8, infos := true, zero := some [.nofn] }
theorem ti118_ok : ti118 = tiOf Tryd.prog 118 := by kernel_rfl
def ti119 : TI := { d := .int .u64, size := 1, bytes := 8, infos := true, zero := some [.i .u64 0] }
theorem ti119_ok : ti119 = tiOf Tryd.prog 119 := by kernel_rfl
def ti120 : TI := { d := .other, size := 1, bytes := 0, infos := true, zero := some [.undef] }
theorem ti120_ok : ti120 = tiOf Tryd.prog 120 := by kernel_rfl
def ti121 : TI := { d := .fn, size := 1, bytes := 8, infos := true, zero := some [.nofn] }
theorem ti121_ok : ti121 = tiOf Tryd.prog 121 := by kernel_rfl
def ti122 : TI := { d := .int .u64, size := 1, bytes := 8, infos := true, zero := some [.i .u64 0] }
theorem ti122_ok : ti122 = tiOf Tryd.prog 122 := by kernel_rfl
def ti123 : TI := { d := .fn, size := 1, bytes := 8, infos := true, zero := some [.nofn] }
theorem ti123_ok : ti123 = tiOf Tryd.prog 123 := by kernel_rfl
def ti124 : TI := { d := .st [(0, 1, false), (1, 1, false), (2, 1, false)], size := 3, bytes := 48, infos := true, zero := some [.s [], .s [], .noif] }
theorem ti124_ok : ti124 = tiOf Tryd.prog 124 := by kernel_rfl
def ti125 : TI := { d := .st [(0, 1, false), (1, 1, false), (2, 1, false)], size := 3, bytes := 48, infos := true, zero := some [.s [], .s [], .noif] }
theorem ti125_ok : ti125 = tiOf Tryd.prog 125 := by kernel_rfl
def ti126 : TI := { d := .fn, size := 1, bytes := 8, infos := true, zero := some [.nofn] }
theorem ti126_ok : ti126 = tiOf Tryd.prog 126 := by kernel_rfl
def ti127 : TI := { d := .fn, size := 1, bytes := 8, infos := true, zero := some [.nofn] }
theorem ti127_ok : ti127 = tiOf Tryd.prog 127 := by kernel_rfl
def ti128 : TI := { d := .ptr 113, size := 1, bytes := 8, infos := true, zero := some [.p none] }
theorem ti128_ok : ti128 = tiOf Tryd.prog 128 := by kernel_rfl
def ti129 : TI := { d := .ptr 116, size := 1, bytes := 8, infos := true, zero := some [.p none] }
theorem ti129_ok : ti129 = tiOf Tryd.prog 129 := by kernel_rfl
def ti130 : TI := { d := .fn, size := 1, bytes := 8, infos := true, zero := some [.nofn] }
theorem ti130_ok : ti130 = tiOf Tryd.prog 130 := by kernel_rfl
def ti131 : TI := { d := .fn, size := 1, bytes := 8, infos := true, zero := some [.nofn] }
theorem ti131_ok : ti131 = tiOf Tryd.prog 131 := by kernel_rfl
def ti132 : TI := { d := .ptr 5, size := 1, bytes := 8, infos := true, zero := some [.p none] }
theorem ti132_ok : ti132 = tiOf Tryd.prog 132 := by kernel_rfl
def ti133 : TI := { d := .ptr 135, size := 1, bytes := 8, infos := true, zero := some [.p none] }
theorem ti133_ok : ti133 = tiOf Tryd.prog 133 := by kernel_rfl
def ti134 : TI := { d := .st [(0, 1, false)], size := 1, bytes := 16, infos := true, zero := some [.s []] }
theorem ti134_ok : ti134 = tiOf Tryd.prog 134 := by kernel_rfl
def ti135 : TI := { d := .st [(0, 1, false)], size := 1, bytes := 16, infos := true, zero := some [.s []] }
theorem ti135_ok : ti135 = tiOf Tryd.prog 135 := by kernel_rfl
def ti136 : TI := { d := .fn, size := 1, bytes := 8, infos := true, zero := some [.nofn] }
theorem ti136_ok : ti136 = tiOf Tryd.prog 136 := by kernel_rfl
def ti137 : TI := { d := .other, size := 1, bytes := 0, infos := true, zero := some [.undef] }
theorem ti137_ok : ti137 = tiOf Tryd.prog 137 := by kernel_rfl
def ti138 : TI := { d := .fn, size := 1, bytes := 8, infos := true, zero := some [.nofn] }
theorem ti138_ok : ti138 = tiOf Tryd.prog 138 := by kernel_rfl
def ti139 : TI := { d := .arr 24 5, size := 24, bytes := 24, infos := true, zero := some [.i .u8 0, .i .u8 0, .i .u8 0, .i .u8 0, .i .u8 0, .i .u8 0, .i .u8 0, .i .u8 0, .i .u8 0, .i .u8 0, .i .u8 0, .i .u8 0, .i .u8 0, .i .u8 0, .i .u8 0, .i .u8 0, .i .u8 0, .i .u8 0, .i .u8 0, .i .u8 0, .i .u8 0, .i .u8 0, .i .u8 0, .i .u8 0] }
theorem ti139_ok : ti139 = tiOf Tryd.prog 139 := by kernel_rfl
def ti140 : TI := { d := .fn, size := 1, bytes := 8, infos := true, zero := some [.nofn] }
theorem ti140_ok : ti140 = tiOf Tryd.prog 140 := by kernel_rfl
def ti141 : TI := { d := .fn, size := 1, bytes := 8, infos := true, zero := some [.nofn] }
theorem ti141_ok : ti141 = tiOf Tryd.prog 141 := by kernel_rfl
def ti142 : TI := { d := .other, size := 1, bytes := 0, infos := true, zero := some [.undef] }
theorem ti142_ok : ti142 = tiOf Tryd.prog 142 := by kernel_rfl
def ti143 : TI := { d := .fn, size := 1, bytes := 8, infos := true, zero := some [.nofn] }
theorem ti143_ok : ti143 = tiOf Tryd.prog 143 := by kernel_rfl
def ti144 : TI := { d := .fn, size := 1, bytes := 8, infos := true, zero := some [.nofn] }
theorem ti144_ok : ti144 = tiOf Tryd.prog 144 := by kernel_rfl
def ti145 : TI := { d := .fn, size := 1, bytes := 8, infos := true, zero := some [.nofn] }
theorem ti145_ok : ti145 = tiOf Tryd.prog 145 := by kernel_rfl
def ti146 : TI := { d := .arr 20 119, size := 20, bytes := 160, infos := true, zero := some [.i .u64 0, .i .u64 0, .i .u64 0, .i .u64 0, .i .u64 0, .i .u64 0, .i .u64 0, .i .u64 0, .i .u64 0, .i .u64 0, .i .u64 0, .i .u64 0, .i .u64 0, .i .u64 0, .i .u64 0, .i .u64 0, .i .u64 0, .i .u64 0, .i .u64 0, .i .u64 0] }
theorem ti146_ok : ti146 = tiOf Tryd.prog 146 := by kernel_rfl
def ti147 : TI := { d := .arr 65 5, size := 65, bytes := 65, infos := true, zero := some [.i .u8 0, .i .u8 0, .i .u8 0, .i .u8 0, .i .u8 0, .i .u8 0, .i .u8 0, .i .u8 0, .i .u8 0, .i .u8 0, .i .u8 0, .i .u8 0, .i .u8 0, .i .u8 0, .i .u8 0, .i .u8 0, .i .u8 0, .i .u8 0, .i .u8 0, .i .u8 0, .i .u8 0, .i .u8 0, .i .u8 0, .i .u8 0, .i .u8 0, .i .u8 0, .i .u8 0, .i .u8 0, .i .u8 0, .i .u8 0, .i .u8 0, .i .u8 0, .i .u8 0, .i .u8 0, .i .u8 0, .i .u8 0, .i .u8 0, .i .u8 0, .i .u8 0, .i .u8 0, .i .u8 0, .i .u8 0, .i .u8 0, .i .u8 0, .i .u8 0, .i .u8 0, .i .u8 0, .i .u8 0, .i .u8 0, .i .u8 0, .i .u8 0, .i .u8 0, .i .u8 0, .i .u8 0, .i .u8 0, .i .u8 0, .i .u8 0, .i .u8 0, .i .u8 0, .i .u8 0, .i .u8 0, .i .u8 0, .i .u8 0, .i .u8 0, .i .u8 0] }
theorem ti147_ok : ti147 = tiOf Tryd.prog 147 := by kernel_rfl
def ti148 : TI := { d := .fn, size := 1, bytes := 8, infos := true, zero := some [.nofn] }
theorem ti148_ok : ti148 = tiOf Tryd.prog 148 := by kernel_rfl
def ti149 : TI := { d := .fn, size := 1, bytes := 8, infos := true, zero := some [.nofn] }
theorem ti149_ok : ti149 = tiOf Tryd.prog 149 := by kernel_rfl
def ti150 : TI := { d := .arr 32 5, size := 32, bytes := 32, infos := true, zero := some [.i .u8 0, .i .u8 0, .i .u8 0, .i .u8 0, .i .u8 0, .i .u8 0, .i .u8 0, .i .u8 0, .i .u8 0, .i .u8 0, .i .u8 0, .i .u8 0, .i .u8 0, .i .u8 0, .i .u8 0, .i .u8 0, .i .u8 0, .i .u8 0, .i .u8 0, .i .u8 0, .i .u8 0, .i .u8 0, .i .u8 0, .i .u8 0, .i .u8 0, .i .u8 0, .i .u8 0, .i .u8 0, .i .u8 0, .i .u8 0, .i .u8 0, .i .u8 0] }
theorem ti150_ok : ti150 = tiOf Tryd.prog 150 := by kernel_rfl
def ti151 : TI := { d := .arr 64 5, size := 64, bytes := 64, infos := true, zero := some [.i .u8 0, .i .u8 0, .i .u8 0, .i .u8 0, .i .u8 0, .i .u8 0, .i .u8 0, .i .u8 0, .i .u8 0, .i .u8 0, .i .u8 0, .i .u8 0, .i .u8 0, .i .u8 0, .i .u8 0, .i .u8 0, .i .u8 0, .i .u8 0, .i .u8 0, .i .u8 0, .i .u8 0, .i .u8 0, .i .u8 0, .i .u8 0, .i .u8 0, .i .u8 0, .i .u8 0, .i .u8 0, .i .u8 0, .i .u8 0, .i .u8 0, .i .u8 0, .i .u8 0, .i .u8 0, .i .u8 0, .i .u8 0, .i .u8 0, .i .u8 0, .i .u8 0, .i .u8 0, .i .u8 0, .i .u8 0, .i .u8 0, .i .u8 0, .i .u8 0, .i .u8 0, .i .u8 0, .i .u8 0, .i .u8 0, .i .u8 0, .i .u8 0, .i .u8 0, .i .u8 0, .i .u8 0, .i .u8 0, .i .u8 0, .i .u8 0, .i .u8 0, .i .u8 0, .i .u8 0, .i .u8 0, .i .u8 0, .i .u8 0, .i .u8 0] }
theorem ti151_ok : ti151 = tiOf Tryd.prog 151 := by kernel_rfl
def ti152 : TI := { d := .fn, size := 1, bytes := 8, infos := true, zero := some [.nofn] }
theorem ti152_ok : ti152 = tiOf Tryd.prog 152 := by kernel_rfl
def ti153 : TI := { d := .st [(0, 1, false), (1, 1, false), (2, 1, false), (3, 1, false)], size := 4, bytes := 40, infos := true, zero := some [.p none, .p none, .p none, .s []] }
theorem ti153_ok : ti153 = tiOf Tryd.prog 153 := by kernel_rfl
def ti154 : TI := { d := .st [(0, 1, false), (1, 1, false), (2, 1, false), (3, 1, false)], size := 4, bytes := 40, infos := true, zero := some [.p none, .p none, .p none, .s []] }
theorem ti154_ok : ti154 = tiOf Tryd.prog 154 := by kernel_rfl
def ti155 : TI := { d := .arr 0 16, size := 0, bytes := 0, infos := true, zero := some [] }
theorem ti155_ok : ti155 = tiOf Tryd.prog 155 := by kernel_rfl
def ti156 : TI := { d := .st [(0, 0, true)], size := 0, bytes := 0, infos := true, zero := some [] }
theorem ti156_ok : ti156 = tiOf Tryd.prog 156 := by kernel_rfl
def ti157 : TI := { d := .st [(0, 0, true)], size := 0, bytes := 0, infos := true, zero := some [] }
theorem ti157_ok : ti157 = tiOf Tryd.prog 157 := by kernel_rfl
def ti158 : TI := { d := .int .u8, size := 1, bytes := 1, infos := true, zero := some [.i .u8 0] }
theorem ti158_ok : ti158 = tiOf Tryd.prog 158 := by kernel_rfl
def ti159 : TI := { d := .int .u8, size := 1, bytes := 1, infos := true, zero := some [.i .u8 0] }
theorem ti159_ok : ti159 = tiOf Tryd.prog 159 := by kernel_rfl
def ti160 : TI := { d := .fn, size := 1, bytes := 8, infos := true, zero := some [.nofn] }
theorem ti160_ok : ti160 = tiOf Tryd.prog 160 := by kernel_rfl
def ti161 : TI := { d := .int .i32, size := 1, bytes := 4, infos := true, zero := some [.i .i32 0] }
theorem ti161_ok : ti161 = tiOf Tryd.prog 161 := by kernel_rfl
def ti162 : TI := { d := .int .i32, size := 1, bytes := 4, infos := true, zero := some [.i .i32 0] }
theorem ti162_ok : ti162 = tiOf Tryd.prog 162 := by kernel_rfl
def ti163 : TI := { d := .st [(0, 1, false), (1, 1, false), (2, 1, false), (3, 1, false), (4, 1, false), (5, 1, false), (6, 1, false), (7, 1, false), (8, 1, false), (9, 1, false), (10, 1, false)], size := 11, bytes := 48, infos := true, zero := some [.i .u64 0, .i .u64 0, .i .u32 0, .i .u8 0, .i .u8 0, .i .u8 0, .i .u8 0, .nofn, .p none, .i .i32 0, .i .i32 0] }
theorem ti163_ok : ti163 = tiOf Tryd.prog 163 := by kernel_rfl
def ti164 : TI := { d := .st [(0, 1, false), (1, 1, false), (2, 1, false), (3, 1, false), (4, 1, false), (5, 1, false), (6, 1, false), (7, 1, false), (8, 1, false), (9, 1, false), (10, 1, false)], size := 11, bytes := 48, infos := true, zero := some [.i .u64 0, .i .u64 0, .i .u32 0, .i .u8 0, .i .u8 0, .i .u8 0, .i .u8 0, .nofn, .p none, .i .i32 0, .i .i32 0] }
theorem ti164_ok : ti164 = tiOf Tryd.prog 164 := by kernel_rfl
def ti165 : TI := { d := .other, size := 1, bytes := 8, infos := true, zero := some [.p none] }
theorem ti165_ok : ti165 = tiOf Tryd.prog 165 := by kernel_rfl
def tab : List TI := [ti0, ti1, ti2, ti3, ti4, ti5, ti6, ti7, ti8, ti9, ti10, ti11, ti12, ti13, ti14, ti15, ti16, ti17, ti18, ti19, ti20, ti21, ti22, ti23, ti24, ti25, ti26, ti27, ti28, ti29, ti30, ti31, ti32, ti33, ti34, ti35, ti36, ti37, ti38, ti39, ti40, ti41, ti42, ti43, ti44, ti45, ti46, ti47, ti48, ti49, ti50, ti51, ti52, ti53, ti54, ti55, ti56, ti57, ti58, ti59, ti60, ti61, ti62, ti63, ti64, ti65, ti66, ti67, ti68, ti69, ti70, ti71, ti72, ti73, ti74, ti75, ti76, ti77, ti78, ti79, ti80, ti81, ti82, ti83, ti84, ti85, ti86, ti87, ti88, ti89, ti90, ti91, ti92, ti93, ti94, ti95, ti96, ti97, ti98, ti99, ti100, ti101, ti102, ti103, ti104, ti105, ti106, ti107, ti108, ti109, ti110, ti111, ti112, ti113, ti114, ti115, ti116, ti117, ti118, ti119, ti120, ti121, ti122, ti123, ti124, ti125, ti126, ti127, ti128, ti129, ti130, ti131, ti132, ti133, ti134, ti135, ti136, ti137, ti138, ti139, ti140, ti141, ti142, ti143, ti144, ti145, ti146, ti147, ti148, ti149, ti150, ti151, ti152, ti153, ti154, ti155, ti156, ti157, ti158, ti159, ti160, ti161, ti162, ti163, ti164, ti165]
theorem tab_ok : tab = (List.range 166).map (tiOf Tryd.prog) := by
  show [ti0, ti1, ti2, ti3, ti4, ti5, ti6, ti7, ti8, ti9, ti10, ti11, ti12, ti13, ti14, ti15, ti16, ti17, ti18, ti19, ti20, ti21, ti22, ti23, ti24, ti25, ti26, ti27, ti28, ti29, ti30, ti31, ti32, ti33, ti34, ti35, ti36, ti37, ti38, ti39, ti40, ti41, ti42, ti43, ti44, ti45, ti46, ti47, ti48, ti49, ti50, ti51, ti52, ti53, ti54, ti55, ti56, ti57, ti58, ti59, ti60, ti61, ti62, ti63, ti64, ti65, ti66, ti67, ti68, ti69, ti70, ti71, ti72, ti73, ti74, ti75, ti76, ti77, ti78, ti79, ti80, ti81, ti82, ti83, ti84, ti85, ti86, ti87, ti88, ti89, ti90, ti91, ti92, ti93, ti94, ti95, ti96, ti97, ti98, ti99, ti100, ti101, ti102, ti103, ti104, ti105, ti106, ti107, ti108, ti109, ti110, ti111, ti112, ti113, ti114, ti115, ti116, ti117, ti118, ti119, ti120, ti121, ti122, ti123, ti124, ti125, ti126, ti127, ti128, ti129, ti130, ti131, ti132, ti133, ti134, ti135, ti136, ti137, ti138, ti139, ti140, ti141, ti142, ti143, ti144, ti145, ti146, ti147, ti148, ti149, ti150, ti151, ti152, ti153, ti154, ti155, ti156, ti157, ti158, ti159, ti160, ti161, ti162, ti163, ti164, ti165] = [tiOf Tryd.prog 0, tiOf Tryd.prog 1, tiOf Tryd.prog 2, tiOf Tryd.prog 3, tiOf Tryd.prog 4, tiOf Tryd.prog 5, tiOf Tryd.prog 6, tiOf Tryd.prog 7, tiOf Tryd.prog 8, tiOf Tryd.prog 9, tiOf Tryd.prog 10, tiOf Tryd.prog 11, tiOf Tryd.prog 12, tiOf Tryd.prog 13, tiOf Tryd.prog 14, tiOf Tryd.prog 15, tiOf Tryd.prog 16, tiOf Tryd.prog 17, tiOf Tryd.prog 18, tiOf Tryd.prog 19, tiOf Tryd.prog 20, tiOf Tryd.prog 21, tiOf Tryd.prog 22, tiOf Tryd.prog 23, tiOf Tryd.prog 24, tiOf Tryd.prog 25, tiOf Tryd.prog 26, tiOf Tryd.prog 27, tiOf Tryd.prog 28, tiOf Tryd.prog 29, tiOf Tryd.prog 30, tiOf Tryd.prog 31, tiOf Tryd.prog 32, tiOf Tryd.prog 33, tiOf Tryd.prog 34, tiOf Tryd.prog 35, tiOf Tryd.prog 36, tiOf Tryd.prog 37, tiOf Tryd.prog 38, tiOf Tryd.prog 39, tiOf Tryd.prog 40, tiOf Tryd.prog 41, tiOf Tryd.prog 42, tiOf Tryd.prog 43, tiOf Tryd.prog 44, tiOf Tryd.prog 45, tiOf Tryd.prog 46, tiOf Tryd.prog 47, tiOf Tryd.prog 48, tiOf Tryd.prog 49, tiOf Tryd.prog 50, tiOf Tryd.prog 51, tiOf Tryd.prog 52, tiOf Tryd.prog 53, tiOf Tryd.prog 54, tiOf Tryd.prog 55, tiOf Tryd.prog 56, tiOf Tryd.prog 57, tiOf Tryd.prog 58, tiOf Tryd.prog 59, tiOf Tryd.prog 60, tiOf Tryd.prog 61, tiOf Tryd.prog 62, tiOf Tryd.prog 63, tiOf Tryd.prog 64, tiOf Tryd.prog 65, tiOf Tryd.prog 66, tiOf Tryd.prog 67, tiOf Tryd.prog 68, tiOf Tryd.prog 69, tiOf Tryd.prog 70, tiOf Tryd.prog 71, tiOf Tryd.prog 72, tiOf Tryd.prog 73, tiOf Tryd.prog 74, tiOf Tryd.prog 75, tiOf Tryd.prog 76, tiOf Tryd.prog 77, tiOf Tryd.prog 78, tiOf Tryd.prog 79, tiOf Tryd.prog 80, tiOf Tryd.prog 81, tiOf Tryd.prog 82, tiOf Tryd.prog 83, tiOf Tryd.prog 84, tiOf Tryd.prog 85, tiOf Tryd.prog 86, tiOf Tryd.prog 87, tiOf Tryd.prog 88, tiOf Tryd.prog 89, tiOf Tryd.prog 90, tiOf Tryd.prog 91, tiOf Tryd.prog 92, tiOf Tryd.prog 93, tiOf Tryd.prog 94, tiOf Tryd.prog 95, tiOf Tryd.prog 96, tiOf Tryd.prog 97, tiOf Tryd.prog 98, tiOf Tryd.prog 99, tiOf Tryd.prog 100, tiOf Tryd.prog 101, tiOf Tryd.prog 102, tiOf Tryd.prog 103, tiOf Tryd.prog 104, tiOf Tryd.prog 105, tiOf Tryd.prog 106, tiOf Tryd.prog 107, tiOf Tryd.prog 108, tiOf Tryd.prog 109, tiOf Tryd.prog 110, tiOf Tryd.prog 111, tiOf Tryd.prog 112, tiOf Tryd.prog 113, tiOf Tryd.prog 114, tiOf Tryd.prog 115, tiOf Tryd.prog 116, tiOf Tryd.prog 117, tiOf Tryd.prog 118, tiOf Tryd.prog 119, tiOf Tryd.prog 120, tiOf Tryd.prog 121, tiOf Tryd.prog 122, tiOf Tryd.prog 123, tiOf Tryd.prog 124, tiOf Tryd.prog 125, tiOf Tryd.prog 126, tiOf Tryd.prog 127, tiOf Tryd.prog 128, tiOf Tryd.prog 129, tiOf Tryd.prog 130, tiOf Tryd.prog 131, tiOf Tryd.prog 132, tiOf Tryd.prog 133, tiOf Tryd.prog 134, tiOf Tryd.prog 135, tiOf Tryd.prog 136, tiOf Tryd.prog 137, tiOf Tryd.prog 138, tiOf Tryd.prog 139, tiOf Tryd.prog 140, tiOf Tryd.prog 141, tiOf Tryd.prog 142, tiOf Tryd.prog 143, tiOf Tryd.prog 144, tiOf Tryd.prog 145, tiOf Tryd.prog 146, tiOf Tryd.prog 147, tiOf Tryd.prog 148, tiOf Tryd.prog 149, tiOf Tryd.prog 150, tiOf Tryd.prog 151, tiOf Tryd.prog 152, tiOf Tryd.prog 153, tiOf Tryd.prog 154, tiOf Tryd.prog 155, tiOf Tryd.prog 156, tiOf Tryd.prog 157, tiOf Tryd.prog 158, tiOf Tryd.prog 159, tiOf Tryd.prog 160, tiOf Tryd.prog 161, tiOf Tryd.prog 162, tiOf Tryd.prog 163, tiOf Tryd.prog 164, tiOf Tryd.prog 165]
  rw [ti0_ok, ti1_ok, ti2_ok, ti3_ok, ti4_ok, ti5_ok, ti6_ok, ti7_ok, ti8_ok, ti9_ok, ti10_ok, ti11_ok, ti12_ok, ti13_ok, ti14_ok, ti15_ok, ti16_ok, ti17_ok, ti18_ok, ti19_ok, ti20_ok, ti21_ok, ti22_ok, ti23_ok, ti24_ok, ti25_ok, ti26_ok, ti27_ok, ti28_ok, ti29_ok, ti30_ok, ti31_ok, ti32_ok, ti33_ok, ti34_ok, ti35_ok, ti36_ok, ti37_ok, ti38_ok, ti39_ok, ti40_ok, ti41_ok, ti42_ok, ti43_ok, ti44_ok, ti45_ok, ti46_ok, ti47_ok, ti48_ok, ti49_ok, ti50_ok, ti51_ok, ti52_ok, ti53_ok, ti54_ok, ti55_ok, ti56_ok, ti57_ok, ti58_ok, ti59_ok, ti60_ok, ti61_ok, ti62_ok, ti63_ok, ti64_ok, ti65_ok, ti66_ok, ti67_ok, ti68_ok, ti69_ok, ti70_ok, ti71_ok, ti72_ok, ti73_ok, ti74_ok, ti75_ok, ti76_ok, ti77_ok, ti78_ok, ti79_ok, ti80_ok, ti81_ok, ti82_ok, ti83_ok, ti84_ok, ti85_ok, ti86_ok, ti87_ok, ti88_ok, ti89_ok, ti90_ok, ti91_ok, ti92_ok, ti93_ok, ti94_ok, ti95_ok, ti96_ok, ti97_ok, ti98_ok, ti99_ok, ti100_ok, ti101_ok, ti102_ok, ti103_ok, ti104_ok, ti105_ok, ti106_ok, ti107_ok, ti108_ok, ti109_ok, ti110_ok, ti111_ok, ti112_ok, ti113_ok, ti114_ok, ti115_ok, ti116_ok, ti117_ok, ti118_ok, ti119_ok, ti120_ok, ti121_ok, ti122_ok, ti123_ok, ti124_ok, ti125_ok, ti126_ok, ti127_ok, ti128_ok, ti129_ok, ti130_ok, ti131_ok, ti132_ok, ti133_ok, ti134_ok, ti135_ok, ti136_ok, ti137_ok, ti138_ok, ti139_ok, ti140_ok, ti141_ok, ti142_ok, ti143_ok, ti144_ok, ti145_ok, ti146_ok, ti147_ok, ti148_ok, ti149_ok, ti150_ok, ti151_ok, ti152_ok, ti153_ok, ti154_ok, ti155_ok, ti156_ok, ti157_ok, ti158_ok, ti159_ok, ti160_ok, ti161_ok, ti162_ok, ti163_ok, ti164_ok, ti165_ok]
noncomputable def E : Env where
  P := Tryd.prog
  tab := tab
  ok := by
    intro t ti h
    rw [tab_ok, List.getElem?_map] at h
    by_cases ht : t < 166
    · rw [List.getElem?_range ht] at h
      exact (Option.some.inj h).symm
    · rw [List.getElem?_eq_none (by simpa using ht)] at h
      cases h
theorem globs : Tryd.prog.globals.size = 9 := by kernel_rfl
theorem mixed : E.P.follows .mixedOrders = true := by kernel_rfl
end Go.S2.Tryd
