/-
  Facts on the types of this translation: cells, places, zero values. Printed by a program.
-/
import Derived.Test.YtmckpdackhlgbaaRows
import Derived.Test.YtmckpdackhlgbaaEf
import Derived.KernelRfl
namespace Go.Proofs
open Go.PL
@[go_sem] theorem Try.pl_agg2 : aggN Try.prog 2 = some (none) := by kernel_rfl
@[go_sem] theorem Try.pl_sz2 : szOf Try.prog 2 = some 1 := by kernel_rfl
@[go_sem] theorem Try.pl_zero2 : zeroCs Try.prog 2 = some [.int .i64 0] := by kernel_rfl
@[go_sem] theorem Try.pl_und2 : Try.prog.underlying 2 = some (.int .i64) := by kernel_rfl
@[go_sem] theorem Try.pl_agg3 : aggN Try.prog 3 = some (none) := by kernel_rfl
@[go_sem] theorem Try.pl_sz3 : szOf Try.prog 3 = some 1 := by kernel_rfl
@[go_sem] theorem Try.pl_zero3 : zeroCs Try.prog 3 = some [.int .i64 0] := by kernel_rfl
@[go_sem] theorem Try.pl_und3 : Try.prog.underlying 3 = some (.int .i64) := by kernel_rfl
@[go_sem] theorem Try.pl_agg4 : aggN Try.prog 4 = some (none) := by kernel_rfl
@[go_sem] theorem Try.pl_sz4 : szOf Try.prog 4 = some 1 := by kernel_rfl
@[go_sem] theorem Try.pl_zero4 : zeroCs Try.prog 4 = some [.bool false] := by kernel_rfl
@[go_sem] theorem Try.pl_und4 : Try.prog.underlying 4 = some .bool := by kernel_rfl
@[go_sem] theorem Try.pl_agg5 : aggN Try.prog 5 = some (none) := by kernel_rfl
@[go_sem] theorem Try.pl_sz5 : szOf Try.prog 5 = some 1 := by kernel_rfl
@[go_sem] theorem Try.pl_zero5 : zeroCs Try.prog 5 = some [.int .u8 0] := by kernel_rfl
@[go_sem] theorem Try.pl_und5 : Try.prog.underlying 5 = some (.int .u8) := by kernel_rfl
@[go_sem] theorem Try.pl_agg6 : aggN Try.prog 6 = some (none) := by kernel_rfl
@[go_sem] theorem Try.pl_sz6 : szOf Try.prog 6 = some 1 := by kernel_rfl
@[go_sem] theorem Try.pl_zero6 : zeroCs Try.prog 6 = some [.int .u8 0] := by kernel_rfl
@[go_sem] theorem Try.pl_und6 : Try.prog.underlying 6 = some (.int .u8) := by kernel_rfl
@[go_sem] theorem Try.pl_agg7 : aggN Try.prog 7 = some (some 4) := by kernel_rfl
@[go_sem] theorem Try.pl_sz7 : szOf Try.prog 7 = some 4 := by kernel_rfl
@[go_sem] theorem Try.pl_zero7 : zeroCs Try.prog 7 = some [.int .i64 0, .int .i64 0, .bool false, .int .u8 0] := by kernel_rfl
@[go_sem] theorem Try.pl_str7 : structP Try.prog 7 = some ([.int .i64 0, .int .i64 0, .bool false, .int .u8 0], [(0, 1), (1, 1), (2, 1), (3, 1)]) := by kernel_rfl
@[go_sem] theorem Try.pl_off7x0 : fOff Try.prog 7 0 = some (0, 1) := by kernel_rfl
@[go_sem] theorem Try.pl_part7x0 : fPart Try.prog 7 0 = some (0, none) := by kernel_rfl
@[go_sem] theorem Try.pl_off7x1 : fOff Try.prog 7 1 = some (1, 1) := by kernel_rfl
@[go_sem] theorem Try.pl_part7x1 : fPart Try.prog 7 1 = some (1, none) := by kernel_rfl
@[go_sem] theorem Try.pl_off7x2 : fOff Try.prog 7 2 = some (2, 1) := by kernel_rfl
@[go_sem] theorem Try.pl_part7x2 : fPart Try.prog 7 2 = some (2, none) := by kernel_rfl
@[go_sem] theorem Try.pl_off7x3 : fOff Try.prog 7 3 = some (3, 1) := by kernel_rfl
@[go_sem] theorem Try.pl_part7x3 : fPart Try.prog 7 3 = some (3, none) := by kernel_rfl
@[go_sem] theorem Try.pl_agg8 : aggN Try.prog 8 = some (some 4) := by kernel_rfl
@[go_sem] theorem Try.pl_sz8 : szOf Try.prog 8 = some 4 := by kernel_rfl
@[go_sem] theorem Try.pl_zero8 : zeroCs Try.prog 8 = some [.int .i64 0, .int .i64 0, .bool false, .int .u8 0] := by kernel_rfl
@[go_sem] theorem Try.pl_str8 : structP Try.prog 8 = some ([.int .i64 0, .int .i64 0, .bool false, .int .u8 0], [(0, 1), (1, 1), (2, 1), (3, 1)]) := by kernel_rfl
@[go_sem] theorem Try.pl_off8x0 : fOff Try.prog 8 0 = some (0, 1) := by kernel_rfl
@[go_sem] theorem Try.pl_part8x0 : fPart Try.prog 8 0 = some (0, none) := by kernel_rfl
@[go_sem] theorem Try.pl_off8x1 : fOff Try.prog 8 1 = some (1, 1) := by kernel_rfl
@[go_sem] theorem Try.pl_part8x1 : fPart Try.prog 8 1 = some (1, none) := by kernel_rfl
@[go_sem] theorem Try.pl_off8x2 : fOff Try.prog 8 2 = some (2, 1) := by kernel_rfl
@[go_sem] theorem Try.pl_part8x2 : fPart Try.prog 8 2 = some (2, none) := by kernel_rfl
@[go_sem] theorem Try.pl_off8x3 : fOff Try.prog 8 3 = some (3, 1) := by kernel_rfl
@[go_sem] theorem Try.pl_part8x3 : fPart Try.prog 8 3 = some (3, none) := by kernel_rfl
@[go_sem] theorem Try.pl_agg9 : aggN Try.prog 9 = some (none) := by kernel_rfl
@[go_sem] theorem Try.pl_sz9 : szOf Try.prog 9 = some 1 := by kernel_rfl
@[go_sem] theorem Try.pl_zero9 : zeroCs Try.prog 9 = some [.string .empty] := by kernel_rfl
@[go_sem] theorem Try.pl_und9 : Try.prog.underlying 9 = some .string := by kernel_rfl
@[go_sem] theorem Try.pl_agg10 : aggN Try.prog 10 = some (none) := by kernel_rfl
@[go_sem] theorem Try.pl_sz10 : szOf Try.prog 10 = some 1 := by kernel_rfl
@[go_sem] theorem Try.pl_zero10 : zeroCs Try.prog 10 = some [.string .empty] := by kernel_rfl
@[go_sem] theorem Try.pl_und10 : Try.prog.underlying 10 = some .string := by kernel_rfl
@[go_sem] theorem Try.pl_agg11 : aggN Try.prog 11 = some (none) := by kernel_rfl
@[go_sem] theorem Try.pl_sz11 : szOf Try.prog 11 = some 1 := by kernel_rfl
@[go_sem] theorem Try.pl_zero11 : zeroCs Try.prog 11 = some [.string .empty] := by kernel_rfl
@[go_sem] theorem Try.pl_und11 : Try.prog.underlying 11 = some .string := by kernel_rfl
@[go_sem] theorem Try.pl_agg12 : aggN Try.prog 12 = some (none) := by kernel_rfl
@[go_sem] theorem Try.pl_sz12 : szOf Try.prog 12 = some 1 := by kernel_rfl
@[go_sem] theorem Try.pl_zero12 : zeroCs Try.prog 12 = some [.int .u64 0] := by kernel_rfl
@[go_sem] theorem Try.pl_und12 : Try.prog.underlying 12 = some (.int .u64) := by kernel_rfl
@[go_sem] theorem Try.pl_agg13 : aggN Try.prog 13 = some (some 2) := by kernel_rfl
@[go_sem] theorem Try.pl_sz13 : szOf Try.prog 13 = some 2 := by kernel_rfl
@[go_sem] theorem Try.pl_zero13 : zeroCs Try.prog 13 = some [.string .empty, .int .u64 0] := by kernel_rfl
@[go_sem] theorem Try.pl_str13 : structP Try.prog 13 = some ([.string .empty, .int .u64 0], [(0, 1), (1, 1)]) := by kernel_rfl
@[go_sem] theorem Try.pl_off13x0 : fOff Try.prog 13 0 = some (0, 1) := by kernel_rfl
@[go_sem] theorem Try.pl_part13x0 : fPart Try.prog 13 0 = some (0, none) := by kernel_rfl
@[go_sem] theorem Try.pl_off13x1 : fOff Try.prog 13 1 = some (1, 1) := by kernel_rfl
@[go_sem] theorem Try.pl_part13x1 : fPart Try.prog 13 1 = some (1, none) := by kernel_rfl
@[go_sem] theorem Try.pl_agg14 : aggN Try.prog 14 = some (some 2) := by kernel_rfl
@[go_sem] theorem Try.pl_sz14 : szOf Try.prog 14 = some 2 := by kernel_rfl
@[go_sem] theorem Try.pl_zero14 : zeroCs Try.prog 14 = some [.string .empty, .int .u64 0] := by kernel_rfl
@[go_sem] theorem Try.pl_str14 : structP Try.prog 14 = some ([.string .empty, .int .u64 0], [(0, 1), (1, 1)]) := by kernel_rfl
@[go_sem] theorem Try.pl_off14x0 : fOff Try.prog 14 0 = some (0, 1) := by kernel_rfl
@[go_sem] theorem Try.pl_part14x0 : fPart Try.prog 14 0 = some (0, none) := by kernel_rfl
@[go_sem] theorem Try.pl_off14x1 : fOff Try.prog 14 1 = some (1, 1) := by kernel_rfl
@[go_sem] theorem Try.pl_part14x1 : fPart Try.prog 14 1 = some (1, none) := by kernel_rfl
@[go_sem] theorem Try.pl_agg15 : aggN Try.prog 15 = some (none) := by kernel_rfl
@[go_sem] theorem Try.pl_sz15 : szOf Try.prog 15 = some 1 := by kernel_rfl
@[go_sem] theorem Try.pl_zero15 : zeroCs Try.prog 15 = some [.pointer none] := by kernel_rfl
@[go_sem] theorem Try.pl_agg16 : aggN Try.prog 16 = some (none) := by kernel_rfl
@[go_sem] theorem Try.pl_sz16 : szOf Try.prog 16 = some 1 := by kernel_rfl
@[go_sem] theorem Try.pl_zero16 : zeroCs Try.prog 16 = some [.pointer none] := by kernel_rfl
@[go_sem] theorem Try.pl_agg17 : aggN Try.prog 17 = some (none) := by kernel_rfl
@[go_sem] theorem Try.pl_sz17 : szOf Try.prog 17 = some 1 := by kernel_rfl
@[go_sem] theorem Try.pl_zero17 : zeroCs Try.prog 17 = some [.pointer none] := by kernel_rfl
@[go_sem] theorem Try.pl_agg18 : aggN Try.prog 18 = some (some 1) := by kernel_rfl
@[go_sem] theorem Try.pl_sz18 : szOf Try.prog 18 = some 1 := by kernel_rfl
@[go_sem] theorem Try.pl_zero18 : zeroCs Try.prog 18 = some [.pointer none] := by kernel_rfl
@[go_sem] theorem Try.pl_str18 : structP Try.prog 18 = some ([.pointer none], [(0, 1)]) := by kernel_rfl
@[go_sem] theorem Try.pl_off18x0 : fOff Try.prog 18 0 = some (0, 1) := by kernel_rfl
@[go_sem] theorem Try.pl_part18x0 : fPart Try.prog 18 0 = some (0, none) := by kernel_rfl
@[go_sem] theorem Try.pl_agg19 : aggN Try.prog 19 = some (some 1) := by kernel_rfl
@[go_sem] theorem Try.pl_sz19 : szOf Try.prog 19 = some 1 := by kernel_rfl
@[go_sem] theorem Try.pl_zero19 : zeroCs Try.prog 19 = some [.pointer none] := by kernel_rfl
@[go_sem] theorem Try.pl_str19 : structP Try.prog 19 = some ([.pointer none], [(0, 1)]) := by kernel_rfl
@[go_sem] theorem Try.pl_off19x0 : fOff Try.prog 19 0 = some (0, 1) := by kernel_rfl
@[go_sem] theorem Try.pl_part19x0 : fPart Try.prog 19 0 = some (0, none) := by kernel_rfl
@[go_sem] theorem Try.pl_agg21 : aggN Try.prog 21 = some (none) := by kernel_rfl
@[go_sem] theorem Try.pl_sz21 : szOf Try.prog 21 = some 1 := by kernel_rfl
@[go_sem] theorem Try.pl_zero21 : zeroCs Try.prog 21 = some [.int .i32 0] := by kernel_rfl
@[go_sem] theorem Try.pl_und21 : Try.prog.underlying 21 = some (.int .i32) := by kernel_rfl
@[go_sem] theorem Try.pl_agg22 : aggN Try.prog 22 = some (some 3) := by kernel_rfl
@[go_sem] theorem Try.pl_sz22 : szOf Try.prog 22 = some 3 := by kernel_rfl
@[go_sem] theorem Try.pl_zero22 : zeroCs Try.prog 22 = some [.int .i64 0, .int .i64 0, .int .i64 0] := by kernel_rfl
@[go_sem] theorem Try.pl_str22 : structP Try.prog 22 = some ([.int .i64 0, .int .i64 0, .int .i64 0], [(0, 1), (1, 1), (2, 1)]) := by kernel_rfl
@[go_sem] theorem Try.pl_off22x0 : fOff Try.prog 22 0 = some (0, 1) := by kernel_rfl
@[go_sem] theorem Try.pl_part22x0 : fPart Try.prog 22 0 = some (0, none) := by kernel_rfl
@[go_sem] theorem Try.pl_off22x1 : fOff Try.prog 22 1 = some (1, 1) := by kernel_rfl
@[go_sem] theorem Try.pl_part22x1 : fPart Try.prog 22 1 = some (1, none) := by kernel_rfl
@[go_sem] theorem Try.pl_off22x2 : fOff Try.prog 22 2 = some (2, 1) := by kernel_rfl
@[go_sem] theorem Try.pl_part22x2 : fPart Try.prog 22 2 = some (2, none) := by kernel_rfl
@[go_sem] theorem Try.pl_agg23 : aggN Try.prog 23 = some (some 3) := by kernel_rfl
@[go_sem] theorem Try.pl_sz23 : szOf Try.prog 23 = some 3 := by kernel_rfl
@[go_sem] theorem Try.pl_zero23 : zeroCs Try.prog 23 = some [.int .i64 0, .int .i64 0, .int .i64 0] := by kernel_rfl
@[go_sem] theorem Try.pl_str23 : structP Try.prog 23 = some ([.int .i64 0, .int .i64 0, .int .i64 0], [(0, 1), (1, 1), (2, 1)]) := by kernel_rfl
@[go_sem] theorem Try.pl_off23x0 : fOff Try.prog 23 0 = some (0, 1) := by kernel_rfl
@[go_sem] theorem Try.pl_part23x0 : fPart Try.prog 23 0 = some (0, none) := by kernel_rfl
@[go_sem] theorem Try.pl_off23x1 : fOff Try.prog 23 1 = some (1, 1) := by kernel_rfl
@[go_sem] theorem Try.pl_part23x1 : fPart Try.prog 23 1 = some (1, none) := by kernel_rfl
@[go_sem] theorem Try.pl_off23x2 : fOff Try.prog 23 2 = some (2, 1) := by kernel_rfl
@[go_sem] theorem Try.pl_part23x2 : fPart Try.prog 23 2 = some (2, none) := by kernel_rfl
@[go_sem] theorem Try.pl_agg24 : aggN Try.prog 24 = some (none) := by kernel_rfl
@[go_sem] theorem Try.pl_sz24 : szOf Try.prog 24 = some 1 := by kernel_rfl
@[go_sem] theorem Try.pl_zero24 : zeroCs Try.prog 24 = some [.slice none 0 0] := by kernel_rfl
@[go_sem] theorem Try.pl_und24 : Try.prog.underlying 24 = some (.slice 3) := by kernel_rfl
@[go_sem] theorem Try.pl_zv24 : zeroV Try.prog 3 = some (.int .i64 0) := by kernel_rfl
@[go_sem] theorem Try.pl_esz24 : eSz Try.prog 24 = some (3, 1) := by kernel_rfl
@[go_sem] theorem Try.pl_einf24 : eInf Try.prog 24 = some (3, 1, 8) := by kernel_rfl
@[go_sem] theorem Try.pl_agg26 : aggN Try.prog 26 = some (some 3) := by kernel_rfl
@[go_sem] theorem Try.pl_sz26 : szOf Try.prog 26 = some 3 := by kernel_rfl
@[go_sem] theorem Try.pl_zero26 : zeroCs Try.prog 26 = some [.int .i64 0, .int .i64 0, .int .i64 0] := by kernel_rfl
@[go_sem] theorem Try.pl_str26 : structP Try.prog 26 = some ([.int .i64 0, .int .i64 0, .int .i64 0], [(0, 1), (1, 1), (2, 1)]) := by kernel_rfl
@[go_sem] theorem Try.pl_off26x0 : fOff Try.prog 26 0 = some (0, 1) := by kernel_rfl
@[go_sem] theorem Try.pl_part26x0 : fPart Try.prog 26 0 = some (0, none) := by kernel_rfl
@[go_sem] theorem Try.pl_off26x1 : fOff Try.prog 26 1 = some (1, 1) := by kernel_rfl
@[go_sem] theorem Try.pl_part26x1 : fPart Try.prog 26 1 = some (1, none) := by kernel_rfl
@[go_sem] theorem Try.pl_off26x2 : fOff Try.prog 26 2 = some (2, 1) := by kernel_rfl
@[go_sem] theorem Try.pl_part26x2 : fPart Try.prog 26 2 = some (2, none) := by kernel_rfl
@[go_sem] theorem Try.pl_agg31 : aggN Try.prog 31 = some (none) := by kernel_rfl
@[go_sem] theorem Try.pl_sz31 : szOf Try.prog 31 = some 1 := by kernel_rfl
@[go_sem] theorem Try.pl_zero31 : zeroCs Try.prog 31 = some [.slice none 0 0] := by kernel_rfl
@[go_sem] theorem Try.pl_und31 : Try.prog.underlying 31 = some (.slice 5) := by kernel_rfl
@[go_sem] theorem Try.pl_zv31 : zeroV Try.prog 5 = some (.int .u8 0) := by kernel_rfl
@[go_sem] theorem Try.pl_esz31 : eSz Try.prog 31 = some (5, 1) := by kernel_rfl
@[go_sem] theorem Try.pl_einf31 : eInf Try.prog 31 = some (5, 1, 1) := by kernel_rfl
@[go_sem] theorem Try.pl_agg36 : aggN Try.prog 36 = some (none) := by kernel_rfl
@[go_sem] theorem Try.pl_sz36 : szOf Try.prog 36 = some 1 := by kernel_rfl
@[go_sem] theorem Try.pl_zero36 : zeroCs Try.prog 36 = some [.slice none 0 0] := by kernel_rfl
@[go_sem] theorem Try.pl_und36 : Try.prog.underlying 36 = some (.slice 42) := by kernel_rfl
@[go_sem] theorem Try.pl_zv36 : zeroV Try.prog 42 = some (.agg #[.int .i64 0, .int .i64 0, .int .i64 0]) := by kernel_rfl
@[go_sem] theorem Try.pl_esz36 : eSz Try.prog 36 = some (42, 3) := by kernel_rfl
@[go_sem] theorem Try.pl_einf36 : eInf Try.prog 36 = some (42, 3, 24) := by kernel_rfl
@[go_sem] theorem Try.pl_agg41 : aggN Try.prog 41 = some (some 3) := by kernel_rfl
@[go_sem] theorem Try.pl_sz41 : szOf Try.prog 41 = some 3 := by kernel_rfl
@[go_sem] theorem Try.pl_zero41 : zeroCs Try.prog 41 = some [.int .i64 0, .int .i64 0, .int .i64 0] := by kernel_rfl
@[go_sem] theorem Try.pl_str41 : structP Try.prog 41 = some ([.int .i64 0, .int .i64 0, .int .i64 0], [(0, 1), (1, 1), (2, 1)]) := by kernel_rfl
@[go_sem] theorem Try.pl_off41x0 : fOff Try.prog 41 0 = some (0, 1) := by kernel_rfl
@[go_sem] theorem Try.pl_part41x0 : fPart Try.prog 41 0 = some (0, none) := by kernel_rfl
@[go_sem] theorem Try.pl_off41x1 : fOff Try.prog 41 1 = some (1, 1) := by kernel_rfl
@[go_sem] theorem Try.pl_part41x1 : fPart Try.prog 41 1 = some (1, none) := by kernel_rfl
@[go_sem] theorem Try.pl_off41x2 : fOff Try.prog 41 2 = some (2, 1) := by kernel_rfl
@[go_sem] theorem Try.pl_part41x2 : fPart Try.prog 41 2 = some (2, none) := by kernel_rfl
@[go_sem] theorem Try.pl_agg42 : aggN Try.prog 42 = some (some 3) := by kernel_rfl
@[go_sem] theorem Try.pl_sz42 : szOf Try.prog 42 = some 3 := by kernel_rfl
@[go_sem] theorem Try.pl_zero42 : zeroCs Try.prog 42 = some [.int .i64 0, .int .i64 0, .int .i64 0] := by kernel_rfl
@[go_sem] theorem Try.pl_str42 : structP Try.prog 42 = some ([.int .i64 0, .int .i64 0, .int .i64 0], [(0, 1), (1, 1), (2, 1)]) := by kernel_rfl
@[go_sem] theorem Try.pl_off42x0 : fOff Try.prog 42 0 = some (0, 1) := by kernel_rfl
@[go_sem] theorem Try.pl_part42x0 : fPart Try.prog 42 0 = some (0, none) := by kernel_rfl
@[go_sem] theorem Try.pl_off42x1 : fOff Try.prog 42 1 = some (1, 1) := by kernel_rfl
@[go_sem] theorem Try.pl_part42x1 : fPart Try.prog 42 1 = some (1, none) := by kernel_rfl
@[go_sem] theorem Try.pl_off42x2 : fOff Try.prog 42 2 = some (2, 1) := by kernel_rfl
@[go_sem] theorem Try.pl_part42x2 : fPart Try.prog 42 2 = some (2, none) := by kernel_rfl
@[go_sem] theorem Try.pl_agg43 : aggN Try.prog 43 = some (none) := by kernel_rfl
@[go_sem] theorem Try.pl_sz43 : szOf Try.prog 43 = some 1 := by kernel_rfl
@[go_sem] theorem Try.pl_zero43 : zeroCs Try.prog 43 = some [.slice none 0 0] := by kernel_rfl
@[go_sem] theorem Try.pl_und43 : Try.prog.underlying 43 = some (.slice 36) := by kernel_rfl
@[go_sem] theorem Try.pl_zv43 : zeroV Try.prog 36 = some (.slice none 0 0) := by kernel_rfl
@[go_sem] theorem Try.pl_esz43 : eSz Try.prog 43 = some (36, 1) := by kernel_rfl
@[go_sem] theorem Try.pl_einf43 : eInf Try.prog 43 = some (36, 1, 24) := by kernel_rfl
@[go_sem] theorem Try.pl_agg46 : aggN Try.prog 46 = some (none) := by kernel_rfl
@[go_sem] theorem Try.pl_sz46 : szOf Try.prog 46 = some 1 := by kernel_rfl
@[go_sem] theorem Try.pl_zero46 : zeroCs Try.prog 46 = some [.slice none 0 0] := by kernel_rfl
@[go_sem] theorem Try.pl_und46 : Try.prog.underlying 46 = some (.slice 101) := by kernel_rfl
@[go_sem] theorem Try.pl_zv46 : zeroV Try.prog 101 = some (.agg #[.int .i64 0, .int .i64 0, .int .i64 0, .int .i64 0]) := by kernel_rfl
@[go_sem] theorem Try.pl_esz46 : eSz Try.prog 46 = some (101, 4) := by kernel_rfl
@[go_sem] theorem Try.pl_einf46 : eInf Try.prog 46 = some (101, 4, 32) := by kernel_rfl
@[go_sem] theorem Try.pl_agg48 : aggN Try.prog 48 = some (none) := by kernel_rfl
@[go_sem] theorem Try.pl_sz48 : szOf Try.prog 48 = some 1 := by kernel_rfl
@[go_sem] theorem Try.pl_zero48 : zeroCs Try.prog 48 = some [.slice none 0 0] := by kernel_rfl
@[go_sem] theorem Try.pl_und48 : Try.prog.underlying 48 = some (.slice 96) := by kernel_rfl
@[go_sem] theorem Try.pl_zv48 : zeroV Try.prog 96 = some (.agg #[.int .i64 0, .int .i64 0, .int .i64 0, .int .i64 0]) := by kernel_rfl
@[go_sem] theorem Try.pl_esz48 : eSz Try.prog 48 = some (96, 4) := by kernel_rfl
@[go_sem] theorem Try.pl_einf48 : eInf Try.prog 48 = some (96, 4, 32) := by kernel_rfl
@[go_sem] theorem Try.pl_agg61 : aggN Try.prog 61 = some (some 5) := by kernel_rfl
@[go_sem] theorem Try.pl_sz61 : szOf Try.prog 61 = some 5 := by kernel_rfl
@[go_sem] theorem Try.pl_zero61 : zeroCs Try.prog 61 = some [.int .i64 0, .int .i64 0, .int .i64 0, .int .i64 0, .int .i64 0] := by kernel_rfl
@[go_sem] theorem Try.pl_str61 : structP Try.prog 61 = some ([.int .i64 0, .int .i64 0, .int .i64 0, .int .i64 0, .int .i64 0], [(0, 3), (3, 1), (4, 1)]) := by kernel_rfl
@[go_sem] theorem Try.pl_off61x0 : fOff Try.prog 61 0 = some (0, 3) := by kernel_rfl
@[go_sem] theorem Try.pl_part61x0 : fPart Try.prog 61 0 = some (0, some 3) := by kernel_rfl
@[go_sem] theorem Try.pl_off61x1 : fOff Try.prog 61 1 = some (3, 1) := by kernel_rfl
@[go_sem] theorem Try.pl_part61x1 : fPart Try.prog 61 1 = some (3, none) := by kernel_rfl
@[go_sem] theorem Try.pl_off61x2 : fOff Try.prog 61 2 = some (4, 1) := by kernel_rfl
@[go_sem] theorem Try.pl_part61x2 : fPart Try.prog 61 2 = some (4, none) := by kernel_rfl
@[go_sem] theorem Try.pl_agg62 : aggN Try.prog 62 = some (some 5) := by kernel_rfl
@[go_sem] theorem Try.pl_sz62 : szOf Try.prog 62 = some 5 := by kernel_rfl
@[go_sem] theorem Try.pl_zero62 : zeroCs Try.prog 62 = some [.int .i64 0, .int .i64 0, .int .i64 0, .int .i64 0, .int .i64 0] := by kernel_rfl
@[go_sem] theorem Try.pl_str62 : structP Try.prog 62 = some ([.int .i64 0, .int .i64 0, .int .i64 0, .int .i64 0, .int .i64 0], [(0, 3), (3, 1), (4, 1)]) := by kernel_rfl
@[go_sem] theorem Try.pl_off62x0 : fOff Try.prog 62 0 = some (0, 3) := by kernel_rfl
@[go_sem] theorem Try.pl_part62x0 : fPart Try.prog 62 0 = some (0, some 3) := by kernel_rfl
@[go_sem] theorem Try.pl_off62x1 : fOff Try.prog 62 1 = some (3, 1) := by kernel_rfl
@[go_sem] theorem Try.pl_part62x1 : fPart Try.prog 62 1 = some (3, none) := by kernel_rfl
@[go_sem] theorem Try.pl_off62x2 : fOff Try.prog 62 2 = some (4, 1) := by kernel_rfl
@[go_sem] theorem Try.pl_part62x2 : fPart Try.prog 62 2 = some (4, none) := by kernel_rfl
@[go_sem] theorem Try.pl_agg63 : aggN Try.prog 63 = some (none) := by kernel_rfl
@[go_sem] theorem Try.pl_sz63 : szOf Try.prog 63 = some 1 := by kernel_rfl
@[go_sem] theorem Try.pl_zero63 : zeroCs Try.prog 63 = some [.slice none 0 0] := by kernel_rfl
@[go_sem] theorem Try.pl_und63 : Try.prog.underlying 63 = some (.slice 139) := by kernel_rfl
@[go_sem] theorem Try.pl_zv63 : zeroV Try.prog 139 = some (.agg #[.int .i64 0, .int .i64 0, .int .i64 0]) := by kernel_rfl
@[go_sem] theorem Try.pl_esz63 : eSz Try.prog 63 = some (139, 3) := by kernel_rfl
@[go_sem] theorem Try.pl_einf63 : eInf Try.prog 63 = some (139, 3, 24) := by kernel_rfl
@[go_sem] theorem Try.pl_agg64 : aggN Try.prog 64 = some (some 8) := by kernel_rfl
@[go_sem] theorem Try.pl_sz64 : szOf Try.prog 64 = some 8 := by kernel_rfl
@[go_sem] theorem Try.pl_zero64 : zeroCs Try.prog 64 = some [.int .i64 0, .int .i64 0, .int .i64 0, .int .i64 0, .int .i64 0, .slice none 0 0, .int .i64 0, .int .i64 0] := by kernel_rfl
@[go_sem] theorem Try.pl_str64 : structP Try.prog 64 = some ([.int .i64 0, .int .i64 0, .int .i64 0, .int .i64 0, .int .i64 0, .slice none 0 0, .int .i64 0, .int .i64 0], [(0, 5), (5, 1), (6, 1), (7, 1)]) := by kernel_rfl
@[go_sem] theorem Try.pl_off64x0 : fOff Try.prog 64 0 = some (0, 5) := by kernel_rfl
@[go_sem] theorem Try.pl_part64x0 : fPart Try.prog 64 0 = some (0, some 5) := by kernel_rfl
@[go_sem] theorem Try.pl_off64x1 : fOff Try.prog 64 1 = some (5, 1) := by kernel_rfl
@[go_sem] theorem Try.pl_part64x1 : fPart Try.prog 64 1 = some (5, none) := by kernel_rfl
@[go_sem] theorem Try.pl_off64x2 : fOff Try.prog 64 2 = some (6, 1) := by kernel_rfl
@[go_sem] theorem Try.pl_part64x2 : fPart Try.prog 64 2 = some (6, none) := by kernel_rfl
@[go_sem] theorem Try.pl_off64x3 : fOff Try.prog 64 3 = some (7, 1) := by kernel_rfl
@[go_sem] theorem Try.pl_part64x3 : fPart Try.prog 64 3 = some (7, none) := by kernel_rfl
@[go_sem] theorem Try.pl_agg65 : aggN Try.prog 65 = some (some 8) := by kernel_rfl
@[go_sem] theorem Try.pl_sz65 : szOf Try.prog 65 = some 8 := by kernel_rfl
@[go_sem] theorem Try.pl_zero65 : zeroCs Try.prog 65 = some [.int .i64 0, .int .i64 0, .int .i64 0, .int .i64 0, .int .i64 0, .slice none 0 0, .int .i64 0, .int .i64 0] := by kernel_rfl
@[go_sem] theorem Try.pl_str65 : structP Try.prog 65 = some ([.int .i64 0, .int .i64 0, .int .i64 0, .int .i64 0, .int .i64 0, .slice none 0 0, .int .i64 0, .int .i64 0], [(0, 5), (5, 1), (6, 1), (7, 1)]) := by kernel_rfl
@[go_sem] theorem Try.pl_off65x0 : fOff Try.prog 65 0 = some (0, 5) := by kernel_rfl
@[go_sem] theorem Try.pl_part65x0 : fPart Try.prog 65 0 = some (0, some 5) := by kernel_rfl
@[go_sem] theorem Try.pl_off65x1 : fOff Try.prog 65 1 = some (5, 1) := by kernel_rfl
@[go_sem] theorem Try.pl_part65x1 : fPart Try.prog 65 1 = some (5, none) := by kernel_rfl
@[go_sem] theorem Try.pl_off65x2 : fOff Try.prog 65 2 = some (6, 1) := by kernel_rfl
@[go_sem] theorem Try.pl_part65x2 : fPart Try.prog 65 2 = some (6, none) := by kernel_rfl
@[go_sem] theorem Try.pl_off65x3 : fOff Try.prog 65 3 = some (7, 1) := by kernel_rfl
@[go_sem] theorem Try.pl_part65x3 : fPart Try.prog 65 3 = some (7, none) := by kernel_rfl
@[go_sem] theorem Try.pl_agg68 : aggN Try.prog 68 = some (some 5) := by kernel_rfl
@[go_sem] theorem Try.pl_sz68 : szOf Try.prog 68 = some 5 := by kernel_rfl
@[go_sem] theorem Try.pl_zero68 : zeroCs Try.prog 68 = some [.int .i64 0, .int .i64 0, .int .i64 0, .int .i64 0, .int .i64 0] := by kernel_rfl
@[go_sem] theorem Try.pl_str68 : structP Try.prog 68 = some ([.int .i64 0, .int .i64 0, .int .i64 0, .int .i64 0, .int .i64 0], [(0, 3), (3, 1), (4, 1)]) := by kernel_rfl
@[go_sem] theorem Try.pl_off68x0 : fOff Try.prog 68 0 = some (0, 3) := by kernel_rfl
@[go_sem] theorem Try.pl_part68x0 : fPart Try.prog 68 0 = some (0, some 3) := by kernel_rfl
@[go_sem] theorem Try.pl_off68x1 : fOff Try.prog 68 1 = some (3, 1) := by kernel_rfl
@[go_sem] theorem Try.pl_part68x1 : fPart Try.prog 68 1 = some (3, none) := by kernel_rfl
@[go_sem] theorem Try.pl_off68x2 : fOff Try.prog 68 2 = some (4, 1) := by kernel_rfl
@[go_sem] theorem Try.pl_part68x2 : fPart Try.prog 68 2 = some (4, none) := by kernel_rfl
@[go_sem] theorem Try.pl_agg69 : aggN Try.prog 69 = some (some 5) := by kernel_rfl
@[go_sem] theorem Try.pl_sz69 : szOf Try.prog 69 = some 5 := by kernel_rfl
@[go_sem] theorem Try.pl_zero69 : zeroCs Try.prog 69 = some [.int .i64 0, .int .i64 0, .int .i64 0, .int .i64 0, .int .i64 0] := by kernel_rfl
@[go_sem] theorem Try.pl_str69 : structP Try.prog 69 = some ([.int .i64 0, .int .i64 0, .int .i64 0, .int .i64 0, .int .i64 0], [(0, 3), (3, 1), (4, 1)]) := by kernel_rfl
@[go_sem] theorem Try.pl_off69x0 : fOff Try.prog 69 0 = some (0, 3) := by kernel_rfl
@[go_sem] theorem Try.pl_part69x0 : fPart Try.prog 69 0 = some (0, some 3) := by kernel_rfl
@[go_sem] theorem Try.pl_off69x1 : fOff Try.prog 69 1 = some (3, 1) := by kernel_rfl
@[go_sem] theorem Try.pl_part69x1 : fPart Try.prog 69 1 = some (3, none) := by kernel_rfl
@[go_sem] theorem Try.pl_off69x2 : fOff Try.prog 69 2 = some (4, 1) := by kernel_rfl
@[go_sem] theorem Try.pl_part69x2 : fPart Try.prog 69 2 = some (4, none) := by kernel_rfl
@[go_sem] theorem Try.pl_agg70 : aggN Try.prog 70 = some (some 8) := by kernel_rfl
@[go_sem] theorem Try.pl_sz70 : szOf Try.prog 70 = some 8 := by kernel_rfl
@[go_sem] theorem Try.pl_zero70 : zeroCs Try.prog 70 = some [.int .i64 0, .int .i64 0, .int .i64 0, .int .i64 0, .int .i64 0, .slice none 0 0, .int .i64 0, .int .i64 0] := by kernel_rfl
@[go_sem] theorem Try.pl_str70 : structP Try.prog 70 = some ([.int .i64 0, .int .i64 0, .int .i64 0, .int .i64 0, .int .i64 0, .slice none 0 0, .int .i64 0, .int .i64 0], [(0, 5), (5, 1), (6, 1), (7, 1)]) := by kernel_rfl
@[go_sem] theorem Try.pl_off70x0 : fOff Try.prog 70 0 = some (0, 5) := by kernel_rfl
@[go_sem] theorem Try.pl_part70x0 : fPart Try.prog 70 0 = some (0, some 5) := by kernel_rfl
@[go_sem] theorem Try.pl_off70x1 : fOff Try.prog 70 1 = some (5, 1) := by kernel_rfl
@[go_sem] theorem Try.pl_part70x1 : fPart Try.prog 70 1 = some (5, none) := by kernel_rfl
@[go_sem] theorem Try.pl_off70x2 : fOff Try.prog 70 2 = some (6, 1) := by kernel_rfl
@[go_sem] theorem Try.pl_part70x2 : fPart Try.prog 70 2 = some (6, none) := by kernel_rfl
@[go_sem] theorem Try.pl_off70x3 : fOff Try.prog 70 3 = some (7, 1) := by kernel_rfl
@[go_sem] theorem Try.pl_part70x3 : fPart Try.prog 70 3 = some (7, none) := by kernel_rfl
@[go_sem] theorem Try.pl_agg71 : aggN Try.prog 71 = some (some 8) := by kernel_rfl
@[go_sem] theorem Try.pl_sz71 : szOf Try.prog 71 = some 8 := by kernel_rfl
@[go_sem] theorem Try.pl_zero71 : zeroCs Try.prog 71 = some [.int .i64 0, .int .i64 0, .int .i64 0, .int .i64 0, .int .i64 0, .slice none 0 0, .int .i64 0, .int .i64 0] := by kernel_rfl
@[go_sem] theorem Try.pl_str71 : structP Try.prog 71 = some ([.int .i64 0, .int .i64 0, .int .i64 0, .int .i64 0, .int .i64 0, .slice none 0 0, .int .i64 0, .int .i64 0], [(0, 5), (5, 1), (6, 1), (7, 1)]) := by kernel_rfl
@[go_sem] theorem Try.pl_off71x0 : fOff Try.prog 71 0 = some (0, 5) := by kernel_rfl
@[go_sem] theorem Try.pl_part71x0 : fPart Try.prog 71 0 = some (0, some 5) := by kernel_rfl
@[go_sem] theorem Try.pl_off71x1 : fOff Try.prog 71 1 = some (5, 1) := by kernel_rfl
@[go_sem] theorem Try.pl_part71x1 : fPart Try.prog 71 1 = some (5, none) := by kernel_rfl
@[go_sem] theorem Try.pl_off71x2 : fOff Try.prog 71 2 = some (6, 1) := by kernel_rfl
@[go_sem] theorem Try.pl_part71x2 : fPart Try.prog 71 2 = some (6, none) := by kernel_rfl
@[go_sem] theorem Try.pl_off71x3 : fOff Try.prog 71 3 = some (7, 1) := by kernel_rfl
@[go_sem] theorem Try.pl_part71x3 : fPart Try.prog 71 3 = some (7, none) := by kernel_rfl
@[go_sem] theorem Try.pl_agg78 : aggN Try.prog 78 = some (none) := by kernel_rfl
@[go_sem] theorem Try.pl_sz78 : szOf Try.prog 78 = some 1 := by kernel_rfl
@[go_sem] theorem Try.pl_zero78 : zeroCs Try.prog 78 = some [.pointer none] := by kernel_rfl
@[go_sem] theorem Try.pl_agg80 : aggN Try.prog 80 = some (none) := by kernel_rfl
@[go_sem] theorem Try.pl_sz80 : szOf Try.prog 80 = some 1 := by kernel_rfl
@[go_sem] theorem Try.pl_zero80 : zeroCs Try.prog 80 = some [.slice none 0 0] := by kernel_rfl
@[go_sem] theorem Try.pl_und80 : Try.prog.underlying 80 = some (.slice 4) := by kernel_rfl
@[go_sem] theorem Try.pl_zv80 : zeroV Try.prog 4 = some (.bool false) := by kernel_rfl
@[go_sem] theorem Try.pl_esz80 : eSz Try.prog 80 = some (4, 1) := by kernel_rfl
@[go_sem] theorem Try.pl_einf80 : eInf Try.prog 80 = some (4, 1, 1) := by kernel_rfl
@[go_sem] theorem Try.pl_agg81 : aggN Try.prog 81 = some (none) := by kernel_rfl
@[go_sem] theorem Try.pl_sz81 : szOf Try.prog 81 = some 1 := by kernel_rfl
@[go_sem] theorem Try.pl_zero81 : zeroCs Try.prog 81 = some [.slice none 0 0] := by kernel_rfl
@[go_sem] theorem Try.pl_und81 : Try.prog.underlying 81 = some (.slice 4) := by kernel_rfl
@[go_sem] theorem Try.pl_zv81 : zeroV Try.prog 4 = some (.bool false) := by kernel_rfl
@[go_sem] theorem Try.pl_esz81 : eSz Try.prog 81 = some (4, 1) := by kernel_rfl
@[go_sem] theorem Try.pl_einf81 : eInf Try.prog 81 = some (4, 1, 1) := by kernel_rfl
@[go_sem] theorem Try.pl_agg83 : aggN Try.prog 83 = some (some 4) := by kernel_rfl
@[go_sem] theorem Try.pl_sz83 : szOf Try.prog 83 = some 4 := by kernel_rfl
@[go_sem] theorem Try.pl_zero83 : zeroCs Try.prog 83 = some [.slice none 0 0, .slice none 0 0, .int .i64 0, .map none] := by kernel_rfl
@[go_sem] theorem Try.pl_str83 : structP Try.prog 83 = some ([.slice none 0 0, .slice none 0 0, .int .i64 0, .map none], [(0, 1), (1, 1), (2, 1), (3, 1)]) := by kernel_rfl
@[go_sem] theorem Try.pl_off83x0 : fOff Try.prog 83 0 = some (0, 1) := by kernel_rfl
@[go_sem] theorem Try.pl_part83x0 : fPart Try.prog 83 0 = some (0, none) := by kernel_rfl
@[go_sem] theorem Try.pl_off83x1 : fOff Try.prog 83 1 = some (1, 1) := by kernel_rfl
@[go_sem] theorem Try.pl_part83x1 : fPart Try.prog 83 1 = some (1, none) := by kernel_rfl
@[go_sem] theorem Try.pl_off83x2 : fOff Try.prog 83 2 = some (2, 1) := by kernel_rfl
@[go_sem] theorem Try.pl_part83x2 : fPart Try.prog 83 2 = some (2, none) := by kernel_rfl
@[go_sem] theorem Try.pl_off83x3 : fOff Try.prog 83 3 = some (3, 1) := by kernel_rfl
@[go_sem] theorem Try.pl_part83x3 : fPart Try.prog 83 3 = some (3, none) := by kernel_rfl
@[go_sem] theorem Try.pl_agg84 : aggN Try.prog 84 = some (some 4) := by kernel_rfl
@[go_sem] theorem Try.pl_sz84 : szOf Try.prog 84 = some 4 := by kernel_rfl
@[go_sem] theorem Try.pl_zero84 : zeroCs Try.prog 84 = some [.slice none 0 0, .slice none 0 0, .int .i64 0, .map none] := by kernel_rfl
@[go_sem] theorem Try.pl_str84 : structP Try.prog 84 = some ([.slice none 0 0, .slice none 0 0, .int .i64 0, .map none], [(0, 1), (1, 1), (2, 1), (3, 1)]) := by kernel_rfl
@[go_sem] theorem Try.pl_off84x0 : fOff Try.prog 84 0 = some (0, 1) := by kernel_rfl
@[go_sem] theorem Try.pl_part84x0 : fPart Try.prog 84 0 = some (0, none) := by kernel_rfl
@[go_sem] theorem Try.pl_off84x1 : fOff Try.prog 84 1 = some (1, 1) := by kernel_rfl
@[go_sem] theorem Try.pl_part84x1 : fPart Try.prog 84 1 = some (1, none) := by kernel_rfl
@[go_sem] theorem Try.pl_off84x2 : fOff Try.prog 84 2 = some (2, 1) := by kernel_rfl
@[go_sem] theorem Try.pl_part84x2 : fPart Try.prog 84 2 = some (2, none) := by kernel_rfl
@[go_sem] theorem Try.pl_off84x3 : fOff Try.prog 84 3 = some (3, 1) := by kernel_rfl
@[go_sem] theorem Try.pl_part84x3 : fPart Try.prog 84 3 = some (3, none) := by kernel_rfl
@[go_sem] theorem Try.pl_agg95 : aggN Try.prog 95 = some (some 4) := by kernel_rfl
@[go_sem] theorem Try.pl_sz95 : szOf Try.prog 95 = some 4 := by kernel_rfl
@[go_sem] theorem Try.pl_zero95 : zeroCs Try.prog 95 = some [.int .i64 0, .int .i64 0, .int .i64 0, .int .i64 0] := by kernel_rfl
@[go_sem] theorem Try.pl_str95 : structP Try.prog 95 = some ([.int .i64 0, .int .i64 0, .int .i64 0, .int .i64 0], [(0, 1), (1, 1), (2, 1), (3, 1)]) := by kernel_rfl
@[go_sem] theorem Try.pl_off95x0 : fOff Try.prog 95 0 = some (0, 1) := by kernel_rfl
@[go_sem] theorem Try.pl_part95x0 : fPart Try.prog 95 0 = some (0, none) := by kernel_rfl
@[go_sem] theorem Try.pl_off95x1 : fOff Try.prog 95 1 = some (1, 1) := by kernel_rfl
@[go_sem] theorem Try.pl_part95x1 : fPart Try.prog 95 1 = some (1, none) := by kernel_rfl
@[go_sem] theorem Try.pl_off95x2 : fOff Try.prog 95 2 = some (2, 1) := by kernel_rfl
@[go_sem] theorem Try.pl_part95x2 : fPart Try.prog 95 2 = some (2, none) := by kernel_rfl
@[go_sem] theorem Try.pl_off95x3 : fOff Try.prog 95 3 = some (3, 1) := by kernel_rfl
@[go_sem] theorem Try.pl_part95x3 : fPart Try.prog 95 3 = some (3, none) := by kernel_rfl
@[go_sem] theorem Try.pl_agg96 : aggN Try.prog 96 = some (some 4) := by kernel_rfl
@[go_sem] theorem Try.pl_sz96 : szOf Try.prog 96 = some 4 := by kernel_rfl
@[go_sem] theorem Try.pl_zero96 : zeroCs Try.prog 96 = some [.int .i64 0, .int .i64 0, .int .i64 0, .int .i64 0] := by kernel_rfl
@[go_sem] theorem Try.pl_str96 : structP Try.prog 96 = some ([.int .i64 0, .int .i64 0, .int .i64 0, .int .i64 0], [(0, 1), (1, 1), (2, 1), (3, 1)]) := by kernel_rfl
@[go_sem] theorem Try.pl_off96x0 : fOff Try.prog 96 0 = some (0, 1) := by kernel_rfl
@[go_sem] theorem Try.pl_part96x0 : fPart Try.prog 96 0 = some (0, none) := by kernel_rfl
@[go_sem] theorem Try.pl_off96x1 : fOff Try.prog 96 1 = some (1, 1) := by kernel_rfl
@[go_sem] theorem Try.pl_part96x1 : fPart Try.prog 96 1 = some (1, none) := by kernel_rfl
@[go_sem] theorem Try.pl_off96x2 : fOff Try.prog 96 2 = some (2, 1) := by kernel_rfl
@[go_sem] theorem Try.pl_part96x2 : fPart Try.prog 96 2 = some (2, none) := by kernel_rfl
@[go_sem] theorem Try.pl_off96x3 : fOff Try.prog 96 3 = some (3, 1) := by kernel_rfl
@[go_sem] theorem Try.pl_part96x3 : fPart Try.prog 96 3 = some (3, none) := by kernel_rfl
@[go_sem] theorem Try.pl_agg101 : aggN Try.prog 101 = some (some 4) := by kernel_rfl
@[go_sem] theorem Try.pl_sz101 : szOf Try.prog 101 = some 4 := by kernel_rfl
@[go_sem] theorem Try.pl_zero101 : zeroCs Try.prog 101 = some [.int .i64 0, .int .i64 0, .int .i64 0, .int .i64 0] := by kernel_rfl
@[go_sem] theorem Try.pl_str101 : structP Try.prog 101 = some ([.int .i64 0, .int .i64 0, .int .i64 0, .int .i64 0], [(0, 1), (1, 1), (2, 1), (3, 1)]) := by kernel_rfl
@[go_sem] theorem Try.pl_off101x0 : fOff Try.prog 101 0 = some (0, 1) := by kernel_rfl
@[go_sem] theorem Try.pl_part101x0 : fPart Try.prog 101 0 = some (0, none) := by kernel_rfl
@[go_sem] theorem Try.pl_off101x1 : fOff Try.prog 101 1 = some (1, 1) := by kernel_rfl
@[go_sem] theorem Try.pl_part101x1 : fPart Try.prog 101 1 = some (1, none) := by kernel_rfl
@[go_sem] theorem Try.pl_off101x2 : fOff Try.prog 101 2 = some (2, 1) := by kernel_rfl
@[go_sem] theorem Try.pl_part101x2 : fPart Try.prog 101 2 = some (2, none) := by kernel_rfl
@[go_sem] theorem Try.pl_off101x3 : fOff Try.prog 101 3 = some (3, 1) := by kernel_rfl
@[go_sem] theorem Try.pl_part101x3 : fPart Try.prog 101 3 = some (3, none) := by kernel_rfl
@[go_sem] theorem Try.pl_agg130 : aggN Try.prog 130 = some (some 3) := by kernel_rfl
@[go_sem] theorem Try.pl_sz130 : szOf Try.prog 130 = some 3 := by kernel_rfl
@[go_sem] theorem Try.pl_zero130 : zeroCs Try.prog 130 = some [.slice none 0 0, .int .i64 0, .int .i64 0] := by kernel_rfl
@[go_sem] theorem Try.pl_str130 : structP Try.prog 130 = some ([.slice none 0 0, .int .i64 0, .int .i64 0], [(0, 1), (1, 1), (2, 1)]) := by kernel_rfl
@[go_sem] theorem Try.pl_off130x0 : fOff Try.prog 130 0 = some (0, 1) := by kernel_rfl
@[go_sem] theorem Try.pl_part130x0 : fPart Try.prog 130 0 = some (0, none) := by kernel_rfl
@[go_sem] theorem Try.pl_off130x1 : fOff Try.prog 130 1 = some (1, 1) := by kernel_rfl
@[go_sem] theorem Try.pl_part130x1 : fPart Try.prog 130 1 = some (1, none) := by kernel_rfl
@[go_sem] theorem Try.pl_off130x2 : fOff Try.prog 130 2 = some (2, 1) := by kernel_rfl
@[go_sem] theorem Try.pl_part130x2 : fPart Try.prog 130 2 = some (2, none) := by kernel_rfl
@[go_sem] theorem Try.pl_agg131 : aggN Try.prog 131 = some (some 3) := by kernel_rfl
@[go_sem] theorem Try.pl_sz131 : szOf Try.prog 131 = some 3 := by kernel_rfl
@[go_sem] theorem Try.pl_zero131 : zeroCs Try.prog 131 = some [.slice none 0 0, .int .i64 0, .int .i64 0] := by kernel_rfl
@[go_sem] theorem Try.pl_str131 : structP Try.prog 131 = some ([.slice none 0 0, .int .i64 0, .int .i64 0], [(0, 1), (1, 1), (2, 1)]) := by kernel_rfl
@[go_sem] theorem Try.pl_off131x0 : fOff Try.prog 131 0 = some (0, 1) := by kernel_rfl
@[go_sem] theorem Try.pl_part131x0 : fPart Try.prog 131 0 = some (0, none) := by kernel_rfl
@[go_sem] theorem Try.pl_off131x1 : fOff Try.prog 131 1 = some (1, 1) := by kernel_rfl
@[go_sem] theorem Try.pl_part131x1 : fPart Try.prog 131 1 = some (1, none) := by kernel_rfl
@[go_sem] theorem Try.pl_off131x2 : fOff Try.prog 131 2 = some (2, 1) := by kernel_rfl
@[go_sem] theorem Try.pl_part131x2 : fPart Try.prog 131 2 = some (2, none) := by kernel_rfl
@[go_sem] theorem Try.pl_agg133 : aggN Try.prog 133 = some (some 2) := by kernel_rfl
@[go_sem] theorem Try.pl_sz133 : szOf Try.prog 133 = some 2 := by kernel_rfl
@[go_sem] theorem Try.pl_zero133 : zeroCs Try.prog 133 = some [.int .i64 0, .int .i64 0] := by kernel_rfl
@[go_sem] theorem Try.pl_agg137 : aggN Try.prog 137 = some (none) := by kernel_rfl
@[go_sem] theorem Try.pl_sz137 : szOf Try.prog 137 = some 1 := by kernel_rfl
@[go_sem] theorem Try.pl_zero137 : zeroCs Try.prog 137 = some [.int .u64 0] := by kernel_rfl
@[go_sem] theorem Try.pl_und137 : Try.prog.underlying 137 = some (.int .u64) := by kernel_rfl
@[go_sem] theorem Try.pl_agg139 : aggN Try.prog 139 = some (some 3) := by kernel_rfl
@[go_sem] theorem Try.pl_sz139 : szOf Try.prog 139 = some 3 := by kernel_rfl
@[go_sem] theorem Try.pl_zero139 : zeroCs Try.prog 139 = some [.int .i64 0, .int .i64 0, .int .i64 0] := by kernel_rfl
@[go_sem] theorem Try.pl_str139 : structP Try.prog 139 = some ([.int .i64 0, .int .i64 0, .int .i64 0], [(0, 1), (1, 1), (2, 1)]) := by kernel_rfl
@[go_sem] theorem Try.pl_off139x0 : fOff Try.prog 139 0 = some (0, 1) := by kernel_rfl
@[go_sem] theorem Try.pl_part139x0 : fPart Try.prog 139 0 = some (0, none) := by kernel_rfl
@[go_sem] theorem Try.pl_off139x1 : fOff Try.prog 139 1 = some (1, 1) := by kernel_rfl
@[go_sem] theorem Try.pl_part139x1 : fPart Try.prog 139 1 = some (1, none) := by kernel_rfl
@[go_sem] theorem Try.pl_off139x2 : fOff Try.prog 139 2 = some (2, 1) := by kernel_rfl
@[go_sem] theorem Try.pl_part139x2 : fPart Try.prog 139 2 = some (2, none) := by kernel_rfl
@[go_sem] theorem Try.pl_agg147 : aggN Try.prog 147 = some (none) := by kernel_rfl
@[go_sem] theorem Try.pl_sz147 : szOf Try.prog 147 = some 1 := by kernel_rfl
@[go_sem] theorem Try.pl_zero147 : zeroCs Try.prog 147 = some [.int .u32 0] := by kernel_rfl
@[go_sem] theorem Try.pl_und147 : Try.prog.underlying 147 = some (.int .u32) := by kernel_rfl
@[go_sem] theorem Try.pl_agg149 : aggN Try.prog 149 = some (none) := by kernel_rfl
@[go_sem] theorem Try.pl_sz149 : szOf Try.prog 149 = some 1 := by kernel_rfl
@[go_sem] theorem Try.pl_zero149 : zeroCs Try.prog 149 = some [.int .u64 0] := by kernel_rfl
@[go_sem] theorem Try.pl_und149 : Try.prog.underlying 149 = some (.int .u64) := by kernel_rfl
@[go_sem] theorem Try.pl_agg154 : aggN Try.prog 154 = some (some 4) := by kernel_rfl
@[go_sem] theorem Try.pl_sz154 : szOf Try.prog 154 = some 4 := by kernel_rfl
@[go_sem] theorem Try.pl_zero154 : zeroCs Try.prog 154 = some [.pointer none, .pointer none, .pointer none, .string .empty] := by kernel_rfl
@[go_sem] theorem Try.pl_str154 : structP Try.prog 154 = some ([.pointer none, .pointer none, .pointer none, .string .empty], [(0, 1), (1, 1), (2, 1), (3, 1)]) := by kernel_rfl
@[go_sem] theorem Try.pl_off154x0 : fOff Try.prog 154 0 = some (0, 1) := by kernel_rfl
@[go_sem] theorem Try.pl_part154x0 : fPart Try.prog 154 0 = some (0, none) := by kernel_rfl
@[go_sem] theorem Try.pl_off154x1 : fOff Try.prog 154 1 = some (1, 1) := by kernel_rfl
@[go_sem] theorem Try.pl_part154x1 : fPart Try.prog 154 1 = some (1, none) := by kernel_rfl
@[go_sem] theorem Try.pl_off154x2 : fOff Try.prog 154 2 = some (2, 1) := by kernel_rfl
@[go_sem] theorem Try.pl_part154x2 : fPart Try.prog 154 2 = some (2, none) := by kernel_rfl
@[go_sem] theorem Try.pl_off154x3 : fOff Try.prog 154 3 = some (3, 1) := by kernel_rfl
@[go_sem] theorem Try.pl_part154x3 : fPart Try.prog 154 3 = some (3, none) := by kernel_rfl
@[go_sem] theorem Try.pl_agg155 : aggN Try.prog 155 = some (some 4) := by kernel_rfl
@[go_sem] theorem Try.pl_sz155 : szOf Try.prog 155 = some 4 := by kernel_rfl
@[go_sem] theorem Try.pl_zero155 : zeroCs Try.prog 155 = some [.pointer none, .pointer none, .pointer none, .string .empty] := by kernel_rfl
@[go_sem] theorem Try.pl_str155 : structP Try.prog 155 = some ([.pointer none, .pointer none, .pointer none, .string .empty], [(0, 1), (1, 1), (2, 1), (3, 1)]) := by kernel_rfl
@[go_sem] theorem Try.pl_off155x0 : fOff Try.prog 155 0 = some (0, 1) := by kernel_rfl
@[go_sem] theorem Try.pl_part155x0 : fPart Try.prog 155 0 = some (0, none) := by kernel_rfl
@[go_sem] theorem Try.pl_off155x1 : fOff Try.prog 155 1 = some (1, 1) := by kernel_rfl
@[go_sem] theorem Try.pl_part155x1 : fPart Try.prog 155 1 = some (1, none) := by kernel_rfl
@[go_sem] theorem Try.pl_off155x2 : fOff Try.prog 155 2 = some (2, 1) := by kernel_rfl
@[go_sem] theorem Try.pl_part155x2 : fPart Try.prog 155 2 = some (2, none) := by kernel_rfl
@[go_sem] theorem Try.pl_off155x3 : fOff Try.prog 155 3 = some (3, 1) := by kernel_rfl
@[go_sem] theorem Try.pl_part155x3 : fPart Try.prog 155 3 = some (3, none) := by kernel_rfl
@[go_sem] theorem Try.pl_agg156 : aggN Try.prog 156 = some (some 0) := by kernel_rfl
@[go_sem] theorem Try.pl_sz156 : szOf Try.prog 156 = some 0 := by kernel_rfl
@[go_sem] theorem Try.pl_zero156 : zeroCs Try.prog 156 = some [] := by kernel_rfl
@[go_sem] theorem Try.pl_agg157 : aggN Try.prog 157 = some (some 0) := by kernel_rfl
@[go_sem] theorem Try.pl_sz157 : szOf Try.prog 157 = some 0 := by kernel_rfl
@[go_sem] theorem Try.pl_zero157 : zeroCs Try.prog 157 = some [] := by kernel_rfl
@[go_sem] theorem Try.pl_str157 : structP Try.prog 157 = some ([], [(0, 0)]) := by kernel_rfl
@[go_sem] theorem Try.pl_off157x0 : fOff Try.prog 157 0 = some (0, 0) := by kernel_rfl
@[go_sem] theorem Try.pl_part157x0 : fPart Try.prog 157 0 = some (0, some 0) := by kernel_rfl
@[go_sem] theorem Try.pl_agg158 : aggN Try.prog 158 = some (some 0) := by kernel_rfl
@[go_sem] theorem Try.pl_sz158 : szOf Try.prog 158 = some 0 := by kernel_rfl
@[go_sem] theorem Try.pl_zero158 : zeroCs Try.prog 158 = some [] := by kernel_rfl
@[go_sem] theorem Try.pl_str158 : structP Try.prog 158 = some ([], [(0, 0)]) := by kernel_rfl
@[go_sem] theorem Try.pl_off158x0 : fOff Try.prog 158 0 = some (0, 0) := by kernel_rfl
@[go_sem] theorem Try.pl_part158x0 : fPart Try.prog 158 0 = some (0, some 0) := by kernel_rfl
@[go_sem] theorem Try.pl_agg160 : aggN Try.prog 160 = some (none) := by kernel_rfl
@[go_sem] theorem Try.pl_sz160 : szOf Try.prog 160 = some 1 := by kernel_rfl
@[go_sem] theorem Try.pl_zero160 : zeroCs Try.prog 160 = some [.int .u8 0] := by kernel_rfl
@[go_sem] theorem Try.pl_und160 : Try.prog.underlying 160 = some (.int .u8) := by kernel_rfl
@[go_sem] theorem Try.pl_agg161 : aggN Try.prog 161 = some (none) := by kernel_rfl
@[go_sem] theorem Try.pl_sz161 : szOf Try.prog 161 = some 1 := by kernel_rfl
@[go_sem] theorem Try.pl_zero161 : zeroCs Try.prog 161 = some [.int .u8 0] := by kernel_rfl
@[go_sem] theorem Try.pl_und161 : Try.prog.underlying 161 = some (.int .u8) := by kernel_rfl
@[go_sem] theorem Try.pl_agg163 : aggN Try.prog 163 = some (none) := by kernel_rfl
@[go_sem] theorem Try.pl_sz163 : szOf Try.prog 163 = some 1 := by kernel_rfl
@[go_sem] theorem Try.pl_zero163 : zeroCs Try.prog 163 = some [.pointer none] := by kernel_rfl
@[go_sem] theorem Try.pl_agg164 : aggN Try.prog 164 = some (none) := by kernel_rfl
@[go_sem] theorem Try.pl_sz164 : szOf Try.prog 164 = some 1 := by kernel_rfl
@[go_sem] theorem Try.pl_zero164 : zeroCs Try.prog 164 = some [.int .i32 0] := by kernel_rfl
@[go_sem] theorem Try.pl_und164 : Try.prog.underlying 164 = some (.int .i32) := by kernel_rfl
@[go_sem] theorem Try.pl_agg165 : aggN Try.prog 165 = some (none) := by kernel_rfl
@[go_sem] theorem Try.pl_sz165 : szOf Try.prog 165 = some 1 := by kernel_rfl
@[go_sem] theorem Try.pl_zero165 : zeroCs Try.prog 165 = some [.int .i32 0] := by kernel_rfl
@[go_sem] theorem Try.pl_und165 : Try.prog.underlying 165 = some (.int .i32) := by kernel_rfl
@[go_sem] theorem Try.pl_agg166 : aggN Try.prog 166 = some (some 11) := by kernel_rfl
@[go_sem] theorem Try.pl_sz166 : szOf Try.prog 166 = some 11 := by kernel_rfl
@[go_sem] theorem Try.pl_off166x0 : fOff Try.prog 166 0 = some (0, 1) := by kernel_rfl
@[go_sem] theorem Try.pl_part166x0 : fPart Try.prog 166 0 = some (0, none) := by kernel_rfl
@[go_sem] theorem Try.pl_off166x1 : fOff Try.prog 166 1 = some (1, 1) := by kernel_rfl
@[go_sem] theorem Try.pl_part166x1 : fPart Try.prog 166 1 = some (1, none) := by kernel_rfl
@[go_sem] theorem Try.pl_off166x2 : fOff Try.prog 166 2 = some (2, 1) := by kernel_rfl
@[go_sem] theorem Try.pl_part166x2 : fPart Try.prog 166 2 = some (2, none) := by kernel_rfl
@[go_sem] theorem Try.pl_off166x3 : fOff Try.prog 166 3 = some (3, 1) := by kernel_rfl
@[go_sem] theorem Try.pl_part166x3 : fPart Try.prog 166 3 = some (3, none) := by kernel_rfl
@[go_sem] theorem Try.pl_off166x4 : fOff Try.prog 166 4 = some (4, 1) := by kernel_rfl
@[go_sem] theorem Try.pl_part166x4 : fPart Try.prog 166 4 = some (4, none) := by kernel_rfl
@[go_sem] theorem Try.pl_off166x5 : fOff Try.prog 166 5 = some (5, 1) := by kernel_rfl
@[go_sem] theorem Try.pl_part166x5 : fPart Try.prog 166 5 = some (5, none) := by kernel_rfl
@[go_sem] theorem Try.pl_off166x6 : fOff Try.prog 166 6 = some (6, 1) := by kernel_rfl
@[go_sem] theorem Try.pl_part166x6 : fPart Try.prog 166 6 = some (6, none) := by kernel_rfl
@[go_sem] theorem Try.pl_off166x7 : fOff Try.prog 166 7 = some (7, 1) := by kernel_rfl
@[go_sem] theorem Try.pl_part166x7 : fPart Try.prog 166 7 = some (7, none) := by kernel_rfl
@[go_sem] theorem Try.pl_off166x8 : fOff Try.prog 166 8 = some (8, 1) := by kernel_rfl
@[go_sem] theorem Try.pl_part166x8 : fPart Try.prog 166 8 = some (8, none) := by kernel_rfl
@[go_sem] theorem Try.pl_off166x9 : fOff Try.prog 166 9 = some (9, 1) := by kernel_rfl
@[go_sem] theorem Try.pl_part166x9 : fPart Try.prog 166 9 = some (9, none) := by kernel_rfl
@[go_sem] theorem Try.pl_off166x10 : fOff Try.prog 166 10 = some (10, 1) := by kernel_rfl
@[go_sem] theorem Try.pl_part166x10 : fPart Try.prog 166 10 = some (10, none) := by kernel_rfl
@[go_sem] theorem Try.pl_agg167 : aggN Try.prog 167 = some (some 11) := by kernel_rfl
@[go_sem] theorem Try.pl_sz167 : szOf Try.prog 167 = some 11 := by kernel_rfl
@[go_sem] theorem Try.pl_off167x0 : fOff Try.prog 167 0 = some (0, 1) := by kernel_rfl
@[go_sem] theorem Try.pl_part167x0 : fPart Try.prog 167 0 = some (0, none) := by kernel_rfl
@[go_sem] theorem Try.pl_off167x1 : fOff Try.prog 167 1 = some (1, 1) := by kernel_rfl
@[go_sem] theorem Try.pl_part167x1 : fPart Try.prog 167 1 = some (1, none) := by kernel_rfl
@[go_sem] theorem Try.pl_off167x2 : fOff Try.prog 167 2 = some (2, 1) := by kernel_rfl
@[go_sem] theorem Try.pl_part167x2 : fPart Try.prog 167 2 = some (2, none) := by kernel_rfl
@[go_sem] theorem Try.pl_off167x3 : fOff Try.prog 167 3 = some (3, 1) := by kernel_rfl
@[go_sem] theorem Try.pl_part167x3 : fPart Try.prog 167 3 = some (3, none) := by kernel_rfl
@[go_sem] theorem Try.pl_off167x4 : fOff Try.prog 167 4 = some (4, 1) := by kernel_rfl
@[go_sem] theorem Try.pl_part167x4 : fPart Try.prog 167 4 = some (4, none) := by kernel_rfl
@[go_sem] theorem Try.pl_off167x5 : fOff Try.prog 167 5 = some (5, 1) := by kernel_rfl
@[go_sem] theorem Try.pl_part167x5 : fPart Try.prog 167 5 = some (5, none) := by kernel_rfl
@[go_sem] theorem Try.pl_off167x6 : fOff Try.prog 167 6 = some (6, 1) := by kernel_rfl
@[go_sem] theorem Try.pl_part167x6 : fPart Try.prog 167 6 = some (6, none) := by kernel_rfl
@[go_sem] theorem Try.pl_off167x7 : fOff Try.prog 167 7 = some (7, 1) := by kernel_rfl
@[go_sem] theorem Try.pl_part167x7 : fPart Try.prog 167 7 = some (7, none) := by kernel_rfl
@[go_sem] theorem Try.pl_off167x8 : fOff Try.prog 167 8 = some (8, 1) := by kernel_rfl
@[go_sem] theorem Try.pl_part167x8 : fPart Try.prog 167 8 = some (8, none) := by kernel_rfl
@[go_sem] theorem Try.pl_off167x9 : fOff Try.prog 167 9 = some (9, 1) := by kernel_rfl
@[go_sem] theorem Try.pl_part167x9 : fPart Try.prog 167 9 = some (9, none) := by kernel_rfl
@[go_sem] theorem Try.pl_off167x10 : fOff Try.prog 167 10 = some (10, 1) := by kernel_rfl
@[go_sem] theorem Try.pl_part167x10 : fPart Try.prog 167 10 = some (10, none) := by kernel_rfl
@[go_sem] theorem Try.pl_rs0 : Try.f0.results.toList = [] := by kernel_rfl
@[go_sem] theorem Try.pl_rs1 : Try.f1.results.toList = [] := by kernel_rfl
@[go_sem] theorem Try.pl_rs2 : Try.f2.results.toList = [] := by kernel_rfl
@[go_sem] theorem Try.pl_rs3 : Try.f3.results.toList = [.tmp 2] := by kernel_rfl
@[go_sem] theorem Try.pl_rs4 : Try.f4.results.toList = [.tmp 2] := by kernel_rfl
@[go_sem] theorem Try.pl_rs5 : Try.f5.results.toList = [.tmp 4] := by kernel_rfl
@[go_sem] theorem Try.pl_rs6 : Try.f6.results.toList = [.tmp 6] := by kernel_rfl
@[go_sem] theorem Try.pl_rs7 : Try.f7.results.toList = [.tmp 2] := by kernel_rfl
@[go_sem] theorem Try.pl_rs8 : Try.f8.results.toList = [.tmp 6] := by kernel_rfl
@[go_sem] theorem Try.pl_rs9 : Try.f9.results.toList = [.tmp 6] := by kernel_rfl
@[go_sem] theorem Try.pl_rs10 : Try.f10.results.toList = [.tmp 4] := by kernel_rfl
@[go_sem] theorem Try.pl_rs11 : Try.f11.results.toList = [.tmp 4] := by kernel_rfl
@[go_sem] theorem Try.pl_rs12 : Try.f12.results.toList = [.tmp 2] := by kernel_rfl
@[go_sem] theorem Try.pl_rs13 : Try.f13.results.toList = [.tmp 2] := by kernel_rfl
@[go_sem] theorem Try.pl_rs14 : Try.f14.results.toList = [.tmp 2] := by kernel_rfl
@[go_sem] theorem Try.pl_rs15 : Try.f15.results.toList = [.cell 2 26] := by kernel_rfl
@[go_sem] theorem Try.pl_rs16 : Try.f16.results.toList = [.tmp 2] := by kernel_rfl
@[go_sem] theorem Try.pl_rs17 : Try.f17.results.toList = [.tmp 4] := by kernel_rfl
@[go_sem] theorem Try.pl_rs18 : Try.f18.results.toList = [.tmp 4] := by kernel_rfl
@[go_sem] theorem Try.pl_rs19 : Try.f19.results.toList = [.tmp 4] := by kernel_rfl
@[go_sem] theorem Try.pl_rs20 : Try.f20.results.toList = [.tmp 2] := by kernel_rfl
@[go_sem] theorem Try.pl_rs21 : Try.f21.results.toList = [.cell 2 26, .tmp 3, .tmp 4] := by kernel_rfl
@[go_sem] theorem Try.pl_rs22 : Try.f22.results.toList = [.tmp 6] := by kernel_rfl
@[go_sem] theorem Try.pl_rs23 : Try.f23.results.toList = [.tmp 6, .tmp 7] := by kernel_rfl
@[go_sem] theorem Try.pl_rs24 : Try.f24.results.toList = [.tmp 6, .tmp 7] := by kernel_rfl
@[go_sem] theorem Try.pl_rs25 : Try.f25.results.toList = [.tmp 2] := by kernel_rfl
@[go_sem] theorem Try.pl_rs26 : Try.f26.results.toList = [.tmp 2] := by kernel_rfl
@[go_sem] theorem Try.pl_rs27 : Try.f27.results.toList = [.tmp 2] := by kernel_rfl
@[go_sem] theorem Try.pl_rs28 : Try.f28.results.toList = [.tmp 8] := by kernel_rfl
@[go_sem] theorem Try.pl_rs29 : Try.f29.results.toList = [.tmp 2] := by kernel_rfl
@[go_sem] theorem Try.pl_rs30 : Try.f30.results.toList = [.tmp 6] := by kernel_rfl
@[go_sem] theorem Try.pl_rs31 : Try.f31.results.toList = [.tmp 4] := by kernel_rfl
@[go_sem] theorem Try.pl_rs32 : Try.f32.results.toList = [.tmp 4, .tmp 5] := by kernel_rfl
@[go_sem] theorem Try.pl_rs33 : Try.f33.results.toList = [.tmp 2] := by kernel_rfl
@[go_sem] theorem Try.pl_rs34 : Try.f34.results.toList = [.tmp 4, .tmp 5] := by kernel_rfl
@[go_sem] theorem Try.pl_rs35 : Try.f35.results.toList = [.tmp 4] := by kernel_rfl
@[go_sem] theorem Try.pl_rs36 : Try.f36.results.toList = [.tmp 4] := by kernel_rfl
@[go_sem] theorem Try.pl_rs37 : Try.f37.results.toList = [.tmp 4] := by kernel_rfl
@[go_sem] theorem Try.pl_rs38 : Try.f38.results.toList = [.tmp 6] := by kernel_rfl
@[go_sem] theorem Try.pl_rs39 : Try.f39.results.toList = [.tmp 6] := by kernel_rfl
@[go_sem] theorem Try.pl_rs40 : Try.f40.results.toList = [.tmp 2] := by kernel_rfl
@[go_sem] theorem Try.pl_rs41 : Try.f41.results.toList = [.tmp 2] := by kernel_rfl
@[go_sem] theorem Try.pl_rs42 : Try.f42.results.toList = [.tmp 6] := by kernel_rfl
@[go_sem] theorem Try.pl_rs43 : Try.f43.results.toList = [.tmp 6, .tmp 7] := by kernel_rfl
@[go_sem] theorem Try.pl_rs44 : Try.f44.results.toList = [.tmp 6, .tmp 7] := by kernel_rfl
@[go_sem] theorem Try.pl_rs45 : Try.f45.results.toList = [.tmp 4] := by kernel_rfl
@[go_sem] theorem Try.pl_rs46 : Try.f46.results.toList = [.tmp 4] := by kernel_rfl
@[go_sem] theorem Try.pl_rs47 : Try.f47.results.toList = [.tmp 4] := by kernel_rfl
@[go_sem] theorem Try.pl_rs48 : Try.f48.results.toList = [.tmp 4] := by kernel_rfl
@[go_sem] theorem Try.pl_rs49 : Try.f49.results.toList = [.tmp 4] := by kernel_rfl
@[go_sem] theorem Try.pl_rs50 : Try.f50.results.toList = [.tmp 2] := by kernel_rfl
@[go_sem] theorem Try.pl_rs51 : Try.f51.results.toList = [.cell 2 71] := by kernel_rfl
@[go_sem] theorem Try.pl_rs52 : Try.f52.results.toList = [.tmp 2] := by kernel_rfl
@[go_sem] theorem Try.pl_rs53 : Try.f53.results.toList = [.tmp 4] := by kernel_rfl
@[go_sem] theorem Try.pl_rs54 : Try.f54.results.toList = [.tmp 2] := by kernel_rfl
@[go_sem] theorem Try.pl_rs55 : Try.f55.results.toList = [.tmp 2] := by kernel_rfl
@[go_sem] theorem Try.pl_rs56 : Try.f56.results.toList = [.tmp 2] := by kernel_rfl
@[go_sem] theorem Try.pl_rs57 : Try.f57.results.toList = [.tmp 4] := by kernel_rfl
@[go_sem] theorem Try.pl_rs58 : Try.f58.results.toList = [.tmp 2] := by kernel_rfl
@[go_sem] theorem Try.pl_rs59 : Try.f59.results.toList = [.tmp 4] := by kernel_rfl
@[go_sem] theorem Try.pl_rs60 : Try.f60.results.toList = [.cell 2 26, .tmp 3, .tmp 4] := by kernel_rfl
@[go_sem] theorem Try.pl_rs61 : Try.f61.results.toList = [.tmp 2] := by kernel_rfl
@[go_sem] theorem Try.pl_rs62 : Try.f62.results.toList = [.cell 4 84] := by kernel_rfl
@[go_sem] theorem Try.pl_rs63 : Try.f63.results.toList = [.tmp 4] := by kernel_rfl
@[go_sem] theorem Try.pl_rs64 : Try.f64.results.toList = [.tmp 6] := by kernel_rfl
@[go_sem] theorem Try.pl_rs65 : Try.f65.results.toList = [.tmp 8] := by kernel_rfl
@[go_sem] theorem Try.pl_rs66 : Try.f66.results.toList = [.tmp 4, .tmp 5] := by kernel_rfl
@[go_sem] theorem Try.pl_rs67 : Try.f67.results.toList = [.tmp 6] := by kernel_rfl
@[go_sem] theorem Try.pl_rs68 : Try.f68.results.toList = [.tmp 4] := by kernel_rfl
@[go_sem] theorem Try.pl_rs69 : Try.f69.results.toList = [.tmp 4] := by kernel_rfl
@[go_sem] theorem Try.pl_rs70 : Try.f70.results.toList = [.tmp 2] := by kernel_rfl
@[go_sem] theorem Try.pl_rs71 : Try.f71.results.toList = [.tmp 6, .tmp 7] := by kernel_rfl
@[go_sem] theorem Try.pl_rs72 : Try.f72.results.toList = [.tmp 4] := by kernel_rfl
@[go_sem] theorem Try.pl_rs73 : Try.f73.results.toList = [.tmp 2] := by kernel_rfl
@[go_sem] theorem Try.pl_rs74 : Try.f74.results.toList = [.cell 4 96, .tmp 5] := by kernel_rfl
@[go_sem] theorem Try.pl_rs75 : Try.f75.results.toList = [.tmp 4, .tmp 5] := by kernel_rfl
@[go_sem] theorem Try.pl_rs76 : Try.f76.results.toList = [.cell 2 96] := by kernel_rfl
@[go_sem] theorem Try.pl_rs77 : Try.f77.results.toList = [.tmp 2] := by kernel_rfl
@[go_sem] theorem Try.pl_rs78 : Try.f78.results.toList = [.tmp 2] := by kernel_rfl
@[go_sem] theorem Try.pl_rs79 : Try.f79.results.toList = [.tmp 4, .tmp 5] := by kernel_rfl
@[go_sem] theorem Try.pl_rs80 : Try.f80.results.toList = [.tmp 4] := by kernel_rfl
@[go_sem] theorem Try.pl_rs81 : Try.f81.results.toList = [.tmp 6] := by kernel_rfl
@[go_sem] theorem Try.pl_rs82 : Try.f82.results.toList = [.tmp 6] := by kernel_rfl
@[go_sem] theorem Try.pl_rs83 : Try.f83.results.toList = [.tmp 6] := by kernel_rfl
@[go_sem] theorem Try.pl_rs84 : Try.f84.results.toList = [.tmp 4] := by kernel_rfl
@[go_sem] theorem Try.pl_rs85 : Try.f85.results.toList = [.tmp 4] := by kernel_rfl
@[go_sem] theorem Try.pl_rs86 : Try.f86.results.toList = [.tmp 4] := by kernel_rfl
@[go_sem] theorem Try.pl_rs87 : Try.f87.results.toList = [.tmp 4] := by kernel_rfl
@[go_sem] theorem Try.pl_rs88 : Try.f88.results.toList = [.tmp 4] := by kernel_rfl
@[go_sem] theorem Try.pl_rs89 : Try.f89.results.toList = [.tmp 4] := by kernel_rfl
@[go_sem] theorem Try.pl_rs90 : Try.f90.results.toList = [.tmp 6] := by kernel_rfl
@[go_sem] theorem Try.pl_rs91 : Try.f91.results.toList = [.tmp 4] := by kernel_rfl
@[go_sem] theorem Try.pl_rs92 : Try.f92.results.toList = [.tmp 4] := by kernel_rfl
@[go_sem] theorem Try.pl_rs93 : Try.f93.results.toList = [.tmp 4] := by kernel_rfl
@[go_sem] theorem Try.pl_rs94 : Try.f94.results.toList = [.tmp 2] := by kernel_rfl
@[go_sem] theorem Try.pl_rs95 : Try.f95.results.toList = [.tmp 2] := by kernel_rfl
@[go_sem] theorem Try.pl_rs96 : Try.f96.results.toList = [.tmp 2] := by kernel_rfl
@[go_sem] theorem Try.pl_rs97 : Try.f97.results.toList = [.tmp 2] := by kernel_rfl
@[go_sem] theorem Try.pl_rs98 : Try.f98.results.toList = [.tmp 2] := by kernel_rfl
@[go_sem] theorem Try.pl_rs99 : Try.f99.results.toList = [.tmp 2] := by kernel_rfl
@[go_sem] theorem Try.pl_rs100 : Try.f100.results.toList = [.tmp 2] := by kernel_rfl
@[go_sem] theorem Try.pl_rs101 : Try.f101.results.toList = [.tmp 4] := by kernel_rfl
@[go_sem] theorem Try.pl_rs102 : Try.f102.results.toList = [.tmp 2] := by kernel_rfl
@[go_sem] theorem Try.pl_rs103 : Try.f103.results.toList = [.tmp 6] := by kernel_rfl
@[go_sem] theorem Try.pl_rs104 : Try.f104.results.toList = [.cell 2 69] := by kernel_rfl
@[go_sem] theorem Try.pl_rs105 : Try.f105.results.toList = [.tmp 2] := by kernel_rfl
@[go_sem] theorem Try.pl_rs106 : Try.f106.results.toList = [.tmp 2] := by kernel_rfl
@[go_sem] theorem Try.pl_rs107 : Try.f107.results.toList = [.tmp 6] := by kernel_rfl
@[go_sem] theorem Try.pl_rs108 : Try.f108.results.toList = [.tmp 6, .tmp 7] := by kernel_rfl
@[go_sem] theorem Try.pl_rs109 : Try.f109.results.toList = [.tmp 4] := by kernel_rfl
@[go_sem] theorem Try.pl_rs110 : Try.f110.results.toList = [.tmp 4] := by kernel_rfl
@[go_sem] theorem Try.pl_rs111 : Try.f111.results.toList = [.tmp 2] := by kernel_rfl
@[go_sem] theorem Try.pl_rs112 : Try.f112.results.toList = [.tmp 2] := by kernel_rfl
@[go_sem] theorem Try.pl_rs113 : Try.f113.results.toList = [.tmp 4] := by kernel_rfl
@[go_sem] theorem Try.pl_rs114 : Try.f114.results.toList = [.tmp 4] := by kernel_rfl
@[go_sem] theorem Try.pl_rs115 : Try.f115.results.toList = [.tmp 2] := by kernel_rfl
@[go_sem] theorem Try.pl_rs116 : Try.f116.results.toList = [.tmp 4] := by kernel_rfl
@[go_sem] theorem Try.pl_rs117 : Try.f117.results.toList = [.tmp 4] := by kernel_rfl
@[go_sem] theorem Try.pl_rs118 : Try.f118.results.toList = [.cell 2 26, .tmp 3] := by kernel_rfl
@[go_sem] theorem Try.pl_rs119 : Try.f119.results.toList = [.cell 4 26] := by kernel_rfl
@[go_sem] theorem Try.pl_rs120 : Try.f120.results.toList = [.tmp 4] := by kernel_rfl
@[go_sem] theorem Try.pl_rs121 : Try.f121.results.toList = [.tmp 8] := by kernel_rfl
@[go_sem] theorem Try.pl_rs122 : Try.f122.results.toList = [.tmp 4] := by kernel_rfl
@[go_sem] theorem Try.pl_rs123 : Try.f123.results.toList = [.tmp 4] := by kernel_rfl
@[go_sem] theorem Try.pl_rs124 : Try.f124.results.toList = [.tmp 4] := by kernel_rfl
@[go_sem] theorem Try.pl_rs125 : Try.f125.results.toList = [.tmp 2] := by kernel_rfl
@[go_sem] theorem Try.pl_rs126 : Try.f126.results.toList = [.tmp 6] := by kernel_rfl
@[go_sem] theorem Try.pl_rs127 : Try.f127.results.toList = [.tmp 2] := by kernel_rfl
@[go_sem] theorem Try.pl_rs128 : Try.f128.results.toList = [.tmp 6, .tmp 7] := by kernel_rfl
@[go_sem] theorem Try.pl_rs129 : Try.f129.results.toList = [.tmp 4, .tmp 5] := by kernel_rfl
@[go_sem] theorem Try.pl_rs130 : Try.f130.results.toList = [.tmp 2] := by kernel_rfl
@[go_sem] theorem Try.pl_rs131 : Try.f131.results.toList = [.tmp 6] := by kernel_rfl
@[go_sem] theorem Try.pl_rs132 : Try.f132.results.toList = [.cell 2 42] := by kernel_rfl
@[go_sem] theorem Try.pl_rs133 : Try.f133.results.toList = [.tmp 6, .tmp 7] := by kernel_rfl
@[go_sem] theorem Try.pl_rs134 : Try.f134.results.toList = [.tmp 4] := by kernel_rfl
@[go_sem] theorem Try.pl_rs135 : Try.f135.results.toList = [.tmp 4] := by kernel_rfl
@[go_sem] theorem Try.pl_rs136 : Try.f136.results.toList = [.tmp 4] := by kernel_rfl
@[go_sem] theorem Try.pl_rs137 : Try.f137.results.toList = [.cell 2 26] := by kernel_rfl
@[go_sem] theorem Try.pl_rs138 : Try.f138.results.toList = [.tmp 2] := by kernel_rfl
@[go_sem] theorem Try.pl_rs139 : Try.f139.results.toList = [.tmp 6] := by kernel_rfl
@[go_sem] theorem Try.pl_rs140 : Try.f140.results.toList = [.tmp 6] := by kernel_rfl
@[go_sem] theorem Try.pl_rs141 : Try.f141.results.toList = [.tmp 6] := by kernel_rfl
@[go_sem] theorem Try.pl_rs142 : Try.f142.results.toList = [.tmp 2] := by kernel_rfl
@[go_sem] theorem Try.pl_rs143 : Try.f143.results.toList = [.tmp 2] := by kernel_rfl
@[go_sem] theorem Try.pl_rs144 : Try.f144.results.toList = [.tmp 4] := by kernel_rfl
@[go_sem] theorem Try.pl_rs145 : Try.f145.results.toList = [.tmp 4] := by kernel_rfl
@[go_sem] theorem Try.pl_rs146 : Try.f146.results.toList = [.cell 6 42, .tmp 7] := by kernel_rfl
@[go_sem] theorem Try.pl_rs147 : Try.f147.results.toList = [.cell 6 42, .tmp 7] := by kernel_rfl
@[go_sem] theorem Try.pl_rs148 : Try.f148.results.toList = [] := by kernel_rfl
@[go_sem] theorem Try.pl_rs149 : Try.f149.results.toList = [] := by kernel_rfl
@[go_sem] theorem Try.pl_rs150 : Try.f150.results.toList = [] := by kernel_rfl
@[go_sem] theorem Try.pl_rs151 : Try.f151.results.toList = [] := by kernel_rfl
@[go_sem] theorem Try.pl_rs152 : Try.f152.results.toList = [] := by kernel_rfl
@[go_sem] theorem Try.pl_rs153 : Try.f153.results.toList = [] := by kernel_rfl
@[go_sem] theorem Try.pl_rs154 : Try.f154.results.toList = [] := by kernel_rfl
@[go_sem] theorem Try.pl_rs155 : Try.f155.results.toList = [] := by kernel_rfl
@[go_sem] theorem Try.pl_rs156 : Try.f156.results.toList = [] := by kernel_rfl
@[go_sem] theorem Try.pl_rs157 : Try.f157.results.toList = [] := by kernel_rfl
@[go_sem] theorem Try.pl_rs158 : Try.f158.results.toList = [] := by kernel_rfl
@[go_sem] theorem Try.pl_rs159 : Try.f159.results.toList = [] := by kernel_rfl
@[go_sem] theorem Try.pl_rs160 : Try.f160.results.toList = [] := by kernel_rfl
@[go_sem] theorem Try.pl_rs161 : Try.f161.results.toList = [] := by kernel_rfl
@[go_sem] theorem Try.pl_rs162 : Try.f162.results.toList = [] := by kernel_rfl
@[go_sem] theorem Try.pl_rs163 : Try.f163.results.toList = [] := by kernel_rfl
theorem Try.pl_follows : Try.prog.follows .mixedOrders = true := by kernel_rfl
end Go.Proofs
