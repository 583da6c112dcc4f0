/-
  Facts on the types of this translation: cells, places, zero values. Printed by a program.
-/
import Derived.Test.YtncdcgaaeclhiaaRows
import Derived.Test.YtncdcgaaeclhiaaEf
import Derived.KernelRfl
namespace Go.Proofs
open Go.PL
@[go_sem] theorem Try.pl_agg2 : aggN Try.prog 2 = some (none) := by kernel_rfl
@[go_sem] theorem Try.pl_sz2 : szOf Try.prog 2 = some 1 := by kernel_rfl
@[go_sem] theorem Try.pl_zero2 : zeroCs Try.prog 2 = some [.int .i64 0] := by kernel_rfl
@[go_sem] theorem Try.pl_und2 : Try.prog.underlying 2 = some (.int .i64) := by kernel_rfl
@[go_sem] theorem Try.pl_agg3 : aggN Try.prog 3 = some (none) := by kernel_rfl
@[go_sem] theorem Try.pl_sz3 : szOf Try.prog 3 = some 1 := by kernel_rfl
@[go_sem] theorem Try.pl_zero3 : zeroCs Try.prog 3 = some [.int .i64 0] := by kernel_rfl
@[go_sem] theorem Try.pl_und3 : Try.prog.underlying 3 = some (.int .i64) := by kernel_rfl
@[go_sem] theorem Try.pl_agg4 : aggN Try.prog 4 = some (none) := by kernel_rfl
@[go_sem] theorem Try.pl_sz4 : szOf Try.prog 4 = some 1 := by kernel_rfl
@[go_sem] theorem Try.pl_zero4 : zeroCs Try.prog 4 = some [.bool false] := by kernel_rfl
@[go_sem] theorem Try.pl_und4 : Try.prog.underlying 4 = some .bool := by kernel_rfl
@[go_sem] theorem Try.pl_agg5 : aggN Try.prog 5 = some (none) := by kernel_rfl
@[go_sem] theorem Try.pl_sz5 : szOf Try.prog 5 = some 1 := by kernel_rfl
@[go_sem] theorem Try.pl_zero5 : zeroCs Try.prog 5 = some [.int .u8 0] := by kernel_rfl
@[go_sem] theorem Try.pl_und5 : Try.prog.underlying 5 = some (.int .u8) := by kernel_rfl
@[go_sem] theorem Try.pl_agg6 : aggN Try.prog 6 = some (none) := by kernel_rfl
@[go_sem] theorem Try.pl_sz6 : szOf Try.prog 6 = some 1 := by kernel_rfl
@[go_sem] theorem Try.pl_zero6 : zeroCs Try.prog 6 = some [.int .u8 0] := by kernel_rfl
@[go_sem] theorem Try.pl_und6 : Try.prog.underlying 6 = some (.int .u8) := by kernel_rfl
@[go_sem] theorem Try.pl_agg7 : aggN Try.prog 7 = some (some 4) := by kernel_rfl
@[go_sem] theorem Try.pl_sz7 : szOf Try.prog 7 = some 4 := by kernel_rfl
@[go_sem] theorem Try.pl_zero7 : zeroCs Try.prog 7 = some [.int .i64 0, .int .i64 0, .bool false, .int .u8 0] := by kernel_rfl
@[go_sem] theorem Try.pl_str7 : structP Try.prog 7 = some ([.int .i64 0, .int .i64 0, .bool false, .int .u8 0], [(0, 1), (1, 1), (2, 1), (3, 1)]) := by kernel_rfl
@[go_sem] theorem Try.pl_off7x0 : fOff Try.prog 7 0 = some (0, 1) := by kernel_rfl
@[go_sem] theorem Try.pl_part7x0 : fPart Try.prog 7 0 = some (0, none) := by kernel_rfl
@[go_sem] theorem Try.pl_off7x1 : fOff Try.prog 7 1 = some (1, 1) := by kernel_rfl
@[go_sem] theorem Try.pl_part7x1 : fPart Try.prog 7 1 = some (1, none) := by kernel_rfl
@[go_sem] theorem Try.pl_off7x2 : fOff Try.prog 7 2 = some (2, 1) := by kernel_rfl
@[go_sem] theorem Try.pl_part7x2 : fPart Try.prog 7 2 = some (2, none) := by kernel_rfl
@[go_sem] theorem Try.pl_off7x3 : fOff Try.prog 7 3 = some (3, 1) := by kernel_rfl
@[go_sem] theorem Try.pl_part7x3 : fPart Try.prog 7 3 = some (3, none) := by kernel_rfl
@[go_sem] theorem Try.pl_agg8 : aggN Try.prog 8 = some (some 4) := by kernel_rfl
@[go_sem] theorem Try.pl_sz8 : szOf Try.prog 8 = some 4 := by kernel_rfl
@[go_sem] theorem Try.pl_zero8 : zeroCs Try.prog 8 = some [.int .i64 0, .int .i64 0, .bool false, .int .u8 0] := by kernel_rfl
@[go_sem] theorem Try.pl_str8 : structP Try.prog 8 = some ([.int .i64 0, .int .i64 0, .bool false, .int .u8 0], [(0, 1), (1, 1), (2, 1), (3, 1)]) := by kernel_rfl
@[go_sem] theorem Try.pl_off8x0 : fOff Try.prog 8 0 = some (0, 1) := by kernel_rfl
@[go_sem] theorem Try.pl_part8x0 : fPart Try.prog 8 0 = some (0, none) := by kernel_rfl
@[go_sem] theorem Try.pl_off8x1 : fOff Try.prog 8 1 = some (1, 1) := by kernel_rfl
@[go_sem] theorem Try.pl_part8x1 : fPart Try.prog 8 1 = some (1, none) := by kernel_rfl
@[go_sem] theorem Try.pl_off8x2 : fOff Try.prog 8 2 = some (2, 1) := by kernel_rfl
@[go_sem] theorem Try.pl_part8x2 : fPart Try.prog 8 2 = some (2, none) := by kernel_rfl
@[go_sem] theorem Try.pl_off8x3 : fOff Try.prog 8 3 = some (3, 1) := by kernel_rfl
@[go_sem] theorem Try.pl_part8x3 : fPart Try.prog 8 3 = some (3, none) := by kernel_rfl
@[go_sem] theorem Try.pl_agg9 : aggN Try.prog 9 = some (none) := by kernel_rfl
@[go_sem] theorem Try.pl_sz9 : szOf Try.prog 9 = some 1 := by kernel_rfl
@[go_sem] theorem Try.pl_zero9 : zeroCs Try.prog 9 = some [.string .empty] := by kernel_rfl
@[go_sem] theorem Try.pl_und9 : Try.prog.underlying 9 = some .string := by kernel_rfl
@[go_sem] theorem Try.pl_agg10 : aggN Try.prog 10 = some (none) := by kernel_rfl
@[go_sem] theorem Try.pl_sz10 : szOf Try.prog 10 = some 1 := by kernel_rfl
@[go_sem] theorem Try.pl_zero10 : zeroCs Try.prog 10 = some [.string .empty] := by kernel_rfl
@[go_sem] theorem Try.pl_und10 : Try.prog.underlying 10 = some .string := by kernel_rfl
@[go_sem] theorem Try.pl_agg11 : aggN Try.prog 11 = some (none) := by kernel_rfl
@[go_sem] theorem Try.pl_sz11 : szOf Try.prog 11 = some 1 := by kernel_rfl
@[go_sem] theorem Try.pl_zero11 : zeroCs Try.prog 11 = some [.string .empty] := by kernel_rfl
@[go_sem] theorem Try.pl_und11 : Try.prog.underlying 11 = some .string := by kernel_rfl
@[go_sem] theorem Try.pl_agg12 : aggN Try.prog 12 = some (none) := by kernel_rfl
@[go_sem] theorem Try.pl_sz12 : szOf Try.prog 12 = some 1 := by kernel_rfl
@[go_sem] theorem Try.pl_zero12 : zeroCs Try.prog 12 = some [.int .u64 0] := by kernel_rfl
@[go_sem] theorem Try.pl_und12 : Try.prog.underlying 12 = some (.int .u64) := by kernel_rfl
@[go_sem] theorem Try.pl_agg13 : aggN Try.prog 13 = some (some 2) := by kernel_rfl
@[go_sem] theorem Try.pl_sz13 : szOf Try.prog 13 = some 2 := by kernel_rfl
@[go_sem] theorem Try.pl_zero13 : zeroCs Try.prog 13 = some [.string .empty, .int .u64 0] := by kernel_rfl
@[go_sem] theorem Try.pl_str13 : structP Try.prog 13 = some ([.string .empty, .int .u64 0], [(0, 1), (1, 1)]) := by kernel_rfl
@[go_sem] theorem Try.pl_off13x0 : fOff Try.prog 13 0 = some (0, 1) := by kernel_rfl
@[go_sem] theorem Try.pl_part13x0 : fPart Try.prog 13 0 = some (0, none) := by kernel_rfl
@[go_sem] theorem Try.pl_off13x1 : fOff Try.prog 13 1 = some (1, 1) := by kernel_rfl
@[go_sem] theorem Try.pl_part13x1 : fPart Try.prog 13 1 = some (1, none) := by kernel_rfl
@[go_sem] theorem Try.pl_agg14 : aggN Try.prog 14 = some (some 2) := by kernel_rfl
@[go_sem] theorem Try.pl_sz14 : szOf Try.prog 14 = some 2 := by kernel_rfl
@[go_sem] theorem Try.pl_zero14 : zeroCs Try.prog 14 = some [.string .empty, .int .u64 0] := by kernel_rfl
@[go_sem] theorem Try.pl_str14 : structP Try.prog 14 = some ([.string .empty, .int .u64 0], [(0, 1), (1, 1)]) := by kernel_rfl
@[go_sem] theorem Try.pl_off14x0 : fOff Try.prog 14 0 = some (0, 1) := by kernel_rfl
@[go_sem] theorem Try.pl_part14x0 : fPart Try.prog 14 0 = some (0, none) := by kernel_rfl
@[go_sem] theorem Try.pl_off14x1 : fOff Try.prog 14 1 = some (1, 1) := by kernel_rfl
@[go_sem] theorem Try.pl_part14x1 : fPart Try.prog 14 1 = some (1, none) := by kernel_rfl
@[go_sem] theorem Try.pl_agg15 : aggN Try.prog 15 = some (none) := by kernel_rfl
@[go_sem] theorem Try.pl_sz15 : szOf Try.prog 15 = some 1 := by kernel_rfl
@[go_sem] theorem Try.pl_zero15 : zeroCs Try.prog 15 = some [.pointer none] := by kernel_rfl
@[go_sem] theorem Try.pl_agg16 : aggN Try.prog 16 = some (none) := by kernel_rfl
@[go_sem] theorem Try.pl_sz16 : szOf Try.prog 16 = some 1 := by kernel_rfl
@[go_sem] theorem Try.pl_zero16 : zeroCs Try.prog 16 = some [.pointer none] := by kernel_rfl
@[go_sem] theorem Try.pl_agg17 : aggN Try.prog 17 = some (none) := by kernel_rfl
@[go_sem] theorem Try.pl_sz17 : szOf Try.prog 17 = some 1 := by kernel_rfl
@[go_sem] theorem Try.pl_zero17 : zeroCs Try.prog 17 = some [.pointer none] := by kernel_rfl
@[go_sem] theorem Try.pl_agg18 : aggN Try.prog 18 = some (some 1) := by kernel_rfl
@[go_sem] theorem Try.pl_sz18 : szOf Try.prog 18 = some 1 := by kernel_rfl
@[go_sem] theorem Try.pl_zero18 : zeroCs Try.prog 18 = some [.pointer none] := by kernel_rfl
@[go_sem] theorem Try.pl_str18 : structP Try.prog 18 = some ([.pointer none], [(0, 1)]) := by kernel_rfl
@[go_sem] theorem Try.pl_off18x0 : fOff Try.prog 18 0 = some (0, 1) := by kernel_rfl
@[go_sem] theorem Try.pl_part18x0 : fPart Try.prog 18 0 = some (0, none) := by kernel_rfl
@[go_sem] theorem Try.pl_agg19 : aggN Try.prog 19 = some (some 1) := by kernel_rfl
@[go_sem] theorem Try.pl_sz19 : szOf Try.prog 19 = some 1 := by kernel_rfl
@[go_sem] theorem Try.pl_zero19 : zeroCs Try.prog 19 = some [.pointer none] := by kernel_rfl
@[go_sem] theorem Try.pl_str19 : structP Try.prog 19 = some ([.pointer none], [(0, 1)]) := by kernel_rfl
@[go_sem] theorem Try.pl_off19x0 : fOff Try.prog 19 0 = some (0, 1) := by kernel_rfl
@[go_sem] theorem Try.pl_part19x0 : fPart Try.prog 19 0 = some (0, none) := by kernel_rfl
@[go_sem] theorem Try.pl_agg21 : aggN Try.prog 21 = some (none) := by kernel_rfl
@[go_sem] theorem Try.pl_sz21 : szOf Try.prog 21 = some 1 := by kernel_rfl
@[go_sem] theorem Try.pl_zero21 : zeroCs Try.prog 21 = some [.int .i32 0] := by kernel_rfl
@[go_sem] theorem Try.pl_und21 : Try.prog.underlying 21 = some (.int .i32) := by kernel_rfl
@[go_sem] theorem Try.pl_agg22 : aggN Try.prog 22 = some (some 3) := by kernel_rfl
@[go_sem] theorem Try.pl_sz22 : szOf Try.prog 22 = some 3 := by kernel_rfl
@[go_sem] theorem Try.pl_zero22 : zeroCs Try.prog 22 = some [.int .i64 0, .int .i64 0, .int .i64 0] := by kernel_rfl
@[go_sem] theorem Try.pl_str22 : structP Try.prog 22 = some ([.int .i64 0, .int .i64 0, .int .i64 0], [(0, 1), (1, 1), (2, 1)]) := by kernel_rfl
@[go_sem] theorem Try.pl_off22x0 : fOff Try.prog 22 0 = some (0, 1) := by kernel_rfl
@[go_sem] theorem Try.pl_part22x0 : fPart Try.prog 22 0 = some (0, none) := by kernel_rfl
@[go_sem] theorem Try.pl_off22x1 : fOff Try.prog 22 1 = some (1, 1) := by kernel_rfl
@[go_sem] theorem Try.pl_part22x1 : fPart Try.prog 22 1 = some (1, none) := by kernel_rfl
@[go_sem] theorem Try.pl_off22x2 : fOff Try.prog 22 2 = some (2, 1) := by kernel_rfl
@[go_sem] theorem Try.pl_part22x2 : fPart Try.prog 22 2 = some (2, none) := by kernel_rfl
@[go_sem] theorem Try.pl_agg23 : aggN Try.prog 23 = some (some 3) := by kernel_rfl
@[go_sem] theorem Try.pl_sz23 : szOf Try.prog 23 = some 3 := by kernel_rfl
@[go_sem] theorem Try.pl_zero23 : zeroCs Try.prog 23 = some [.int .i64 0, .int .i64 0, .int .i64 0] := by kernel_rfl
@[go_sem] theorem Try.pl_str23 : structP Try.prog 23 = some ([.int .i64 0, .int .i64 0, .int .i64 0], [(0, 1), (1, 1), (2, 1)]) := by kernel_rfl
@[go_sem] theorem Try.pl_off23x0 : fOff Try.prog 23 0 = some (0, 1) := by kernel_rfl
@[go_sem] theorem Try.pl_part23x0 : fPart Try.prog 23 0 = some (0, none) := by kernel_rfl
@[go_sem] theorem Try.pl_off23x1 : fOff Try.prog 23 1 = some (1, 1) := by kernel_rfl
@[go_sem] theorem Try.pl_part23x1 : fPart Try.prog 23 1 = some (1, none) := by kernel_rfl
@[go_sem] theorem Try.pl_off23x2 : fOff Try.prog 23 2 = some (2, 1) := by kernel_rfl
@[go_sem] theorem Try.pl_part23x2 : fPart Try.prog 23 2 = some (2, none) := by kernel_rfl
@[go_sem] theorem Try.pl_agg25 : aggN Try.prog 25 = some (some 3) := by kernel_rfl
@[go_sem] theorem Try.pl_sz25 : szOf Try.prog 25 = some 3 := by kernel_rfl
@[go_sem] theorem Try.pl_zero25 : zeroCs Try.prog 25 = some [.int .i64 0, .int .i64 0, .int .i64 0] := by kernel_rfl
@[go_sem] theorem Try.pl_str25 : structP Try.prog 25 = some ([.int .i64 0, .int .i64 0, .int .i64 0], [(0, 1), (1, 1), (2, 1)]) := by kernel_rfl
@[go_sem] theorem Try.pl_off25x0 : fOff Try.prog 25 0 = some (0, 1) := by kernel_rfl
@[go_sem] theorem Try.pl_part25x0 : fPart Try.prog 25 0 = some (0, none) := by kernel_rfl
@[go_sem] theorem Try.pl_off25x1 : fOff Try.prog 25 1 = some (1, 1) := by kernel_rfl
@[go_sem] theorem Try.pl_part25x1 : fPart Try.prog 25 1 = some (1, none) := by kernel_rfl
@[go_sem] theorem Try.pl_off25x2 : fOff Try.prog 25 2 = some (2, 1) := by kernel_rfl
@[go_sem] theorem Try.pl_part25x2 : fPart Try.prog 25 2 = some (2, none) := by kernel_rfl
@[go_sem] theorem Try.pl_agg28 : aggN Try.prog 28 = some (some 5) := by kernel_rfl
@[go_sem] theorem Try.pl_sz28 : szOf Try.prog 28 = some 5 := by kernel_rfl
@[go_sem] theorem Try.pl_zero28 : zeroCs Try.prog 28 = some [.int .i64 0, .int .i64 0, .int .i64 0, .int .i64 0, .int .i64 0] := by kernel_rfl
@[go_sem] theorem Try.pl_str28 : structP Try.prog 28 = some ([.int .i64 0, .int .i64 0, .int .i64 0, .int .i64 0, .int .i64 0], [(0, 3), (3, 1), (4, 1)]) := by kernel_rfl
@[go_sem] theorem Try.pl_off28x0 : fOff Try.prog 28 0 = some (0, 3) := by kernel_rfl
@[go_sem] theorem Try.pl_part28x0 : fPart Try.prog 28 0 = some (0, some 3) := by kernel_rfl
@[go_sem] theorem Try.pl_off28x1 : fOff Try.prog 28 1 = some (3, 1) := by kernel_rfl
@[go_sem] theorem Try.pl_part28x1 : fPart Try.prog 28 1 = some (3, none) := by kernel_rfl
@[go_sem] theorem Try.pl_off28x2 : fOff Try.prog 28 2 = some (4, 1) := by kernel_rfl
@[go_sem] theorem Try.pl_part28x2 : fPart Try.prog 28 2 = some (4, none) := by kernel_rfl
@[go_sem] theorem Try.pl_agg29 : aggN Try.prog 29 = some (some 5) := by kernel_rfl
@[go_sem] theorem Try.pl_sz29 : szOf Try.prog 29 = some 5 := by kernel_rfl
@[go_sem] theorem Try.pl_zero29 : zeroCs Try.prog 29 = some [.int .i64 0, .int .i64 0, .int .i64 0, .int .i64 0, .int .i64 0] := by kernel_rfl
@[go_sem] theorem Try.pl_str29 : structP Try.prog 29 = some ([.int .i64 0, .int .i64 0, .int .i64 0, .int .i64 0, .int .i64 0], [(0, 3), (3, 1), (4, 1)]) := by kernel_rfl
@[go_sem] theorem Try.pl_off29x0 : fOff Try.prog 29 0 = some (0, 3) := by kernel_rfl
@[go_sem] theorem Try.pl_part29x0 : fPart Try.prog 29 0 = some (0, some 3) := by kernel_rfl
@[go_sem] theorem Try.pl_off29x1 : fOff Try.prog 29 1 = some (3, 1) := by kernel_rfl
@[go_sem] theorem Try.pl_part29x1 : fPart Try.prog 29 1 = some (3, none) := by kernel_rfl
@[go_sem] theorem Try.pl_off29x2 : fOff Try.prog 29 2 = some (4, 1) := by kernel_rfl
@[go_sem] theorem Try.pl_part29x2 : fPart Try.prog 29 2 = some (4, none) := by kernel_rfl
@[go_sem] theorem Try.pl_agg30 : aggN Try.prog 30 = some (none) := by kernel_rfl
@[go_sem] theorem Try.pl_sz30 : szOf Try.prog 30 = some 1 := by kernel_rfl
@[go_sem] theorem Try.pl_zero30 : zeroCs Try.prog 30 = some [.slice none 0 0] := by kernel_rfl
@[go_sem] theorem Try.pl_und30 : Try.prog.underlying 30 = some (.slice 34) := by kernel_rfl
@[go_sem] theorem Try.pl_zv30 : zeroV Try.prog 34 = some (.agg #[.int .i64 0, .int .i64 0, .int .i64 0]) := by kernel_rfl
@[go_sem] theorem Try.pl_esz30 : eSz Try.prog 30 = some (34, 3) := by kernel_rfl
@[go_sem] theorem Try.pl_einf30 : eInf Try.prog 30 = some (34, 3, 24) := by kernel_rfl
@[go_sem] theorem Try.pl_agg31 : aggN Try.prog 31 = some (some 8) := by kernel_rfl
@[go_sem] theorem Try.pl_sz31 : szOf Try.prog 31 = some 8 := by kernel_rfl
@[go_sem] theorem Try.pl_zero31 : zeroCs Try.prog 31 = some [.int .i64 0, .int .i64 0, .int .i64 0, .int .i64 0, .int .i64 0, .slice none 0 0, .int .i64 0, .int .i64 0] := by kernel_rfl
@[go_sem] theorem Try.pl_str31 : structP Try.prog 31 = some ([.int .i64 0, .int .i64 0, .int .i64 0, .int .i64 0, .int .i64 0, .slice none 0 0, .int .i64 0, .int .i64 0], [(0, 5), (5, 1), (6, 1), (7, 1)]) := by kernel_rfl
@[go_sem] theorem Try.pl_off31x0 : fOff Try.prog 31 0 = some (0, 5) := by kernel_rfl
@[go_sem] theorem Try.pl_part31x0 : fPart Try.prog 31 0 = some (0, some 5) := by kernel_rfl
@[go_sem] theorem Try.pl_off31x1 : fOff Try.prog 31 1 = some (5, 1) := by kernel_rfl
@[go_sem] theorem Try.pl_part31x1 : fPart Try.prog 31 1 = some (5, none) := by kernel_rfl
@[go_sem] theorem Try.pl_off31x2 : fOff Try.prog 31 2 = some (6, 1) := by kernel_rfl
@[go_sem] theorem Try.pl_part31x2 : fPart Try.prog 31 2 = some (6, none) := by kernel_rfl
@[go_sem] theorem Try.pl_off31x3 : fOff Try.prog 31 3 = some (7, 1) := by kernel_rfl
@[go_sem] theorem Try.pl_part31x3 : fPart Try.prog 31 3 = some (7, none) := by kernel_rfl
@[go_sem] theorem Try.pl_agg32 : aggN Try.prog 32 = some (some 8) := by kernel_rfl
@[go_sem] theorem Try.pl_sz32 : szOf Try.prog 32 = some 8 := by kernel_rfl
@[go_sem] theorem Try.pl_zero32 : zeroCs Try.prog 32 = some [.int .i64 0, .int .i64 0, .int .i64 0, .int .i64 0, .int .i64 0, .slice none 0 0, .int .i64 0, .int .i64 0] := by kernel_rfl
@[go_sem] theorem Try.pl_str32 : structP Try.prog 32 = some ([.int .i64 0, .int .i64 0, .int .i64 0, .int .i64 0, .int .i64 0, .slice none 0 0, .int .i64 0, .int .i64 0], [(0, 5), (5, 1), (6, 1), (7, 1)]) := by kernel_rfl
@[go_sem] theorem Try.pl_off32x0 : fOff Try.prog 32 0 = some (0, 5) := by kernel_rfl
@[go_sem] theorem Try.pl_part32x0 : fPart Try.prog 32 0 = some (0, some 5) := by kernel_rfl
@[go_sem] theorem Try.pl_off32x1 : fOff Try.prog 32 1 = some (5, 1) := by kernel_rfl
@[go_sem] theorem Try.pl_part32x1 : fPart Try.prog 32 1 = some (5, none) := by kernel_rfl
@[go_sem] theorem Try.pl_off32x2 : fOff Try.prog 32 2 = some (6, 1) := by kernel_rfl
@[go_sem] theorem Try.pl_part32x2 : fPart Try.prog 32 2 = some (6, none) := by kernel_rfl
@[go_sem] theorem Try.pl_off32x3 : fOff Try.prog 32 3 = some (7, 1) := by kernel_rfl
@[go_sem] theorem Try.pl_part32x3 : fPart Try.prog 32 3 = some (7, none) := by kernel_rfl
@[go_sem] theorem Try.pl_agg33 : aggN Try.prog 33 = some (some 3) := by kernel_rfl
@[go_sem] theorem Try.pl_sz33 : szOf Try.prog 33 = some 3 := by kernel_rfl
@[go_sem] theorem Try.pl_zero33 : zeroCs Try.prog 33 = some [.int .i64 0, .int .i64 0, .int .i64 0] := by kernel_rfl
@[go_sem] theorem Try.pl_str33 : structP Try.prog 33 = some ([.int .i64 0, .int .i64 0, .int .i64 0], [(0, 1), (1, 1), (2, 1)]) := by kernel_rfl
@[go_sem] theorem Try.pl_off33x0 : fOff Try.prog 33 0 = some (0, 1) := by kernel_rfl
@[go_sem] theorem Try.pl_part33x0 : fPart Try.prog 33 0 = some (0, none) := by kernel_rfl
@[go_sem] theorem Try.pl_off33x1 : fOff Try.prog 33 1 = some (1, 1) := by kernel_rfl
@[go_sem] theorem Try.pl_part33x1 : fPart Try.prog 33 1 = some (1, none) := by kernel_rfl
@[go_sem] theorem Try.pl_off33x2 : fOff Try.prog 33 2 = some (2, 1) := by kernel_rfl
@[go_sem] theorem Try.pl_part33x2 : fPart Try.prog 33 2 = some (2, none) := by kernel_rfl
@[go_sem] theorem Try.pl_agg34 : aggN Try.prog 34 = some (some 3) := by kernel_rfl
@[go_sem] theorem Try.pl_sz34 : szOf Try.prog 34 = some 3 := by kernel_rfl
@[go_sem] theorem Try.pl_zero34 : zeroCs Try.prog 34 = some [.int .i64 0, .int .i64 0, .int .i64 0] := by kernel_rfl
@[go_sem] theorem Try.pl_str34 : structP Try.prog 34 = some ([.int .i64 0, .int .i64 0, .int .i64 0], [(0, 1), (1, 1), (2, 1)]) := by kernel_rfl
@[go_sem] theorem Try.pl_off34x0 : fOff Try.prog 34 0 = some (0, 1) := by kernel_rfl
@[go_sem] theorem Try.pl_part34x0 : fPart Try.prog 34 0 = some (0, none) := by kernel_rfl
@[go_sem] theorem Try.pl_off34x1 : fOff Try.prog 34 1 = some (1, 1) := by kernel_rfl
@[go_sem] theorem Try.pl_part34x1 : fPart Try.prog 34 1 = some (1, none) := by kernel_rfl
@[go_sem] theorem Try.pl_off34x2 : fOff Try.prog 34 2 = some (2, 1) := by kernel_rfl
@[go_sem] theorem Try.pl_part34x2 : fPart Try.prog 34 2 = some (2, none) := by kernel_rfl
@[go_sem] theorem Try.pl_agg36 : aggN Try.prog 36 = some (some 5) := by kernel_rfl
@[go_sem] theorem Try.pl_sz36 : szOf Try.prog 36 = some 5 := by kernel_rfl
@[go_sem] theorem Try.pl_zero36 : zeroCs Try.prog 36 = some [.int .i64 0, .int .i64 0, .int .i64 0, .int .i64 0, .int .i64 0] := by kernel_rfl
@[go_sem] theorem Try.pl_str36 : structP Try.prog 36 = some ([.int .i64 0, .int .i64 0, .int .i64 0, .int .i64 0, .int .i64 0], [(0, 3), (3, 1), (4, 1)]) := by kernel_rfl
@[go_sem] theorem Try.pl_off36x0 : fOff Try.prog 36 0 = some (0, 3) := by kernel_rfl
@[go_sem] theorem Try.pl_part36x0 : fPart Try.prog 36 0 = some (0, some 3) := by kernel_rfl
@[go_sem] theorem Try.pl_off36x1 : fOff Try.prog 36 1 = some (3, 1) := by kernel_rfl
@[go_sem] theorem Try.pl_part36x1 : fPart Try.prog 36 1 = some (3, none) := by kernel_rfl
@[go_sem] theorem Try.pl_off36x2 : fOff Try.prog 36 2 = some (4, 1) := by kernel_rfl
@[go_sem] theorem Try.pl_part36x2 : fPart Try.prog 36 2 = some (4, none) := by kernel_rfl
@[go_sem] theorem Try.pl_agg37 : aggN Try.prog 37 = some (some 5) := by kernel_rfl
@[go_sem] theorem Try.pl_sz37 : szOf Try.prog 37 = some 5 := by kernel_rfl
@[go_sem] theorem Try.pl_zero37 : zeroCs Try.prog 37 = some [.int .i64 0, .int .i64 0, .int .i64 0, .int .i64 0, .int .i64 0] := by kernel_rfl
@[go_sem] theorem Try.pl_str37 : structP Try.prog 37 = some ([.int .i64 0, .int .i64 0, .int .i64 0, .int .i64 0, .int .i64 0], [(0, 3), (3, 1), (4, 1)]) := by kernel_rfl
@[go_sem] theorem Try.pl_off37x0 : fOff Try.prog 37 0 = some (0, 3) := by kernel_rfl
@[go_sem] theorem Try.pl_part37x0 : fPart Try.prog 37 0 = some (0, some 3) := by kernel_rfl
@[go_sem] theorem Try.pl_off37x1 : fOff Try.prog 37 1 = some (3, 1) := by kernel_rfl
@[go_sem] theorem Try.pl_part37x1 : fPart Try.prog 37 1 = some (3, none) := by kernel_rfl
@[go_sem] theorem Try.pl_off37x2 : fOff Try.prog 37 2 = some (4, 1) := by kernel_rfl
@[go_sem] theorem Try.pl_part37x2 : fPart Try.prog 37 2 = some (4, none) := by kernel_rfl
@[go_sem] theorem Try.pl_agg38 : aggN Try.prog 38 = some (none) := by kernel_rfl
@[go_sem] theorem Try.pl_sz38 : szOf Try.prog 38 = some 1 := by kernel_rfl
@[go_sem] theorem Try.pl_zero38 : zeroCs Try.prog 38 = some [.slice none 0 0] := by kernel_rfl
@[go_sem] theorem Try.pl_und38 : Try.prog.underlying 38 = some (.slice 44) := by kernel_rfl
@[go_sem] theorem Try.pl_zv38 : zeroV Try.prog 44 = some (.agg #[.int .i64 0, .int .i64 0, .int .i64 0]) := by kernel_rfl
@[go_sem] theorem Try.pl_esz38 : eSz Try.prog 38 = some (44, 3) := by kernel_rfl
@[go_sem] theorem Try.pl_einf38 : eInf Try.prog 38 = some (44, 3, 24) := by kernel_rfl
@[go_sem] theorem Try.pl_agg39 : aggN Try.prog 39 = some (some 8) := by kernel_rfl
@[go_sem] theorem Try.pl_sz39 : szOf Try.prog 39 = some 8 := by kernel_rfl
@[go_sem] theorem Try.pl_zero39 : zeroCs Try.prog 39 = some [.int .i64 0, .int .i64 0, .int .i64 0, .int .i64 0, .int .i64 0, .slice none 0 0, .int .i64 0, .int .i64 0] := by kernel_rfl
@[go_sem] theorem Try.pl_str39 : structP Try.prog 39 = some ([.int .i64 0, .int .i64 0, .int .i64 0, .int .i64 0, .int .i64 0, .slice none 0 0, .int .i64 0, .int .i64 0], [(0, 5), (5, 1), (6, 1), (7, 1)]) := by kernel_rfl
@[go_sem] theorem Try.pl_off39x0 : fOff Try.prog 39 0 = some (0, 5) := by kernel_rfl
@[go_sem] theorem Try.pl_part39x0 : fPart Try.prog 39 0 = some (0, some 5) := by kernel_rfl
@[go_sem] theorem Try.pl_off39x1 : fOff Try.prog 39 1 = some (5, 1) := by kernel_rfl
@[go_sem] theorem Try.pl_part39x1 : fPart Try.prog 39 1 = some (5, none) := by kernel_rfl
@[go_sem] theorem Try.pl_off39x2 : fOff Try.prog 39 2 = some (6, 1) := by kernel_rfl
@[go_sem] theorem Try.pl_part39x2 : fPart Try.prog 39 2 = some (6, none) := by kernel_rfl
@[go_sem] theorem Try.pl_off39x3 : fOff Try.prog 39 3 = some (7, 1) := by kernel_rfl
@[go_sem] theorem Try.pl_part39x3 : fPart Try.prog 39 3 = some (7, none) := by kernel_rfl
@[go_sem] theorem Try.pl_agg40 : aggN Try.prog 40 = some (some 8) := by kernel_rfl
@[go_sem] theorem Try.pl_sz40 : szOf Try.prog 40 = some 8 := by kernel_rfl
@[go_sem] theorem Try.pl_zero40 : zeroCs Try.prog 40 = some [.int .i64 0, .int .i64 0, .int .i64 0, .int .i64 0, .int .i64 0, .slice none 0 0, .int .i64 0, .int .i64 0] := by kernel_rfl
@[go_sem] theorem Try.pl_str40 : structP Try.prog 40 = some ([.int .i64 0, .int .i64 0, .int .i64 0, .int .i64 0, .int .i64 0, .slice none 0 0, .int .i64 0, .int .i64 0], [(0, 5), (5, 1), (6, 1), (7, 1)]) := by kernel_rfl
@[go_sem] theorem Try.pl_off40x0 : fOff Try.prog 40 0 = some (0, 5) := by kernel_rfl
@[go_sem] theorem Try.pl_part40x0 : fPart Try.prog 40 0 = some (0, some 5) := by kernel_rfl
@[go_sem] theorem Try.pl_off40x1 : fOff Try.prog 40 1 = some (5, 1) := by kernel_rfl
@[go_sem] theorem Try.pl_part40x1 : fPart Try.prog 40 1 = some (5, none) := by kernel_rfl
@[go_sem] theorem Try.pl_off40x2 : fOff Try.prog 40 2 = some (6, 1) := by kernel_rfl
@[go_sem] theorem Try.pl_part40x2 : fPart Try.prog 40 2 = some (6, none) := by kernel_rfl
@[go_sem] theorem Try.pl_off40x3 : fOff Try.prog 40 3 = some (7, 1) := by kernel_rfl
@[go_sem] theorem Try.pl_part40x3 : fPart Try.prog 40 3 = some (7, none) := by kernel_rfl
@[go_sem] theorem Try.pl_agg44 : aggN Try.prog 44 = some (some 3) := by kernel_rfl
@[go_sem] theorem Try.pl_sz44 : szOf Try.prog 44 = some 3 := by kernel_rfl
@[go_sem] theorem Try.pl_zero44 : zeroCs Try.prog 44 = some [.int .i64 0, .int .i64 0, .int .i64 0] := by kernel_rfl
@[go_sem] theorem Try.pl_str44 : structP Try.prog 44 = some ([.int .i64 0, .int .i64 0, .int .i64 0], [(0, 1), (1, 1), (2, 1)]) := by kernel_rfl
@[go_sem] theorem Try.pl_off44x0 : fOff Try.prog 44 0 = some (0, 1) := by kernel_rfl
@[go_sem] theorem Try.pl_part44x0 : fPart Try.prog 44 0 = some (0, none) := by kernel_rfl
@[go_sem] theorem Try.pl_off44x1 : fOff Try.prog 44 1 = some (1, 1) := by kernel_rfl
@[go_sem] theorem Try.pl_part44x1 : fPart Try.prog 44 1 = some (1, none) := by kernel_rfl
@[go_sem] theorem Try.pl_off44x2 : fOff Try.prog 44 2 = some (2, 1) := by kernel_rfl
@[go_sem] theorem Try.pl_part44x2 : fPart Try.prog 44 2 = some (2, none) := by kernel_rfl
@[go_sem] theorem Try.pl_agg49 : aggN Try.prog 49 = some (some 3) := by kernel_rfl
@[go_sem] theorem Try.pl_sz49 : szOf Try.prog 49 = some 3 := by kernel_rfl
@[go_sem] theorem Try.pl_zero49 : zeroCs Try.prog 49 = some [.int .i64 0, .int .i64 0, .int .i64 0] := by kernel_rfl
@[go_sem] theorem Try.pl_str49 : structP Try.prog 49 = some ([.int .i64 0, .int .i64 0, .int .i64 0], [(0, 1), (1, 1), (2, 1)]) := by kernel_rfl
@[go_sem] theorem Try.pl_off49x0 : fOff Try.prog 49 0 = some (0, 1) := by kernel_rfl
@[go_sem] theorem Try.pl_part49x0 : fPart Try.prog 49 0 = some (0, none) := by kernel_rfl
@[go_sem] theorem Try.pl_off49x1 : fOff Try.prog 49 1 = some (1, 1) := by kernel_rfl
@[go_sem] theorem Try.pl_part49x1 : fPart Try.prog 49 1 = some (1, none) := by kernel_rfl
@[go_sem] theorem Try.pl_off49x2 : fOff Try.prog 49 2 = some (2, 1) := by kernel_rfl
@[go_sem] theorem Try.pl_part49x2 : fPart Try.prog 49 2 = some (2, none) := by kernel_rfl
@[go_sem] theorem Try.pl_agg50 : aggN Try.prog 50 = some (some 3) := by kernel_rfl
@[go_sem] theorem Try.pl_sz50 : szOf Try.prog 50 = some 3 := by kernel_rfl
@[go_sem] theorem Try.pl_zero50 : zeroCs Try.prog 50 = some [.int .i64 0, .int .i64 0, .int .i64 0] := by kernel_rfl
@[go_sem] theorem Try.pl_str50 : structP Try.prog 50 = some ([.int .i64 0, .int .i64 0, .int .i64 0], [(0, 1), (1, 1), (2, 1)]) := by kernel_rfl
@[go_sem] theorem Try.pl_off50x0 : fOff Try.prog 50 0 = some (0, 1) := by kernel_rfl
@[go_sem] theorem Try.pl_part50x0 : fPart Try.prog 50 0 = some (0, none) := by kernel_rfl
@[go_sem] theorem Try.pl_off50x1 : fOff Try.prog 50 1 = some (1, 1) := by kernel_rfl
@[go_sem] theorem Try.pl_part50x1 : fPart Try.prog 50 1 = some (1, none) := by kernel_rfl
@[go_sem] theorem Try.pl_off50x2 : fOff Try.prog 50 2 = some (2, 1) := by kernel_rfl
@[go_sem] theorem Try.pl_part50x2 : fPart Try.prog 50 2 = some (2, none) := by kernel_rfl
@[go_sem] theorem Try.pl_agg51 : aggN Try.prog 51 = some (none) := by kernel_rfl
@[go_sem] theorem Try.pl_sz51 : szOf Try.prog 51 = some 1 := by kernel_rfl
@[go_sem] theorem Try.pl_zero51 : zeroCs Try.prog 51 = some [.slice none 0 0] := by kernel_rfl
@[go_sem] theorem Try.pl_und51 : Try.prog.underlying 51 = some (.slice 107) := by kernel_rfl
@[go_sem] theorem Try.pl_zv51 : zeroV Try.prog 107 = some (.agg #[.int .i64 0, .int .i64 0, .int .i64 0, .int .i64 0]) := by kernel_rfl
@[go_sem] theorem Try.pl_esz51 : eSz Try.prog 51 = some (107, 4) := by kernel_rfl
@[go_sem] theorem Try.pl_einf51 : eInf Try.prog 51 = some (107, 4, 32) := by kernel_rfl
@[go_sem] theorem Try.pl_agg52 : aggN Try.prog 52 = some (some 13) := by kernel_rfl
@[go_sem] theorem Try.pl_sz52 : szOf Try.prog 52 = some 13 := by kernel_rfl
@[go_sem] theorem Try.pl_zero52 : zeroCs Try.prog 52 = some [.int .i64 0, .int .i64 0, .int .i64 0, .int .i64 0, .int .i64 0, .slice none 0 0, .int .i64 0, .int .i64 0, .int .i64 0, .int .i64 0, .int .i64 0, .int .i64 0, .slice none 0 0] := by kernel_rfl
@[go_sem] theorem Try.pl_str52 : structP Try.prog 52 = some ([.int .i64 0, .int .i64 0, .int .i64 0, .int .i64 0, .int .i64 0, .slice none 0 0, .int .i64 0, .int .i64 0, .int .i64 0, .int .i64 0, .int .i64 0, .int .i64 0, .slice none 0 0], [(0, 8), (8, 3), (11, 1), (12, 1)]) := by kernel_rfl
@[go_sem] theorem Try.pl_off52x0 : fOff Try.prog 52 0 = some (0, 8) := by kernel_rfl
@[go_sem] theorem Try.pl_part52x0 : fPart Try.prog 52 0 = some (0, some 8) := by kernel_rfl
@[go_sem] theorem Try.pl_off52x1 : fOff Try.prog 52 1 = some (8, 3) := by kernel_rfl
@[go_sem] theorem Try.pl_part52x1 : fPart Try.prog 52 1 = some (8, some 3) := by kernel_rfl
@[go_sem] theorem Try.pl_off52x2 : fOff Try.prog 52 2 = some (11, 1) := by kernel_rfl
@[go_sem] theorem Try.pl_part52x2 : fPart Try.prog 52 2 = some (11, none) := by kernel_rfl
@[go_sem] theorem Try.pl_off52x3 : fOff Try.prog 52 3 = some (12, 1) := by kernel_rfl
@[go_sem] theorem Try.pl_part52x3 : fPart Try.prog 52 3 = some (12, none) := by kernel_rfl
@[go_sem] theorem Try.pl_agg53 : aggN Try.prog 53 = some (some 13) := by kernel_rfl
@[go_sem] theorem Try.pl_sz53 : szOf Try.prog 53 = some 13 := by kernel_rfl
@[go_sem] theorem Try.pl_zero53 : zeroCs Try.prog 53 = some [.int .i64 0, .int .i64 0, .int .i64 0, .int .i64 0, .int .i64 0, .slice none 0 0, .int .i64 0, .int .i64 0, .int .i64 0, .int .i64 0, .int .i64 0, .int .i64 0, .slice none 0 0] := by kernel_rfl
@[go_sem] theorem Try.pl_str53 : structP Try.prog 53 = some ([.int .i64 0, .int .i64 0, .int .i64 0, .int .i64 0, .int .i64 0, .slice none 0 0, .int .i64 0, .int .i64 0, .int .i64 0, .int .i64 0, .int .i64 0, .int .i64 0, .slice none 0 0], [(0, 8), (8, 3), (11, 1), (12, 1)]) := by kernel_rfl
@[go_sem] theorem Try.pl_off53x0 : fOff Try.prog 53 0 = some (0, 8) := by kernel_rfl
@[go_sem] theorem Try.pl_part53x0 : fPart Try.prog 53 0 = some (0, some 8) := by kernel_rfl
@[go_sem] theorem Try.pl_off53x1 : fOff Try.prog 53 1 = some (8, 3) := by kernel_rfl
@[go_sem] theorem Try.pl_part53x1 : fPart Try.prog 53 1 = some (8, some 3) := by kernel_rfl
@[go_sem] theorem Try.pl_off53x2 : fOff Try.prog 53 2 = some (11, 1) := by kernel_rfl
@[go_sem] theorem Try.pl_part53x2 : fPart Try.prog 53 2 = some (11, none) := by kernel_rfl
@[go_sem] theorem Try.pl_off53x3 : fOff Try.prog 53 3 = some (12, 1) := by kernel_rfl
@[go_sem] theorem Try.pl_part53x3 : fPart Try.prog 53 3 = some (12, none) := by kernel_rfl
@[go_sem] theorem Try.pl_agg60 : aggN Try.prog 60 = some (some 3) := by kernel_rfl
@[go_sem] theorem Try.pl_sz60 : szOf Try.prog 60 = some 3 := by kernel_rfl
@[go_sem] theorem Try.pl_zero60 : zeroCs Try.prog 60 = some [.int .i64 0, .int .i64 0, .int .i64 0] := by kernel_rfl
@[go_sem] theorem Try.pl_str60 : structP Try.prog 60 = some ([.int .i64 0, .int .i64 0, .int .i64 0], [(0, 1), (1, 1), (2, 1)]) := by kernel_rfl
@[go_sem] theorem Try.pl_off60x0 : fOff Try.prog 60 0 = some (0, 1) := by kernel_rfl
@[go_sem] theorem Try.pl_part60x0 : fPart Try.prog 60 0 = some (0, none) := by kernel_rfl
@[go_sem] theorem Try.pl_off60x1 : fOff Try.prog 60 1 = some (1, 1) := by kernel_rfl
@[go_sem] theorem Try.pl_part60x1 : fPart Try.prog 60 1 = some (1, none) := by kernel_rfl
@[go_sem] theorem Try.pl_off60x2 : fOff Try.prog 60 2 = some (2, 1) := by kernel_rfl
@[go_sem] theorem Try.pl_part60x2 : fPart Try.prog 60 2 = some (2, none) := by kernel_rfl
@[go_sem] theorem Try.pl_agg61 : aggN Try.prog 61 = some (none) := by kernel_rfl
@[go_sem] theorem Try.pl_sz61 : szOf Try.prog 61 = some 1 := by kernel_rfl
@[go_sem] theorem Try.pl_zero61 : zeroCs Try.prog 61 = some [.slice none 0 0] := by kernel_rfl
@[go_sem] theorem Try.pl_und61 : Try.prog.underlying 61 = some (.slice 126) := by kernel_rfl
@[go_sem] theorem Try.pl_zv61 : zeroV Try.prog 126 = some (.agg #[.int .i64 0, .int .i64 0, .int .i64 0, .int .i64 0]) := by kernel_rfl
@[go_sem] theorem Try.pl_esz61 : eSz Try.prog 61 = some (126, 4) := by kernel_rfl
@[go_sem] theorem Try.pl_einf61 : eInf Try.prog 61 = some (126, 4, 32) := by kernel_rfl
@[go_sem] theorem Try.pl_agg62 : aggN Try.prog 62 = some (some 13) := by kernel_rfl
@[go_sem] theorem Try.pl_sz62 : szOf Try.prog 62 = some 13 := by kernel_rfl
@[go_sem] theorem Try.pl_zero62 : zeroCs Try.prog 62 = some [.int .i64 0, .int .i64 0, .int .i64 0, .int .i64 0, .int .i64 0, .slice none 0 0, .int .i64 0, .int .i64 0, .int .i64 0, .int .i64 0, .int .i64 0, .int .i64 0, .slice none 0 0] := by kernel_rfl
@[go_sem] theorem Try.pl_str62 : structP Try.prog 62 = some ([.int .i64 0, .int .i64 0, .int .i64 0, .int .i64 0, .int .i64 0, .slice none 0 0, .int .i64 0, .int .i64 0, .int .i64 0, .int .i64 0, .int .i64 0, .int .i64 0, .slice none 0 0], [(0, 8), (8, 3), (11, 1), (12, 1)]) := by kernel_rfl
@[go_sem] theorem Try.pl_off62x0 : fOff Try.prog 62 0 = some (0, 8) := by kernel_rfl
@[go_sem] theorem Try.pl_part62x0 : fPart Try.prog 62 0 = some (0, some 8) := by kernel_rfl
@[go_sem] theorem Try.pl_off62x1 : fOff Try.prog 62 1 = some (8, 3) := by kernel_rfl
@[go_sem] theorem Try.pl_part62x1 : fPart Try.prog 62 1 = some (8, some 3) := by kernel_rfl
@[go_sem] theorem Try.pl_off62x2 : fOff Try.prog 62 2 = some (11, 1) := by kernel_rfl
@[go_sem] theorem Try.pl_part62x2 : fPart Try.prog 62 2 = some (11, none) := by kernel_rfl
@[go_sem] theorem Try.pl_off62x3 : fOff Try.prog 62 3 = some (12, 1) := by kernel_rfl
@[go_sem] theorem Try.pl_part62x3 : fPart Try.prog 62 3 = some (12, none) := by kernel_rfl
@[go_sem] theorem Try.pl_agg63 : aggN Try.prog 63 = some (some 13) := by kernel_rfl
@[go_sem] theorem Try.pl_sz63 : szOf Try.prog 63 = some 13 := by kernel_rfl
@[go_sem] theorem Try.pl_zero63 : zeroCs Try.prog 63 = some [.int .i64 0, .int .i64 0, .int .i64 0, .int .i64 0, .int .i64 0, .slice none 0 0, .int .i64 0, .int .i64 0, .int .i64 0, .int .i64 0, .int .i64 0, .int .i64 0, .slice none 0 0] := by kernel_rfl
@[go_sem] theorem Try.pl_str63 : structP Try.prog 63 = some ([.int .i64 0, .int .i64 0, .int .i64 0, .int .i64 0, .int .i64 0, .slice none 0 0, .int .i64 0, .int .i64 0, .int .i64 0, .int .i64 0, .int .i64 0, .int .i64 0, .slice none 0 0], [(0, 8), (8, 3), (11, 1), (12, 1)]) := by kernel_rfl
@[go_sem] theorem Try.pl_off63x0 : fOff Try.prog 63 0 = some (0, 8) := by kernel_rfl
@[go_sem] theorem Try.pl_part63x0 : fPart Try.prog 63 0 = some (0, some 8) := by kernel_rfl
@[go_sem] theorem Try.pl_off63x1 : fOff Try.prog 63 1 = some (8, 3) := by kernel_rfl
@[go_sem] theorem Try.pl_part63x1 : fPart Try.prog 63 1 = some (8, some 3) := by kernel_rfl
@[go_sem] theorem Try.pl_off63x2 : fOff Try.prog 63 2 = some (11, 1) := by kernel_rfl
@[go_sem] theorem Try.pl_part63x2 : fPart Try.prog 63 2 = some (11, none) := by kernel_rfl
@[go_sem] theorem Try.pl_off63x3 : fOff Try.prog 63 3 = some (12, 1) := by kernel_rfl
@[go_sem] theorem Try.pl_part63x3 : fPart Try.prog 63 3 = some (12, none) := by kernel_rfl
@[go_sem] theorem Try.pl_agg75 : aggN Try.prog 75 = some (none) := by kernel_rfl
@[go_sem] theorem Try.pl_sz75 : szOf Try.prog 75 = some 1 := by kernel_rfl
@[go_sem] theorem Try.pl_zero75 : zeroCs Try.prog 75 = some [.slice none 0 0] := by kernel_rfl
@[go_sem] theorem Try.pl_und75 : Try.prog.underlying 75 = some (.slice 3) := by kernel_rfl
@[go_sem] theorem Try.pl_zv75 : zeroV Try.prog 3 = some (.int .i64 0) := by kernel_rfl
@[go_sem] theorem Try.pl_esz75 : eSz Try.prog 75 = some (3, 1) := by kernel_rfl
@[go_sem] theorem Try.pl_einf75 : eInf Try.prog 75 = some (3, 1, 8) := by kernel_rfl
@[go_sem] theorem Try.pl_agg106 : aggN Try.prog 106 = some (some 4) := by kernel_rfl
@[go_sem] theorem Try.pl_sz106 : szOf Try.prog 106 = some 4 := by kernel_rfl
@[go_sem] theorem Try.pl_zero106 : zeroCs Try.prog 106 = some [.int .i64 0, .int .i64 0, .int .i64 0, .int .i64 0] := by kernel_rfl
@[go_sem] theorem Try.pl_str106 : structP Try.prog 106 = some ([.int .i64 0, .int .i64 0, .int .i64 0, .int .i64 0], [(0, 1), (1, 1), (2, 1), (3, 1)]) := by kernel_rfl
@[go_sem] theorem Try.pl_off106x0 : fOff Try.prog 106 0 = some (0, 1) := by kernel_rfl
@[go_sem] theorem Try.pl_part106x0 : fPart Try.prog 106 0 = some (0, none) := by kernel_rfl
@[go_sem] theorem Try.pl_off106x1 : fOff Try.prog 106 1 = some (1, 1) := by kernel_rfl
@[go_sem] theorem Try.pl_part106x1 : fPart Try.prog 106 1 = some (1, none) := by kernel_rfl
@[go_sem] theorem Try.pl_off106x2 : fOff Try.prog 106 2 = some (2, 1) := by kernel_rfl
@[go_sem] theorem Try.pl_part106x2 : fPart Try.prog 106 2 = some (2, none) := by kernel_rfl
@[go_sem] theorem Try.pl_off106x3 : fOff Try.prog 106 3 = some (3, 1) := by kernel_rfl
@[go_sem] theorem Try.pl_part106x3 : fPart Try.prog 106 3 = some (3, none) := by kernel_rfl
@[go_sem] theorem Try.pl_agg107 : aggN Try.prog 107 = some (some 4) := by kernel_rfl
@[go_sem] theorem Try.pl_sz107 : szOf Try.prog 107 = some 4 := by kernel_rfl
@[go_sem] theorem Try.pl_zero107 : zeroCs Try.prog 107 = some [.int .i64 0, .int .i64 0, .int .i64 0, .int .i64 0] := by kernel_rfl
@[go_sem] theorem Try.pl_str107 : structP Try.prog 107 = some ([.int .i64 0, .int .i64 0, .int .i64 0, .int .i64 0], [(0, 1), (1, 1), (2, 1), (3, 1)]) := by kernel_rfl
@[go_sem] theorem Try.pl_off107x0 : fOff Try.prog 107 0 = some (0, 1) := by kernel_rfl
@[go_sem] theorem Try.pl_part107x0 : fPart Try.prog 107 0 = some (0, none) := by kernel_rfl
@[go_sem] theorem Try.pl_off107x1 : fOff Try.prog 107 1 = some (1, 1) := by kernel_rfl
@[go_sem] theorem Try.pl_part107x1 : fPart Try.prog 107 1 = some (1, none) := by kernel_rfl
@[go_sem] theorem Try.pl_off107x2 : fOff Try.prog 107 2 = some (2, 1) := by kernel_rfl
@[go_sem] theorem Try.pl_part107x2 : fPart Try.prog 107 2 = some (2, none) := by kernel_rfl
@[go_sem] theorem Try.pl_off107x3 : fOff Try.prog 107 3 = some (3, 1) := by kernel_rfl
@[go_sem] theorem Try.pl_part107x3 : fPart Try.prog 107 3 = some (3, none) := by kernel_rfl
@[go_sem] theorem Try.pl_agg126 : aggN Try.prog 126 = some (some 4) := by kernel_rfl
@[go_sem] theorem Try.pl_sz126 : szOf Try.prog 126 = some 4 := by kernel_rfl
@[go_sem] theorem Try.pl_zero126 : zeroCs Try.prog 126 = some [.int .i64 0, .int .i64 0, .int .i64 0, .int .i64 0] := by kernel_rfl
@[go_sem] theorem Try.pl_str126 : structP Try.prog 126 = some ([.int .i64 0, .int .i64 0, .int .i64 0, .int .i64 0], [(0, 1), (1, 1), (2, 1), (3, 1)]) := by kernel_rfl
@[go_sem] theorem Try.pl_off126x0 : fOff Try.prog 126 0 = some (0, 1) := by kernel_rfl
@[go_sem] theorem Try.pl_part126x0 : fPart Try.prog 126 0 = some (0, none) := by kernel_rfl
@[go_sem] theorem Try.pl_off126x1 : fOff Try.prog 126 1 = some (1, 1) := by kernel_rfl
@[go_sem] theorem Try.pl_part126x1 : fPart Try.prog 126 1 = some (1, none) := by kernel_rfl
@[go_sem] theorem Try.pl_off126x2 : fOff Try.prog 126 2 = some (2, 1) := by kernel_rfl
@[go_sem] theorem Try.pl_part126x2 : fPart Try.prog 126 2 = some (2, none) := by kernel_rfl
@[go_sem] theorem Try.pl_off126x3 : fOff Try.prog 126 3 = some (3, 1) := by kernel_rfl
@[go_sem] theorem Try.pl_part126x3 : fPart Try.prog 126 3 = some (3, none) := by kernel_rfl
@[go_sem] theorem Try.pl_agg131 : aggN Try.prog 131 = some (none) := by kernel_rfl
@[go_sem] theorem Try.pl_sz131 : szOf Try.prog 131 = some 1 := by kernel_rfl
@[go_sem] theorem Try.pl_zero131 : zeroCs Try.prog 131 = some [.slice none 0 0] := by kernel_rfl
@[go_sem] theorem Try.pl_und131 : Try.prog.underlying 131 = some (.slice 4) := by kernel_rfl
@[go_sem] theorem Try.pl_zv131 : zeroV Try.prog 4 = some (.bool false) := by kernel_rfl
@[go_sem] theorem Try.pl_esz131 : eSz Try.prog 131 = some (4, 1) := by kernel_rfl
@[go_sem] theorem Try.pl_einf131 : eInf Try.prog 131 = some (4, 1, 1) := by kernel_rfl
@[go_sem] theorem Try.pl_agg135 : aggN Try.prog 135 = some (none) := by kernel_rfl
@[go_sem] theorem Try.pl_sz135 : szOf Try.prog 135 = some 1 := by kernel_rfl
@[go_sem] theorem Try.pl_zero135 : zeroCs Try.prog 135 = some [.slice none 0 0] := by kernel_rfl
@[go_sem] theorem Try.pl_und135 : Try.prog.underlying 135 = some (.slice 4) := by kernel_rfl
@[go_sem] theorem Try.pl_zv135 : zeroV Try.prog 4 = some (.bool false) := by kernel_rfl
@[go_sem] theorem Try.pl_esz135 : eSz Try.prog 135 = some (4, 1) := by kernel_rfl
@[go_sem] theorem Try.pl_einf135 : eInf Try.prog 135 = some (4, 1, 1) := by kernel_rfl
@[go_sem] theorem Try.pl_agg144 : aggN Try.prog 144 = some (some 4) := by kernel_rfl
@[go_sem] theorem Try.pl_sz144 : szOf Try.prog 144 = some 4 := by kernel_rfl
@[go_sem] theorem Try.pl_zero144 : zeroCs Try.prog 144 = some [.pointer none, .pointer none, .pointer none, .string .empty] := by kernel_rfl
@[go_sem] theorem Try.pl_str144 : structP Try.prog 144 = some ([.pointer none, .pointer none, .pointer none, .string .empty], [(0, 1), (1, 1), (2, 1), (3, 1)]) := by kernel_rfl
@[go_sem] theorem Try.pl_off144x0 : fOff Try.prog 144 0 = some (0, 1) := by kernel_rfl
@[go_sem] theorem Try.pl_part144x0 : fPart Try.prog 144 0 = some (0, none) := by kernel_rfl
@[go_sem] theorem Try.pl_off144x1 : fOff Try.prog 144 1 = some (1, 1) := by kernel_rfl
@[go_sem] theorem Try.pl_part144x1 : fPart Try.prog 144 1 = some (1, none) := by kernel_rfl
@[go_sem] theorem Try.pl_off144x2 : fOff Try.prog 144 2 = some (2, 1) := by kernel_rfl
@[go_sem] theorem Try.pl_part144x2 : fPart Try.prog 144 2 = some (2, none) := by kernel_rfl
@[go_sem] theorem Try.pl_off144x3 : fOff Try.prog 144 3 = some (3, 1) := by kernel_rfl
@[go_sem] theorem Try.pl_part144x3 : fPart Try.prog 144 3 = some (3, none) := by kernel_rfl
@[go_sem] theorem Try.pl_agg145 : aggN Try.prog 145 = some (some 4) := by kernel_rfl
@[go_sem] theorem Try.pl_sz145 : szOf Try.prog 145 = some 4 := by kernel_rfl
@[go_sem] theorem Try.pl_zero145 : zeroCs Try.prog 145 = some [.pointer none, .pointer none, .pointer none, .string .empty] := by kernel_rfl
@[go_sem] theorem Try.pl_str145 : structP Try.prog 145 = some ([.pointer none, .pointer none, .pointer none, .string .empty], [(0, 1), (1, 1), (2, 1), (3, 1)]) := by kernel_rfl
@[go_sem] theorem Try.pl_off145x0 : fOff Try.prog 145 0 = some (0, 1) := by kernel_rfl
@[go_sem] theorem Try.pl_part145x0 : fPart Try.prog 145 0 = some (0, none) := by kernel_rfl
@[go_sem] theorem Try.pl_off145x1 : fOff Try.prog 145 1 = some (1, 1) := by kernel_rfl
@[go_sem] theorem Try.pl_part145x1 : fPart Try.prog 145 1 = some (1, none) := by kernel_rfl
@[go_sem] theorem Try.pl_off145x2 : fOff Try.prog 145 2 = some (2, 1) := by kernel_rfl
@[go_sem] theorem Try.pl_part145x2 : fPart Try.prog 145 2 = some (2, none) := by kernel_rfl
@[go_sem] theorem Try.pl_off145x3 : fOff Try.prog 145 3 = some (3, 1) := by kernel_rfl
@[go_sem] theorem Try.pl_part145x3 : fPart Try.prog 145 3 = some (3, none) := by kernel_rfl
@[go_sem] theorem Try.pl_agg146 : aggN Try.prog 146 = some (some 0) := by kernel_rfl
@[go_sem] theorem Try.pl_sz146 : szOf Try.prog 146 = some 0 := by kernel_rfl
@[go_sem] theorem Try.pl_zero146 : zeroCs Try.prog 146 = some [] := by kernel_rfl
@[go_sem] theorem Try.pl_agg147 : aggN Try.prog 147 = some (some 0) := by kernel_rfl
@[go_sem] theorem Try.pl_sz147 : szOf Try.prog 147 = some 0 := by kernel_rfl
@[go_sem] theorem Try.pl_zero147 : zeroCs Try.prog 147 = some [] := by kernel_rfl
@[go_sem] theorem Try.pl_str147 : structP Try.prog 147 = some ([], [(0, 0)]) := by kernel_rfl
@[go_sem] theorem Try.pl_off147x0 : fOff Try.prog 147 0 = some (0, 0) := by kernel_rfl
@[go_sem] theorem Try.pl_part147x0 : fPart Try.prog 147 0 = some (0, some 0) := by kernel_rfl
@[go_sem] theorem Try.pl_agg148 : aggN Try.prog 148 = some (some 0) := by kernel_rfl
@[go_sem] theorem Try.pl_sz148 : szOf Try.prog 148 = some 0 := by kernel_rfl
@[go_sem] theorem Try.pl_zero148 : zeroCs Try.prog 148 = some [] := by kernel_rfl
@[go_sem] theorem Try.pl_str148 : structP Try.prog 148 = some ([], [(0, 0)]) := by kernel_rfl
@[go_sem] theorem Try.pl_off148x0 : fOff Try.prog 148 0 = some (0, 0) := by kernel_rfl
@[go_sem] theorem Try.pl_part148x0 : fPart Try.prog 148 0 = some (0, some 0) := by kernel_rfl
@[go_sem] theorem Try.pl_agg150 : aggN Try.prog 150 = some (none) := by kernel_rfl
@[go_sem] theorem Try.pl_sz150 : szOf Try.prog 150 = some 1 := by kernel_rfl
@[go_sem] theorem Try.pl_zero150 : zeroCs Try.prog 150 = some [.int .u32 0] := by kernel_rfl
@[go_sem] theorem Try.pl_und150 : Try.prog.underlying 150 = some (.int .u32) := by kernel_rfl
@[go_sem] theorem Try.pl_agg151 : aggN Try.prog 151 = some (none) := by kernel_rfl
@[go_sem] theorem Try.pl_sz151 : szOf Try.prog 151 = some 1 := by kernel_rfl
@[go_sem] theorem Try.pl_zero151 : zeroCs Try.prog 151 = some [.int .u8 0] := by kernel_rfl
@[go_sem] theorem Try.pl_und151 : Try.prog.underlying 151 = some (.int .u8) := by kernel_rfl
@[go_sem] theorem Try.pl_agg152 : aggN Try.prog 152 = some (none) := by kernel_rfl
@[go_sem] theorem Try.pl_sz152 : szOf Try.prog 152 = some 1 := by kernel_rfl
@[go_sem] theorem Try.pl_zero152 : zeroCs Try.prog 152 = some [.int .u8 0] := by kernel_rfl
@[go_sem] theorem Try.pl_und152 : Try.prog.underlying 152 = some (.int .u8) := by kernel_rfl
@[go_sem] theorem Try.pl_agg154 : aggN Try.prog 154 = some (none) := by kernel_rfl
@[go_sem] theorem Try.pl_sz154 : szOf Try.prog 154 = some 1 := by kernel_rfl
@[go_sem] theorem Try.pl_zero154 : zeroCs Try.prog 154 = some [.pointer none] := by kernel_rfl
@[go_sem] theorem Try.pl_agg155 : aggN Try.prog 155 = some (none) := by kernel_rfl
@[go_sem] theorem Try.pl_sz155 : szOf Try.prog 155 = some 1 := by kernel_rfl
@[go_sem] theorem Try.pl_zero155 : zeroCs Try.prog 155 = some [.int .i32 0] := by kernel_rfl
@[go_sem] theorem Try.pl_und155 : Try.prog.underlying 155 = some (.int .i32) := by kernel_rfl
@[go_sem] theorem Try.pl_agg156 : aggN Try.prog 156 = some (none) := by kernel_rfl
@[go_sem] theorem Try.pl_sz156 : szOf Try.prog 156 = some 1 := by kernel_rfl
@[go_sem] theorem Try.pl_zero156 : zeroCs Try.prog 156 = some [.int .i32 0] := by kernel_rfl
@[go_sem] theorem Try.pl_und156 : Try.prog.underlying 156 = some (.int .i32) := by kernel_rfl
@[go_sem] theorem Try.pl_agg157 : aggN Try.prog 157 = some (some 11) := by kernel_rfl
@[go_sem] theorem Try.pl_sz157 : szOf Try.prog 157 = some 11 := by kernel_rfl
@[go_sem] theorem Try.pl_off157x0 : fOff Try.prog 157 0 = some (0, 1) := by kernel_rfl
@[go_sem] theorem Try.pl_part157x0 : fPart Try.prog 157 0 = some (0, none) := by kernel_rfl
@[go_sem] theorem Try.pl_off157x1 : fOff Try.prog 157 1 = some (1, 1) := by kernel_rfl
@[go_sem] theorem Try.pl_part157x1 : fPart Try.prog 157 1 = some (1, none) := by kernel_rfl
@[go_sem] theorem Try.pl_off157x2 : fOff Try.prog 157 2 = some (2, 1) := by kernel_rfl
@[go_sem] theorem Try.pl_part157x2 : fPart Try.prog 157 2 = some (2, none) := by kernel_rfl
@[go_sem] theorem Try.pl_off157x3 : fOff Try.prog 157 3 = some (3, 1) := by kernel_rfl
@[go_sem] theorem Try.pl_part157x3 : fPart Try.prog 157 3 = some (3, none) := by kernel_rfl
@[go_sem] theorem Try.pl_off157x4 : fOff Try.prog 157 4 = some (4, 1) := by kernel_rfl
@[go_sem] theorem Try.pl_part157x4 : fPart Try.prog 157 4 = some (4, none) := by kernel_rfl
@[go_sem] theorem Try.pl_off157x5 : fOff Try.prog 157 5 = some (5, 1) := by kernel_rfl
@[go_sem] theorem Try.pl_part157x5 : fPart Try.prog 157 5 = some (5, none) := by kernel_rfl
@[go_sem] theorem Try.pl_off157x6 : fOff Try.prog 157 6 = some (6, 1) := by kernel_rfl
@[go_sem] theorem Try.pl_part157x6 : fPart Try.prog 157 6 = some (6, none) := by kernel_rfl
@[go_sem] theorem Try.pl_off157x7 : fOff Try.prog 157 7 = some (7, 1) := by kernel_rfl
@[go_sem] theorem Try.pl_part157x7 : fPart Try.prog 157 7 = some (7, none) := by kernel_rfl
@[go_sem] theorem Try.pl_off157x8 : fOff Try.prog 157 8 = some (8, 1) := by kernel_rfl
@[go_sem] theorem Try.pl_part157x8 : fPart Try.prog 157 8 = some (8, none) := by kernel_rfl
@[go_sem] theorem Try.pl_off157x9 : fOff Try.prog 157 9 = some (9, 1) := by kernel_rfl
@[go_sem] theorem Try.pl_part157x9 : fPart Try.prog 157 9 = some (9, none) := by kernel_rfl
@[go_sem] theorem Try.pl_off157x10 : fOff Try.prog 157 10 = some (10, 1) := by kernel_rfl
@[go_sem] theorem Try.pl_part157x10 : fPart Try.prog 157 10 = some (10, none) := by kernel_rfl
@[go_sem] theorem Try.pl_agg158 : aggN Try.prog 158 = some (some 11) := by kernel_rfl
@[go_sem] theorem Try.pl_sz158 : szOf Try.prog 158 = some 11 := by kernel_rfl
@[go_sem] theorem Try.pl_off158x0 : fOff Try.prog 158 0 = some (0, 1) := by kernel_rfl
@[go_sem] theorem Try.pl_part158x0 : fPart Try.prog 158 0 = some (0, none) := by kernel_rfl
@[go_sem] theorem Try.pl_off158x1 : fOff Try.prog 158 1 = some (1, 1) := by kernel_rfl
@[go_sem] theorem Try.pl_part158x1 : fPart Try.prog 158 1 = some (1, none) := by kernel_rfl
@[go_sem] theorem Try.pl_off158x2 : fOff Try.prog 158 2 = some (2, 1) := by kernel_rfl
@[go_sem] theorem Try.pl_part158x2 : fPart Try.prog 158 2 = some (2, none) := by kernel_rfl
@[go_sem] theorem Try.pl_off158x3 : fOff Try.prog 158 3 = some (3, 1) := by kernel_rfl
@[go_sem] theorem Try.pl_part158x3 : fPart Try.prog 158 3 = some (3, none) := by kernel_rfl
@[go_sem] theorem Try.pl_off158x4 : fOff Try.prog 158 4 = some (4, 1) := by kernel_rfl
@[go_sem] theorem Try.pl_part158x4 : fPart Try.prog 158 4 = some (4, none) := by kernel_rfl
@[go_sem] theorem Try.pl_off158x5 : fOff Try.prog 158 5 = some (5, 1) := by kernel_rfl
@[go_sem] theorem Try.pl_part158x5 : fPart Try.prog 158 5 = some (5, none) := by kernel_rfl
@[go_sem] theorem Try.pl_off158x6 : fOff Try.prog 158 6 = some (6, 1) := by kernel_rfl
@[go_sem] theorem Try.pl_part158x6 : fPart Try.prog 158 6 = some (6, none) := by kernel_rfl
@[go_sem] theorem Try.pl_off158x7 : fOff Try.prog 158 7 = some (7, 1) := by kernel_rfl
@[go_sem] theorem Try.pl_part158x7 : fPart Try.prog 158 7 = some (7, none) := by kernel_rfl
@[go_sem] theorem Try.pl_off158x8 : fOff Try.prog 158 8 = some (8, 1) := by kernel_rfl
@[go_sem] theorem Try.pl_part158x8 : fPart Try.prog 158 8 = some (8, none) := by kernel_rfl
@[go_sem] theorem Try.pl_off158x9 : fOff Try.prog 158 9 = some (9, 1) := by kernel_rfl
@[go_sem] theorem Try.pl_part158x9 : fPart Try.prog 158 9 = some (9, none) := by kernel_rfl
@[go_sem] theorem Try.pl_off158x10 : fOff Try.prog 158 10 = some (10, 1) := by kernel_rfl
@[go_sem] theorem Try.pl_part158x10 : fPart Try.prog 158 10 = some (10, none) := by kernel_rfl
@[go_sem] theorem Try.pl_rs0 : Try.f0.results.toList = [] := by kernel_rfl
@[go_sem] theorem Try.pl_rs1 : Try.f1.results.toList = [] := by kernel_rfl
@[go_sem] theorem Try.pl_rs2 : Try.f2.results.toList = [] := by kernel_rfl
@[go_sem] theorem Try.pl_rs3 : Try.f3.results.toList = [.tmp 2] := by kernel_rfl
@[go_sem] theorem Try.pl_rs4 : Try.f4.results.toList = [.tmp 4] := by kernel_rfl
@[go_sem] theorem Try.pl_rs5 : Try.f5.results.toList = [.tmp 0] := by kernel_rfl
@[go_sem] theorem Try.pl_rs6 : Try.f6.results.toList = [.tmp 2] := by kernel_rfl
@[go_sem] theorem Try.pl_rs7 : Try.f7.results.toList = [.tmp 2] := by kernel_rfl
@[go_sem] theorem Try.pl_rs8 : Try.f8.results.toList = [.tmp 6] := by kernel_rfl
@[go_sem] theorem Try.pl_rs9 : Try.f9.results.toList = [.tmp 6] := by kernel_rfl
@[go_sem] theorem Try.pl_rs10 : Try.f10.results.toList = [.tmp 4] := by kernel_rfl
@[go_sem] theorem Try.pl_rs11 : Try.f11.results.toList = [.tmp 2] := by kernel_rfl
@[go_sem] theorem Try.pl_rs12 : Try.f12.results.toList = [.cell 2 25] := by kernel_rfl
@[go_sem] theorem Try.pl_rs13 : Try.f13.results.toList = [.tmp 2] := by kernel_rfl
@[go_sem] theorem Try.pl_rs14 : Try.f14.results.toList = [.tmp 4] := by kernel_rfl
@[go_sem] theorem Try.pl_rs15 : Try.f15.results.toList = [.cell 4 40, .tmp 5] := by kernel_rfl
@[go_sem] theorem Try.pl_rs16 : Try.f16.results.toList = [.cell 2 40] := by kernel_rfl
@[go_sem] theorem Try.pl_rs17 : Try.f17.results.toList = [.cell 2 44] := by kernel_rfl
@[go_sem] theorem Try.pl_rs18 : Try.f18.results.toList = [.cell 4 40, .tmp 5] := by kernel_rfl
@[go_sem] theorem Try.pl_rs19 : Try.f19.results.toList = [.tmp 4] := by kernel_rfl
@[go_sem] theorem Try.pl_rs20 : Try.f20.results.toList = [.tmp 4] := by kernel_rfl
@[go_sem] theorem Try.pl_rs21 : Try.f21.results.toList = [.tmp 4] := by kernel_rfl
@[go_sem] theorem Try.pl_rs22 : Try.f22.results.toList = [.cell 0 53] := by kernel_rfl
@[go_sem] theorem Try.pl_rs23 : Try.f23.results.toList = [.cell 0 53] := by kernel_rfl
@[go_sem] theorem Try.pl_rs24 : Try.f24.results.toList = [.tmp 4] := by kernel_rfl
@[go_sem] theorem Try.pl_rs25 : Try.f25.results.toList = [.tmp 4] := by kernel_rfl
@[go_sem] theorem Try.pl_rs26 : Try.f26.results.toList = [.tmp 4] := by kernel_rfl
@[go_sem] theorem Try.pl_rs27 : Try.f27.results.toList = [.cell 2 40, .tmp 3] := by kernel_rfl
@[go_sem] theorem Try.pl_rs28 : Try.f28.results.toList = [.cell 2 40, .tmp 3] := by kernel_rfl
@[go_sem] theorem Try.pl_rs29 : Try.f29.results.toList = [.tmp 4] := by kernel_rfl
@[go_sem] theorem Try.pl_rs30 : Try.f30.results.toList = [.cell 2 53, .tmp 3] := by kernel_rfl
@[go_sem] theorem Try.pl_rs31 : Try.f31.results.toList = [.cell 2 53] := by kernel_rfl
@[go_sem] theorem Try.pl_rs32 : Try.f32.results.toList = [.cell 2 53, .tmp 3] := by kernel_rfl
@[go_sem] theorem Try.pl_rs33 : Try.f33.results.toList = [.cell 6 53, .tmp 7] := by kernel_rfl
@[go_sem] theorem Try.pl_rs34 : Try.f34.results.toList = [.cell 6 53, .tmp 7] := by kernel_rfl
@[go_sem] theorem Try.pl_rs35 : Try.f35.results.toList = [.cell 6 53, .tmp 7] := by kernel_rfl
@[go_sem] theorem Try.pl_rs36 : Try.f36.results.toList = [.cell 6 53, .tmp 7] := by kernel_rfl
@[go_sem] theorem Try.pl_rs37 : Try.f37.results.toList = [.cell 4 53, .tmp 5] := by kernel_rfl
@[go_sem] theorem Try.pl_rs38 : Try.f38.results.toList = [.cell 4 53, .tmp 5] := by kernel_rfl
@[go_sem] theorem Try.pl_rs39 : Try.f39.results.toList = [.tmp 2] := by kernel_rfl
@[go_sem] theorem Try.pl_rs40 : Try.f40.results.toList = [.tmp 4] := by kernel_rfl
@[go_sem] theorem Try.pl_rs41 : Try.f41.results.toList = [.tmp 2] := by kernel_rfl
@[go_sem] theorem Try.pl_rs42 : Try.f42.results.toList = [.tmp 4] := by kernel_rfl
@[go_sem] theorem Try.pl_rs43 : Try.f43.results.toList = [.tmp 4] := by kernel_rfl
@[go_sem] theorem Try.pl_rs44 : Try.f44.results.toList = [.tmp 4] := by kernel_rfl
@[go_sem] theorem Try.pl_rs45 : Try.f45.results.toList = [.cell 2 40] := by kernel_rfl
@[go_sem] theorem Try.pl_rs46 : Try.f46.results.toList = [.tmp 2] := by kernel_rfl
@[go_sem] theorem Try.pl_rs47 : Try.f47.results.toList = [.cell 2 37] := by kernel_rfl
@[go_sem] theorem Try.pl_rs48 : Try.f48.results.toList = [.tmp 2] := by kernel_rfl
@[go_sem] theorem Try.pl_rs49 : Try.f49.results.toList = [.cell 2 40] := by kernel_rfl
@[go_sem] theorem Try.pl_rs50 : Try.f50.results.toList = [.tmp 2] := by kernel_rfl
@[go_sem] theorem Try.pl_rs51 : Try.f51.results.toList = [.tmp 4] := by kernel_rfl
@[go_sem] theorem Try.pl_rs52 : Try.f52.results.toList = [.tmp 4] := by kernel_rfl
@[go_sem] theorem Try.pl_rs53 : Try.f53.results.toList = [.tmp 4] := by kernel_rfl
@[go_sem] theorem Try.pl_rs54 : Try.f54.results.toList = [.tmp 4] := by kernel_rfl
@[go_sem] theorem Try.pl_rs55 : Try.f55.results.toList = [.cell 6 53, .tmp 7] := by kernel_rfl
@[go_sem] theorem Try.pl_rs56 : Try.f56.results.toList = [.cell 4 25] := by kernel_rfl
@[go_sem] theorem Try.pl_rs57 : Try.f57.results.toList = [.cell 6 53, .tmp 7] := by kernel_rfl
@[go_sem] theorem Try.pl_rs58 : Try.f58.results.toList = [.cell 4 25] := by kernel_rfl
@[go_sem] theorem Try.pl_rs59 : Try.f59.results.toList = [.tmp 4] := by kernel_rfl
@[go_sem] theorem Try.pl_rs60 : Try.f60.results.toList = [.tmp 4] := by kernel_rfl
@[go_sem] theorem Try.pl_rs61 : Try.f61.results.toList = [.tmp 4] := by kernel_rfl
@[go_sem] theorem Try.pl_rs62 : Try.f62.results.toList = [.tmp 4] := by kernel_rfl
@[go_sem] theorem Try.pl_rs63 : Try.f63.results.toList = [.cell 4 44, .tmp 5] := by kernel_rfl
@[go_sem] theorem Try.pl_rs64 : Try.f64.results.toList = [.tmp 2] := by kernel_rfl
@[go_sem] theorem Try.pl_rs65 : Try.f65.results.toList = [.cell 4 44, .tmp 5] := by kernel_rfl
@[go_sem] theorem Try.pl_rs66 : Try.f66.results.toList = [.tmp 2] := by kernel_rfl
@[go_sem] theorem Try.pl_rs67 : Try.f67.results.toList = [.tmp 4] := by kernel_rfl
@[go_sem] theorem Try.pl_rs68 : Try.f68.results.toList = [.cell 2 53] := by kernel_rfl
@[go_sem] theorem Try.pl_rs69 : Try.f69.results.toList = [.tmp 2] := by kernel_rfl
@[go_sem] theorem Try.pl_rs70 : Try.f70.results.toList = [.cell 2 40, .tmp 3] := by kernel_rfl
@[go_sem] theorem Try.pl_rs71 : Try.f71.results.toList = [.cell 2 50] := by kernel_rfl
@[go_sem] theorem Try.pl_rs72 : Try.f72.results.toList = [.tmp 2] := by kernel_rfl
@[go_sem] theorem Try.pl_rs73 : Try.f73.results.toList = [.cell 2 40, .tmp 3] := by kernel_rfl
@[go_sem] theorem Try.pl_rs74 : Try.f74.results.toList = [.cell 8 53, .tmp 9] := by kernel_rfl
@[go_sem] theorem Try.pl_rs75 : Try.f75.results.toList = [.tmp 2] := by kernel_rfl
@[go_sem] theorem Try.pl_rs76 : Try.f76.results.toList = [.cell 4 50, .tmp 5] := by kernel_rfl
@[go_sem] theorem Try.pl_rs77 : Try.f77.results.toList = [.cell 4 50, .tmp 5] := by kernel_rfl
@[go_sem] theorem Try.pl_rs78 : Try.f78.results.toList = [.tmp 2] := by kernel_rfl
@[go_sem] theorem Try.pl_rs79 : Try.f79.results.toList = [.tmp 4, .tmp 5] := by kernel_rfl
@[go_sem] theorem Try.pl_rs80 : Try.f80.results.toList = [.tmp 2] := by kernel_rfl
@[go_sem] theorem Try.pl_rs81 : Try.f81.results.toList = [.cell 2 53] := by kernel_rfl
@[go_sem] theorem Try.pl_rs82 : Try.f82.results.toList = [.tmp 2] := by kernel_rfl
@[go_sem] theorem Try.pl_rs83 : Try.f83.results.toList = [.tmp 2] := by kernel_rfl
@[go_sem] theorem Try.pl_rs84 : Try.f84.results.toList = [.tmp 4, .tmp 5] := by kernel_rfl
@[go_sem] theorem Try.pl_rs85 : Try.f85.results.toList = [.tmp 6] := by kernel_rfl
@[go_sem] theorem Try.pl_rs86 : Try.f86.results.toList = [.tmp 6] := by kernel_rfl
@[go_sem] theorem Try.pl_rs87 : Try.f87.results.toList = [.tmp 2] := by kernel_rfl
@[go_sem] theorem Try.pl_rs88 : Try.f88.results.toList = [.tmp 2] := by kernel_rfl
@[go_sem] theorem Try.pl_rs89 : Try.f89.results.toList = [.tmp 4] := by kernel_rfl
@[go_sem] theorem Try.pl_rs90 : Try.f90.results.toList = [.tmp 2] := by kernel_rfl
@[go_sem] theorem Try.pl_rs91 : Try.f91.results.toList = [.tmp 2] := by kernel_rfl
@[go_sem] theorem Try.pl_rs92 : Try.f92.results.toList = [.tmp 4] := by kernel_rfl
@[go_sem] theorem Try.pl_rs93 : Try.f93.results.toList = [.tmp 4] := by kernel_rfl
@[go_sem] theorem Try.pl_rs94 : Try.f94.results.toList = [.tmp 2] := by kernel_rfl
@[go_sem] theorem Try.pl_rs95 : Try.f95.results.toList = [.tmp 2] := by kernel_rfl
@[go_sem] theorem Try.pl_rs96 : Try.f96.results.toList = [.tmp 6, .tmp 7] := by kernel_rfl
@[go_sem] theorem Try.pl_rs97 : Try.f97.results.toList = [.tmp 2] := by kernel_rfl
@[go_sem] theorem Try.pl_rs98 : Try.f98.results.toList = [.tmp 2] := by kernel_rfl
@[go_sem] theorem Try.pl_rs99 : Try.f99.results.toList = [.tmp 6, .tmp 7] := by kernel_rfl
@[go_sem] theorem Try.pl_rs100 : Try.f100.results.toList = [.tmp 4] := by kernel_rfl
@[go_sem] theorem Try.pl_rs101 : Try.f101.results.toList = [.tmp 4] := by kernel_rfl
@[go_sem] theorem Try.pl_rs102 : Try.f102.results.toList = [.cell 2 40, .tmp 3] := by kernel_rfl
@[go_sem] theorem Try.pl_rs103 : Try.f103.results.toList = [.cell 2 40, .tmp 3] := by kernel_rfl
@[go_sem] theorem Try.pl_rs104 : Try.f104.results.toList = [.tmp 4] := by kernel_rfl
@[go_sem] theorem Try.pl_rs105 : Try.f105.results.toList = [.tmp 4] := by kernel_rfl
@[go_sem] theorem Try.pl_rs106 : Try.f106.results.toList = [.tmp 6] := by kernel_rfl
@[go_sem] theorem Try.pl_rs107 : Try.f107.results.toList = [.tmp 4] := by kernel_rfl
@[go_sem] theorem Try.pl_rs108 : Try.f108.results.toList = [.tmp 6] := by kernel_rfl
@[go_sem] theorem Try.pl_rs109 : Try.f109.results.toList = [.tmp 2] := by kernel_rfl
@[go_sem] theorem Try.pl_rs110 : Try.f110.results.toList = [.tmp 2] := by kernel_rfl
@[go_sem] theorem Try.pl_rs111 : Try.f111.results.toList = [.cell 2 107] := by kernel_rfl
@[go_sem] theorem Try.pl_rs112 : Try.f112.results.toList = [.tmp 2] := by kernel_rfl
@[go_sem] theorem Try.pl_rs113 : Try.f113.results.toList = [.tmp 2] := by kernel_rfl
@[go_sem] theorem Try.pl_rs114 : Try.f114.results.toList = [.tmp 2] := by kernel_rfl
@[go_sem] theorem Try.pl_rs115 : Try.f115.results.toList = [.tmp 4, .tmp 5] := by kernel_rfl
@[go_sem] theorem Try.pl_rs116 : Try.f116.results.toList = [.tmp 6] := by kernel_rfl
@[go_sem] theorem Try.pl_rs117 : Try.f117.results.toList = [.tmp 6] := by kernel_rfl
@[go_sem] theorem Try.pl_rs118 : Try.f118.results.toList = [.tmp 6] := by kernel_rfl
@[go_sem] theorem Try.pl_rs119 : Try.f119.results.toList = [.tmp 6, .tmp 7] := by kernel_rfl
@[go_sem] theorem Try.pl_rs120 : Try.f120.results.toList = [.tmp 2] := by kernel_rfl
@[go_sem] theorem Try.pl_rs121 : Try.f121.results.toList = [.tmp 6, .tmp 7] := by kernel_rfl
@[go_sem] theorem Try.pl_rs122 : Try.f122.results.toList = [.tmp 4] := by kernel_rfl
@[go_sem] theorem Try.pl_rs123 : Try.f123.results.toList = [.tmp 4] := by kernel_rfl
@[go_sem] theorem Try.pl_rs124 : Try.f124.results.toList = [.tmp 2] := by kernel_rfl
@[go_sem] theorem Try.pl_rs125 : Try.f125.results.toList = [.tmp 6] := by kernel_rfl
@[go_sem] theorem Try.pl_rs126 : Try.f126.results.toList = [.tmp 4] := by kernel_rfl
@[go_sem] theorem Try.pl_rs127 : Try.f127.results.toList = [.tmp 4, .tmp 5] := by kernel_rfl
@[go_sem] theorem Try.pl_rs128 : Try.f128.results.toList = [.tmp 4] := by kernel_rfl
@[go_sem] theorem Try.pl_rs129 : Try.f129.results.toList = [.tmp 2] := by kernel_rfl
@[go_sem] theorem Try.pl_rs130 : Try.f130.results.toList = [.tmp 6] := by kernel_rfl
@[go_sem] theorem Try.pl_rs131 : Try.f131.results.toList = [.tmp 4] := by kernel_rfl
@[go_sem] theorem Try.pl_rs132 : Try.f132.results.toList = [.tmp 6] := by kernel_rfl
@[go_sem] theorem Try.pl_rs133 : Try.f133.results.toList = [.tmp 4, .tmp 5] := by kernel_rfl
@[go_sem] theorem Try.pl_rs134 : Try.f134.results.toList = [.tmp 4] := by kernel_rfl
@[go_sem] theorem Try.pl_rs135 : Try.f135.results.toList = [.cell 6 44, .tmp 7] := by kernel_rfl
@[go_sem] theorem Try.pl_rs136 : Try.f136.results.toList = [.cell 6 44, .tmp 7] := by kernel_rfl
@[go_sem] theorem Try.pl_rs137 : Try.f137.results.toList = [] := by kernel_rfl
@[go_sem] theorem Try.pl_rs138 : Try.f138.results.toList = [] := by kernel_rfl
@[go_sem] theorem Try.pl_rs139 : Try.f139.results.toList = [] := by kernel_rfl
@[go_sem] theorem Try.pl_rs140 : Try.f140.results.toList = [] := by kernel_rfl
@[go_sem] theorem Try.pl_rs141 : Try.f141.results.toList = [] := by kernel_rfl
@[go_sem] theorem Try.pl_rs142 : Try.f142.results.toList = [] := by kernel_rfl
@[go_sem] theorem Try.pl_rs143 : Try.f143.results.toList = [] := by kernel_rfl
@[go_sem] theorem Try.pl_rs144 : Try.f144.results.toList = [] := by kernel_rfl
@[go_sem] theorem Try.pl_rs145 : Try.f145.results.toList = [] := by kernel_rfl
@[go_sem] theorem Try.pl_rs146 : Try.f146.results.toList = [] := by kernel_rfl
@[go_sem] theorem Try.pl_rs147 : Try.f147.results.toList = [] := by kernel_rfl
@[go_sem] theorem Try.pl_rs148 : Try.f148.results.toList = [] := by kernel_rfl
@[go_sem] theorem Try.pl_rs149 : Try.f149.results.toList = [] := by kernel_rfl
@[go_sem] theorem Try.pl_rs150 : Try.f150.results.toList = [] := by kernel_rfl
@[go_sem] theorem Try.pl_rs151 : Try.f151.results.toList = [] := by kernel_rfl
@[go_sem] theorem Try.pl_rs152 : Try.f152.results.toList = [] := by kernel_rfl
theorem Try.pl_follows : Try.prog.follows .mixedOrders = true := by kernel_rfl
end Go.Proofs
