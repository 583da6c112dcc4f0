/-
  Facts on the types of this translation: cells, places, zero values. Printed by a program.
-/
import Derived.Test.YtdagoiedlaaimaaRows
import Derived.Test.YtdagoiedlaaimaaEf
import Derived.KernelRfl
namespace Go.Proofs
open Go.PL
@[go_sem] theorem Try.pl_agg2 : aggN Try.prog 2 = some (none) := by kernel_rfl
@[go_sem] theorem Try.pl_sz2 : szOf Try.prog 2 = some 1 := by kernel_rfl
@[go_sem] theorem Try.pl_zero2 : zeroCs Try.prog 2 = some [.int .i64 0] := by kernel_rfl
@[go_sem] theorem Try.pl_und2 : Try.prog.underlying 2 = some (.int .i64) := by kernel_rfl
@[go_sem] theorem Try.pl_agg3 : aggN Try.prog 3 = some (none) := by kernel_rfl
@[go_sem] theorem Try.pl_sz3 : szOf Try.prog 3 = some 1 := by kernel_rfl
@[go_sem] theorem Try.pl_zero3 : zeroCs Try.prog 3 = some [.int .i64 0] := by kernel_rfl
@[go_sem] theorem Try.pl_und3 : Try.prog.underlying 3 = some (.int .i64) := by kernel_rfl
@[go_sem] theorem Try.pl_agg4 : aggN Try.prog 4 = some (none) := by kernel_rfl
@[go_sem] theorem Try.pl_sz4 : szOf Try.prog 4 = some 1 := by kernel_rfl
@[go_sem] theorem Try.pl_zero4 : zeroCs Try.prog 4 = some [.bool false] := by kernel_rfl
@[go_sem] theorem Try.pl_und4 : Try.prog.underlying 4 = some .bool := by kernel_rfl
@[go_sem] theorem Try.pl_agg5 : aggN Try.prog 5 = some (none) := by kernel_rfl
@[go_sem] theorem Try.pl_sz5 : szOf Try.prog 5 = some 1 := by kernel_rfl
@[go_sem] theorem Try.pl_zero5 : zeroCs Try.prog 5 = some [.int .u8 0] := by kernel_rfl
@[go_sem] theorem Try.pl_und5 : Try.prog.underlying 5 = some (.int .u8) := by kernel_rfl
@[go_sem] theorem Try.pl_agg6 : aggN Try.prog 6 = some (none) := by kernel_rfl
@[go_sem] theorem Try.pl_sz6 : szOf Try.prog 6 = some 1 := by kernel_rfl
@[go_sem] theorem Try.pl_zero6 : zeroCs Try.prog 6 = some [.int .u8 0] := by kernel_rfl
@[go_sem] theorem Try.pl_und6 : Try.prog.underlying 6 = some (.int .u8) := by kernel_rfl
@[go_sem] theorem Try.pl_agg7 : aggN Try.prog 7 = some (some 4) := by kernel_rfl
@[go_sem] theorem Try.pl_sz7 : szOf Try.prog 7 = some 4 := by kernel_rfl
@[go_sem] theorem Try.pl_zero7 : zeroCs Try.prog 7 = some [.int .i64 0, .int .i64 0, .bool false, .int .u8 0] := by kernel_rfl
@[go_sem] theorem Try.pl_str7 : structP Try.prog 7 = some ([.int .i64 0, .int .i64 0, .bool false, .int .u8 0], [(0, 1), (1, 1), (2, 1), (3, 1)]) := by kernel_rfl
@[go_sem] theorem Try.pl_off7x0 : fOff Try.prog 7 0 = some (0, 1) := by kernel_rfl
@[go_sem] theorem Try.pl_part7x0 : fPart Try.prog 7 0 = some (0, none) := by kernel_rfl
@[go_sem] theorem Try.pl_off7x1 : fOff Try.prog 7 1 = some (1, 1) := by kernel_rfl
@[go_sem] theorem Try.pl_part7x1 : fPart Try.prog 7 1 = some (1, none) := by kernel_rfl
@[go_sem] theorem Try.pl_off7x2 : fOff Try.prog 7 2 = some (2, 1) := by kernel_rfl
@[go_sem] theorem Try.pl_part7x2 : fPart Try.prog 7 2 = some (2, none) := by kernel_rfl
@[go_sem] theorem Try.pl_off7x3 : fOff Try.prog 7 3 = some (3, 1) := by kernel_rfl
@[go_sem] theorem Try.pl_part7x3 : fPart Try.prog 7 3 = some (3, none) := by kernel_rfl
@[go_sem] theorem Try.pl_agg8 : aggN Try.prog 8 = some (some 4) := by kernel_rfl
@[go_sem] theorem Try.pl_sz8 : szOf Try.prog 8 = some 4 := by kernel_rfl
@[go_sem] theorem Try.pl_zero8 : zeroCs Try.prog 8 = some [.int .i64 0, .int .i64 0, .bool false, .int .u8 0] := by kernel_rfl
@[go_sem] theorem Try.pl_str8 : structP Try.prog 8 = some ([.int .i64 0, .int .i64 0, .bool false, .int .u8 0], [(0, 1), (1, 1), (2, 1), (3, 1)]) := by kernel_rfl
@[go_sem] theorem Try.pl_off8x0 : fOff Try.prog 8 0 = some (0, 1) := by kernel_rfl
@[go_sem] theorem Try.pl_part8x0 : fPart Try.prog 8 0 = some (0, none) := by kernel_rfl
@[go_sem] theorem Try.pl_off8x1 : fOff Try.prog 8 1 = some (1, 1) := by kernel_rfl
@[go_sem] theorem Try.pl_part8x1 : fPart Try.prog 8 1 = some (1, none) := by kernel_rfl
@[go_sem] theorem Try.pl_off8x2 : fOff Try.prog 8 2 = some (2, 1) := by kernel_rfl
@[go_sem] theorem Try.pl_part8x2 : fPart Try.prog 8 2 = some (2, none) := by kernel_rfl
@[go_sem] theorem Try.pl_off8x3 : fOff Try.prog 8 3 = some (3, 1) := by kernel_rfl
@[go_sem] theorem Try.pl_part8x3 : fPart Try.prog 8 3 = some (3, none) := by kernel_rfl
@[go_sem] theorem Try.pl_agg9 : aggN Try.prog 9 = some (none) := by kernel_rfl
@[go_sem] theorem Try.pl_sz9 : szOf Try.prog 9 = some 1 := by kernel_rfl
@[go_sem] theorem Try.pl_zero9 : zeroCs Try.prog 9 = some [.string .empty] := by kernel_rfl
@[go_sem] theorem Try.pl_und9 : Try.prog.underlying 9 = some .string := by kernel_rfl
@[go_sem] theorem Try.pl_agg10 : aggN Try.prog 10 = some (none) := by kernel_rfl
@[go_sem] theorem Try.pl_sz10 : szOf Try.prog 10 = some 1 := by kernel_rfl
@[go_sem] theorem Try.pl_zero10 : zeroCs Try.prog 10 = some [.string .empty] := by kernel_rfl
@[go_sem] theorem Try.pl_und10 : Try.prog.underlying 10 = some .string := by kernel_rfl
@[go_sem] theorem Try.pl_agg11 : aggN Try.prog 11 = some (none) := by kernel_rfl
@[go_sem] theorem Try.pl_sz11 : szOf Try.prog 11 = some 1 := by kernel_rfl
@[go_sem] theorem Try.pl_zero11 : zeroCs Try.prog 11 = some [.string .empty] := by kernel_rfl
@[go_sem] theorem Try.pl_und11 : Try.prog.underlying 11 = some .string := by kernel_rfl
@[go_sem] theorem Try.pl_agg12 : aggN Try.prog 12 = some (none) := by kernel_rfl
@[go_sem] theorem Try.pl_sz12 : szOf Try.prog 12 = some 1 := by kernel_rfl
@[go_sem] theorem Try.pl_zero12 : zeroCs Try.prog 12 = some [.int .u64 0] := by kernel_rfl
@[go_sem] theorem Try.pl_und12 : Try.prog.underlying 12 = some (.int .u64) := by kernel_rfl
@[go_sem] theorem Try.pl_agg13 : aggN Try.prog 13 = some (some 2) := by kernel_rfl
@[go_sem] theorem Try.pl_sz13 : szOf Try.prog 13 = some 2 := by kernel_rfl
@[go_sem] theorem Try.pl_zero13 : zeroCs Try.prog 13 = some [.string .empty, .int .u64 0] := by kernel_rfl
@[go_sem] theorem Try.pl_str13 : structP Try.prog 13 = some ([.string .empty, .int .u64 0], [(0, 1), (1, 1)]) := by kernel_rfl
@[go_sem] theorem Try.pl_off13x0 : fOff Try.prog 13 0 = some (0, 1) := by kernel_rfl
@[go_sem] theorem Try.pl_part13x0 : fPart Try.prog 13 0 = some (0, none) := by kernel_rfl
@[go_sem] theorem Try.pl_off13x1 : fOff Try.prog 13 1 = some (1, 1) := by kernel_rfl
@[go_sem] theorem Try.pl_part13x1 : fPart Try.prog 13 1 = some (1, none) := by kernel_rfl
@[go_sem] theorem Try.pl_agg14 : aggN Try.prog 14 = some (some 2) := by kernel_rfl
@[go_sem] theorem Try.pl_sz14 : szOf Try.prog 14 = some 2 := by kernel_rfl
@[go_sem] theorem Try.pl_zero14 : zeroCs Try.prog 14 = some [.string .empty, .int .u64 0] := by kernel_rfl
@[go_sem] theorem Try.pl_str14 : structP Try.prog 14 = some ([.string .empty, .int .u64 0], [(0, 1), (1, 1)]) := by kernel_rfl
@[go_sem] theorem Try.pl_off14x0 : fOff Try.prog 14 0 = some (0, 1) := by kernel_rfl
@[go_sem] theorem Try.pl_part14x0 : fPart Try.prog 14 0 = some (0, none) := by kernel_rfl
@[go_sem] theorem Try.pl_off14x1 : fOff Try.prog 14 1 = some (1, 1) := by kernel_rfl
@[go_sem] theorem Try.pl_part14x1 : fPart Try.prog 14 1 = some (1, none) := by kernel_rfl
@[go_sem] theorem Try.pl_agg15 : aggN Try.prog 15 = some (none) := by kernel_rfl
@[go_sem] theorem Try.pl_sz15 : szOf Try.prog 15 = some 1 := by kernel_rfl
@[go_sem] theorem Try.pl_zero15 : zeroCs Try.prog 15 = some [.pointer none] := by kernel_rfl
@[go_sem] theorem Try.pl_agg16 : aggN Try.prog 16 = some (none) := by kernel_rfl
@[go_sem] theorem Try.pl_sz16 : szOf Try.prog 16 = some 1 := by kernel_rfl
@[go_sem] theorem Try.pl_zero16 : zeroCs Try.prog 16 = some [.pointer none] := by kernel_rfl
@[go_sem] theorem Try.pl_agg17 : aggN Try.prog 17 = some (none) := by kernel_rfl
@[go_sem] theorem Try.pl_sz17 : szOf Try.prog 17 = some 1 := by kernel_rfl
@[go_sem] theorem Try.pl_zero17 : zeroCs Try.prog 17 = some [.pointer none] := by kernel_rfl
@[go_sem] theorem Try.pl_agg18 : aggN Try.prog 18 = some (some 1) := by kernel_rfl
@[go_sem] theorem Try.pl_sz18 : szOf Try.prog 18 = some 1 := by kernel_rfl
@[go_sem] theorem Try.pl_zero18 : zeroCs Try.prog 18 = some [.pointer none] := by kernel_rfl
@[go_sem] theorem Try.pl_str18 : structP Try.prog 18 = some ([.pointer none], [(0, 1)]) := by kernel_rfl
@[go_sem] theorem Try.pl_off18x0 : fOff Try.prog 18 0 = some (0, 1) := by kernel_rfl
@[go_sem] theorem Try.pl_part18x0 : fPart Try.prog 18 0 = some (0, none) := by kernel_rfl
@[go_sem] theorem Try.pl_agg19 : aggN Try.prog 19 = some (some 1) := by kernel_rfl
@[go_sem] theorem Try.pl_sz19 : szOf Try.prog 19 = some 1 := by kernel_rfl
@[go_sem] theorem Try.pl_zero19 : zeroCs Try.prog 19 = some [.pointer none] := by kernel_rfl
@[go_sem] theorem Try.pl_str19 : structP Try.prog 19 = some ([.pointer none], [(0, 1)]) := by kernel_rfl
@[go_sem] theorem Try.pl_off19x0 : fOff Try.prog 19 0 = some (0, 1) := by kernel_rfl
@[go_sem] theorem Try.pl_part19x0 : fPart Try.prog 19 0 = some (0, none) := by kernel_rfl
@[go_sem] theorem Try.pl_agg21 : aggN Try.prog 21 = some (none) := by kernel_rfl
@[go_sem] theorem Try.pl_sz21 : szOf Try.prog 21 = some 1 := by kernel_rfl
@[go_sem] theorem Try.pl_zero21 : zeroCs Try.prog 21 = some [.int .i32 0] := by kernel_rfl
@[go_sem] theorem Try.pl_und21 : Try.prog.underlying 21 = some (.int .i32) := by kernel_rfl
@[go_sem] theorem Try.pl_agg22 : aggN Try.prog 22 = some (some 3) := by kernel_rfl
@[go_sem] theorem Try.pl_sz22 : szOf Try.prog 22 = some 3 := by kernel_rfl
@[go_sem] theorem Try.pl_zero22 : zeroCs Try.prog 22 = some [.int .i64 0, .int .i64 0, .int .i64 0] := by kernel_rfl
@[go_sem] theorem Try.pl_str22 : structP Try.prog 22 = some ([.int .i64 0, .int .i64 0, .int .i64 0], [(0, 1), (1, 1), (2, 1)]) := by kernel_rfl
@[go_sem] theorem Try.pl_off22x0 : fOff Try.prog 22 0 = some (0, 1) := by kernel_rfl
@[go_sem] theorem Try.pl_part22x0 : fPart Try.prog 22 0 = some (0, none) := by kernel_rfl
@[go_sem] theorem Try.pl_off22x1 : fOff Try.prog 22 1 = some (1, 1) := by kernel_rfl
@[go_sem] theorem Try.pl_part22x1 : fPart Try.prog 22 1 = some (1, none) := by kernel_rfl
@[go_sem] theorem Try.pl_off22x2 : fOff Try.prog 22 2 = some (2, 1) := by kernel_rfl
@[go_sem] theorem Try.pl_part22x2 : fPart Try.prog 22 2 = some (2, none) := by kernel_rfl
@[go_sem] theorem Try.pl_agg23 : aggN Try.prog 23 = some (some 3) := by kernel_rfl
@[go_sem] theorem Try.pl_sz23 : szOf Try.prog 23 = some 3 := by kernel_rfl
@[go_sem] theorem Try.pl_zero23 : zeroCs Try.prog 23 = some [.int .i64 0, .int .i64 0, .int .i64 0] := by kernel_rfl
@[go_sem] theorem Try.pl_str23 : structP Try.prog 23 = some ([.int .i64 0, .int .i64 0, .int .i64 0], [(0, 1), (1, 1), (2, 1)]) := by kernel_rfl
@[go_sem] theorem Try.pl_off23x0 : fOff Try.prog 23 0 = some (0, 1) := by kernel_rfl
@[go_sem] theorem Try.pl_part23x0 : fPart Try.prog 23 0 = some (0, none) := by kernel_rfl
@[go_sem] theorem Try.pl_off23x1 : fOff Try.prog 23 1 = some (1, 1) := by kernel_rfl
@[go_sem] theorem Try.pl_part23x1 : fPart Try.prog 23 1 = some (1, none) := by kernel_rfl
@[go_sem] theorem Try.pl_off23x2 : fOff Try.prog 23 2 = some (2, 1) := by kernel_rfl
@[go_sem] theorem Try.pl_part23x2 : fPart Try.prog 23 2 = some (2, none) := by kernel_rfl
@[go_sem] theorem Try.pl_agg25 : aggN Try.prog 25 = some (some 3) := by kernel_rfl
@[go_sem] theorem Try.pl_sz25 : szOf Try.prog 25 = some 3 := by kernel_rfl
@[go_sem] theorem Try.pl_zero25 : zeroCs Try.prog 25 = some [.int .i64 0, .int .i64 0, .int .i64 0] := by kernel_rfl
@[go_sem] theorem Try.pl_str25 : structP Try.prog 25 = some ([.int .i64 0, .int .i64 0, .int .i64 0], [(0, 1), (1, 1), (2, 1)]) := by kernel_rfl
@[go_sem] theorem Try.pl_off25x0 : fOff Try.prog 25 0 = some (0, 1) := by kernel_rfl
@[go_sem] theorem Try.pl_part25x0 : fPart Try.prog 25 0 = some (0, none) := by kernel_rfl
@[go_sem] theorem Try.pl_off25x1 : fOff Try.prog 25 1 = some (1, 1) := by kernel_rfl
@[go_sem] theorem Try.pl_part25x1 : fPart Try.prog 25 1 = some (1, none) := by kernel_rfl
@[go_sem] theorem Try.pl_off25x2 : fOff Try.prog 25 2 = some (2, 1) := by kernel_rfl
@[go_sem] theorem Try.pl_part25x2 : fPart Try.prog 25 2 = some (2, none) := by kernel_rfl
@[go_sem] theorem Try.pl_agg28 : aggN Try.prog 28 = some (none) := by kernel_rfl
@[go_sem] theorem Try.pl_sz28 : szOf Try.prog 28 = some 1 := by kernel_rfl
@[go_sem] theorem Try.pl_zero28 : zeroCs Try.prog 28 = some [.slice none 0 0] := by kernel_rfl
@[go_sem] theorem Try.pl_und28 : Try.prog.underlying 28 = some (.slice 77) := by kernel_rfl
@[go_sem] theorem Try.pl_zv28 : zeroV Try.prog 77 = some (.agg #[.int .i64 0, .int .i64 0, .int .i64 0, .int .i64 0]) := by kernel_rfl
@[go_sem] theorem Try.pl_esz28 : eSz Try.prog 28 = some (77, 4) := by kernel_rfl
@[go_sem] theorem Try.pl_einf28 : eInf Try.prog 28 = some (77, 4, 32) := by kernel_rfl
@[go_sem] theorem Try.pl_agg31 : aggN Try.prog 31 = some (none) := by kernel_rfl
@[go_sem] theorem Try.pl_sz31 : szOf Try.prog 31 = some 1 := by kernel_rfl
@[go_sem] theorem Try.pl_zero31 : zeroCs Try.prog 31 = some [.slice none 0 0] := by kernel_rfl
@[go_sem] theorem Try.pl_und31 : Try.prog.underlying 31 = some (.slice 36) := by kernel_rfl
@[go_sem] theorem Try.pl_zv31 : zeroV Try.prog 36 = some (.agg #[.int .i64 0, .int .i64 0, .int .i64 0, .int .i64 0]) := by kernel_rfl
@[go_sem] theorem Try.pl_esz31 : eSz Try.prog 31 = some (36, 4) := by kernel_rfl
@[go_sem] theorem Try.pl_einf31 : eInf Try.prog 31 = some (36, 4, 32) := by kernel_rfl
@[go_sem] theorem Try.pl_agg35 : aggN Try.prog 35 = some (some 4) := by kernel_rfl
@[go_sem] theorem Try.pl_sz35 : szOf Try.prog 35 = some 4 := by kernel_rfl
@[go_sem] theorem Try.pl_zero35 : zeroCs Try.prog 35 = some [.int .i64 0, .int .i64 0, .int .i64 0, .int .i64 0] := by kernel_rfl
@[go_sem] theorem Try.pl_str35 : structP Try.prog 35 = some ([.int .i64 0, .int .i64 0, .int .i64 0, .int .i64 0], [(0, 1), (1, 1), (2, 1), (3, 1)]) := by kernel_rfl
@[go_sem] theorem Try.pl_off35x0 : fOff Try.prog 35 0 = some (0, 1) := by kernel_rfl
@[go_sem] theorem Try.pl_part35x0 : fPart Try.prog 35 0 = some (0, none) := by kernel_rfl
@[go_sem] theorem Try.pl_off35x1 : fOff Try.prog 35 1 = some (1, 1) := by kernel_rfl
@[go_sem] theorem Try.pl_part35x1 : fPart Try.prog 35 1 = some (1, none) := by kernel_rfl
@[go_sem] theorem Try.pl_off35x2 : fOff Try.prog 35 2 = some (2, 1) := by kernel_rfl
@[go_sem] theorem Try.pl_part35x2 : fPart Try.prog 35 2 = some (2, none) := by kernel_rfl
@[go_sem] theorem Try.pl_off35x3 : fOff Try.prog 35 3 = some (3, 1) := by kernel_rfl
@[go_sem] theorem Try.pl_part35x3 : fPart Try.prog 35 3 = some (3, none) := by kernel_rfl
@[go_sem] theorem Try.pl_agg36 : aggN Try.prog 36 = some (some 4) := by kernel_rfl
@[go_sem] theorem Try.pl_sz36 : szOf Try.prog 36 = some 4 := by kernel_rfl
@[go_sem] theorem Try.pl_zero36 : zeroCs Try.prog 36 = some [.int .i64 0, .int .i64 0, .int .i64 0, .int .i64 0] := by kernel_rfl
@[go_sem] theorem Try.pl_str36 : structP Try.prog 36 = some ([.int .i64 0, .int .i64 0, .int .i64 0, .int .i64 0], [(0, 1), (1, 1), (2, 1), (3, 1)]) := by kernel_rfl
@[go_sem] theorem Try.pl_off36x0 : fOff Try.prog 36 0 = some (0, 1) := by kernel_rfl
@[go_sem] theorem Try.pl_part36x0 : fPart Try.prog 36 0 = some (0, none) := by kernel_rfl
@[go_sem] theorem Try.pl_off36x1 : fOff Try.prog 36 1 = some (1, 1) := by kernel_rfl
@[go_sem] theorem Try.pl_part36x1 : fPart Try.prog 36 1 = some (1, none) := by kernel_rfl
@[go_sem] theorem Try.pl_off36x2 : fOff Try.prog 36 2 = some (2, 1) := by kernel_rfl
@[go_sem] theorem Try.pl_part36x2 : fPart Try.prog 36 2 = some (2, none) := by kernel_rfl
@[go_sem] theorem Try.pl_off36x3 : fOff Try.prog 36 3 = some (3, 1) := by kernel_rfl
@[go_sem] theorem Try.pl_part36x3 : fPart Try.prog 36 3 = some (3, none) := by kernel_rfl
@[go_sem] theorem Try.pl_agg42 : aggN Try.prog 42 = some (none) := by kernel_rfl
@[go_sem] theorem Try.pl_sz42 : szOf Try.prog 42 = some 1 := by kernel_rfl
@[go_sem] theorem Try.pl_zero42 : zeroCs Try.prog 42 = some [.slice none 0 0] := by kernel_rfl
@[go_sem] theorem Try.pl_und42 : Try.prog.underlying 42 = some (.slice 5) := by kernel_rfl
@[go_sem] theorem Try.pl_zv42 : zeroV Try.prog 5 = some (.int .u8 0) := by kernel_rfl
@[go_sem] theorem Try.pl_esz42 : eSz Try.prog 42 = some (5, 1) := by kernel_rfl
@[go_sem] theorem Try.pl_einf42 : eInf Try.prog 42 = some (5, 1, 1) := by kernel_rfl
@[go_sem] theorem Try.pl_agg49 : aggN Try.prog 49 = some (some 3) := by kernel_rfl
@[go_sem] theorem Try.pl_sz49 : szOf Try.prog 49 = some 3 := by kernel_rfl
@[go_sem] theorem Try.pl_zero49 : zeroCs Try.prog 49 = some [.int .i64 0, .int .i64 0, .int .i64 0] := by kernel_rfl
@[go_sem] theorem Try.pl_str49 : structP Try.prog 49 = some ([.int .i64 0, .int .i64 0, .int .i64 0], [(0, 1), (1, 1), (2, 1)]) := by kernel_rfl
@[go_sem] theorem Try.pl_off49x0 : fOff Try.prog 49 0 = some (0, 1) := by kernel_rfl
@[go_sem] theorem Try.pl_part49x0 : fPart Try.prog 49 0 = some (0, none) := by kernel_rfl
@[go_sem] theorem Try.pl_off49x1 : fOff Try.prog 49 1 = some (1, 1) := by kernel_rfl
@[go_sem] theorem Try.pl_part49x1 : fPart Try.prog 49 1 = some (1, none) := by kernel_rfl
@[go_sem] theorem Try.pl_off49x2 : fOff Try.prog 49 2 = some (2, 1) := by kernel_rfl
@[go_sem] theorem Try.pl_part49x2 : fPart Try.prog 49 2 = some (2, none) := by kernel_rfl
@[go_sem] theorem Try.pl_agg50 : aggN Try.prog 50 = some (some 3) := by kernel_rfl
@[go_sem] theorem Try.pl_sz50 : szOf Try.prog 50 = some 3 := by kernel_rfl
@[go_sem] theorem Try.pl_zero50 : zeroCs Try.prog 50 = some [.int .i64 0, .int .i64 0, .int .i64 0] := by kernel_rfl
@[go_sem] theorem Try.pl_str50 : structP Try.prog 50 = some ([.int .i64 0, .int .i64 0, .int .i64 0], [(0, 1), (1, 1), (2, 1)]) := by kernel_rfl
@[go_sem] theorem Try.pl_off50x0 : fOff Try.prog 50 0 = some (0, 1) := by kernel_rfl
@[go_sem] theorem Try.pl_part50x0 : fPart Try.prog 50 0 = some (0, none) := by kernel_rfl
@[go_sem] theorem Try.pl_off50x1 : fOff Try.prog 50 1 = some (1, 1) := by kernel_rfl
@[go_sem] theorem Try.pl_part50x1 : fPart Try.prog 50 1 = some (1, none) := by kernel_rfl
@[go_sem] theorem Try.pl_off50x2 : fOff Try.prog 50 2 = some (2, 1) := by kernel_rfl
@[go_sem] theorem Try.pl_part50x2 : fPart Try.prog 50 2 = some (2, none) := by kernel_rfl
@[go_sem] theorem Try.pl_agg52 : aggN Try.prog 52 = some (some 3) := by kernel_rfl
@[go_sem] theorem Try.pl_sz52 : szOf Try.prog 52 = some 3 := by kernel_rfl
@[go_sem] theorem Try.pl_zero52 : zeroCs Try.prog 52 = some [.int .i64 0, .int .i64 0, .int .i64 0] := by kernel_rfl
@[go_sem] theorem Try.pl_str52 : structP Try.prog 52 = some ([.int .i64 0, .int .i64 0, .int .i64 0], [(0, 1), (1, 1), (2, 1)]) := by kernel_rfl
@[go_sem] theorem Try.pl_off52x0 : fOff Try.prog 52 0 = some (0, 1) := by kernel_rfl
@[go_sem] theorem Try.pl_part52x0 : fPart Try.prog 52 0 = some (0, none) := by kernel_rfl
@[go_sem] theorem Try.pl_off52x1 : fOff Try.prog 52 1 = some (1, 1) := by kernel_rfl
@[go_sem] theorem Try.pl_part52x1 : fPart Try.prog 52 1 = some (1, none) := by kernel_rfl
@[go_sem] theorem Try.pl_off52x2 : fOff Try.prog 52 2 = some (2, 1) := by kernel_rfl
@[go_sem] theorem Try.pl_part52x2 : fPart Try.prog 52 2 = some (2, none) := by kernel_rfl
@[go_sem] theorem Try.pl_agg58 : aggN Try.prog 58 = some (none) := by kernel_rfl
@[go_sem] theorem Try.pl_sz58 : szOf Try.prog 58 = some 1 := by kernel_rfl
@[go_sem] theorem Try.pl_zero58 : zeroCs Try.prog 58 = some [.slice none 0 0] := by kernel_rfl
@[go_sem] theorem Try.pl_und58 : Try.prog.underlying 58 = some (.slice 3) := by kernel_rfl
@[go_sem] theorem Try.pl_zv58 : zeroV Try.prog 3 = some (.int .i64 0) := by kernel_rfl
@[go_sem] theorem Try.pl_esz58 : eSz Try.prog 58 = some (3, 1) := by kernel_rfl
@[go_sem] theorem Try.pl_einf58 : eInf Try.prog 58 = some (3, 1, 8) := by kernel_rfl
@[go_sem] theorem Try.pl_agg63 : aggN Try.prog 63 = some (none) := by kernel_rfl
@[go_sem] theorem Try.pl_sz63 : szOf Try.prog 63 = some 1 := by kernel_rfl
@[go_sem] theorem Try.pl_zero63 : zeroCs Try.prog 63 = some [.slice none 0 0] := by kernel_rfl
@[go_sem] theorem Try.pl_und63 : Try.prog.underlying 63 = some (.slice 90) := by kernel_rfl
@[go_sem] theorem Try.pl_zv63 : zeroV Try.prog 90 = some (.agg #[.int .i64 0, .int .i64 0, .int .i64 0]) := by kernel_rfl
@[go_sem] theorem Try.pl_esz63 : eSz Try.prog 63 = some (90, 3) := by kernel_rfl
@[go_sem] theorem Try.pl_einf63 : eInf Try.prog 63 = some (90, 3, 24) := by kernel_rfl
@[go_sem] theorem Try.pl_agg65 : aggN Try.prog 65 = some (some 5) := by kernel_rfl
@[go_sem] theorem Try.pl_sz65 : szOf Try.prog 65 = some 5 := by kernel_rfl
@[go_sem] theorem Try.pl_zero65 : zeroCs Try.prog 65 = some [.int .i64 0, .int .i64 0, .int .i64 0, .int .i64 0, .int .i64 0] := by kernel_rfl
@[go_sem] theorem Try.pl_str65 : structP Try.prog 65 = some ([.int .i64 0, .int .i64 0, .int .i64 0, .int .i64 0, .int .i64 0], [(0, 3), (3, 1), (4, 1)]) := by kernel_rfl
@[go_sem] theorem Try.pl_off65x0 : fOff Try.prog 65 0 = some (0, 3) := by kernel_rfl
@[go_sem] theorem Try.pl_part65x0 : fPart Try.prog 65 0 = some (0, some 3) := by kernel_rfl
@[go_sem] theorem Try.pl_off65x1 : fOff Try.prog 65 1 = some (3, 1) := by kernel_rfl
@[go_sem] theorem Try.pl_part65x1 : fPart Try.prog 65 1 = some (3, none) := by kernel_rfl
@[go_sem] theorem Try.pl_off65x2 : fOff Try.prog 65 2 = some (4, 1) := by kernel_rfl
@[go_sem] theorem Try.pl_part65x2 : fPart Try.prog 65 2 = some (4, none) := by kernel_rfl
@[go_sem] theorem Try.pl_agg66 : aggN Try.prog 66 = some (some 5) := by kernel_rfl
@[go_sem] theorem Try.pl_sz66 : szOf Try.prog 66 = some 5 := by kernel_rfl
@[go_sem] theorem Try.pl_zero66 : zeroCs Try.prog 66 = some [.int .i64 0, .int .i64 0, .int .i64 0, .int .i64 0, .int .i64 0] := by kernel_rfl
@[go_sem] theorem Try.pl_str66 : structP Try.prog 66 = some ([.int .i64 0, .int .i64 0, .int .i64 0, .int .i64 0, .int .i64 0], [(0, 3), (3, 1), (4, 1)]) := by kernel_rfl
@[go_sem] theorem Try.pl_off66x0 : fOff Try.prog 66 0 = some (0, 3) := by kernel_rfl
@[go_sem] theorem Try.pl_part66x0 : fPart Try.prog 66 0 = some (0, some 3) := by kernel_rfl
@[go_sem] theorem Try.pl_off66x1 : fOff Try.prog 66 1 = some (3, 1) := by kernel_rfl
@[go_sem] theorem Try.pl_part66x1 : fPart Try.prog 66 1 = some (3, none) := by kernel_rfl
@[go_sem] theorem Try.pl_off66x2 : fOff Try.prog 66 2 = some (4, 1) := by kernel_rfl
@[go_sem] theorem Try.pl_part66x2 : fPart Try.prog 66 2 = some (4, none) := by kernel_rfl
@[go_sem] theorem Try.pl_agg67 : aggN Try.prog 67 = some (some 5) := by kernel_rfl
@[go_sem] theorem Try.pl_sz67 : szOf Try.prog 67 = some 5 := by kernel_rfl
@[go_sem] theorem Try.pl_zero67 : zeroCs Try.prog 67 = some [.int .i64 0, .int .i64 0, .int .i64 0, .int .i64 0, .int .i64 0] := by kernel_rfl
@[go_sem] theorem Try.pl_str67 : structP Try.prog 67 = some ([.int .i64 0, .int .i64 0, .int .i64 0, .int .i64 0, .int .i64 0], [(0, 3), (3, 1), (4, 1)]) := by kernel_rfl
@[go_sem] theorem Try.pl_off67x0 : fOff Try.prog 67 0 = some (0, 3) := by kernel_rfl
@[go_sem] theorem Try.pl_part67x0 : fPart Try.prog 67 0 = some (0, some 3) := by kernel_rfl
@[go_sem] theorem Try.pl_off67x1 : fOff Try.prog 67 1 = some (3, 1) := by kernel_rfl
@[go_sem] theorem Try.pl_part67x1 : fPart Try.prog 67 1 = some (3, none) := by kernel_rfl
@[go_sem] theorem Try.pl_off67x2 : fOff Try.prog 67 2 = some (4, 1) := by kernel_rfl
@[go_sem] theorem Try.pl_part67x2 : fPart Try.prog 67 2 = some (4, none) := by kernel_rfl
@[go_sem] theorem Try.pl_agg68 : aggN Try.prog 68 = some (some 5) := by kernel_rfl
@[go_sem] theorem Try.pl_sz68 : szOf Try.prog 68 = some 5 := by kernel_rfl
@[go_sem] theorem Try.pl_zero68 : zeroCs Try.prog 68 = some [.int .i64 0, .int .i64 0, .int .i64 0, .int .i64 0, .int .i64 0] := by kernel_rfl
@[go_sem] theorem Try.pl_str68 : structP Try.prog 68 = some ([.int .i64 0, .int .i64 0, .int .i64 0, .int .i64 0, .int .i64 0], [(0, 3), (3, 1), (4, 1)]) := by kernel_rfl
@[go_sem] theorem Try.pl_off68x0 : fOff Try.prog 68 0 = some (0, 3) := by kernel_rfl
@[go_sem] theorem Try.pl_part68x0 : fPart Try.prog 68 0 = some (0, some 3) := by kernel_rfl
@[go_sem] theorem Try.pl_off68x1 : fOff Try.prog 68 1 = some (3, 1) := by kernel_rfl
@[go_sem] theorem Try.pl_part68x1 : fPart Try.prog 68 1 = some (3, none) := by kernel_rfl
@[go_sem] theorem Try.pl_off68x2 : fOff Try.prog 68 2 = some (4, 1) := by kernel_rfl
@[go_sem] theorem Try.pl_part68x2 : fPart Try.prog 68 2 = some (4, none) := by kernel_rfl
@[go_sem] theorem Try.pl_agg69 : aggN Try.prog 69 = some (some 8) := by kernel_rfl
@[go_sem] theorem Try.pl_sz69 : szOf Try.prog 69 = some 8 := by kernel_rfl
@[go_sem] theorem Try.pl_zero69 : zeroCs Try.prog 69 = some [.int .i64 0, .int .i64 0, .int .i64 0, .int .i64 0, .int .i64 0, .slice none 0 0, .int .i64 0, .int .i64 0] := by kernel_rfl
@[go_sem] theorem Try.pl_str69 : structP Try.prog 69 = some ([.int .i64 0, .int .i64 0, .int .i64 0, .int .i64 0, .int .i64 0, .slice none 0 0, .int .i64 0, .int .i64 0], [(0, 5), (5, 1), (6, 1), (7, 1)]) := by kernel_rfl
@[go_sem] theorem Try.pl_off69x0 : fOff Try.prog 69 0 = some (0, 5) := by kernel_rfl
@[go_sem] theorem Try.pl_part69x0 : fPart Try.prog 69 0 = some (0, some 5) := by kernel_rfl
@[go_sem] theorem Try.pl_off69x1 : fOff Try.prog 69 1 = some (5, 1) := by kernel_rfl
@[go_sem] theorem Try.pl_part69x1 : fPart Try.prog 69 1 = some (5, none) := by kernel_rfl
@[go_sem] theorem Try.pl_off69x2 : fOff Try.prog 69 2 = some (6, 1) := by kernel_rfl
@[go_sem] theorem Try.pl_part69x2 : fPart Try.prog 69 2 = some (6, none) := by kernel_rfl
@[go_sem] theorem Try.pl_off69x3 : fOff Try.prog 69 3 = some (7, 1) := by kernel_rfl
@[go_sem] theorem Try.pl_part69x3 : fPart Try.prog 69 3 = some (7, none) := by kernel_rfl
@[go_sem] theorem Try.pl_agg70 : aggN Try.prog 70 = some (some 8) := by kernel_rfl
@[go_sem] theorem Try.pl_sz70 : szOf Try.prog 70 = some 8 := by kernel_rfl
@[go_sem] theorem Try.pl_zero70 : zeroCs Try.prog 70 = some [.int .i64 0, .int .i64 0, .int .i64 0, .int .i64 0, .int .i64 0, .slice none 0 0, .int .i64 0, .int .i64 0] := by kernel_rfl
@[go_sem] theorem Try.pl_str70 : structP Try.prog 70 = some ([.int .i64 0, .int .i64 0, .int .i64 0, .int .i64 0, .int .i64 0, .slice none 0 0, .int .i64 0, .int .i64 0], [(0, 5), (5, 1), (6, 1), (7, 1)]) := by kernel_rfl
@[go_sem] theorem Try.pl_off70x0 : fOff Try.prog 70 0 = some (0, 5) := by kernel_rfl
@[go_sem] theorem Try.pl_part70x0 : fPart Try.prog 70 0 = some (0, some 5) := by kernel_rfl
@[go_sem] theorem Try.pl_off70x1 : fOff Try.prog 70 1 = some (5, 1) := by kernel_rfl
@[go_sem] theorem Try.pl_part70x1 : fPart Try.prog 70 1 = some (5, none) := by kernel_rfl
@[go_sem] theorem Try.pl_off70x2 : fOff Try.prog 70 2 = some (6, 1) := by kernel_rfl
@[go_sem] theorem Try.pl_part70x2 : fPart Try.prog 70 2 = some (6, none) := by kernel_rfl
@[go_sem] theorem Try.pl_off70x3 : fOff Try.prog 70 3 = some (7, 1) := by kernel_rfl
@[go_sem] theorem Try.pl_part70x3 : fPart Try.prog 70 3 = some (7, none) := by kernel_rfl
@[go_sem] theorem Try.pl_agg77 : aggN Try.prog 77 = some (some 4) := by kernel_rfl
@[go_sem] theorem Try.pl_sz77 : szOf Try.prog 77 = some 4 := by kernel_rfl
@[go_sem] theorem Try.pl_zero77 : zeroCs Try.prog 77 = some [.int .i64 0, .int .i64 0, .int .i64 0, .int .i64 0] := by kernel_rfl
@[go_sem] theorem Try.pl_str77 : structP Try.prog 77 = some ([.int .i64 0, .int .i64 0, .int .i64 0, .int .i64 0], [(0, 1), (1, 1), (2, 1), (3, 1)]) := by kernel_rfl
@[go_sem] theorem Try.pl_off77x0 : fOff Try.prog 77 0 = some (0, 1) := by kernel_rfl
@[go_sem] theorem Try.pl_part77x0 : fPart Try.prog 77 0 = some (0, none) := by kernel_rfl
@[go_sem] theorem Try.pl_off77x1 : fOff Try.prog 77 1 = some (1, 1) := by kernel_rfl
@[go_sem] theorem Try.pl_part77x1 : fPart Try.prog 77 1 = some (1, none) := by kernel_rfl
@[go_sem] theorem Try.pl_off77x2 : fOff Try.prog 77 2 = some (2, 1) := by kernel_rfl
@[go_sem] theorem Try.pl_part77x2 : fPart Try.prog 77 2 = some (2, none) := by kernel_rfl
@[go_sem] theorem Try.pl_off77x3 : fOff Try.prog 77 3 = some (3, 1) := by kernel_rfl
@[go_sem] theorem Try.pl_part77x3 : fPart Try.prog 77 3 = some (3, none) := by kernel_rfl
@[go_sem] theorem Try.pl_agg83 : aggN Try.prog 83 = some (none) := by kernel_rfl
@[go_sem] theorem Try.pl_sz83 : szOf Try.prog 83 = some 1 := by kernel_rfl
@[go_sem] theorem Try.pl_zero83 : zeroCs Try.prog 83 = some [.pointer none] := by kernel_rfl
@[go_sem] theorem Try.pl_agg89 : aggN Try.prog 89 = some (some 3) := by kernel_rfl
@[go_sem] theorem Try.pl_sz89 : szOf Try.prog 89 = some 3 := by kernel_rfl
@[go_sem] theorem Try.pl_zero89 : zeroCs Try.prog 89 = some [.int .i64 0, .int .i64 0, .int .i64 0] := by kernel_rfl
@[go_sem] theorem Try.pl_str89 : structP Try.prog 89 = some ([.int .i64 0, .int .i64 0, .int .i64 0], [(0, 1), (1, 1), (2, 1)]) := by kernel_rfl
@[go_sem] theorem Try.pl_off89x0 : fOff Try.prog 89 0 = some (0, 1) := by kernel_rfl
@[go_sem] theorem Try.pl_part89x0 : fPart Try.prog 89 0 = some (0, none) := by kernel_rfl
@[go_sem] theorem Try.pl_off89x1 : fOff Try.prog 89 1 = some (1, 1) := by kernel_rfl
@[go_sem] theorem Try.pl_part89x1 : fPart Try.prog 89 1 = some (1, none) := by kernel_rfl
@[go_sem] theorem Try.pl_off89x2 : fOff Try.prog 89 2 = some (2, 1) := by kernel_rfl
@[go_sem] theorem Try.pl_part89x2 : fPart Try.prog 89 2 = some (2, none) := by kernel_rfl
@[go_sem] theorem Try.pl_agg90 : aggN Try.prog 90 = some (some 3) := by kernel_rfl
@[go_sem] theorem Try.pl_sz90 : szOf Try.prog 90 = some 3 := by kernel_rfl
@[go_sem] theorem Try.pl_zero90 : zeroCs Try.prog 90 = some [.int .i64 0, .int .i64 0, .int .i64 0] := by kernel_rfl
@[go_sem] theorem Try.pl_str90 : structP Try.prog 90 = some ([.int .i64 0, .int .i64 0, .int .i64 0], [(0, 1), (1, 1), (2, 1)]) := by kernel_rfl
@[go_sem] theorem Try.pl_off90x0 : fOff Try.prog 90 0 = some (0, 1) := by kernel_rfl
@[go_sem] theorem Try.pl_part90x0 : fPart Try.prog 90 0 = some (0, none) := by kernel_rfl
@[go_sem] theorem Try.pl_off90x1 : fOff Try.prog 90 1 = some (1, 1) := by kernel_rfl
@[go_sem] theorem Try.pl_part90x1 : fPart Try.prog 90 1 = some (1, none) := by kernel_rfl
@[go_sem] theorem Try.pl_off90x2 : fOff Try.prog 90 2 = some (2, 1) := by kernel_rfl
@[go_sem] theorem Try.pl_part90x2 : fPart Try.prog 90 2 = some (2, none) := by kernel_rfl
@[go_sem] theorem Try.pl_agg93 : aggN Try.prog 93 = some (none) := by kernel_rfl
@[go_sem] theorem Try.pl_sz93 : szOf Try.prog 93 = some 1 := by kernel_rfl
@[go_sem] theorem Try.pl_zero93 : zeroCs Try.prog 93 = some [.slice none 0 0] := by kernel_rfl
@[go_sem] theorem Try.pl_und93 : Try.prog.underlying 93 = some (.slice 4) := by kernel_rfl
@[go_sem] theorem Try.pl_zv93 : zeroV Try.prog 4 = some (.bool false) := by kernel_rfl
@[go_sem] theorem Try.pl_esz93 : eSz Try.prog 93 = some (4, 1) := by kernel_rfl
@[go_sem] theorem Try.pl_einf93 : eInf Try.prog 93 = some (4, 1, 1) := by kernel_rfl
@[go_sem] theorem Try.pl_agg95 : aggN Try.prog 95 = some (none) := by kernel_rfl
@[go_sem] theorem Try.pl_sz95 : szOf Try.prog 95 = some 1 := by kernel_rfl
@[go_sem] theorem Try.pl_zero95 : zeroCs Try.prog 95 = some [.slice none 0 0] := by kernel_rfl
@[go_sem] theorem Try.pl_und95 : Try.prog.underlying 95 = some (.slice 4) := by kernel_rfl
@[go_sem] theorem Try.pl_zv95 : zeroV Try.prog 4 = some (.bool false) := by kernel_rfl
@[go_sem] theorem Try.pl_esz95 : eSz Try.prog 95 = some (4, 1) := by kernel_rfl
@[go_sem] theorem Try.pl_einf95 : eInf Try.prog 95 = some (4, 1, 1) := by kernel_rfl
@[go_sem] theorem Try.pl_agg111 : aggN Try.prog 111 = some (some 3) := by kernel_rfl
@[go_sem] theorem Try.pl_sz111 : szOf Try.prog 111 = some 3 := by kernel_rfl
@[go_sem] theorem Try.pl_zero111 : zeroCs Try.prog 111 = some [.slice none 0 0, .int .i64 0, .int .i64 0] := by kernel_rfl
@[go_sem] theorem Try.pl_str111 : structP Try.prog 111 = some ([.slice none 0 0, .int .i64 0, .int .i64 0], [(0, 1), (1, 1), (2, 1)]) := by kernel_rfl
@[go_sem] theorem Try.pl_off111x0 : fOff Try.prog 111 0 = some (0, 1) := by kernel_rfl
@[go_sem] theorem Try.pl_part111x0 : fPart Try.prog 111 0 = some (0, none) := by kernel_rfl
@[go_sem] theorem Try.pl_off111x1 : fOff Try.prog 111 1 = some (1, 1) := by kernel_rfl
@[go_sem] theorem Try.pl_part111x1 : fPart Try.prog 111 1 = some (1, none) := by kernel_rfl
@[go_sem] theorem Try.pl_off111x2 : fOff Try.prog 111 2 = some (2, 1) := by kernel_rfl
@[go_sem] theorem Try.pl_part111x2 : fPart Try.prog 111 2 = some (2, none) := by kernel_rfl
@[go_sem] theorem Try.pl_agg112 : aggN Try.prog 112 = some (some 3) := by kernel_rfl
@[go_sem] theorem Try.pl_sz112 : szOf Try.prog 112 = some 3 := by kernel_rfl
@[go_sem] theorem Try.pl_zero112 : zeroCs Try.prog 112 = some [.slice none 0 0, .int .i64 0, .int .i64 0] := by kernel_rfl
@[go_sem] theorem Try.pl_str112 : structP Try.prog 112 = some ([.slice none 0 0, .int .i64 0, .int .i64 0], [(0, 1), (1, 1), (2, 1)]) := by kernel_rfl
@[go_sem] theorem Try.pl_off112x0 : fOff Try.prog 112 0 = some (0, 1) := by kernel_rfl
@[go_sem] theorem Try.pl_part112x0 : fPart Try.prog 112 0 = some (0, none) := by kernel_rfl
@[go_sem] theorem Try.pl_off112x1 : fOff Try.prog 112 1 = some (1, 1) := by kernel_rfl
@[go_sem] theorem Try.pl_part112x1 : fPart Try.prog 112 1 = some (1, none) := by kernel_rfl
@[go_sem] theorem Try.pl_off112x2 : fOff Try.prog 112 2 = some (2, 1) := by kernel_rfl
@[go_sem] theorem Try.pl_part112x2 : fPart Try.prog 112 2 = some (2, none) := by kernel_rfl
@[go_sem] theorem Try.pl_agg123 : aggN Try.prog 123 = some (none) := by kernel_rfl
@[go_sem] theorem Try.pl_sz123 : szOf Try.prog 123 = some 1 := by kernel_rfl
@[go_sem] theorem Try.pl_zero123 : zeroCs Try.prog 123 = some [.int .u64 0] := by kernel_rfl
@[go_sem] theorem Try.pl_und123 : Try.prog.underlying 123 = some (.int .u64) := by kernel_rfl
@[go_sem] theorem Try.pl_agg132 : aggN Try.prog 132 = some (none) := by kernel_rfl
@[go_sem] theorem Try.pl_sz132 : szOf Try.prog 132 = some 1 := by kernel_rfl
@[go_sem] theorem Try.pl_zero132 : zeroCs Try.prog 132 = some [.int .u32 0] := by kernel_rfl
@[go_sem] theorem Try.pl_und132 : Try.prog.underlying 132 = some (.int .u32) := by kernel_rfl
@[go_sem] theorem Try.pl_agg134 : aggN Try.prog 134 = some (none) := by kernel_rfl
@[go_sem] theorem Try.pl_sz134 : szOf Try.prog 134 = some 1 := by kernel_rfl
@[go_sem] theorem Try.pl_zero134 : zeroCs Try.prog 134 = some [.int .u64 0] := by kernel_rfl
@[go_sem] theorem Try.pl_und134 : Try.prog.underlying 134 = some (.int .u64) := by kernel_rfl
@[go_sem] theorem Try.pl_agg140 : aggN Try.prog 140 = some (some 4) := by kernel_rfl
@[go_sem] theorem Try.pl_sz140 : szOf Try.prog 140 = some 4 := by kernel_rfl
@[go_sem] theorem Try.pl_zero140 : zeroCs Try.prog 140 = some [.pointer none, .pointer none, .pointer none, .string .empty] := by kernel_rfl
@[go_sem] theorem Try.pl_str140 : structP Try.prog 140 = some ([.pointer none, .pointer none, .pointer none, .string .empty], [(0, 1), (1, 1), (2, 1), (3, 1)]) := by kernel_rfl
@[go_sem] theorem Try.pl_off140x0 : fOff Try.prog 140 0 = some (0, 1) := by kernel_rfl
@[go_sem] theorem Try.pl_part140x0 : fPart Try.prog 140 0 = some (0, none) := by kernel_rfl
@[go_sem] theorem Try.pl_off140x1 : fOff Try.prog 140 1 = some (1, 1) := by kernel_rfl
@[go_sem] theorem Try.pl_part140x1 : fPart Try.prog 140 1 = some (1, none) := by kernel_rfl
@[go_sem] theorem Try.pl_off140x2 : fOff Try.prog 140 2 = some (2, 1) := by kernel_rfl
@[go_sem] theorem Try.pl_part140x2 : fPart Try.prog 140 2 = some (2, none) := by kernel_rfl
@[go_sem] theorem Try.pl_off140x3 : fOff Try.prog 140 3 = some (3, 1) := by kernel_rfl
@[go_sem] theorem Try.pl_part140x3 : fPart Try.prog 140 3 = some (3, none) := by kernel_rfl
@[go_sem] theorem Try.pl_agg141 : aggN Try.prog 141 = some (some 4) := by kernel_rfl
@[go_sem] theorem Try.pl_sz141 : szOf Try.prog 141 = some 4 := by kernel_rfl
@[go_sem] theorem Try.pl_zero141 : zeroCs Try.prog 141 = some [.pointer none, .pointer none, .pointer none, .string .empty] := by kernel_rfl
@[go_sem] theorem Try.pl_str141 : structP Try.prog 141 = some ([.pointer none, .pointer none, .pointer none, .string .empty], [(0, 1), (1, 1), (2, 1), (3, 1)]) := by kernel_rfl
@[go_sem] theorem Try.pl_off141x0 : fOff Try.prog 141 0 = some (0, 1) := by kernel_rfl
@[go_sem] theorem Try.pl_part141x0 : fPart Try.prog 141 0 = some (0, none) := by kernel_rfl
@[go_sem] theorem Try.pl_off141x1 : fOff Try.prog 141 1 = some (1, 1) := by kernel_rfl
@[go_sem] theorem Try.pl_part141x1 : fPart Try.prog 141 1 = some (1, none) := by kernel_rfl
@[go_sem] theorem Try.pl_off141x2 : fOff Try.prog 141 2 = some (2, 1) := by kernel_rfl
@[go_sem] theorem Try.pl_part141x2 : fPart Try.prog 141 2 = some (2, none) := by kernel_rfl
@[go_sem] theorem Try.pl_off141x3 : fOff Try.prog 141 3 = some (3, 1) := by kernel_rfl
@[go_sem] theorem Try.pl_part141x3 : fPart Try.prog 141 3 = some (3, none) := by kernel_rfl
@[go_sem] theorem Try.pl_agg142 : aggN Try.prog 142 = some (some 0) := by kernel_rfl
@[go_sem] theorem Try.pl_sz142 : szOf Try.prog 142 = some 0 := by kernel_rfl
@[go_sem] theorem Try.pl_zero142 : zeroCs Try.prog 142 = some [] := by kernel_rfl
@[go_sem] theorem Try.pl_agg143 : aggN Try.prog 143 = some (some 0) := by kernel_rfl
@[go_sem] theorem Try.pl_sz143 : szOf Try.prog 143 = some 0 := by kernel_rfl
@[go_sem] theorem Try.pl_zero143 : zeroCs Try.prog 143 = some [] := by kernel_rfl
@[go_sem] theorem Try.pl_str143 : structP Try.prog 143 = some ([], [(0, 0)]) := by kernel_rfl
@[go_sem] theorem Try.pl_off143x0 : fOff Try.prog 143 0 = some (0, 0) := by kernel_rfl
@[go_sem] theorem Try.pl_part143x0 : fPart Try.prog 143 0 = some (0, some 0) := by kernel_rfl
@[go_sem] theorem Try.pl_agg144 : aggN Try.prog 144 = some (some 0) := by kernel_rfl
@[go_sem] theorem Try.pl_sz144 : szOf Try.prog 144 = some 0 := by kernel_rfl
@[go_sem] theorem Try.pl_zero144 : zeroCs Try.prog 144 = some [] := by kernel_rfl
@[go_sem] theorem Try.pl_str144 : structP Try.prog 144 = some ([], [(0, 0)]) := by kernel_rfl
@[go_sem] theorem Try.pl_off144x0 : fOff Try.prog 144 0 = some (0, 0) := by kernel_rfl
@[go_sem] theorem Try.pl_part144x0 : fPart Try.prog 144 0 = some (0, some 0) := by kernel_rfl
@[go_sem] theorem Try.pl_agg146 : aggN Try.prog 146 = some (none) := by kernel_rfl
@[go_sem] theorem Try.pl_sz146 : szOf Try.prog 146 = some 1 := by kernel_rfl
@[go_sem] theorem Try.pl_zero146 : zeroCs Try.prog 146 = some [.int .u8 0] := by kernel_rfl
@[go_sem] theorem Try.pl_und146 : Try.prog.underlying 146 = some (.int .u8) := by kernel_rfl
@[go_sem] theorem Try.pl_agg147 : aggN Try.prog 147 = some (none) := by kernel_rfl
@[go_sem] theorem Try.pl_sz147 : szOf Try.prog 147 = some 1 := by kernel_rfl
@[go_sem] theorem Try.pl_zero147 : zeroCs Try.prog 147 = some [.int .u8 0] := by kernel_rfl
@[go_sem] theorem Try.pl_und147 : Try.prog.underlying 147 = some (.int .u8) := by kernel_rfl
@[go_sem] theorem Try.pl_agg149 : aggN Try.prog 149 = some (none) := by kernel_rfl
@[go_sem] theorem Try.pl_sz149 : szOf Try.prog 149 = some 1 := by kernel_rfl
@[go_sem] theorem Try.pl_zero149 : zeroCs Try.prog 149 = some [.pointer none] := by kernel_rfl
@[go_sem] theorem Try.pl_agg150 : aggN Try.prog 150 = some (none) := by kernel_rfl
@[go_sem] theorem Try.pl_sz150 : szOf Try.prog 150 = some 1 := by kernel_rfl
@[go_sem] theorem Try.pl_zero150 : zeroCs Try.prog 150 = some [.int .i32 0] := by kernel_rfl
@[go_sem] theorem Try.pl_und150 : Try.prog.underlying 150 = some (.int .i32) := by kernel_rfl
@[go_sem] theorem Try.pl_agg151 : aggN Try.prog 151 = some (none) := by kernel_rfl
@[go_sem] theorem Try.pl_sz151 : szOf Try.prog 151 = some 1 := by kernel_rfl
@[go_sem] theorem Try.pl_zero151 : zeroCs Try.prog 151 = some [.int .i32 0] := by kernel_rfl
@[go_sem] theorem Try.pl_und151 : Try.prog.underlying 151 = some (.int .i32) := by kernel_rfl
@[go_sem] theorem Try.pl_agg152 : aggN Try.prog 152 = some (some 11) := by kernel_rfl
@[go_sem] theorem Try.pl_sz152 : szOf Try.prog 152 = some 11 := by kernel_rfl
@[go_sem] theorem Try.pl_off152x0 : fOff Try.prog 152 0 = some (0, 1) := by kernel_rfl
@[go_sem] theorem Try.pl_part152x0 : fPart Try.prog 152 0 = some (0, none) := by kernel_rfl
@[go_sem] theorem Try.pl_off152x1 : fOff Try.prog 152 1 = some (1, 1) := by kernel_rfl
@[go_sem] theorem Try.pl_part152x1 : fPart Try.prog 152 1 = some (1, none) := by kernel_rfl
@[go_sem] theorem Try.pl_off152x2 : fOff Try.prog 152 2 = some (2, 1) := by kernel_rfl
@[go_sem] theorem Try.pl_part152x2 : fPart Try.prog 152 2 = some (2, none) := by kernel_rfl
@[go_sem] theorem Try.pl_off152x3 : fOff Try.prog 152 3 = some (3, 1) := by kernel_rfl
@[go_sem] theorem Try.pl_part152x3 : fPart Try.prog 152 3 = some (3, none) := by kernel_rfl
@[go_sem] theorem Try.pl_off152x4 : fOff Try.prog 152 4 = some (4, 1) := by kernel_rfl
@[go_sem] theorem Try.pl_part152x4 : fPart Try.prog 152 4 = some (4, none) := by kernel_rfl
@[go_sem] theorem Try.pl_off152x5 : fOff Try.prog 152 5 = some (5, 1) := by kernel_rfl
@[go_sem] theorem Try.pl_part152x5 : fPart Try.prog 152 5 = some (5, none) := by kernel_rfl
@[go_sem] theorem Try.pl_off152x6 : fOff Try.prog 152 6 = some (6, 1) := by kernel_rfl
@[go_sem] theorem Try.pl_part152x6 : fPart Try.prog 152 6 = some (6, none) := by kernel_rfl
@[go_sem] theorem Try.pl_off152x7 : fOff Try.prog 152 7 = some (7, 1) := by kernel_rfl
@[go_sem] theorem Try.pl_part152x7 : fPart Try.prog 152 7 = some (7, none) := by kernel_rfl
@[go_sem] theorem Try.pl_off152x8 : fOff Try.prog 152 8 = some (8, 1) := by kernel_rfl
@[go_sem] theorem Try.pl_part152x8 : fPart Try.prog 152 8 = some (8, none) := by kernel_rfl
@[go_sem] theorem Try.pl_off152x9 : fOff Try.prog 152 9 = some (9, 1) := by kernel_rfl
@[go_sem] theorem Try.pl_part152x9 : fPart Try.prog 152 9 = some (9, none) := by kernel_rfl
@[go_sem] theorem Try.pl_off152x10 : fOff Try.prog 152 10 = some (10, 1) := by kernel_rfl
@[go_sem] theorem Try.pl_part152x10 : fPart Try.prog 152 10 = some (10, none) := by kernel_rfl
@[go_sem] theorem Try.pl_agg153 : aggN Try.prog 153 = some (some 11) := by kernel_rfl
@[go_sem] theorem Try.pl_sz153 : szOf Try.prog 153 = some 11 := by kernel_rfl
@[go_sem] theorem Try.pl_off153x0 : fOff Try.prog 153 0 = some (0, 1) := by kernel_rfl
@[go_sem] theorem Try.pl_part153x0 : fPart Try.prog 153 0 = some (0, none) := by kernel_rfl
@[go_sem] theorem Try.pl_off153x1 : fOff Try.prog 153 1 = some (1, 1) := by kernel_rfl
@[go_sem] theorem Try.pl_part153x1 : fPart Try.prog 153 1 = some (1, none) := by kernel_rfl
@[go_sem] theorem Try.pl_off153x2 : fOff Try.prog 153 2 = some (2, 1) := by kernel_rfl
@[go_sem] theorem Try.pl_part153x2 : fPart Try.prog 153 2 = some (2, none) := by kernel_rfl
@[go_sem] theorem Try.pl_off153x3 : fOff Try.prog 153 3 = some (3, 1) := by kernel_rfl
@[go_sem] theorem Try.pl_part153x3 : fPart Try.prog 153 3 = some (3, none) := by kernel_rfl
@[go_sem] theorem Try.pl_off153x4 : fOff Try.prog 153 4 = some (4, 1) := by kernel_rfl
@[go_sem] theorem Try.pl_part153x4 : fPart Try.prog 153 4 = some (4, none) := by kernel_rfl
@[go_sem] theorem Try.pl_off153x5 : fOff Try.prog 153 5 = some (5, 1) := by kernel_rfl
@[go_sem] theorem Try.pl_part153x5 : fPart Try.prog 153 5 = some (5, none) := by kernel_rfl
@[go_sem] theorem Try.pl_off153x6 : fOff Try.prog 153 6 = some (6, 1) := by kernel_rfl
@[go_sem] theorem Try.pl_part153x6 : fPart Try.prog 153 6 = some (6, none) := by kernel_rfl
@[go_sem] theorem Try.pl_off153x7 : fOff Try.prog 153 7 = some (7, 1) := by kernel_rfl
@[go_sem] theorem Try.pl_part153x7 : fPart Try.prog 153 7 = some (7, none) := by kernel_rfl
@[go_sem] theorem Try.pl_off153x8 : fOff Try.prog 153 8 = some (8, 1) := by kernel_rfl
@[go_sem] theorem Try.pl_part153x8 : fPart Try.prog 153 8 = some (8, none) := by kernel_rfl
@[go_sem] theorem Try.pl_off153x9 : fOff Try.prog 153 9 = some (9, 1) := by kernel_rfl
@[go_sem] theorem Try.pl_part153x9 : fPart Try.prog 153 9 = some (9, none) := by kernel_rfl
@[go_sem] theorem Try.pl_off153x10 : fOff Try.prog 153 10 = some (10, 1) := by kernel_rfl
@[go_sem] theorem Try.pl_part153x10 : fPart Try.prog 153 10 = some (10, none) := by kernel_rfl
@[go_sem] theorem Try.pl_rs0 : Try.f0.results.toList = [] := by kernel_rfl
@[go_sem] theorem Try.pl_rs1 : Try.f1.results.toList = [] := by kernel_rfl
@[go_sem] theorem Try.pl_rs2 : Try.f2.results.toList = [] := by kernel_rfl
@[go_sem] theorem Try.pl_rs3 : Try.f3.results.toList = [.tmp 2] := by kernel_rfl
@[go_sem] theorem Try.pl_rs4 : Try.f4.results.toList = [.tmp 2] := by kernel_rfl
@[go_sem] theorem Try.pl_rs5 : Try.f5.results.toList = [.tmp 4] := by kernel_rfl
@[go_sem] theorem Try.pl_rs6 : Try.f6.results.toList = [.tmp 4] := by kernel_rfl
@[go_sem] theorem Try.pl_rs7 : Try.f7.results.toList = [.tmp 2] := by kernel_rfl
@[go_sem] theorem Try.pl_rs8 : Try.f8.results.toList = [.tmp 4] := by kernel_rfl
@[go_sem] theorem Try.pl_rs9 : Try.f9.results.toList = [.tmp 2] := by kernel_rfl
@[go_sem] theorem Try.pl_rs10 : Try.f10.results.toList = [.tmp 4] := by kernel_rfl
@[go_sem] theorem Try.pl_rs11 : Try.f11.results.toList = [.tmp 4] := by kernel_rfl
@[go_sem] theorem Try.pl_rs12 : Try.f12.results.toList = [.tmp 2] := by kernel_rfl
@[go_sem] theorem Try.pl_rs13 : Try.f13.results.toList = [.tmp 4] := by kernel_rfl
@[go_sem] theorem Try.pl_rs14 : Try.f14.results.toList = [.tmp 2] := by kernel_rfl
@[go_sem] theorem Try.pl_rs15 : Try.f15.results.toList = [.tmp 2] := by kernel_rfl
@[go_sem] theorem Try.pl_rs16 : Try.f16.results.toList = [.cell 2 25] := by kernel_rfl
@[go_sem] theorem Try.pl_rs17 : Try.f17.results.toList = [.tmp 2] := by kernel_rfl
@[go_sem] theorem Try.pl_rs18 : Try.f18.results.toList = [.tmp 4] := by kernel_rfl
@[go_sem] theorem Try.pl_rs19 : Try.f19.results.toList = [.tmp 2] := by kernel_rfl
@[go_sem] theorem Try.pl_rs20 : Try.f20.results.toList = [.tmp 2] := by kernel_rfl
@[go_sem] theorem Try.pl_rs21 : Try.f21.results.toList = [.tmp 2] := by kernel_rfl
@[go_sem] theorem Try.pl_rs22 : Try.f22.results.toList = [.tmp 4] := by kernel_rfl
@[go_sem] theorem Try.pl_rs23 : Try.f23.results.toList = [.cell 4 36, .tmp 5] := by kernel_rfl
@[go_sem] theorem Try.pl_rs24 : Try.f24.results.toList = [.cell 4 36, .tmp 5] := by kernel_rfl
@[go_sem] theorem Try.pl_rs25 : Try.f25.results.toList = [.tmp 4] := by kernel_rfl
@[go_sem] theorem Try.pl_rs26 : Try.f26.results.toList = [.tmp 4] := by kernel_rfl
@[go_sem] theorem Try.pl_rs27 : Try.f27.results.toList = [.tmp 4] := by kernel_rfl
@[go_sem] theorem Try.pl_rs28 : Try.f28.results.toList = [.tmp 2] := by kernel_rfl
@[go_sem] theorem Try.pl_rs29 : Try.f29.results.toList = [.tmp 2, .tmp 3] := by kernel_rfl
@[go_sem] theorem Try.pl_rs30 : Try.f30.results.toList = [.tmp 4, .tmp 5] := by kernel_rfl
@[go_sem] theorem Try.pl_rs31 : Try.f31.results.toList = [.tmp 4, .tmp 5] := by kernel_rfl
@[go_sem] theorem Try.pl_rs32 : Try.f32.results.toList = [.tmp 4] := by kernel_rfl
@[go_sem] theorem Try.pl_rs33 : Try.f33.results.toList = [.cell 2 52] := by kernel_rfl
@[go_sem] theorem Try.pl_rs34 : Try.f34.results.toList = [.tmp 4] := by kernel_rfl
@[go_sem] theorem Try.pl_rs35 : Try.f35.results.toList = [.cell 2 52, .tmp 3, .tmp 4] := by kernel_rfl
@[go_sem] theorem Try.pl_rs36 : Try.f36.results.toList = [.tmp 6] := by kernel_rfl
@[go_sem] theorem Try.pl_rs37 : Try.f37.results.toList = [.tmp 6] := by kernel_rfl
@[go_sem] theorem Try.pl_rs38 : Try.f38.results.toList = [.tmp 6, .tmp 7] := by kernel_rfl
@[go_sem] theorem Try.pl_rs39 : Try.f39.results.toList = [.tmp 6] := by kernel_rfl
@[go_sem] theorem Try.pl_rs40 : Try.f40.results.toList = [.tmp 6] := by kernel_rfl
@[go_sem] theorem Try.pl_rs41 : Try.f41.results.toList = [.tmp 4] := by kernel_rfl
@[go_sem] theorem Try.pl_rs42 : Try.f42.results.toList = [.tmp 4] := by kernel_rfl
@[go_sem] theorem Try.pl_rs43 : Try.f43.results.toList = [.cell 4 52] := by kernel_rfl
@[go_sem] theorem Try.pl_rs44 : Try.f44.results.toList = [.tmp 4] := by kernel_rfl
@[go_sem] theorem Try.pl_rs45 : Try.f45.results.toList = [.tmp 4] := by kernel_rfl
@[go_sem] theorem Try.pl_rs46 : Try.f46.results.toList = [.tmp 4] := by kernel_rfl
@[go_sem] theorem Try.pl_rs47 : Try.f47.results.toList = [.tmp 4] := by kernel_rfl
@[go_sem] theorem Try.pl_rs48 : Try.f48.results.toList = [.tmp 4] := by kernel_rfl
@[go_sem] theorem Try.pl_rs49 : Try.f49.results.toList = [.tmp 4] := by kernel_rfl
@[go_sem] theorem Try.pl_rs50 : Try.f50.results.toList = [.tmp 4] := by kernel_rfl
@[go_sem] theorem Try.pl_rs51 : Try.f51.results.toList = [.cell 2 70, .tmp 3] := by kernel_rfl
@[go_sem] theorem Try.pl_rs52 : Try.f52.results.toList = [.cell 2 68] := by kernel_rfl
@[go_sem] theorem Try.pl_rs53 : Try.f53.results.toList = [.cell 2 70, .tmp 3] := by kernel_rfl
@[go_sem] theorem Try.pl_rs54 : Try.f54.results.toList = [.tmp 4] := by kernel_rfl
@[go_sem] theorem Try.pl_rs55 : Try.f55.results.toList = [.tmp 4] := by kernel_rfl
@[go_sem] theorem Try.pl_rs56 : Try.f56.results.toList = [.tmp 4] := by kernel_rfl
@[go_sem] theorem Try.pl_rs57 : Try.f57.results.toList = [.tmp 4, .tmp 5] := by kernel_rfl
@[go_sem] theorem Try.pl_rs58 : Try.f58.results.toList = [.cell 2 36] := by kernel_rfl
@[go_sem] theorem Try.pl_rs59 : Try.f59.results.toList = [.tmp 4] := by kernel_rfl
@[go_sem] theorem Try.pl_rs60 : Try.f60.results.toList = [.tmp 4] := by kernel_rfl
@[go_sem] theorem Try.pl_rs61 : Try.f61.results.toList = [.tmp 2] := by kernel_rfl
@[go_sem] theorem Try.pl_rs62 : Try.f62.results.toList = [.tmp 2] := by kernel_rfl
@[go_sem] theorem Try.pl_rs63 : Try.f63.results.toList = [.tmp 6] := by kernel_rfl
@[go_sem] theorem Try.pl_rs64 : Try.f64.results.toList = [.tmp 6] := by kernel_rfl
@[go_sem] theorem Try.pl_rs65 : Try.f65.results.toList = [.tmp 2] := by kernel_rfl
@[go_sem] theorem Try.pl_rs66 : Try.f66.results.toList = [.tmp 2] := by kernel_rfl
@[go_sem] theorem Try.pl_rs67 : Try.f67.results.toList = [.tmp 2] := by kernel_rfl
@[go_sem] theorem Try.pl_rs68 : Try.f68.results.toList = [.tmp 4, .tmp 5] := by kernel_rfl
@[go_sem] theorem Try.pl_rs69 : Try.f69.results.toList = [.tmp 4] := by kernel_rfl
@[go_sem] theorem Try.pl_rs70 : Try.f70.results.toList = [.tmp 2] := by kernel_rfl
@[go_sem] theorem Try.pl_rs71 : Try.f71.results.toList = [.tmp 4] := by kernel_rfl
@[go_sem] theorem Try.pl_rs72 : Try.f72.results.toList = [.tmp 2] := by kernel_rfl
@[go_sem] theorem Try.pl_rs73 : Try.f73.results.toList = [.cell 2 52, .tmp 3, .tmp 4] := by kernel_rfl
@[go_sem] theorem Try.pl_rs74 : Try.f74.results.toList = [.tmp 2] := by kernel_rfl
@[go_sem] theorem Try.pl_rs75 : Try.f75.results.toList = [.tmp 4] := by kernel_rfl
@[go_sem] theorem Try.pl_rs76 : Try.f76.results.toList = [.tmp 6] := by kernel_rfl
@[go_sem] theorem Try.pl_rs77 : Try.f77.results.toList = [.tmp 6] := by kernel_rfl
@[go_sem] theorem Try.pl_rs78 : Try.f78.results.toList = [.tmp 4] := by kernel_rfl
@[go_sem] theorem Try.pl_rs79 : Try.f79.results.toList = [.tmp 6] := by kernel_rfl
@[go_sem] theorem Try.pl_rs80 : Try.f80.results.toList = [.tmp 4] := by kernel_rfl
@[go_sem] theorem Try.pl_rs81 : Try.f81.results.toList = [.tmp 2] := by kernel_rfl
@[go_sem] theorem Try.pl_rs82 : Try.f82.results.toList = [.tmp 2] := by kernel_rfl
@[go_sem] theorem Try.pl_rs83 : Try.f83.results.toList = [.tmp 4] := by kernel_rfl
@[go_sem] theorem Try.pl_rs84 : Try.f84.results.toList = [.tmp 2] := by kernel_rfl
@[go_sem] theorem Try.pl_rs85 : Try.f85.results.toList = [.tmp 2] := by kernel_rfl
@[go_sem] theorem Try.pl_rs86 : Try.f86.results.toList = [.tmp 2] := by kernel_rfl
@[go_sem] theorem Try.pl_rs87 : Try.f87.results.toList = [.tmp 2] := by kernel_rfl
@[go_sem] theorem Try.pl_rs88 : Try.f88.results.toList = [.tmp 4] := by kernel_rfl
@[go_sem] theorem Try.pl_rs89 : Try.f89.results.toList = [.tmp 4] := by kernel_rfl
@[go_sem] theorem Try.pl_rs90 : Try.f90.results.toList = [.tmp 2] := by kernel_rfl
@[go_sem] theorem Try.pl_rs91 : Try.f91.results.toList = [.tmp 2] := by kernel_rfl
@[go_sem] theorem Try.pl_rs92 : Try.f92.results.toList = [.tmp 4] := by kernel_rfl
@[go_sem] theorem Try.pl_rs93 : Try.f93.results.toList = [.tmp 4] := by kernel_rfl
@[go_sem] theorem Try.pl_rs94 : Try.f94.results.toList = [.tmp 4] := by kernel_rfl
@[go_sem] theorem Try.pl_rs95 : Try.f95.results.toList = [.tmp 4] := by kernel_rfl
@[go_sem] theorem Try.pl_rs96 : Try.f96.results.toList = [.tmp 2] := by kernel_rfl
@[go_sem] theorem Try.pl_rs97 : Try.f97.results.toList = [.tmp 2] := by kernel_rfl
@[go_sem] theorem Try.pl_rs98 : Try.f98.results.toList = [.tmp 4] := by kernel_rfl
@[go_sem] theorem Try.pl_rs99 : Try.f99.results.toList = [.tmp 4] := by kernel_rfl
@[go_sem] theorem Try.pl_rs100 : Try.f100.results.toList = [.tmp 2] := by kernel_rfl
@[go_sem] theorem Try.pl_rs101 : Try.f101.results.toList = [.tmp 6] := by kernel_rfl
@[go_sem] theorem Try.pl_rs102 : Try.f102.results.toList = [.tmp 2] := by kernel_rfl
@[go_sem] theorem Try.pl_rs103 : Try.f103.results.toList = [.tmp 6] := by kernel_rfl
@[go_sem] theorem Try.pl_rs104 : Try.f104.results.toList = [.cell 2 52, .tmp 3] := by kernel_rfl
@[go_sem] theorem Try.pl_rs105 : Try.f105.results.toList = [.tmp 2] := by kernel_rfl
@[go_sem] theorem Try.pl_rs106 : Try.f106.results.toList = [.cell 4 52] := by kernel_rfl
@[go_sem] theorem Try.pl_rs107 : Try.f107.results.toList = [.tmp 4] := by kernel_rfl
@[go_sem] theorem Try.pl_rs108 : Try.f108.results.toList = [.tmp 6, .tmp 7] := by kernel_rfl
@[go_sem] theorem Try.pl_rs109 : Try.f109.results.toList = [.tmp 8] := by kernel_rfl
@[go_sem] theorem Try.pl_rs110 : Try.f110.results.toList = [.tmp 4] := by kernel_rfl
@[go_sem] theorem Try.pl_rs111 : Try.f111.results.toList = [.tmp 4] := by kernel_rfl
@[go_sem] theorem Try.pl_rs112 : Try.f112.results.toList = [.tmp 4, .tmp 5] := by kernel_rfl
@[go_sem] theorem Try.pl_rs113 : Try.f113.results.toList = [.tmp 4, .tmp 5] := by kernel_rfl
@[go_sem] theorem Try.pl_rs114 : Try.f114.results.toList = [.tmp 2] := by kernel_rfl
@[go_sem] theorem Try.pl_rs115 : Try.f115.results.toList = [.tmp 2] := by kernel_rfl
@[go_sem] theorem Try.pl_rs116 : Try.f116.results.toList = [.tmp 4] := by kernel_rfl
@[go_sem] theorem Try.pl_rs117 : Try.f117.results.toList = [.tmp 6] := by kernel_rfl
@[go_sem] theorem Try.pl_rs118 : Try.f118.results.toList = [.tmp 4] := by kernel_rfl
@[go_sem] theorem Try.pl_rs119 : Try.f119.results.toList = [.tmp 4] := by kernel_rfl
@[go_sem] theorem Try.pl_rs120 : Try.f120.results.toList = [.tmp 2] := by kernel_rfl
@[go_sem] theorem Try.pl_rs121 : Try.f121.results.toList = [.cell 2 52] := by kernel_rfl
@[go_sem] theorem Try.pl_rs122 : Try.f122.results.toList = [.tmp 6, .tmp 7] := by kernel_rfl
@[go_sem] theorem Try.pl_rs123 : Try.f123.results.toList = [.tmp 4] := by kernel_rfl
@[go_sem] theorem Try.pl_rs124 : Try.f124.results.toList = [.tmp 2] := by kernel_rfl
@[go_sem] theorem Try.pl_rs125 : Try.f125.results.toList = [.tmp 2] := by kernel_rfl
@[go_sem] theorem Try.pl_rs126 : Try.f126.results.toList = [.tmp 6] := by kernel_rfl
@[go_sem] theorem Try.pl_rs127 : Try.f127.results.toList = [.tmp 4] := by kernel_rfl
@[go_sem] theorem Try.pl_rs128 : Try.f128.results.toList = [.cell 6 90, .tmp 7] := by kernel_rfl
@[go_sem] theorem Try.pl_rs129 : Try.f129.results.toList = [] := by kernel_rfl
@[go_sem] theorem Try.pl_rs130 : Try.f130.results.toList = [] := by kernel_rfl
@[go_sem] theorem Try.pl_rs131 : Try.f131.results.toList = [] := by kernel_rfl
@[go_sem] theorem Try.pl_rs132 : Try.f132.results.toList = [] := by kernel_rfl
@[go_sem] theorem Try.pl_rs133 : Try.f133.results.toList = [] := by kernel_rfl
@[go_sem] theorem Try.pl_rs134 : Try.f134.results.toList = [] := by kernel_rfl
@[go_sem] theorem Try.pl_rs135 : Try.f135.results.toList = [] := by kernel_rfl
@[go_sem] theorem Try.pl_rs136 : Try.f136.results.toList = [] := by kernel_rfl
@[go_sem] theorem Try.pl_rs137 : Try.f137.results.toList = [] := by kernel_rfl
@[go_sem] theorem Try.pl_rs138 : Try.f138.results.toList = [] := by kernel_rfl
@[go_sem] theorem Try.pl_rs139 : Try.f139.results.toList = [] := by kernel_rfl
@[go_sem] theorem Try.pl_rs140 : Try.f140.results.toList = [] := by kernel_rfl
@[go_sem] theorem Try.pl_rs141 : Try.f141.results.toList = [] := by kernel_rfl
@[go_sem] theorem Try.pl_rs142 : Try.f142.results.toList = [] := by kernel_rfl
@[go_sem] theorem Try.pl_rs143 : Try.f143.results.toList = [] := by kernel_rfl
@[go_sem] theorem Try.pl_rs144 : Try.f144.results.toList = [] := by kernel_rfl
theorem Try.pl_follows : Try.prog.follows .mixedOrders = true := by kernel_rfl
end Go.Proofs
