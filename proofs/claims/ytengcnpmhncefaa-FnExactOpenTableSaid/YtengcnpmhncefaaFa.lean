/-
  Facts on the types of this translation: cells, places, zero values. Printed by a program.
-/
import Derived.Test.YtengcnpmhncefaaRows
import Derived.Test.YtengcnpmhncefaaEf
import Derived.KernelRfl
namespace Go.Proofs
open Go.PL
@[go_sem] theorem Try.pl_agg2 : aggN Try.prog 2 = some (none) := by kernel_rfl
@[go_sem] theorem Try.pl_sz2 : szOf Try.prog 2 = some 1 := by kernel_rfl
@[go_sem] theorem Try.pl_zero2 : zeroCs Try.prog 2 = some [.int .i64 0] := by kernel_rfl
@[go_sem] theorem Try.pl_und2 : Try.prog.underlying 2 = some (.int .i64) := by kernel_rfl
@[go_sem] theorem Try.pl_agg3 : aggN Try.prog 3 = some (none) := by kernel_rfl
@[go_sem] theorem Try.pl_sz3 : szOf Try.prog 3 = some 1 := by kernel_rfl
@[go_sem] theorem Try.pl_zero3 : zeroCs Try.prog 3 = some [.int .i64 0] := by kernel_rfl
@[go_sem] theorem Try.pl_und3 : Try.prog.underlying 3 = some (.int .i64) := by kernel_rfl
@[go_sem] theorem Try.pl_agg4 : aggN Try.prog 4 = some (none) := by kernel_rfl
@[go_sem] theorem Try.pl_sz4 : szOf Try.prog 4 = some 1 := by kernel_rfl
@[go_sem] theorem Try.pl_zero4 : zeroCs Try.prog 4 = some [.bool false] := by kernel_rfl
@[go_sem] theorem Try.pl_und4 : Try.prog.underlying 4 = some .bool := by kernel_rfl
@[go_sem] theorem Try.pl_agg5 : aggN Try.prog 5 = some (none) := by kernel_rfl
@[go_sem] theorem Try.pl_sz5 : szOf Try.prog 5 = some 1 := by kernel_rfl
@[go_sem] theorem Try.pl_zero5 : zeroCs Try.prog 5 = some [.int .u8 0] := by kernel_rfl
@[go_sem] theorem Try.pl_und5 : Try.prog.underlying 5 = some (.int .u8) := by kernel_rfl
@[go_sem] theorem Try.pl_agg6 : aggN Try.prog 6 = some (none) := by kernel_rfl
@[go_sem] theorem Try.pl_sz6 : szOf Try.prog 6 = some 1 := by kernel_rfl
@[go_sem] theorem Try.pl_zero6 : zeroCs Try.prog 6 = some [.int .u8 0] := by kernel_rfl
@[go_sem] theorem Try.pl_und6 : Try.prog.underlying 6 = some (.int .u8) := by kernel_rfl
@[go_sem] theorem Try.pl_agg7 : aggN Try.prog 7 = some (some 4) := by kernel_rfl
@[go_sem] theorem Try.pl_sz7 : szOf Try.prog 7 = some 4 := by kernel_rfl
@[go_sem] theorem Try.pl_zero7 : zeroCs Try.prog 7 = some [.int .i64 0, .int .i64 0, .bool false, .int .u8 0] := by kernel_rfl
@[go_sem] theorem Try.pl_str7 : structP Try.prog 7 = some ([.int .i64 0, .int .i64 0, .bool false, .int .u8 0], [(0, 1), (1, 1), (2, 1), (3, 1)]) := by kernel_rfl
@[go_sem] theorem Try.pl_off7x0 : fOff Try.prog 7 0 = some (0, 1) := by kernel_rfl
@[go_sem] theorem Try.pl_part7x0 : fPart Try.prog 7 0 = some (0, none) := by kernel_rfl
@[go_sem] theorem Try.pl_off7x1 : fOff Try.prog 7 1 = some (1, 1) := by kernel_rfl
@[go_sem] theorem Try.pl_part7x1 : fPart Try.prog 7 1 = some (1, none) := by kernel_rfl
@[go_sem] theorem Try.pl_off7x2 : fOff Try.prog 7 2 = some (2, 1) := by kernel_rfl
@[go_sem] theorem Try.pl_part7x2 : fPart Try.prog 7 2 = some (2, none) := by kernel_rfl
@[go_sem] theorem Try.pl_off7x3 : fOff Try.prog 7 3 = some (3, 1) := by kernel_rfl
@[go_sem] theorem Try.pl_part7x3 : fPart Try.prog 7 3 = some (3, none) := by kernel_rfl
@[go_sem] theorem Try.pl_agg8 : aggN Try.prog 8 = some (some 4) := by kernel_rfl
@[go_sem] theorem Try.pl_sz8 : szOf Try.prog 8 = some 4 := by kernel_rfl
@[go_sem] theorem Try.pl_zero8 : zeroCs Try.prog 8 = some [.int .i64 0, .int .i64 0, .bool false, .int .u8 0] := by kernel_rfl
@[go_sem] theorem Try.pl_str8 : structP Try.prog 8 = some ([.int .i64 0, .int .i64 0, .bool false, .int .u8 0], [(0, 1), (1, 1), (2, 1), (3, 1)]) := by kernel_rfl
@[go_sem] theorem Try.pl_off8x0 : fOff Try.prog 8 0 = some (0, 1) := by kernel_rfl
@[go_sem] theorem Try.pl_part8x0 : fPart Try.prog 8 0 = some (0, none) := by kernel_rfl
@[go_sem] theorem Try.pl_off8x1 : fOff Try.prog 8 1 = some (1, 1) := by kernel_rfl
@[go_sem] theorem Try.pl_part8x1 : fPart Try.prog 8 1 = some (1, none) := by kernel_rfl
@[go_sem] theorem Try.pl_off8x2 : fOff Try.prog 8 2 = some (2, 1) := by kernel_rfl
@[go_sem] theorem Try.pl_part8x2 : fPart Try.prog 8 2 = some (2, none) := by kernel_rfl
@[go_sem] theorem Try.pl_off8x3 : fOff Try.prog 8 3 = some (3, 1) := by kernel_rfl
@[go_sem] theorem Try.pl_part8x3 : fPart Try.prog 8 3 = some (3, none) := by kernel_rfl
@[go_sem] theorem Try.pl_agg9 : aggN Try.prog 9 = some (none) := by kernel_rfl
@[go_sem] theorem Try.pl_sz9 : szOf Try.prog 9 = some 1 := by kernel_rfl
@[go_sem] theorem Try.pl_zero9 : zeroCs Try.prog 9 = some [.string .empty] := by kernel_rfl
@[go_sem] theorem Try.pl_und9 : Try.prog.underlying 9 = some .string := by kernel_rfl
@[go_sem] theorem Try.pl_agg10 : aggN Try.prog 10 = some (none) := by kernel_rfl
@[go_sem] theorem Try.pl_sz10 : szOf Try.prog 10 = some 1 := by kernel_rfl
@[go_sem] theorem Try.pl_zero10 : zeroCs Try.prog 10 = some [.string .empty] := by kernel_rfl
@[go_sem] theorem Try.pl_und10 : Try.prog.underlying 10 = some .string := by kernel_rfl
@[go_sem] theorem Try.pl_agg11 : aggN Try.prog 11 = some (none) := by kernel_rfl
@[go_sem] theorem Try.pl_sz11 : szOf Try.prog 11 = some 1 := by kernel_rfl
@[go_sem] theorem Try.pl_zero11 : zeroCs Try.prog 11 = some [.string .empty] := by kernel_rfl
@[go_sem] theorem Try.pl_und11 : Try.prog.underlying 11 = some .string := by kernel_rfl
@[go_sem] theorem Try.pl_agg12 : aggN Try.prog 12 = some (none) := by kernel_rfl
@[go_sem] theorem Try.pl_sz12 : szOf Try.prog 12 = some 1 := by kernel_rfl
@[go_sem] theorem Try.pl_zero12 : zeroCs Try.prog 12 = some [.int .u64 0] := by kernel_rfl
@[go_sem] theorem Try.pl_und12 : Try.prog.underlying 12 = some (.int .u64) := by kernel_rfl
@[go_sem] theorem Try.pl_agg13 : aggN Try.prog 13 = some (some 2) := by kernel_rfl
@[go_sem] theorem Try.pl_sz13 : szOf Try.prog 13 = some 2 := by kernel_rfl
@[go_sem] theorem Try.pl_zero13 : zeroCs Try.prog 13 = some [.string .empty, .int .u64 0] := by kernel_rfl
@[go_sem] theorem Try.pl_str13 : structP Try.prog 13 = some ([.string .empty, .int .u64 0], [(0, 1), (1, 1)]) := by kernel_rfl
@[go_sem] theorem Try.pl_off13x0 : fOff Try.prog 13 0 = some (0, 1) := by kernel_rfl
@[go_sem] theorem Try.pl_part13x0 : fPart Try.prog 13 0 = some (0, none) := by kernel_rfl
@[go_sem] theorem Try.pl_off13x1 : fOff Try.prog 13 1 = some (1, 1) := by kernel_rfl
@[go_sem] theorem Try.pl_part13x1 : fPart Try.prog 13 1 = some (1, none) := by kernel_rfl
@[go_sem] theorem Try.pl_agg14 : aggN Try.prog 14 = some (some 2) := by kernel_rfl
@[go_sem] theorem Try.pl_sz14 : szOf Try.prog 14 = some 2 := by kernel_rfl
@[go_sem] theorem Try.pl_zero14 : zeroCs Try.prog 14 = some [.string .empty, .int .u64 0] := by kernel_rfl
@[go_sem] theorem Try.pl_str14 : structP Try.prog 14 = some ([.string .empty, .int .u64 0], [(0, 1), (1, 1)]) := by kernel_rfl
@[go_sem] theorem Try.pl_off14x0 : fOff Try.prog 14 0 = some (0, 1) := by kernel_rfl
@[go_sem] theorem Try.pl_part14x0 : fPart Try.prog 14 0 = some (0, none) := by kernel_rfl
@[go_sem] theorem Try.pl_off14x1 : fOff Try.prog 14 1 = some (1, 1) := by kernel_rfl
@[go_sem] theorem Try.pl_part14x1 : fPart Try.prog 14 1 = some (1, none) := by kernel_rfl
@[go_sem] theorem Try.pl_agg15 : aggN Try.prog 15 = some (none) := by kernel_rfl
@[go_sem] theorem Try.pl_sz15 : szOf Try.prog 15 = some 1 := by kernel_rfl
@[go_sem] theorem Try.pl_zero15 : zeroCs Try.prog 15 = some [.pointer none] := by kernel_rfl
@[go_sem] theorem Try.pl_agg16 : aggN Try.prog 16 = some (none) := by kernel_rfl
@[go_sem] theorem Try.pl_sz16 : szOf Try.prog 16 = some 1 := by kernel_rfl
@[go_sem] theorem Try.pl_zero16 : zeroCs Try.prog 16 = some [.pointer none] := by kernel_rfl
@[go_sem] theorem Try.pl_agg17 : aggN Try.prog 17 = some (none) := by kernel_rfl
@[go_sem] theorem Try.pl_sz17 : szOf Try.prog 17 = some 1 := by kernel_rfl
@[go_sem] theorem Try.pl_zero17 : zeroCs Try.prog 17 = some [.pointer none] := by kernel_rfl
@[go_sem] theorem Try.pl_agg18 : aggN Try.prog 18 = some (some 1) := by kernel_rfl
@[go_sem] theorem Try.pl_sz18 : szOf Try.prog 18 = some 1 := by kernel_rfl
@[go_sem] theorem Try.pl_zero18 : zeroCs Try.prog 18 = some [.pointer none] := by kernel_rfl
@[go_sem] theorem Try.pl_str18 : structP Try.prog 18 = some ([.pointer none], [(0, 1)]) := by kernel_rfl
@[go_sem] theorem Try.pl_off18x0 : fOff Try.prog 18 0 = some (0, 1) := by kernel_rfl
@[go_sem] theorem Try.pl_part18x0 : fPart Try.prog 18 0 = some (0, none) := by kernel_rfl
@[go_sem] theorem Try.pl_agg19 : aggN Try.prog 19 = some (some 1) := by kernel_rfl
@[go_sem] theorem Try.pl_sz19 : szOf Try.prog 19 = some 1 := by kernel_rfl
@[go_sem] theorem Try.pl_zero19 : zeroCs Try.prog 19 = some [.pointer none] := by kernel_rfl
@[go_sem] theorem Try.pl_str19 : structP Try.prog 19 = some ([.pointer none], [(0, 1)]) := by kernel_rfl
@[go_sem] theorem Try.pl_off19x0 : fOff Try.prog 19 0 = some (0, 1) := by kernel_rfl
@[go_sem] theorem Try.pl_part19x0 : fPart Try.prog 19 0 = some (0, none) := by kernel_rfl
@[go_sem] theorem Try.pl_agg21 : aggN Try.prog 21 = some (none) := by kernel_rfl
@[go_sem] theorem Try.pl_sz21 : szOf Try.prog 21 = some 1 := by kernel_rfl
@[go_sem] theorem Try.pl_zero21 : zeroCs Try.prog 21 = some [.int .i32 0] := by kernel_rfl
@[go_sem] theorem Try.pl_und21 : Try.prog.underlying 21 = some (.int .i32) := by kernel_rfl
@[go_sem] theorem Try.pl_agg22 : aggN Try.prog 22 = some (some 3) := by kernel_rfl
@[go_sem] theorem Try.pl_sz22 : szOf Try.prog 22 = some 3 := by kernel_rfl
@[go_sem] theorem Try.pl_zero22 : zeroCs Try.prog 22 = some [.int .i64 0, .int .i64 0, .int .i64 0] := by kernel_rfl
@[go_sem] theorem Try.pl_str22 : structP Try.prog 22 = some ([.int .i64 0, .int .i64 0, .int .i64 0], [(0, 1), (1, 1), (2, 1)]) := by kernel_rfl
@[go_sem] theorem Try.pl_off22x0 : fOff Try.prog 22 0 = some (0, 1) := by kernel_rfl
@[go_sem] theorem Try.pl_part22x0 : fPart Try.prog 22 0 = some (0, none) := by kernel_rfl
@[go_sem] theorem Try.pl_off22x1 : fOff Try.prog 22 1 = some (1, 1) := by kernel_rfl
@[go_sem] theorem Try.pl_part22x1 : fPart Try.prog 22 1 = some (1, none) := by kernel_rfl
@[go_sem] theorem Try.pl_off22x2 : fOff Try.prog 22 2 = some (2, 1) := by kernel_rfl
@[go_sem] theorem Try.pl_part22x2 : fPart Try.prog 22 2 = some (2, none) := by kernel_rfl
@[go_sem] theorem Try.pl_agg23 : aggN Try.prog 23 = some (some 3) := by kernel_rfl
@[go_sem] theorem Try.pl_sz23 : szOf Try.prog 23 = some 3 := by kernel_rfl
@[go_sem] theorem Try.pl_zero23 : zeroCs Try.prog 23 = some [.int .i64 0, .int .i64 0, .int .i64 0] := by kernel_rfl
@[go_sem] theorem Try.pl_str23 : structP Try.prog 23 = some ([.int .i64 0, .int .i64 0, .int .i64 0], [(0, 1), (1, 1), (2, 1)]) := by kernel_rfl
@[go_sem] theorem Try.pl_off23x0 : fOff Try.prog 23 0 = some (0, 1) := by kernel_rfl
@[go_sem] theorem Try.pl_part23x0 : fPart Try.prog 23 0 = some (0, none) := by kernel_rfl
@[go_sem] theorem Try.pl_off23x1 : fOff Try.prog 23 1 = some (1, 1) := by kernel_rfl
@[go_sem] theorem Try.pl_part23x1 : fPart Try.prog 23 1 = some (1, none) := by kernel_rfl
@[go_sem] theorem Try.pl_off23x2 : fOff Try.prog 23 2 = some (2, 1) := by kernel_rfl
@[go_sem] theorem Try.pl_part23x2 : fPart Try.prog 23 2 = some (2, none) := by kernel_rfl
@[go_sem] theorem Try.pl_agg24 : aggN Try.prog 24 = some (some 5) := by kernel_rfl
@[go_sem] theorem Try.pl_sz24 : szOf Try.prog 24 = some 5 := by kernel_rfl
@[go_sem] theorem Try.pl_zero24 : zeroCs Try.prog 24 = some [.int .i64 0, .int .i64 0, .int .i64 0, .int .i64 0, .int .i64 0] := by kernel_rfl
@[go_sem] theorem Try.pl_str24 : structP Try.prog 24 = some ([.int .i64 0, .int .i64 0, .int .i64 0, .int .i64 0, .int .i64 0], [(0, 3), (3, 1), (4, 1)]) := by kernel_rfl
@[go_sem] theorem Try.pl_off24x0 : fOff Try.prog 24 0 = some (0, 3) := by kernel_rfl
@[go_sem] theorem Try.pl_part24x0 : fPart Try.prog 24 0 = some (0, some 3) := by kernel_rfl
@[go_sem] theorem Try.pl_off24x1 : fOff Try.prog 24 1 = some (3, 1) := by kernel_rfl
@[go_sem] theorem Try.pl_part24x1 : fPart Try.prog 24 1 = some (3, none) := by kernel_rfl
@[go_sem] theorem Try.pl_off24x2 : fOff Try.prog 24 2 = some (4, 1) := by kernel_rfl
@[go_sem] theorem Try.pl_part24x2 : fPart Try.prog 24 2 = some (4, none) := by kernel_rfl
@[go_sem] theorem Try.pl_agg25 : aggN Try.prog 25 = some (some 5) := by kernel_rfl
@[go_sem] theorem Try.pl_sz25 : szOf Try.prog 25 = some 5 := by kernel_rfl
@[go_sem] theorem Try.pl_zero25 : zeroCs Try.prog 25 = some [.int .i64 0, .int .i64 0, .int .i64 0, .int .i64 0, .int .i64 0] := by kernel_rfl
@[go_sem] theorem Try.pl_str25 : structP Try.prog 25 = some ([.int .i64 0, .int .i64 0, .int .i64 0, .int .i64 0, .int .i64 0], [(0, 3), (3, 1), (4, 1)]) := by kernel_rfl
@[go_sem] theorem Try.pl_off25x0 : fOff Try.prog 25 0 = some (0, 3) := by kernel_rfl
@[go_sem] theorem Try.pl_part25x0 : fPart Try.prog 25 0 = some (0, some 3) := by kernel_rfl
@[go_sem] theorem Try.pl_off25x1 : fOff Try.prog 25 1 = some (3, 1) := by kernel_rfl
@[go_sem] theorem Try.pl_part25x1 : fPart Try.prog 25 1 = some (3, none) := by kernel_rfl
@[go_sem] theorem Try.pl_off25x2 : fOff Try.prog 25 2 = some (4, 1) := by kernel_rfl
@[go_sem] theorem Try.pl_part25x2 : fPart Try.prog 25 2 = some (4, none) := by kernel_rfl
@[go_sem] theorem Try.pl_agg26 : aggN Try.prog 26 = some (none) := by kernel_rfl
@[go_sem] theorem Try.pl_sz26 : szOf Try.prog 26 = some 1 := by kernel_rfl
@[go_sem] theorem Try.pl_zero26 : zeroCs Try.prog 26 = some [.slice none 0 0] := by kernel_rfl
@[go_sem] theorem Try.pl_und26 : Try.prog.underlying 26 = some (.slice 41) := by kernel_rfl
@[go_sem] theorem Try.pl_zv26 : zeroV Try.prog 41 = some (.agg #[.int .i64 0, .int .i64 0, .int .i64 0]) := by kernel_rfl
@[go_sem] theorem Try.pl_esz26 : eSz Try.prog 26 = some (41, 3) := by kernel_rfl
@[go_sem] theorem Try.pl_einf26 : eInf Try.prog 26 = some (41, 3, 24) := by kernel_rfl
@[go_sem] theorem Try.pl_agg27 : aggN Try.prog 27 = some (some 8) := by kernel_rfl
@[go_sem] theorem Try.pl_sz27 : szOf Try.prog 27 = some 8 := by kernel_rfl
@[go_sem] theorem Try.pl_zero27 : zeroCs Try.prog 27 = some [.int .i64 0, .int .i64 0, .int .i64 0, .int .i64 0, .int .i64 0, .slice none 0 0, .int .i64 0, .int .i64 0] := by kernel_rfl
@[go_sem] theorem Try.pl_str27 : structP Try.prog 27 = some ([.int .i64 0, .int .i64 0, .int .i64 0, .int .i64 0, .int .i64 0, .slice none 0 0, .int .i64 0, .int .i64 0], [(0, 5), (5, 1), (6, 1), (7, 1)]) := by kernel_rfl
@[go_sem] theorem Try.pl_off27x0 : fOff Try.prog 27 0 = some (0, 5) := by kernel_rfl
@[go_sem] theorem Try.pl_part27x0 : fPart Try.prog 27 0 = some (0, some 5) := by kernel_rfl
@[go_sem] theorem Try.pl_off27x1 : fOff Try.prog 27 1 = some (5, 1) := by kernel_rfl
@[go_sem] theorem Try.pl_part27x1 : fPart Try.prog 27 1 = some (5, none) := by kernel_rfl
@[go_sem] theorem Try.pl_off27x2 : fOff Try.prog 27 2 = some (6, 1) := by kernel_rfl
@[go_sem] theorem Try.pl_part27x2 : fPart Try.prog 27 2 = some (6, none) := by kernel_rfl
@[go_sem] theorem Try.pl_off27x3 : fOff Try.prog 27 3 = some (7, 1) := by kernel_rfl
@[go_sem] theorem Try.pl_part27x3 : fPart Try.prog 27 3 = some (7, none) := by kernel_rfl
@[go_sem] theorem Try.pl_agg28 : aggN Try.prog 28 = some (some 8) := by kernel_rfl
@[go_sem] theorem Try.pl_sz28 : szOf Try.prog 28 = some 8 := by kernel_rfl
@[go_sem] theorem Try.pl_zero28 : zeroCs Try.prog 28 = some [.int .i64 0, .int .i64 0, .int .i64 0, .int .i64 0, .int .i64 0, .slice none 0 0, .int .i64 0, .int .i64 0] := by kernel_rfl
@[go_sem] theorem Try.pl_str28 : structP Try.prog 28 = some ([.int .i64 0, .int .i64 0, .int .i64 0, .int .i64 0, .int .i64 0, .slice none 0 0, .int .i64 0, .int .i64 0], [(0, 5), (5, 1), (6, 1), (7, 1)]) := by kernel_rfl
@[go_sem] theorem Try.pl_off28x0 : fOff Try.prog 28 0 = some (0, 5) := by kernel_rfl
@[go_sem] theorem Try.pl_part28x0 : fPart Try.prog 28 0 = some (0, some 5) := by kernel_rfl
@[go_sem] theorem Try.pl_off28x1 : fOff Try.prog 28 1 = some (5, 1) := by kernel_rfl
@[go_sem] theorem Try.pl_part28x1 : fPart Try.prog 28 1 = some (5, none) := by kernel_rfl
@[go_sem] theorem Try.pl_off28x2 : fOff Try.prog 28 2 = some (6, 1) := by kernel_rfl
@[go_sem] theorem Try.pl_part28x2 : fPart Try.prog 28 2 = some (6, none) := by kernel_rfl
@[go_sem] theorem Try.pl_off28x3 : fOff Try.prog 28 3 = some (7, 1) := by kernel_rfl
@[go_sem] theorem Try.pl_part28x3 : fPart Try.prog 28 3 = some (7, none) := by kernel_rfl
@[go_sem] theorem Try.pl_agg31 : aggN Try.prog 31 = some (some 3) := by kernel_rfl
@[go_sem] theorem Try.pl_sz31 : szOf Try.prog 31 = some 3 := by kernel_rfl
@[go_sem] theorem Try.pl_zero31 : zeroCs Try.prog 31 = some [.int .i64 0, .int .i64 0, .int .i64 0] := by kernel_rfl
@[go_sem] theorem Try.pl_str31 : structP Try.prog 31 = some ([.int .i64 0, .int .i64 0, .int .i64 0], [(0, 1), (1, 1), (2, 1)]) := by kernel_rfl
@[go_sem] theorem Try.pl_off31x0 : fOff Try.prog 31 0 = some (0, 1) := by kernel_rfl
@[go_sem] theorem Try.pl_part31x0 : fPart Try.prog 31 0 = some (0, none) := by kernel_rfl
@[go_sem] theorem Try.pl_off31x1 : fOff Try.prog 31 1 = some (1, 1) := by kernel_rfl
@[go_sem] theorem Try.pl_part31x1 : fPart Try.prog 31 1 = some (1, none) := by kernel_rfl
@[go_sem] theorem Try.pl_off31x2 : fOff Try.prog 31 2 = some (2, 1) := by kernel_rfl
@[go_sem] theorem Try.pl_part31x2 : fPart Try.prog 31 2 = some (2, none) := by kernel_rfl
@[go_sem] theorem Try.pl_agg32 : aggN Try.prog 32 = some (some 5) := by kernel_rfl
@[go_sem] theorem Try.pl_sz32 : szOf Try.prog 32 = some 5 := by kernel_rfl
@[go_sem] theorem Try.pl_zero32 : zeroCs Try.prog 32 = some [.int .i64 0, .int .i64 0, .int .i64 0, .int .i64 0, .int .i64 0] := by kernel_rfl
@[go_sem] theorem Try.pl_str32 : structP Try.prog 32 = some ([.int .i64 0, .int .i64 0, .int .i64 0, .int .i64 0, .int .i64 0], [(0, 3), (3, 1), (4, 1)]) := by kernel_rfl
@[go_sem] theorem Try.pl_off32x0 : fOff Try.prog 32 0 = some (0, 3) := by kernel_rfl
@[go_sem] theorem Try.pl_part32x0 : fPart Try.prog 32 0 = some (0, some 3) := by kernel_rfl
@[go_sem] theorem Try.pl_off32x1 : fOff Try.prog 32 1 = some (3, 1) := by kernel_rfl
@[go_sem] theorem Try.pl_part32x1 : fPart Try.prog 32 1 = some (3, none) := by kernel_rfl
@[go_sem] theorem Try.pl_off32x2 : fOff Try.prog 32 2 = some (4, 1) := by kernel_rfl
@[go_sem] theorem Try.pl_part32x2 : fPart Try.prog 32 2 = some (4, none) := by kernel_rfl
@[go_sem] theorem Try.pl_agg33 : aggN Try.prog 33 = some (some 5) := by kernel_rfl
@[go_sem] theorem Try.pl_sz33 : szOf Try.prog 33 = some 5 := by kernel_rfl
@[go_sem] theorem Try.pl_zero33 : zeroCs Try.prog 33 = some [.int .i64 0, .int .i64 0, .int .i64 0, .int .i64 0, .int .i64 0] := by kernel_rfl
@[go_sem] theorem Try.pl_str33 : structP Try.prog 33 = some ([.int .i64 0, .int .i64 0, .int .i64 0, .int .i64 0, .int .i64 0], [(0, 3), (3, 1), (4, 1)]) := by kernel_rfl
@[go_sem] theorem Try.pl_off33x0 : fOff Try.prog 33 0 = some (0, 3) := by kernel_rfl
@[go_sem] theorem Try.pl_part33x0 : fPart Try.prog 33 0 = some (0, some 3) := by kernel_rfl
@[go_sem] theorem Try.pl_off33x1 : fOff Try.prog 33 1 = some (3, 1) := by kernel_rfl
@[go_sem] theorem Try.pl_part33x1 : fPart Try.prog 33 1 = some (3, none) := by kernel_rfl
@[go_sem] theorem Try.pl_off33x2 : fOff Try.prog 33 2 = some (4, 1) := by kernel_rfl
@[go_sem] theorem Try.pl_part33x2 : fPart Try.prog 33 2 = some (4, none) := by kernel_rfl
@[go_sem] theorem Try.pl_agg34 : aggN Try.prog 34 = some (none) := by kernel_rfl
@[go_sem] theorem Try.pl_sz34 : szOf Try.prog 34 = some 1 := by kernel_rfl
@[go_sem] theorem Try.pl_zero34 : zeroCs Try.prog 34 = some [.slice none 0 0] := by kernel_rfl
@[go_sem] theorem Try.pl_und34 : Try.prog.underlying 34 = some (.slice 44) := by kernel_rfl
@[go_sem] theorem Try.pl_zv34 : zeroV Try.prog 44 = some (.agg #[.int .i64 0, .int .i64 0, .int .i64 0]) := by kernel_rfl
@[go_sem] theorem Try.pl_esz34 : eSz Try.prog 34 = some (44, 3) := by kernel_rfl
@[go_sem] theorem Try.pl_einf34 : eInf Try.prog 34 = some (44, 3, 24) := by kernel_rfl
@[go_sem] theorem Try.pl_agg35 : aggN Try.prog 35 = some (some 8) := by kernel_rfl
@[go_sem] theorem Try.pl_sz35 : szOf Try.prog 35 = some 8 := by kernel_rfl
@[go_sem] theorem Try.pl_zero35 : zeroCs Try.prog 35 = some [.int .i64 0, .int .i64 0, .int .i64 0, .int .i64 0, .int .i64 0, .slice none 0 0, .int .i64 0, .int .i64 0] := by kernel_rfl
@[go_sem] theorem Try.pl_str35 : structP Try.prog 35 = some ([.int .i64 0, .int .i64 0, .int .i64 0, .int .i64 0, .int .i64 0, .slice none 0 0, .int .i64 0, .int .i64 0], [(0, 5), (5, 1), (6, 1), (7, 1)]) := by kernel_rfl
@[go_sem] theorem Try.pl_off35x0 : fOff Try.prog 35 0 = some (0, 5) := by kernel_rfl
@[go_sem] theorem Try.pl_part35x0 : fPart Try.prog 35 0 = some (0, some 5) := by kernel_rfl
@[go_sem] theorem Try.pl_off35x1 : fOff Try.prog 35 1 = some (5, 1) := by kernel_rfl
@[go_sem] theorem Try.pl_part35x1 : fPart Try.prog 35 1 = some (5, none) := by kernel_rfl
@[go_sem] theorem Try.pl_off35x2 : fOff Try.prog 35 2 = some (6, 1) := by kernel_rfl
@[go_sem] theorem Try.pl_part35x2 : fPart Try.prog 35 2 = some (6, none) := by kernel_rfl
@[go_sem] theorem Try.pl_off35x3 : fOff Try.prog 35 3 = some (7, 1) := by kernel_rfl
@[go_sem] theorem Try.pl_part35x3 : fPart Try.prog 35 3 = some (7, none) := by kernel_rfl
@[go_sem] theorem Try.pl_agg36 : aggN Try.prog 36 = some (some 8) := by kernel_rfl
@[go_sem] theorem Try.pl_sz36 : szOf Try.prog 36 = some 8 := by kernel_rfl
@[go_sem] theorem Try.pl_zero36 : zeroCs Try.prog 36 = some [.int .i64 0, .int .i64 0, .int .i64 0, .int .i64 0, .int .i64 0, .slice none 0 0, .int .i64 0, .int .i64 0] := by kernel_rfl
@[go_sem] theorem Try.pl_str36 : structP Try.prog 36 = some ([.int .i64 0, .int .i64 0, .int .i64 0, .int .i64 0, .int .i64 0, .slice none 0 0, .int .i64 0, .int .i64 0], [(0, 5), (5, 1), (6, 1), (7, 1)]) := by kernel_rfl
@[go_sem] theorem Try.pl_off36x0 : fOff Try.prog 36 0 = some (0, 5) := by kernel_rfl
@[go_sem] theorem Try.pl_part36x0 : fPart Try.prog 36 0 = some (0, some 5) := by kernel_rfl
@[go_sem] theorem Try.pl_off36x1 : fOff Try.prog 36 1 = some (5, 1) := by kernel_rfl
@[go_sem] theorem Try.pl_part36x1 : fPart Try.prog 36 1 = some (5, none) := by kernel_rfl
@[go_sem] theorem Try.pl_off36x2 : fOff Try.prog 36 2 = some (6, 1) := by kernel_rfl
@[go_sem] theorem Try.pl_part36x2 : fPart Try.prog 36 2 = some (6, none) := by kernel_rfl
@[go_sem] theorem Try.pl_off36x3 : fOff Try.prog 36 3 = some (7, 1) := by kernel_rfl
@[go_sem] theorem Try.pl_part36x3 : fPart Try.prog 36 3 = some (7, none) := by kernel_rfl
@[go_sem] theorem Try.pl_agg40 : aggN Try.prog 40 = some (some 3) := by kernel_rfl
@[go_sem] theorem Try.pl_sz40 : szOf Try.prog 40 = some 3 := by kernel_rfl
@[go_sem] theorem Try.pl_zero40 : zeroCs Try.prog 40 = some [.int .i64 0, .int .i64 0, .int .i64 0] := by kernel_rfl
@[go_sem] theorem Try.pl_str40 : structP Try.prog 40 = some ([.int .i64 0, .int .i64 0, .int .i64 0], [(0, 1), (1, 1), (2, 1)]) := by kernel_rfl
@[go_sem] theorem Try.pl_off40x0 : fOff Try.prog 40 0 = some (0, 1) := by kernel_rfl
@[go_sem] theorem Try.pl_part40x0 : fPart Try.prog 40 0 = some (0, none) := by kernel_rfl
@[go_sem] theorem Try.pl_off40x1 : fOff Try.prog 40 1 = some (1, 1) := by kernel_rfl
@[go_sem] theorem Try.pl_part40x1 : fPart Try.prog 40 1 = some (1, none) := by kernel_rfl
@[go_sem] theorem Try.pl_off40x2 : fOff Try.prog 40 2 = some (2, 1) := by kernel_rfl
@[go_sem] theorem Try.pl_part40x2 : fPart Try.prog 40 2 = some (2, none) := by kernel_rfl
@[go_sem] theorem Try.pl_agg41 : aggN Try.prog 41 = some (some 3) := by kernel_rfl
@[go_sem] theorem Try.pl_sz41 : szOf Try.prog 41 = some 3 := by kernel_rfl
@[go_sem] theorem Try.pl_zero41 : zeroCs Try.prog 41 = some [.int .i64 0, .int .i64 0, .int .i64 0] := by kernel_rfl
@[go_sem] theorem Try.pl_str41 : structP Try.prog 41 = some ([.int .i64 0, .int .i64 0, .int .i64 0], [(0, 1), (1, 1), (2, 1)]) := by kernel_rfl
@[go_sem] theorem Try.pl_off41x0 : fOff Try.prog 41 0 = some (0, 1) := by kernel_rfl
@[go_sem] theorem Try.pl_part41x0 : fPart Try.prog 41 0 = some (0, none) := by kernel_rfl
@[go_sem] theorem Try.pl_off41x1 : fOff Try.prog 41 1 = some (1, 1) := by kernel_rfl
@[go_sem] theorem Try.pl_part41x1 : fPart Try.prog 41 1 = some (1, none) := by kernel_rfl
@[go_sem] theorem Try.pl_off41x2 : fOff Try.prog 41 2 = some (2, 1) := by kernel_rfl
@[go_sem] theorem Try.pl_part41x2 : fPart Try.prog 41 2 = some (2, none) := by kernel_rfl
@[go_sem] theorem Try.pl_agg44 : aggN Try.prog 44 = some (some 3) := by kernel_rfl
@[go_sem] theorem Try.pl_sz44 : szOf Try.prog 44 = some 3 := by kernel_rfl
@[go_sem] theorem Try.pl_zero44 : zeroCs Try.prog 44 = some [.int .i64 0, .int .i64 0, .int .i64 0] := by kernel_rfl
@[go_sem] theorem Try.pl_str44 : structP Try.prog 44 = some ([.int .i64 0, .int .i64 0, .int .i64 0], [(0, 1), (1, 1), (2, 1)]) := by kernel_rfl
@[go_sem] theorem Try.pl_off44x0 : fOff Try.prog 44 0 = some (0, 1) := by kernel_rfl
@[go_sem] theorem Try.pl_part44x0 : fPart Try.prog 44 0 = some (0, none) := by kernel_rfl
@[go_sem] theorem Try.pl_off44x1 : fOff Try.prog 44 1 = some (1, 1) := by kernel_rfl
@[go_sem] theorem Try.pl_part44x1 : fPart Try.prog 44 1 = some (1, none) := by kernel_rfl
@[go_sem] theorem Try.pl_off44x2 : fOff Try.prog 44 2 = some (2, 1) := by kernel_rfl
@[go_sem] theorem Try.pl_part44x2 : fPart Try.prog 44 2 = some (2, none) := by kernel_rfl
@[go_sem] theorem Try.pl_agg49 : aggN Try.prog 49 = some (none) := by kernel_rfl
@[go_sem] theorem Try.pl_sz49 : szOf Try.prog 49 = some 1 := by kernel_rfl
@[go_sem] theorem Try.pl_zero49 : zeroCs Try.prog 49 = some [.slice none 0 0] := by kernel_rfl
@[go_sem] theorem Try.pl_und49 : Try.prog.underlying 49 = some (.slice 5) := by kernel_rfl
@[go_sem] theorem Try.pl_zv49 : zeroV Try.prog 5 = some (.int .u8 0) := by kernel_rfl
@[go_sem] theorem Try.pl_esz49 : eSz Try.prog 49 = some (5, 1) := by kernel_rfl
@[go_sem] theorem Try.pl_einf49 : eInf Try.prog 49 = some (5, 1, 1) := by kernel_rfl
@[go_sem] theorem Try.pl_agg55 : aggN Try.prog 55 = some (none) := by kernel_rfl
@[go_sem] theorem Try.pl_sz55 : szOf Try.prog 55 = some 1 := by kernel_rfl
@[go_sem] theorem Try.pl_zero55 : zeroCs Try.prog 55 = some [.slice none 0 0] := by kernel_rfl
@[go_sem] theorem Try.pl_und55 : Try.prog.underlying 55 = some (.slice 3) := by kernel_rfl
@[go_sem] theorem Try.pl_zv55 : zeroV Try.prog 3 = some (.int .i64 0) := by kernel_rfl
@[go_sem] theorem Try.pl_esz55 : eSz Try.prog 55 = some (3, 1) := by kernel_rfl
@[go_sem] theorem Try.pl_einf55 : eInf Try.prog 55 = some (3, 1, 8) := by kernel_rfl
@[go_sem] theorem Try.pl_agg65 : aggN Try.prog 65 = some (some 3) := by kernel_rfl
@[go_sem] theorem Try.pl_sz65 : szOf Try.prog 65 = some 3 := by kernel_rfl
@[go_sem] theorem Try.pl_zero65 : zeroCs Try.prog 65 = some [.int .i64 0, .int .i64 0, .int .i64 0] := by kernel_rfl
@[go_sem] theorem Try.pl_str65 : structP Try.prog 65 = some ([.int .i64 0, .int .i64 0, .int .i64 0], [(0, 1), (1, 1), (2, 1)]) := by kernel_rfl
@[go_sem] theorem Try.pl_off65x0 : fOff Try.prog 65 0 = some (0, 1) := by kernel_rfl
@[go_sem] theorem Try.pl_part65x0 : fPart Try.prog 65 0 = some (0, none) := by kernel_rfl
@[go_sem] theorem Try.pl_off65x1 : fOff Try.prog 65 1 = some (1, 1) := by kernel_rfl
@[go_sem] theorem Try.pl_part65x1 : fPart Try.prog 65 1 = some (1, none) := by kernel_rfl
@[go_sem] theorem Try.pl_off65x2 : fOff Try.prog 65 2 = some (2, 1) := by kernel_rfl
@[go_sem] theorem Try.pl_part65x2 : fPart Try.prog 65 2 = some (2, none) := by kernel_rfl
@[go_sem] theorem Try.pl_agg66 : aggN Try.prog 66 = some (some 3) := by kernel_rfl
@[go_sem] theorem Try.pl_sz66 : szOf Try.prog 66 = some 3 := by kernel_rfl
@[go_sem] theorem Try.pl_zero66 : zeroCs Try.prog 66 = some [.int .i64 0, .int .i64 0, .int .i64 0] := by kernel_rfl
@[go_sem] theorem Try.pl_str66 : structP Try.prog 66 = some ([.int .i64 0, .int .i64 0, .int .i64 0], [(0, 1), (1, 1), (2, 1)]) := by kernel_rfl
@[go_sem] theorem Try.pl_off66x0 : fOff Try.prog 66 0 = some (0, 1) := by kernel_rfl
@[go_sem] theorem Try.pl_part66x0 : fPart Try.prog 66 0 = some (0, none) := by kernel_rfl
@[go_sem] theorem Try.pl_off66x1 : fOff Try.prog 66 1 = some (1, 1) := by kernel_rfl
@[go_sem] theorem Try.pl_part66x1 : fPart Try.prog 66 1 = some (1, none) := by kernel_rfl
@[go_sem] theorem Try.pl_off66x2 : fOff Try.prog 66 2 = some (2, 1) := by kernel_rfl
@[go_sem] theorem Try.pl_part66x2 : fPart Try.prog 66 2 = some (2, none) := by kernel_rfl
@[go_sem] theorem Try.pl_agg67 : aggN Try.prog 67 = some (none) := by kernel_rfl
@[go_sem] theorem Try.pl_sz67 : szOf Try.prog 67 = some 1 := by kernel_rfl
@[go_sem] theorem Try.pl_zero67 : zeroCs Try.prog 67 = some [.slice none 0 0] := by kernel_rfl
@[go_sem] theorem Try.pl_und67 : Try.prog.underlying 67 = some (.slice 137) := by kernel_rfl
@[go_sem] theorem Try.pl_zv67 : zeroV Try.prog 137 = some (.agg #[.int .i64 0, .int .i64 0, .int .i64 0, .int .i64 0]) := by kernel_rfl
@[go_sem] theorem Try.pl_esz67 : eSz Try.prog 67 = some (137, 4) := by kernel_rfl
@[go_sem] theorem Try.pl_einf67 : eInf Try.prog 67 = some (137, 4, 32) := by kernel_rfl
@[go_sem] theorem Try.pl_agg68 : aggN Try.prog 68 = some (some 13) := by kernel_rfl
@[go_sem] theorem Try.pl_sz68 : szOf Try.prog 68 = some 13 := by kernel_rfl
@[go_sem] theorem Try.pl_zero68 : zeroCs Try.prog 68 = some [.int .i64 0, .int .i64 0, .int .i64 0, .int .i64 0, .int .i64 0, .slice none 0 0, .int .i64 0, .int .i64 0, .int .i64 0, .int .i64 0, .int .i64 0, .int .i64 0, .slice none 0 0] := by kernel_rfl
@[go_sem] theorem Try.pl_str68 : structP Try.prog 68 = some ([.int .i64 0, .int .i64 0, .int .i64 0, .int .i64 0, .int .i64 0, .slice none 0 0, .int .i64 0, .int .i64 0, .int .i64 0, .int .i64 0, .int .i64 0, .int .i64 0, .slice none 0 0], [(0, 8), (8, 3), (11, 1), (12, 1)]) := by kernel_rfl
@[go_sem] theorem Try.pl_off68x0 : fOff Try.prog 68 0 = some (0, 8) := by kernel_rfl
@[go_sem] theorem Try.pl_part68x0 : fPart Try.prog 68 0 = some (0, some 8) := by kernel_rfl
@[go_sem] theorem Try.pl_off68x1 : fOff Try.prog 68 1 = some (8, 3) := by kernel_rfl
@[go_sem] theorem Try.pl_part68x1 : fPart Try.prog 68 1 = some (8, some 3) := by kernel_rfl
@[go_sem] theorem Try.pl_off68x2 : fOff Try.prog 68 2 = some (11, 1) := by kernel_rfl
@[go_sem] theorem Try.pl_part68x2 : fPart Try.prog 68 2 = some (11, none) := by kernel_rfl
@[go_sem] theorem Try.pl_off68x3 : fOff Try.prog 68 3 = some (12, 1) := by kernel_rfl
@[go_sem] theorem Try.pl_part68x3 : fPart Try.prog 68 3 = some (12, none) := by kernel_rfl
@[go_sem] theorem Try.pl_agg69 : aggN Try.prog 69 = some (some 13) := by kernel_rfl
@[go_sem] theorem Try.pl_sz69 : szOf Try.prog 69 = some 13 := by kernel_rfl
@[go_sem] theorem Try.pl_zero69 : zeroCs Try.prog 69 = some [.int .i64 0, .int .i64 0, .int .i64 0, .int .i64 0, .int .i64 0, .slice none 0 0, .int .i64 0, .int .i64 0, .int .i64 0, .int .i64 0, .int .i64 0, .int .i64 0, .slice none 0 0] := by kernel_rfl
@[go_sem] theorem Try.pl_str69 : structP Try.prog 69 = some ([.int .i64 0, .int .i64 0, .int .i64 0, .int .i64 0, .int .i64 0, .slice none 0 0, .int .i64 0, .int .i64 0, .int .i64 0, .int .i64 0, .int .i64 0, .int .i64 0, .slice none 0 0], [(0, 8), (8, 3), (11, 1), (12, 1)]) := by kernel_rfl
@[go_sem] theorem Try.pl_off69x0 : fOff Try.prog 69 0 = some (0, 8) := by kernel_rfl
@[go_sem] theorem Try.pl_part69x0 : fPart Try.prog 69 0 = some (0, some 8) := by kernel_rfl
@[go_sem] theorem Try.pl_off69x1 : fOff Try.prog 69 1 = some (8, 3) := by kernel_rfl
@[go_sem] theorem Try.pl_part69x1 : fPart Try.prog 69 1 = some (8, some 3) := by kernel_rfl
@[go_sem] theorem Try.pl_off69x2 : fOff Try.prog 69 2 = some (11, 1) := by kernel_rfl
@[go_sem] theorem Try.pl_part69x2 : fPart Try.prog 69 2 = some (11, none) := by kernel_rfl
@[go_sem] theorem Try.pl_off69x3 : fOff Try.prog 69 3 = some (12, 1) := by kernel_rfl
@[go_sem] theorem Try.pl_part69x3 : fPart Try.prog 69 3 = some (12, none) := by kernel_rfl
@[go_sem] theorem Try.pl_agg72 : aggN Try.prog 72 = some (some 3) := by kernel_rfl
@[go_sem] theorem Try.pl_sz72 : szOf Try.prog 72 = some 3 := by kernel_rfl
@[go_sem] theorem Try.pl_zero72 : zeroCs Try.prog 72 = some [.int .i64 0, .int .i64 0, .int .i64 0] := by kernel_rfl
@[go_sem] theorem Try.pl_str72 : structP Try.prog 72 = some ([.int .i64 0, .int .i64 0, .int .i64 0], [(0, 1), (1, 1), (2, 1)]) := by kernel_rfl
@[go_sem] theorem Try.pl_off72x0 : fOff Try.prog 72 0 = some (0, 1) := by kernel_rfl
@[go_sem] theorem Try.pl_part72x0 : fPart Try.prog 72 0 = some (0, none) := by kernel_rfl
@[go_sem] theorem Try.pl_off72x1 : fOff Try.prog 72 1 = some (1, 1) := by kernel_rfl
@[go_sem] theorem Try.pl_part72x1 : fPart Try.prog 72 1 = some (1, none) := by kernel_rfl
@[go_sem] theorem Try.pl_off72x2 : fOff Try.prog 72 2 = some (2, 1) := by kernel_rfl
@[go_sem] theorem Try.pl_part72x2 : fPart Try.prog 72 2 = some (2, none) := by kernel_rfl
@[go_sem] theorem Try.pl_agg73 : aggN Try.prog 73 = some (none) := by kernel_rfl
@[go_sem] theorem Try.pl_sz73 : szOf Try.prog 73 = some 1 := by kernel_rfl
@[go_sem] theorem Try.pl_zero73 : zeroCs Try.prog 73 = some [.slice none 0 0] := by kernel_rfl
@[go_sem] theorem Try.pl_und73 : Try.prog.underlying 73 = some (.slice 135) := by kernel_rfl
@[go_sem] theorem Try.pl_zv73 : zeroV Try.prog 135 = some (.agg #[.int .i64 0, .int .i64 0, .int .i64 0, .int .i64 0]) := by kernel_rfl
@[go_sem] theorem Try.pl_esz73 : eSz Try.prog 73 = some (135, 4) := by kernel_rfl
@[go_sem] theorem Try.pl_einf73 : eInf Try.prog 73 = some (135, 4, 32) := by kernel_rfl
@[go_sem] theorem Try.pl_agg74 : aggN Try.prog 74 = some (some 13) := by kernel_rfl
@[go_sem] theorem Try.pl_sz74 : szOf Try.prog 74 = some 13 := by kernel_rfl
@[go_sem] theorem Try.pl_zero74 : zeroCs Try.prog 74 = some [.int .i64 0, .int .i64 0, .int .i64 0, .int .i64 0, .int .i64 0, .slice none 0 0, .int .i64 0, .int .i64 0, .int .i64 0, .int .i64 0, .int .i64 0, .int .i64 0, .slice none 0 0] := by kernel_rfl
@[go_sem] theorem Try.pl_str74 : structP Try.prog 74 = some ([.int .i64 0, .int .i64 0, .int .i64 0, .int .i64 0, .int .i64 0, .slice none 0 0, .int .i64 0, .int .i64 0, .int .i64 0, .int .i64 0, .int .i64 0, .int .i64 0, .slice none 0 0], [(0, 8), (8, 3), (11, 1), (12, 1)]) := by kernel_rfl
@[go_sem] theorem Try.pl_off74x0 : fOff Try.prog 74 0 = some (0, 8) := by kernel_rfl
@[go_sem] theorem Try.pl_part74x0 : fPart Try.prog 74 0 = some (0, some 8) := by kernel_rfl
@[go_sem] theorem Try.pl_off74x1 : fOff Try.prog 74 1 = some (8, 3) := by kernel_rfl
@[go_sem] theorem Try.pl_part74x1 : fPart Try.prog 74 1 = some (8, some 3) := by kernel_rfl
@[go_sem] theorem Try.pl_off74x2 : fOff Try.prog 74 2 = some (11, 1) := by kernel_rfl
@[go_sem] theorem Try.pl_part74x2 : fPart Try.prog 74 2 = some (11, none) := by kernel_rfl
@[go_sem] theorem Try.pl_off74x3 : fOff Try.prog 74 3 = some (12, 1) := by kernel_rfl
@[go_sem] theorem Try.pl_part74x3 : fPart Try.prog 74 3 = some (12, none) := by kernel_rfl
@[go_sem] theorem Try.pl_agg75 : aggN Try.prog 75 = some (some 13) := by kernel_rfl
@[go_sem] theorem Try.pl_sz75 : szOf Try.prog 75 = some 13 := by kernel_rfl
@[go_sem] theorem Try.pl_zero75 : zeroCs Try.prog 75 = some [.int .i64 0, .int .i64 0, .int .i64 0, .int .i64 0, .int .i64 0, .slice none 0 0, .int .i64 0, .int .i64 0, .int .i64 0, .int .i64 0, .int .i64 0, .int .i64 0, .slice none 0 0] := by kernel_rfl
@[go_sem] theorem Try.pl_str75 : structP Try.prog 75 = some ([.int .i64 0, .int .i64 0, .int .i64 0, .int .i64 0, .int .i64 0, .slice none 0 0, .int .i64 0, .int .i64 0, .int .i64 0, .int .i64 0, .int .i64 0, .int .i64 0, .slice none 0 0], [(0, 8), (8, 3), (11, 1), (12, 1)]) := by kernel_rfl
@[go_sem] theorem Try.pl_off75x0 : fOff Try.prog 75 0 = some (0, 8) := by kernel_rfl
@[go_sem] theorem Try.pl_part75x0 : fPart Try.prog 75 0 = some (0, some 8) := by kernel_rfl
@[go_sem] theorem Try.pl_off75x1 : fOff Try.prog 75 1 = some (8, 3) := by kernel_rfl
@[go_sem] theorem Try.pl_part75x1 : fPart Try.prog 75 1 = some (8, some 3) := by kernel_rfl
@[go_sem] theorem Try.pl_off75x2 : fOff Try.prog 75 2 = some (11, 1) := by kernel_rfl
@[go_sem] theorem Try.pl_part75x2 : fPart Try.prog 75 2 = some (11, none) := by kernel_rfl
@[go_sem] theorem Try.pl_off75x3 : fOff Try.prog 75 3 = some (12, 1) := by kernel_rfl
@[go_sem] theorem Try.pl_part75x3 : fPart Try.prog 75 3 = some (12, none) := by kernel_rfl
@[go_sem] theorem Try.pl_agg98 : aggN Try.prog 98 = some (none) := by kernel_rfl
@[go_sem] theorem Try.pl_sz98 : szOf Try.prog 98 = some 1 := by kernel_rfl
@[go_sem] theorem Try.pl_zero98 : zeroCs Try.prog 98 = some [.pointer none] := by kernel_rfl
@[go_sem] theorem Try.pl_agg124 : aggN Try.prog 124 = some (none) := by kernel_rfl
@[go_sem] theorem Try.pl_sz124 : szOf Try.prog 124 = some 1 := by kernel_rfl
@[go_sem] theorem Try.pl_zero124 : zeroCs Try.prog 124 = some [.slice none 0 0] := by kernel_rfl
@[go_sem] theorem Try.pl_und124 : Try.prog.underlying 124 = some (.slice 4) := by kernel_rfl
@[go_sem] theorem Try.pl_zv124 : zeroV Try.prog 4 = some (.bool false) := by kernel_rfl
@[go_sem] theorem Try.pl_esz124 : eSz Try.prog 124 = some (4, 1) := by kernel_rfl
@[go_sem] theorem Try.pl_einf124 : eInf Try.prog 124 = some (4, 1, 1) := by kernel_rfl
@[go_sem] theorem Try.pl_agg129 : aggN Try.prog 129 = some (some 3) := by kernel_rfl
@[go_sem] theorem Try.pl_sz129 : szOf Try.prog 129 = some 3 := by kernel_rfl
@[go_sem] theorem Try.pl_zero129 : zeroCs Try.prog 129 = some [.slice none 0 0, .int .i64 0, .int .i64 0] := by kernel_rfl
@[go_sem] theorem Try.pl_str129 : structP Try.prog 129 = some ([.slice none 0 0, .int .i64 0, .int .i64 0], [(0, 1), (1, 1), (2, 1)]) := by kernel_rfl
@[go_sem] theorem Try.pl_off129x0 : fOff Try.prog 129 0 = some (0, 1) := by kernel_rfl
@[go_sem] theorem Try.pl_part129x0 : fPart Try.prog 129 0 = some (0, none) := by kernel_rfl
@[go_sem] theorem Try.pl_off129x1 : fOff Try.prog 129 1 = some (1, 1) := by kernel_rfl
@[go_sem] theorem Try.pl_part129x1 : fPart Try.prog 129 1 = some (1, none) := by kernel_rfl
@[go_sem] theorem Try.pl_off129x2 : fOff Try.prog 129 2 = some (2, 1) := by kernel_rfl
@[go_sem] theorem Try.pl_part129x2 : fPart Try.prog 129 2 = some (2, none) := by kernel_rfl
@[go_sem] theorem Try.pl_agg130 : aggN Try.prog 130 = some (some 3) := by kernel_rfl
@[go_sem] theorem Try.pl_sz130 : szOf Try.prog 130 = some 3 := by kernel_rfl
@[go_sem] theorem Try.pl_zero130 : zeroCs Try.prog 130 = some [.slice none 0 0, .int .i64 0, .int .i64 0] := by kernel_rfl
@[go_sem] theorem Try.pl_str130 : structP Try.prog 130 = some ([.slice none 0 0, .int .i64 0, .int .i64 0], [(0, 1), (1, 1), (2, 1)]) := by kernel_rfl
@[go_sem] theorem Try.pl_off130x0 : fOff Try.prog 130 0 = some (0, 1) := by kernel_rfl
@[go_sem] theorem Try.pl_part130x0 : fPart Try.prog 130 0 = some (0, none) := by kernel_rfl
@[go_sem] theorem Try.pl_off130x1 : fOff Try.prog 130 1 = some (1, 1) := by kernel_rfl
@[go_sem] theorem Try.pl_part130x1 : fPart Try.prog 130 1 = some (1, none) := by kernel_rfl
@[go_sem] theorem Try.pl_off130x2 : fOff Try.prog 130 2 = some (2, 1) := by kernel_rfl
@[go_sem] theorem Try.pl_part130x2 : fPart Try.prog 130 2 = some (2, none) := by kernel_rfl
@[go_sem] theorem Try.pl_agg134 : aggN Try.prog 134 = some (some 4) := by kernel_rfl
@[go_sem] theorem Try.pl_sz134 : szOf Try.prog 134 = some 4 := by kernel_rfl
@[go_sem] theorem Try.pl_zero134 : zeroCs Try.prog 134 = some [.int .i64 0, .int .i64 0, .int .i64 0, .int .i64 0] := by kernel_rfl
@[go_sem] theorem Try.pl_str134 : structP Try.prog 134 = some ([.int .i64 0, .int .i64 0, .int .i64 0, .int .i64 0], [(0, 1), (1, 1), (2, 1), (3, 1)]) := by kernel_rfl
@[go_sem] theorem Try.pl_off134x0 : fOff Try.prog 134 0 = some (0, 1) := by kernel_rfl
@[go_sem] theorem Try.pl_part134x0 : fPart Try.prog 134 0 = some (0, none) := by kernel_rfl
@[go_sem] theorem Try.pl_off134x1 : fOff Try.prog 134 1 = some (1, 1) := by kernel_rfl
@[go_sem] theorem Try.pl_part134x1 : fPart Try.prog 134 1 = some (1, none) := by kernel_rfl
@[go_sem] theorem Try.pl_off134x2 : fOff Try.prog 134 2 = some (2, 1) := by kernel_rfl
@[go_sem] theorem Try.pl_part134x2 : fPart Try.prog 134 2 = some (2, none) := by kernel_rfl
@[go_sem] theorem Try.pl_off134x3 : fOff Try.prog 134 3 = some (3, 1) := by kernel_rfl
@[go_sem] theorem Try.pl_part134x3 : fPart Try.prog 134 3 = some (3, none) := by kernel_rfl
@[go_sem] theorem Try.pl_agg135 : aggN Try.prog 135 = some (some 4) := by kernel_rfl
@[go_sem] theorem Try.pl_sz135 : szOf Try.prog 135 = some 4 := by kernel_rfl
@[go_sem] theorem Try.pl_zero135 : zeroCs Try.prog 135 = some [.int .i64 0, .int .i64 0, .int .i64 0, .int .i64 0] := by kernel_rfl
@[go_sem] theorem Try.pl_str135 : structP Try.prog 135 = some ([.int .i64 0, .int .i64 0, .int .i64 0, .int .i64 0], [(0, 1), (1, 1), (2, 1), (3, 1)]) := by kernel_rfl
@[go_sem] theorem Try.pl_off135x0 : fOff Try.prog 135 0 = some (0, 1) := by kernel_rfl
@[go_sem] theorem Try.pl_part135x0 : fPart Try.prog 135 0 = some (0, none) := by kernel_rfl
@[go_sem] theorem Try.pl_off135x1 : fOff Try.prog 135 1 = some (1, 1) := by kernel_rfl
@[go_sem] theorem Try.pl_part135x1 : fPart Try.prog 135 1 = some (1, none) := by kernel_rfl
@[go_sem] theorem Try.pl_off135x2 : fOff Try.prog 135 2 = some (2, 1) := by kernel_rfl
@[go_sem] theorem Try.pl_part135x2 : fPart Try.prog 135 2 = some (2, none) := by kernel_rfl
@[go_sem] theorem Try.pl_off135x3 : fOff Try.prog 135 3 = some (3, 1) := by kernel_rfl
@[go_sem] theorem Try.pl_part135x3 : fPart Try.prog 135 3 = some (3, none) := by kernel_rfl
@[go_sem] theorem Try.pl_agg137 : aggN Try.prog 137 = some (some 4) := by kernel_rfl
@[go_sem] theorem Try.pl_sz137 : szOf Try.prog 137 = some 4 := by kernel_rfl
@[go_sem] theorem Try.pl_zero137 : zeroCs Try.prog 137 = some [.int .i64 0, .int .i64 0, .int .i64 0, .int .i64 0] := by kernel_rfl
@[go_sem] theorem Try.pl_str137 : structP Try.prog 137 = some ([.int .i64 0, .int .i64 0, .int .i64 0, .int .i64 0], [(0, 1), (1, 1), (2, 1), (3, 1)]) := by kernel_rfl
@[go_sem] theorem Try.pl_off137x0 : fOff Try.prog 137 0 = some (0, 1) := by kernel_rfl
@[go_sem] theorem Try.pl_part137x0 : fPart Try.prog 137 0 = some (0, none) := by kernel_rfl
@[go_sem] theorem Try.pl_off137x1 : fOff Try.prog 137 1 = some (1, 1) := by kernel_rfl
@[go_sem] theorem Try.pl_part137x1 : fPart Try.prog 137 1 = some (1, none) := by kernel_rfl
@[go_sem] theorem Try.pl_off137x2 : fOff Try.prog 137 2 = some (2, 1) := by kernel_rfl
@[go_sem] theorem Try.pl_part137x2 : fPart Try.prog 137 2 = some (2, none) := by kernel_rfl
@[go_sem] theorem Try.pl_off137x3 : fOff Try.prog 137 3 = some (3, 1) := by kernel_rfl
@[go_sem] theorem Try.pl_part137x3 : fPart Try.prog 137 3 = some (3, none) := by kernel_rfl
@[go_sem] theorem Try.pl_agg143 : aggN Try.prog 143 = some (none) := by kernel_rfl
@[go_sem] theorem Try.pl_sz143 : szOf Try.prog 143 = some 1 := by kernel_rfl
@[go_sem] theorem Try.pl_zero143 : zeroCs Try.prog 143 = some [.int .u64 0] := by kernel_rfl
@[go_sem] theorem Try.pl_und143 : Try.prog.underlying 143 = some (.int .u64) := by kernel_rfl
@[go_sem] theorem Try.pl_agg150 : aggN Try.prog 150 = some (none) := by kernel_rfl
@[go_sem] theorem Try.pl_sz150 : szOf Try.prog 150 = some 1 := by kernel_rfl
@[go_sem] theorem Try.pl_zero150 : zeroCs Try.prog 150 = some [.slice none 0 0] := by kernel_rfl
@[go_sem] theorem Try.pl_und150 : Try.prog.underlying 150 = some (.slice 4) := by kernel_rfl
@[go_sem] theorem Try.pl_zv150 : zeroV Try.prog 4 = some (.bool false) := by kernel_rfl
@[go_sem] theorem Try.pl_esz150 : eSz Try.prog 150 = some (4, 1) := by kernel_rfl
@[go_sem] theorem Try.pl_einf150 : eInf Try.prog 150 = some (4, 1, 1) := by kernel_rfl
@[go_sem] theorem Try.pl_agg157 : aggN Try.prog 157 = some (some 4) := by kernel_rfl
@[go_sem] theorem Try.pl_sz157 : szOf Try.prog 157 = some 4 := by kernel_rfl
@[go_sem] theorem Try.pl_zero157 : zeroCs Try.prog 157 = some [.pointer none, .pointer none, .pointer none, .string .empty] := by kernel_rfl
@[go_sem] theorem Try.pl_str157 : structP Try.prog 157 = some ([.pointer none, .pointer none, .pointer none, .string .empty], [(0, 1), (1, 1), (2, 1), (3, 1)]) := by kernel_rfl
@[go_sem] theorem Try.pl_off157x0 : fOff Try.prog 157 0 = some (0, 1) := by kernel_rfl
@[go_sem] theorem Try.pl_part157x0 : fPart Try.prog 157 0 = some (0, none) := by kernel_rfl
@[go_sem] theorem Try.pl_off157x1 : fOff Try.prog 157 1 = some (1, 1) := by kernel_rfl
@[go_sem] theorem Try.pl_part157x1 : fPart Try.prog 157 1 = some (1, none) := by kernel_rfl
@[go_sem] theorem Try.pl_off157x2 : fOff Try.prog 157 2 = some (2, 1) := by kernel_rfl
@[go_sem] theorem Try.pl_part157x2 : fPart Try.prog 157 2 = some (2, none) := by kernel_rfl
@[go_sem] theorem Try.pl_off157x3 : fOff Try.prog 157 3 = some (3, 1) := by kernel_rfl
@[go_sem] theorem Try.pl_part157x3 : fPart Try.prog 157 3 = some (3, none) := by kernel_rfl
@[go_sem] theorem Try.pl_agg158 : aggN Try.prog 158 = some (some 4) := by kernel_rfl
@[go_sem] theorem Try.pl_sz158 : szOf Try.prog 158 = some 4 := by kernel_rfl
@[go_sem] theorem Try.pl_zero158 : zeroCs Try.prog 158 = some [.pointer none, .pointer none, .pointer none, .string .empty] := by kernel_rfl
@[go_sem] theorem Try.pl_str158 : structP Try.prog 158 = some ([.pointer none, .pointer none, .pointer none, .string .empty], [(0, 1), (1, 1), (2, 1), (3, 1)]) := by kernel_rfl
@[go_sem] theorem Try.pl_off158x0 : fOff Try.prog 158 0 = some (0, 1) := by kernel_rfl
@[go_sem] theorem Try.pl_part158x0 : fPart Try.prog 158 0 = some (0, none) := by kernel_rfl
@[go_sem] theorem Try.pl_off158x1 : fOff Try.prog 158 1 = some (1, 1) := by kernel_rfl
@[go_sem] theorem Try.pl_part158x1 : fPart Try.prog 158 1 = some (1, none) := by kernel_rfl
@[go_sem] theorem Try.pl_off158x2 : fOff Try.prog 158 2 = some (2, 1) := by kernel_rfl
@[go_sem] theorem Try.pl_part158x2 : fPart Try.prog 158 2 = some (2, none) := by kernel_rfl
@[go_sem] theorem Try.pl_off158x3 : fOff Try.prog 158 3 = some (3, 1) := by kernel_rfl
@[go_sem] theorem Try.pl_part158x3 : fPart Try.prog 158 3 = some (3, none) := by kernel_rfl
@[go_sem] theorem Try.pl_agg159 : aggN Try.prog 159 = some (some 0) := by kernel_rfl
@[go_sem] theorem Try.pl_sz159 : szOf Try.prog 159 = some 0 := by kernel_rfl
@[go_sem] theorem Try.pl_zero159 : zeroCs Try.prog 159 = some [] := by kernel_rfl
@[go_sem] theorem Try.pl_agg160 : aggN Try.prog 160 = some (some 0) := by kernel_rfl
@[go_sem] theorem Try.pl_sz160 : szOf Try.prog 160 = some 0 := by kernel_rfl
@[go_sem] theorem Try.pl_zero160 : zeroCs Try.prog 160 = some [] := by kernel_rfl
@[go_sem] theorem Try.pl_str160 : structP Try.prog 160 = some ([], [(0, 0)]) := by kernel_rfl
@[go_sem] theorem Try.pl_off160x0 : fOff Try.prog 160 0 = some (0, 0) := by kernel_rfl
@[go_sem] theorem Try.pl_part160x0 : fPart Try.prog 160 0 = some (0, some 0) := by kernel_rfl
@[go_sem] theorem Try.pl_agg161 : aggN Try.prog 161 = some (some 0) := by kernel_rfl
@[go_sem] theorem Try.pl_sz161 : szOf Try.prog 161 = some 0 := by kernel_rfl
@[go_sem] theorem Try.pl_zero161 : zeroCs Try.prog 161 = some [] := by kernel_rfl
@[go_sem] theorem Try.pl_str161 : structP Try.prog 161 = some ([], [(0, 0)]) := by kernel_rfl
@[go_sem] theorem Try.pl_off161x0 : fOff Try.prog 161 0 = some (0, 0) := by kernel_rfl
@[go_sem] theorem Try.pl_part161x0 : fPart Try.prog 161 0 = some (0, some 0) := by kernel_rfl
@[go_sem] theorem Try.pl_agg163 : aggN Try.prog 163 = some (none) := by kernel_rfl
@[go_sem] theorem Try.pl_sz163 : szOf Try.prog 163 = some 1 := by kernel_rfl
@[go_sem] theorem Try.pl_zero163 : zeroCs Try.prog 163 = some [.int .u32 0] := by kernel_rfl
@[go_sem] theorem Try.pl_und163 : Try.prog.underlying 163 = some (.int .u32) := by kernel_rfl
@[go_sem] theorem Try.pl_agg164 : aggN Try.prog 164 = some (none) := by kernel_rfl
@[go_sem] theorem Try.pl_sz164 : szOf Try.prog 164 = some 1 := by kernel_rfl
@[go_sem] theorem Try.pl_zero164 : zeroCs Try.prog 164 = some [.int .u8 0] := by kernel_rfl
@[go_sem] theorem Try.pl_und164 : Try.prog.underlying 164 = some (.int .u8) := by kernel_rfl
@[go_sem] theorem Try.pl_agg165 : aggN Try.prog 165 = some (none) := by kernel_rfl
@[go_sem] theorem Try.pl_sz165 : szOf Try.prog 165 = some 1 := by kernel_rfl
@[go_sem] theorem Try.pl_zero165 : zeroCs Try.prog 165 = some [.int .u8 0] := by kernel_rfl
@[go_sem] theorem Try.pl_und165 : Try.prog.underlying 165 = some (.int .u8) := by kernel_rfl
@[go_sem] theorem Try.pl_agg167 : aggN Try.prog 167 = some (none) := by kernel_rfl
@[go_sem] theorem Try.pl_sz167 : szOf Try.prog 167 = some 1 := by kernel_rfl
@[go_sem] theorem Try.pl_zero167 : zeroCs Try.prog 167 = some [.pointer none] := by kernel_rfl
@[go_sem] theorem Try.pl_agg168 : aggN Try.prog 168 = some (none) := by kernel_rfl
@[go_sem] theorem Try.pl_sz168 : szOf Try.prog 168 = some 1 := by kernel_rfl
@[go_sem] theorem Try.pl_zero168 : zeroCs Try.prog 168 = some [.int .i32 0] := by kernel_rfl
@[go_sem] theorem Try.pl_und168 : Try.prog.underlying 168 = some (.int .i32) := by kernel_rfl
@[go_sem] theorem Try.pl_agg169 : aggN Try.prog 169 = some (none) := by kernel_rfl
@[go_sem] theorem Try.pl_sz169 : szOf Try.prog 169 = some 1 := by kernel_rfl
@[go_sem] theorem Try.pl_zero169 : zeroCs Try.prog 169 = some [.int .i32 0] := by kernel_rfl
@[go_sem] theorem Try.pl_und169 : Try.prog.underlying 169 = some (.int .i32) := by kernel_rfl
@[go_sem] theorem Try.pl_agg170 : aggN Try.prog 170 = some (some 11) := by kernel_rfl
@[go_sem] theorem Try.pl_sz170 : szOf Try.prog 170 = some 11 := by kernel_rfl
@[go_sem] theorem Try.pl_off170x0 : fOff Try.prog 170 0 = some (0, 1) := by kernel_rfl
@[go_sem] theorem Try.pl_part170x0 : fPart Try.prog 170 0 = some (0, none) := by kernel_rfl
@[go_sem] theorem Try.pl_off170x1 : fOff Try.prog 170 1 = some (1, 1) := by kernel_rfl
@[go_sem] theorem Try.pl_part170x1 : fPart Try.prog 170 1 = some (1, none) := by kernel_rfl
@[go_sem] theorem Try.pl_off170x2 : fOff Try.prog 170 2 = some (2, 1) := by kernel_rfl
@[go_sem] theorem Try.pl_part170x2 : fPart Try.prog 170 2 = some (2, none) := by kernel_rfl
@[go_sem] theorem Try.pl_off170x3 : fOff Try.prog 170 3 = some (3, 1) := by kernel_rfl
@[go_sem] theorem Try.pl_part170x3 : fPart Try.prog 170 3 = some (3, none) := by kernel_rfl
@[go_sem] theorem Try.pl_off170x4 : fOff Try.prog 170 4 = some (4, 1) := by kernel_rfl
@[go_sem] theorem Try.pl_part170x4 : fPart Try.prog 170 4 = some (4, none) := by kernel_rfl
@[go_sem] theorem Try.pl_off170x5 : fOff Try.prog 170 5 = some (5, 1) := by kernel_rfl
@[go_sem] theorem Try.pl_part170x5 : fPart Try.prog 170 5 = some (5, none) := by kernel_rfl
@[go_sem] theorem Try.pl_off170x6 : fOff Try.prog 170 6 = some (6, 1) := by kernel_rfl
@[go_sem] theorem Try.pl_part170x6 : fPart Try.prog 170 6 = some (6, none) := by kernel_rfl
@[go_sem] theorem Try.pl_off170x7 : fOff Try.prog 170 7 = some (7, 1) := by kernel_rfl
@[go_sem] theorem Try.pl_part170x7 : fPart Try.prog 170 7 = some (7, none) := by kernel_rfl
@[go_sem] theorem Try.pl_off170x8 : fOff Try.prog 170 8 = some (8, 1) := by kernel_rfl
@[go_sem] theorem Try.pl_part170x8 : fPart Try.prog 170 8 = some (8, none) := by kernel_rfl
@[go_sem] theorem Try.pl_off170x9 : fOff Try.prog 170 9 = some (9, 1) := by kernel_rfl
@[go_sem] theorem Try.pl_part170x9 : fPart Try.prog 170 9 = some (9, none) := by kernel_rfl
@[go_sem] theorem Try.pl_off170x10 : fOff Try.prog 170 10 = some (10, 1) := by kernel_rfl
@[go_sem] theorem Try.pl_part170x10 : fPart Try.prog 170 10 = some (10, none) := by kernel_rfl
@[go_sem] theorem Try.pl_agg171 : aggN Try.prog 171 = some (some 11) := by kernel_rfl
@[go_sem] theorem Try.pl_sz171 : szOf Try.prog 171 = some 11 := by kernel_rfl
@[go_sem] theorem Try.pl_off171x0 : fOff Try.prog 171 0 = some (0, 1) := by kernel_rfl
@[go_sem] theorem Try.pl_part171x0 : fPart Try.prog 171 0 = some (0, none) := by kernel_rfl
@[go_sem] theorem Try.pl_off171x1 : fOff Try.prog 171 1 = some (1, 1) := by kernel_rfl
@[go_sem] theorem Try.pl_part171x1 : fPart Try.prog 171 1 = some (1, none) := by kernel_rfl
@[go_sem] theorem Try.pl_off171x2 : fOff Try.prog 171 2 = some (2, 1) := by kernel_rfl
@[go_sem] theorem Try.pl_part171x2 : fPart Try.prog 171 2 = some (2, none) := by kernel_rfl
@[go_sem] theorem Try.pl_off171x3 : fOff Try.prog 171 3 = some (3, 1) := by kernel_rfl
@[go_sem] theorem Try.pl_part171x3 : fPart Try.prog 171 3 = some (3, none) := by kernel_rfl
@[go_sem] theorem Try.pl_off171x4 : fOff Try.prog 171 4 = some (4, 1) := by kernel_rfl
@[go_sem] theorem Try.pl_part171x4 : fPart Try.prog 171 4 = some (4, none) := by kernel_rfl
@[go_sem] theorem Try.pl_off171x5 : fOff Try.prog 171 5 = some (5, 1) := by kernel_rfl
@[go_sem] theorem Try.pl_part171x5 : fPart Try.prog 171 5 = some (5, none) := by kernel_rfl
@[go_sem] theorem Try.pl_off171x6 : fOff Try.prog 171 6 = some (6, 1) := by kernel_rfl
@[go_sem] theorem Try.pl_part171x6 : fPart Try.prog 171 6 = some (6, none) := by kernel_rfl
@[go_sem] theorem Try.pl_off171x7 : fOff Try.prog 171 7 = some (7, 1) := by kernel_rfl
@[go_sem] theorem Try.pl_part171x7 : fPart Try.prog 171 7 = some (7, none) := by kernel_rfl
@[go_sem] theorem Try.pl_off171x8 : fOff Try.prog 171 8 = some (8, 1) := by kernel_rfl
@[go_sem] theorem Try.pl_part171x8 : fPart Try.prog 171 8 = some (8, none) := by kernel_rfl
@[go_sem] theorem Try.pl_off171x9 : fOff Try.prog 171 9 = some (9, 1) := by kernel_rfl
@[go_sem] theorem Try.pl_part171x9 : fPart Try.prog 171 9 = some (9, none) := by kernel_rfl
@[go_sem] theorem Try.pl_off171x10 : fOff Try.prog 171 10 = some (10, 1) := by kernel_rfl
@[go_sem] theorem Try.pl_part171x10 : fPart Try.prog 171 10 = some (10, none) := by kernel_rfl
@[go_sem] theorem Try.pl_rs0 : Try.f0.results.toList = [] := by kernel_rfl
@[go_sem] theorem Try.pl_rs1 : Try.f1.results.toList = [] := by kernel_rfl
@[go_sem] theorem Try.pl_rs2 : Try.f2.results.toList = [] := by kernel_rfl
@[go_sem] theorem Try.pl_rs3 : Try.f3.results.toList = [.tmp 2] := by kernel_rfl
@[go_sem] theorem Try.pl_rs4 : Try.f4.results.toList = [.tmp 4] := by kernel_rfl
@[go_sem] theorem Try.pl_rs5 : Try.f5.results.toList = [.tmp 2] := by kernel_rfl
@[go_sem] theorem Try.pl_rs6 : Try.f6.results.toList = [.tmp 2] := by kernel_rfl
@[go_sem] theorem Try.pl_rs7 : Try.f7.results.toList = [.tmp 2] := by kernel_rfl
@[go_sem] theorem Try.pl_rs8 : Try.f8.results.toList = [.tmp 6] := by kernel_rfl
@[go_sem] theorem Try.pl_rs9 : Try.f9.results.toList = [.tmp 0] := by kernel_rfl
@[go_sem] theorem Try.pl_rs10 : Try.f10.results.toList = [.tmp 2] := by kernel_rfl
@[go_sem] theorem Try.pl_rs11 : Try.f11.results.toList = [.tmp 2] := by kernel_rfl
@[go_sem] theorem Try.pl_rs12 : Try.f12.results.toList = [.tmp 2] := by kernel_rfl
@[go_sem] theorem Try.pl_rs13 : Try.f13.results.toList = [.tmp 4] := by kernel_rfl
@[go_sem] theorem Try.pl_rs14 : Try.f14.results.toList = [.tmp 2] := by kernel_rfl
@[go_sem] theorem Try.pl_rs15 : Try.f15.results.toList = [.cell 2 36] := by kernel_rfl
@[go_sem] theorem Try.pl_rs16 : Try.f16.results.toList = [.tmp 2] := by kernel_rfl
@[go_sem] theorem Try.pl_rs17 : Try.f17.results.toList = [.tmp 4] := by kernel_rfl
@[go_sem] theorem Try.pl_rs18 : Try.f18.results.toList = [.cell 4 36, .tmp 5] := by kernel_rfl
@[go_sem] theorem Try.pl_rs19 : Try.f19.results.toList = [.cell 2 44] := by kernel_rfl
@[go_sem] theorem Try.pl_rs20 : Try.f20.results.toList = [.cell 4 36, .tmp 5] := by kernel_rfl
@[go_sem] theorem Try.pl_rs21 : Try.f21.results.toList = [.tmp 4] := by kernel_rfl
@[go_sem] theorem Try.pl_rs22 : Try.f22.results.toList = [.tmp 4] := by kernel_rfl
@[go_sem] theorem Try.pl_rs23 : Try.f23.results.toList = [.cell 2 36, .tmp 3] := by kernel_rfl
@[go_sem] theorem Try.pl_rs24 : Try.f24.results.toList = [.cell 2 36, .tmp 3] := by kernel_rfl
@[go_sem] theorem Try.pl_rs25 : Try.f25.results.toList = [.tmp 2] := by kernel_rfl
@[go_sem] theorem Try.pl_rs26 : Try.f26.results.toList = [.cell 2 31, .tmp 3, .tmp 4] := by kernel_rfl
@[go_sem] theorem Try.pl_rs27 : Try.f27.results.toList = [.tmp 6, .tmp 7] := by kernel_rfl
@[go_sem] theorem Try.pl_rs28 : Try.f28.results.toList = [.tmp 2] := by kernel_rfl
@[go_sem] theorem Try.pl_rs29 : Try.f29.results.toList = [.tmp 2] := by kernel_rfl
@[go_sem] theorem Try.pl_rs30 : Try.f30.results.toList = [.tmp 2] := by kernel_rfl
@[go_sem] theorem Try.pl_rs31 : Try.f31.results.toList = [.tmp 4] := by kernel_rfl
@[go_sem] theorem Try.pl_rs32 : Try.f32.results.toList = [.tmp 4] := by kernel_rfl
@[go_sem] theorem Try.pl_rs33 : Try.f33.results.toList = [.tmp 4] := by kernel_rfl
@[go_sem] theorem Try.pl_rs34 : Try.f34.results.toList = [.tmp 4] := by kernel_rfl
@[go_sem] theorem Try.pl_rs35 : Try.f35.results.toList = [.tmp 4] := by kernel_rfl
@[go_sem] theorem Try.pl_rs36 : Try.f36.results.toList = [.tmp 2] := by kernel_rfl
@[go_sem] theorem Try.pl_rs37 : Try.f37.results.toList = [.tmp 6] := by kernel_rfl
@[go_sem] theorem Try.pl_rs38 : Try.f38.results.toList = [.tmp 2] := by kernel_rfl
@[go_sem] theorem Try.pl_rs39 : Try.f39.results.toList = [.tmp 2] := by kernel_rfl
@[go_sem] theorem Try.pl_rs40 : Try.f40.results.toList = [.tmp 2] := by kernel_rfl
@[go_sem] theorem Try.pl_rs41 : Try.f41.results.toList = [.cell 4 31] := by kernel_rfl
@[go_sem] theorem Try.pl_rs42 : Try.f42.results.toList = [.tmp 4] := by kernel_rfl
@[go_sem] theorem Try.pl_rs43 : Try.f43.results.toList = [.tmp 2] := by kernel_rfl
@[go_sem] theorem Try.pl_rs44 : Try.f44.results.toList = [.cell 2 75] := by kernel_rfl
@[go_sem] theorem Try.pl_rs45 : Try.f45.results.toList = [.tmp 2] := by kernel_rfl
@[go_sem] theorem Try.pl_rs46 : Try.f46.results.toList = [.tmp 4] := by kernel_rfl
@[go_sem] theorem Try.pl_rs47 : Try.f47.results.toList = [.cell 6 75, .tmp 7] := by kernel_rfl
@[go_sem] theorem Try.pl_rs48 : Try.f48.results.toList = [.cell 2 33] := by kernel_rfl
@[go_sem] theorem Try.pl_rs49 : Try.f49.results.toList = [.cell 6 75, .tmp 7] := by kernel_rfl
@[go_sem] theorem Try.pl_rs50 : Try.f50.results.toList = [.tmp 4] := by kernel_rfl
@[go_sem] theorem Try.pl_rs51 : Try.f51.results.toList = [.tmp 4] := by kernel_rfl
@[go_sem] theorem Try.pl_rs52 : Try.f52.results.toList = [.cell 0 75] := by kernel_rfl
@[go_sem] theorem Try.pl_rs53 : Try.f53.results.toList = [.cell 0 75] := by kernel_rfl
@[go_sem] theorem Try.pl_rs54 : Try.f54.results.toList = [.cell 2 36] := by kernel_rfl
@[go_sem] theorem Try.pl_rs55 : Try.f55.results.toList = [.tmp 2] := by kernel_rfl
@[go_sem] theorem Try.pl_rs56 : Try.f56.results.toList = [.tmp 4] := by kernel_rfl
@[go_sem] theorem Try.pl_rs57 : Try.f57.results.toList = [.tmp 2] := by kernel_rfl
@[go_sem] theorem Try.pl_rs58 : Try.f58.results.toList = [.tmp 4] := by kernel_rfl
@[go_sem] theorem Try.pl_rs59 : Try.f59.results.toList = [.tmp 4] := by kernel_rfl
@[go_sem] theorem Try.pl_rs60 : Try.f60.results.toList = [.cell 2 36, .tmp 3] := by kernel_rfl
@[go_sem] theorem Try.pl_rs61 : Try.f61.results.toList = [.tmp 6] := by kernel_rfl
@[go_sem] theorem Try.pl_rs62 : Try.f62.results.toList = [.cell 2 36, .tmp 3] := by kernel_rfl
@[go_sem] theorem Try.pl_rs63 : Try.f63.results.toList = [.tmp 2] := by kernel_rfl
@[go_sem] theorem Try.pl_rs64 : Try.f64.results.toList = [.tmp 2] := by kernel_rfl
@[go_sem] theorem Try.pl_rs65 : Try.f65.results.toList = [.cell 2 36, .tmp 3] := by kernel_rfl
@[go_sem] theorem Try.pl_rs66 : Try.f66.results.toList = [.tmp 4] := by kernel_rfl
@[go_sem] theorem Try.pl_rs67 : Try.f67.results.toList = [.tmp 2] := by kernel_rfl
@[go_sem] theorem Try.pl_rs68 : Try.f68.results.toList = [.tmp 2] := by kernel_rfl
@[go_sem] theorem Try.pl_rs69 : Try.f69.results.toList = [.tmp 2] := by kernel_rfl
@[go_sem] theorem Try.pl_rs70 : Try.f70.results.toList = [.tmp 4] := by kernel_rfl
@[go_sem] theorem Try.pl_rs71 : Try.f71.results.toList = [.tmp 4] := by kernel_rfl
@[go_sem] theorem Try.pl_rs72 : Try.f72.results.toList = [.cell 2 36] := by kernel_rfl
@[go_sem] theorem Try.pl_rs73 : Try.f73.results.toList = [.cell 2 36] := by kernel_rfl
@[go_sem] theorem Try.pl_rs74 : Try.f74.results.toList = [.tmp 4] := by kernel_rfl
@[go_sem] theorem Try.pl_rs75 : Try.f75.results.toList = [.tmp 4] := by kernel_rfl
@[go_sem] theorem Try.pl_rs76 : Try.f76.results.toList = [.tmp 2] := by kernel_rfl
@[go_sem] theorem Try.pl_rs77 : Try.f77.results.toList = [.cell 2 31] := by kernel_rfl
@[go_sem] theorem Try.pl_rs78 : Try.f78.results.toList = [.tmp 4] := by kernel_rfl
@[go_sem] theorem Try.pl_rs79 : Try.f79.results.toList = [.tmp 8] := by kernel_rfl
@[go_sem] theorem Try.pl_rs80 : Try.f80.results.toList = [.tmp 4] := by kernel_rfl
@[go_sem] theorem Try.pl_rs81 : Try.f81.results.toList = [.tmp 6, .tmp 7] := by kernel_rfl
@[go_sem] theorem Try.pl_rs82 : Try.f82.results.toList = [.tmp 4] := by kernel_rfl
@[go_sem] theorem Try.pl_rs83 : Try.f83.results.toList = [.tmp 2] := by kernel_rfl
@[go_sem] theorem Try.pl_rs84 : Try.f84.results.toList = [.tmp 2] := by kernel_rfl
@[go_sem] theorem Try.pl_rs85 : Try.f85.results.toList = [.tmp 2] := by kernel_rfl
@[go_sem] theorem Try.pl_rs86 : Try.f86.results.toList = [.tmp 4] := by kernel_rfl
@[go_sem] theorem Try.pl_rs87 : Try.f87.results.toList = [.tmp 4] := by kernel_rfl
@[go_sem] theorem Try.pl_rs88 : Try.f88.results.toList = [.tmp 2] := by kernel_rfl
@[go_sem] theorem Try.pl_rs89 : Try.f89.results.toList = [.tmp 4] := by kernel_rfl
@[go_sem] theorem Try.pl_rs90 : Try.f90.results.toList = [.tmp 4] := by kernel_rfl
@[go_sem] theorem Try.pl_rs91 : Try.f91.results.toList = [.tmp 4] := by kernel_rfl
@[go_sem] theorem Try.pl_rs92 : Try.f92.results.toList = [.tmp 4] := by kernel_rfl
@[go_sem] theorem Try.pl_rs93 : Try.f93.results.toList = [.tmp 2] := by kernel_rfl
@[go_sem] theorem Try.pl_rs94 : Try.f94.results.toList = [.tmp 4] := by kernel_rfl
@[go_sem] theorem Try.pl_rs95 : Try.f95.results.toList = [.tmp 6] := by kernel_rfl
@[go_sem] theorem Try.pl_rs96 : Try.f96.results.toList = [.tmp 4] := by kernel_rfl
@[go_sem] theorem Try.pl_rs97 : Try.f97.results.toList = [.tmp 2] := by kernel_rfl
@[go_sem] theorem Try.pl_rs98 : Try.f98.results.toList = [.tmp 2] := by kernel_rfl
@[go_sem] theorem Try.pl_rs99 : Try.f99.results.toList = [.tmp 6] := by kernel_rfl
@[go_sem] theorem Try.pl_rs100 : Try.f100.results.toList = [.cell 2 72] := by kernel_rfl
@[go_sem] theorem Try.pl_rs101 : Try.f101.results.toList = [.tmp 2] := by kernel_rfl
@[go_sem] theorem Try.pl_rs102 : Try.f102.results.toList = [.tmp 2] := by kernel_rfl
@[go_sem] theorem Try.pl_rs103 : Try.f103.results.toList = [.tmp 2] := by kernel_rfl
@[go_sem] theorem Try.pl_rs104 : Try.f104.results.toList = [.tmp 4] := by kernel_rfl
@[go_sem] theorem Try.pl_rs105 : Try.f105.results.toList = [.tmp 4] := by kernel_rfl
@[go_sem] theorem Try.pl_rs106 : Try.f106.results.toList = [.cell 2 36, .tmp 3] := by kernel_rfl
@[go_sem] theorem Try.pl_rs107 : Try.f107.results.toList = [.cell 2 31] := by kernel_rfl
@[go_sem] theorem Try.pl_rs108 : Try.f108.results.toList = [.tmp 4] := by kernel_rfl
@[go_sem] theorem Try.pl_rs109 : Try.f109.results.toList = [.tmp 4] := by kernel_rfl
@[go_sem] theorem Try.pl_rs110 : Try.f110.results.toList = [.cell 4 31] := by kernel_rfl
@[go_sem] theorem Try.pl_rs111 : Try.f111.results.toList = [.cell 2 36] := by kernel_rfl
@[go_sem] theorem Try.pl_rs112 : Try.f112.results.toList = [.tmp 6, .tmp 7] := by kernel_rfl
@[go_sem] theorem Try.pl_rs113 : Try.f113.results.toList = [.tmp 2] := by kernel_rfl
@[go_sem] theorem Try.pl_rs114 : Try.f114.results.toList = [.tmp 2] := by kernel_rfl
@[go_sem] theorem Try.pl_rs115 : Try.f115.results.toList = [.cell 4 44, .tmp 5] := by kernel_rfl
@[go_sem] theorem Try.pl_rs116 : Try.f116.results.toList = [.tmp 2] := by kernel_rfl
@[go_sem] theorem Try.pl_rs117 : Try.f117.results.toList = [.tmp 6] := by kernel_rfl
@[go_sem] theorem Try.pl_rs118 : Try.f118.results.toList = [.tmp 6, .tmp 7] := by kernel_rfl
@[go_sem] theorem Try.pl_rs119 : Try.f119.results.toList = [.tmp 6, .tmp 7] := by kernel_rfl
@[go_sem] theorem Try.pl_rs120 : Try.f120.results.toList = [.cell 4 44, .tmp 5] := by kernel_rfl
@[go_sem] theorem Try.pl_rs121 : Try.f121.results.toList = [.tmp 2] := by kernel_rfl
@[go_sem] theorem Try.pl_rs122 : Try.f122.results.toList = [.tmp 4] := by kernel_rfl
@[go_sem] theorem Try.pl_rs123 : Try.f123.results.toList = [.tmp 4] := by kernel_rfl
@[go_sem] theorem Try.pl_rs124 : Try.f124.results.toList = [.tmp 2] := by kernel_rfl
@[go_sem] theorem Try.pl_rs125 : Try.f125.results.toList = [.tmp 2] := by kernel_rfl
@[go_sem] theorem Try.pl_rs126 : Try.f126.results.toList = [.tmp 4] := by kernel_rfl
@[go_sem] theorem Try.pl_rs127 : Try.f127.results.toList = [.tmp 4] := by kernel_rfl
@[go_sem] theorem Try.pl_rs128 : Try.f128.results.toList = [.tmp 2] := by kernel_rfl
@[go_sem] theorem Try.pl_rs129 : Try.f129.results.toList = [.tmp 6] := by kernel_rfl
@[go_sem] theorem Try.pl_rs130 : Try.f130.results.toList = [.tmp 2] := by kernel_rfl
@[go_sem] theorem Try.pl_rs131 : Try.f131.results.toList = [.tmp 4] := by kernel_rfl
@[go_sem] theorem Try.pl_rs132 : Try.f132.results.toList = [.tmp 6] := by kernel_rfl
@[go_sem] theorem Try.pl_rs133 : Try.f133.results.toList = [.tmp 6] := by kernel_rfl
@[go_sem] theorem Try.pl_rs134 : Try.f134.results.toList = [.cell 2 135] := by kernel_rfl
@[go_sem] theorem Try.pl_rs135 : Try.f135.results.toList = [.tmp 4] := by kernel_rfl
@[go_sem] theorem Try.pl_rs136 : Try.f136.results.toList = [.cell 2 33] := by kernel_rfl
@[go_sem] theorem Try.pl_rs137 : Try.f137.results.toList = [.tmp 6, .tmp 7] := by kernel_rfl
@[go_sem] theorem Try.pl_rs138 : Try.f138.results.toList = [.tmp 6, .tmp 7] := by kernel_rfl
@[go_sem] theorem Try.pl_rs139 : Try.f139.results.toList = [.tmp 2] := by kernel_rfl
@[go_sem] theorem Try.pl_rs140 : Try.f140.results.toList = [.tmp 6] := by kernel_rfl
@[go_sem] theorem Try.pl_rs141 : Try.f141.results.toList = [.tmp 6, .tmp 7] := by kernel_rfl
@[go_sem] theorem Try.pl_rs142 : Try.f142.results.toList = [.tmp 6, .tmp 7] := by kernel_rfl
@[go_sem] theorem Try.pl_rs143 : Try.f143.results.toList = [.tmp 6] := by kernel_rfl
@[go_sem] theorem Try.pl_rs144 : Try.f144.results.toList = [.tmp 6] := by kernel_rfl
@[go_sem] theorem Try.pl_rs145 : Try.f145.results.toList = [.tmp 4] := by kernel_rfl
@[go_sem] theorem Try.pl_rs146 : Try.f146.results.toList = [.tmp 4] := by kernel_rfl
@[go_sem] theorem Try.pl_rs147 : Try.f147.results.toList = [.cell 2 31, .tmp 3, .tmp 4] := by kernel_rfl
@[go_sem] theorem Try.pl_rs148 : Try.f148.results.toList = [.tmp 4] := by kernel_rfl
@[go_sem] theorem Try.pl_rs149 : Try.f149.results.toList = [.tmp 4] := by kernel_rfl
@[go_sem] theorem Try.pl_rs150 : Try.f150.results.toList = [.tmp 4, .tmp 5] := by kernel_rfl
@[go_sem] theorem Try.pl_rs151 : Try.f151.results.toList = [.tmp 6] := by kernel_rfl
@[go_sem] theorem Try.pl_rs152 : Try.f152.results.toList = [.tmp 4] := by kernel_rfl
@[go_sem] theorem Try.pl_rs153 : Try.f153.results.toList = [.tmp 4] := by kernel_rfl
@[go_sem] theorem Try.pl_rs154 : Try.f154.results.toList = [.tmp 6] := by kernel_rfl
@[go_sem] theorem Try.pl_rs155 : Try.f155.results.toList = [.tmp 4, .tmp 5] := by kernel_rfl
@[go_sem] theorem Try.pl_rs156 : Try.f156.results.toList = [.cell 6 44, .tmp 7] := by kernel_rfl
@[go_sem] theorem Try.pl_rs157 : Try.f157.results.toList = [.cell 2 31, .tmp 3] := by kernel_rfl
@[go_sem] theorem Try.pl_rs158 : Try.f158.results.toList = [.cell 6 44, .tmp 7] := by kernel_rfl
@[go_sem] theorem Try.pl_rs159 : Try.f159.results.toList = [] := by kernel_rfl
@[go_sem] theorem Try.pl_rs160 : Try.f160.results.toList = [] := by kernel_rfl
@[go_sem] theorem Try.pl_rs161 : Try.f161.results.toList = [] := by kernel_rfl
@[go_sem] theorem Try.pl_rs162 : Try.f162.results.toList = [] := by kernel_rfl
@[go_sem] theorem Try.pl_rs163 : Try.f163.results.toList = [] := by kernel_rfl
@[go_sem] theorem Try.pl_rs164 : Try.f164.results.toList = [] := by kernel_rfl
@[go_sem] theorem Try.pl_rs165 : Try.f165.results.toList = [] := by kernel_rfl
@[go_sem] theorem Try.pl_rs166 : Try.f166.results.toList = [] := by kernel_rfl
@[go_sem] theorem Try.pl_rs167 : Try.f167.results.toList = [] := by kernel_rfl
@[go_sem] theorem Try.pl_rs168 : Try.f168.results.toList = [] := by kernel_rfl
@[go_sem] theorem Try.pl_rs169 : Try.f169.results.toList = [] := by kernel_rfl
@[go_sem] theorem Try.pl_rs170 : Try.f170.results.toList = [] := by kernel_rfl
@[go_sem] theorem Try.pl_rs171 : Try.f171.results.toList = [] := by kernel_rfl
@[go_sem] theorem Try.pl_rs172 : Try.f172.results.toList = [] := by kernel_rfl
@[go_sem] theorem Try.pl_rs173 : Try.f173.results.toList = [] := by kernel_rfl
@[go_sem] theorem Try.pl_rs174 : Try.f174.results.toList = [] := by kernel_rfl
theorem Try.pl_follows : Try.prog.follows .mixedOrders = true := by kernel_rfl
end Go.Proofs
