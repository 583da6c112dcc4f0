/-
  Facts on the types of this translation: cells, places, zero values. Printed by a program.
-/
import Derived.Test.YtncdcgaaeclhiaaGreatRows
import Derived.Test.YtncdcgaaeclhiaaGreatEf
import Derived.KernelRfl
namespace Go.Proofs
open Go.PL
@[go_sem] theorem Tryz.pl_agg2 : aggN Tryz.prog 2 = some (none) := by kernel_rfl
@[go_sem] theorem Tryz.pl_sz2 : szOf Tryz.prog 2 = some 1 := by kernel_rfl
@[go_sem] theorem Tryz.pl_zero2 : zeroCs Tryz.prog 2 = some [.int .i64 0] := by kernel_rfl
@[go_sem] theorem Tryz.pl_und2 : Tryz.prog.underlying 2 = some (.int .i64) := by kernel_rfl
@[go_sem] theorem Tryz.pl_agg3 : aggN Tryz.prog 3 = some (none) := by kernel_rfl
@[go_sem] theorem Tryz.pl_sz3 : szOf Tryz.prog 3 = some 1 := by kernel_rfl
@[go_sem] theorem Tryz.pl_zero3 : zeroCs Tryz.prog 3 = some [.int .i64 0] := by kernel_rfl
@[go_sem] theorem Tryz.pl_und3 : Tryz.prog.underlying 3 = some (.int .i64) := by kernel_rfl
@[go_sem] theorem Tryz.pl_agg4 : aggN Tryz.prog 4 = some (none) := by kernel_rfl
@[go_sem] theorem Tryz.pl_sz4 : szOf Tryz.prog 4 = some 1 := by kernel_rfl
@[go_sem] theorem Tryz.pl_zero4 : zeroCs Tryz.prog 4 = some [.bool false] := by kernel_rfl
@[go_sem] theorem Tryz.pl_und4 : Tryz.prog.underlying 4 = some .bool := by kernel_rfl
@[go_sem] theorem Tryz.pl_agg5 : aggN Tryz.prog 5 = some (none) := by kernel_rfl
@[go_sem] theorem Tryz.pl_sz5 : szOf Tryz.prog 5 = some 1 := by kernel_rfl
@[go_sem] theorem Tryz.pl_zero5 : zeroCs Tryz.prog 5 = some [.int .u8 0] := by kernel_rfl
@[go_sem] theorem Tryz.pl_und5 : Tryz.prog.underlying 5 = some (.int .u8) := by kernel_rfl
@[go_sem] theorem Tryz.pl_agg6 : aggN Tryz.prog 6 = some (none) := by kernel_rfl
@[go_sem] theorem Tryz.pl_sz6 : szOf Tryz.prog 6 = some 1 := by kernel_rfl
@[go_sem] theorem Tryz.pl_zero6 : zeroCs Tryz.prog 6 = some [.int .u8 0] := by kernel_rfl
@[go_sem] theorem Tryz.pl_und6 : Tryz.prog.underlying 6 = some (.int .u8) := by kernel_rfl
@[go_sem] theorem Tryz.pl_agg7 : aggN Tryz.prog 7 = some (some 4) := by kernel_rfl
@[go_sem] theorem Tryz.pl_sz7 : szOf Tryz.prog 7 = some 4 := by kernel_rfl
@[go_sem] theorem Tryz.pl_zero7 : zeroCs Tryz.prog 7 = some [.int .i64 0, .int .i64 0, .bool false, .int .u8 0] := by kernel_rfl
@[go_sem] theorem Tryz.pl_str7 : structP Tryz.prog 7 = some ([.int .i64 0, .int .i64 0, .bool false, .int .u8 0], [(0, 1), (1, 1), (2, 1), (3, 1)]) := by kernel_rfl
@[go_sem] theorem Tryz.pl_off7x0 : fOff Tryz.prog 7 0 = some (0, 1) := by kernel_rfl
@[go_sem] theorem Tryz.pl_part7x0 : fPart Tryz.prog 7 0 = some (0, none) := by kernel_rfl
@[go_sem] theorem Tryz.pl_off7x1 : fOff Tryz.prog 7 1 = some (1, 1) := by kernel_rfl
@[go_sem] theorem Tryz.pl_part7x1 : fPart Tryz.prog 7 1 = some (1, none) := by kernel_rfl
@[go_sem] theorem Tryz.pl_off7x2 : fOff Tryz.prog 7 2 = some (2, 1) := by kernel_rfl
@[go_sem] theorem Tryz.pl_part7x2 : fPart Tryz.prog 7 2 = some (2, none) := by kernel_rfl
@[go_sem] theorem Tryz.pl_off7x3 : fOff Tryz.prog 7 3 = some (3, 1) := by kernel_rfl
@[go_sem] theorem Tryz.pl_part7x3 : fPart Tryz.prog 7 3 = some (3, none) := by kernel_rfl
@[go_sem] theorem Tryz.pl_agg8 : aggN Tryz.prog 8 = some (some 4) := by kernel_rfl
@[go_sem] theorem Tryz.pl_sz8 : szOf Tryz.prog 8 = some 4 := by kernel_rfl
@[go_sem] theorem Tryz.pl_zero8 : zeroCs Tryz.prog 8 = some [.int .i64 0, .int .i64 0, .bool false, .int .u8 0] := by kernel_rfl
@[go_sem] theorem Tryz.pl_str8 : structP Tryz.prog 8 = some ([.int .i64 0, .int .i64 0, .bool false, .int .u8 0], [(0, 1), (1, 1), (2, 1), (3, 1)]) := by kernel_rfl
@[go_sem] theorem Tryz.pl_off8x0 : fOff Tryz.prog 8 0 = some (0, 1) := by kernel_rfl
@[go_sem] theorem Tryz.pl_part8x0 : fPart Tryz.prog 8 0 = some (0, none) := by kernel_rfl
@[go_sem] theorem Tryz.pl_off8x1 : fOff Tryz.prog 8 1 = some (1, 1) := by kernel_rfl
@[go_sem] theorem Tryz.pl_part8x1 : fPart Tryz.prog 8 1 = some (1, none) := by kernel_rfl
@[go_sem] theorem Tryz.pl_off8x2 : fOff Tryz.prog 8 2 = some (2, 1) := by kernel_rfl
@[go_sem] theorem Tryz.pl_part8x2 : fPart Tryz.prog 8 2 = some (2, none) := by kernel_rfl
@[go_sem] theorem Tryz.pl_off8x3 : fOff Tryz.prog 8 3 = some (3, 1) := by kernel_rfl
@[go_sem] theorem Tryz.pl_part8x3 : fPart Tryz.prog 8 3 = some (3, none) := by kernel_rfl
@[go_sem] theorem Tryz.pl_agg9 : aggN Tryz.prog 9 = some (none) := by kernel_rfl
@[go_sem] theorem Tryz.pl_sz9 : szOf Tryz.prog 9 = some 1 := by kernel_rfl
@[go_sem] theorem Tryz.pl_zero9 : zeroCs Tryz.prog 9 = some [.string .empty] := by kernel_rfl
@[go_sem] theorem Tryz.pl_und9 : Tryz.prog.underlying 9 = some .string := by kernel_rfl
@[go_sem] theorem Tryz.pl_agg10 : aggN Tryz.prog 10 = some (none) := by kernel_rfl
@[go_sem] theorem Tryz.pl_sz10 : szOf Tryz.prog 10 = some 1 := by kernel_rfl
@[go_sem] theorem Tryz.pl_zero10 : zeroCs Tryz.prog 10 = some [.string .empty] := by kernel_rfl
@[go_sem] theorem Tryz.pl_und10 : Tryz.prog.underlying 10 = some .string := by kernel_rfl
@[go_sem] theorem Tryz.pl_agg11 : aggN Tryz.prog 11 = some (none) := by kernel_rfl
@[go_sem] theorem Tryz.pl_sz11 : szOf Tryz.prog 11 = some 1 := by kernel_rfl
@[go_sem] theorem Tryz.pl_zero11 : zeroCs Tryz.prog 11 = some [.string .empty] := by kernel_rfl
@[go_sem] theorem Tryz.pl_und11 : Tryz.prog.underlying 11 = some .string := by kernel_rfl
@[go_sem] theorem Tryz.pl_agg12 : aggN Tryz.prog 12 = some (none) := by kernel_rfl
@[go_sem] theorem Tryz.pl_sz12 : szOf Tryz.prog 12 = some 1 := by kernel_rfl
@[go_sem] theorem Tryz.pl_zero12 : zeroCs Tryz.prog 12 = some [.int .u64 0] := by kernel_rfl
@[go_sem] theorem Tryz.pl_und12 : Tryz.prog.underlying 12 = some (.int .u64) := by kernel_rfl
@[go_sem] theorem Tryz.pl_agg13 : aggN Tryz.prog 13 = some (some 2) := by kernel_rfl
@[go_sem] theorem Tryz.pl_sz13 : szOf Tryz.prog 13 = some 2 := by kernel_rfl
@[go_sem] theorem Tryz.pl_zero13 : zeroCs Tryz.prog 13 = some [.string .empty, .int .u64 0] := by kernel_rfl
@[go_sem] theorem Tryz.pl_str13 : structP Tryz.prog 13 = some ([.string .empty, .int .u64 0], [(0, 1), (1, 1)]) := by kernel_rfl
@[go_sem] theorem Tryz.pl_off13x0 : fOff Tryz.prog 13 0 = some (0, 1) := by kernel_rfl
@[go_sem] theorem Tryz.pl_part13x0 : fPart Tryz.prog 13 0 = some (0, none) := by kernel_rfl
@[go_sem] theorem Tryz.pl_off13x1 : fOff Tryz.prog 13 1 = some (1, 1) := by kernel_rfl
@[go_sem] theorem Tryz.pl_part13x1 : fPart Tryz.prog 13 1 = some (1, none) := by kernel_rfl
@[go_sem] theorem Tryz.pl_agg14 : aggN Tryz.prog 14 = some (some 2) := by kernel_rfl
@[go_sem] theorem Tryz.pl_sz14 : szOf Tryz.prog 14 = some 2 := by kernel_rfl
@[go_sem] theorem Tryz.pl_zero14 : zeroCs Tryz.prog 14 = some [.string .empty, .int .u64 0] := by kernel_rfl
@[go_sem] theorem Tryz.pl_str14 : structP Tryz.prog 14 = some ([.string .empty, .int .u64 0], [(0, 1), (1, 1)]) := by kernel_rfl
@[go_sem] theorem Tryz.pl_off14x0 : fOff Tryz.prog 14 0 = some (0, 1) := by kernel_rfl
@[go_sem] theorem Tryz.pl_part14x0 : fPart Tryz.prog 14 0 = some (0, none) := by kernel_rfl
@[go_sem] theorem Tryz.pl_off14x1 : fOff Tryz.prog 14 1 = some (1, 1) := by kernel_rfl
@[go_sem] theorem Tryz.pl_part14x1 : fPart Tryz.prog 14 1 = some (1, none) := by kernel_rfl
@[go_sem] theorem Tryz.pl_agg15 : aggN Tryz.prog 15 = some (none) := by kernel_rfl
@[go_sem] theorem Tryz.pl_sz15 : szOf Tryz.prog 15 = some 1 := by kernel_rfl
@[go_sem] theorem Tryz.pl_zero15 : zeroCs Tryz.prog 15 = some [.pointer none] := by kernel_rfl
@[go_sem] theorem Tryz.pl_agg16 : aggN Tryz.prog 16 = some (none) := by kernel_rfl
@[go_sem] theorem Tryz.pl_sz16 : szOf Tryz.prog 16 = some 1 := by kernel_rfl
@[go_sem] theorem Tryz.pl_zero16 : zeroCs Tryz.prog 16 = some [.pointer none] := by kernel_rfl
@[go_sem] theorem Tryz.pl_agg17 : aggN Tryz.prog 17 = some (none) := by kernel_rfl
@[go_sem] theorem Tryz.pl_sz17 : szOf Tryz.prog 17 = some 1 := by kernel_rfl
@[go_sem] theorem Tryz.pl_zero17 : zeroCs Tryz.prog 17 = some [.pointer none] := by kernel_rfl
@[go_sem] theorem Tryz.pl_agg18 : aggN Tryz.prog 18 = some (some 1) := by kernel_rfl
@[go_sem] theorem Tryz.pl_sz18 : szOf Tryz.prog 18 = some 1 := by kernel_rfl
@[go_sem] theorem Tryz.pl_zero18 : zeroCs Tryz.prog 18 = some [.pointer none] := by kernel_rfl
@[go_sem] theorem Tryz.pl_str18 : structP Tryz.prog 18 = some ([.pointer none], [(0, 1)]) := by kernel_rfl
@[go_sem] theorem Tryz.pl_off18x0 : fOff Tryz.prog 18 0 = some (0, 1) := by kernel_rfl
@[go_sem] theorem Tryz.pl_part18x0 : fPart Tryz.prog 18 0 = some (0, none) := by kernel_rfl
@[go_sem] theorem Tryz.pl_agg19 : aggN Tryz.prog 19 = some (some 1) := by kernel_rfl
@[go_sem] theorem Tryz.pl_sz19 : szOf Tryz.prog 19 = some 1 := by kernel_rfl
@[go_sem] theorem Tryz.pl_zero19 : zeroCs Tryz.prog 19 = some [.pointer none] := by kernel_rfl
@[go_sem] theorem Tryz.pl_str19 : structP Tryz.prog 19 = some ([.pointer none], [(0, 1)]) := by kernel_rfl
@[go_sem] theorem Tryz.pl_off19x0 : fOff Tryz.prog 19 0 = some (0, 1) := by kernel_rfl
@[go_sem] theorem Tryz.pl_part19x0 : fPart Tryz.prog 19 0 = some (0, none) := by kernel_rfl
@[go_sem] theorem Tryz.pl_agg21 : aggN Tryz.prog 21 = some (none) := by kernel_rfl
@[go_sem] theorem Tryz.pl_sz21 : szOf Tryz.prog 21 = some 1 := by kernel_rfl
@[go_sem] theorem Tryz.pl_zero21 : zeroCs Tryz.prog 21 = some [.int .i32 0] := by kernel_rfl
@[go_sem] theorem Tryz.pl_und21 : Tryz.prog.underlying 21 = some (.int .i32) := by kernel_rfl
@[go_sem] theorem Tryz.pl_agg22 : aggN Tryz.prog 22 = some (some 3) := by kernel_rfl
@[go_sem] theorem Tryz.pl_sz22 : szOf Tryz.prog 22 = some 3 := by kernel_rfl
@[go_sem] theorem Tryz.pl_zero22 : zeroCs Tryz.prog 22 = some [.int .i64 0, .int .i64 0, .int .i64 0] := by kernel_rfl
@[go_sem] theorem Tryz.pl_str22 : structP Tryz.prog 22 = some ([.int .i64 0, .int .i64 0, .int .i64 0], [(0, 1), (1, 1), (2, 1)]) := by kernel_rfl
@[go_sem] theorem Tryz.pl_off22x0 : fOff Tryz.prog 22 0 = some (0, 1) := by kernel_rfl
@[go_sem] theorem Tryz.pl_part22x0 : fPart Tryz.prog 22 0 = some (0, none) := by kernel_rfl
@[go_sem] theorem Tryz.pl_off22x1 : fOff Tryz.prog 22 1 = some (1, 1) := by kernel_rfl
@[go_sem] theorem Tryz.pl_part22x1 : fPart Tryz.prog 22 1 = some (1, none) := by kernel_rfl
@[go_sem] theorem Tryz.pl_off22x2 : fOff Tryz.prog 22 2 = some (2, 1) := by kernel_rfl
@[go_sem] theorem Tryz.pl_part22x2 : fPart Tryz.prog 22 2 = some (2, none) := by kernel_rfl
@[go_sem] theorem Tryz.pl_agg23 : aggN Tryz.prog 23 = some (some 3) := by kernel_rfl
@[go_sem] theorem Tryz.pl_sz23 : szOf Tryz.prog 23 = some 3 := by kernel_rfl
@[go_sem] theorem Tryz.pl_zero23 : zeroCs Tryz.prog 23 = some [.int .i64 0, .int .i64 0, .int .i64 0] := by kernel_rfl
@[go_sem] theorem Tryz.pl_str23 : structP Tryz.prog 23 = some ([.int .i64 0, .int .i64 0, .int .i64 0], [(0, 1), (1, 1), (2, 1)]) := by kernel_rfl
@[go_sem] theorem Tryz.pl_off23x0 : fOff Tryz.prog 23 0 = some (0, 1) := by kernel_rfl
@[go_sem] theorem Tryz.pl_part23x0 : fPart Tryz.prog 23 0 = some (0, none) := by kernel_rfl
@[go_sem] theorem Tryz.pl_off23x1 : fOff Tryz.prog 23 1 = some (1, 1) := by kernel_rfl
@[go_sem] theorem Tryz.pl_part23x1 : fPart Tryz.prog 23 1 = some (1, none) := by kernel_rfl
@[go_sem] theorem Tryz.pl_off23x2 : fOff Tryz.prog 23 2 = some (2, 1) := by kernel_rfl
@[go_sem] theorem Tryz.pl_part23x2 : fPart Tryz.prog 23 2 = some (2, none) := by kernel_rfl
@[go_sem] theorem Tryz.pl_agg24 : aggN Tryz.prog 24 = some (some 5) := by kernel_rfl
@[go_sem] theorem Tryz.pl_sz24 : szOf Tryz.prog 24 = some 5 := by kernel_rfl
@[go_sem] theorem Tryz.pl_zero24 : zeroCs Tryz.prog 24 = some [.int .i64 0, .int .i64 0, .int .i64 0, .int .i64 0, .int .i64 0] := by kernel_rfl
@[go_sem] theorem Tryz.pl_str24 : structP Tryz.prog 24 = some ([.int .i64 0, .int .i64 0, .int .i64 0, .int .i64 0, .int .i64 0], [(0, 3), (3, 1), (4, 1)]) := by kernel_rfl
@[go_sem] theorem Tryz.pl_off24x0 : fOff Tryz.prog 24 0 = some (0, 3) := by kernel_rfl
@[go_sem] theorem Tryz.pl_part24x0 : fPart Tryz.prog 24 0 = some (0, some 3) := by kernel_rfl
@[go_sem] theorem Tryz.pl_off24x1 : fOff Tryz.prog 24 1 = some (3, 1) := by kernel_rfl
@[go_sem] theorem Tryz.pl_part24x1 : fPart Tryz.prog 24 1 = some (3, none) := by kernel_rfl
@[go_sem] theorem Tryz.pl_off24x2 : fOff Tryz.prog 24 2 = some (4, 1) := by kernel_rfl
@[go_sem] theorem Tryz.pl_part24x2 : fPart Tryz.prog 24 2 = some (4, none) := by kernel_rfl
@[go_sem] theorem Tryz.pl_agg25 : aggN Tryz.prog 25 = some (some 5) := by kernel_rfl
@[go_sem] theorem Tryz.pl_sz25 : szOf Tryz.prog 25 = some 5 := by kernel_rfl
@[go_sem] theorem Tryz.pl_zero25 : zeroCs Tryz.prog 25 = some [.int .i64 0, .int .i64 0, .int .i64 0, .int .i64 0, .int .i64 0] := by kernel_rfl
@[go_sem] theorem Tryz.pl_str25 : structP Tryz.prog 25 = some ([.int .i64 0, .int .i64 0, .int .i64 0, .int .i64 0, .int .i64 0], [(0, 3), (3, 1), (4, 1)]) := by kernel_rfl
@[go_sem] theorem Tryz.pl_off25x0 : fOff Tryz.prog 25 0 = some (0, 3) := by kernel_rfl
@[go_sem] theorem Tryz.pl_part25x0 : fPart Tryz.prog 25 0 = some (0, some 3) := by kernel_rfl
@[go_sem] theorem Tryz.pl_off25x1 : fOff Tryz.prog 25 1 = some (3, 1) := by kernel_rfl
@[go_sem] theorem Tryz.pl_part25x1 : fPart Tryz.prog 25 1 = some (3, none) := by kernel_rfl
@[go_sem] theorem Tryz.pl_off25x2 : fOff Tryz.prog 25 2 = some (4, 1) := by kernel_rfl
@[go_sem] theorem Tryz.pl_part25x2 : fPart Tryz.prog 25 2 = some (4, none) := by kernel_rfl
@[go_sem] theorem Tryz.pl_agg26 : aggN Tryz.prog 26 = some (none) := by kernel_rfl
@[go_sem] theorem Tryz.pl_sz26 : szOf Tryz.prog 26 = some 1 := by kernel_rfl
@[go_sem] theorem Tryz.pl_zero26 : zeroCs Tryz.prog 26 = some [.slice none 0 0] := by kernel_rfl
@[go_sem] theorem Tryz.pl_und26 : Tryz.prog.underlying 26 = some (.slice 132) := by kernel_rfl
@[go_sem] theorem Tryz.pl_zv26 : zeroV Tryz.prog 132 = some (.agg #[.int .i64 0, .int .i64 0, .int .i64 0]) := by kernel_rfl
@[go_sem] theorem Tryz.pl_esz26 : eSz Tryz.prog 26 = some (132, 3) := by kernel_rfl
@[go_sem] theorem Tryz.pl_einf26 : eInf Tryz.prog 26 = some (132, 3, 24) := by kernel_rfl
@[go_sem] theorem Tryz.pl_agg27 : aggN Tryz.prog 27 = some (some 8) := by kernel_rfl
@[go_sem] theorem Tryz.pl_sz27 : szOf Tryz.prog 27 = some 8 := by kernel_rfl
@[go_sem] theorem Tryz.pl_zero27 : zeroCs Tryz.prog 27 = some [.int .i64 0, .int .i64 0, .int .i64 0, .int .i64 0, .int .i64 0, .slice none 0 0, .int .i64 0, .int .i64 0] := by kernel_rfl
@[go_sem] theorem Tryz.pl_str27 : structP Tryz.prog 27 = some ([.int .i64 0, .int .i64 0, .int .i64 0, .int .i64 0, .int .i64 0, .slice none 0 0, .int .i64 0, .int .i64 0], [(0, 5), (5, 1), (6, 1), (7, 1)]) := by kernel_rfl
@[go_sem] theorem Tryz.pl_off27x0 : fOff Tryz.prog 27 0 = some (0, 5) := by kernel_rfl
@[go_sem] theorem Tryz.pl_part27x0 : fPart Tryz.prog 27 0 = some (0, some 5) := by kernel_rfl
@[go_sem] theorem Tryz.pl_off27x1 : fOff Tryz.prog 27 1 = some (5, 1) := by kernel_rfl
@[go_sem] theorem Tryz.pl_part27x1 : fPart Tryz.prog 27 1 = some (5, none) := by kernel_rfl
@[go_sem] theorem Tryz.pl_off27x2 : fOff Tryz.prog 27 2 = some (6, 1) := by kernel_rfl
@[go_sem] theorem Tryz.pl_part27x2 : fPart Tryz.prog 27 2 = some (6, none) := by kernel_rfl
@[go_sem] theorem Tryz.pl_off27x3 : fOff Tryz.prog 27 3 = some (7, 1) := by kernel_rfl
@[go_sem] theorem Tryz.pl_part27x3 : fPart Tryz.prog 27 3 = some (7, none) := by kernel_rfl
@[go_sem] theorem Tryz.pl_agg28 : aggN Tryz.prog 28 = some (some 8) := by kernel_rfl
@[go_sem] theorem Tryz.pl_sz28 : szOf Tryz.prog 28 = some 8 := by kernel_rfl
@[go_sem] theorem Tryz.pl_zero28 : zeroCs Tryz.prog 28 = some [.int .i64 0, .int .i64 0, .int .i64 0, .int .i64 0, .int .i64 0, .slice none 0 0, .int .i64 0, .int .i64 0] := by kernel_rfl
@[go_sem] theorem Tryz.pl_str28 : structP Tryz.prog 28 = some ([.int .i64 0, .int .i64 0, .int .i64 0, .int .i64 0, .int .i64 0, .slice none 0 0, .int .i64 0, .int .i64 0], [(0, 5), (5, 1), (6, 1), (7, 1)]) := by kernel_rfl
@[go_sem] theorem Tryz.pl_off28x0 : fOff Tryz.prog 28 0 = some (0, 5) := by kernel_rfl
@[go_sem] theorem Tryz.pl_part28x0 : fPart Tryz.prog 28 0 = some (0, some 5) := by kernel_rfl
@[go_sem] theorem Tryz.pl_off28x1 : fOff Tryz.prog 28 1 = some (5, 1) := by kernel_rfl
@[go_sem] theorem Tryz.pl_part28x1 : fPart Tryz.prog 28 1 = some (5, none) := by kernel_rfl
@[go_sem] theorem Tryz.pl_off28x2 : fOff Tryz.prog 28 2 = some (6, 1) := by kernel_rfl
@[go_sem] theorem Tryz.pl_part28x2 : fPart Tryz.prog 28 2 = some (6, none) := by kernel_rfl
@[go_sem] theorem Tryz.pl_off28x3 : fOff Tryz.prog 28 3 = some (7, 1) := by kernel_rfl
@[go_sem] theorem Tryz.pl_part28x3 : fPart Tryz.prog 28 3 = some (7, none) := by kernel_rfl
@[go_sem] theorem Tryz.pl_agg29 : aggN Tryz.prog 29 = some (some 3) := by kernel_rfl
@[go_sem] theorem Tryz.pl_sz29 : szOf Tryz.prog 29 = some 3 := by kernel_rfl
@[go_sem] theorem Tryz.pl_zero29 : zeroCs Tryz.prog 29 = some [.int .i64 0, .int .i64 0, .int .i64 0] := by kernel_rfl
@[go_sem] theorem Tryz.pl_str29 : structP Tryz.prog 29 = some ([.int .i64 0, .int .i64 0, .int .i64 0], [(0, 1), (1, 1), (2, 1)]) := by kernel_rfl
@[go_sem] theorem Tryz.pl_off29x0 : fOff Tryz.prog 29 0 = some (0, 1) := by kernel_rfl
@[go_sem] theorem Tryz.pl_part29x0 : fPart Tryz.prog 29 0 = some (0, none) := by kernel_rfl
@[go_sem] theorem Tryz.pl_off29x1 : fOff Tryz.prog 29 1 = some (1, 1) := by kernel_rfl
@[go_sem] theorem Tryz.pl_part29x1 : fPart Tryz.prog 29 1 = some (1, none) := by kernel_rfl
@[go_sem] theorem Tryz.pl_off29x2 : fOff Tryz.prog 29 2 = some (2, 1) := by kernel_rfl
@[go_sem] theorem Tryz.pl_part29x2 : fPart Tryz.prog 29 2 = some (2, none) := by kernel_rfl
@[go_sem] theorem Tryz.pl_agg30 : aggN Tryz.prog 30 = some (some 3) := by kernel_rfl
@[go_sem] theorem Tryz.pl_sz30 : szOf Tryz.prog 30 = some 3 := by kernel_rfl
@[go_sem] theorem Tryz.pl_zero30 : zeroCs Tryz.prog 30 = some [.int .i64 0, .int .i64 0, .int .i64 0] := by kernel_rfl
@[go_sem] theorem Tryz.pl_str30 : structP Tryz.prog 30 = some ([.int .i64 0, .int .i64 0, .int .i64 0], [(0, 1), (1, 1), (2, 1)]) := by kernel_rfl
@[go_sem] theorem Tryz.pl_off30x0 : fOff Tryz.prog 30 0 = some (0, 1) := by kernel_rfl
@[go_sem] theorem Tryz.pl_part30x0 : fPart Tryz.prog 30 0 = some (0, none) := by kernel_rfl
@[go_sem] theorem Tryz.pl_off30x1 : fOff Tryz.prog 30 1 = some (1, 1) := by kernel_rfl
@[go_sem] theorem Tryz.pl_part30x1 : fPart Tryz.prog 30 1 = some (1, none) := by kernel_rfl
@[go_sem] theorem Tryz.pl_off30x2 : fOff Tryz.prog 30 2 = some (2, 1) := by kernel_rfl
@[go_sem] theorem Tryz.pl_part30x2 : fPart Tryz.prog 30 2 = some (2, none) := by kernel_rfl
@[go_sem] theorem Tryz.pl_agg31 : aggN Tryz.prog 31 = some (none) := by kernel_rfl
@[go_sem] theorem Tryz.pl_sz31 : szOf Tryz.prog 31 = some 1 := by kernel_rfl
@[go_sem] theorem Tryz.pl_zero31 : zeroCs Tryz.prog 31 = some [.slice none 0 0] := by kernel_rfl
@[go_sem] theorem Tryz.pl_und31 : Tryz.prog.underlying 31 = some (.slice 117) := by kernel_rfl
@[go_sem] theorem Tryz.pl_zv31 : zeroV Tryz.prog 117 = some (.agg #[.int .i64 0, .int .i64 0, .int .i64 0, .int .i64 0]) := by kernel_rfl
@[go_sem] theorem Tryz.pl_esz31 : eSz Tryz.prog 31 = some (117, 4) := by kernel_rfl
@[go_sem] theorem Tryz.pl_einf31 : eInf Tryz.prog 31 = some (117, 4, 32) := by kernel_rfl
@[go_sem] theorem Tryz.pl_agg32 : aggN Tryz.prog 32 = some (some 13) := by kernel_rfl
@[go_sem] theorem Tryz.pl_sz32 : szOf Tryz.prog 32 = some 13 := by kernel_rfl
@[go_sem] theorem Tryz.pl_zero32 : zeroCs Tryz.prog 32 = some [.int .i64 0, .int .i64 0, .int .i64 0, .int .i64 0, .int .i64 0, .slice none 0 0, .int .i64 0, .int .i64 0, .int .i64 0, .int .i64 0, .int .i64 0, .int .i64 0, .slice none 0 0] := by kernel_rfl
@[go_sem] theorem Tryz.pl_str32 : structP Tryz.prog 32 = some ([.int .i64 0, .int .i64 0, .int .i64 0, .int .i64 0, .int .i64 0, .slice none 0 0, .int .i64 0, .int .i64 0, .int .i64 0, .int .i64 0, .int .i64 0, .int .i64 0, .slice none 0 0], [(0, 8), (8, 3), (11, 1), (12, 1)]) := by kernel_rfl
@[go_sem] theorem Tryz.pl_off32x0 : fOff Tryz.prog 32 0 = some (0, 8) := by kernel_rfl
@[go_sem] theorem Tryz.pl_part32x0 : fPart Tryz.prog 32 0 = some (0, some 8) := by kernel_rfl
@[go_sem] theorem Tryz.pl_off32x1 : fOff Tryz.prog 32 1 = some (8, 3) := by kernel_rfl
@[go_sem] theorem Tryz.pl_part32x1 : fPart Tryz.prog 32 1 = some (8, some 3) := by kernel_rfl
@[go_sem] theorem Tryz.pl_off32x2 : fOff Tryz.prog 32 2 = some (11, 1) := by kernel_rfl
@[go_sem] theorem Tryz.pl_part32x2 : fPart Tryz.prog 32 2 = some (11, none) := by kernel_rfl
@[go_sem] theorem Tryz.pl_off32x3 : fOff Tryz.prog 32 3 = some (12, 1) := by kernel_rfl
@[go_sem] theorem Tryz.pl_part32x3 : fPart Tryz.prog 32 3 = some (12, none) := by kernel_rfl
@[go_sem] theorem Tryz.pl_agg33 : aggN Tryz.prog 33 = some (some 13) := by kernel_rfl
@[go_sem] theorem Tryz.pl_sz33 : szOf Tryz.prog 33 = some 13 := by kernel_rfl
@[go_sem] theorem Tryz.pl_zero33 : zeroCs Tryz.prog 33 = some [.int .i64 0, .int .i64 0, .int .i64 0, .int .i64 0, .int .i64 0, .slice none 0 0, .int .i64 0, .int .i64 0, .int .i64 0, .int .i64 0, .int .i64 0, .int .i64 0, .slice none 0 0] := by kernel_rfl
@[go_sem] theorem Tryz.pl_str33 : structP Tryz.prog 33 = some ([.int .i64 0, .int .i64 0, .int .i64 0, .int .i64 0, .int .i64 0, .slice none 0 0, .int .i64 0, .int .i64 0, .int .i64 0, .int .i64 0, .int .i64 0, .int .i64 0, .slice none 0 0], [(0, 8), (8, 3), (11, 1), (12, 1)]) := by kernel_rfl
@[go_sem] theorem Tryz.pl_off33x0 : fOff Tryz.prog 33 0 = some (0, 8) := by kernel_rfl
@[go_sem] theorem Tryz.pl_part33x0 : fPart Tryz.prog 33 0 = some (0, some 8) := by kernel_rfl
@[go_sem] theorem Tryz.pl_off33x1 : fOff Tryz.prog 33 1 = some (8, 3) := by kernel_rfl
@[go_sem] theorem Tryz.pl_part33x1 : fPart Tryz.prog 33 1 = some (8, some 3) := by kernel_rfl
@[go_sem] theorem Tryz.pl_off33x2 : fOff Tryz.prog 33 2 = some (11, 1) := by kernel_rfl
@[go_sem] theorem Tryz.pl_part33x2 : fPart Tryz.prog 33 2 = some (11, none) := by kernel_rfl
@[go_sem] theorem Tryz.pl_off33x3 : fOff Tryz.prog 33 3 = some (12, 1) := by kernel_rfl
@[go_sem] theorem Tryz.pl_part33x3 : fPart Tryz.prog 33 3 = some (12, none) := by kernel_rfl
@[go_sem] theorem Tryz.pl_agg34 : aggN Tryz.prog 34 = some (some 3) := by kernel_rfl
@[go_sem] theorem Tryz.pl_sz34 : szOf Tryz.prog 34 = some 3 := by kernel_rfl
@[go_sem] theorem Tryz.pl_zero34 : zeroCs Tryz.prog 34 = some [.int .i64 0, .int .i64 0, .int .i64 0] := by kernel_rfl
@[go_sem] theorem Tryz.pl_str34 : structP Tryz.prog 34 = some ([.int .i64 0, .int .i64 0, .int .i64 0], [(0, 1), (1, 1), (2, 1)]) := by kernel_rfl
@[go_sem] theorem Tryz.pl_off34x0 : fOff Tryz.prog 34 0 = some (0, 1) := by kernel_rfl
@[go_sem] theorem Tryz.pl_part34x0 : fPart Tryz.prog 34 0 = some (0, none) := by kernel_rfl
@[go_sem] theorem Tryz.pl_off34x1 : fOff Tryz.prog 34 1 = some (1, 1) := by kernel_rfl
@[go_sem] theorem Tryz.pl_part34x1 : fPart Tryz.prog 34 1 = some (1, none) := by kernel_rfl
@[go_sem] theorem Tryz.pl_off34x2 : fOff Tryz.prog 34 2 = some (2, 1) := by kernel_rfl
@[go_sem] theorem Tryz.pl_part34x2 : fPart Tryz.prog 34 2 = some (2, none) := by kernel_rfl
@[go_sem] theorem Tryz.pl_agg35 : aggN Tryz.prog 35 = some (some 3) := by kernel_rfl
@[go_sem] theorem Tryz.pl_sz35 : szOf Tryz.prog 35 = some 3 := by kernel_rfl
@[go_sem] theorem Tryz.pl_zero35 : zeroCs Tryz.prog 35 = some [.int .i64 0, .int .i64 0, .int .i64 0] := by kernel_rfl
@[go_sem] theorem Tryz.pl_str35 : structP Tryz.prog 35 = some ([.int .i64 0, .int .i64 0, .int .i64 0], [(0, 1), (1, 1), (2, 1)]) := by kernel_rfl
@[go_sem] theorem Tryz.pl_off35x0 : fOff Tryz.prog 35 0 = some (0, 1) := by kernel_rfl
@[go_sem] theorem Tryz.pl_part35x0 : fPart Tryz.prog 35 0 = some (0, none) := by kernel_rfl
@[go_sem] theorem Tryz.pl_off35x1 : fOff Tryz.prog 35 1 = some (1, 1) := by kernel_rfl
@[go_sem] theorem Tryz.pl_part35x1 : fPart Tryz.prog 35 1 = some (1, none) := by kernel_rfl
@[go_sem] theorem Tryz.pl_off35x2 : fOff Tryz.prog 35 2 = some (2, 1) := by kernel_rfl
@[go_sem] theorem Tryz.pl_part35x2 : fPart Tryz.prog 35 2 = some (2, none) := by kernel_rfl
@[go_sem] theorem Tryz.pl_agg37 : aggN Tryz.prog 37 = some (some 3) := by kernel_rfl
@[go_sem] theorem Tryz.pl_sz37 : szOf Tryz.prog 37 = some 3 := by kernel_rfl
@[go_sem] theorem Tryz.pl_zero37 : zeroCs Tryz.prog 37 = some [.int .i64 0, .int .i64 0, .int .i64 0] := by kernel_rfl
@[go_sem] theorem Tryz.pl_str37 : structP Tryz.prog 37 = some ([.int .i64 0, .int .i64 0, .int .i64 0], [(0, 1), (1, 1), (2, 1)]) := by kernel_rfl
@[go_sem] theorem Tryz.pl_off37x0 : fOff Tryz.prog 37 0 = some (0, 1) := by kernel_rfl
@[go_sem] theorem Tryz.pl_part37x0 : fPart Tryz.prog 37 0 = some (0, none) := by kernel_rfl
@[go_sem] theorem Tryz.pl_off37x1 : fOff Tryz.prog 37 1 = some (1, 1) := by kernel_rfl
@[go_sem] theorem Tryz.pl_part37x1 : fPart Tryz.prog 37 1 = some (1, none) := by kernel_rfl
@[go_sem] theorem Tryz.pl_off37x2 : fOff Tryz.prog 37 2 = some (2, 1) := by kernel_rfl
@[go_sem] theorem Tryz.pl_part37x2 : fPart Tryz.prog 37 2 = some (2, none) := by kernel_rfl
@[go_sem] theorem Tryz.pl_agg38 : aggN Tryz.prog 38 = some (some 5) := by kernel_rfl
@[go_sem] theorem Tryz.pl_sz38 : szOf Tryz.prog 38 = some 5 := by kernel_rfl
@[go_sem] theorem Tryz.pl_zero38 : zeroCs Tryz.prog 38 = some [.int .i64 0, .int .i64 0, .int .i64 0, .int .i64 0, .int .i64 0] := by kernel_rfl
@[go_sem] theorem Tryz.pl_str38 : structP Tryz.prog 38 = some ([.int .i64 0, .int .i64 0, .int .i64 0, .int .i64 0, .int .i64 0], [(0, 3), (3, 1), (4, 1)]) := by kernel_rfl
@[go_sem] theorem Tryz.pl_off38x0 : fOff Tryz.prog 38 0 = some (0, 3) := by kernel_rfl
@[go_sem] theorem Tryz.pl_part38x0 : fPart Tryz.prog 38 0 = some (0, some 3) := by kernel_rfl
@[go_sem] theorem Tryz.pl_off38x1 : fOff Tryz.prog 38 1 = some (3, 1) := by kernel_rfl
@[go_sem] theorem Tryz.pl_part38x1 : fPart Tryz.prog 38 1 = some (3, none) := by kernel_rfl
@[go_sem] theorem Tryz.pl_off38x2 : fOff Tryz.prog 38 2 = some (4, 1) := by kernel_rfl
@[go_sem] theorem Tryz.pl_part38x2 : fPart Tryz.prog 38 2 = some (4, none) := by kernel_rfl
@[go_sem] theorem Tryz.pl_agg39 : aggN Tryz.prog 39 = some (some 5) := by kernel_rfl
@[go_sem] theorem Tryz.pl_sz39 : szOf Tryz.prog 39 = some 5 := by kernel_rfl
@[go_sem] theorem Tryz.pl_zero39 : zeroCs Tryz.prog 39 = some [.int .i64 0, .int .i64 0, .int .i64 0, .int .i64 0, .int .i64 0] := by kernel_rfl
@[go_sem] theorem Tryz.pl_str39 : structP Tryz.prog 39 = some ([.int .i64 0, .int .i64 0, .int .i64 0, .int .i64 0, .int .i64 0], [(0, 3), (3, 1), (4, 1)]) := by kernel_rfl
@[go_sem] theorem Tryz.pl_off39x0 : fOff Tryz.prog 39 0 = some (0, 3) := by kernel_rfl
@[go_sem] theorem Tryz.pl_part39x0 : fPart Tryz.prog 39 0 = some (0, some 3) := by kernel_rfl
@[go_sem] theorem Tryz.pl_off39x1 : fOff Tryz.prog 39 1 = some (3, 1) := by kernel_rfl
@[go_sem] theorem Tryz.pl_part39x1 : fPart Tryz.prog 39 1 = some (3, none) := by kernel_rfl
@[go_sem] theorem Tryz.pl_off39x2 : fOff Tryz.prog 39 2 = some (4, 1) := by kernel_rfl
@[go_sem] theorem Tryz.pl_part39x2 : fPart Tryz.prog 39 2 = some (4, none) := by kernel_rfl
@[go_sem] theorem Tryz.pl_agg40 : aggN Tryz.prog 40 = some (none) := by kernel_rfl
@[go_sem] theorem Tryz.pl_sz40 : szOf Tryz.prog 40 = some 1 := by kernel_rfl
@[go_sem] theorem Tryz.pl_zero40 : zeroCs Tryz.prog 40 = some [.slice none 0 0] := by kernel_rfl
@[go_sem] theorem Tryz.pl_und40 : Tryz.prog.underlying 40 = some (.slice 76) := by kernel_rfl
@[go_sem] theorem Tryz.pl_zv40 : zeroV Tryz.prog 76 = some (.agg #[.int .i64 0, .int .i64 0, .int .i64 0]) := by kernel_rfl
@[go_sem] theorem Tryz.pl_esz40 : eSz Tryz.prog 40 = some (76, 3) := by kernel_rfl
@[go_sem] theorem Tryz.pl_einf40 : eInf Tryz.prog 40 = some (76, 3, 24) := by kernel_rfl
@[go_sem] theorem Tryz.pl_agg41 : aggN Tryz.prog 41 = some (some 8) := by kernel_rfl
@[go_sem] theorem Tryz.pl_sz41 : szOf Tryz.prog 41 = some 8 := by kernel_rfl
@[go_sem] theorem Tryz.pl_zero41 : zeroCs Tryz.prog 41 = some [.int .i64 0, .int .i64 0, .int .i64 0, .int .i64 0, .int .i64 0, .slice none 0 0, .int .i64 0, .int .i64 0] := by kernel_rfl
@[go_sem] theorem Tryz.pl_str41 : structP Tryz.prog 41 = some ([.int .i64 0, .int .i64 0, .int .i64 0, .int .i64 0, .int .i64 0, .slice none 0 0, .int .i64 0, .int .i64 0], [(0, 5), (5, 1), (6, 1), (7, 1)]) := by kernel_rfl
@[go_sem] theorem Tryz.pl_off41x0 : fOff Tryz.prog 41 0 = some (0, 5) := by kernel_rfl
@[go_sem] theorem Tryz.pl_part41x0 : fPart Tryz.prog 41 0 = some (0, some 5) := by kernel_rfl
@[go_sem] theorem Tryz.pl_off41x1 : fOff Tryz.prog 41 1 = some (5, 1) := by kernel_rfl
@[go_sem] theorem Tryz.pl_part41x1 : fPart Tryz.prog 41 1 = some (5, none) := by kernel_rfl
@[go_sem] theorem Tryz.pl_off41x2 : fOff Tryz.prog 41 2 = some (6, 1) := by kernel_rfl
@[go_sem] theorem Tryz.pl_part41x2 : fPart Tryz.prog 41 2 = some (6, none) := by kernel_rfl
@[go_sem] theorem Tryz.pl_off41x3 : fOff Tryz.prog 41 3 = some (7, 1) := by kernel_rfl
@[go_sem] theorem Tryz.pl_part41x3 : fPart Tryz.prog 41 3 = some (7, none) := by kernel_rfl
@[go_sem] theorem Tryz.pl_agg42 : aggN Tryz.prog 42 = some (some 8) := by kernel_rfl
@[go_sem] theorem Tryz.pl_sz42 : szOf Tryz.prog 42 = some 8 := by kernel_rfl
@[go_sem] theorem Tryz.pl_zero42 : zeroCs Tryz.prog 42 = some [.int .i64 0, .int .i64 0, .int .i64 0, .int .i64 0, .int .i64 0, .slice none 0 0, .int .i64 0, .int .i64 0] := by kernel_rfl
@[go_sem] theorem Tryz.pl_str42 : structP Tryz.prog 42 = some ([.int .i64 0, .int .i64 0, .int .i64 0, .int .i64 0, .int .i64 0, .slice none 0 0, .int .i64 0, .int .i64 0], [(0, 5), (5, 1), (6, 1), (7, 1)]) := by kernel_rfl
@[go_sem] theorem Tryz.pl_off42x0 : fOff Tryz.prog 42 0 = some (0, 5) := by kernel_rfl
@[go_sem] theorem Tryz.pl_part42x0 : fPart Tryz.prog 42 0 = some (0, some 5) := by kernel_rfl
@[go_sem] theorem Tryz.pl_off42x1 : fOff Tryz.prog 42 1 = some (5, 1) := by kernel_rfl
@[go_sem] theorem Tryz.pl_part42x1 : fPart Tryz.prog 42 1 = some (5, none) := by kernel_rfl
@[go_sem] theorem Tryz.pl_off42x2 : fOff Tryz.prog 42 2 = some (6, 1) := by kernel_rfl
@[go_sem] theorem Tryz.pl_part42x2 : fPart Tryz.prog 42 2 = some (6, none) := by kernel_rfl
@[go_sem] theorem Tryz.pl_off42x3 : fOff Tryz.prog 42 3 = some (7, 1) := by kernel_rfl
@[go_sem] theorem Tryz.pl_part42x3 : fPart Tryz.prog 42 3 = some (7, none) := by kernel_rfl
@[go_sem] theorem Tryz.pl_agg43 : aggN Tryz.prog 43 = some (some 3) := by kernel_rfl
@[go_sem] theorem Tryz.pl_sz43 : szOf Tryz.prog 43 = some 3 := by kernel_rfl
@[go_sem] theorem Tryz.pl_zero43 : zeroCs Tryz.prog 43 = some [.int .i64 0, .int .i64 0, .int .i64 0] := by kernel_rfl
@[go_sem] theorem Tryz.pl_str43 : structP Tryz.prog 43 = some ([.int .i64 0, .int .i64 0, .int .i64 0], [(0, 1), (1, 1), (2, 1)]) := by kernel_rfl
@[go_sem] theorem Tryz.pl_off43x0 : fOff Tryz.prog 43 0 = some (0, 1) := by kernel_rfl
@[go_sem] theorem Tryz.pl_part43x0 : fPart Tryz.prog 43 0 = some (0, none) := by kernel_rfl
@[go_sem] theorem Tryz.pl_off43x1 : fOff Tryz.prog 43 1 = some (1, 1) := by kernel_rfl
@[go_sem] theorem Tryz.pl_part43x1 : fPart Tryz.prog 43 1 = some (1, none) := by kernel_rfl
@[go_sem] theorem Tryz.pl_off43x2 : fOff Tryz.prog 43 2 = some (2, 1) := by kernel_rfl
@[go_sem] theorem Tryz.pl_part43x2 : fPart Tryz.prog 43 2 = some (2, none) := by kernel_rfl
@[go_sem] theorem Tryz.pl_agg44 : aggN Tryz.prog 44 = some (none) := by kernel_rfl
@[go_sem] theorem Tryz.pl_sz44 : szOf Tryz.prog 44 = some 1 := by kernel_rfl
@[go_sem] theorem Tryz.pl_zero44 : zeroCs Tryz.prog 44 = some [.slice none 0 0] := by kernel_rfl
@[go_sem] theorem Tryz.pl_und44 : Tryz.prog.underlying 44 = some (.slice 111) := by kernel_rfl
@[go_sem] theorem Tryz.pl_zv44 : zeroV Tryz.prog 111 = some (.agg #[.int .i64 0, .int .i64 0, .int .i64 0, .int .i64 0]) := by kernel_rfl
@[go_sem] theorem Tryz.pl_esz44 : eSz Tryz.prog 44 = some (111, 4) := by kernel_rfl
@[go_sem] theorem Tryz.pl_einf44 : eInf Tryz.prog 44 = some (111, 4, 32) := by kernel_rfl
@[go_sem] theorem Tryz.pl_agg45 : aggN Tryz.prog 45 = some (some 13) := by kernel_rfl
@[go_sem] theorem Tryz.pl_sz45 : szOf Tryz.prog 45 = some 13 := by kernel_rfl
@[go_sem] theorem Tryz.pl_zero45 : zeroCs Tryz.prog 45 = some [.int .i64 0, .int .i64 0, .int .i64 0, .int .i64 0, .int .i64 0, .slice none 0 0, .int .i64 0, .int .i64 0, .int .i64 0, .int .i64 0, .int .i64 0, .int .i64 0, .slice none 0 0] := by kernel_rfl
@[go_sem] theorem Tryz.pl_str45 : structP Tryz.prog 45 = some ([.int .i64 0, .int .i64 0, .int .i64 0, .int .i64 0, .int .i64 0, .slice none 0 0, .int .i64 0, .int .i64 0, .int .i64 0, .int .i64 0, .int .i64 0, .int .i64 0, .slice none 0 0], [(0, 8), (8, 3), (11, 1), (12, 1)]) := by kernel_rfl
@[go_sem] theorem Tryz.pl_off45x0 : fOff Tryz.prog 45 0 = some (0, 8) := by kernel_rfl
@[go_sem] theorem Tryz.pl_part45x0 : fPart Tryz.prog 45 0 = some (0, some 8) := by kernel_rfl
@[go_sem] theorem Tryz.pl_off45x1 : fOff Tryz.prog 45 1 = some (8, 3) := by kernel_rfl
@[go_sem] theorem Tryz.pl_part45x1 : fPart Tryz.prog 45 1 = some (8, some 3) := by kernel_rfl
@[go_sem] theorem Tryz.pl_off45x2 : fOff Tryz.prog 45 2 = some (11, 1) := by kernel_rfl
@[go_sem] theorem Tryz.pl_part45x2 : fPart Tryz.prog 45 2 = some (11, none) := by kernel_rfl
@[go_sem] theorem Tryz.pl_off45x3 : fOff Tryz.prog 45 3 = some (12, 1) := by kernel_rfl
@[go_sem] theorem Tryz.pl_part45x3 : fPart Tryz.prog 45 3 = some (12, none) := by kernel_rfl
@[go_sem] theorem Tryz.pl_agg46 : aggN Tryz.prog 46 = some (some 13) := by kernel_rfl
@[go_sem] theorem Tryz.pl_sz46 : szOf Tryz.prog 46 = some 13 := by kernel_rfl
@[go_sem] theorem Tryz.pl_zero46 : zeroCs Tryz.prog 46 = some [.int .i64 0, .int .i64 0, .int .i64 0, .int .i64 0, .int .i64 0, .slice none 0 0, .int .i64 0, .int .i64 0, .int .i64 0, .int .i64 0, .int .i64 0, .int .i64 0, .slice none 0 0] := by kernel_rfl
@[go_sem] theorem Tryz.pl_str46 : structP Tryz.prog 46 = some ([.int .i64 0, .int .i64 0, .int .i64 0, .int .i64 0, .int .i64 0, .slice none 0 0, .int .i64 0, .int .i64 0, .int .i64 0, .int .i64 0, .int .i64 0, .int .i64 0, .slice none 0 0], [(0, 8), (8, 3), (11, 1), (12, 1)]) := by kernel_rfl
@[go_sem] theorem Tryz.pl_off46x0 : fOff Tryz.prog 46 0 = some (0, 8) := by kernel_rfl
@[go_sem] theorem Tryz.pl_part46x0 : fPart Tryz.prog 46 0 = some (0, some 8) := by kernel_rfl
@[go_sem] theorem Tryz.pl_off46x1 : fOff Tryz.prog 46 1 = some (8, 3) := by kernel_rfl
@[go_sem] theorem Tryz.pl_part46x1 : fPart Tryz.prog 46 1 = some (8, some 3) := by kernel_rfl
@[go_sem] theorem Tryz.pl_off46x2 : fOff Tryz.prog 46 2 = some (11, 1) := by kernel_rfl
@[go_sem] theorem Tryz.pl_part46x2 : fPart Tryz.prog 46 2 = some (11, none) := by kernel_rfl
@[go_sem] theorem Tryz.pl_off46x3 : fOff Tryz.prog 46 3 = some (12, 1) := by kernel_rfl
@[go_sem] theorem Tryz.pl_part46x3 : fPart Tryz.prog 46 3 = some (12, none) := by kernel_rfl
@[go_sem] theorem Tryz.pl_agg50 : aggN Tryz.prog 50 = some (some 3) := by kernel_rfl
@[go_sem] theorem Tryz.pl_sz50 : szOf Tryz.prog 50 = some 3 := by kernel_rfl
@[go_sem] theorem Tryz.pl_zero50 : zeroCs Tryz.prog 50 = some [.int .i64 0, .int .i64 0, .int .i64 0] := by kernel_rfl
@[go_sem] theorem Tryz.pl_str50 : structP Tryz.prog 50 = some ([.int .i64 0, .int .i64 0, .int .i64 0], [(0, 1), (1, 1), (2, 1)]) := by kernel_rfl
@[go_sem] theorem Tryz.pl_off50x0 : fOff Tryz.prog 50 0 = some (0, 1) := by kernel_rfl
@[go_sem] theorem Tryz.pl_part50x0 : fPart Tryz.prog 50 0 = some (0, none) := by kernel_rfl
@[go_sem] theorem Tryz.pl_off50x1 : fOff Tryz.prog 50 1 = some (1, 1) := by kernel_rfl
@[go_sem] theorem Tryz.pl_part50x1 : fPart Tryz.prog 50 1 = some (1, none) := by kernel_rfl
@[go_sem] theorem Tryz.pl_off50x2 : fOff Tryz.prog 50 2 = some (2, 1) := by kernel_rfl
@[go_sem] theorem Tryz.pl_part50x2 : fPart Tryz.prog 50 2 = some (2, none) := by kernel_rfl
@[go_sem] theorem Tryz.pl_agg55 : aggN Tryz.prog 55 = some (none) := by kernel_rfl
@[go_sem] theorem Tryz.pl_sz55 : szOf Tryz.prog 55 = some 1 := by kernel_rfl
@[go_sem] theorem Tryz.pl_zero55 : zeroCs Tryz.prog 55 = some [.slice none 0 0] := by kernel_rfl
@[go_sem] theorem Tryz.pl_und55 : Tryz.prog.underlying 55 = some (.slice 35) := by kernel_rfl
@[go_sem] theorem Tryz.pl_zv55 : zeroV Tryz.prog 35 = some (.agg #[.int .i64 0, .int .i64 0, .int .i64 0]) := by kernel_rfl
@[go_sem] theorem Tryz.pl_esz55 : eSz Tryz.prog 55 = some (35, 3) := by kernel_rfl
@[go_sem] theorem Tryz.pl_einf55 : eInf Tryz.prog 55 = some (35, 3, 24) := by kernel_rfl
@[go_sem] theorem Tryz.pl_agg56 : aggN Tryz.prog 56 = some (none) := by kernel_rfl
@[go_sem] theorem Tryz.pl_sz56 : szOf Tryz.prog 56 = some 1 := by kernel_rfl
@[go_sem] theorem Tryz.pl_zero56 : zeroCs Tryz.prog 56 = some [.slice none 0 0] := by kernel_rfl
@[go_sem] theorem Tryz.pl_und56 : Tryz.prog.underlying 56 = some (.slice 3) := by kernel_rfl
@[go_sem] theorem Tryz.pl_zv56 : zeroV Tryz.prog 3 = some (.int .i64 0) := by kernel_rfl
@[go_sem] theorem Tryz.pl_esz56 : eSz Tryz.prog 56 = some (3, 1) := by kernel_rfl
@[go_sem] theorem Tryz.pl_einf56 : eInf Tryz.prog 56 = some (3, 1, 8) := by kernel_rfl
@[go_sem] theorem Tryz.pl_agg59 : aggN Tryz.prog 59 = some (none) := by kernel_rfl
@[go_sem] theorem Tryz.pl_sz59 : szOf Tryz.prog 59 = some 1 := by kernel_rfl
@[go_sem] theorem Tryz.pl_zero59 : zeroCs Tryz.prog 59 = some [.slice none 0 0] := by kernel_rfl
@[go_sem] theorem Tryz.pl_und59 : Tryz.prog.underlying 59 = some (.slice 50) := by kernel_rfl
@[go_sem] theorem Tryz.pl_zv59 : zeroV Tryz.prog 50 = some (.agg #[.int .i64 0, .int .i64 0, .int .i64 0]) := by kernel_rfl
@[go_sem] theorem Tryz.pl_esz59 : eSz Tryz.prog 59 = some (50, 3) := by kernel_rfl
@[go_sem] theorem Tryz.pl_einf59 : eInf Tryz.prog 59 = some (50, 3, 24) := by kernel_rfl
@[go_sem] theorem Tryz.pl_agg75 : aggN Tryz.prog 75 = some (some 3) := by kernel_rfl
@[go_sem] theorem Tryz.pl_sz75 : szOf Tryz.prog 75 = some 3 := by kernel_rfl
@[go_sem] theorem Tryz.pl_zero75 : zeroCs Tryz.prog 75 = some [.int .i64 0, .int .i64 0, .int .i64 0] := by kernel_rfl
@[go_sem] theorem Tryz.pl_str75 : structP Tryz.prog 75 = some ([.int .i64 0, .int .i64 0, .int .i64 0], [(0, 1), (1, 1), (2, 1)]) := by kernel_rfl
@[go_sem] theorem Tryz.pl_off75x0 : fOff Tryz.prog 75 0 = some (0, 1) := by kernel_rfl
@[go_sem] theorem Tryz.pl_part75x0 : fPart Tryz.prog 75 0 = some (0, none) := by kernel_rfl
@[go_sem] theorem Tryz.pl_off75x1 : fOff Tryz.prog 75 1 = some (1, 1) := by kernel_rfl
@[go_sem] theorem Tryz.pl_part75x1 : fPart Tryz.prog 75 1 = some (1, none) := by kernel_rfl
@[go_sem] theorem Tryz.pl_off75x2 : fOff Tryz.prog 75 2 = some (2, 1) := by kernel_rfl
@[go_sem] theorem Tryz.pl_part75x2 : fPart Tryz.prog 75 2 = some (2, none) := by kernel_rfl
@[go_sem] theorem Tryz.pl_agg76 : aggN Tryz.prog 76 = some (some 3) := by kernel_rfl
@[go_sem] theorem Tryz.pl_sz76 : szOf Tryz.prog 76 = some 3 := by kernel_rfl
@[go_sem] theorem Tryz.pl_zero76 : zeroCs Tryz.prog 76 = some [.int .i64 0, .int .i64 0, .int .i64 0] := by kernel_rfl
@[go_sem] theorem Tryz.pl_str76 : structP Tryz.prog 76 = some ([.int .i64 0, .int .i64 0, .int .i64 0], [(0, 1), (1, 1), (2, 1)]) := by kernel_rfl
@[go_sem] theorem Tryz.pl_off76x0 : fOff Tryz.prog 76 0 = some (0, 1) := by kernel_rfl
@[go_sem] theorem Tryz.pl_part76x0 : fPart Tryz.prog 76 0 = some (0, none) := by kernel_rfl
@[go_sem] theorem Tryz.pl_off76x1 : fOff Tryz.prog 76 1 = some (1, 1) := by kernel_rfl
@[go_sem] theorem Tryz.pl_part76x1 : fPart Tryz.prog 76 1 = some (1, none) := by kernel_rfl
@[go_sem] theorem Tryz.pl_off76x2 : fOff Tryz.prog 76 2 = some (2, 1) := by kernel_rfl
@[go_sem] theorem Tryz.pl_part76x2 : fPart Tryz.prog 76 2 = some (2, none) := by kernel_rfl
@[go_sem] theorem Tryz.pl_agg110 : aggN Tryz.prog 110 = some (some 4) := by kernel_rfl
@[go_sem] theorem Tryz.pl_sz110 : szOf Tryz.prog 110 = some 4 := by kernel_rfl
@[go_sem] theorem Tryz.pl_zero110 : zeroCs Tryz.prog 110 = some [.int .i64 0, .int .i64 0, .int .i64 0, .int .i64 0] := by kernel_rfl
@[go_sem] theorem Tryz.pl_str110 : structP Tryz.prog 110 = some ([.int .i64 0, .int .i64 0, .int .i64 0, .int .i64 0], [(0, 1), (1, 1), (2, 1), (3, 1)]) := by kernel_rfl
@[go_sem] theorem Tryz.pl_off110x0 : fOff Tryz.prog 110 0 = some (0, 1) := by kernel_rfl
@[go_sem] theorem Tryz.pl_part110x0 : fPart Tryz.prog 110 0 = some (0, none) := by kernel_rfl
@[go_sem] theorem Tryz.pl_off110x1 : fOff Tryz.prog 110 1 = some (1, 1) := by kernel_rfl
@[go_sem] theorem Tryz.pl_part110x1 : fPart Tryz.prog 110 1 = some (1, none) := by kernel_rfl
@[go_sem] theorem Tryz.pl_off110x2 : fOff Tryz.prog 110 2 = some (2, 1) := by kernel_rfl
@[go_sem] theorem Tryz.pl_part110x2 : fPart Tryz.prog 110 2 = some (2, none) := by kernel_rfl
@[go_sem] theorem Tryz.pl_off110x3 : fOff Tryz.prog 110 3 = some (3, 1) := by kernel_rfl
@[go_sem] theorem Tryz.pl_part110x3 : fPart Tryz.prog 110 3 = some (3, none) := by kernel_rfl
@[go_sem] theorem Tryz.pl_agg111 : aggN Tryz.prog 111 = some (some 4) := by kernel_rfl
@[go_sem] theorem Tryz.pl_sz111 : szOf Tryz.prog 111 = some 4 := by kernel_rfl
@[go_sem] theorem Tryz.pl_zero111 : zeroCs Tryz.prog 111 = some [.int .i64 0, .int .i64 0, .int .i64 0, .int .i64 0] := by kernel_rfl
@[go_sem] theorem Tryz.pl_str111 : structP Tryz.prog 111 = some ([.int .i64 0, .int .i64 0, .int .i64 0, .int .i64 0], [(0, 1), (1, 1), (2, 1), (3, 1)]) := by kernel_rfl
@[go_sem] theorem Tryz.pl_off111x0 : fOff Tryz.prog 111 0 = some (0, 1) := by kernel_rfl
@[go_sem] theorem Tryz.pl_part111x0 : fPart Tryz.prog 111 0 = some (0, none) := by kernel_rfl
@[go_sem] theorem Tryz.pl_off111x1 : fOff Tryz.prog 111 1 = some (1, 1) := by kernel_rfl
@[go_sem] theorem Tryz.pl_part111x1 : fPart Tryz.prog 111 1 = some (1, none) := by kernel_rfl
@[go_sem] theorem Tryz.pl_off111x2 : fOff Tryz.prog 111 2 = some (2, 1) := by kernel_rfl
@[go_sem] theorem Tryz.pl_part111x2 : fPart Tryz.prog 111 2 = some (2, none) := by kernel_rfl
@[go_sem] theorem Tryz.pl_off111x3 : fOff Tryz.prog 111 3 = some (3, 1) := by kernel_rfl
@[go_sem] theorem Tryz.pl_part111x3 : fPart Tryz.prog 111 3 = some (3, none) := by kernel_rfl
@[go_sem] theorem Tryz.pl_agg117 : aggN Tryz.prog 117 = some (some 4) := by kernel_rfl
@[go_sem] theorem Tryz.pl_sz117 : szOf Tryz.prog 117 = some 4 := by kernel_rfl
@[go_sem] theorem Tryz.pl_zero117 : zeroCs Tryz.prog 117 = some [.int .i64 0, .int .i64 0, .int .i64 0, .int .i64 0] := by kernel_rfl
@[go_sem] theorem Tryz.pl_str117 : structP Tryz.prog 117 = some ([.int .i64 0, .int .i64 0, .int .i64 0, .int .i64 0], [(0, 1), (1, 1), (2, 1), (3, 1)]) := by kernel_rfl
@[go_sem] theorem Tryz.pl_off117x0 : fOff Tryz.prog 117 0 = some (0, 1) := by kernel_rfl
@[go_sem] theorem Tryz.pl_part117x0 : fPart Tryz.prog 117 0 = some (0, none) := by kernel_rfl
@[go_sem] theorem Tryz.pl_off117x1 : fOff Tryz.prog 117 1 = some (1, 1) := by kernel_rfl
@[go_sem] theorem Tryz.pl_part117x1 : fPart Tryz.prog 117 1 = some (1, none) := by kernel_rfl
@[go_sem] theorem Tryz.pl_off117x2 : fOff Tryz.prog 117 2 = some (2, 1) := by kernel_rfl
@[go_sem] theorem Tryz.pl_part117x2 : fPart Tryz.prog 117 2 = some (2, none) := by kernel_rfl
@[go_sem] theorem Tryz.pl_off117x3 : fOff Tryz.prog 117 3 = some (3, 1) := by kernel_rfl
@[go_sem] theorem Tryz.pl_part117x3 : fPart Tryz.prog 117 3 = some (3, none) := by kernel_rfl
@[go_sem] theorem Tryz.pl_agg132 : aggN Tryz.prog 132 = some (some 3) := by kernel_rfl
@[go_sem] theorem Tryz.pl_sz132 : szOf Tryz.prog 132 = some 3 := by kernel_rfl
@[go_sem] theorem Tryz.pl_zero132 : zeroCs Tryz.prog 132 = some [.int .i64 0, .int .i64 0, .int .i64 0] := by kernel_rfl
@[go_sem] theorem Tryz.pl_str132 : structP Tryz.prog 132 = some ([.int .i64 0, .int .i64 0, .int .i64 0], [(0, 1), (1, 1), (2, 1)]) := by kernel_rfl
@[go_sem] theorem Tryz.pl_off132x0 : fOff Tryz.prog 132 0 = some (0, 1) := by kernel_rfl
@[go_sem] theorem Tryz.pl_part132x0 : fPart Tryz.prog 132 0 = some (0, none) := by kernel_rfl
@[go_sem] theorem Tryz.pl_off132x1 : fOff Tryz.prog 132 1 = some (1, 1) := by kernel_rfl
@[go_sem] theorem Tryz.pl_part132x1 : fPart Tryz.prog 132 1 = some (1, none) := by kernel_rfl
@[go_sem] theorem Tryz.pl_off132x2 : fOff Tryz.prog 132 2 = some (2, 1) := by kernel_rfl
@[go_sem] theorem Tryz.pl_part132x2 : fPart Tryz.prog 132 2 = some (2, none) := by kernel_rfl
@[go_sem] theorem Tryz.pl_agg145 : aggN Tryz.prog 145 = some (none) := by kernel_rfl
@[go_sem] theorem Tryz.pl_sz145 : szOf Tryz.prog 145 = some 1 := by kernel_rfl
@[go_sem] theorem Tryz.pl_zero145 : zeroCs Tryz.prog 145 = some [.slice none 0 0] := by kernel_rfl
@[go_sem] theorem Tryz.pl_und145 : Tryz.prog.underlying 145 = some (.slice 4) := by kernel_rfl
@[go_sem] theorem Tryz.pl_zv145 : zeroV Tryz.prog 4 = some (.bool false) := by kernel_rfl
@[go_sem] theorem Tryz.pl_esz145 : eSz Tryz.prog 145 = some (4, 1) := by kernel_rfl
@[go_sem] theorem Tryz.pl_einf145 : eInf Tryz.prog 145 = some (4, 1, 1) := by kernel_rfl
@[go_sem] theorem Tryz.pl_agg148 : aggN Tryz.prog 148 = some (none) := by kernel_rfl
@[go_sem] theorem Tryz.pl_sz148 : szOf Tryz.prog 148 = some 1 := by kernel_rfl
@[go_sem] theorem Tryz.pl_zero148 : zeroCs Tryz.prog 148 = some [.slice none 0 0] := by kernel_rfl
@[go_sem] theorem Tryz.pl_und148 : Tryz.prog.underlying 148 = some (.slice 4) := by kernel_rfl
@[go_sem] theorem Tryz.pl_zv148 : zeroV Tryz.prog 4 = some (.bool false) := by kernel_rfl
@[go_sem] theorem Tryz.pl_esz148 : eSz Tryz.prog 148 = some (4, 1) := by kernel_rfl
@[go_sem] theorem Tryz.pl_einf148 : eInf Tryz.prog 148 = some (4, 1, 1) := by kernel_rfl
@[go_sem] theorem Tryz.pl_agg153 : aggN Tryz.prog 153 = some (some 4) := by kernel_rfl
@[go_sem] theorem Tryz.pl_sz153 : szOf Tryz.prog 153 = some 4 := by kernel_rfl
@[go_sem] theorem Tryz.pl_zero153 : zeroCs Tryz.prog 153 = some [.pointer none, .pointer none, .pointer none, .string .empty] := by kernel_rfl
@[go_sem] theorem Tryz.pl_str153 : structP Tryz.prog 153 = some ([.pointer none, .pointer none, .pointer none, .string .empty], [(0, 1), (1, 1), (2, 1), (3, 1)]) := by kernel_rfl
@[go_sem] theorem Tryz.pl_off153x0 : fOff Tryz.prog 153 0 = some (0, 1) := by kernel_rfl
@[go_sem] theorem Tryz.pl_part153x0 : fPart Tryz.prog 153 0 = some (0, none) := by kernel_rfl
@[go_sem] theorem Tryz.pl_off153x1 : fOff Tryz.prog 153 1 = some (1, 1) := by kernel_rfl
@[go_sem] theorem Tryz.pl_part153x1 : fPart Tryz.prog 153 1 = some (1, none) := by kernel_rfl
@[go_sem] theorem Tryz.pl_off153x2 : fOff Tryz.prog 153 2 = some (2, 1) := by kernel_rfl
@[go_sem] theorem Tryz.pl_part153x2 : fPart Tryz.prog 153 2 = some (2, none) := by kernel_rfl
@[go_sem] theorem Tryz.pl_off153x3 : fOff Tryz.prog 153 3 = some (3, 1) := by kernel_rfl
@[go_sem] theorem Tryz.pl_part153x3 : fPart Tryz.prog 153 3 = some (3, none) := by kernel_rfl
@[go_sem] theorem Tryz.pl_agg154 : aggN Tryz.prog 154 = some (some 4) := by kernel_rfl
@[go_sem] theorem Tryz.pl_sz154 : szOf Tryz.prog 154 = some 4 := by kernel_rfl
@[go_sem] theorem Tryz.pl_zero154 : zeroCs Tryz.prog 154 = some [.pointer none, .pointer none, .pointer none, .string .empty] := by kernel_rfl
@[go_sem] theorem Tryz.pl_str154 : structP Tryz.prog 154 = some ([.pointer none, .pointer none, .pointer none, .string .empty], [(0, 1), (1, 1), (2, 1), (3, 1)]) := by kernel_rfl
@[go_sem] theorem Tryz.pl_off154x0 : fOff Tryz.prog 154 0 = some (0, 1) := by kernel_rfl
@[go_sem] theorem Tryz.pl_part154x0 : fPart Tryz.prog 154 0 = some (0, none) := by kernel_rfl
@[go_sem] theorem Tryz.pl_off154x1 : fOff Tryz.prog 154 1 = some (1, 1) := by kernel_rfl
@[go_sem] theorem Tryz.pl_part154x1 : fPart Tryz.prog 154 1 = some (1, none) := by kernel_rfl
@[go_sem] theorem Tryz.pl_off154x2 : fOff Tryz.prog 154 2 = some (2, 1) := by kernel_rfl
@[go_sem] theorem Tryz.pl_part154x2 : fPart Tryz.prog 154 2 = some (2, none) := by kernel_rfl
@[go_sem] theorem Tryz.pl_off154x3 : fOff Tryz.prog 154 3 = some (3, 1) := by kernel_rfl
@[go_sem] theorem Tryz.pl_part154x3 : fPart Tryz.prog 154 3 = some (3, none) := by kernel_rfl
@[go_sem] theorem Tryz.pl_agg155 : aggN Tryz.prog 155 = some (some 0) := by kernel_rfl
@[go_sem] theorem Tryz.pl_sz155 : szOf Tryz.prog 155 = some 0 := by kernel_rfl
@[go_sem] theorem Tryz.pl_zero155 : zeroCs Tryz.prog 155 = some [] := by kernel_rfl
@[go_sem] theorem Tryz.pl_agg156 : aggN Tryz.prog 156 = some (some 0) := by kernel_rfl
@[go_sem] theorem Tryz.pl_sz156 : szOf Tryz.prog 156 = some 0 := by kernel_rfl
@[go_sem] theorem Tryz.pl_zero156 : zeroCs Tryz.prog 156 = some [] := by kernel_rfl
@[go_sem] theorem Tryz.pl_str156 : structP Tryz.prog 156 = some ([], [(0, 0)]) := by kernel_rfl
@[go_sem] theorem Tryz.pl_off156x0 : fOff Tryz.prog 156 0 = some (0, 0) := by kernel_rfl
@[go_sem] theorem Tryz.pl_part156x0 : fPart Tryz.prog 156 0 = some (0, some 0) := by kernel_rfl
@[go_sem] theorem Tryz.pl_agg157 : aggN Tryz.prog 157 = some (some 0) := by kernel_rfl
@[go_sem] theorem Tryz.pl_sz157 : szOf Tryz.prog 157 = some 0 := by kernel_rfl
@[go_sem] theorem Tryz.pl_zero157 : zeroCs Tryz.prog 157 = some [] := by kernel_rfl
@[go_sem] theorem Tryz.pl_str157 : structP Tryz.prog 157 = some ([], [(0, 0)]) := by kernel_rfl
@[go_sem] theorem Tryz.pl_off157x0 : fOff Tryz.prog 157 0 = some (0, 0) := by kernel_rfl
@[go_sem] theorem Tryz.pl_part157x0 : fPart Tryz.prog 157 0 = some (0, some 0) := by kernel_rfl
@[go_sem] theorem Tryz.pl_agg159 : aggN Tryz.prog 159 = some (none) := by kernel_rfl
@[go_sem] theorem Tryz.pl_sz159 : szOf Tryz.prog 159 = some 1 := by kernel_rfl
@[go_sem] theorem Tryz.pl_zero159 : zeroCs Tryz.prog 159 = some [.int .u32 0] := by kernel_rfl
@[go_sem] theorem Tryz.pl_und159 : Tryz.prog.underlying 159 = some (.int .u32) := by kernel_rfl
@[go_sem] theorem Tryz.pl_agg160 : aggN Tryz.prog 160 = some (none) := by kernel_rfl
@[go_sem] theorem Tryz.pl_sz160 : szOf Tryz.prog 160 = some 1 := by kernel_rfl
@[go_sem] theorem Tryz.pl_zero160 : zeroCs Tryz.prog 160 = some [.int .u8 0] := by kernel_rfl
@[go_sem] theorem Tryz.pl_und160 : Tryz.prog.underlying 160 = some (.int .u8) := by kernel_rfl
@[go_sem] theorem Tryz.pl_agg161 : aggN Tryz.prog 161 = some (none) := by kernel_rfl
@[go_sem] theorem Tryz.pl_sz161 : szOf Tryz.prog 161 = some 1 := by kernel_rfl
@[go_sem] theorem Tryz.pl_zero161 : zeroCs Tryz.prog 161 = some [.int .u8 0] := by kernel_rfl
@[go_sem] theorem Tryz.pl_und161 : Tryz.prog.underlying 161 = some (.int .u8) := by kernel_rfl
@[go_sem] theorem Tryz.pl_agg163 : aggN Tryz.prog 163 = some (none) := by kernel_rfl
@[go_sem] theorem Tryz.pl_sz163 : szOf Tryz.prog 163 = some 1 := by kernel_rfl
@[go_sem] theorem Tryz.pl_zero163 : zeroCs Tryz.prog 163 = some [.pointer none] := by kernel_rfl
@[go_sem] theorem Tryz.pl_agg164 : aggN Tryz.prog 164 = some (none) := by kernel_rfl
@[go_sem] theorem Tryz.pl_sz164 : szOf Tryz.prog 164 = some 1 := by kernel_rfl
@[go_sem] theorem Tryz.pl_zero164 : zeroCs Tryz.prog 164 = some [.int .i32 0] := by kernel_rfl
@[go_sem] theorem Tryz.pl_und164 : Tryz.prog.underlying 164 = some (.int .i32) := by kernel_rfl
@[go_sem] theorem Tryz.pl_agg165 : aggN Tryz.prog 165 = some (none) := by kernel_rfl
@[go_sem] theorem Tryz.pl_sz165 : szOf Tryz.prog 165 = some 1 := by kernel_rfl
@[go_sem] theorem Tryz.pl_zero165 : zeroCs Tryz.prog 165 = some [.int .i32 0] := by kernel_rfl
@[go_sem] theorem Tryz.pl_und165 : Tryz.prog.underlying 165 = some (.int .i32) := by kernel_rfl
@[go_sem] theorem Tryz.pl_agg166 : aggN Tryz.prog 166 = some (some 11) := by kernel_rfl
@[go_sem] theorem Tryz.pl_sz166 : szOf Tryz.prog 166 = some 11 := by kernel_rfl
@[go_sem] theorem Tryz.pl_off166x0 : fOff Tryz.prog 166 0 = some (0, 1) := by kernel_rfl
@[go_sem] theorem Tryz.pl_part166x0 : fPart Tryz.prog 166 0 = some (0, none) := by kernel_rfl
@[go_sem] theorem Tryz.pl_off166x1 : fOff Tryz.prog 166 1 = some (1, 1) := by kernel_rfl
@[go_sem] theorem Tryz.pl_part166x1 : fPart Tryz.prog 166 1 = some (1, none) := by kernel_rfl
@[go_sem] theorem Tryz.pl_off166x2 : fOff Tryz.prog 166 2 = some (2, 1) := by kernel_rfl
@[go_sem] theorem Tryz.pl_part166x2 : fPart Tryz.prog 166 2 = some (2, none) := by kernel_rfl
@[go_sem] theorem Tryz.pl_off166x3 : fOff Tryz.prog 166 3 = some (3, 1) := by kernel_rfl
@[go_sem] theorem Tryz.pl_part166x3 : fPart Tryz.prog 166 3 = some (3, none) := by kernel_rfl
@[go_sem] theorem Tryz.pl_off166x4 : fOff Tryz.prog 166 4 = some (4, 1) := by kernel_rfl
@[go_sem] theorem Tryz.pl_part166x4 : fPart Tryz.prog 166 4 = some (4, none) := by kernel_rfl
@[go_sem] theorem Tryz.pl_off166x5 : fOff Tryz.prog 166 5 = some (5, 1) := by kernel_rfl
@[go_sem] theorem Tryz.pl_part166x5 : fPart Tryz.prog 166 5 = some (5, none) := by kernel_rfl
@[go_sem] theorem Tryz.pl_off166x6 : fOff Tryz.prog 166 6 = some (6, 1) := by kernel_rfl
@[go_sem] theorem Tryz.pl_part166x6 : fPart Tryz.prog 166 6 = some (6, none) := by kernel_rfl
@[go_sem] theorem Tryz.pl_off166x7 : fOff Tryz.prog 166 7 = some (7, 1) := by kernel_rfl
@[go_sem] theorem Tryz.pl_part166x7 : fPart Tryz.prog 166 7 = some (7, none) := by kernel_rfl
@[go_sem] theorem Tryz.pl_off166x8 : fOff Tryz.prog 166 8 = some (8, 1) := by kernel_rfl
@[go_sem] theorem Tryz.pl_part166x8 : fPart Tryz.prog 166 8 = some (8, none) := by kernel_rfl
@[go_sem] theorem Tryz.pl_off166x9 : fOff Tryz.prog 166 9 = some (9, 1) := by kernel_rfl
@[go_sem] theorem Tryz.pl_part166x9 : fPart Tryz.prog 166 9 = some (9, none) := by kernel_rfl
@[go_sem] theorem Tryz.pl_off166x10 : fOff Tryz.prog 166 10 = some (10, 1) := by kernel_rfl
@[go_sem] theorem Tryz.pl_part166x10 : fPart Tryz.prog 166 10 = some (10, none) := by kernel_rfl
@[go_sem] theorem Tryz.pl_agg167 : aggN Tryz.prog 167 = some (some 11) := by kernel_rfl
@[go_sem] theorem Tryz.pl_sz167 : szOf Tryz.prog 167 = some 11 := by kernel_rfl
@[go_sem] theorem Tryz.pl_off167x0 : fOff Tryz.prog 167 0 = some (0, 1) := by kernel_rfl
@[go_sem] theorem Tryz.pl_part167x0 : fPart Tryz.prog 167 0 = some (0, none) := by kernel_rfl
@[go_sem] theorem Tryz.pl_off167x1 : fOff Tryz.prog 167 1 = some (1, 1) := by kernel_rfl
@[go_sem] theorem Tryz.pl_part167x1 : fPart Tryz.prog 167 1 = some (1, none) := by kernel_rfl
@[go_sem] theorem Tryz.pl_off167x2 : fOff Tryz.prog 167 2 = some (2, 1) := by kernel_rfl
@[go_sem] theorem Tryz.pl_part167x2 : fPart Tryz.prog 167 2 = some (2, none) := by kernel_rfl
@[go_sem] theorem Tryz.pl_off167x3 : fOff Tryz.prog 167 3 = some (3, 1) := by kernel_rfl
@[go_sem] theorem Tryz.pl_part167x3 : fPart Tryz.prog 167 3 = some (3, none) := by kernel_rfl
@[go_sem] theorem Tryz.pl_off167x4 : fOff Tryz.prog 167 4 = some (4, 1) := by kernel_rfl
@[go_sem] theorem Tryz.pl_part167x4 : fPart Tryz.prog 167 4 = some (4, none) := by kernel_rfl
@[go_sem] theorem Tryz.pl_off167x5 : fOff Tryz.prog 167 5 = some (5, 1) := by kernel_rfl
@[go_sem] theorem Tryz.pl_part167x5 : fPart Tryz.prog 167 5 = some (5, none) := by kernel_rfl
@[go_sem] theorem Tryz.pl_off167x6 : fOff Tryz.prog 167 6 = some (6, 1) := by kernel_rfl
@[go_sem] theorem Tryz.pl_part167x6 : fPart Tryz.prog 167 6 = some (6, none) := by kernel_rfl
@[go_sem] theorem Tryz.pl_off167x7 : fOff Tryz.prog 167 7 = some (7, 1) := by kernel_rfl
@[go_sem] theorem Tryz.pl_part167x7 : fPart Tryz.prog 167 7 = some (7, none) := by kernel_rfl
@[go_sem] theorem Tryz.pl_off167x8 : fOff Tryz.prog 167 8 = some (8, 1) := by kernel_rfl
@[go_sem] theorem Tryz.pl_part167x8 : fPart Tryz.prog 167 8 = some (8, none) := by kernel_rfl
@[go_sem] theorem Tryz.pl_off167x9 : fOff Tryz.prog 167 9 = some (9, 1) := by kernel_rfl
@[go_sem] theorem Tryz.pl_part167x9 : fPart Tryz.prog 167 9 = some (9, none) := by kernel_rfl
@[go_sem] theorem Tryz.pl_off167x10 : fOff Tryz.prog 167 10 = some (10, 1) := by kernel_rfl
@[go_sem] theorem Tryz.pl_part167x10 : fPart Tryz.prog 167 10 = some (10, none) := by kernel_rfl
@[go_sem] theorem Tryz.pl_rs0 : Tryz.f0.results.toList = [] := by kernel_rfl
@[go_sem] theorem Tryz.pl_rs1 : Tryz.f1.results.toList = [] := by kernel_rfl
@[go_sem] theorem Tryz.pl_rs2 : Tryz.f2.results.toList = [] := by kernel_rfl
@[go_sem] theorem Tryz.pl_rs3 : Tryz.f3.results.toList = [.tmp 4] := by kernel_rfl
@[go_sem] theorem Tryz.pl_rs4 : Tryz.f4.results.toList = [.tmp 6] := by kernel_rfl
@[go_sem] theorem Tryz.pl_rs5 : Tryz.f5.results.toList = [.tmp 4] := by kernel_rfl
@[go_sem] theorem Tryz.pl_rs6 : Tryz.f6.results.toList = [.tmp 4] := by kernel_rfl
@[go_sem] theorem Tryz.pl_rs7 : Tryz.f7.results.toList = [.cell 4 46, .tmp 5] := by kernel_rfl
@[go_sem] theorem Tryz.pl_rs8 : Tryz.f8.results.toList = [.cell 2 46] := by kernel_rfl
@[go_sem] theorem Tryz.pl_rs9 : Tryz.f9.results.toList = [.cell 2 50] := by kernel_rfl
@[go_sem] theorem Tryz.pl_rs10 : Tryz.f10.results.toList = [.cell 4 46, .tmp 5] := by kernel_rfl
@[go_sem] theorem Tryz.pl_rs11 : Tryz.f11.results.toList = [.tmp 4] := by kernel_rfl
@[go_sem] theorem Tryz.pl_rs12 : Tryz.f12.results.toList = [.tmp 4] := by kernel_rfl
@[go_sem] theorem Tryz.pl_rs13 : Tryz.f13.results.toList = [.tmp 4] := by kernel_rfl
@[go_sem] theorem Tryz.pl_rs14 : Tryz.f14.results.toList = [.tmp 4] := by kernel_rfl
@[go_sem] theorem Tryz.pl_rs15 : Tryz.f15.results.toList = [.tmp 6] := by kernel_rfl
@[go_sem] theorem Tryz.pl_rs16 : Tryz.f16.results.toList = [.tmp 2] := by kernel_rfl
@[go_sem] theorem Tryz.pl_rs17 : Tryz.f17.results.toList = [.tmp 2] := by kernel_rfl
@[go_sem] theorem Tryz.pl_rs18 : Tryz.f18.results.toList = [.tmp 6] := by kernel_rfl
@[go_sem] theorem Tryz.pl_rs19 : Tryz.f19.results.toList = [.tmp 4] := by kernel_rfl
@[go_sem] theorem Tryz.pl_rs20 : Tryz.f20.results.toList = [.tmp 4] := by kernel_rfl
@[go_sem] theorem Tryz.pl_rs21 : Tryz.f21.results.toList = [.cell 4 46, .tmp 5] := by kernel_rfl
@[go_sem] theorem Tryz.pl_rs22 : Tryz.f22.results.toList = [.cell 4 46, .tmp 5] := by kernel_rfl
@[go_sem] theorem Tryz.pl_rs23 : Tryz.f23.results.toList = [.tmp 4] := by kernel_rfl
@[go_sem] theorem Tryz.pl_rs24 : Tryz.f24.results.toList = [.tmp 4] := by kernel_rfl
@[go_sem] theorem Tryz.pl_rs25 : Tryz.f25.results.toList = [.tmp 4] := by kernel_rfl
@[go_sem] theorem Tryz.pl_rs26 : Tryz.f26.results.toList = [.tmp 4] := by kernel_rfl
@[go_sem] theorem Tryz.pl_rs27 : Tryz.f27.results.toList = [.tmp 4] := by kernel_rfl
@[go_sem] theorem Tryz.pl_rs28 : Tryz.f28.results.toList = [.cell 2 46] := by kernel_rfl
@[go_sem] theorem Tryz.pl_rs29 : Tryz.f29.results.toList = [.tmp 2] := by kernel_rfl
@[go_sem] theorem Tryz.pl_rs30 : Tryz.f30.results.toList = [.tmp 2] := by kernel_rfl
@[go_sem] theorem Tryz.pl_rs31 : Tryz.f31.results.toList = [.cell 6 76, .tmp 7] := by kernel_rfl
@[go_sem] theorem Tryz.pl_rs32 : Tryz.f32.results.toList = [.cell 6 46, .tmp 7] := by kernel_rfl
@[go_sem] theorem Tryz.pl_rs33 : Tryz.f33.results.toList = [.cell 4 46, .tmp 5] := by kernel_rfl
@[go_sem] theorem Tryz.pl_rs34 : Tryz.f34.results.toList = [.cell 2 46, .tmp 3] := by kernel_rfl
@[go_sem] theorem Tryz.pl_rs35 : Tryz.f35.results.toList = [.cell 6 46, .tmp 7] := by kernel_rfl
@[go_sem] theorem Tryz.pl_rs36 : Tryz.f36.results.toList = [.tmp 2] := by kernel_rfl
@[go_sem] theorem Tryz.pl_rs37 : Tryz.f37.results.toList = [.tmp 2] := by kernel_rfl
@[go_sem] theorem Tryz.pl_rs38 : Tryz.f38.results.toList = [.cell 2 42] := by kernel_rfl
@[go_sem] theorem Tryz.pl_rs39 : Tryz.f39.results.toList = [.cell 2 43] := by kernel_rfl
@[go_sem] theorem Tryz.pl_rs40 : Tryz.f40.results.toList = [.tmp 2] := by kernel_rfl
@[go_sem] theorem Tryz.pl_rs41 : Tryz.f41.results.toList = [.tmp 2] := by kernel_rfl
@[go_sem] theorem Tryz.pl_rs42 : Tryz.f42.results.toList = [.tmp 2] := by kernel_rfl
@[go_sem] theorem Tryz.pl_rs43 : Tryz.f43.results.toList = [.cell 2 46] := by kernel_rfl
@[go_sem] theorem Tryz.pl_rs44 : Tryz.f44.results.toList = [.cell 6 76, .tmp 7] := by kernel_rfl
@[go_sem] theorem Tryz.pl_rs45 : Tryz.f45.results.toList = [.cell 6 46, .tmp 7] := by kernel_rfl
@[go_sem] theorem Tryz.pl_rs46 : Tryz.f46.results.toList = [.cell 4 46, .tmp 5] := by kernel_rfl
@[go_sem] theorem Tryz.pl_rs47 : Tryz.f47.results.toList = [.cell 2 46, .tmp 3] := by kernel_rfl
@[go_sem] theorem Tryz.pl_rs48 : Tryz.f48.results.toList = [.cell 6 46, .tmp 7] := by kernel_rfl
@[go_sem] theorem Tryz.pl_rs49 : Tryz.f49.results.toList = [.tmp 2] := by kernel_rfl
@[go_sem] theorem Tryz.pl_rs50 : Tryz.f50.results.toList = [.tmp 2] := by kernel_rfl
@[go_sem] theorem Tryz.pl_rs51 : Tryz.f51.results.toList = [.tmp 4] := by kernel_rfl
@[go_sem] theorem Tryz.pl_rs52 : Tryz.f52.results.toList = [.tmp 4] := by kernel_rfl
@[go_sem] theorem Tryz.pl_rs53 : Tryz.f53.results.toList = [.tmp 4] := by kernel_rfl
@[go_sem] theorem Tryz.pl_rs54 : Tryz.f54.results.toList = [.tmp 4] := by kernel_rfl
@[go_sem] theorem Tryz.pl_rs55 : Tryz.f55.results.toList = [.tmp 4] := by kernel_rfl
@[go_sem] theorem Tryz.pl_rs56 : Tryz.f56.results.toList = [.tmp 4] := by kernel_rfl
@[go_sem] theorem Tryz.pl_rs57 : Tryz.f57.results.toList = [.tmp 4] := by kernel_rfl
@[go_sem] theorem Tryz.pl_rs58 : Tryz.f58.results.toList = [.tmp 4] := by kernel_rfl
@[go_sem] theorem Tryz.pl_rs59 : Tryz.f59.results.toList = [.tmp 4] := by kernel_rfl
@[go_sem] theorem Tryz.pl_rs60 : Tryz.f60.results.toList = [.tmp 4] := by kernel_rfl
@[go_sem] theorem Tryz.pl_rs61 : Tryz.f61.results.toList = [.tmp 4] := by kernel_rfl
@[go_sem] theorem Tryz.pl_rs62 : Tryz.f62.results.toList = [.cell 2 42] := by kernel_rfl
@[go_sem] theorem Tryz.pl_rs63 : Tryz.f63.results.toList = [.tmp 2] := by kernel_rfl
@[go_sem] theorem Tryz.pl_rs64 : Tryz.f64.results.toList = [.tmp 2] := by kernel_rfl
@[go_sem] theorem Tryz.pl_rs65 : Tryz.f65.results.toList = [.tmp 2] := by kernel_rfl
@[go_sem] theorem Tryz.pl_rs66 : Tryz.f66.results.toList = [.tmp 6] := by kernel_rfl
@[go_sem] theorem Tryz.pl_rs67 : Tryz.f67.results.toList = [.tmp 2] := by kernel_rfl
@[go_sem] theorem Tryz.pl_rs68 : Tryz.f68.results.toList = [.cell 4 42, .tmp 5] := by kernel_rfl
@[go_sem] theorem Tryz.pl_rs69 : Tryz.f69.results.toList = [.cell 4 43, .tmp 5] := by kernel_rfl
@[go_sem] theorem Tryz.pl_rs70 : Tryz.f70.results.toList = [.cell 2 42, .tmp 3] := by kernel_rfl
@[go_sem] theorem Tryz.pl_rs71 : Tryz.f71.results.toList = [.cell 2 42, .tmp 3] := by kernel_rfl
@[go_sem] theorem Tryz.pl_rs72 : Tryz.f72.results.toList = [.tmp 2] := by kernel_rfl
@[go_sem] theorem Tryz.pl_rs73 : Tryz.f73.results.toList = [.tmp 4, .tmp 5] := by kernel_rfl
@[go_sem] theorem Tryz.pl_rs74 : Tryz.f74.results.toList = [.tmp 2] := by kernel_rfl
@[go_sem] theorem Tryz.pl_rs75 : Tryz.f75.results.toList = [.tmp 6, .tmp 7] := by kernel_rfl
@[go_sem] theorem Tryz.pl_rs76 : Tryz.f76.results.toList = [.cell 2 39] := by kernel_rfl
@[go_sem] theorem Tryz.pl_rs77 : Tryz.f77.results.toList = [.tmp 2] := by kernel_rfl
@[go_sem] theorem Tryz.pl_rs78 : Tryz.f78.results.toList = [.cell 2 111] := by kernel_rfl
@[go_sem] theorem Tryz.pl_rs79 : Tryz.f79.results.toList = [.tmp 2] := by kernel_rfl
@[go_sem] theorem Tryz.pl_rs80 : Tryz.f80.results.toList = [.tmp 2] := by kernel_rfl
@[go_sem] theorem Tryz.pl_rs81 : Tryz.f81.results.toList = [.tmp 2] := by kernel_rfl
@[go_sem] theorem Tryz.pl_rs82 : Tryz.f82.results.toList = [.tmp 6] := by kernel_rfl
@[go_sem] theorem Tryz.pl_rs83 : Tryz.f83.results.toList = [.cell 2 42] := by kernel_rfl
@[go_sem] theorem Tryz.pl_rs84 : Tryz.f84.results.toList = [.tmp 2] := by kernel_rfl
@[go_sem] theorem Tryz.pl_rs85 : Tryz.f85.results.toList = [.tmp 2] := by kernel_rfl
@[go_sem] theorem Tryz.pl_rs86 : Tryz.f86.results.toList = [.cell 4 42, .tmp 5] := by kernel_rfl
@[go_sem] theorem Tryz.pl_rs87 : Tryz.f87.results.toList = [.cell 4 43, .tmp 5] := by kernel_rfl
@[go_sem] theorem Tryz.pl_rs88 : Tryz.f88.results.toList = [.cell 8 46, .tmp 9] := by kernel_rfl
@[go_sem] theorem Tryz.pl_rs89 : Tryz.f89.results.toList = [.cell 2 42, .tmp 3] := by kernel_rfl
@[go_sem] theorem Tryz.pl_rs90 : Tryz.f90.results.toList = [.cell 2 42, .tmp 3] := by kernel_rfl
@[go_sem] theorem Tryz.pl_rs91 : Tryz.f91.results.toList = [.tmp 2] := by kernel_rfl
@[go_sem] theorem Tryz.pl_rs92 : Tryz.f92.results.toList = [.tmp 2] := by kernel_rfl
@[go_sem] theorem Tryz.pl_rs93 : Tryz.f93.results.toList = [.tmp 4, .tmp 5] := by kernel_rfl
@[go_sem] theorem Tryz.pl_rs94 : Tryz.f94.results.toList = [.tmp 6, .tmp 7] := by kernel_rfl
@[go_sem] theorem Tryz.pl_rs95 : Tryz.f95.results.toList = [.tmp 4] := by kernel_rfl
@[go_sem] theorem Tryz.pl_rs96 : Tryz.f96.results.toList = [.tmp 4] := by kernel_rfl
@[go_sem] theorem Tryz.pl_rs97 : Tryz.f97.results.toList = [.tmp 4] := by kernel_rfl
@[go_sem] theorem Tryz.pl_rs98 : Tryz.f98.results.toList = [.tmp 4] := by kernel_rfl
@[go_sem] theorem Tryz.pl_rs99 : Tryz.f99.results.toList = [.tmp 4] := by kernel_rfl
@[go_sem] theorem Tryz.pl_rs100 : Tryz.f100.results.toList = [.tmp 2] := by kernel_rfl
@[go_sem] theorem Tryz.pl_rs101 : Tryz.f101.results.toList = [.tmp 2] := by kernel_rfl
@[go_sem] theorem Tryz.pl_rs102 : Tryz.f102.results.toList = [.tmp 6] := by kernel_rfl
@[go_sem] theorem Tryz.pl_rs103 : Tryz.f103.results.toList = [.cell 4 76, .tmp 5] := by kernel_rfl
@[go_sem] theorem Tryz.pl_rs104 : Tryz.f104.results.toList = [.tmp 6, .tmp 7] := by kernel_rfl
@[go_sem] theorem Tryz.pl_rs105 : Tryz.f105.results.toList = [.tmp 4] := by kernel_rfl
@[go_sem] theorem Tryz.pl_rs106 : Tryz.f106.results.toList = [.cell 2 37] := by kernel_rfl
@[go_sem] theorem Tryz.pl_rs107 : Tryz.f107.results.toList = [.cell 2 76] := by kernel_rfl
@[go_sem] theorem Tryz.pl_rs108 : Tryz.f108.results.toList = [.tmp 2] := by kernel_rfl
@[go_sem] theorem Tryz.pl_rs109 : Tryz.f109.results.toList = [.tmp 2] := by kernel_rfl
@[go_sem] theorem Tryz.pl_rs110 : Tryz.f110.results.toList = [.tmp 2] := by kernel_rfl
@[go_sem] theorem Tryz.pl_rs111 : Tryz.f111.results.toList = [.tmp 6] := by kernel_rfl
@[go_sem] theorem Tryz.pl_rs112 : Tryz.f112.results.toList = [.cell 4 76, .tmp 5] := by kernel_rfl
@[go_sem] theorem Tryz.pl_rs113 : Tryz.f113.results.toList = [.tmp 4, .tmp 5] := by kernel_rfl
@[go_sem] theorem Tryz.pl_rs114 : Tryz.f114.results.toList = [.tmp 4] := by kernel_rfl
@[go_sem] theorem Tryz.pl_rs115 : Tryz.f115.results.toList = [.tmp 6, .tmp 7] := by kernel_rfl
@[go_sem] theorem Tryz.pl_rs116 : Tryz.f116.results.toList = [.tmp 4] := by kernel_rfl
@[go_sem] theorem Tryz.pl_rs117 : Tryz.f117.results.toList = [.tmp 4] := by kernel_rfl
@[go_sem] theorem Tryz.pl_rs118 : Tryz.f118.results.toList = [.tmp 6] := by kernel_rfl
@[go_sem] theorem Tryz.pl_rs119 : Tryz.f119.results.toList = [.tmp 2] := by kernel_rfl
@[go_sem] theorem Tryz.pl_rs120 : Tryz.f120.results.toList = [.tmp 2] := by kernel_rfl
@[go_sem] theorem Tryz.pl_rs121 : Tryz.f121.results.toList = [.tmp 6] := by kernel_rfl
@[go_sem] theorem Tryz.pl_rs122 : Tryz.f122.results.toList = [.tmp 6] := by kernel_rfl
@[go_sem] theorem Tryz.pl_rs123 : Tryz.f123.results.toList = [.tmp 2] := by kernel_rfl
@[go_sem] theorem Tryz.pl_rs124 : Tryz.f124.results.toList = [.tmp 2] := by kernel_rfl
@[go_sem] theorem Tryz.pl_rs125 : Tryz.f125.results.toList = [.tmp 2] := by kernel_rfl
@[go_sem] theorem Tryz.pl_rs126 : Tryz.f126.results.toList = [.tmp 4] := by kernel_rfl
@[go_sem] theorem Tryz.pl_rs127 : Tryz.f127.results.toList = [.tmp 4] := by kernel_rfl
@[go_sem] theorem Tryz.pl_rs128 : Tryz.f128.results.toList = [.tmp 6] := by kernel_rfl
@[go_sem] theorem Tryz.pl_rs129 : Tryz.f129.results.toList = [.tmp 4] := by kernel_rfl
@[go_sem] theorem Tryz.pl_rs130 : Tryz.f130.results.toList = [.tmp 4, .tmp 5] := by kernel_rfl
@[go_sem] theorem Tryz.pl_rs131 : Tryz.f131.results.toList = [.tmp 2] := by kernel_rfl
@[go_sem] theorem Tryz.pl_rs132 : Tryz.f132.results.toList = [.tmp 4] := by kernel_rfl
@[go_sem] theorem Tryz.pl_rs133 : Tryz.f133.results.toList = [.tmp 4] := by kernel_rfl
@[go_sem] theorem Tryz.pl_rs134 : Tryz.f134.results.toList = [.tmp 4] := by kernel_rfl
@[go_sem] theorem Tryz.pl_rs135 : Tryz.f135.results.toList = [.tmp 6] := by kernel_rfl
@[go_sem] theorem Tryz.pl_rs136 : Tryz.f136.results.toList = [.tmp 4] := by kernel_rfl
@[go_sem] theorem Tryz.pl_rs137 : Tryz.f137.results.toList = [.tmp 4] := by kernel_rfl
@[go_sem] theorem Tryz.pl_rs138 : Tryz.f138.results.toList = [.tmp 6] := by kernel_rfl
@[go_sem] theorem Tryz.pl_rs139 : Tryz.f139.results.toList = [.tmp 4, .tmp 5] := by kernel_rfl
@[go_sem] theorem Tryz.pl_rs140 : Tryz.f140.results.toList = [] := by kernel_rfl
@[go_sem] theorem Tryz.pl_rs141 : Tryz.f141.results.toList = [] := by kernel_rfl
@[go_sem] theorem Tryz.pl_rs142 : Tryz.f142.results.toList = [] := by kernel_rfl
@[go_sem] theorem Tryz.pl_rs143 : Tryz.f143.results.toList = [] := by kernel_rfl
@[go_sem] theorem Tryz.pl_rs144 : Tryz.f144.results.toList = [] := by kernel_rfl
@[go_sem] theorem Tryz.pl_rs145 : Tryz.f145.results.toList = [] := by kernel_rfl
@[go_sem] theorem Tryz.pl_rs146 : Tryz.f146.results.toList = [] := by kernel_rfl
@[go_sem] theorem Tryz.pl_rs147 : Tryz.f147.results.toList = [] := by kernel_rfl
@[go_sem] theorem Tryz.pl_rs148 : Tryz.f148.results.toList = [] := by kernel_rfl
@[go_sem] theorem Tryz.pl_rs149 : Tryz.f149.results.toList = [] := by kernel_rfl
@[go_sem] theorem Tryz.pl_rs150 : Tryz.f150.results.toList = [] := by kernel_rfl
@[go_sem] theorem Tryz.pl_rs151 : Tryz.f151.results.toList = [] := by kernel_rfl
@[go_sem] theorem Tryz.pl_rs152 : Tryz.f152.results.toList = [] := by kernel_rfl
@[go_sem] theorem Tryz.pl_rs153 : Tryz.f153.results.toList = [] := by kernel_rfl
@[go_sem] theorem Tryz.pl_rs154 : Tryz.f154.results.toList = [] := by kernel_rfl
@[go_sem] theorem Tryz.pl_rs155 : Tryz.f155.results.toList = [] := by kernel_rfl
theorem Tryz.pl_follows : Tryz.prog.follows .mixedOrders = true := by kernel_rfl
end Go.Proofs
