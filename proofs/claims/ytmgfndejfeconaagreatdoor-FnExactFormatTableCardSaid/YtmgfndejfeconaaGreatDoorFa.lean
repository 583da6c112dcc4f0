/-
  Facts on the types of this translation: cells, places, zero values. Printed by a program.
-/
import Derived.Test.YtmgfndejfeconaaGreatDoorRows
import Derived.Test.YtmgfndejfeconaaGreatDoorEf
import Derived.KernelRfl
namespace Go.Proofs
open Go.PL
@[go_sem] theorem Tryz.pl_agg2 : aggN Tryz.prog 2 = some (none) := by kernel_rfl
@[go_sem] theorem Tryz.pl_sz2 : szOf Tryz.prog 2 = some 1 := by kernel_rfl
@[go_sem] theorem Tryz.pl_zero2 : zeroCs Tryz.prog 2 = some [.int .i64 0] := by kernel_rfl
@[go_sem] theorem Tryz.pl_und2 : Tryz.prog.underlying 2 = some (.int .i64) := by kernel_rfl
@[go_sem] theorem Tryz.pl_agg3 : aggN Tryz.prog 3 = some (none) := by kernel_rfl
@[go_sem] theorem Tryz.pl_sz3 : szOf Tryz.prog 3 = some 1 := by kernel_rfl
@[go_sem] theorem Tryz.pl_zero3 : zeroCs Tryz.prog 3 = some [.int .i64 0] := by kernel_rfl
@[go_sem] theorem Tryz.pl_und3 : Tryz.prog.underlying 3 = some (.int .i64) := by kernel_rfl
@[go_sem] theorem Tryz.pl_agg4 : aggN Tryz.prog 4 = some (none) := by kernel_rfl
@[go_sem] theorem Tryz.pl_sz4 : szOf Tryz.prog 4 = some 1 := by kernel_rfl
@[go_sem] theorem Tryz.pl_zero4 : zeroCs Tryz.prog 4 = some [.bool false] := by kernel_rfl
@[go_sem] theorem Tryz.pl_und4 : Tryz.prog.underlying 4 = some .bool := by kernel_rfl
@[go_sem] theorem Tryz.pl_agg5 : aggN Tryz.prog 5 = some (none) := by kernel_rfl
@[go_sem] theorem Tryz.pl_sz5 : szOf Tryz.prog 5 = some 1 := by kernel_rfl
@[go_sem] theorem Tryz.pl_zero5 : zeroCs Tryz.prog 5 = some [.int .u8 0] := by kernel_rfl
@[go_sem] theorem Tryz.pl_und5 : Tryz.prog.underlying 5 = some (.int .u8) := by kernel_rfl
@[go_sem] theorem Tryz.pl_agg6 : aggN Tryz.prog 6 = some (none) := by kernel_rfl
@[go_sem] theorem Tryz.pl_sz6 : szOf Tryz.prog 6 = some 1 := by kernel_rfl
@[go_sem] theorem Tryz.pl_zero6 : zeroCs Tryz.prog 6 = some [.int .u8 0] := by kernel_rfl
@[go_sem] theorem Tryz.pl_und6 : Tryz.prog.underlying 6 = some (.int .u8) := by kernel_rfl
@[go_sem] theorem Tryz.pl_agg7 : aggN Tryz.prog 7 = some (some 4) := by kernel_rfl
@[go_sem] theorem Tryz.pl_sz7 : szOf Tryz.prog 7 = some 4 := by kernel_rfl
@[go_sem] theorem Tryz.pl_zero7 : zeroCs Tryz.prog 7 = some [.int .i64 0, .int .i64 0, .bool false, .int .u8 0] := by kernel_rfl
@[go_sem] theorem Tryz.pl_str7 : structP Tryz.prog 7 = some ([.int .i64 0, .int .i64 0, .bool false, .int .u8 0], [(0, 1), (1, 1), (2, 1), (3, 1)]) := by kernel_rfl
@[go_sem] theorem Tryz.pl_off7x0 : fOff Tryz.prog 7 0 = some (0, 1) := by kernel_rfl
@[go_sem] theorem Tryz.pl_part7x0 : fPart Tryz.prog 7 0 = some (0, none) := by kernel_rfl
@[go_sem] theorem Tryz.pl_off7x1 : fOff Tryz.prog 7 1 = some (1, 1) := by kernel_rfl
@[go_sem] theorem Tryz.pl_part7x1 : fPart Tryz.prog 7 1 = some (1, none) := by kernel_rfl
@[go_sem] theorem Tryz.pl_off7x2 : fOff Tryz.prog 7 2 = some (2, 1) := by kernel_rfl
@[go_sem] theorem Tryz.pl_part7x2 : fPart Tryz.prog 7 2 = some (2, none) := by kernel_rfl
@[go_sem] theorem Tryz.pl_off7x3 : fOff Tryz.prog 7 3 = some (3, 1) := by kernel_rfl
@[go_sem] theorem Tryz.pl_part7x3 : fPart Tryz.prog 7 3 = some (3, none) := by kernel_rfl
@[go_sem] theorem Tryz.pl_agg8 : aggN Tryz.prog 8 = some (some 4) := by kernel_rfl
@[go_sem] theorem Tryz.pl_sz8 : szOf Tryz.prog 8 = some 4 := by kernel_rfl
@[go_sem] theorem Tryz.pl_zero8 : zeroCs Tryz.prog 8 = some [.int .i64 0, .int .i64 0, .bool false, .int .u8 0] := by kernel_rfl
@[go_sem] theorem Tryz.pl_str8 : structP Tryz.prog 8 = some ([.int .i64 0, .int .i64 0, .bool false, .int .u8 0], [(0, 1), (1, 1), (2, 1), (3, 1)]) := by kernel_rfl
@[go_sem] theorem Tryz.pl_off8x0 : fOff Tryz.prog 8 0 = some (0, 1) := by kernel_rfl
@[go_sem] theorem Tryz.pl_part8x0 : fPart Tryz.prog 8 0 = some (0, none) := by kernel_rfl
@[go_sem] theorem Tryz.pl_off8x1 : fOff Tryz.prog 8 1 = some (1, 1) := by kernel_rfl
@[go_sem] theorem Tryz.pl_part8x1 : fPart Tryz.prog 8 1 = some (1, none) := by kernel_rfl
@[go_sem] theorem Tryz.pl_off8x2 : fOff Tryz.prog 8 2 = some (2, 1) := by kernel_rfl
@[go_sem] theorem Tryz.pl_part8x2 : fPart Tryz.prog 8 2 = some (2, none) := by kernel_rfl
@[go_sem] theorem Tryz.pl_off8x3 : fOff Tryz.prog 8 3 = some (3, 1) := by kernel_rfl
@[go_sem] theorem Tryz.pl_part8x3 : fPart Tryz.prog 8 3 = some (3, none) := by kernel_rfl
@[go_sem] theorem Tryz.pl_agg9 : aggN Tryz.prog 9 = some (none) := by kernel_rfl
@[go_sem] theorem Tryz.pl_sz9 : szOf Tryz.prog 9 = some 1 := by kernel_rfl
@[go_sem] theorem Tryz.pl_zero9 : zeroCs Tryz.prog 9 = some [.string .empty] := by kernel_rfl
@[go_sem] theorem Tryz.pl_und9 : Tryz.prog.underlying 9 = some .string := by kernel_rfl
@[go_sem] theorem Tryz.pl_agg10 : aggN Tryz.prog 10 = some (none) := by kernel_rfl
@[go_sem] theorem Tryz.pl_sz10 : szOf Tryz.prog 10 = some 1 := by kernel_rfl
@[go_sem] theorem Tryz.pl_zero10 : zeroCs Tryz.prog 10 = some [.string .empty] := by kernel_rfl
@[go_sem] theorem Tryz.pl_und10 : Tryz.prog.underlying 10 = some .string := by kernel_rfl
@[go_sem] theorem Tryz.pl_agg11 : aggN Tryz.prog 11 = some (none) := by kernel_rfl
@[go_sem] theorem Tryz.pl_sz11 : szOf Tryz.prog 11 = some 1 := by kernel_rfl
@[go_sem] theorem Tryz.pl_zero11 : zeroCs Tryz.prog 11 = some [.string .empty] := by kernel_rfl
@[go_sem] theorem Tryz.pl_und11 : Tryz.prog.underlying 11 = some .string := by kernel_rfl
@[go_sem] theorem Tryz.pl_agg12 : aggN Tryz.prog 12 = some (none) := by kernel_rfl
@[go_sem] theorem Tryz.pl_sz12 : szOf Tryz.prog 12 = some 1 := by kernel_rfl
@[go_sem] theorem Tryz.pl_zero12 : zeroCs Tryz.prog 12 = some [.int .u64 0] := by kernel_rfl
@[go_sem] theorem Tryz.pl_und12 : Tryz.prog.underlying 12 = some (.int .u64) := by kernel_rfl
@[go_sem] theorem Tryz.pl_agg13 : aggN Tryz.prog 13 = some (some 2) := by kernel_rfl
@[go_sem] theorem Tryz.pl_sz13 : szOf Tryz.prog 13 = some 2 := by kernel_rfl
@[go_sem] theorem Tryz.pl_zero13 : zeroCs Tryz.prog 13 = some [.string .empty, .int .u64 0] := by kernel_rfl
@[go_sem] theorem Tryz.pl_str13 : structP Tryz.prog 13 = some ([.string .empty, .int .u64 0], [(0, 1), (1, 1)]) := by kernel_rfl
@[go_sem] theorem Tryz.pl_off13x0 : fOff Tryz.prog 13 0 = some (0, 1) := by kernel_rfl
@[go_sem] theorem Tryz.pl_part13x0 : fPart Tryz.prog 13 0 = some (0, none) := by kernel_rfl
@[go_sem] theorem Tryz.pl_off13x1 : fOff Tryz.prog 13 1 = some (1, 1) := by kernel_rfl
@[go_sem] theorem Tryz.pl_part13x1 : fPart Tryz.prog 13 1 = some (1, none) := by kernel_rfl
@[go_sem] theorem Tryz.pl_agg14 : aggN Tryz.prog 14 = some (some 2) := by kernel_rfl
@[go_sem] theorem Tryz.pl_sz14 : szOf Tryz.prog 14 = some 2 := by kernel_rfl
@[go_sem] theorem Tryz.pl_zero14 : zeroCs Tryz.prog 14 = some [.string .empty, .int .u64 0] := by kernel_rfl
@[go_sem] theorem Tryz.pl_str14 : structP Tryz.prog 14 = some ([.string .empty, .int .u64 0], [(0, 1), (1, 1)]) := by kernel_rfl
@[go_sem] theorem Tryz.pl_off14x0 : fOff Tryz.prog 14 0 = some (0, 1) := by kernel_rfl
@[go_sem] theorem Tryz.pl_part14x0 : fPart Tryz.prog 14 0 = some (0, none) := by kernel_rfl
@[go_sem] theorem Tryz.pl_off14x1 : fOff Tryz.prog 14 1 = some (1, 1) := by kernel_rfl
@[go_sem] theorem Tryz.pl_part14x1 : fPart Tryz.prog 14 1 = some (1, none) := by kernel_rfl
@[go_sem] theorem Tryz.pl_agg15 : aggN Tryz.prog 15 = some (none) := by kernel_rfl
@[go_sem] theorem Tryz.pl_sz15 : szOf Tryz.prog 15 = some 1 := by kernel_rfl
@[go_sem] theorem Tryz.pl_zero15 : zeroCs Tryz.prog 15 = some [.pointer none] := by kernel_rfl
@[go_sem] theorem Tryz.pl_agg16 : aggN Tryz.prog 16 = some (none) := by kernel_rfl
@[go_sem] theorem Tryz.pl_sz16 : szOf Tryz.prog 16 = some 1 := by kernel_rfl
@[go_sem] theorem Tryz.pl_zero16 : zeroCs Tryz.prog 16 = some [.pointer none] := by kernel_rfl
@[go_sem] theorem Tryz.pl_agg17 : aggN Tryz.prog 17 = some (none) := by kernel_rfl
@[go_sem] theorem Tryz.pl_sz17 : szOf Tryz.prog 17 = some 1 := by kernel_rfl
@[go_sem] theorem Tryz.pl_zero17 : zeroCs Tryz.prog 17 = some [.pointer none] := by kernel_rfl
@[go_sem] theorem Tryz.pl_agg18 : aggN Tryz.prog 18 = some (some 1) := by kernel_rfl
@[go_sem] theorem Tryz.pl_sz18 : szOf Tryz.prog 18 = some 1 := by kernel_rfl
@[go_sem] theorem Tryz.pl_zero18 : zeroCs Tryz.prog 18 = some [.pointer none] := by kernel_rfl
@[go_sem] theorem Tryz.pl_str18 : structP Tryz.prog 18 = some ([.pointer none], [(0, 1)]) := by kernel_rfl
@[go_sem] theorem Tryz.pl_off18x0 : fOff Tryz.prog 18 0 = some (0, 1) := by kernel_rfl
@[go_sem] theorem Tryz.pl_part18x0 : fPart Tryz.prog 18 0 = some (0, none) := by kernel_rfl
@[go_sem] theorem Tryz.pl_agg19 : aggN Tryz.prog 19 = some (some 1) := by kernel_rfl
@[go_sem] theorem Tryz.pl_sz19 : szOf Tryz.prog 19 = some 1 := by kernel_rfl
@[go_sem] theorem Tryz.pl_zero19 : zeroCs Tryz.prog 19 = some [.pointer none] := by kernel_rfl
@[go_sem] theorem Tryz.pl_str19 : structP Tryz.prog 19 = some ([.pointer none], [(0, 1)]) := by kernel_rfl
@[go_sem] theorem Tryz.pl_off19x0 : fOff Tryz.prog 19 0 = some (0, 1) := by kernel_rfl
@[go_sem] theorem Tryz.pl_part19x0 : fPart Tryz.prog 19 0 = some (0, none) := by kernel_rfl
@[go_sem] theorem Tryz.pl_agg21 : aggN Tryz.prog 21 = some (none) := by kernel_rfl
@[go_sem] theorem Tryz.pl_sz21 : szOf Tryz.prog 21 = some 1 := by kernel_rfl
@[go_sem] theorem Tryz.pl_zero21 : zeroCs Tryz.prog 21 = some [.int .i32 0] := by kernel_rfl
@[go_sem] theorem Tryz.pl_und21 : Tryz.prog.underlying 21 = some (.int .i32) := by kernel_rfl
@[go_sem] theorem Tryz.pl_agg22 : aggN Tryz.prog 22 = some (some 3) := by kernel_rfl
@[go_sem] theorem Tryz.pl_sz22 : szOf Tryz.prog 22 = some 3 := by kernel_rfl
@[go_sem] theorem Tryz.pl_zero22 : zeroCs Tryz.prog 22 = some [.int .i64 0, .int .i64 0, .int .i64 0] := by kernel_rfl
@[go_sem] theorem Tryz.pl_str22 : structP Tryz.prog 22 = some ([.int .i64 0, .int .i64 0, .int .i64 0], [(0, 1), (1, 1), (2, 1)]) := by kernel_rfl
@[go_sem] theorem Tryz.pl_off22x0 : fOff Tryz.prog 22 0 = some (0, 1) := by kernel_rfl
@[go_sem] theorem Tryz.pl_part22x0 : fPart Tryz.prog 22 0 = some (0, none) := by kernel_rfl
@[go_sem] theorem Tryz.pl_off22x1 : fOff Tryz.prog 22 1 = some (1, 1) := by kernel_rfl
@[go_sem] theorem Tryz.pl_part22x1 : fPart Tryz.prog 22 1 = some (1, none) := by kernel_rfl
@[go_sem] theorem Tryz.pl_off22x2 : fOff Tryz.prog 22 2 = some (2, 1) := by kernel_rfl
@[go_sem] theorem Tryz.pl_part22x2 : fPart Tryz.prog 22 2 = some (2, none) := by kernel_rfl
@[go_sem] theorem Tryz.pl_agg23 : aggN Tryz.prog 23 = some (some 3) := by kernel_rfl
@[go_sem] theorem Tryz.pl_sz23 : szOf Tryz.prog 23 = some 3 := by kernel_rfl
@[go_sem] theorem Tryz.pl_zero23 : zeroCs Tryz.prog 23 = some [.int .i64 0, .int .i64 0, .int .i64 0] := by kernel_rfl
@[go_sem] theorem Tryz.pl_str23 : structP Tryz.prog 23 = some ([.int .i64 0, .int .i64 0, .int .i64 0], [(0, 1), (1, 1), (2, 1)]) := by kernel_rfl
@[go_sem] theorem Tryz.pl_off23x0 : fOff Tryz.prog 23 0 = some (0, 1) := by kernel_rfl
@[go_sem] theorem Tryz.pl_part23x0 : fPart Tryz.prog 23 0 = some (0, none) := by kernel_rfl
@[go_sem] theorem Tryz.pl_off23x1 : fOff Tryz.prog 23 1 = some (1, 1) := by kernel_rfl
@[go_sem] theorem Tryz.pl_part23x1 : fPart Tryz.prog 23 1 = some (1, none) := by kernel_rfl
@[go_sem] theorem Tryz.pl_off23x2 : fOff Tryz.prog 23 2 = some (2, 1) := by kernel_rfl
@[go_sem] theorem Tryz.pl_part23x2 : fPart Tryz.prog 23 2 = some (2, none) := by kernel_rfl
@[go_sem] theorem Tryz.pl_agg24 : aggN Tryz.prog 24 = some (some 5) := by kernel_rfl
@[go_sem] theorem Tryz.pl_sz24 : szOf Tryz.prog 24 = some 5 := by kernel_rfl
@[go_sem] theorem Tryz.pl_zero24 : zeroCs Tryz.prog 24 = some [.int .i64 0, .int .i64 0, .int .i64 0, .int .i64 0, .int .i64 0] := by kernel_rfl
@[go_sem] theorem Tryz.pl_str24 : structP Tryz.prog 24 = some ([.int .i64 0, .int .i64 0, .int .i64 0, .int .i64 0, .int .i64 0], [(0, 3), (3, 1), (4, 1)]) := by kernel_rfl
@[go_sem] theorem Tryz.pl_off24x0 : fOff Tryz.prog 24 0 = some (0, 3) := by kernel_rfl
@[go_sem] theorem Tryz.pl_part24x0 : fPart Tryz.prog 24 0 = some (0, some 3) := by kernel_rfl
@[go_sem] theorem Tryz.pl_off24x1 : fOff Tryz.prog 24 1 = some (3, 1) := by kernel_rfl
@[go_sem] theorem Tryz.pl_part24x1 : fPart Tryz.prog 24 1 = some (3, none) := by kernel_rfl
@[go_sem] theorem Tryz.pl_off24x2 : fOff Tryz.prog 24 2 = some (4, 1) := by kernel_rfl
@[go_sem] theorem Tryz.pl_part24x2 : fPart Tryz.prog 24 2 = some (4, none) := by kernel_rfl
@[go_sem] theorem Tryz.pl_agg25 : aggN Tryz.prog 25 = some (some 5) := by kernel_rfl
@[go_sem] theorem Tryz.pl_sz25 : szOf Tryz.prog 25 = some 5 := by kernel_rfl
@[go_sem] theorem Tryz.pl_zero25 : zeroCs Tryz.prog 25 = some [.int .i64 0, .int .i64 0, .int .i64 0, .int .i64 0, .int .i64 0] := by kernel_rfl
@[go_sem] theorem Tryz.pl_str25 : structP Tryz.prog 25 = some ([.int .i64 0, .int .i64 0, .int .i64 0, .int .i64 0, .int .i64 0], [(0, 3), (3, 1), (4, 1)]) := by kernel_rfl
@[go_sem] theorem Tryz.pl_off25x0 : fOff Tryz.prog 25 0 = some (0, 3) := by kernel_rfl
@[go_sem] theorem Tryz.pl_part25x0 : fPart Tryz.prog 25 0 = some (0, some 3) := by kernel_rfl
@[go_sem] theorem Tryz.pl_off25x1 : fOff Tryz.prog 25 1 = some (3, 1) := by kernel_rfl
@[go_sem] theorem Tryz.pl_part25x1 : fPart Tryz.prog 25 1 = some (3, none) := by kernel_rfl
@[go_sem] theorem Tryz.pl_off25x2 : fOff Tryz.prog 25 2 = some (4, 1) := by kernel_rfl
@[go_sem] theorem Tryz.pl_part25x2 : fPart Tryz.prog 25 2 = some (4, none) := by kernel_rfl
@[go_sem] theorem Tryz.pl_agg26 : aggN Tryz.prog 26 = some (none) := by kernel_rfl
@[go_sem] theorem Tryz.pl_sz26 : szOf Tryz.prog 26 = some 1 := by kernel_rfl
@[go_sem] theorem Tryz.pl_zero26 : zeroCs Tryz.prog 26 = some [.slice none 0 0] := by kernel_rfl
@[go_sem] theorem Tryz.pl_und26 : Tryz.prog.underlying 26 = some (.slice 101) := by kernel_rfl
@[go_sem] theorem Tryz.pl_zv26 : zeroV Tryz.prog 101 = some (.agg #[.int .i64 0, .int .i64 0, .int .i64 0]) := by kernel_rfl
@[go_sem] theorem Tryz.pl_esz26 : eSz Tryz.prog 26 = some (101, 3) := by kernel_rfl
@[go_sem] theorem Tryz.pl_einf26 : eInf Tryz.prog 26 = some (101, 3, 24) := by kernel_rfl
@[go_sem] theorem Tryz.pl_agg27 : aggN Tryz.prog 27 = some (some 8) := by kernel_rfl
@[go_sem] theorem Tryz.pl_sz27 : szOf Tryz.prog 27 = some 8 := by kernel_rfl
@[go_sem] theorem Tryz.pl_zero27 : zeroCs Tryz.prog 27 = some [.int .i64 0, .int .i64 0, .int .i64 0, .int .i64 0, .int .i64 0, .slice none 0 0, .int .i64 0, .int .i64 0] := by kernel_rfl
@[go_sem] theorem Tryz.pl_str27 : structP Tryz.prog 27 = some ([.int .i64 0, .int .i64 0, .int .i64 0, .int .i64 0, .int .i64 0, .slice none 0 0, .int .i64 0, .int .i64 0], [(0, 5), (5, 1), (6, 1), (7, 1)]) := by kernel_rfl
@[go_sem] theorem Tryz.pl_off27x0 : fOff Tryz.prog 27 0 = some (0, 5) := by kernel_rfl
@[go_sem] theorem Tryz.pl_part27x0 : fPart Tryz.prog 27 0 = some (0, some 5) := by kernel_rfl
@[go_sem] theorem Tryz.pl_off27x1 : fOff Tryz.prog 27 1 = some (5, 1) := by kernel_rfl
@[go_sem] theorem Tryz.pl_part27x1 : fPart Tryz.prog 27 1 = some (5, none) := by kernel_rfl
@[go_sem] theorem Tryz.pl_off27x2 : fOff Tryz.prog 27 2 = some (6, 1) := by kernel_rfl
@[go_sem] theorem Tryz.pl_part27x2 : fPart Tryz.prog 27 2 = some (6, none) := by kernel_rfl
@[go_sem] theorem Tryz.pl_off27x3 : fOff Tryz.prog 27 3 = some (7, 1) := by kernel_rfl
@[go_sem] theorem Tryz.pl_part27x3 : fPart Tryz.prog 27 3 = some (7, none) := by kernel_rfl
@[go_sem] theorem Tryz.pl_agg28 : aggN Tryz.prog 28 = some (some 8) := by kernel_rfl
@[go_sem] theorem Tryz.pl_sz28 : szOf Tryz.prog 28 = some 8 := by kernel_rfl
@[go_sem] theorem Tryz.pl_zero28 : zeroCs Tryz.prog 28 = some [.int .i64 0, .int .i64 0, .int .i64 0, .int .i64 0, .int .i64 0, .slice none 0 0, .int .i64 0, .int .i64 0] := by kernel_rfl
@[go_sem] theorem Tryz.pl_str28 : structP Tryz.prog 28 = some ([.int .i64 0, .int .i64 0, .int .i64 0, .int .i64 0, .int .i64 0, .slice none 0 0, .int .i64 0, .int .i64 0], [(0, 5), (5, 1), (6, 1), (7, 1)]) := by kernel_rfl
@[go_sem] theorem Tryz.pl_off28x0 : fOff Tryz.prog 28 0 = some (0, 5) := by kernel_rfl
@[go_sem] theorem Tryz.pl_part28x0 : fPart Tryz.prog 28 0 = some (0, some 5) := by kernel_rfl
@[go_sem] theorem Tryz.pl_off28x1 : fOff Tryz.prog 28 1 = some (5, 1) := by kernel_rfl
@[go_sem] theorem Tryz.pl_part28x1 : fPart Tryz.prog 28 1 = some (5, none) := by kernel_rfl
@[go_sem] theorem Tryz.pl_off28x2 : fOff Tryz.prog 28 2 = some (6, 1) := by kernel_rfl
@[go_sem] theorem Tryz.pl_part28x2 : fPart Tryz.prog 28 2 = some (6, none) := by kernel_rfl
@[go_sem] theorem Tryz.pl_off28x3 : fOff Tryz.prog 28 3 = some (7, 1) := by kernel_rfl
@[go_sem] theorem Tryz.pl_part28x3 : fPart Tryz.prog 28 3 = some (7, none) := by kernel_rfl
@[go_sem] theorem Tryz.pl_agg29 : aggN Tryz.prog 29 = some (some 3) := by kernel_rfl
@[go_sem] theorem Tryz.pl_sz29 : szOf Tryz.prog 29 = some 3 := by kernel_rfl
@[go_sem] theorem Tryz.pl_zero29 : zeroCs Tryz.prog 29 = some [.int .i64 0, .int .i64 0, .int .i64 0] := by kernel_rfl
@[go_sem] theorem Tryz.pl_str29 : structP Tryz.prog 29 = some ([.int .i64 0, .int .i64 0, .int .i64 0], [(0, 1), (1, 1), (2, 1)]) := by kernel_rfl
@[go_sem] theorem Tryz.pl_off29x0 : fOff Tryz.prog 29 0 = some (0, 1) := by kernel_rfl
@[go_sem] theorem Tryz.pl_part29x0 : fPart Tryz.prog 29 0 = some (0, none) := by kernel_rfl
@[go_sem] theorem Tryz.pl_off29x1 : fOff Tryz.prog 29 1 = some (1, 1) := by kernel_rfl
@[go_sem] theorem Tryz.pl_part29x1 : fPart Tryz.prog 29 1 = some (1, none) := by kernel_rfl
@[go_sem] theorem Tryz.pl_off29x2 : fOff Tryz.prog 29 2 = some (2, 1) := by kernel_rfl
@[go_sem] theorem Tryz.pl_part29x2 : fPart Tryz.prog 29 2 = some (2, none) := by kernel_rfl
@[go_sem] theorem Tryz.pl_agg30 : aggN Tryz.prog 30 = some (some 3) := by kernel_rfl
@[go_sem] theorem Tryz.pl_sz30 : szOf Tryz.prog 30 = some 3 := by kernel_rfl
@[go_sem] theorem Tryz.pl_zero30 : zeroCs Tryz.prog 30 = some [.int .i64 0, .int .i64 0, .int .i64 0] := by kernel_rfl
@[go_sem] theorem Tryz.pl_str30 : structP Tryz.prog 30 = some ([.int .i64 0, .int .i64 0, .int .i64 0], [(0, 1), (1, 1), (2, 1)]) := by kernel_rfl
@[go_sem] theorem Tryz.pl_off30x0 : fOff Tryz.prog 30 0 = some (0, 1) := by kernel_rfl
@[go_sem] theorem Tryz.pl_part30x0 : fPart Tryz.prog 30 0 = some (0, none) := by kernel_rfl
@[go_sem] theorem Tryz.pl_off30x1 : fOff Tryz.prog 30 1 = some (1, 1) := by kernel_rfl
@[go_sem] theorem Tryz.pl_part30x1 : fPart Tryz.prog 30 1 = some (1, none) := by kernel_rfl
@[go_sem] theorem Tryz.pl_off30x2 : fOff Tryz.prog 30 2 = some (2, 1) := by kernel_rfl
@[go_sem] theorem Tryz.pl_part30x2 : fPart Tryz.prog 30 2 = some (2, none) := by kernel_rfl
@[go_sem] theorem Tryz.pl_agg31 : aggN Tryz.prog 31 = some (none) := by kernel_rfl
@[go_sem] theorem Tryz.pl_sz31 : szOf Tryz.prog 31 = some 1 := by kernel_rfl
@[go_sem] theorem Tryz.pl_zero31 : zeroCs Tryz.prog 31 = some [.slice none 0 0] := by kernel_rfl
@[go_sem] theorem Tryz.pl_und31 : Tryz.prog.underlying 31 = some (.slice 88) := by kernel_rfl
@[go_sem] theorem Tryz.pl_zv31 : zeroV Tryz.prog 88 = some (.agg #[.int .i64 0, .int .i64 0, .int .i64 0, .int .i64 0]) := by kernel_rfl
@[go_sem] theorem Tryz.pl_esz31 : eSz Tryz.prog 31 = some (88, 4) := by kernel_rfl
@[go_sem] theorem Tryz.pl_einf31 : eInf Tryz.prog 31 = some (88, 4, 32) := by kernel_rfl
@[go_sem] theorem Tryz.pl_agg32 : aggN Tryz.prog 32 = some (some 13) := by kernel_rfl
@[go_sem] theorem Tryz.pl_sz32 : szOf Tryz.prog 32 = some 13 := by kernel_rfl
@[go_sem] theorem Tryz.pl_zero32 : zeroCs Tryz.prog 32 = some [.int .i64 0, .int .i64 0, .int .i64 0, .int .i64 0, .int .i64 0, .slice none 0 0, .int .i64 0, .int .i64 0, .int .i64 0, .int .i64 0, .int .i64 0, .int .i64 0, .slice none 0 0] := by kernel_rfl
@[go_sem] theorem Tryz.pl_str32 : structP Tryz.prog 32 = some ([.int .i64 0, .int .i64 0, .int .i64 0, .int .i64 0, .int .i64 0, .slice none 0 0, .int .i64 0, .int .i64 0, .int .i64 0, .int .i64 0, .int .i64 0, .int .i64 0, .slice none 0 0], [(0, 8), (8, 3), (11, 1), (12, 1)]) := by kernel_rfl
@[go_sem] theorem Tryz.pl_off32x0 : fOff Tryz.prog 32 0 = some (0, 8) := by kernel_rfl
@[go_sem] theorem Tryz.pl_part32x0 : fPart Tryz.prog 32 0 = some (0, some 8) := by kernel_rfl
@[go_sem] theorem Tryz.pl_off32x1 : fOff Tryz.prog 32 1 = some (8, 3) := by kernel_rfl
@[go_sem] theorem Tryz.pl_part32x1 : fPart Tryz.prog 32 1 = some (8, some 3) := by kernel_rfl
@[go_sem] theorem Tryz.pl_off32x2 : fOff Tryz.prog 32 2 = some (11, 1) := by kernel_rfl
@[go_sem] theorem Tryz.pl_part32x2 : fPart Tryz.prog 32 2 = some (11, none) := by kernel_rfl
@[go_sem] theorem Tryz.pl_off32x3 : fOff Tryz.prog 32 3 = some (12, 1) := by kernel_rfl
@[go_sem] theorem Tryz.pl_part32x3 : fPart Tryz.prog 32 3 = some (12, none) := by kernel_rfl
@[go_sem] theorem Tryz.pl_agg33 : aggN Tryz.prog 33 = some (some 13) := by kernel_rfl
@[go_sem] theorem Tryz.pl_sz33 : szOf Tryz.prog 33 = some 13 := by kernel_rfl
@[go_sem] theorem Tryz.pl_zero33 : zeroCs Tryz.prog 33 = some [.int .i64 0, .int .i64 0, .int .i64 0, .int .i64 0, .int .i64 0, .slice none 0 0, .int .i64 0, .int .i64 0, .int .i64 0, .int .i64 0, .int .i64 0, .int .i64 0, .slice none 0 0] := by kernel_rfl
@[go_sem] theorem Tryz.pl_str33 : structP Tryz.prog 33 = some ([.int .i64 0, .int .i64 0, .int .i64 0, .int .i64 0, .int .i64 0, .slice none 0 0, .int .i64 0, .int .i64 0, .int .i64 0, .int .i64 0, .int .i64 0, .int .i64 0, .slice none 0 0], [(0, 8), (8, 3), (11, 1), (12, 1)]) := by kernel_rfl
@[go_sem] theorem Tryz.pl_off33x0 : fOff Tryz.prog 33 0 = some (0, 8) := by kernel_rfl
@[go_sem] theorem Tryz.pl_part33x0 : fPart Tryz.prog 33 0 = some (0, some 8) := by kernel_rfl
@[go_sem] theorem Tryz.pl_off33x1 : fOff Tryz.prog 33 1 = some (8, 3) := by kernel_rfl
@[go_sem] theorem Tryz.pl_part33x1 : fPart Tryz.prog 33 1 = some (8, some 3) := by kernel_rfl
@[go_sem] theorem Tryz.pl_off33x2 : fOff Tryz.prog 33 2 = some (11, 1) := by kernel_rfl
@[go_sem] theorem Tryz.pl_part33x2 : fPart Tryz.prog 33 2 = some (11, none) := by kernel_rfl
@[go_sem] theorem Tryz.pl_off33x3 : fOff Tryz.prog 33 3 = some (12, 1) := by kernel_rfl
@[go_sem] theorem Tryz.pl_part33x3 : fPart Tryz.prog 33 3 = some (12, none) := by kernel_rfl
@[go_sem] theorem Tryz.pl_agg35 : aggN Tryz.prog 35 = some (none) := by kernel_rfl
@[go_sem] theorem Tryz.pl_sz35 : szOf Tryz.prog 35 = some 1 := by kernel_rfl
@[go_sem] theorem Tryz.pl_zero35 : zeroCs Tryz.prog 35 = some [.slice none 0 0] := by kernel_rfl
@[go_sem] theorem Tryz.pl_und35 : Tryz.prog.underlying 35 = some (.slice 9) := by kernel_rfl
@[go_sem] theorem Tryz.pl_zv35 : zeroV Tryz.prog 9 = some (.string .empty) := by kernel_rfl
@[go_sem] theorem Tryz.pl_esz35 : eSz Tryz.prog 35 = some (9, 1) := by kernel_rfl
@[go_sem] theorem Tryz.pl_einf35 : eInf Tryz.prog 35 = some (9, 1, 16) := by kernel_rfl
@[go_sem] theorem Tryz.pl_agg37 : aggN Tryz.prog 37 = some (some 3) := by kernel_rfl
@[go_sem] theorem Tryz.pl_sz37 : szOf Tryz.prog 37 = some 3 := by kernel_rfl
@[go_sem] theorem Tryz.pl_zero37 : zeroCs Tryz.prog 37 = some [.int .i64 0, .int .i64 0, .int .i64 0] := by kernel_rfl
@[go_sem] theorem Tryz.pl_str37 : structP Tryz.prog 37 = some ([.int .i64 0, .int .i64 0, .int .i64 0], [(0, 1), (1, 1), (2, 1)]) := by kernel_rfl
@[go_sem] theorem Tryz.pl_off37x0 : fOff Tryz.prog 37 0 = some (0, 1) := by kernel_rfl
@[go_sem] theorem Tryz.pl_part37x0 : fPart Tryz.prog 37 0 = some (0, none) := by kernel_rfl
@[go_sem] theorem Tryz.pl_off37x1 : fOff Tryz.prog 37 1 = some (1, 1) := by kernel_rfl
@[go_sem] theorem Tryz.pl_part37x1 : fPart Tryz.prog 37 1 = some (1, none) := by kernel_rfl
@[go_sem] theorem Tryz.pl_off37x2 : fOff Tryz.prog 37 2 = some (2, 1) := by kernel_rfl
@[go_sem] theorem Tryz.pl_part37x2 : fPart Tryz.prog 37 2 = some (2, none) := by kernel_rfl
@[go_sem] theorem Tryz.pl_agg38 : aggN Tryz.prog 38 = some (some 5) := by kernel_rfl
@[go_sem] theorem Tryz.pl_sz38 : szOf Tryz.prog 38 = some 5 := by kernel_rfl
@[go_sem] theorem Tryz.pl_zero38 : zeroCs Tryz.prog 38 = some [.int .i64 0, .int .i64 0, .int .i64 0, .int .i64 0, .int .i64 0] := by kernel_rfl
@[go_sem] theorem Tryz.pl_str38 : structP Tryz.prog 38 = some ([.int .i64 0, .int .i64 0, .int .i64 0, .int .i64 0, .int .i64 0], [(0, 3), (3, 1), (4, 1)]) := by kernel_rfl
@[go_sem] theorem Tryz.pl_off38x0 : fOff Tryz.prog 38 0 = some (0, 3) := by kernel_rfl
@[go_sem] theorem Tryz.pl_part38x0 : fPart Tryz.prog 38 0 = some (0, some 3) := by kernel_rfl
@[go_sem] theorem Tryz.pl_off38x1 : fOff Tryz.prog 38 1 = some (3, 1) := by kernel_rfl
@[go_sem] theorem Tryz.pl_part38x1 : fPart Tryz.prog 38 1 = some (3, none) := by kernel_rfl
@[go_sem] theorem Tryz.pl_off38x2 : fOff Tryz.prog 38 2 = some (4, 1) := by kernel_rfl
@[go_sem] theorem Tryz.pl_part38x2 : fPart Tryz.prog 38 2 = some (4, none) := by kernel_rfl
@[go_sem] theorem Tryz.pl_agg39 : aggN Tryz.prog 39 = some (some 5) := by kernel_rfl
@[go_sem] theorem Tryz.pl_sz39 : szOf Tryz.prog 39 = some 5 := by kernel_rfl
@[go_sem] theorem Tryz.pl_zero39 : zeroCs Tryz.prog 39 = some [.int .i64 0, .int .i64 0, .int .i64 0, .int .i64 0, .int .i64 0] := by kernel_rfl
@[go_sem] theorem Tryz.pl_str39 : structP Tryz.prog 39 = some ([.int .i64 0, .int .i64 0, .int .i64 0, .int .i64 0, .int .i64 0], [(0, 3), (3, 1), (4, 1)]) := by kernel_rfl
@[go_sem] theorem Tryz.pl_off39x0 : fOff Tryz.prog 39 0 = some (0, 3) := by kernel_rfl
@[go_sem] theorem Tryz.pl_part39x0 : fPart Tryz.prog 39 0 = some (0, some 3) := by kernel_rfl
@[go_sem] theorem Tryz.pl_off39x1 : fOff Tryz.prog 39 1 = some (3, 1) := by kernel_rfl
@[go_sem] theorem Tryz.pl_part39x1 : fPart Tryz.prog 39 1 = some (3, none) := by kernel_rfl
@[go_sem] theorem Tryz.pl_off39x2 : fOff Tryz.prog 39 2 = some (4, 1) := by kernel_rfl
@[go_sem] theorem Tryz.pl_part39x2 : fPart Tryz.prog 39 2 = some (4, none) := by kernel_rfl
@[go_sem] theorem Tryz.pl_agg40 : aggN Tryz.prog 40 = some (none) := by kernel_rfl
@[go_sem] theorem Tryz.pl_sz40 : szOf Tryz.prog 40 = some 1 := by kernel_rfl
@[go_sem] theorem Tryz.pl_zero40 : zeroCs Tryz.prog 40 = some [.slice none 0 0] := by kernel_rfl
@[go_sem] theorem Tryz.pl_und40 : Tryz.prog.underlying 40 = some (.slice 78) := by kernel_rfl
@[go_sem] theorem Tryz.pl_zv40 : zeroV Tryz.prog 78 = some (.agg #[.int .i64 0, .int .i64 0, .int .i64 0]) := by kernel_rfl
@[go_sem] theorem Tryz.pl_esz40 : eSz Tryz.prog 40 = some (78, 3) := by kernel_rfl
@[go_sem] theorem Tryz.pl_einf40 : eInf Tryz.prog 40 = some (78, 3, 24) := by kernel_rfl
@[go_sem] theorem Tryz.pl_agg41 : aggN Tryz.prog 41 = some (some 8) := by kernel_rfl
@[go_sem] theorem Tryz.pl_sz41 : szOf Tryz.prog 41 = some 8 := by kernel_rfl
@[go_sem] theorem Tryz.pl_zero41 : zeroCs Tryz.prog 41 = some [.int .i64 0, .int .i64 0, .int .i64 0, .int .i64 0, .int .i64 0, .slice none 0 0, .int .i64 0, .int .i64 0] := by kernel_rfl
@[go_sem] theorem Tryz.pl_str41 : structP Tryz.prog 41 = some ([.int .i64 0, .int .i64 0, .int .i64 0, .int .i64 0, .int .i64 0, .slice none 0 0, .int .i64 0, .int .i64 0], [(0, 5), (5, 1), (6, 1), (7, 1)]) := by kernel_rfl
@[go_sem] theorem Tryz.pl_off41x0 : fOff Tryz.prog 41 0 = some (0, 5) := by kernel_rfl
@[go_sem] theorem Tryz.pl_part41x0 : fPart Tryz.prog 41 0 = some (0, some 5) := by kernel_rfl
@[go_sem] theorem Tryz.pl_off41x1 : fOff Tryz.prog 41 1 = some (5, 1) := by kernel_rfl
@[go_sem] theorem Tryz.pl_part41x1 : fPart Tryz.prog 41 1 = some (5, none) := by kernel_rfl
@[go_sem] theorem Tryz.pl_off41x2 : fOff Tryz.prog 41 2 = some (6, 1) := by kernel_rfl
@[go_sem] theorem Tryz.pl_part41x2 : fPart Tryz.prog 41 2 = some (6, none) := by kernel_rfl
@[go_sem] theorem Tryz.pl_off41x3 : fOff Tryz.prog 41 3 = some (7, 1) := by kernel_rfl
@[go_sem] theorem Tryz.pl_part41x3 : fPart Tryz.prog 41 3 = some (7, none) := by kernel_rfl
@[go_sem] theorem Tryz.pl_agg42 : aggN Tryz.prog 42 = some (some 8) := by kernel_rfl
@[go_sem] theorem Tryz.pl_sz42 : szOf Tryz.prog 42 = some 8 := by kernel_rfl
@[go_sem] theorem Tryz.pl_zero42 : zeroCs Tryz.prog 42 = some [.int .i64 0, .int .i64 0, .int .i64 0, .int .i64 0, .int .i64 0, .slice none 0 0, .int .i64 0, .int .i64 0] := by kernel_rfl
@[go_sem] theorem Tryz.pl_str42 : structP Tryz.prog 42 = some ([.int .i64 0, .int .i64 0, .int .i64 0, .int .i64 0, .int .i64 0, .slice none 0 0, .int .i64 0, .int .i64 0], [(0, 5), (5, 1), (6, 1), (7, 1)]) := by kernel_rfl
@[go_sem] theorem Tryz.pl_off42x0 : fOff Tryz.prog 42 0 = some (0, 5) := by kernel_rfl
@[go_sem] theorem Tryz.pl_part42x0 : fPart Tryz.prog 42 0 = some (0, some 5) := by kernel_rfl
@[go_sem] theorem Tryz.pl_off42x1 : fOff Tryz.prog 42 1 = some (5, 1) := by kernel_rfl
@[go_sem] theorem Tryz.pl_part42x1 : fPart Tryz.prog 42 1 = some (5, none) := by kernel_rfl
@[go_sem] theorem Tryz.pl_off42x2 : fOff Tryz.prog 42 2 = some (6, 1) := by kernel_rfl
@[go_sem] theorem Tryz.pl_part42x2 : fPart Tryz.prog 42 2 = some (6, none) := by kernel_rfl
@[go_sem] theorem Tryz.pl_off42x3 : fOff Tryz.prog 42 3 = some (7, 1) := by kernel_rfl
@[go_sem] theorem Tryz.pl_part42x3 : fPart Tryz.prog 42 3 = some (7, none) := by kernel_rfl
@[go_sem] theorem Tryz.pl_agg43 : aggN Tryz.prog 43 = some (some 3) := by kernel_rfl
@[go_sem] theorem Tryz.pl_sz43 : szOf Tryz.prog 43 = some 3 := by kernel_rfl
@[go_sem] theorem Tryz.pl_zero43 : zeroCs Tryz.prog 43 = some [.int .i64 0, .int .i64 0, .int .i64 0] := by kernel_rfl
@[go_sem] theorem Tryz.pl_str43 : structP Tryz.prog 43 = some ([.int .i64 0, .int .i64 0, .int .i64 0], [(0, 1), (1, 1), (2, 1)]) := by kernel_rfl
@[go_sem] theorem Tryz.pl_off43x0 : fOff Tryz.prog 43 0 = some (0, 1) := by kernel_rfl
@[go_sem] theorem Tryz.pl_part43x0 : fPart Tryz.prog 43 0 = some (0, none) := by kernel_rfl
@[go_sem] theorem Tryz.pl_off43x1 : fOff Tryz.prog 43 1 = some (1, 1) := by kernel_rfl
@[go_sem] theorem Tryz.pl_part43x1 : fPart Tryz.prog 43 1 = some (1, none) := by kernel_rfl
@[go_sem] theorem Tryz.pl_off43x2 : fOff Tryz.prog 43 2 = some (2, 1) := by kernel_rfl
@[go_sem] theorem Tryz.pl_part43x2 : fPart Tryz.prog 43 2 = some (2, none) := by kernel_rfl
@[go_sem] theorem Tryz.pl_agg44 : aggN Tryz.prog 44 = some (none) := by kernel_rfl
@[go_sem] theorem Tryz.pl_sz44 : szOf Tryz.prog 44 = some 1 := by kernel_rfl
@[go_sem] theorem Tryz.pl_zero44 : zeroCs Tryz.prog 44 = some [.slice none 0 0] := by kernel_rfl
@[go_sem] theorem Tryz.pl_und44 : Tryz.prog.underlying 44 = some (.slice 86) := by kernel_rfl
@[go_sem] theorem Tryz.pl_zv44 : zeroV Tryz.prog 86 = some (.agg #[.int .i64 0, .int .i64 0, .int .i64 0, .int .i64 0]) := by kernel_rfl
@[go_sem] theorem Tryz.pl_esz44 : eSz Tryz.prog 44 = some (86, 4) := by kernel_rfl
@[go_sem] theorem Tryz.pl_einf44 : eInf Tryz.prog 44 = some (86, 4, 32) := by kernel_rfl
@[go_sem] theorem Tryz.pl_agg45 : aggN Tryz.prog 45 = some (some 13) := by kernel_rfl
@[go_sem] theorem Tryz.pl_sz45 : szOf Tryz.prog 45 = some 13 := by kernel_rfl
@[go_sem] theorem Tryz.pl_zero45 : zeroCs Tryz.prog 45 = some [.int .i64 0, .int .i64 0, .int .i64 0, .int .i64 0, .int .i64 0, .slice none 0 0, .int .i64 0, .int .i64 0, .int .i64 0, .int .i64 0, .int .i64 0, .int .i64 0, .slice none 0 0] := by kernel_rfl
@[go_sem] theorem Tryz.pl_str45 : structP Tryz.prog 45 = some ([.int .i64 0, .int .i64 0, .int .i64 0, .int .i64 0, .int .i64 0, .slice none 0 0, .int .i64 0, .int .i64 0, .int .i64 0, .int .i64 0, .int .i64 0, .int .i64 0, .slice none 0 0], [(0, 8), (8, 3), (11, 1), (12, 1)]) := by kernel_rfl
@[go_sem] theorem Tryz.pl_off45x0 : fOff Tryz.prog 45 0 = some (0, 8) := by kernel_rfl
@[go_sem] theorem Tryz.pl_part45x0 : fPart Tryz.prog 45 0 = some (0, some 8) := by kernel_rfl
@[go_sem] theorem Tryz.pl_off45x1 : fOff Tryz.prog 45 1 = some (8, 3) := by kernel_rfl
@[go_sem] theorem Tryz.pl_part45x1 : fPart Tryz.prog 45 1 = some (8, some 3) := by kernel_rfl
@[go_sem] theorem Tryz.pl_off45x2 : fOff Tryz.prog 45 2 = some (11, 1) := by kernel_rfl
@[go_sem] theorem Tryz.pl_part45x2 : fPart Tryz.prog 45 2 = some (11, none) := by kernel_rfl
@[go_sem] theorem Tryz.pl_off45x3 : fOff Tryz.prog 45 3 = some (12, 1) := by kernel_rfl
@[go_sem] theorem Tryz.pl_part45x3 : fPart Tryz.prog 45 3 = some (12, none) := by kernel_rfl
@[go_sem] theorem Tryz.pl_agg46 : aggN Tryz.prog 46 = some (some 13) := by kernel_rfl
@[go_sem] theorem Tryz.pl_sz46 : szOf Tryz.prog 46 = some 13 := by kernel_rfl
@[go_sem] theorem Tryz.pl_zero46 : zeroCs Tryz.prog 46 = some [.int .i64 0, .int .i64 0, .int .i64 0, .int .i64 0, .int .i64 0, .slice none 0 0, .int .i64 0, .int .i64 0, .int .i64 0, .int .i64 0, .int .i64 0, .int .i64 0, .slice none 0 0] := by kernel_rfl
@[go_sem] theorem Tryz.pl_str46 : structP Tryz.prog 46 = some ([.int .i64 0, .int .i64 0, .int .i64 0, .int .i64 0, .int .i64 0, .slice none 0 0, .int .i64 0, .int .i64 0, .int .i64 0, .int .i64 0, .int .i64 0, .int .i64 0, .slice none 0 0], [(0, 8), (8, 3), (11, 1), (12, 1)]) := by kernel_rfl
@[go_sem] theorem Tryz.pl_off46x0 : fOff Tryz.prog 46 0 = some (0, 8) := by kernel_rfl
@[go_sem] theorem Tryz.pl_part46x0 : fPart Tryz.prog 46 0 = some (0, some 8) := by kernel_rfl
@[go_sem] theorem Tryz.pl_off46x1 : fOff Tryz.prog 46 1 = some (8, 3) := by kernel_rfl
@[go_sem] theorem Tryz.pl_part46x1 : fPart Tryz.prog 46 1 = some (8, some 3) := by kernel_rfl
@[go_sem] theorem Tryz.pl_off46x2 : fOff Tryz.prog 46 2 = some (11, 1) := by kernel_rfl
@[go_sem] theorem Tryz.pl_part46x2 : fPart Tryz.prog 46 2 = some (11, none) := by kernel_rfl
@[go_sem] theorem Tryz.pl_off46x3 : fOff Tryz.prog 46 3 = some (12, 1) := by kernel_rfl
@[go_sem] theorem Tryz.pl_part46x3 : fPart Tryz.prog 46 3 = some (12, none) := by kernel_rfl
@[go_sem] theorem Tryz.pl_agg77 : aggN Tryz.prog 77 = some (some 3) := by kernel_rfl
@[go_sem] theorem Tryz.pl_sz77 : szOf Tryz.prog 77 = some 3 := by kernel_rfl
@[go_sem] theorem Tryz.pl_zero77 : zeroCs Tryz.prog 77 = some [.int .i64 0, .int .i64 0, .int .i64 0] := by kernel_rfl
@[go_sem] theorem Tryz.pl_str77 : structP Tryz.prog 77 = some ([.int .i64 0, .int .i64 0, .int .i64 0], [(0, 1), (1, 1), (2, 1)]) := by kernel_rfl
@[go_sem] theorem Tryz.pl_off77x0 : fOff Tryz.prog 77 0 = some (0, 1) := by kernel_rfl
@[go_sem] theorem Tryz.pl_part77x0 : fPart Tryz.prog 77 0 = some (0, none) := by kernel_rfl
@[go_sem] theorem Tryz.pl_off77x1 : fOff Tryz.prog 77 1 = some (1, 1) := by kernel_rfl
@[go_sem] theorem Tryz.pl_part77x1 : fPart Tryz.prog 77 1 = some (1, none) := by kernel_rfl
@[go_sem] theorem Tryz.pl_off77x2 : fOff Tryz.prog 77 2 = some (2, 1) := by kernel_rfl
@[go_sem] theorem Tryz.pl_part77x2 : fPart Tryz.prog 77 2 = some (2, none) := by kernel_rfl
@[go_sem] theorem Tryz.pl_agg78 : aggN Tryz.prog 78 = some (some 3) := by kernel_rfl
@[go_sem] theorem Tryz.pl_sz78 : szOf Tryz.prog 78 = some 3 := by kernel_rfl
@[go_sem] theorem Tryz.pl_zero78 : zeroCs Tryz.prog 78 = some [.int .i64 0, .int .i64 0, .int .i64 0] := by kernel_rfl
@[go_sem] theorem Tryz.pl_str78 : structP Tryz.prog 78 = some ([.int .i64 0, .int .i64 0, .int .i64 0], [(0, 1), (1, 1), (2, 1)]) := by kernel_rfl
@[go_sem] theorem Tryz.pl_off78x0 : fOff Tryz.prog 78 0 = some (0, 1) := by kernel_rfl
@[go_sem] theorem Tryz.pl_part78x0 : fPart Tryz.prog 78 0 = some (0, none) := by kernel_rfl
@[go_sem] theorem Tryz.pl_off78x1 : fOff Tryz.prog 78 1 = some (1, 1) := by kernel_rfl
@[go_sem] theorem Tryz.pl_part78x1 : fPart Tryz.prog 78 1 = some (1, none) := by kernel_rfl
@[go_sem] theorem Tryz.pl_off78x2 : fOff Tryz.prog 78 2 = some (2, 1) := by kernel_rfl
@[go_sem] theorem Tryz.pl_part78x2 : fPart Tryz.prog 78 2 = some (2, none) := by kernel_rfl
@[go_sem] theorem Tryz.pl_agg82 : aggN Tryz.prog 82 = some (none) := by kernel_rfl
@[go_sem] theorem Tryz.pl_sz82 : szOf Tryz.prog 82 = some 1 := by kernel_rfl
@[go_sem] theorem Tryz.pl_zero82 : zeroCs Tryz.prog 82 = some [.slice none 0 0] := by kernel_rfl
@[go_sem] theorem Tryz.pl_und82 : Tryz.prog.underlying 82 = some (.slice 5) := by kernel_rfl
@[go_sem] theorem Tryz.pl_zv82 : zeroV Tryz.prog 5 = some (.int .u8 0) := by kernel_rfl
@[go_sem] theorem Tryz.pl_esz82 : eSz Tryz.prog 82 = some (5, 1) := by kernel_rfl
@[go_sem] theorem Tryz.pl_einf82 : eInf Tryz.prog 82 = some (5, 1, 1) := by kernel_rfl
@[go_sem] theorem Tryz.pl_agg85 : aggN Tryz.prog 85 = some (some 4) := by kernel_rfl
@[go_sem] theorem Tryz.pl_sz85 : szOf Tryz.prog 85 = some 4 := by kernel_rfl
@[go_sem] theorem Tryz.pl_zero85 : zeroCs Tryz.prog 85 = some [.int .i64 0, .int .i64 0, .int .i64 0, .int .i64 0] := by kernel_rfl
@[go_sem] theorem Tryz.pl_str85 : structP Tryz.prog 85 = some ([.int .i64 0, .int .i64 0, .int .i64 0, .int .i64 0], [(0, 1), (1, 1), (2, 1), (3, 1)]) := by kernel_rfl
@[go_sem] theorem Tryz.pl_off85x0 : fOff Tryz.prog 85 0 = some (0, 1) := by kernel_rfl
@[go_sem] theorem Tryz.pl_part85x0 : fPart Tryz.prog 85 0 = some (0, none) := by kernel_rfl
@[go_sem] theorem Tryz.pl_off85x1 : fOff Tryz.prog 85 1 = some (1, 1) := by kernel_rfl
@[go_sem] theorem Tryz.pl_part85x1 : fPart Tryz.prog 85 1 = some (1, none) := by kernel_rfl
@[go_sem] theorem Tryz.pl_off85x2 : fOff Tryz.prog 85 2 = some (2, 1) := by kernel_rfl
@[go_sem] theorem Tryz.pl_part85x2 : fPart Tryz.prog 85 2 = some (2, none) := by kernel_rfl
@[go_sem] theorem Tryz.pl_off85x3 : fOff Tryz.prog 85 3 = some (3, 1) := by kernel_rfl
@[go_sem] theorem Tryz.pl_part85x3 : fPart Tryz.prog 85 3 = some (3, none) := by kernel_rfl
@[go_sem] theorem Tryz.pl_agg86 : aggN Tryz.prog 86 = some (some 4) := by kernel_rfl
@[go_sem] theorem Tryz.pl_sz86 : szOf Tryz.prog 86 = some 4 := by kernel_rfl
@[go_sem] theorem Tryz.pl_zero86 : zeroCs Tryz.prog 86 = some [.int .i64 0, .int .i64 0, .int .i64 0, .int .i64 0] := by kernel_rfl
@[go_sem] theorem Tryz.pl_str86 : structP Tryz.prog 86 = some ([.int .i64 0, .int .i64 0, .int .i64 0, .int .i64 0], [(0, 1), (1, 1), (2, 1), (3, 1)]) := by kernel_rfl
@[go_sem] theorem Tryz.pl_off86x0 : fOff Tryz.prog 86 0 = some (0, 1) := by kernel_rfl
@[go_sem] theorem Tryz.pl_part86x0 : fPart Tryz.prog 86 0 = some (0, none) := by kernel_rfl
@[go_sem] theorem Tryz.pl_off86x1 : fOff Tryz.prog 86 1 = some (1, 1) := by kernel_rfl
@[go_sem] theorem Tryz.pl_part86x1 : fPart Tryz.prog 86 1 = some (1, none) := by kernel_rfl
@[go_sem] theorem Tryz.pl_off86x2 : fOff Tryz.prog 86 2 = some (2, 1) := by kernel_rfl
@[go_sem] theorem Tryz.pl_part86x2 : fPart Tryz.prog 86 2 = some (2, none) := by kernel_rfl
@[go_sem] theorem Tryz.pl_off86x3 : fOff Tryz.prog 86 3 = some (3, 1) := by kernel_rfl
@[go_sem] theorem Tryz.pl_part86x3 : fPart Tryz.prog 86 3 = some (3, none) := by kernel_rfl
@[go_sem] theorem Tryz.pl_agg88 : aggN Tryz.prog 88 = some (some 4) := by kernel_rfl
@[go_sem] theorem Tryz.pl_sz88 : szOf Tryz.prog 88 = some 4 := by kernel_rfl
@[go_sem] theorem Tryz.pl_zero88 : zeroCs Tryz.prog 88 = some [.int .i64 0, .int .i64 0, .int .i64 0, .int .i64 0] := by kernel_rfl
@[go_sem] theorem Tryz.pl_str88 : structP Tryz.prog 88 = some ([.int .i64 0, .int .i64 0, .int .i64 0, .int .i64 0], [(0, 1), (1, 1), (2, 1), (3, 1)]) := by kernel_rfl
@[go_sem] theorem Tryz.pl_off88x0 : fOff Tryz.prog 88 0 = some (0, 1) := by kernel_rfl
@[go_sem] theorem Tryz.pl_part88x0 : fPart Tryz.prog 88 0 = some (0, none) := by kernel_rfl
@[go_sem] theorem Tryz.pl_off88x1 : fOff Tryz.prog 88 1 = some (1, 1) := by kernel_rfl
@[go_sem] theorem Tryz.pl_part88x1 : fPart Tryz.prog 88 1 = some (1, none) := by kernel_rfl
@[go_sem] theorem Tryz.pl_off88x2 : fOff Tryz.prog 88 2 = some (2, 1) := by kernel_rfl
@[go_sem] theorem Tryz.pl_part88x2 : fPart Tryz.prog 88 2 = some (2, none) := by kernel_rfl
@[go_sem] theorem Tryz.pl_off88x3 : fOff Tryz.prog 88 3 = some (3, 1) := by kernel_rfl
@[go_sem] theorem Tryz.pl_part88x3 : fPart Tryz.prog 88 3 = some (3, none) := by kernel_rfl
@[go_sem] theorem Tryz.pl_agg101 : aggN Tryz.prog 101 = some (some 3) := by kernel_rfl
@[go_sem] theorem Tryz.pl_sz101 : szOf Tryz.prog 101 = some 3 := by kernel_rfl
@[go_sem] theorem Tryz.pl_zero101 : zeroCs Tryz.prog 101 = some [.int .i64 0, .int .i64 0, .int .i64 0] := by kernel_rfl
@[go_sem] theorem Tryz.pl_str101 : structP Tryz.prog 101 = some ([.int .i64 0, .int .i64 0, .int .i64 0], [(0, 1), (1, 1), (2, 1)]) := by kernel_rfl
@[go_sem] theorem Tryz.pl_off101x0 : fOff Tryz.prog 101 0 = some (0, 1) := by kernel_rfl
@[go_sem] theorem Tryz.pl_part101x0 : fPart Tryz.prog 101 0 = some (0, none) := by kernel_rfl
@[go_sem] theorem Tryz.pl_off101x1 : fOff Tryz.prog 101 1 = some (1, 1) := by kernel_rfl
@[go_sem] theorem Tryz.pl_part101x1 : fPart Tryz.prog 101 1 = some (1, none) := by kernel_rfl
@[go_sem] theorem Tryz.pl_off101x2 : fOff Tryz.prog 101 2 = some (2, 1) := by kernel_rfl
@[go_sem] theorem Tryz.pl_part101x2 : fPart Tryz.prog 101 2 = some (2, none) := by kernel_rfl
@[go_sem] theorem Tryz.pl_agg110 : aggN Tryz.prog 110 = some (none) := by kernel_rfl
@[go_sem] theorem Tryz.pl_sz110 : szOf Tryz.prog 110 = some 1 := by kernel_rfl
@[go_sem] theorem Tryz.pl_zero110 : zeroCs Tryz.prog 110 = some [.slice none 0 0] := by kernel_rfl
@[go_sem] theorem Tryz.pl_und110 : Tryz.prog.underlying 110 = some (.slice 3) := by kernel_rfl
@[go_sem] theorem Tryz.pl_zv110 : zeroV Tryz.prog 3 = some (.int .i64 0) := by kernel_rfl
@[go_sem] theorem Tryz.pl_esz110 : eSz Tryz.prog 110 = some (3, 1) := by kernel_rfl
@[go_sem] theorem Tryz.pl_einf110 : eInf Tryz.prog 110 = some (3, 1, 8) := by kernel_rfl
@[go_sem] theorem Tryz.pl_agg113 : aggN Tryz.prog 113 = some (some 24) := by kernel_rfl
@[go_sem] theorem Tryz.pl_sz113 : szOf Tryz.prog 113 = some 24 := by kernel_rfl
@[go_sem] theorem Tryz.pl_zero113 : zeroCs Tryz.prog 113 = some [.int .u8 0, .int .u8 0, .int .u8 0, .int .u8 0, .int .u8 0, .int .u8 0, .int .u8 0, .int .u8 0, .int .u8 0, .int .u8 0, .int .u8 0, .int .u8 0, .int .u8 0, .int .u8 0, .int .u8 0, .int .u8 0, .int .u8 0, .int .u8 0, .int .u8 0, .int .u8 0, .int .u8 0, .int .u8 0, .int .u8 0, .int .u8 0] := by kernel_rfl
@[go_sem] theorem Tryz.pl_agg114 : aggN Tryz.prog 114 = some (none) := by kernel_rfl
@[go_sem] theorem Tryz.pl_sz114 : szOf Tryz.prog 114 = some 1 := by kernel_rfl
@[go_sem] theorem Tryz.pl_zero114 : zeroCs Tryz.prog 114 = some [.int .u64 0] := by kernel_rfl
@[go_sem] theorem Tryz.pl_und114 : Tryz.prog.underlying 114 = some (.int .u64) := by kernel_rfl
@[go_sem] theorem Tryz.pl_agg122 : aggN Tryz.prog 122 = some (some 20) := by kernel_rfl
@[go_sem] theorem Tryz.pl_sz122 : szOf Tryz.prog 122 = some 20 := by kernel_rfl
@[go_sem] theorem Tryz.pl_zero122 : zeroCs Tryz.prog 122 = some [.int .u64 0, .int .u64 0, .int .u64 0, .int .u64 0, .int .u64 0, .int .u64 0, .int .u64 0, .int .u64 0, .int .u64 0, .int .u64 0, .int .u64 0, .int .u64 0, .int .u64 0, .int .u64 0, .int .u64 0, .int .u64 0, .int .u64 0, .int .u64 0, .int .u64 0, .int .u64 0] := by kernel_rfl
@[go_sem] theorem Tryz.pl_agg123 : aggN Tryz.prog 123 = some (none) := by kernel_rfl
@[go_sem] theorem Tryz.pl_sz123 : szOf Tryz.prog 123 = some 1 := by kernel_rfl
@[go_sem] theorem Tryz.pl_zero123 : zeroCs Tryz.prog 123 = some [.int .u32 0] := by kernel_rfl
@[go_sem] theorem Tryz.pl_und123 : Tryz.prog.underlying 123 = some (.int .u32) := by kernel_rfl
@[go_sem] theorem Tryz.pl_agg124 : aggN Tryz.prog 124 = some (some 65) := by kernel_rfl
@[go_sem] theorem Tryz.pl_sz124 : szOf Tryz.prog 124 = some 65 := by kernel_rfl
@[go_sem] theorem Tryz.pl_agg126 : aggN Tryz.prog 126 = some (none) := by kernel_rfl
@[go_sem] theorem Tryz.pl_sz126 : szOf Tryz.prog 126 = some 1 := by kernel_rfl
@[go_sem] theorem Tryz.pl_zero126 : zeroCs Tryz.prog 126 = some [.int .u64 0] := by kernel_rfl
@[go_sem] theorem Tryz.pl_und126 : Tryz.prog.underlying 126 = some (.int .u64) := by kernel_rfl
@[go_sem] theorem Tryz.pl_agg129 : aggN Tryz.prog 129 = some (some 32) := by kernel_rfl
@[go_sem] theorem Tryz.pl_sz129 : szOf Tryz.prog 129 = some 32 := by kernel_rfl
@[go_sem] theorem Tryz.pl_agg130 : aggN Tryz.prog 130 = some (some 64) := by kernel_rfl
@[go_sem] theorem Tryz.pl_sz130 : szOf Tryz.prog 130 = some 64 := by kernel_rfl
@[go_sem] theorem Tryz.pl_agg132 : aggN Tryz.prog 132 = some (some 4) := by kernel_rfl
@[go_sem] theorem Tryz.pl_sz132 : szOf Tryz.prog 132 = some 4 := by kernel_rfl
@[go_sem] theorem Tryz.pl_zero132 : zeroCs Tryz.prog 132 = some [.pointer none, .pointer none, .pointer none, .string .empty] := by kernel_rfl
@[go_sem] theorem Tryz.pl_str132 : structP Tryz.prog 132 = some ([.pointer none, .pointer none, .pointer none, .string .empty], [(0, 1), (1, 1), (2, 1), (3, 1)]) := by kernel_rfl
@[go_sem] theorem Tryz.pl_off132x0 : fOff Tryz.prog 132 0 = some (0, 1) := by kernel_rfl
@[go_sem] theorem Tryz.pl_part132x0 : fPart Tryz.prog 132 0 = some (0, none) := by kernel_rfl
@[go_sem] theorem Tryz.pl_off132x1 : fOff Tryz.prog 132 1 = some (1, 1) := by kernel_rfl
@[go_sem] theorem Tryz.pl_part132x1 : fPart Tryz.prog 132 1 = some (1, none) := by kernel_rfl
@[go_sem] theorem Tryz.pl_off132x2 : fOff Tryz.prog 132 2 = some (2, 1) := by kernel_rfl
@[go_sem] theorem Tryz.pl_part132x2 : fPart Tryz.prog 132 2 = some (2, none) := by kernel_rfl
@[go_sem] theorem Tryz.pl_off132x3 : fOff Tryz.prog 132 3 = some (3, 1) := by kernel_rfl
@[go_sem] theorem Tryz.pl_part132x3 : fPart Tryz.prog 132 3 = some (3, none) := by kernel_rfl
@[go_sem] theorem Tryz.pl_agg133 : aggN Tryz.prog 133 = some (some 4) := by kernel_rfl
@[go_sem] theorem Tryz.pl_sz133 : szOf Tryz.prog 133 = some 4 := by kernel_rfl
@[go_sem] theorem Tryz.pl_zero133 : zeroCs Tryz.prog 133 = some [.pointer none, .pointer none, .pointer none, .string .empty] := by kernel_rfl
@[go_sem] theorem Tryz.pl_str133 : structP Tryz.prog 133 = some ([.pointer none, .pointer none, .pointer none, .string .empty], [(0, 1), (1, 1), (2, 1), (3, 1)]) := by kernel_rfl
@[go_sem] theorem Tryz.pl_off133x0 : fOff Tryz.prog 133 0 = some (0, 1) := by kernel_rfl
@[go_sem] theorem Tryz.pl_part133x0 : fPart Tryz.prog 133 0 = some (0, none) := by kernel_rfl
@[go_sem] theorem Tryz.pl_off133x1 : fOff Tryz.prog 133 1 = some (1, 1) := by kernel_rfl
@[go_sem] theorem Tryz.pl_part133x1 : fPart Tryz.prog 133 1 = some (1, none) := by kernel_rfl
@[go_sem] theorem Tryz.pl_off133x2 : fOff Tryz.prog 133 2 = some (2, 1) := by kernel_rfl
@[go_sem] theorem Tryz.pl_part133x2 : fPart Tryz.prog 133 2 = some (2, none) := by kernel_rfl
@[go_sem] theorem Tryz.pl_off133x3 : fOff Tryz.prog 133 3 = some (3, 1) := by kernel_rfl
@[go_sem] theorem Tryz.pl_part133x3 : fPart Tryz.prog 133 3 = some (3, none) := by kernel_rfl
@[go_sem] theorem Tryz.pl_agg134 : aggN Tryz.prog 134 = some (some 0) := by kernel_rfl
@[go_sem] theorem Tryz.pl_sz134 : szOf Tryz.prog 134 = some 0 := by kernel_rfl
@[go_sem] theorem Tryz.pl_zero134 : zeroCs Tryz.prog 134 = some [] := by kernel_rfl
@[go_sem] theorem Tryz.pl_agg135 : aggN Tryz.prog 135 = some (some 0) := by kernel_rfl
@[go_sem] theorem Tryz.pl_sz135 : szOf Tryz.prog 135 = some 0 := by kernel_rfl
@[go_sem] theorem Tryz.pl_zero135 : zeroCs Tryz.prog 135 = some [] := by kernel_rfl
@[go_sem] theorem Tryz.pl_str135 : structP Tryz.prog 135 = some ([], [(0, 0)]) := by kernel_rfl
@[go_sem] theorem Tryz.pl_off135x0 : fOff Tryz.prog 135 0 = some (0, 0) := by kernel_rfl
@[go_sem] theorem Tryz.pl_part135x0 : fPart Tryz.prog 135 0 = some (0, some 0) := by kernel_rfl
@[go_sem] theorem Tryz.pl_agg136 : aggN Tryz.prog 136 = some (some 0) := by kernel_rfl
@[go_sem] theorem Tryz.pl_sz136 : szOf Tryz.prog 136 = some 0 := by kernel_rfl
@[go_sem] theorem Tryz.pl_zero136 : zeroCs Tryz.prog 136 = some [] := by kernel_rfl
@[go_sem] theorem Tryz.pl_str136 : structP Tryz.prog 136 = some ([], [(0, 0)]) := by kernel_rfl
@[go_sem] theorem Tryz.pl_off136x0 : fOff Tryz.prog 136 0 = some (0, 0) := by kernel_rfl
@[go_sem] theorem Tryz.pl_part136x0 : fPart Tryz.prog 136 0 = some (0, some 0) := by kernel_rfl
@[go_sem] theorem Tryz.pl_agg138 : aggN Tryz.prog 138 = some (none) := by kernel_rfl
@[go_sem] theorem Tryz.pl_sz138 : szOf Tryz.prog 138 = some 1 := by kernel_rfl
@[go_sem] theorem Tryz.pl_zero138 : zeroCs Tryz.prog 138 = some [.int .u8 0] := by kernel_rfl
@[go_sem] theorem Tryz.pl_und138 : Tryz.prog.underlying 138 = some (.int .u8) := by kernel_rfl
@[go_sem] theorem Tryz.pl_agg139 : aggN Tryz.prog 139 = some (none) := by kernel_rfl
@[go_sem] theorem Tryz.pl_sz139 : szOf Tryz.prog 139 = some 1 := by kernel_rfl
@[go_sem] theorem Tryz.pl_zero139 : zeroCs Tryz.prog 139 = some [.int .u8 0] := by kernel_rfl
@[go_sem] theorem Tryz.pl_und139 : Tryz.prog.underlying 139 = some (.int .u8) := by kernel_rfl
@[go_sem] theorem Tryz.pl_agg141 : aggN Tryz.prog 141 = some (none) := by kernel_rfl
@[go_sem] theorem Tryz.pl_sz141 : szOf Tryz.prog 141 = some 1 := by kernel_rfl
@[go_sem] theorem Tryz.pl_zero141 : zeroCs Tryz.prog 141 = some [.pointer none] := by kernel_rfl
@[go_sem] theorem Tryz.pl_agg142 : aggN Tryz.prog 142 = some (none) := by kernel_rfl
@[go_sem] theorem Tryz.pl_sz142 : szOf Tryz.prog 142 = some 1 := by kernel_rfl
@[go_sem] theorem Tryz.pl_zero142 : zeroCs Tryz.prog 142 = some [.int .i32 0] := by kernel_rfl
@[go_sem] theorem Tryz.pl_und142 : Tryz.prog.underlying 142 = some (.int .i32) := by kernel_rfl
@[go_sem] theorem Tryz.pl_agg143 : aggN Tryz.prog 143 = some (none) := by kernel_rfl
@[go_sem] theorem Tryz.pl_sz143 : szOf Tryz.prog 143 = some 1 := by kernel_rfl
@[go_sem] theorem Tryz.pl_zero143 : zeroCs Tryz.prog 143 = some [.int .i32 0] := by kernel_rfl
@[go_sem] theorem Tryz.pl_und143 : Tryz.prog.underlying 143 = some (.int .i32) := by kernel_rfl
@[go_sem] theorem Tryz.pl_agg144 : aggN Tryz.prog 144 = some (some 11) := by kernel_rfl
@[go_sem] theorem Tryz.pl_sz144 : szOf Tryz.prog 144 = some 11 := by kernel_rfl
@[go_sem] theorem Tryz.pl_off144x0 : fOff Tryz.prog 144 0 = some (0, 1) := by kernel_rfl
@[go_sem] theorem Tryz.pl_part144x0 : fPart Tryz.prog 144 0 = some (0, none) := by kernel_rfl
@[go_sem] theorem Tryz.pl_off144x1 : fOff Tryz.prog 144 1 = some (1, 1) := by kernel_rfl
@[go_sem] theorem Tryz.pl_part144x1 : fPart Tryz.prog 144 1 = some (1, none) := by kernel_rfl
@[go_sem] theorem Tryz.pl_off144x2 : fOff Tryz.prog 144 2 = some (2, 1) := by kernel_rfl
@[go_sem] theorem Tryz.pl_part144x2 : fPart Tryz.prog 144 2 = some (2, none) := by kernel_rfl
@[go_sem] theorem Tryz.pl_off144x3 : fOff Tryz.prog 144 3 = some (3, 1) := by kernel_rfl
@[go_sem] theorem Tryz.pl_part144x3 : fPart Tryz.prog 144 3 = some (3, none) := by kernel_rfl
@[go_sem] theorem Tryz.pl_off144x4 : fOff Tryz.prog 144 4 = some (4, 1) := by kernel_rfl
@[go_sem] theorem Tryz.pl_part144x4 : fPart Tryz.prog 144 4 = some (4, none) := by kernel_rfl
@[go_sem] theorem Tryz.pl_off144x5 : fOff Tryz.prog 144 5 = some (5, 1) := by kernel_rfl
@[go_sem] theorem Tryz.pl_part144x5 : fPart Tryz.prog 144 5 = some (5, none) := by kernel_rfl
@[go_sem] theorem Tryz.pl_off144x6 : fOff Tryz.prog 144 6 = some (6, 1) := by kernel_rfl
@[go_sem] theorem Tryz.pl_part144x6 : fPart Tryz.prog 144 6 = some (6, none) := by kernel_rfl
@[go_sem] theorem Tryz.pl_off144x7 : fOff Tryz.prog 144 7 = some (7, 1) := by kernel_rfl
@[go_sem] theorem Tryz.pl_part144x7 : fPart Tryz.prog 144 7 = some (7, none) := by kernel_rfl
@[go_sem] theorem Tryz.pl_off144x8 : fOff Tryz.prog 144 8 = some (8, 1) := by kernel_rfl
@[go_sem] theorem Tryz.pl_part144x8 : fPart Tryz.prog 144 8 = some (8, none) := by kernel_rfl
@[go_sem] theorem Tryz.pl_off144x9 : fOff Tryz.prog 144 9 = some (9, 1) := by kernel_rfl
@[go_sem] theorem Tryz.pl_part144x9 : fPart Tryz.prog 144 9 = some (9, none) := by kernel_rfl
@[go_sem] theorem Tryz.pl_off144x10 : fOff Tryz.prog 144 10 = some (10, 1) := by kernel_rfl
@[go_sem] theorem Tryz.pl_part144x10 : fPart Tryz.prog 144 10 = some (10, none) := by kernel_rfl
@[go_sem] theorem Tryz.pl_agg145 : aggN Tryz.prog 145 = some (some 11) := by kernel_rfl
@[go_sem] theorem Tryz.pl_sz145 : szOf Tryz.prog 145 = some 11 := by kernel_rfl
@[go_sem] theorem Tryz.pl_off145x0 : fOff Tryz.prog 145 0 = some (0, 1) := by kernel_rfl
@[go_sem] theorem Tryz.pl_part145x0 : fPart Tryz.prog 145 0 = some (0, none) := by kernel_rfl
@[go_sem] theorem Tryz.pl_off145x1 : fOff Tryz.prog 145 1 = some (1, 1) := by kernel_rfl
@[go_sem] theorem Tryz.pl_part145x1 : fPart Tryz.prog 145 1 = some (1, none) := by kernel_rfl
@[go_sem] theorem Tryz.pl_off145x2 : fOff Tryz.prog 145 2 = some (2, 1) := by kernel_rfl
@[go_sem] theorem Tryz.pl_part145x2 : fPart Tryz.prog 145 2 = some (2, none) := by kernel_rfl
@[go_sem] theorem Tryz.pl_off145x3 : fOff Tryz.prog 145 3 = some (3, 1) := by kernel_rfl
@[go_sem] theorem Tryz.pl_part145x3 : fPart Tryz.prog 145 3 = some (3, none) := by kernel_rfl
@[go_sem] theorem Tryz.pl_off145x4 : fOff Tryz.prog 145 4 = some (4, 1) := by kernel_rfl
@[go_sem] theorem Tryz.pl_part145x4 : fPart Tryz.prog 145 4 = some (4, none) := by kernel_rfl
@[go_sem] theorem Tryz.pl_off145x5 : fOff Tryz.prog 145 5 = some (5, 1) := by kernel_rfl
@[go_sem] theorem Tryz.pl_part145x5 : fPart Tryz.prog 145 5 = some (5, none) := by kernel_rfl
@[go_sem] theorem Tryz.pl_off145x6 : fOff Tryz.prog 145 6 = some (6, 1) := by kernel_rfl
@[go_sem] theorem Tryz.pl_part145x6 : fPart Tryz.prog 145 6 = some (6, none) := by kernel_rfl
@[go_sem] theorem Tryz.pl_off145x7 : fOff Tryz.prog 145 7 = some (7, 1) := by kernel_rfl
@[go_sem] theorem Tryz.pl_part145x7 : fPart Tryz.prog 145 7 = some (7, none) := by kernel_rfl
@[go_sem] theorem Tryz.pl_off145x8 : fOff Tryz.prog 145 8 = some (8, 1) := by kernel_rfl
@[go_sem] theorem Tryz.pl_part145x8 : fPart Tryz.prog 145 8 = some (8, none) := by kernel_rfl
@[go_sem] theorem Tryz.pl_off145x9 : fOff Tryz.prog 145 9 = some (9, 1) := by kernel_rfl
@[go_sem] theorem Tryz.pl_part145x9 : fPart Tryz.prog 145 9 = some (9, none) := by kernel_rfl
@[go_sem] theorem Tryz.pl_off145x10 : fOff Tryz.prog 145 10 = some (10, 1) := by kernel_rfl
@[go_sem] theorem Tryz.pl_part145x10 : fPart Tryz.prog 145 10 = some (10, none) := by kernel_rfl
@[go_sem] theorem Tryz.pl_rs0 : Tryz.f0.results.toList = [] := by kernel_rfl
@[go_sem] theorem Tryz.pl_rs1 : Tryz.f1.results.toList = [] := by kernel_rfl
@[go_sem] theorem Tryz.pl_rs2 : Tryz.f2.results.toList = [] := by kernel_rfl
@[go_sem] theorem Tryz.pl_rs3 : Tryz.f3.results.toList = [.tmp 2] := by kernel_rfl
@[go_sem] theorem Tryz.pl_rs4 : Tryz.f4.results.toList = [.tmp 4] := by kernel_rfl
@[go_sem] theorem Tryz.pl_rs5 : Tryz.f5.results.toList = [.tmp 2] := by kernel_rfl
@[go_sem] theorem Tryz.pl_rs6 : Tryz.f6.results.toList = [.cell 2 46] := by kernel_rfl
@[go_sem] theorem Tryz.pl_rs7 : Tryz.f7.results.toList = [.tmp 2] := by kernel_rfl
@[go_sem] theorem Tryz.pl_rs8 : Tryz.f8.results.toList = [.tmp 4] := by kernel_rfl
@[go_sem] theorem Tryz.pl_rs9 : Tryz.f9.results.toList = [.tmp 4] := by kernel_rfl
@[go_sem] theorem Tryz.pl_rs10 : Tryz.f10.results.toList = [.tmp 4] := by kernel_rfl
@[go_sem] theorem Tryz.pl_rs11 : Tryz.f11.results.toList = [.tmp 4] := by kernel_rfl
@[go_sem] theorem Tryz.pl_rs12 : Tryz.f12.results.toList = [.tmp 4] := by kernel_rfl
@[go_sem] theorem Tryz.pl_rs13 : Tryz.f13.results.toList = [.tmp 4] := by kernel_rfl
@[go_sem] theorem Tryz.pl_rs14 : Tryz.f14.results.toList = [.tmp 4] := by kernel_rfl
@[go_sem] theorem Tryz.pl_rs15 : Tryz.f15.results.toList = [.tmp 2] := by kernel_rfl
@[go_sem] theorem Tryz.pl_rs16 : Tryz.f16.results.toList = [.tmp 4] := by kernel_rfl
@[go_sem] theorem Tryz.pl_rs17 : Tryz.f17.results.toList = [.tmp 2] := by kernel_rfl
@[go_sem] theorem Tryz.pl_rs18 : Tryz.f18.results.toList = [.tmp 4] := by kernel_rfl
@[go_sem] theorem Tryz.pl_rs19 : Tryz.f19.results.toList = [.tmp 2] := by kernel_rfl
@[go_sem] theorem Tryz.pl_rs20 : Tryz.f20.results.toList = [.tmp 2] := by kernel_rfl
@[go_sem] theorem Tryz.pl_rs21 : Tryz.f21.results.toList = [.cell 2 42] := by kernel_rfl
@[go_sem] theorem Tryz.pl_rs22 : Tryz.f22.results.toList = [.cell 2 43] := by kernel_rfl
@[go_sem] theorem Tryz.pl_rs23 : Tryz.f23.results.toList = [.tmp 2] := by kernel_rfl
@[go_sem] theorem Tryz.pl_rs24 : Tryz.f24.results.toList = [.tmp 2] := by kernel_rfl
@[go_sem] theorem Tryz.pl_rs25 : Tryz.f25.results.toList = [.tmp 4] := by kernel_rfl
@[go_sem] theorem Tryz.pl_rs26 : Tryz.f26.results.toList = [.tmp 2] := by kernel_rfl
@[go_sem] theorem Tryz.pl_rs27 : Tryz.f27.results.toList = [.tmp 4] := by kernel_rfl
@[go_sem] theorem Tryz.pl_rs28 : Tryz.f28.results.toList = [.tmp 2] := by kernel_rfl
@[go_sem] theorem Tryz.pl_rs29 : Tryz.f29.results.toList = [.tmp 2] := by kernel_rfl
@[go_sem] theorem Tryz.pl_rs30 : Tryz.f30.results.toList = [.tmp 4] := by kernel_rfl
@[go_sem] theorem Tryz.pl_rs31 : Tryz.f31.results.toList = [.tmp 4] := by kernel_rfl
@[go_sem] theorem Tryz.pl_rs32 : Tryz.f32.results.toList = [.tmp 4] := by kernel_rfl
@[go_sem] theorem Tryz.pl_rs33 : Tryz.f33.results.toList = [.tmp 4] := by kernel_rfl
@[go_sem] theorem Tryz.pl_rs34 : Tryz.f34.results.toList = [.tmp 4] := by kernel_rfl
@[go_sem] theorem Tryz.pl_rs35 : Tryz.f35.results.toList = [.tmp 2] := by kernel_rfl
@[go_sem] theorem Tryz.pl_rs36 : Tryz.f36.results.toList = [.tmp 4] := by kernel_rfl
@[go_sem] theorem Tryz.pl_rs37 : Tryz.f37.results.toList = [.tmp 2] := by kernel_rfl
@[go_sem] theorem Tryz.pl_rs38 : Tryz.f38.results.toList = [.tmp 2] := by kernel_rfl
@[go_sem] theorem Tryz.pl_rs39 : Tryz.f39.results.toList = [.tmp 2] := by kernel_rfl
@[go_sem] theorem Tryz.pl_rs40 : Tryz.f40.results.toList = [.tmp 6] := by kernel_rfl
@[go_sem] theorem Tryz.pl_rs41 : Tryz.f41.results.toList = [.tmp 4] := by kernel_rfl
@[go_sem] theorem Tryz.pl_rs42 : Tryz.f42.results.toList = [.tmp 6, .tmp 7] := by kernel_rfl
@[go_sem] theorem Tryz.pl_rs43 : Tryz.f43.results.toList = [.tmp 4] := by kernel_rfl
@[go_sem] theorem Tryz.pl_rs44 : Tryz.f44.results.toList = [.tmp 4] := by kernel_rfl
@[go_sem] theorem Tryz.pl_rs45 : Tryz.f45.results.toList = [.tmp 4] := by kernel_rfl
@[go_sem] theorem Tryz.pl_rs46 : Tryz.f46.results.toList = [.tmp 2] := by kernel_rfl
@[go_sem] theorem Tryz.pl_rs47 : Tryz.f47.results.toList = [.cell 2 39] := by kernel_rfl
@[go_sem] theorem Tryz.pl_rs48 : Tryz.f48.results.toList = [.tmp 2] := by kernel_rfl
@[go_sem] theorem Tryz.pl_rs49 : Tryz.f49.results.toList = [.cell 2 86] := by kernel_rfl
@[go_sem] theorem Tryz.pl_rs50 : Tryz.f50.results.toList = [.tmp 2] := by kernel_rfl
@[go_sem] theorem Tryz.pl_rs51 : Tryz.f51.results.toList = [.tmp 2] := by kernel_rfl
@[go_sem] theorem Tryz.pl_rs52 : Tryz.f52.results.toList = [.tmp 2] := by kernel_rfl
@[go_sem] theorem Tryz.pl_rs53 : Tryz.f53.results.toList = [.tmp 6] := by kernel_rfl
@[go_sem] theorem Tryz.pl_rs54 : Tryz.f54.results.toList = [.tmp 4] := by kernel_rfl
@[go_sem] theorem Tryz.pl_rs55 : Tryz.f55.results.toList = [.tmp 4] := by kernel_rfl
@[go_sem] theorem Tryz.pl_rs56 : Tryz.f56.results.toList = [.tmp 6, .tmp 7] := by kernel_rfl
@[go_sem] theorem Tryz.pl_rs57 : Tryz.f57.results.toList = [.tmp 4] := by kernel_rfl
@[go_sem] theorem Tryz.pl_rs58 : Tryz.f58.results.toList = [.tmp 4] := by kernel_rfl
@[go_sem] theorem Tryz.pl_rs59 : Tryz.f59.results.toList = [.tmp 4] := by kernel_rfl
@[go_sem] theorem Tryz.pl_rs60 : Tryz.f60.results.toList = [.tmp 2] := by kernel_rfl
@[go_sem] theorem Tryz.pl_rs61 : Tryz.f61.results.toList = [.tmp 4] := by kernel_rfl
@[go_sem] theorem Tryz.pl_rs62 : Tryz.f62.results.toList = [.tmp 4] := by kernel_rfl
@[go_sem] theorem Tryz.pl_rs63 : Tryz.f63.results.toList = [.tmp 4] := by kernel_rfl
@[go_sem] theorem Tryz.pl_rs64 : Tryz.f64.results.toList = [.tmp 4] := by kernel_rfl
@[go_sem] theorem Tryz.pl_rs65 : Tryz.f65.results.toList = [.tmp 2] := by kernel_rfl
@[go_sem] theorem Tryz.pl_rs66 : Tryz.f66.results.toList = [.tmp 2] := by kernel_rfl
@[go_sem] theorem Tryz.pl_rs67 : Tryz.f67.results.toList = [.tmp 6, .tmp 7] := by kernel_rfl
@[go_sem] theorem Tryz.pl_rs68 : Tryz.f68.results.toList = [.cell 6 78, .tmp 7] := by kernel_rfl
@[go_sem] theorem Tryz.pl_rs69 : Tryz.f69.results.toList = [.tmp 4] := by kernel_rfl
@[go_sem] theorem Tryz.pl_rs70 : Tryz.f70.results.toList = [.cell 2 37] := by kernel_rfl
@[go_sem] theorem Tryz.pl_rs71 : Tryz.f71.results.toList = [.cell 2 78] := by kernel_rfl
@[go_sem] theorem Tryz.pl_rs72 : Tryz.f72.results.toList = [.tmp 2] := by kernel_rfl
@[go_sem] theorem Tryz.pl_rs73 : Tryz.f73.results.toList = [.tmp 2] := by kernel_rfl
@[go_sem] theorem Tryz.pl_rs74 : Tryz.f74.results.toList = [.tmp 6, .tmp 7] := by kernel_rfl
@[go_sem] theorem Tryz.pl_rs75 : Tryz.f75.results.toList = [.cell 6 78, .tmp 7] := by kernel_rfl
@[go_sem] theorem Tryz.pl_rs76 : Tryz.f76.results.toList = [.tmp 4] := by kernel_rfl
@[go_sem] theorem Tryz.pl_rs77 : Tryz.f77.results.toList = [.tmp 2] := by kernel_rfl
@[go_sem] theorem Tryz.pl_rs78 : Tryz.f78.results.toList = [.tmp 4] := by kernel_rfl
@[go_sem] theorem Tryz.pl_rs79 : Tryz.f79.results.toList = [.tmp 4] := by kernel_rfl
@[go_sem] theorem Tryz.pl_rs80 : Tryz.f80.results.toList = [.tmp 6] := by kernel_rfl
@[go_sem] theorem Tryz.pl_rs81 : Tryz.f81.results.toList = [.tmp 6] := by kernel_rfl
@[go_sem] theorem Tryz.pl_rs82 : Tryz.f82.results.toList = [.tmp 2] := by kernel_rfl
@[go_sem] theorem Tryz.pl_rs83 : Tryz.f83.results.toList = [.tmp 2] := by kernel_rfl
@[go_sem] theorem Tryz.pl_rs84 : Tryz.f84.results.toList = [.tmp 2] := by kernel_rfl
@[go_sem] theorem Tryz.pl_rs85 : Tryz.f85.results.toList = [.tmp 4, .tmp 5] := by kernel_rfl
@[go_sem] theorem Tryz.pl_rs86 : Tryz.f86.results.toList = [.tmp 2] := by kernel_rfl
@[go_sem] theorem Tryz.pl_rs87 : Tryz.f87.results.toList = [.tmp 4] := by kernel_rfl
@[go_sem] theorem Tryz.pl_rs88 : Tryz.f88.results.toList = [.tmp 2] := by kernel_rfl
@[go_sem] theorem Tryz.pl_rs89 : Tryz.f89.results.toList = [.tmp 2] := by kernel_rfl
@[go_sem] theorem Tryz.pl_rs90 : Tryz.f90.results.toList = [.tmp 6] := by kernel_rfl
@[go_sem] theorem Tryz.pl_rs91 : Tryz.f91.results.toList = [.tmp 2] := by kernel_rfl
@[go_sem] theorem Tryz.pl_rs92 : Tryz.f92.results.toList = [.tmp 6] := by kernel_rfl
@[go_sem] theorem Tryz.pl_rs93 : Tryz.f93.results.toList = [.tmp 2] := by kernel_rfl
@[go_sem] theorem Tryz.pl_rs94 : Tryz.f94.results.toList = [.tmp 2] := by kernel_rfl
@[go_sem] theorem Tryz.pl_rs95 : Tryz.f95.results.toList = [] := by kernel_rfl
@[go_sem] theorem Tryz.pl_rs96 : Tryz.f96.results.toList = [.tmp 10, .tmp 11] := by kernel_rfl
@[go_sem] theorem Tryz.pl_rs97 : Tryz.f97.results.toList = [.tmp 2] := by kernel_rfl
@[go_sem] theorem Tryz.pl_rs98 : Tryz.f98.results.toList = [.tmp 2] := by kernel_rfl
@[go_sem] theorem Tryz.pl_rs99 : Tryz.f99.results.toList = [.tmp 2] := by kernel_rfl
@[go_sem] theorem Tryz.pl_rs100 : Tryz.f100.results.toList = [.tmp 2] := by kernel_rfl
@[go_sem] theorem Tryz.pl_rs101 : Tryz.f101.results.toList = [.tmp 2] := by kernel_rfl
@[go_sem] theorem Tryz.pl_rs102 : Tryz.f102.results.toList = [.tmp 2] := by kernel_rfl
@[go_sem] theorem Tryz.pl_rs103 : Tryz.f103.results.toList = [.tmp 2] := by kernel_rfl
@[go_sem] theorem Tryz.pl_rs104 : Tryz.f104.results.toList = [.tmp 2] := by kernel_rfl
@[go_sem] theorem Tryz.pl_rs105 : Tryz.f105.results.toList = [] := by kernel_rfl
@[go_sem] theorem Tryz.pl_rs106 : Tryz.f106.results.toList = [] := by kernel_rfl
@[go_sem] theorem Tryz.pl_rs107 : Tryz.f107.results.toList = [] := by kernel_rfl
@[go_sem] theorem Tryz.pl_rs108 : Tryz.f108.results.toList = [] := by kernel_rfl
@[go_sem] theorem Tryz.pl_rs109 : Tryz.f109.results.toList = [] := by kernel_rfl
@[go_sem] theorem Tryz.pl_rs110 : Tryz.f110.results.toList = [] := by kernel_rfl
@[go_sem] theorem Tryz.pl_rs111 : Tryz.f111.results.toList = [] := by kernel_rfl
@[go_sem] theorem Tryz.pl_rs112 : Tryz.f112.results.toList = [] := by kernel_rfl
@[go_sem] theorem Tryz.pl_rs113 : Tryz.f113.results.toList = [] := by kernel_rfl
@[go_sem] theorem Tryz.pl_rs114 : Tryz.f114.results.toList = [] := by kernel_rfl
@[go_sem] theorem Tryz.pl_rs115 : Tryz.f115.results.toList = [] := by kernel_rfl
@[go_sem] theorem Tryz.pl_rs116 : Tryz.f116.results.toList = [] := by kernel_rfl
@[go_sem] theorem Tryz.pl_rs117 : Tryz.f117.results.toList = [] := by kernel_rfl
@[go_sem] theorem Tryz.pl_rs118 : Tryz.f118.results.toList = [] := by kernel_rfl
@[go_sem] theorem Tryz.pl_rs119 : Tryz.f119.results.toList = [] := by kernel_rfl
@[go_sem] theorem Tryz.pl_rs120 : Tryz.f120.results.toList = [] := by kernel_rfl
@[go_sem] theorem Tryz.pl_rs121 : Tryz.f121.results.toList = [] := by kernel_rfl
@[go_sem] theorem Tryz.pl_rs122 : Tryz.f122.results.toList = [] := by kernel_rfl
@[go_sem] theorem Tryz.pl_rs123 : Tryz.f123.results.toList = [] := by kernel_rfl
@[go_sem] theorem Tryz.pl_rs124 : Tryz.f124.results.toList = [] := by kernel_rfl
@[go_sem] theorem Tryz.pl_rs125 : Tryz.f125.results.toList = [] := by kernel_rfl
@[go_sem] theorem Tryz.pl_rs126 : Tryz.f126.results.toList = [] := by kernel_rfl
theorem Tryz.pl_follows : Tryz.prog.follows .mixedOrders = true := by kernel_rfl
end Go.Proofs
