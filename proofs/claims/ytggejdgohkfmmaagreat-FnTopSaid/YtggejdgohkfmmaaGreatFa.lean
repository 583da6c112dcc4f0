/-
  Facts on the types of this translation: cells, places, zero values. Printed by a program.
-/
import Derived.Test.YtggejdgohkfmmaaGreatRows
import Derived.Test.YtggejdgohkfmmaaGreatEf
import Derived.KernelRfl
namespace Go.Proofs
open Go.PL
@[go_sem] theorem Tryz.pl_agg2 : aggN Tryz.prog 2 = some (none) := by kernel_rfl
@[go_sem] theorem Tryz.pl_sz2 : szOf Tryz.prog 2 = some 1 := by kernel_rfl
@[go_sem] theorem Tryz.pl_zero2 : zeroCs Tryz.prog 2 = some [.int .i64 0] := by kernel_rfl
@[go_sem] theorem Tryz.pl_und2 : Tryz.prog.underlying 2 = some (.int .i64) := by kernel_rfl
@[go_sem] theorem Tryz.pl_agg3 : aggN Tryz.prog 3 = some (none) := by kernel_rfl
@[go_sem] theorem Tryz.pl_sz3 : szOf Tryz.prog 3 = some 1 := by kernel_rfl
@[go_sem] theorem Tryz.pl_zero3 : zeroCs Tryz.prog 3 = some [.int .i64 0] := by kernel_rfl
@[go_sem] theorem Tryz.pl_und3 : Tryz.prog.underlying 3 = some (.int .i64) := by kernel_rfl
@[go_sem] theorem Tryz.pl_agg4 : aggN Tryz.prog 4 = some (none) := by kernel_rfl
@[go_sem] theorem Tryz.pl_sz4 : szOf Tryz.prog 4 = some 1 := by kernel_rfl
@[go_sem] theorem Tryz.pl_zero4 : zeroCs Tryz.prog 4 = some [.bool false] := by kernel_rfl
@[go_sem] theorem Tryz.pl_und4 : Tryz.prog.underlying 4 = some .bool := by kernel_rfl
@[go_sem] theorem Tryz.pl_agg5 : aggN Tryz.prog 5 = some (none) := by kernel_rfl
@[go_sem] theorem Tryz.pl_sz5 : szOf Tryz.prog 5 = some 1 := by kernel_rfl
@[go_sem] theorem Tryz.pl_zero5 : zeroCs Tryz.prog 5 = some [.int .u8 0] := by kernel_rfl
@[go_sem] theorem Tryz.pl_und5 : Tryz.prog.underlying 5 = some (.int .u8) := by kernel_rfl
@[go_sem] theorem Tryz.pl_agg6 : aggN Tryz.prog 6 = some (none) := by kernel_rfl
@[go_sem] theorem Tryz.pl_sz6 : szOf Tryz.prog 6 = some 1 := by kernel_rfl
@[go_sem] theorem Tryz.pl_zero6 : zeroCs Tryz.prog 6 = some [.int .u8 0] := by kernel_rfl
@[go_sem] theorem Tryz.pl_und6 : Tryz.prog.underlying 6 = some (.int .u8) := by kernel_rfl
@[go_sem] theorem Tryz.pl_agg7 : aggN Tryz.prog 7 = some (some 4) := by kernel_rfl
@[go_sem] theorem Tryz.pl_sz7 : szOf Tryz.prog 7 = some 4 := by kernel_rfl
@[go_sem] theorem Tryz.pl_zero7 : zeroCs Tryz.prog 7 = some [.int .i64 0, .int .i64 0, .bool false, .int .u8 0] := by kernel_rfl
@[go_sem] theorem Tryz.pl_str7 : structP Tryz.prog 7 = some ([.int .i64 0, .int .i64 0, .bool false, .int .u8 0], [(0, 1), (1, 1), (2, 1), (3, 1)]) := by kernel_rfl
@[go_sem] theorem Tryz.pl_off7x0 : fOff Tryz.prog 7 0 = some (0, 1) := by kernel_rfl
@[go_sem] theorem Tryz.pl_part7x0 : fPart Tryz.prog 7 0 = some (0, none) := by kernel_rfl
@[go_sem] theorem Tryz.pl_off7x1 : fOff Tryz.prog 7 1 = some (1, 1) := by kernel_rfl
@[go_sem] theorem Tryz.pl_part7x1 : fPart Tryz.prog 7 1 = some (1, none) := by kernel_rfl
@[go_sem] theorem Tryz.pl_off7x2 : fOff Tryz.prog 7 2 = some (2, 1) := by kernel_rfl
@[go_sem] theorem Tryz.pl_part7x2 : fPart Tryz.prog 7 2 = some (2, none) := by kernel_rfl
@[go_sem] theorem Tryz.pl_off7x3 : fOff Tryz.prog 7 3 = some (3, 1) := by kernel_rfl
@[go_sem] theorem Tryz.pl_part7x3 : fPart Tryz.prog 7 3 = some (3, none) := by kernel_rfl
@[go_sem] theorem Tryz.pl_agg8 : aggN Tryz.prog 8 = some (some 4) := by kernel_rfl
@[go_sem] theorem Tryz.pl_sz8 : szOf Tryz.prog 8 = some 4 := by kernel_rfl
@[go_sem] theorem Tryz.pl_zero8 : zeroCs Tryz.prog 8 = some [.int .i64 0, .int .i64 0, .bool false, .int .u8 0] := by kernel_rfl
@[go_sem] theorem Tryz.pl_str8 : structP Tryz.prog 8 = some ([.int .i64 0, .int .i64 0, .bool false, .int .u8 0], [(0, 1), (1, 1), (2, 1), (3, 1)]) := by kernel_rfl
@[go_sem] theorem Tryz.pl_off8x0 : fOff Tryz.prog 8 0 = some (0, 1) := by kernel_rfl
@[go_sem] theorem Tryz.pl_part8x0 : fPart Tryz.prog 8 0 = some (0, none) := by kernel_rfl
@[go_sem] theorem Tryz.pl_off8x1 : fOff Tryz.prog 8 1 = some (1, 1) := by kernel_rfl
@[go_sem] theorem Tryz.pl_part8x1 : fPart Tryz.prog 8 1 = some (1, none) := by kernel_rfl
@[go_sem] theorem Tryz.pl_off8x2 : fOff Tryz.prog 8 2 = some (2, 1) := by kernel_rfl
@[go_sem] theorem Tryz.pl_part8x2 : fPart Tryz.prog 8 2 = some (2, none) := by kernel_rfl
@[go_sem] theorem Tryz.pl_off8x3 : fOff Tryz.prog 8 3 = some (3, 1) := by kernel_rfl
@[go_sem] theorem Tryz.pl_part8x3 : fPart Tryz.prog 8 3 = some (3, none) := by kernel_rfl
@[go_sem] theorem Tryz.pl_agg9 : aggN Tryz.prog 9 = some (none) := by kernel_rfl
@[go_sem] theorem Tryz.pl_sz9 : szOf Tryz.prog 9 = some 1 := by kernel_rfl
@[go_sem] theorem Tryz.pl_zero9 : zeroCs Tryz.prog 9 = some [.string .empty] := by kernel_rfl
@[go_sem] theorem Tryz.pl_und9 : Tryz.prog.underlying 9 = some .string := by kernel_rfl
@[go_sem] theorem Tryz.pl_agg10 : aggN Tryz.prog 10 = some (none) := by kernel_rfl
@[go_sem] theorem Tryz.pl_sz10 : szOf Tryz.prog 10 = some 1 := by kernel_rfl
@[go_sem] theorem Tryz.pl_zero10 : zeroCs Tryz.prog 10 = some [.string .empty] := by kernel_rfl
@[go_sem] theorem Tryz.pl_und10 : Tryz.prog.underlying 10 = some .string := by kernel_rfl
@[go_sem] theorem Tryz.pl_agg11 : aggN Tryz.prog 11 = some (none) := by kernel_rfl
@[go_sem] theorem Tryz.pl_sz11 : szOf Tryz.prog 11 = some 1 := by kernel_rfl
@[go_sem] theorem Tryz.pl_zero11 : zeroCs Tryz.prog 11 = some [.string .empty] := by kernel_rfl
@[go_sem] theorem Tryz.pl_und11 : Tryz.prog.underlying 11 = some .string := by kernel_rfl
@[go_sem] theorem Tryz.pl_agg12 : aggN Tryz.prog 12 = some (none) := by kernel_rfl
@[go_sem] theorem Tryz.pl_sz12 : szOf Tryz.prog 12 = some 1 := by kernel_rfl
@[go_sem] theorem Tryz.pl_zero12 : zeroCs Tryz.prog 12 = some [.int .u64 0] := by kernel_rfl
@[go_sem] theorem Tryz.pl_und12 : Tryz.prog.underlying 12 = some (.int .u64) := by kernel_rfl
@[go_sem] theorem Tryz.pl_agg13 : aggN Tryz.prog 13 = some (some 2) := by kernel_rfl
@[go_sem] theorem Tryz.pl_sz13 : szOf Tryz.prog 13 = some 2 := by kernel_rfl
@[go_sem] theorem Tryz.pl_zero13 : zeroCs Tryz.prog 13 = some [.string .empty, .int .u64 0] := by kernel_rfl
@[go_sem] theorem Tryz.pl_str13 : structP Tryz.prog 13 = some ([.string .empty, .int .u64 0], [(0, 1), (1, 1)]) := by kernel_rfl
@[go_sem] theorem Tryz.pl_off13x0 : fOff Tryz.prog 13 0 = some (0, 1) := by kernel_rfl
@[go_sem] theorem Tryz.pl_part13x0 : fPart Tryz.prog 13 0 = some (0, none) := by kernel_rfl
@[go_sem] theorem Tryz.pl_off13x1 : fOff Tryz.prog 13 1 = some (1, 1) := by kernel_rfl
@[go_sem] theorem Tryz.pl_part13x1 : fPart Tryz.prog 13 1 = some (1, none) := by kernel_rfl
@[go_sem] theorem Tryz.pl_agg14 : aggN Tryz.prog 14 = some (some 2) := by kernel_rfl
@[go_sem] theorem Tryz.pl_sz14 : szOf Tryz.prog 14 = some 2 := by kernel_rfl
@[go_sem] theorem Tryz.pl_zero14 : zeroCs Tryz.prog 14 = some [.string .empty, .int .u64 0] := by kernel_rfl
@[go_sem] theorem Tryz.pl_str14 : structP Tryz.prog 14 = some ([.string .empty, .int .u64 0], [(0, 1), (1, 1)]) := by kernel_rfl
@[go_sem] theorem Tryz.pl_off14x0 : fOff Tryz.prog 14 0 = some (0, 1) := by kernel_rfl
@[go_sem] theorem Tryz.pl_part14x0 : fPart Tryz.prog 14 0 = some (0, none) := by kernel_rfl
@[go_sem] theorem Tryz.pl_off14x1 : fOff Tryz.prog 14 1 = some (1, 1) := by kernel_rfl
@[go_sem] theorem Tryz.pl_part14x1 : fPart Tryz.prog 14 1 = some (1, none) := by kernel_rfl
@[go_sem] theorem Tryz.pl_agg15 : aggN Tryz.prog 15 = some (none) := by kernel_rfl
@[go_sem] theorem Tryz.pl_sz15 : szOf Tryz.prog 15 = some 1 := by kernel_rfl
@[go_sem] theorem Tryz.pl_zero15 : zeroCs Tryz.prog 15 = some [.pointer none] := by kernel_rfl
@[go_sem] theorem Tryz.pl_agg16 : aggN Tryz.prog 16 = some (none) := by kernel_rfl
@[go_sem] theorem Tryz.pl_sz16 : szOf Tryz.prog 16 = some 1 := by kernel_rfl
@[go_sem] theorem Tryz.pl_zero16 : zeroCs Tryz.prog 16 = some [.pointer none] := by kernel_rfl
@[go_sem] theorem Tryz.pl_agg17 : aggN Tryz.prog 17 = some (none) := by kernel_rfl
@[go_sem] theorem Tryz.pl_sz17 : szOf Tryz.prog 17 = some 1 := by kernel_rfl
@[go_sem] theorem Tryz.pl_zero17 : zeroCs Tryz.prog 17 = some [.pointer none] := by kernel_rfl
@[go_sem] theorem Tryz.pl_agg18 : aggN Tryz.prog 18 = some (some 1) := by kernel_rfl
@[go_sem] theorem Tryz.pl_sz18 : szOf Tryz.prog 18 = some 1 := by kernel_rfl
@[go_sem] theorem Tryz.pl_zero18 : zeroCs Tryz.prog 18 = some [.pointer none] := by kernel_rfl
@[go_sem] theorem Tryz.pl_str18 : structP Tryz.prog 18 = some ([.pointer none], [(0, 1)]) := by kernel_rfl
@[go_sem] theorem Tryz.pl_off18x0 : fOff Tryz.prog 18 0 = some (0, 1) := by kernel_rfl
@[go_sem] theorem Tryz.pl_part18x0 : fPart Tryz.prog 18 0 = some (0, none) := by kernel_rfl
@[go_sem] theorem Tryz.pl_agg19 : aggN Tryz.prog 19 = some (some 1) := by kernel_rfl
@[go_sem] theorem Tryz.pl_sz19 : szOf Tryz.prog 19 = some 1 := by kernel_rfl
@[go_sem] theorem Tryz.pl_zero19 : zeroCs Tryz.prog 19 = some [.pointer none] := by kernel_rfl
@[go_sem] theorem Tryz.pl_str19 : structP Tryz.prog 19 = some ([.pointer none], [(0, 1)]) := by kernel_rfl
@[go_sem] theorem Tryz.pl_off19x0 : fOff Tryz.prog 19 0 = some (0, 1) := by kernel_rfl
@[go_sem] theorem Tryz.pl_part19x0 : fPart Tryz.prog 19 0 = some (0, none) := by kernel_rfl
@[go_sem] theorem Tryz.pl_agg21 : aggN Tryz.prog 21 = some (none) := by kernel_rfl
@[go_sem] theorem Tryz.pl_sz21 : szOf Tryz.prog 21 = some 1 := by kernel_rfl
@[go_sem] theorem Tryz.pl_zero21 : zeroCs Tryz.prog 21 = some [.int .i32 0] := by kernel_rfl
@[go_sem] theorem Tryz.pl_und21 : Tryz.prog.underlying 21 = some (.int .i32) := by kernel_rfl
@[go_sem] theorem Tryz.pl_agg22 : aggN Tryz.prog 22 = some (none) := by kernel_rfl
@[go_sem] theorem Tryz.pl_sz22 : szOf Tryz.prog 22 = some 1 := by kernel_rfl
@[go_sem] theorem Tryz.pl_zero22 : zeroCs Tryz.prog 22 = some [.slice none 0 0] := by kernel_rfl
@[go_sem] theorem Tryz.pl_und22 : Tryz.prog.underlying 22 = some (.slice 5) := by kernel_rfl
@[go_sem] theorem Tryz.pl_zv22 : zeroV Tryz.prog 5 = some (.int .u8 0) := by kernel_rfl
@[go_sem] theorem Tryz.pl_esz22 : eSz Tryz.prog 22 = some (5, 1) := by kernel_rfl
@[go_sem] theorem Tryz.pl_einf22 : eInf Tryz.prog 22 = some (5, 1, 1) := by kernel_rfl
@[go_sem] theorem Tryz.pl_agg24 : aggN Tryz.prog 24 = some (some 3) := by kernel_rfl
@[go_sem] theorem Tryz.pl_sz24 : szOf Tryz.prog 24 = some 3 := by kernel_rfl
@[go_sem] theorem Tryz.pl_zero24 : zeroCs Tryz.prog 24 = some [.int .i64 0, .int .i64 0, .int .i64 0] := by kernel_rfl
@[go_sem] theorem Tryz.pl_str24 : structP Tryz.prog 24 = some ([.int .i64 0, .int .i64 0, .int .i64 0], [(0, 1), (1, 1), (2, 1)]) := by kernel_rfl
@[go_sem] theorem Tryz.pl_off24x0 : fOff Tryz.prog 24 0 = some (0, 1) := by kernel_rfl
@[go_sem] theorem Tryz.pl_part24x0 : fPart Tryz.prog 24 0 = some (0, none) := by kernel_rfl
@[go_sem] theorem Tryz.pl_off24x1 : fOff Tryz.prog 24 1 = some (1, 1) := by kernel_rfl
@[go_sem] theorem Tryz.pl_part24x1 : fPart Tryz.prog 24 1 = some (1, none) := by kernel_rfl
@[go_sem] theorem Tryz.pl_off24x2 : fOff Tryz.prog 24 2 = some (2, 1) := by kernel_rfl
@[go_sem] theorem Tryz.pl_part24x2 : fPart Tryz.prog 24 2 = some (2, none) := by kernel_rfl
@[go_sem] theorem Tryz.pl_agg25 : aggN Tryz.prog 25 = some (some 3) := by kernel_rfl
@[go_sem] theorem Tryz.pl_sz25 : szOf Tryz.prog 25 = some 3 := by kernel_rfl
@[go_sem] theorem Tryz.pl_zero25 : zeroCs Tryz.prog 25 = some [.int .i64 0, .int .i64 0, .int .i64 0] := by kernel_rfl
@[go_sem] theorem Tryz.pl_str25 : structP Tryz.prog 25 = some ([.int .i64 0, .int .i64 0, .int .i64 0], [(0, 1), (1, 1), (2, 1)]) := by kernel_rfl
@[go_sem] theorem Tryz.pl_off25x0 : fOff Tryz.prog 25 0 = some (0, 1) := by kernel_rfl
@[go_sem] theorem Tryz.pl_part25x0 : fPart Tryz.prog 25 0 = some (0, none) := by kernel_rfl
@[go_sem] theorem Tryz.pl_off25x1 : fOff Tryz.prog 25 1 = some (1, 1) := by kernel_rfl
@[go_sem] theorem Tryz.pl_part25x1 : fPart Tryz.prog 25 1 = some (1, none) := by kernel_rfl
@[go_sem] theorem Tryz.pl_off25x2 : fOff Tryz.prog 25 2 = some (2, 1) := by kernel_rfl
@[go_sem] theorem Tryz.pl_part25x2 : fPart Tryz.prog 25 2 = some (2, none) := by kernel_rfl
@[go_sem] theorem Tryz.pl_agg26 : aggN Tryz.prog 26 = some (some 5) := by kernel_rfl
@[go_sem] theorem Tryz.pl_sz26 : szOf Tryz.prog 26 = some 5 := by kernel_rfl
@[go_sem] theorem Tryz.pl_zero26 : zeroCs Tryz.prog 26 = some [.int .i64 0, .int .i64 0, .int .i64 0, .int .i64 0, .int .i64 0] := by kernel_rfl
@[go_sem] theorem Tryz.pl_str26 : structP Tryz.prog 26 = some ([.int .i64 0, .int .i64 0, .int .i64 0, .int .i64 0, .int .i64 0], [(0, 3), (3, 1), (4, 1)]) := by kernel_rfl
@[go_sem] theorem Tryz.pl_off26x0 : fOff Tryz.prog 26 0 = some (0, 3) := by kernel_rfl
@[go_sem] theorem Tryz.pl_part26x0 : fPart Tryz.prog 26 0 = some (0, some 3) := by kernel_rfl
@[go_sem] theorem Tryz.pl_off26x1 : fOff Tryz.prog 26 1 = some (3, 1) := by kernel_rfl
@[go_sem] theorem Tryz.pl_part26x1 : fPart Tryz.prog 26 1 = some (3, none) := by kernel_rfl
@[go_sem] theorem Tryz.pl_off26x2 : fOff Tryz.prog 26 2 = some (4, 1) := by kernel_rfl
@[go_sem] theorem Tryz.pl_part26x2 : fPart Tryz.prog 26 2 = some (4, none) := by kernel_rfl
@[go_sem] theorem Tryz.pl_agg27 : aggN Tryz.prog 27 = some (some 5) := by kernel_rfl
@[go_sem] theorem Tryz.pl_sz27 : szOf Tryz.prog 27 = some 5 := by kernel_rfl
@[go_sem] theorem Tryz.pl_zero27 : zeroCs Tryz.prog 27 = some [.int .i64 0, .int .i64 0, .int .i64 0, .int .i64 0, .int .i64 0] := by kernel_rfl
@[go_sem] theorem Tryz.pl_str27 : structP Tryz.prog 27 = some ([.int .i64 0, .int .i64 0, .int .i64 0, .int .i64 0, .int .i64 0], [(0, 3), (3, 1), (4, 1)]) := by kernel_rfl
@[go_sem] theorem Tryz.pl_off27x0 : fOff Tryz.prog 27 0 = some (0, 3) := by kernel_rfl
@[go_sem] theorem Tryz.pl_part27x0 : fPart Tryz.prog 27 0 = some (0, some 3) := by kernel_rfl
@[go_sem] theorem Tryz.pl_off27x1 : fOff Tryz.prog 27 1 = some (3, 1) := by kernel_rfl
@[go_sem] theorem Tryz.pl_part27x1 : fPart Tryz.prog 27 1 = some (3, none) := by kernel_rfl
@[go_sem] theorem Tryz.pl_off27x2 : fOff Tryz.prog 27 2 = some (4, 1) := by kernel_rfl
@[go_sem] theorem Tryz.pl_part27x2 : fPart Tryz.prog 27 2 = some (4, none) := by kernel_rfl
@[go_sem] theorem Tryz.pl_agg28 : aggN Tryz.prog 28 = some (none) := by kernel_rfl
@[go_sem] theorem Tryz.pl_sz28 : szOf Tryz.prog 28 = some 1 := by kernel_rfl
@[go_sem] theorem Tryz.pl_zero28 : zeroCs Tryz.prog 28 = some [.slice none 0 0] := by kernel_rfl
@[go_sem] theorem Tryz.pl_und28 : Tryz.prog.underlying 28 = some (.slice 58) := by kernel_rfl
@[go_sem] theorem Tryz.pl_zv28 : zeroV Tryz.prog 58 = some (.agg #[.int .i64 0, .int .i64 0, .int .i64 0]) := by kernel_rfl
@[go_sem] theorem Tryz.pl_esz28 : eSz Tryz.prog 28 = some (58, 3) := by kernel_rfl
@[go_sem] theorem Tryz.pl_einf28 : eInf Tryz.prog 28 = some (58, 3, 24) := by kernel_rfl
@[go_sem] theorem Tryz.pl_agg29 : aggN Tryz.prog 29 = some (some 8) := by kernel_rfl
@[go_sem] theorem Tryz.pl_sz29 : szOf Tryz.prog 29 = some 8 := by kernel_rfl
@[go_sem] theorem Tryz.pl_zero29 : zeroCs Tryz.prog 29 = some [.int .i64 0, .int .i64 0, .int .i64 0, .int .i64 0, .int .i64 0, .slice none 0 0, .int .i64 0, .int .i64 0] := by kernel_rfl
@[go_sem] theorem Tryz.pl_str29 : structP Tryz.prog 29 = some ([.int .i64 0, .int .i64 0, .int .i64 0, .int .i64 0, .int .i64 0, .slice none 0 0, .int .i64 0, .int .i64 0], [(0, 5), (5, 1), (6, 1), (7, 1)]) := by kernel_rfl
@[go_sem] theorem Tryz.pl_off29x0 : fOff Tryz.prog 29 0 = some (0, 5) := by kernel_rfl
@[go_sem] theorem Tryz.pl_part29x0 : fPart Tryz.prog 29 0 = some (0, some 5) := by kernel_rfl
@[go_sem] theorem Tryz.pl_off29x1 : fOff Tryz.prog 29 1 = some (5, 1) := by kernel_rfl
@[go_sem] theorem Tryz.pl_part29x1 : fPart Tryz.prog 29 1 = some (5, none) := by kernel_rfl
@[go_sem] theorem Tryz.pl_off29x2 : fOff Tryz.prog 29 2 = some (6, 1) := by kernel_rfl
@[go_sem] theorem Tryz.pl_part29x2 : fPart Tryz.prog 29 2 = some (6, none) := by kernel_rfl
@[go_sem] theorem Tryz.pl_off29x3 : fOff Tryz.prog 29 3 = some (7, 1) := by kernel_rfl
@[go_sem] theorem Tryz.pl_part29x3 : fPart Tryz.prog 29 3 = some (7, none) := by kernel_rfl
@[go_sem] theorem Tryz.pl_agg30 : aggN Tryz.prog 30 = some (some 8) := by kernel_rfl
@[go_sem] theorem Tryz.pl_sz30 : szOf Tryz.prog 30 = some 8 := by kernel_rfl
@[go_sem] theorem Tryz.pl_zero30 : zeroCs Tryz.prog 30 = some [.int .i64 0, .int .i64 0, .int .i64 0, .int .i64 0, .int .i64 0, .slice none 0 0, .int .i64 0, .int .i64 0] := by kernel_rfl
@[go_sem] theorem Tryz.pl_str30 : structP Tryz.prog 30 = some ([.int .i64 0, .int .i64 0, .int .i64 0, .int .i64 0, .int .i64 0, .slice none 0 0, .int .i64 0, .int .i64 0], [(0, 5), (5, 1), (6, 1), (7, 1)]) := by kernel_rfl
@[go_sem] theorem Tryz.pl_off30x0 : fOff Tryz.prog 30 0 = some (0, 5) := by kernel_rfl
@[go_sem] theorem Tryz.pl_part30x0 : fPart Tryz.prog 30 0 = some (0, some 5) := by kernel_rfl
@[go_sem] theorem Tryz.pl_off30x1 : fOff Tryz.prog 30 1 = some (5, 1) := by kernel_rfl
@[go_sem] theorem Tryz.pl_part30x1 : fPart Tryz.prog 30 1 = some (5, none) := by kernel_rfl
@[go_sem] theorem Tryz.pl_off30x2 : fOff Tryz.prog 30 2 = some (6, 1) := by kernel_rfl
@[go_sem] theorem Tryz.pl_part30x2 : fPart Tryz.prog 30 2 = some (6, none) := by kernel_rfl
@[go_sem] theorem Tryz.pl_off30x3 : fOff Tryz.prog 30 3 = some (7, 1) := by kernel_rfl
@[go_sem] theorem Tryz.pl_part30x3 : fPart Tryz.prog 30 3 = some (7, none) := by kernel_rfl
@[go_sem] theorem Tryz.pl_agg31 : aggN Tryz.prog 31 = some (some 3) := by kernel_rfl
@[go_sem] theorem Tryz.pl_sz31 : szOf Tryz.prog 31 = some 3 := by kernel_rfl
@[go_sem] theorem Tryz.pl_zero31 : zeroCs Tryz.prog 31 = some [.int .i64 0, .int .i64 0, .int .i64 0] := by kernel_rfl
@[go_sem] theorem Tryz.pl_str31 : structP Tryz.prog 31 = some ([.int .i64 0, .int .i64 0, .int .i64 0], [(0, 1), (1, 1), (2, 1)]) := by kernel_rfl
@[go_sem] theorem Tryz.pl_off31x0 : fOff Tryz.prog 31 0 = some (0, 1) := by kernel_rfl
@[go_sem] theorem Tryz.pl_part31x0 : fPart Tryz.prog 31 0 = some (0, none) := by kernel_rfl
@[go_sem] theorem Tryz.pl_off31x1 : fOff Tryz.prog 31 1 = some (1, 1) := by kernel_rfl
@[go_sem] theorem Tryz.pl_part31x1 : fPart Tryz.prog 31 1 = some (1, none) := by kernel_rfl
@[go_sem] theorem Tryz.pl_off31x2 : fOff Tryz.prog 31 2 = some (2, 1) := by kernel_rfl
@[go_sem] theorem Tryz.pl_part31x2 : fPart Tryz.prog 31 2 = some (2, none) := by kernel_rfl
@[go_sem] theorem Tryz.pl_agg32 : aggN Tryz.prog 32 = some (some 3) := by kernel_rfl
@[go_sem] theorem Tryz.pl_sz32 : szOf Tryz.prog 32 = some 3 := by kernel_rfl
@[go_sem] theorem Tryz.pl_zero32 : zeroCs Tryz.prog 32 = some [.int .i64 0, .int .i64 0, .int .i64 0] := by kernel_rfl
@[go_sem] theorem Tryz.pl_str32 : structP Tryz.prog 32 = some ([.int .i64 0, .int .i64 0, .int .i64 0], [(0, 1), (1, 1), (2, 1)]) := by kernel_rfl
@[go_sem] theorem Tryz.pl_off32x0 : fOff Tryz.prog 32 0 = some (0, 1) := by kernel_rfl
@[go_sem] theorem Tryz.pl_part32x0 : fPart Tryz.prog 32 0 = some (0, none) := by kernel_rfl
@[go_sem] theorem Tryz.pl_off32x1 : fOff Tryz.prog 32 1 = some (1, 1) := by kernel_rfl
@[go_sem] theorem Tryz.pl_part32x1 : fPart Tryz.prog 32 1 = some (1, none) := by kernel_rfl
@[go_sem] theorem Tryz.pl_off32x2 : fOff Tryz.prog 32 2 = some (2, 1) := by kernel_rfl
@[go_sem] theorem Tryz.pl_part32x2 : fPart Tryz.prog 32 2 = some (2, none) := by kernel_rfl
@[go_sem] theorem Tryz.pl_agg33 : aggN Tryz.prog 33 = some (none) := by kernel_rfl
@[go_sem] theorem Tryz.pl_sz33 : szOf Tryz.prog 33 = some 1 := by kernel_rfl
@[go_sem] theorem Tryz.pl_zero33 : zeroCs Tryz.prog 33 = some [.slice none 0 0] := by kernel_rfl
@[go_sem] theorem Tryz.pl_und33 : Tryz.prog.underlying 33 = some (.slice 98) := by kernel_rfl
@[go_sem] theorem Tryz.pl_zv33 : zeroV Tryz.prog 98 = some (.agg #[.int .i64 0, .int .i64 0, .int .i64 0, .int .i64 0]) := by kernel_rfl
@[go_sem] theorem Tryz.pl_esz33 : eSz Tryz.prog 33 = some (98, 4) := by kernel_rfl
@[go_sem] theorem Tryz.pl_einf33 : eInf Tryz.prog 33 = some (98, 4, 32) := by kernel_rfl
@[go_sem] theorem Tryz.pl_agg34 : aggN Tryz.prog 34 = some (some 13) := by kernel_rfl
@[go_sem] theorem Tryz.pl_sz34 : szOf Tryz.prog 34 = some 13 := by kernel_rfl
@[go_sem] theorem Tryz.pl_zero34 : zeroCs Tryz.prog 34 = some [.int .i64 0, .int .i64 0, .int .i64 0, .int .i64 0, .int .i64 0, .slice none 0 0, .int .i64 0, .int .i64 0, .int .i64 0, .int .i64 0, .int .i64 0, .int .i64 0, .slice none 0 0] := by kernel_rfl
@[go_sem] theorem Tryz.pl_str34 : structP Tryz.prog 34 = some ([.int .i64 0, .int .i64 0, .int .i64 0, .int .i64 0, .int .i64 0, .slice none 0 0, .int .i64 0, .int .i64 0, .int .i64 0, .int .i64 0, .int .i64 0, .int .i64 0, .slice none 0 0], [(0, 8), (8, 3), (11, 1), (12, 1)]) := by kernel_rfl
@[go_sem] theorem Tryz.pl_off34x0 : fOff Tryz.prog 34 0 = some (0, 8) := by kernel_rfl
@[go_sem] theorem Tryz.pl_part34x0 : fPart Tryz.prog 34 0 = some (0, some 8) := by kernel_rfl
@[go_sem] theorem Tryz.pl_off34x1 : fOff Tryz.prog 34 1 = some (8, 3) := by kernel_rfl
@[go_sem] theorem Tryz.pl_part34x1 : fPart Tryz.prog 34 1 = some (8, some 3) := by kernel_rfl
@[go_sem] theorem Tryz.pl_off34x2 : fOff Tryz.prog 34 2 = some (11, 1) := by kernel_rfl
@[go_sem] theorem Tryz.pl_part34x2 : fPart Tryz.prog 34 2 = some (11, none) := by kernel_rfl
@[go_sem] theorem Tryz.pl_off34x3 : fOff Tryz.prog 34 3 = some (12, 1) := by kernel_rfl
@[go_sem] theorem Tryz.pl_part34x3 : fPart Tryz.prog 34 3 = some (12, none) := by kernel_rfl
@[go_sem] theorem Tryz.pl_agg35 : aggN Tryz.prog 35 = some (some 13) := by kernel_rfl
@[go_sem] theorem Tryz.pl_sz35 : szOf Tryz.prog 35 = some 13 := by kernel_rfl
@[go_sem] theorem Tryz.pl_zero35 : zeroCs Tryz.prog 35 = some [.int .i64 0, .int .i64 0, .int .i64 0, .int .i64 0, .int .i64 0, .slice none 0 0, .int .i64 0, .int .i64 0, .int .i64 0, .int .i64 0, .int .i64 0, .int .i64 0, .slice none 0 0] := by kernel_rfl
@[go_sem] theorem Tryz.pl_str35 : structP Tryz.prog 35 = some ([.int .i64 0, .int .i64 0, .int .i64 0, .int .i64 0, .int .i64 0, .slice none 0 0, .int .i64 0, .int .i64 0, .int .i64 0, .int .i64 0, .int .i64 0, .int .i64 0, .slice none 0 0], [(0, 8), (8, 3), (11, 1), (12, 1)]) := by kernel_rfl
@[go_sem] theorem Tryz.pl_off35x0 : fOff Tryz.prog 35 0 = some (0, 8) := by kernel_rfl
@[go_sem] theorem Tryz.pl_part35x0 : fPart Tryz.prog 35 0 = some (0, some 8) := by kernel_rfl
@[go_sem] theorem Tryz.pl_off35x1 : fOff Tryz.prog 35 1 = some (8, 3) := by kernel_rfl
@[go_sem] theorem Tryz.pl_part35x1 : fPart Tryz.prog 35 1 = some (8, some 3) := by kernel_rfl
@[go_sem] theorem Tryz.pl_off35x2 : fOff Tryz.prog 35 2 = some (11, 1) := by kernel_rfl
@[go_sem] theorem Tryz.pl_part35x2 : fPart Tryz.prog 35 2 = some (11, none) := by kernel_rfl
@[go_sem] theorem Tryz.pl_off35x3 : fOff Tryz.prog 35 3 = some (12, 1) := by kernel_rfl
@[go_sem] theorem Tryz.pl_part35x3 : fPart Tryz.prog 35 3 = some (12, none) := by kernel_rfl
@[go_sem] theorem Tryz.pl_agg36 : aggN Tryz.prog 36 = some (none) := by kernel_rfl
@[go_sem] theorem Tryz.pl_sz36 : szOf Tryz.prog 36 = some 1 := by kernel_rfl
@[go_sem] theorem Tryz.pl_zero36 : zeroCs Tryz.prog 36 = some [.slice none 0 0] := by kernel_rfl
@[go_sem] theorem Tryz.pl_und36 : Tryz.prog.underlying 36 = some (.slice 42) := by kernel_rfl
@[go_sem] theorem Tryz.pl_zv36 : zeroV Tryz.prog 42 = some (.agg #[.int .i64 0, .int .i64 0, .int .i64 0]) := by kernel_rfl
@[go_sem] theorem Tryz.pl_esz36 : eSz Tryz.prog 36 = some (42, 3) := by kernel_rfl
@[go_sem] theorem Tryz.pl_einf36 : eInf Tryz.prog 36 = some (42, 3, 24) := by kernel_rfl
@[go_sem] theorem Tryz.pl_agg41 : aggN Tryz.prog 41 = some (some 3) := by kernel_rfl
@[go_sem] theorem Tryz.pl_sz41 : szOf Tryz.prog 41 = some 3 := by kernel_rfl
@[go_sem] theorem Tryz.pl_zero41 : zeroCs Tryz.prog 41 = some [.int .i64 0, .int .i64 0, .int .i64 0] := by kernel_rfl
@[go_sem] theorem Tryz.pl_str41 : structP Tryz.prog 41 = some ([.int .i64 0, .int .i64 0, .int .i64 0], [(0, 1), (1, 1), (2, 1)]) := by kernel_rfl
@[go_sem] theorem Tryz.pl_off41x0 : fOff Tryz.prog 41 0 = some (0, 1) := by kernel_rfl
@[go_sem] theorem Tryz.pl_part41x0 : fPart Tryz.prog 41 0 = some (0, none) := by kernel_rfl
@[go_sem] theorem Tryz.pl_off41x1 : fOff Tryz.prog 41 1 = some (1, 1) := by kernel_rfl
@[go_sem] theorem Tryz.pl_part41x1 : fPart Tryz.prog 41 1 = some (1, none) := by kernel_rfl
@[go_sem] theorem Tryz.pl_off41x2 : fOff Tryz.prog 41 2 = some (2, 1) := by kernel_rfl
@[go_sem] theorem Tryz.pl_part41x2 : fPart Tryz.prog 41 2 = some (2, none) := by kernel_rfl
@[go_sem] theorem Tryz.pl_agg42 : aggN Tryz.prog 42 = some (some 3) := by kernel_rfl
@[go_sem] theorem Tryz.pl_sz42 : szOf Tryz.prog 42 = some 3 := by kernel_rfl
@[go_sem] theorem Tryz.pl_zero42 : zeroCs Tryz.prog 42 = some [.int .i64 0, .int .i64 0, .int .i64 0] := by kernel_rfl
@[go_sem] theorem Tryz.pl_str42 : structP Tryz.prog 42 = some ([.int .i64 0, .int .i64 0, .int .i64 0], [(0, 1), (1, 1), (2, 1)]) := by kernel_rfl
@[go_sem] theorem Tryz.pl_off42x0 : fOff Tryz.prog 42 0 = some (0, 1) := by kernel_rfl
@[go_sem] theorem Tryz.pl_part42x0 : fPart Tryz.prog 42 0 = some (0, none) := by kernel_rfl
@[go_sem] theorem Tryz.pl_off42x1 : fOff Tryz.prog 42 1 = some (1, 1) := by kernel_rfl
@[go_sem] theorem Tryz.pl_part42x1 : fPart Tryz.prog 42 1 = some (1, none) := by kernel_rfl
@[go_sem] theorem Tryz.pl_off42x2 : fOff Tryz.prog 42 2 = some (2, 1) := by kernel_rfl
@[go_sem] theorem Tryz.pl_part42x2 : fPart Tryz.prog 42 2 = some (2, none) := by kernel_rfl
@[go_sem] theorem Tryz.pl_agg51 : aggN Tryz.prog 51 = some (none) := by kernel_rfl
@[go_sem] theorem Tryz.pl_sz51 : szOf Tryz.prog 51 = some 1 := by kernel_rfl
@[go_sem] theorem Tryz.pl_zero51 : zeroCs Tryz.prog 51 = some [.pointer none] := by kernel_rfl
@[go_sem] theorem Tryz.pl_agg57 : aggN Tryz.prog 57 = some (some 3) := by kernel_rfl
@[go_sem] theorem Tryz.pl_sz57 : szOf Tryz.prog 57 = some 3 := by kernel_rfl
@[go_sem] theorem Tryz.pl_zero57 : zeroCs Tryz.prog 57 = some [.int .i64 0, .int .i64 0, .int .i64 0] := by kernel_rfl
@[go_sem] theorem Tryz.pl_str57 : structP Tryz.prog 57 = some ([.int .i64 0, .int .i64 0, .int .i64 0], [(0, 1), (1, 1), (2, 1)]) := by kernel_rfl
@[go_sem] theorem Tryz.pl_off57x0 : fOff Tryz.prog 57 0 = some (0, 1) := by kernel_rfl
@[go_sem] theorem Tryz.pl_part57x0 : fPart Tryz.prog 57 0 = some (0, none) := by kernel_rfl
@[go_sem] theorem Tryz.pl_off57x1 : fOff Tryz.prog 57 1 = some (1, 1) := by kernel_rfl
@[go_sem] theorem Tryz.pl_part57x1 : fPart Tryz.prog 57 1 = some (1, none) := by kernel_rfl
@[go_sem] theorem Tryz.pl_off57x2 : fOff Tryz.prog 57 2 = some (2, 1) := by kernel_rfl
@[go_sem] theorem Tryz.pl_part57x2 : fPart Tryz.prog 57 2 = some (2, none) := by kernel_rfl
@[go_sem] theorem Tryz.pl_agg58 : aggN Tryz.prog 58 = some (some 3) := by kernel_rfl
@[go_sem] theorem Tryz.pl_sz58 : szOf Tryz.prog 58 = some 3 := by kernel_rfl
@[go_sem] theorem Tryz.pl_zero58 : zeroCs Tryz.prog 58 = some [.int .i64 0, .int .i64 0, .int .i64 0] := by kernel_rfl
@[go_sem] theorem Tryz.pl_str58 : structP Tryz.prog 58 = some ([.int .i64 0, .int .i64 0, .int .i64 0], [(0, 1), (1, 1), (2, 1)]) := by kernel_rfl
@[go_sem] theorem Tryz.pl_off58x0 : fOff Tryz.prog 58 0 = some (0, 1) := by kernel_rfl
@[go_sem] theorem Tryz.pl_part58x0 : fPart Tryz.prog 58 0 = some (0, none) := by kernel_rfl
@[go_sem] theorem Tryz.pl_off58x1 : fOff Tryz.prog 58 1 = some (1, 1) := by kernel_rfl
@[go_sem] theorem Tryz.pl_part58x1 : fPart Tryz.prog 58 1 = some (1, none) := by kernel_rfl
@[go_sem] theorem Tryz.pl_off58x2 : fOff Tryz.prog 58 2 = some (2, 1) := by kernel_rfl
@[go_sem] theorem Tryz.pl_part58x2 : fPart Tryz.prog 58 2 = some (2, none) := by kernel_rfl
@[go_sem] theorem Tryz.pl_agg73 : aggN Tryz.prog 73 = some (none) := by kernel_rfl
@[go_sem] theorem Tryz.pl_sz73 : szOf Tryz.prog 73 = some 1 := by kernel_rfl
@[go_sem] theorem Tryz.pl_zero73 : zeroCs Tryz.prog 73 = some [.slice none 0 0] := by kernel_rfl
@[go_sem] theorem Tryz.pl_und73 : Tryz.prog.underlying 73 = some (.slice 3) := by kernel_rfl
@[go_sem] theorem Tryz.pl_zv73 : zeroV Tryz.prog 3 = some (.int .i64 0) := by kernel_rfl
@[go_sem] theorem Tryz.pl_esz73 : eSz Tryz.prog 73 = some (3, 1) := by kernel_rfl
@[go_sem] theorem Tryz.pl_einf73 : eInf Tryz.prog 73 = some (3, 1, 8) := by kernel_rfl
@[go_sem] theorem Tryz.pl_agg77 : aggN Tryz.prog 77 = some (none) := by kernel_rfl
@[go_sem] theorem Tryz.pl_sz77 : szOf Tryz.prog 77 = some 1 := by kernel_rfl
@[go_sem] theorem Tryz.pl_zero77 : zeroCs Tryz.prog 77 = some [.slice none 0 0] := by kernel_rfl
@[go_sem] theorem Tryz.pl_und77 : Tryz.prog.underlying 77 = some (.slice 4) := by kernel_rfl
@[go_sem] theorem Tryz.pl_zv77 : zeroV Tryz.prog 4 = some (.bool false) := by kernel_rfl
@[go_sem] theorem Tryz.pl_esz77 : eSz Tryz.prog 77 = some (4, 1) := by kernel_rfl
@[go_sem] theorem Tryz.pl_einf77 : eInf Tryz.prog 77 = some (4, 1, 1) := by kernel_rfl
@[go_sem] theorem Tryz.pl_agg80 : aggN Tryz.prog 80 = some (some 3) := by kernel_rfl
@[go_sem] theorem Tryz.pl_sz80 : szOf Tryz.prog 80 = some 3 := by kernel_rfl
@[go_sem] theorem Tryz.pl_zero80 : zeroCs Tryz.prog 80 = some [.slice none 0 0, .int .i64 0, .int .i64 0] := by kernel_rfl
@[go_sem] theorem Tryz.pl_str80 : structP Tryz.prog 80 = some ([.slice none 0 0, .int .i64 0, .int .i64 0], [(0, 1), (1, 1), (2, 1)]) := by kernel_rfl
@[go_sem] theorem Tryz.pl_off80x0 : fOff Tryz.prog 80 0 = some (0, 1) := by kernel_rfl
@[go_sem] theorem Tryz.pl_part80x0 : fPart Tryz.prog 80 0 = some (0, none) := by kernel_rfl
@[go_sem] theorem Tryz.pl_off80x1 : fOff Tryz.prog 80 1 = some (1, 1) := by kernel_rfl
@[go_sem] theorem Tryz.pl_part80x1 : fPart Tryz.prog 80 1 = some (1, none) := by kernel_rfl
@[go_sem] theorem Tryz.pl_off80x2 : fOff Tryz.prog 80 2 = some (2, 1) := by kernel_rfl
@[go_sem] theorem Tryz.pl_part80x2 : fPart Tryz.prog 80 2 = some (2, none) := by kernel_rfl
@[go_sem] theorem Tryz.pl_agg81 : aggN Tryz.prog 81 = some (some 3) := by kernel_rfl
@[go_sem] theorem Tryz.pl_sz81 : szOf Tryz.prog 81 = some 3 := by kernel_rfl
@[go_sem] theorem Tryz.pl_zero81 : zeroCs Tryz.prog 81 = some [.slice none 0 0, .int .i64 0, .int .i64 0] := by kernel_rfl
@[go_sem] theorem Tryz.pl_str81 : structP Tryz.prog 81 = some ([.slice none 0 0, .int .i64 0, .int .i64 0], [(0, 1), (1, 1), (2, 1)]) := by kernel_rfl
@[go_sem] theorem Tryz.pl_off81x0 : fOff Tryz.prog 81 0 = some (0, 1) := by kernel_rfl
@[go_sem] theorem Tryz.pl_part81x0 : fPart Tryz.prog 81 0 = some (0, none) := by kernel_rfl
@[go_sem] theorem Tryz.pl_off81x1 : fOff Tryz.prog 81 1 = some (1, 1) := by kernel_rfl
@[go_sem] theorem Tryz.pl_part81x1 : fPart Tryz.prog 81 1 = some (1, none) := by kernel_rfl
@[go_sem] theorem Tryz.pl_off81x2 : fOff Tryz.prog 81 2 = some (2, 1) := by kernel_rfl
@[go_sem] theorem Tryz.pl_part81x2 : fPart Tryz.prog 81 2 = some (2, none) := by kernel_rfl
@[go_sem] theorem Tryz.pl_agg97 : aggN Tryz.prog 97 = some (some 4) := by kernel_rfl
@[go_sem] theorem Tryz.pl_sz97 : szOf Tryz.prog 97 = some 4 := by kernel_rfl
@[go_sem] theorem Tryz.pl_zero97 : zeroCs Tryz.prog 97 = some [.int .i64 0, .int .i64 0, .int .i64 0, .int .i64 0] := by kernel_rfl
@[go_sem] theorem Tryz.pl_str97 : structP Tryz.prog 97 = some ([.int .i64 0, .int .i64 0, .int .i64 0, .int .i64 0], [(0, 1), (1, 1), (2, 1), (3, 1)]) := by kernel_rfl
@[go_sem] theorem Tryz.pl_off97x0 : fOff Tryz.prog 97 0 = some (0, 1) := by kernel_rfl
@[go_sem] theorem Tryz.pl_part97x0 : fPart Tryz.prog 97 0 = some (0, none) := by kernel_rfl
@[go_sem] theorem Tryz.pl_off97x1 : fOff Tryz.prog 97 1 = some (1, 1) := by kernel_rfl
@[go_sem] theorem Tryz.pl_part97x1 : fPart Tryz.prog 97 1 = some (1, none) := by kernel_rfl
@[go_sem] theorem Tryz.pl_off97x2 : fOff Tryz.prog 97 2 = some (2, 1) := by kernel_rfl
@[go_sem] theorem Tryz.pl_part97x2 : fPart Tryz.prog 97 2 = some (2, none) := by kernel_rfl
@[go_sem] theorem Tryz.pl_off97x3 : fOff Tryz.prog 97 3 = some (3, 1) := by kernel_rfl
@[go_sem] theorem Tryz.pl_part97x3 : fPart Tryz.prog 97 3 = some (3, none) := by kernel_rfl
@[go_sem] theorem Tryz.pl_agg98 : aggN Tryz.prog 98 = some (some 4) := by kernel_rfl
@[go_sem] theorem Tryz.pl_sz98 : szOf Tryz.prog 98 = some 4 := by kernel_rfl
@[go_sem] theorem Tryz.pl_zero98 : zeroCs Tryz.prog 98 = some [.int .i64 0, .int .i64 0, .int .i64 0, .int .i64 0] := by kernel_rfl
@[go_sem] theorem Tryz.pl_str98 : structP Tryz.prog 98 = some ([.int .i64 0, .int .i64 0, .int .i64 0, .int .i64 0], [(0, 1), (1, 1), (2, 1), (3, 1)]) := by kernel_rfl
@[go_sem] theorem Tryz.pl_off98x0 : fOff Tryz.prog 98 0 = some (0, 1) := by kernel_rfl
@[go_sem] theorem Tryz.pl_part98x0 : fPart Tryz.prog 98 0 = some (0, none) := by kernel_rfl
@[go_sem] theorem Tryz.pl_off98x1 : fOff Tryz.prog 98 1 = some (1, 1) := by kernel_rfl
@[go_sem] theorem Tryz.pl_part98x1 : fPart Tryz.prog 98 1 = some (1, none) := by kernel_rfl
@[go_sem] theorem Tryz.pl_off98x2 : fOff Tryz.prog 98 2 = some (2, 1) := by kernel_rfl
@[go_sem] theorem Tryz.pl_part98x2 : fPart Tryz.prog 98 2 = some (2, none) := by kernel_rfl
@[go_sem] theorem Tryz.pl_off98x3 : fOff Tryz.prog 98 3 = some (3, 1) := by kernel_rfl
@[go_sem] theorem Tryz.pl_part98x3 : fPart Tryz.prog 98 3 = some (3, none) := by kernel_rfl
@[go_sem] theorem Tryz.pl_agg122 : aggN Tryz.prog 122 = some (none) := by kernel_rfl
@[go_sem] theorem Tryz.pl_sz122 : szOf Tryz.prog 122 = some 1 := by kernel_rfl
@[go_sem] theorem Tryz.pl_zero122 : zeroCs Tryz.prog 122 = some [.int .u64 0] := by kernel_rfl
@[go_sem] theorem Tryz.pl_und122 : Tryz.prog.underlying 122 = some (.int .u64) := by kernel_rfl
@[go_sem] theorem Tryz.pl_agg127 : aggN Tryz.prog 127 = some (none) := by kernel_rfl
@[go_sem] theorem Tryz.pl_sz127 : szOf Tryz.prog 127 = some 1 := by kernel_rfl
@[go_sem] theorem Tryz.pl_zero127 : zeroCs Tryz.prog 127 = some [.slice none 0 0] := by kernel_rfl
@[go_sem] theorem Tryz.pl_und127 : Tryz.prog.underlying 127 = some (.slice 4) := by kernel_rfl
@[go_sem] theorem Tryz.pl_zv127 : zeroV Tryz.prog 4 = some (.bool false) := by kernel_rfl
@[go_sem] theorem Tryz.pl_esz127 : eSz Tryz.prog 127 = some (4, 1) := by kernel_rfl
@[go_sem] theorem Tryz.pl_einf127 : eInf Tryz.prog 127 = some (4, 1, 1) := by kernel_rfl
@[go_sem] theorem Tryz.pl_agg136 : aggN Tryz.prog 136 = some (some 4) := by kernel_rfl
@[go_sem] theorem Tryz.pl_sz136 : szOf Tryz.prog 136 = some 4 := by kernel_rfl
@[go_sem] theorem Tryz.pl_zero136 : zeroCs Tryz.prog 136 = some [.pointer none, .pointer none, .pointer none, .string .empty] := by kernel_rfl
@[go_sem] theorem Tryz.pl_str136 : structP Tryz.prog 136 = some ([.pointer none, .pointer none, .pointer none, .string .empty], [(0, 1), (1, 1), (2, 1), (3, 1)]) := by kernel_rfl
@[go_sem] theorem Tryz.pl_off136x0 : fOff Tryz.prog 136 0 = some (0, 1) := by kernel_rfl
@[go_sem] theorem Tryz.pl_part136x0 : fPart Tryz.prog 136 0 = some (0, none) := by kernel_rfl
@[go_sem] theorem Tryz.pl_off136x1 : fOff Tryz.prog 136 1 = some (1, 1) := by kernel_rfl
@[go_sem] theorem Tryz.pl_part136x1 : fPart Tryz.prog 136 1 = some (1, none) := by kernel_rfl
@[go_sem] theorem Tryz.pl_off136x2 : fOff Tryz.prog 136 2 = some (2, 1) := by kernel_rfl
@[go_sem] theorem Tryz.pl_part136x2 : fPart Tryz.prog 136 2 = some (2, none) := by kernel_rfl
@[go_sem] theorem Tryz.pl_off136x3 : fOff Tryz.prog 136 3 = some (3, 1) := by kernel_rfl
@[go_sem] theorem Tryz.pl_part136x3 : fPart Tryz.prog 136 3 = some (3, none) := by kernel_rfl
@[go_sem] theorem Tryz.pl_agg137 : aggN Tryz.prog 137 = some (some 4) := by kernel_rfl
@[go_sem] theorem Tryz.pl_sz137 : szOf Tryz.prog 137 = some 4 := by kernel_rfl
@[go_sem] theorem Tryz.pl_zero137 : zeroCs Tryz.prog 137 = some [.pointer none, .pointer none, .pointer none, .string .empty] := by kernel_rfl
@[go_sem] theorem Tryz.pl_str137 : structP Tryz.prog 137 = some ([.pointer none, .pointer none, .pointer none, .string .empty], [(0, 1), (1, 1), (2, 1), (3, 1)]) := by kernel_rfl
@[go_sem] theorem Tryz.pl_off137x0 : fOff Tryz.prog 137 0 = some (0, 1) := by kernel_rfl
@[go_sem] theorem Tryz.pl_part137x0 : fPart Tryz.prog 137 0 = some (0, none) := by kernel_rfl
@[go_sem] theorem Tryz.pl_off137x1 : fOff Tryz.prog 137 1 = some (1, 1) := by kernel_rfl
@[go_sem] theorem Tryz.pl_part137x1 : fPart Tryz.prog 137 1 = some (1, none) := by kernel_rfl
@[go_sem] theorem Tryz.pl_off137x2 : fOff Tryz.prog 137 2 = some (2, 1) := by kernel_rfl
@[go_sem] theorem Tryz.pl_part137x2 : fPart Tryz.prog 137 2 = some (2, none) := by kernel_rfl
@[go_sem] theorem Tryz.pl_off137x3 : fOff Tryz.prog 137 3 = some (3, 1) := by kernel_rfl
@[go_sem] theorem Tryz.pl_part137x3 : fPart Tryz.prog 137 3 = some (3, none) := by kernel_rfl
@[go_sem] theorem Tryz.pl_agg138 : aggN Tryz.prog 138 = some (some 0) := by kernel_rfl
@[go_sem] theorem Tryz.pl_sz138 : szOf Tryz.prog 138 = some 0 := by kernel_rfl
@[go_sem] theorem Tryz.pl_zero138 : zeroCs Tryz.prog 138 = some [] := by kernel_rfl
@[go_sem] theorem Tryz.pl_agg139 : aggN Tryz.prog 139 = some (some 0) := by kernel_rfl
@[go_sem] theorem Tryz.pl_sz139 : szOf Tryz.prog 139 = some 0 := by kernel_rfl
@[go_sem] theorem Tryz.pl_zero139 : zeroCs Tryz.prog 139 = some [] := by kernel_rfl
@[go_sem] theorem Tryz.pl_str139 : structP Tryz.prog 139 = some ([], [(0, 0)]) := by kernel_rfl
@[go_sem] theorem Tryz.pl_off139x0 : fOff Tryz.prog 139 0 = some (0, 0) := by kernel_rfl
@[go_sem] theorem Tryz.pl_part139x0 : fPart Tryz.prog 139 0 = some (0, some 0) := by kernel_rfl
@[go_sem] theorem Tryz.pl_agg140 : aggN Tryz.prog 140 = some (some 0) := by kernel_rfl
@[go_sem] theorem Tryz.pl_sz140 : szOf Tryz.prog 140 = some 0 := by kernel_rfl
@[go_sem] theorem Tryz.pl_zero140 : zeroCs Tryz.prog 140 = some [] := by kernel_rfl
@[go_sem] theorem Tryz.pl_str140 : structP Tryz.prog 140 = some ([], [(0, 0)]) := by kernel_rfl
@[go_sem] theorem Tryz.pl_off140x0 : fOff Tryz.prog 140 0 = some (0, 0) := by kernel_rfl
@[go_sem] theorem Tryz.pl_part140x0 : fPart Tryz.prog 140 0 = some (0, some 0) := by kernel_rfl
@[go_sem] theorem Tryz.pl_agg142 : aggN Tryz.prog 142 = some (none) := by kernel_rfl
@[go_sem] theorem Tryz.pl_sz142 : szOf Tryz.prog 142 = some 1 := by kernel_rfl
@[go_sem] theorem Tryz.pl_zero142 : zeroCs Tryz.prog 142 = some [.int .u32 0] := by kernel_rfl
@[go_sem] theorem Tryz.pl_und142 : Tryz.prog.underlying 142 = some (.int .u32) := by kernel_rfl
@[go_sem] theorem Tryz.pl_agg143 : aggN Tryz.prog 143 = some (none) := by kernel_rfl
@[go_sem] theorem Tryz.pl_sz143 : szOf Tryz.prog 143 = some 1 := by kernel_rfl
@[go_sem] theorem Tryz.pl_zero143 : zeroCs Tryz.prog 143 = some [.int .u8 0] := by kernel_rfl
@[go_sem] theorem Tryz.pl_und143 : Tryz.prog.underlying 143 = some (.int .u8) := by kernel_rfl
@[go_sem] theorem Tryz.pl_agg144 : aggN Tryz.prog 144 = some (none) := by kernel_rfl
@[go_sem] theorem Tryz.pl_sz144 : szOf Tryz.prog 144 = some 1 := by kernel_rfl
@[go_sem] theorem Tryz.pl_zero144 : zeroCs Tryz.prog 144 = some [.int .u8 0] := by kernel_rfl
@[go_sem] theorem Tryz.pl_und144 : Tryz.prog.underlying 144 = some (.int .u8) := by kernel_rfl
@[go_sem] theorem Tryz.pl_agg146 : aggN Tryz.prog 146 = some (none) := by kernel_rfl
@[go_sem] theorem Tryz.pl_sz146 : szOf Tryz.prog 146 = some 1 := by kernel_rfl
@[go_sem] theorem Tryz.pl_zero146 : zeroCs Tryz.prog 146 = some [.pointer none] := by kernel_rfl
@[go_sem] theorem Tryz.pl_agg147 : aggN Tryz.prog 147 = some (none) := by kernel_rfl
@[go_sem] theorem Tryz.pl_sz147 : szOf Tryz.prog 147 = some 1 := by kernel_rfl
@[go_sem] theorem Tryz.pl_zero147 : zeroCs Tryz.prog 147 = some [.int .i32 0] := by kernel_rfl
@[go_sem] theorem Tryz.pl_und147 : Tryz.prog.underlying 147 = some (.int .i32) := by kernel_rfl
@[go_sem] theorem Tryz.pl_agg148 : aggN Tryz.prog 148 = some (none) := by kernel_rfl
@[go_sem] theorem Tryz.pl_sz148 : szOf Tryz.prog 148 = some 1 := by kernel_rfl
@[go_sem] theorem Tryz.pl_zero148 : zeroCs Tryz.prog 148 = some [.int .i32 0] := by kernel_rfl
@[go_sem] theorem Tryz.pl_und148 : Tryz.prog.underlying 148 = some (.int .i32) := by kernel_rfl
@[go_sem] theorem Tryz.pl_agg149 : aggN Tryz.prog 149 = some (some 11) := by kernel_rfl
@[go_sem] theorem Tryz.pl_sz149 : szOf Tryz.prog 149 = some 11 := by kernel_rfl
@[go_sem] theorem Tryz.pl_off149x0 : fOff Tryz.prog 149 0 = some (0, 1) := by kernel_rfl
@[go_sem] theorem Tryz.pl_part149x0 : fPart Tryz.prog 149 0 = some (0, none) := by kernel_rfl
@[go_sem] theorem Tryz.pl_off149x1 : fOff Tryz.prog 149 1 = some (1, 1) := by kernel_rfl
@[go_sem] theorem Tryz.pl_part149x1 : fPart Tryz.prog 149 1 = some (1, none) := by kernel_rfl
@[go_sem] theorem Tryz.pl_off149x2 : fOff Tryz.prog 149 2 = some (2, 1) := by kernel_rfl
@[go_sem] theorem Tryz.pl_part149x2 : fPart Tryz.prog 149 2 = some (2, none) := by kernel_rfl
@[go_sem] theorem Tryz.pl_off149x3 : fOff Tryz.prog 149 3 = some (3, 1) := by kernel_rfl
@[go_sem] theorem Tryz.pl_part149x3 : fPart Tryz.prog 149 3 = some (3, none) := by kernel_rfl
@[go_sem] theorem Tryz.pl_off149x4 : fOff Tryz.prog 149 4 = some (4, 1) := by kernel_rfl
@[go_sem] theorem Tryz.pl_part149x4 : fPart Tryz.prog 149 4 = some (4, none) := by kernel_rfl
@[go_sem] theorem Tryz.pl_off149x5 : fOff Tryz.prog 149 5 = some (5, 1) := by kernel_rfl
@[go_sem] theorem Tryz.pl_part149x5 : fPart Tryz.prog 149 5 = some (5, none) := by kernel_rfl
@[go_sem] theorem Tryz.pl_off149x6 : fOff Tryz.prog 149 6 = some (6, 1) := by kernel_rfl
@[go_sem] theorem Tryz.pl_part149x6 : fPart Tryz.prog 149 6 = some (6, none) := by kernel_rfl
@[go_sem] theorem Tryz.pl_off149x7 : fOff Tryz.prog 149 7 = some (7, 1) := by kernel_rfl
@[go_sem] theorem Tryz.pl_part149x7 : fPart Tryz.prog 149 7 = some (7, none) := by kernel_rfl
@[go_sem] theorem Tryz.pl_off149x8 : fOff Tryz.prog 149 8 = some (8, 1) := by kernel_rfl
@[go_sem] theorem Tryz.pl_part149x8 : fPart Tryz.prog 149 8 = some (8, none) := by kernel_rfl
@[go_sem] theorem Tryz.pl_off149x9 : fOff Tryz.prog 149 9 = some (9, 1) := by kernel_rfl
@[go_sem] theorem Tryz.pl_part149x9 : fPart Tryz.prog 149 9 = some (9, none) := by kernel_rfl
@[go_sem] theorem Tryz.pl_off149x10 : fOff Tryz.prog 149 10 = some (10, 1) := by kernel_rfl
@[go_sem] theorem Tryz.pl_part149x10 : fPart Tryz.prog 149 10 = some (10, none) := by kernel_rfl
@[go_sem] theorem Tryz.pl_agg150 : aggN Tryz.prog 150 = some (some 11) := by kernel_rfl
@[go_sem] theorem Tryz.pl_sz150 : szOf Tryz.prog 150 = some 11 := by kernel_rfl
@[go_sem] theorem Tryz.pl_off150x0 : fOff Tryz.prog 150 0 = some (0, 1) := by kernel_rfl
@[go_sem] theorem Tryz.pl_part150x0 : fPart Tryz.prog 150 0 = some (0, none) := by kernel_rfl
@[go_sem] theorem Tryz.pl_off150x1 : fOff Tryz.prog 150 1 = some (1, 1) := by kernel_rfl
@[go_sem] theorem Tryz.pl_part150x1 : fPart Tryz.prog 150 1 = some (1, none) := by kernel_rfl
@[go_sem] theorem Tryz.pl_off150x2 : fOff Tryz.prog 150 2 = some (2, 1) := by kernel_rfl
@[go_sem] theorem Tryz.pl_part150x2 : fPart Tryz.prog 150 2 = some (2, none) := by kernel_rfl
@[go_sem] theorem Tryz.pl_off150x3 : fOff Tryz.prog 150 3 = some (3, 1) := by kernel_rfl
@[go_sem] theorem Tryz.pl_part150x3 : fPart Tryz.prog 150 3 = some (3, none) := by kernel_rfl
@[go_sem] theorem Tryz.pl_off150x4 : fOff Tryz.prog 150 4 = some (4, 1) := by kernel_rfl
@[go_sem] theorem Tryz.pl_part150x4 : fPart Tryz.prog 150 4 = some (4, none) := by kernel_rfl
@[go_sem] theorem Tryz.pl_off150x5 : fOff Tryz.prog 150 5 = some (5, 1) := by kernel_rfl
@[go_sem] theorem Tryz.pl_part150x5 : fPart Tryz.prog 150 5 = some (5, none) := by kernel_rfl
@[go_sem] theorem Tryz.pl_off150x6 : fOff Tryz.prog 150 6 = some (6, 1) := by kernel_rfl
@[go_sem] theorem Tryz.pl_part150x6 : fPart Tryz.prog 150 6 = some (6, none) := by kernel_rfl
@[go_sem] theorem Tryz.pl_off150x7 : fOff Tryz.prog 150 7 = some (7, 1) := by kernel_rfl
@[go_sem] theorem Tryz.pl_part150x7 : fPart Tryz.prog 150 7 = some (7, none) := by kernel_rfl
@[go_sem] theorem Tryz.pl_off150x8 : fOff Tryz.prog 150 8 = some (8, 1) := by kernel_rfl
@[go_sem] theorem Tryz.pl_part150x8 : fPart Tryz.prog 150 8 = some (8, none) := by kernel_rfl
@[go_sem] theorem Tryz.pl_off150x9 : fOff Tryz.prog 150 9 = some (9, 1) := by kernel_rfl
@[go_sem] theorem Tryz.pl_part150x9 : fPart Tryz.prog 150 9 = some (9, none) := by kernel_rfl
@[go_sem] theorem Tryz.pl_off150x10 : fOff Tryz.prog 150 10 = some (10, 1) := by kernel_rfl
@[go_sem] theorem Tryz.pl_part150x10 : fPart Tryz.prog 150 10 = some (10, none) := by kernel_rfl
@[go_sem] theorem Tryz.pl_rs0 : Tryz.f0.results.toList = [] := by kernel_rfl
@[go_sem] theorem Tryz.pl_rs1 : Tryz.f1.results.toList = [] := by kernel_rfl
@[go_sem] theorem Tryz.pl_rs2 : Tryz.f2.results.toList = [] := by kernel_rfl
@[go_sem] theorem Tryz.pl_rs3 : Tryz.f3.results.toList = [.tmp 2] := by kernel_rfl
@[go_sem] theorem Tryz.pl_rs4 : Tryz.f4.results.toList = [.tmp 2] := by kernel_rfl
@[go_sem] theorem Tryz.pl_rs5 : Tryz.f5.results.toList = [.cell 2 35, .tmp 3] := by kernel_rfl
@[go_sem] theorem Tryz.pl_rs6 : Tryz.f6.results.toList = [.cell 4 35, .tmp 5] := by kernel_rfl
@[go_sem] theorem Tryz.pl_rs7 : Tryz.f7.results.toList = [.cell 4 35, .tmp 5] := by kernel_rfl
@[go_sem] theorem Tryz.pl_rs8 : Tryz.f8.results.toList = [.tmp 2] := by kernel_rfl
@[go_sem] theorem Tryz.pl_rs9 : Tryz.f9.results.toList = [.tmp 2] := by kernel_rfl
@[go_sem] theorem Tryz.pl_rs10 : Tryz.f10.results.toList = [.tmp 4] := by kernel_rfl
@[go_sem] theorem Tryz.pl_rs11 : Tryz.f11.results.toList = [.tmp 2] := by kernel_rfl
@[go_sem] theorem Tryz.pl_rs12 : Tryz.f12.results.toList = [.tmp 8] := by kernel_rfl
@[go_sem] theorem Tryz.pl_rs13 : Tryz.f13.results.toList = [.tmp 6] := by kernel_rfl
@[go_sem] theorem Tryz.pl_rs14 : Tryz.f14.results.toList = [.tmp 4] := by kernel_rfl
@[go_sem] theorem Tryz.pl_rs15 : Tryz.f15.results.toList = [.tmp 6] := by kernel_rfl
@[go_sem] theorem Tryz.pl_rs16 : Tryz.f16.results.toList = [.tmp 6, .tmp 7] := by kernel_rfl
@[go_sem] theorem Tryz.pl_rs17 : Tryz.f17.results.toList = [.tmp 2] := by kernel_rfl
@[go_sem] theorem Tryz.pl_rs18 : Tryz.f18.results.toList = [.cell 2 35] := by kernel_rfl
@[go_sem] theorem Tryz.pl_rs19 : Tryz.f19.results.toList = [.tmp 4] := by kernel_rfl
@[go_sem] theorem Tryz.pl_rs20 : Tryz.f20.results.toList = [.tmp 2] := by kernel_rfl
@[go_sem] theorem Tryz.pl_rs21 : Tryz.f21.results.toList = [.cell 2 35] := by kernel_rfl
@[go_sem] theorem Tryz.pl_rs22 : Tryz.f22.results.toList = [.cell 6 58, .tmp 7] := by kernel_rfl
@[go_sem] theorem Tryz.pl_rs23 : Tryz.f23.results.toList = [.cell 6 35, .tmp 7] := by kernel_rfl
@[go_sem] theorem Tryz.pl_rs24 : Tryz.f24.results.toList = [.cell 4 35, .tmp 5] := by kernel_rfl
@[go_sem] theorem Tryz.pl_rs25 : Tryz.f25.results.toList = [.cell 2 35, .tmp 3] := by kernel_rfl
@[go_sem] theorem Tryz.pl_rs26 : Tryz.f26.results.toList = [.cell 6 35, .tmp 7] := by kernel_rfl
@[go_sem] theorem Tryz.pl_rs27 : Tryz.f27.results.toList = [.tmp 2] := by kernel_rfl
@[go_sem] theorem Tryz.pl_rs28 : Tryz.f28.results.toList = [.cell 2 35] := by kernel_rfl
@[go_sem] theorem Tryz.pl_rs29 : Tryz.f29.results.toList = [.tmp 2] := by kernel_rfl
@[go_sem] theorem Tryz.pl_rs30 : Tryz.f30.results.toList = [.tmp 2] := by kernel_rfl
@[go_sem] theorem Tryz.pl_rs31 : Tryz.f31.results.toList = [.cell 6 58, .tmp 7] := by kernel_rfl
@[go_sem] theorem Tryz.pl_rs32 : Tryz.f32.results.toList = [.cell 6 35, .tmp 7] := by kernel_rfl
@[go_sem] theorem Tryz.pl_rs33 : Tryz.f33.results.toList = [.cell 4 35, .tmp 5] := by kernel_rfl
@[go_sem] theorem Tryz.pl_rs34 : Tryz.f34.results.toList = [.cell 2 35, .tmp 3] := by kernel_rfl
@[go_sem] theorem Tryz.pl_rs35 : Tryz.f35.results.toList = [.cell 6 35, .tmp 7] := by kernel_rfl
@[go_sem] theorem Tryz.pl_rs36 : Tryz.f36.results.toList = [.tmp 2] := by kernel_rfl
@[go_sem] theorem Tryz.pl_rs37 : Tryz.f37.results.toList = [.tmp 2] := by kernel_rfl
@[go_sem] theorem Tryz.pl_rs38 : Tryz.f38.results.toList = [.tmp 2] := by kernel_rfl
@[go_sem] theorem Tryz.pl_rs39 : Tryz.f39.results.toList = [.tmp 2] := by kernel_rfl
@[go_sem] theorem Tryz.pl_rs40 : Tryz.f40.results.toList = [.tmp 2] := by kernel_rfl
@[go_sem] theorem Tryz.pl_rs41 : Tryz.f41.results.toList = [.tmp 6] := by kernel_rfl
@[go_sem] theorem Tryz.pl_rs42 : Tryz.f42.results.toList = [.tmp 6, .tmp 7] := by kernel_rfl
@[go_sem] theorem Tryz.pl_rs43 : Tryz.f43.results.toList = [.tmp 6, .tmp 7] := by kernel_rfl
@[go_sem] theorem Tryz.pl_rs44 : Tryz.f44.results.toList = [.tmp 4] := by kernel_rfl
@[go_sem] theorem Tryz.pl_rs45 : Tryz.f45.results.toList = [.tmp 4] := by kernel_rfl
@[go_sem] theorem Tryz.pl_rs46 : Tryz.f46.results.toList = [.tmp 4] := by kernel_rfl
@[go_sem] theorem Tryz.pl_rs47 : Tryz.f47.results.toList = [.tmp 4] := by kernel_rfl
@[go_sem] theorem Tryz.pl_rs48 : Tryz.f48.results.toList = [.tmp 2] := by kernel_rfl
@[go_sem] theorem Tryz.pl_rs49 : Tryz.f49.results.toList = [.tmp 2] := by kernel_rfl
@[go_sem] theorem Tryz.pl_rs50 : Tryz.f50.results.toList = [.tmp 6] := by kernel_rfl
@[go_sem] theorem Tryz.pl_rs51 : Tryz.f51.results.toList = [.tmp 6, .tmp 7] := by kernel_rfl
@[go_sem] theorem Tryz.pl_rs52 : Tryz.f52.results.toList = [.tmp 4] := by kernel_rfl
@[go_sem] theorem Tryz.pl_rs53 : Tryz.f53.results.toList = [.cell 0 35] := by kernel_rfl
@[go_sem] theorem Tryz.pl_rs54 : Tryz.f54.results.toList = [.cell 2 35] := by kernel_rfl
@[go_sem] theorem Tryz.pl_rs55 : Tryz.f55.results.toList = [.tmp 4] := by kernel_rfl
@[go_sem] theorem Tryz.pl_rs56 : Tryz.f56.results.toList = [.cell 4 42] := by kernel_rfl
@[go_sem] theorem Tryz.pl_rs57 : Tryz.f57.results.toList = [.tmp 4] := by kernel_rfl
@[go_sem] theorem Tryz.pl_rs58 : Tryz.f58.results.toList = [.cell 2 30] := by kernel_rfl
@[go_sem] theorem Tryz.pl_rs59 : Tryz.f59.results.toList = [.tmp 2] := by kernel_rfl
@[go_sem] theorem Tryz.pl_rs60 : Tryz.f60.results.toList = [.tmp 2] := by kernel_rfl
@[go_sem] theorem Tryz.pl_rs61 : Tryz.f61.results.toList = [.cell 4 30, .tmp 5] := by kernel_rfl
@[go_sem] theorem Tryz.pl_rs62 : Tryz.f62.results.toList = [.cell 4 32, .tmp 5] := by kernel_rfl
@[go_sem] theorem Tryz.pl_rs63 : Tryz.f63.results.toList = [.cell 8 35, .tmp 9] := by kernel_rfl
@[go_sem] theorem Tryz.pl_rs64 : Tryz.f64.results.toList = [.cell 2 30, .tmp 3] := by kernel_rfl
@[go_sem] theorem Tryz.pl_rs65 : Tryz.f65.results.toList = [.cell 2 30, .tmp 3] := by kernel_rfl
@[go_sem] theorem Tryz.pl_rs66 : Tryz.f66.results.toList = [.tmp 2] := by kernel_rfl
@[go_sem] theorem Tryz.pl_rs67 : Tryz.f67.results.toList = [.tmp 2] := by kernel_rfl
@[go_sem] theorem Tryz.pl_rs68 : Tryz.f68.results.toList = [.tmp 4, .tmp 5] := by kernel_rfl
@[go_sem] theorem Tryz.pl_rs69 : Tryz.f69.results.toList = [.cell 2 30] := by kernel_rfl
@[go_sem] theorem Tryz.pl_rs70 : Tryz.f70.results.toList = [.tmp 2] := by kernel_rfl
@[go_sem] theorem Tryz.pl_rs71 : Tryz.f71.results.toList = [.tmp 2] := by kernel_rfl
@[go_sem] theorem Tryz.pl_rs72 : Tryz.f72.results.toList = [.tmp 2] := by kernel_rfl
@[go_sem] theorem Tryz.pl_rs73 : Tryz.f73.results.toList = [.tmp 6] := by kernel_rfl
@[go_sem] theorem Tryz.pl_rs74 : Tryz.f74.results.toList = [.tmp 2] := by kernel_rfl
@[go_sem] theorem Tryz.pl_rs75 : Tryz.f75.results.toList = [.cell 4 30, .tmp 5] := by kernel_rfl
@[go_sem] theorem Tryz.pl_rs76 : Tryz.f76.results.toList = [.cell 4 32, .tmp 5] := by kernel_rfl
@[go_sem] theorem Tryz.pl_rs77 : Tryz.f77.results.toList = [.cell 2 30, .tmp 3] := by kernel_rfl
@[go_sem] theorem Tryz.pl_rs78 : Tryz.f78.results.toList = [.cell 2 30, .tmp 3] := by kernel_rfl
@[go_sem] theorem Tryz.pl_rs79 : Tryz.f79.results.toList = [.tmp 2] := by kernel_rfl
@[go_sem] theorem Tryz.pl_rs80 : Tryz.f80.results.toList = [.tmp 4, .tmp 5] := by kernel_rfl
@[go_sem] theorem Tryz.pl_rs81 : Tryz.f81.results.toList = [.tmp 2] := by kernel_rfl
@[go_sem] theorem Tryz.pl_rs82 : Tryz.f82.results.toList = [.tmp 2] := by kernel_rfl
@[go_sem] theorem Tryz.pl_rs83 : Tryz.f83.results.toList = [.tmp 6, .tmp 7] := by kernel_rfl
@[go_sem] theorem Tryz.pl_rs84 : Tryz.f84.results.toList = [.tmp 6, .tmp 7] := by kernel_rfl
@[go_sem] theorem Tryz.pl_rs85 : Tryz.f85.results.toList = [.tmp 2] := by kernel_rfl
@[go_sem] theorem Tryz.pl_rs86 : Tryz.f86.results.toList = [.tmp 4] := by kernel_rfl
@[go_sem] theorem Tryz.pl_rs87 : Tryz.f87.results.toList = [.tmp 2] := by kernel_rfl
@[go_sem] theorem Tryz.pl_rs88 : Tryz.f88.results.toList = [.tmp 2] := by kernel_rfl
@[go_sem] theorem Tryz.pl_rs89 : Tryz.f89.results.toList = [.tmp 4] := by kernel_rfl
@[go_sem] theorem Tryz.pl_rs90 : Tryz.f90.results.toList = [.tmp 4, .tmp 5] := by kernel_rfl
@[go_sem] theorem Tryz.pl_rs91 : Tryz.f91.results.toList = [.cell 6 35, .tmp 7] := by kernel_rfl
@[go_sem] theorem Tryz.pl_rs92 : Tryz.f92.results.toList = [.cell 4 25] := by kernel_rfl
@[go_sem] theorem Tryz.pl_rs93 : Tryz.f93.results.toList = [.cell 2 30] := by kernel_rfl
@[go_sem] theorem Tryz.pl_rs94 : Tryz.f94.results.toList = [.cell 2 32] := by kernel_rfl
@[go_sem] theorem Tryz.pl_rs95 : Tryz.f95.results.toList = [.tmp 2] := by kernel_rfl
@[go_sem] theorem Tryz.pl_rs96 : Tryz.f96.results.toList = [.tmp 2] := by kernel_rfl
@[go_sem] theorem Tryz.pl_rs97 : Tryz.f97.results.toList = [.tmp 2] := by kernel_rfl
@[go_sem] theorem Tryz.pl_rs98 : Tryz.f98.results.toList = [.tmp 2] := by kernel_rfl
@[go_sem] theorem Tryz.pl_rs99 : Tryz.f99.results.toList = [.tmp 6] := by kernel_rfl
@[go_sem] theorem Tryz.pl_rs100 : Tryz.f100.results.toList = [.cell 4 58, .tmp 5] := by kernel_rfl
@[go_sem] theorem Tryz.pl_rs101 : Tryz.f101.results.toList = [.tmp 4, .tmp 5] := by kernel_rfl
@[go_sem] theorem Tryz.pl_rs102 : Tryz.f102.results.toList = [.tmp 2] := by kernel_rfl
@[go_sem] theorem Tryz.pl_rs103 : Tryz.f103.results.toList = [.tmp 2] := by kernel_rfl
@[go_sem] theorem Tryz.pl_rs104 : Tryz.f104.results.toList = [.tmp 6] := by kernel_rfl
@[go_sem] theorem Tryz.pl_rs105 : Tryz.f105.results.toList = [.cell 4 58, .tmp 5] := by kernel_rfl
@[go_sem] theorem Tryz.pl_rs106 : Tryz.f106.results.toList = [.tmp 2] := by kernel_rfl
@[go_sem] theorem Tryz.pl_rs107 : Tryz.f107.results.toList = [.tmp 4, .tmp 5] := by kernel_rfl
@[go_sem] theorem Tryz.pl_rs108 : Tryz.f108.results.toList = [.tmp 6] := by kernel_rfl
@[go_sem] theorem Tryz.pl_rs109 : Tryz.f109.results.toList = [.tmp 4] := by kernel_rfl
@[go_sem] theorem Tryz.pl_rs110 : Tryz.f110.results.toList = [.cell 2 30, .tmp 3] := by kernel_rfl
@[go_sem] theorem Tryz.pl_rs111 : Tryz.f111.results.toList = [.cell 2 27] := by kernel_rfl
@[go_sem] theorem Tryz.pl_rs112 : Tryz.f112.results.toList = [.tmp 8] := by kernel_rfl
@[go_sem] theorem Tryz.pl_rs113 : Tryz.f113.results.toList = [.tmp 6, .tmp 7] := by kernel_rfl
@[go_sem] theorem Tryz.pl_rs114 : Tryz.f114.results.toList = [.tmp 4] := by kernel_rfl
@[go_sem] theorem Tryz.pl_rs115 : Tryz.f115.results.toList = [.tmp 6] := by kernel_rfl
@[go_sem] theorem Tryz.pl_rs116 : Tryz.f116.results.toList = [.tmp 6] := by kernel_rfl
@[go_sem] theorem Tryz.pl_rs117 : Tryz.f117.results.toList = [.tmp 6] := by kernel_rfl
@[go_sem] theorem Tryz.pl_rs118 : Tryz.f118.results.toList = [.tmp 4] := by kernel_rfl
@[go_sem] theorem Tryz.pl_rs119 : Tryz.f119.results.toList = [.cell 2 25, .tmp 3, .tmp 4] := by kernel_rfl
@[go_sem] theorem Tryz.pl_rs120 : Tryz.f120.results.toList = [.tmp 4] := by kernel_rfl
@[go_sem] theorem Tryz.pl_rs121 : Tryz.f121.results.toList = [.tmp 6] := by kernel_rfl
@[go_sem] theorem Tryz.pl_rs122 : Tryz.f122.results.toList = [.tmp 4] := by kernel_rfl
@[go_sem] theorem Tryz.pl_rs123 : Tryz.f123.results.toList = [.tmp 4] := by kernel_rfl
@[go_sem] theorem Tryz.pl_rs124 : Tryz.f124.results.toList = [.cell 2 25, .tmp 3] := by kernel_rfl
@[go_sem] theorem Tryz.pl_rs125 : Tryz.f125.results.toList = [.tmp 2] := by kernel_rfl
@[go_sem] theorem Tryz.pl_rs126 : Tryz.f126.results.toList = [.tmp 4] := by kernel_rfl
@[go_sem] theorem Tryz.pl_rs127 : Tryz.f127.results.toList = [.tmp 4] := by kernel_rfl
@[go_sem] theorem Tryz.pl_rs128 : Tryz.f128.results.toList = [.cell 2 25] := by kernel_rfl
@[go_sem] theorem Tryz.pl_rs129 : Tryz.f129.results.toList = [] := by kernel_rfl
@[go_sem] theorem Tryz.pl_rs130 : Tryz.f130.results.toList = [] := by kernel_rfl
@[go_sem] theorem Tryz.pl_rs131 : Tryz.f131.results.toList = [] := by kernel_rfl
@[go_sem] theorem Tryz.pl_rs132 : Tryz.f132.results.toList = [] := by kernel_rfl
@[go_sem] theorem Tryz.pl_rs133 : Tryz.f133.results.toList = [] := by kernel_rfl
@[go_sem] theorem Tryz.pl_rs134 : Tryz.f134.results.toList = [] := by kernel_rfl
@[go_sem] theorem Tryz.pl_rs135 : Tryz.f135.results.toList = [] := by kernel_rfl
@[go_sem] theorem Tryz.pl_rs136 : Tryz.f136.results.toList = [] := by kernel_rfl
@[go_sem] theorem Tryz.pl_rs137 : Tryz.f137.results.toList = [] := by kernel_rfl
@[go_sem] theorem Tryz.pl_rs138 : Tryz.f138.results.toList = [] := by kernel_rfl
@[go_sem] theorem Tryz.pl_rs139 : Tryz.f139.results.toList = [] := by kernel_rfl
@[go_sem] theorem Tryz.pl_rs140 : Tryz.f140.results.toList = [] := by kernel_rfl
@[go_sem] theorem Tryz.pl_rs141 : Tryz.f141.results.toList = [] := by kernel_rfl
@[go_sem] theorem Tryz.pl_rs142 : Tryz.f142.results.toList = [] := by kernel_rfl
@[go_sem] theorem Tryz.pl_rs143 : Tryz.f143.results.toList = [] := by kernel_rfl
@[go_sem] theorem Tryz.pl_rs144 : Tryz.f144.results.toList = [] := by kernel_rfl
theorem Tryz.pl_follows : Tryz.prog.follows .mixedOrders = true := by kernel_rfl
end Go.Proofs
