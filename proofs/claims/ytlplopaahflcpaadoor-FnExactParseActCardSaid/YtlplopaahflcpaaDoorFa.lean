/-
  Facts on the types of this translation: cells, places, zero values. Printed by a program.
-/
import Derived.Test.YtlplopaahflcpaaDoorRows
import Derived.Test.YtlplopaahflcpaaDoorEf
import Derived.KernelRfl
namespace Go.Proofs
open Go.PL
@[go_sem] theorem Tryd.pl_agg2 : aggN Tryd.prog 2 = some (none) := by kernel_rfl
@[go_sem] theorem Tryd.pl_sz2 : szOf Tryd.prog 2 = some 1 := by kernel_rfl
@[go_sem] theorem Tryd.pl_zero2 : zeroCs Tryd.prog 2 = some [.int .i64 0] := by kernel_rfl
@[go_sem] theorem Tryd.pl_und2 : Tryd.prog.underlying 2 = some (.int .i64) := by kernel_rfl
@[go_sem] theorem Tryd.pl_agg3 : aggN Tryd.prog 3 = some (none) := by kernel_rfl
@[go_sem] theorem Tryd.pl_sz3 : szOf Tryd.prog 3 = some 1 := by kernel_rfl
@[go_sem] theorem Tryd.pl_zero3 : zeroCs Tryd.prog 3 = some [.int .i64 0] := by kernel_rfl
@[go_sem] theorem Tryd.pl_und3 : Tryd.prog.underlying 3 = some (.int .i64) := by kernel_rfl
@[go_sem] theorem Tryd.pl_agg4 : aggN Tryd.prog 4 = some (none) := by kernel_rfl
@[go_sem] theorem Tryd.pl_sz4 : szOf Tryd.prog 4 = some 1 := by kernel_rfl
@[go_sem] theorem Tryd.pl_zero4 : zeroCs Tryd.prog 4 = some [.bool false] := by kernel_rfl
@[go_sem] theorem Tryd.pl_und4 : Tryd.prog.underlying 4 = some .bool := by kernel_rfl
@[go_sem] theorem Tryd.pl_agg5 : aggN Tryd.prog 5 = some (none) := by kernel_rfl
@[go_sem] theorem Tryd.pl_sz5 : szOf Tryd.prog 5 = some 1 := by kernel_rfl
@[go_sem] theorem Tryd.pl_zero5 : zeroCs Tryd.prog 5 = some [.int .u8 0] := by kernel_rfl
@[go_sem] theorem Tryd.pl_und5 : Tryd.prog.underlying 5 = some (.int .u8) := by kernel_rfl
@[go_sem] theorem Tryd.pl_agg6 : aggN Tryd.prog 6 = some (none) := by kernel_rfl
@[go_sem] theorem Tryd.pl_sz6 : szOf Tryd.prog 6 = some 1 := by kernel_rfl
@[go_sem] theorem Tryd.pl_zero6 : zeroCs Tryd.prog 6 = some [.int .u8 0] := by kernel_rfl
@[go_sem] theorem Tryd.pl_und6 : Tryd.prog.underlying 6 = some (.int .u8) := by kernel_rfl
@[go_sem] theorem Tryd.pl_agg7 : aggN Tryd.prog 7 = some (some 4) := by kernel_rfl
@[go_sem] theorem Tryd.pl_sz7 : szOf Tryd.prog 7 = some 4 := by kernel_rfl
@[go_sem] theorem Tryd.pl_zero7 : zeroCs Tryd.prog 7 = some [.int .i64 0, .int .i64 0, .bool false, .int .u8 0] := by kernel_rfl
@[go_sem] theorem Tryd.pl_str7 : structP Tryd.prog 7 = some ([.int .i64 0, .int .i64 0, .bool false, .int .u8 0], [(0, 1), (1, 1), (2, 1), (3, 1)]) := by kernel_rfl
@[go_sem] theorem Tryd.pl_off7x0 : fOff Tryd.prog 7 0 = some (0, 1) := by kernel_rfl
@[go_sem] theorem Tryd.pl_part7x0 : fPart Tryd.prog 7 0 = some (0, none) := by kernel_rfl
@[go_sem] theorem Tryd.pl_off7x1 : fOff Tryd.prog 7 1 = some (1, 1) := by kernel_rfl
@[go_sem] theorem Tryd.pl_part7x1 : fPart Tryd.prog 7 1 = some (1, none) := by kernel_rfl
@[go_sem] theorem Tryd.pl_off7x2 : fOff Tryd.prog 7 2 = some (2, 1) := by kernel_rfl
@[go_sem] theorem Tryd.pl_part7x2 : fPart Tryd.prog 7 2 = some (2, none) := by kernel_rfl
@[go_sem] theorem Tryd.pl_off7x3 : fOff Tryd.prog 7 3 = some (3, 1) := by kernel_rfl
@[go_sem] theorem Tryd.pl_part7x3 : fPart Tryd.prog 7 3 = some (3, none) := by kernel_rfl
@[go_sem] theorem Tryd.pl_agg8 : aggN Tryd.prog 8 = some (some 4) := by kernel_rfl
@[go_sem] theorem Tryd.pl_sz8 : szOf Tryd.prog 8 = some 4 := by kernel_rfl
@[go_sem] theorem Tryd.pl_zero8 : zeroCs Tryd.prog 8 = some [.int .i64 0, .int .i64 0, .bool false, .int .u8 0] := by kernel_rfl
@[go_sem] theorem Tryd.pl_str8 : structP Tryd.prog 8 = some ([.int .i64 0, .int .i64 0, .bool false, .int .u8 0], [(0, 1), (1, 1), (2, 1), (3, 1)]) := by kernel_rfl
@[go_sem] theorem Tryd.pl_off8x0 : fOff Tryd.prog 8 0 = some (0, 1) := by kernel_rfl
@[go_sem] theorem Tryd.pl_part8x0 : fPart Tryd.prog 8 0 = some (0, none) := by kernel_rfl
@[go_sem] theorem Tryd.pl_off8x1 : fOff Tryd.prog 8 1 = some (1, 1) := by kernel_rfl
@[go_sem] theorem Tryd.pl_part8x1 : fPart Tryd.prog 8 1 = some (1, none) := by kernel_rfl
@[go_sem] theorem Tryd.pl_off8x2 : fOff Tryd.prog 8 2 = some (2, 1) := by kernel_rfl
@[go_sem] theorem Tryd.pl_part8x2 : fPart Tryd.prog 8 2 = some (2, none) := by kernel_rfl
@[go_sem] theorem Tryd.pl_off8x3 : fOff Tryd.prog 8 3 = some (3, 1) := by kernel_rfl
@[go_sem] theorem Tryd.pl_part8x3 : fPart Tryd.prog 8 3 = some (3, none) := by kernel_rfl
@[go_sem] theorem Tryd.pl_agg9 : aggN Tryd.prog 9 = some (none) := by kernel_rfl
@[go_sem] theorem Tryd.pl_sz9 : szOf Tryd.prog 9 = some 1 := by kernel_rfl
@[go_sem] theorem Tryd.pl_zero9 : zeroCs Tryd.prog 9 = some [.string .empty] := by kernel_rfl
@[go_sem] theorem Tryd.pl_und9 : Tryd.prog.underlying 9 = some .string := by kernel_rfl
@[go_sem] theorem Tryd.pl_agg10 : aggN Tryd.prog 10 = some (none) := by kernel_rfl
@[go_sem] theorem Tryd.pl_sz10 : szOf Tryd.prog 10 = some 1 := by kernel_rfl
@[go_sem] theorem Tryd.pl_zero10 : zeroCs Tryd.prog 10 = some [.string .empty] := by kernel_rfl
@[go_sem] theorem Tryd.pl_und10 : Tryd.prog.underlying 10 = some .string := by kernel_rfl
@[go_sem] theorem Tryd.pl_agg11 : aggN Tryd.prog 11 = some (none) := by kernel_rfl
@[go_sem] theorem Tryd.pl_sz11 : szOf Tryd.prog 11 = some 1 := by kernel_rfl
@[go_sem] theorem Tryd.pl_zero11 : zeroCs Tryd.prog 11 = some [.string .empty] := by kernel_rfl
@[go_sem] theorem Tryd.pl_und11 : Tryd.prog.underlying 11 = some .string := by kernel_rfl
@[go_sem] theorem Tryd.pl_agg12 : aggN Tryd.prog 12 = some (none) := by kernel_rfl
@[go_sem] theorem Tryd.pl_sz12 : szOf Tryd.prog 12 = some 1 := by kernel_rfl
@[go_sem] theorem Tryd.pl_zero12 : zeroCs Tryd.prog 12 = some [.int .u64 0] := by kernel_rfl
@[go_sem] theorem Tryd.pl_und12 : Tryd.prog.underlying 12 = some (.int .u64) := by kernel_rfl
@[go_sem] theorem Tryd.pl_agg13 : aggN Tryd.prog 13 = some (some 2) := by kernel_rfl
@[go_sem] theorem Tryd.pl_sz13 : szOf Tryd.prog 13 = some 2 := by kernel_rfl
@[go_sem] theorem Tryd.pl_zero13 : zeroCs Tryd.prog 13 = some [.string .empty, .int .u64 0] := by kernel_rfl
@[go_sem] theorem Tryd.pl_str13 : structP Tryd.prog 13 = some ([.string .empty, .int .u64 0], [(0, 1), (1, 1)]) := by kernel_rfl
@[go_sem] theorem Tryd.pl_off13x0 : fOff Tryd.prog 13 0 = some (0, 1) := by kernel_rfl
@[go_sem] theorem Tryd.pl_part13x0 : fPart Tryd.prog 13 0 = some (0, none) := by kernel_rfl
@[go_sem] theorem Tryd.pl_off13x1 : fOff Tryd.prog 13 1 = some (1, 1) := by kernel_rfl
@[go_sem] theorem Tryd.pl_part13x1 : fPart Tryd.prog 13 1 = some (1, none) := by kernel_rfl
@[go_sem] theorem Tryd.pl_agg14 : aggN Tryd.prog 14 = some (some 2) := by kernel_rfl
@[go_sem] theorem Tryd.pl_sz14 : szOf Tryd.prog 14 = some 2 := by kernel_rfl
@[go_sem] theorem Tryd.pl_zero14 : zeroCs Tryd.prog 14 = some [.string .empty, .int .u64 0] := by kernel_rfl
@[go_sem] theorem Tryd.pl_str14 : structP Tryd.prog 14 = some ([.string .empty, .int .u64 0], [(0, 1), (1, 1)]) := by kernel_rfl
@[go_sem] theorem Tryd.pl_off14x0 : fOff Tryd.prog 14 0 = some (0, 1) := by kernel_rfl
@[go_sem] theorem Tryd.pl_part14x0 : fPart Tryd.prog 14 0 = some (0, none) := by kernel_rfl
@[go_sem] theorem Tryd.pl_off14x1 : fOff Tryd.prog 14 1 = some (1, 1) := by kernel_rfl
@[go_sem] theorem Tryd.pl_part14x1 : fPart Tryd.prog 14 1 = some (1, none) := by kernel_rfl
@[go_sem] theorem Tryd.pl_agg15 : aggN Tryd.prog 15 = some (none) := by kernel_rfl
@[go_sem] theorem Tryd.pl_sz15 : szOf Tryd.prog 15 = some 1 := by kernel_rfl
@[go_sem] theorem Tryd.pl_zero15 : zeroCs Tryd.prog 15 = some [.pointer none] := by kernel_rfl
@[go_sem] theorem Tryd.pl_agg16 : aggN Tryd.prog 16 = some (none) := by kernel_rfl
@[go_sem] theorem Tryd.pl_sz16 : szOf Tryd.prog 16 = some 1 := by kernel_rfl
@[go_sem] theorem Tryd.pl_zero16 : zeroCs Tryd.prog 16 = some [.pointer none] := by kernel_rfl
@[go_sem] theorem Tryd.pl_agg17 : aggN Tryd.prog 17 = some (none) := by kernel_rfl
@[go_sem] theorem Tryd.pl_sz17 : szOf Tryd.prog 17 = some 1 := by kernel_rfl
@[go_sem] theorem Tryd.pl_zero17 : zeroCs Tryd.prog 17 = some [.pointer none] := by kernel_rfl
@[go_sem] theorem Tryd.pl_agg18 : aggN Tryd.prog 18 = some (some 1) := by kernel_rfl
@[go_sem] theorem Tryd.pl_sz18 : szOf Tryd.prog 18 = some 1 := by kernel_rfl
@[go_sem] theorem Tryd.pl_zero18 : zeroCs Tryd.prog 18 = some [.pointer none] := by kernel_rfl
@[go_sem] theorem Tryd.pl_str18 : structP Tryd.prog 18 = some ([.pointer none], [(0, 1)]) := by kernel_rfl
@[go_sem] theorem Tryd.pl_off18x0 : fOff Tryd.prog 18 0 = some (0, 1) := by kernel_rfl
@[go_sem] theorem Tryd.pl_part18x0 : fPart Tryd.prog 18 0 = some (0, none) := by kernel_rfl
@[go_sem] theorem Tryd.pl_agg19 : aggN Tryd.prog 19 = some (some 1) := by kernel_rfl
@[go_sem] theorem Tryd.pl_sz19 : szOf Tryd.prog 19 = some 1 := by kernel_rfl
@[go_sem] theorem Tryd.pl_zero19 : zeroCs Tryd.prog 19 = some [.pointer none] := by kernel_rfl
@[go_sem] theorem Tryd.pl_str19 : structP Tryd.prog 19 = some ([.pointer none], [(0, 1)]) := by kernel_rfl
@[go_sem] theorem Tryd.pl_off19x0 : fOff Tryd.prog 19 0 = some (0, 1) := by kernel_rfl
@[go_sem] theorem Tryd.pl_part19x0 : fPart Tryd.prog 19 0 = some (0, none) := by kernel_rfl
@[go_sem] theorem Tryd.pl_agg21 : aggN Tryd.prog 21 = some (none) := by kernel_rfl
@[go_sem] theorem Tryd.pl_sz21 : szOf Tryd.prog 21 = some 1 := by kernel_rfl
@[go_sem] theorem Tryd.pl_zero21 : zeroCs Tryd.prog 21 = some [.int .i32 0] := by kernel_rfl
@[go_sem] theorem Tryd.pl_und21 : Tryd.prog.underlying 21 = some (.int .i32) := by kernel_rfl
@[go_sem] theorem Tryd.pl_agg22 : aggN Tryd.prog 22 = some (some 3) := by kernel_rfl
@[go_sem] theorem Tryd.pl_sz22 : szOf Tryd.prog 22 = some 3 := by kernel_rfl
@[go_sem] theorem Tryd.pl_zero22 : zeroCs Tryd.prog 22 = some [.int .i64 0, .int .i64 0, .int .i64 0] := by kernel_rfl
@[go_sem] theorem Tryd.pl_str22 : structP Tryd.prog 22 = some ([.int .i64 0, .int .i64 0, .int .i64 0], [(0, 1), (1, 1), (2, 1)]) := by kernel_rfl
@[go_sem] theorem Tryd.pl_off22x0 : fOff Tryd.prog 22 0 = some (0, 1) := by kernel_rfl
@[go_sem] theorem Tryd.pl_part22x0 : fPart Tryd.prog 22 0 = some (0, none) := by kernel_rfl
@[go_sem] theorem Tryd.pl_off22x1 : fOff Tryd.prog 22 1 = some (1, 1) := by kernel_rfl
@[go_sem] theorem Tryd.pl_part22x1 : fPart Tryd.prog 22 1 = some (1, none) := by kernel_rfl
@[go_sem] theorem Tryd.pl_off22x2 : fOff Tryd.prog 22 2 = some (2, 1) := by kernel_rfl
@[go_sem] theorem Tryd.pl_part22x2 : fPart Tryd.prog 22 2 = some (2, none) := by kernel_rfl
@[go_sem] theorem Tryd.pl_agg23 : aggN Tryd.prog 23 = some (some 3) := by kernel_rfl
@[go_sem] theorem Tryd.pl_sz23 : szOf Tryd.prog 23 = some 3 := by kernel_rfl
@[go_sem] theorem Tryd.pl_zero23 : zeroCs Tryd.prog 23 = some [.int .i64 0, .int .i64 0, .int .i64 0] := by kernel_rfl
@[go_sem] theorem Tryd.pl_str23 : structP Tryd.prog 23 = some ([.int .i64 0, .int .i64 0, .int .i64 0], [(0, 1), (1, 1), (2, 1)]) := by kernel_rfl
@[go_sem] theorem Tryd.pl_off23x0 : fOff Tryd.prog 23 0 = some (0, 1) := by kernel_rfl
@[go_sem] theorem Tryd.pl_part23x0 : fPart Tryd.prog 23 0 = some (0, none) := by kernel_rfl
@[go_sem] theorem Tryd.pl_off23x1 : fOff Tryd.prog 23 1 = some (1, 1) := by kernel_rfl
@[go_sem] theorem Tryd.pl_part23x1 : fPart Tryd.prog 23 1 = some (1, none) := by kernel_rfl
@[go_sem] theorem Tryd.pl_off23x2 : fOff Tryd.prog 23 2 = some (2, 1) := by kernel_rfl
@[go_sem] theorem Tryd.pl_part23x2 : fPart Tryd.prog 23 2 = some (2, none) := by kernel_rfl
@[go_sem] theorem Tryd.pl_agg28 : aggN Tryd.prog 28 = some (none) := by kernel_rfl
@[go_sem] theorem Tryd.pl_sz28 : szOf Tryd.prog 28 = some 1 := by kernel_rfl
@[go_sem] theorem Tryd.pl_zero28 : zeroCs Tryd.prog 28 = some [.slice none 0 0] := by kernel_rfl
@[go_sem] theorem Tryd.pl_und28 : Tryd.prog.underlying 28 = some (.slice 9) := by kernel_rfl
@[go_sem] theorem Tryd.pl_zv28 : zeroV Tryd.prog 9 = some (.string .empty) := by kernel_rfl
@[go_sem] theorem Tryd.pl_esz28 : eSz Tryd.prog 28 = some (9, 1) := by kernel_rfl
@[go_sem] theorem Tryd.pl_einf28 : eInf Tryd.prog 28 = some (9, 1, 16) := by kernel_rfl
@[go_sem] theorem Tryd.pl_agg32 : aggN Tryd.prog 32 = some (none) := by kernel_rfl
@[go_sem] theorem Tryd.pl_sz32 : szOf Tryd.prog 32 = some 1 := by kernel_rfl
@[go_sem] theorem Tryd.pl_zero32 : zeroCs Tryd.prog 32 = some [.slice none 0 0] := by kernel_rfl
@[go_sem] theorem Tryd.pl_und32 : Tryd.prog.underlying 32 = some (.slice 3) := by kernel_rfl
@[go_sem] theorem Tryd.pl_zv32 : zeroV Tryd.prog 3 = some (.int .i64 0) := by kernel_rfl
@[go_sem] theorem Tryd.pl_esz32 : eSz Tryd.prog 32 = some (3, 1) := by kernel_rfl
@[go_sem] theorem Tryd.pl_einf32 : eInf Tryd.prog 32 = some (3, 1, 8) := by kernel_rfl
@[go_sem] theorem Tryd.pl_agg46 : aggN Tryd.prog 46 = some (none) := by kernel_rfl
@[go_sem] theorem Tryd.pl_sz46 : szOf Tryd.prog 46 = some 1 := by kernel_rfl
@[go_sem] theorem Tryd.pl_zero46 : zeroCs Tryd.prog 46 = some [.slice none 0 0] := by kernel_rfl
@[go_sem] theorem Tryd.pl_und46 : Tryd.prog.underlying 46 = some (.slice 5) := by kernel_rfl
@[go_sem] theorem Tryd.pl_zv46 : zeroV Tryd.prog 5 = some (.int .u8 0) := by kernel_rfl
@[go_sem] theorem Tryd.pl_esz46 : eSz Tryd.prog 46 = some (5, 1) := by kernel_rfl
@[go_sem] theorem Tryd.pl_einf46 : eInf Tryd.prog 46 = some (5, 1, 1) := by kernel_rfl
@[go_sem] theorem Tryd.pl_agg48 : aggN Tryd.prog 48 = some (none) := by kernel_rfl
@[go_sem] theorem Tryd.pl_sz48 : szOf Tryd.prog 48 = some 1 := by kernel_rfl
@[go_sem] theorem Tryd.pl_zero48 : zeroCs Tryd.prog 48 = some [.int .i64 0] := by kernel_rfl
@[go_sem] theorem Tryd.pl_und48 : Tryd.prog.underlying 48 = some (.int .i64) := by kernel_rfl
@[go_sem] theorem Tryd.pl_agg51 : aggN Tryd.prog 51 = some (none) := by kernel_rfl
@[go_sem] theorem Tryd.pl_sz51 : szOf Tryd.prog 51 = some 1 := by kernel_rfl
@[go_sem] theorem Tryd.pl_zero51 : zeroCs Tryd.prog 51 = some [.pointer none] := by kernel_rfl
@[go_sem] theorem Tryd.pl_agg54 : aggN Tryd.prog 54 = some (none) := by kernel_rfl
@[go_sem] theorem Tryd.pl_sz54 : szOf Tryd.prog 54 = some 1 := by kernel_rfl
@[go_sem] theorem Tryd.pl_zero54 : zeroCs Tryd.prog 54 = some [.int .u64 0] := by kernel_rfl
@[go_sem] theorem Tryd.pl_und54 : Tryd.prog.underlying 54 = some (.int .u64) := by kernel_rfl
@[go_sem] theorem Tryd.pl_agg57 : aggN Tryd.prog 57 = some (none) := by kernel_rfl
@[go_sem] theorem Tryd.pl_sz57 : szOf Tryd.prog 57 = some 1 := by kernel_rfl
@[go_sem] theorem Tryd.pl_zero57 : zeroCs Tryd.prog 57 = some [.int .u64 0] := by kernel_rfl
@[go_sem] theorem Tryd.pl_und57 : Tryd.prog.underlying 57 = some (.int .u64) := by kernel_rfl
@[go_sem] theorem Tryd.pl_agg59 : aggN Tryd.prog 59 = some (some 3) := by kernel_rfl
@[go_sem] theorem Tryd.pl_sz59 : szOf Tryd.prog 59 = some 3 := by kernel_rfl
@[go_sem] theorem Tryd.pl_zero59 : zeroCs Tryd.prog 59 = some [.string .empty, .string .empty, .nilIface] := by kernel_rfl
@[go_sem] theorem Tryd.pl_str59 : structP Tryd.prog 59 = some ([.string .empty, .string .empty, .nilIface], [(0, 1), (1, 1), (2, 1)]) := by kernel_rfl
@[go_sem] theorem Tryd.pl_off59x0 : fOff Tryd.prog 59 0 = some (0, 1) := by kernel_rfl
@[go_sem] theorem Tryd.pl_part59x0 : fPart Tryd.prog 59 0 = some (0, none) := by kernel_rfl
@[go_sem] theorem Tryd.pl_off59x1 : fOff Tryd.prog 59 1 = some (1, 1) := by kernel_rfl
@[go_sem] theorem Tryd.pl_part59x1 : fPart Tryd.prog 59 1 = some (1, none) := by kernel_rfl
@[go_sem] theorem Tryd.pl_off59x2 : fOff Tryd.prog 59 2 = some (2, 1) := by kernel_rfl
@[go_sem] theorem Tryd.pl_part59x2 : fPart Tryd.prog 59 2 = some (2, none) := by kernel_rfl
@[go_sem] theorem Tryd.pl_agg60 : aggN Tryd.prog 60 = some (some 3) := by kernel_rfl
@[go_sem] theorem Tryd.pl_sz60 : szOf Tryd.prog 60 = some 3 := by kernel_rfl
@[go_sem] theorem Tryd.pl_zero60 : zeroCs Tryd.prog 60 = some [.string .empty, .string .empty, .nilIface] := by kernel_rfl
@[go_sem] theorem Tryd.pl_str60 : structP Tryd.prog 60 = some ([.string .empty, .string .empty, .nilIface], [(0, 1), (1, 1), (2, 1)]) := by kernel_rfl
@[go_sem] theorem Tryd.pl_off60x0 : fOff Tryd.prog 60 0 = some (0, 1) := by kernel_rfl
@[go_sem] theorem Tryd.pl_part60x0 : fPart Tryd.prog 60 0 = some (0, none) := by kernel_rfl
@[go_sem] theorem Tryd.pl_off60x1 : fOff Tryd.prog 60 1 = some (1, 1) := by kernel_rfl
@[go_sem] theorem Tryd.pl_part60x1 : fPart Tryd.prog 60 1 = some (1, none) := by kernel_rfl
@[go_sem] theorem Tryd.pl_off60x2 : fOff Tryd.prog 60 2 = some (2, 1) := by kernel_rfl
@[go_sem] theorem Tryd.pl_part60x2 : fPart Tryd.prog 60 2 = some (2, none) := by kernel_rfl
@[go_sem] theorem Tryd.pl_agg64 : aggN Tryd.prog 64 = some (none) := by kernel_rfl
@[go_sem] theorem Tryd.pl_sz64 : szOf Tryd.prog 64 = some 1 := by kernel_rfl
@[go_sem] theorem Tryd.pl_zero64 : zeroCs Tryd.prog 64 = some [.pointer none] := by kernel_rfl
@[go_sem] theorem Tryd.pl_agg65 : aggN Tryd.prog 65 = some (none) := by kernel_rfl
@[go_sem] theorem Tryd.pl_sz65 : szOf Tryd.prog 65 = some 1 := by kernel_rfl
@[go_sem] theorem Tryd.pl_zero65 : zeroCs Tryd.prog 65 = some [.pointer none] := by kernel_rfl
@[go_sem] theorem Tryd.pl_agg66 : aggN Tryd.prog 66 = some (some 1) := by kernel_rfl
@[go_sem] theorem Tryd.pl_sz66 : szOf Tryd.prog 66 = some 1 := by kernel_rfl
@[go_sem] theorem Tryd.pl_zero66 : zeroCs Tryd.prog 66 = some [.string .empty] := by kernel_rfl
@[go_sem] theorem Tryd.pl_str66 : structP Tryd.prog 66 = some ([.string .empty], [(0, 1)]) := by kernel_rfl
@[go_sem] theorem Tryd.pl_off66x0 : fOff Tryd.prog 66 0 = some (0, 1) := by kernel_rfl
@[go_sem] theorem Tryd.pl_part66x0 : fPart Tryd.prog 66 0 = some (0, none) := by kernel_rfl
@[go_sem] theorem Tryd.pl_agg67 : aggN Tryd.prog 67 = some (some 1) := by kernel_rfl
@[go_sem] theorem Tryd.pl_sz67 : szOf Tryd.prog 67 = some 1 := by kernel_rfl
@[go_sem] theorem Tryd.pl_zero67 : zeroCs Tryd.prog 67 = some [.string .empty] := by kernel_rfl
@[go_sem] theorem Tryd.pl_str67 : structP Tryd.prog 67 = some ([.string .empty], [(0, 1)]) := by kernel_rfl
@[go_sem] theorem Tryd.pl_off67x0 : fOff Tryd.prog 67 0 = some (0, 1) := by kernel_rfl
@[go_sem] theorem Tryd.pl_part67x0 : fPart Tryd.prog 67 0 = some (0, none) := by kernel_rfl
@[go_sem] theorem Tryd.pl_agg68 : aggN Tryd.prog 68 = some (some 24) := by kernel_rfl
@[go_sem] theorem Tryd.pl_sz68 : szOf Tryd.prog 68 = some 24 := by kernel_rfl
@[go_sem] theorem Tryd.pl_zero68 : zeroCs Tryd.prog 68 = some [.int .u8 0, .int .u8 0, .int .u8 0, .int .u8 0, .int .u8 0, .int .u8 0, .int .u8 0, .int .u8 0, .int .u8 0, .int .u8 0, .int .u8 0, .int .u8 0, .int .u8 0, .int .u8 0, .int .u8 0, .int .u8 0, .int .u8 0, .int .u8 0, .int .u8 0, .int .u8 0, .int .u8 0, .int .u8 0, .int .u8 0, .int .u8 0] := by kernel_rfl
@[go_sem] theorem Tryd.pl_agg74 : aggN Tryd.prog 74 = some (some 20) := by kernel_rfl
@[go_sem] theorem Tryd.pl_sz74 : szOf Tryd.prog 74 = some 20 := by kernel_rfl
@[go_sem] theorem Tryd.pl_zero74 : zeroCs Tryd.prog 74 = some [.int .u64 0, .int .u64 0, .int .u64 0, .int .u64 0, .int .u64 0, .int .u64 0, .int .u64 0, .int .u64 0, .int .u64 0, .int .u64 0, .int .u64 0, .int .u64 0, .int .u64 0, .int .u64 0, .int .u64 0, .int .u64 0, .int .u64 0, .int .u64 0, .int .u64 0, .int .u64 0] := by kernel_rfl
@[go_sem] theorem Tryd.pl_agg75 : aggN Tryd.prog 75 = some (none) := by kernel_rfl
@[go_sem] theorem Tryd.pl_sz75 : szOf Tryd.prog 75 = some 1 := by kernel_rfl
@[go_sem] theorem Tryd.pl_zero75 : zeroCs Tryd.prog 75 = some [.int .u32 0] := by kernel_rfl
@[go_sem] theorem Tryd.pl_und75 : Tryd.prog.underlying 75 = some (.int .u32) := by kernel_rfl
@[go_sem] theorem Tryd.pl_agg76 : aggN Tryd.prog 76 = some (some 65) := by kernel_rfl
@[go_sem] theorem Tryd.pl_sz76 : szOf Tryd.prog 76 = some 65 := by kernel_rfl
@[go_sem] theorem Tryd.pl_agg80 : aggN Tryd.prog 80 = some (some 32) := by kernel_rfl
@[go_sem] theorem Tryd.pl_sz80 : szOf Tryd.prog 80 = some 32 := by kernel_rfl
@[go_sem] theorem Tryd.pl_agg81 : aggN Tryd.prog 81 = some (some 64) := by kernel_rfl
@[go_sem] theorem Tryd.pl_sz81 : szOf Tryd.prog 81 = some 64 := by kernel_rfl
@[go_sem] theorem Tryd.pl_agg83 : aggN Tryd.prog 83 = some (some 4) := by kernel_rfl
@[go_sem] theorem Tryd.pl_sz83 : szOf Tryd.prog 83 = some 4 := by kernel_rfl
@[go_sem] theorem Tryd.pl_zero83 : zeroCs Tryd.prog 83 = some [.pointer none, .pointer none, .pointer none, .string .empty] := by kernel_rfl
@[go_sem] theorem Tryd.pl_str83 : structP Tryd.prog 83 = some ([.pointer none, .pointer none, .pointer none, .string .empty], [(0, 1), (1, 1), (2, 1), (3, 1)]) := by kernel_rfl
@[go_sem] theorem Tryd.pl_off83x0 : fOff Tryd.prog 83 0 = some (0, 1) := by kernel_rfl
@[go_sem] theorem Tryd.pl_part83x0 : fPart Tryd.prog 83 0 = some (0, none) := by kernel_rfl
@[go_sem] theorem Tryd.pl_off83x1 : fOff Tryd.prog 83 1 = some (1, 1) := by kernel_rfl
@[go_sem] theorem Tryd.pl_part83x1 : fPart Tryd.prog 83 1 = some (1, none) := by kernel_rfl
@[go_sem] theorem Tryd.pl_off83x2 : fOff Tryd.prog 83 2 = some (2, 1) := by kernel_rfl
@[go_sem] theorem Tryd.pl_part83x2 : fPart Tryd.prog 83 2 = some (2, none) := by kernel_rfl
@[go_sem] theorem Tryd.pl_off83x3 : fOff Tryd.prog 83 3 = some (3, 1) := by kernel_rfl
@[go_sem] theorem Tryd.pl_part83x3 : fPart Tryd.prog 83 3 = some (3, none) := by kernel_rfl
@[go_sem] theorem Tryd.pl_agg84 : aggN Tryd.prog 84 = some (some 4) := by kernel_rfl
@[go_sem] theorem Tryd.pl_sz84 : szOf Tryd.prog 84 = some 4 := by kernel_rfl
@[go_sem] theorem Tryd.pl_zero84 : zeroCs Tryd.prog 84 = some [.pointer none, .pointer none, .pointer none, .string .empty] := by kernel_rfl
@[go_sem] theorem Tryd.pl_str84 : structP Tryd.prog 84 = some ([.pointer none, .pointer none, .pointer none, .string .empty], [(0, 1), (1, 1), (2, 1), (3, 1)]) := by kernel_rfl
@[go_sem] theorem Tryd.pl_off84x0 : fOff Tryd.prog 84 0 = some (0, 1) := by kernel_rfl
@[go_sem] theorem Tryd.pl_part84x0 : fPart Tryd.prog 84 0 = some (0, none) := by kernel_rfl
@[go_sem] theorem Tryd.pl_off84x1 : fOff Tryd.prog 84 1 = some (1, 1) := by kernel_rfl
@[go_sem] theorem Tryd.pl_part84x1 : fPart Tryd.prog 84 1 = some (1, none) := by kernel_rfl
@[go_sem] theorem Tryd.pl_off84x2 : fOff Tryd.prog 84 2 = some (2, 1) := by kernel_rfl
@[go_sem] theorem Tryd.pl_part84x2 : fPart Tryd.prog 84 2 = some (2, none) := by kernel_rfl
@[go_sem] theorem Tryd.pl_off84x3 : fOff Tryd.prog 84 3 = some (3, 1) := by kernel_rfl
@[go_sem] theorem Tryd.pl_part84x3 : fPart Tryd.prog 84 3 = some (3, none) := by kernel_rfl
@[go_sem] theorem Tryd.pl_agg85 : aggN Tryd.prog 85 = some (some 0) := by kernel_rfl
@[go_sem] theorem Tryd.pl_sz85 : szOf Tryd.prog 85 = some 0 := by kernel_rfl
@[go_sem] theorem Tryd.pl_zero85 : zeroCs Tryd.prog 85 = some [] := by kernel_rfl
@[go_sem] theorem Tryd.pl_agg86 : aggN Tryd.prog 86 = some (some 0) := by kernel_rfl
@[go_sem] theorem Tryd.pl_sz86 : szOf Tryd.prog 86 = some 0 := by kernel_rfl
@[go_sem] theorem Tryd.pl_zero86 : zeroCs Tryd.prog 86 = some [] := by kernel_rfl
@[go_sem] theorem Tryd.pl_str86 : structP Tryd.prog 86 = some ([], [(0, 0)]) := by kernel_rfl
@[go_sem] theorem Tryd.pl_off86x0 : fOff Tryd.prog 86 0 = some (0, 0) := by kernel_rfl
@[go_sem] theorem Tryd.pl_part86x0 : fPart Tryd.prog 86 0 = some (0, some 0) := by kernel_rfl
@[go_sem] theorem Tryd.pl_agg87 : aggN Tryd.prog 87 = some (some 0) := by kernel_rfl
@[go_sem] theorem Tryd.pl_sz87 : szOf Tryd.prog 87 = some 0 := by kernel_rfl
@[go_sem] theorem Tryd.pl_zero87 : zeroCs Tryd.prog 87 = some [] := by kernel_rfl
@[go_sem] theorem Tryd.pl_str87 : structP Tryd.prog 87 = some ([], [(0, 0)]) := by kernel_rfl
@[go_sem] theorem Tryd.pl_off87x0 : fOff Tryd.prog 87 0 = some (0, 0) := by kernel_rfl
@[go_sem] theorem Tryd.pl_part87x0 : fPart Tryd.prog 87 0 = some (0, some 0) := by kernel_rfl
@[go_sem] theorem Tryd.pl_agg89 : aggN Tryd.prog 89 = some (none) := by kernel_rfl
@[go_sem] theorem Tryd.pl_sz89 : szOf Tryd.prog 89 = some 1 := by kernel_rfl
@[go_sem] theorem Tryd.pl_zero89 : zeroCs Tryd.prog 89 = some [.int .u8 0] := by kernel_rfl
@[go_sem] theorem Tryd.pl_und89 : Tryd.prog.underlying 89 = some (.int .u8) := by kernel_rfl
@[go_sem] theorem Tryd.pl_agg90 : aggN Tryd.prog 90 = some (none) := by kernel_rfl
@[go_sem] theorem Tryd.pl_sz90 : szOf Tryd.prog 90 = some 1 := by kernel_rfl
@[go_sem] theorem Tryd.pl_zero90 : zeroCs Tryd.prog 90 = some [.int .u8 0] := by kernel_rfl
@[go_sem] theorem Tryd.pl_und90 : Tryd.prog.underlying 90 = some (.int .u8) := by kernel_rfl
@[go_sem] theorem Tryd.pl_agg92 : aggN Tryd.prog 92 = some (none) := by kernel_rfl
@[go_sem] theorem Tryd.pl_sz92 : szOf Tryd.prog 92 = some 1 := by kernel_rfl
@[go_sem] theorem Tryd.pl_zero92 : zeroCs Tryd.prog 92 = some [.int .i32 0] := by kernel_rfl
@[go_sem] theorem Tryd.pl_und92 : Tryd.prog.underlying 92 = some (.int .i32) := by kernel_rfl
@[go_sem] theorem Tryd.pl_agg93 : aggN Tryd.prog 93 = some (none) := by kernel_rfl
@[go_sem] theorem Tryd.pl_sz93 : szOf Tryd.prog 93 = some 1 := by kernel_rfl
@[go_sem] theorem Tryd.pl_zero93 : zeroCs Tryd.prog 93 = some [.int .i32 0] := by kernel_rfl
@[go_sem] theorem Tryd.pl_und93 : Tryd.prog.underlying 93 = some (.int .i32) := by kernel_rfl
@[go_sem] theorem Tryd.pl_agg94 : aggN Tryd.prog 94 = some (some 11) := by kernel_rfl
@[go_sem] theorem Tryd.pl_sz94 : szOf Tryd.prog 94 = some 11 := by kernel_rfl
@[go_sem] theorem Tryd.pl_off94x0 : fOff Tryd.prog 94 0 = some (0, 1) := by kernel_rfl
@[go_sem] theorem Tryd.pl_part94x0 : fPart Tryd.prog 94 0 = some (0, none) := by kernel_rfl
@[go_sem] theorem Tryd.pl_off94x1 : fOff Tryd.prog 94 1 = some (1, 1) := by kernel_rfl
@[go_sem] theorem Tryd.pl_part94x1 : fPart Tryd.prog 94 1 = some (1, none) := by kernel_rfl
@[go_sem] theorem Tryd.pl_off94x2 : fOff Tryd.prog 94 2 = some (2, 1) := by kernel_rfl
@[go_sem] theorem Tryd.pl_part94x2 : fPart Tryd.prog 94 2 = some (2, none) := by kernel_rfl
@[go_sem] theorem Tryd.pl_off94x3 : fOff Tryd.prog 94 3 = some (3, 1) := by kernel_rfl
@[go_sem] theorem Tryd.pl_part94x3 : fPart Tryd.prog 94 3 = some (3, none) := by kernel_rfl
@[go_sem] theorem Tryd.pl_off94x4 : fOff Tryd.prog 94 4 = some (4, 1) := by kernel_rfl
@[go_sem] theorem Tryd.pl_part94x4 : fPart Tryd.prog 94 4 = some (4, none) := by kernel_rfl
@[go_sem] theorem Tryd.pl_off94x5 : fOff Tryd.prog 94 5 = some (5, 1) := by kernel_rfl
@[go_sem] theorem Tryd.pl_part94x5 : fPart Tryd.prog 94 5 = some (5, none) := by kernel_rfl
@[go_sem] theorem Tryd.pl_off94x6 : fOff Tryd.prog 94 6 = some (6, 1) := by kernel_rfl
@[go_sem] theorem Tryd.pl_part94x6 : fPart Tryd.prog 94 6 = some (6, none) := by kernel_rfl
@[go_sem] theorem Tryd.pl_off94x7 : fOff Tryd.prog 94 7 = some (7, 1) := by kernel_rfl
@[go_sem] theorem Tryd.pl_part94x7 : fPart Tryd.prog 94 7 = some (7, none) := by kernel_rfl
@[go_sem] theorem Tryd.pl_off94x8 : fOff Tryd.prog 94 8 = some (8, 1) := by kernel_rfl
@[go_sem] theorem Tryd.pl_part94x8 : fPart Tryd.prog 94 8 = some (8, none) := by kernel_rfl
@[go_sem] theorem Tryd.pl_off94x9 : fOff Tryd.prog 94 9 = some (9, 1) := by kernel_rfl
@[go_sem] theorem Tryd.pl_part94x9 : fPart Tryd.prog 94 9 = some (9, none) := by kernel_rfl
@[go_sem] theorem Tryd.pl_off94x10 : fOff Tryd.prog 94 10 = some (10, 1) := by kernel_rfl
@[go_sem] theorem Tryd.pl_part94x10 : fPart Tryd.prog 94 10 = some (10, none) := by kernel_rfl
@[go_sem] theorem Tryd.pl_agg95 : aggN Tryd.prog 95 = some (some 11) := by kernel_rfl
@[go_sem] theorem Tryd.pl_sz95 : szOf Tryd.prog 95 = some 11 := by kernel_rfl
@[go_sem] theorem Tryd.pl_off95x0 : fOff Tryd.prog 95 0 = some (0, 1) := by kernel_rfl
@[go_sem] theorem Tryd.pl_part95x0 : fPart Tryd.prog 95 0 = some (0, none) := by kernel_rfl
@[go_sem] theorem Tryd.pl_off95x1 : fOff Tryd.prog 95 1 = some (1, 1) := by kernel_rfl
@[go_sem] theorem Tryd.pl_part95x1 : fPart Tryd.prog 95 1 = some (1, none) := by kernel_rfl
@[go_sem] theorem Tryd.pl_off95x2 : fOff Tryd.prog 95 2 = some (2, 1) := by kernel_rfl
@[go_sem] theorem Tryd.pl_part95x2 : fPart Tryd.prog 95 2 = some (2, none) := by kernel_rfl
@[go_sem] theorem Tryd.pl_off95x3 : fOff Tryd.prog 95 3 = some (3, 1) := by kernel_rfl
@[go_sem] theorem Tryd.pl_part95x3 : fPart Tryd.prog 95 3 = some (3, none) := by kernel_rfl
@[go_sem] theorem Tryd.pl_off95x4 : fOff Tryd.prog 95 4 = some (4, 1) := by kernel_rfl
@[go_sem] theorem Tryd.pl_part95x4 : fPart Tryd.prog 95 4 = some (4, none) := by kernel_rfl
@[go_sem] theorem Tryd.pl_off95x5 : fOff Tryd.prog 95 5 = some (5, 1) := by kernel_rfl
@[go_sem] theorem Tryd.pl_part95x5 : fPart Tryd.prog 95 5 = some (5, none) := by kernel_rfl
@[go_sem] theorem Tryd.pl_off95x6 : fOff Tryd.prog 95 6 = some (6, 1) := by kernel_rfl
@[go_sem] theorem Tryd.pl_part95x6 : fPart Tryd.prog 95 6 = some (6, none) := by kernel_rfl
@[go_sem] theorem Tryd.pl_off95x7 : fOff Tryd.prog 95 7 = some (7, 1) := by kernel_rfl
@[go_sem] theorem Tryd.pl_part95x7 : fPart Tryd.prog 95 7 = some (7, none) := by kernel_rfl
@[go_sem] theorem Tryd.pl_off95x8 : fOff Tryd.prog 95 8 = some (8, 1) := by kernel_rfl
@[go_sem] theorem Tryd.pl_part95x8 : fPart Tryd.prog 95 8 = some (8, none) := by kernel_rfl
@[go_sem] theorem Tryd.pl_off95x9 : fOff Tryd.prog 95 9 = some (9, 1) := by kernel_rfl
@[go_sem] theorem Tryd.pl_part95x9 : fPart Tryd.prog 95 9 = some (9, none) := by kernel_rfl
@[go_sem] theorem Tryd.pl_off95x10 : fOff Tryd.prog 95 10 = some (10, 1) := by kernel_rfl
@[go_sem] theorem Tryd.pl_part95x10 : fPart Tryd.prog 95 10 = some (10, none) := by kernel_rfl
@[go_sem] theorem Tryd.pl_rs0 : Tryd.f0.results.toList = [] := by kernel_rfl
@[go_sem] theorem Tryd.pl_rs1 : Tryd.f1.results.toList = [] := by kernel_rfl
@[go_sem] theorem Tryd.pl_rs2 : Tryd.f2.results.toList = [] := by kernel_rfl
@[go_sem] theorem Tryd.pl_rs3 : Tryd.f3.results.toList = [.tmp 2] := by kernel_rfl
@[go_sem] theorem Tryd.pl_rs4 : Tryd.f4.results.toList = [.cell 2 23, .tmp 3] := by kernel_rfl
@[go_sem] theorem Tryd.pl_rs5 : Tryd.f5.results.toList = [.cell 2 23, .tmp 3] := by kernel_rfl
@[go_sem] theorem Tryd.pl_rs6 : Tryd.f6.results.toList = [.tmp 4] := by kernel_rfl
@[go_sem] theorem Tryd.pl_rs7 : Tryd.f7.results.toList = [.tmp 2, .tmp 3] := by kernel_rfl
@[go_sem] theorem Tryd.pl_rs8 : Tryd.f8.results.toList = [.tmp 6] := by kernel_rfl
@[go_sem] theorem Tryd.pl_rs9 : Tryd.f9.results.toList = [.tmp 2] := by kernel_rfl
@[go_sem] theorem Tryd.pl_rs10 : Tryd.f10.results.toList = [.tmp 2, .tmp 3] := by kernel_rfl
@[go_sem] theorem Tryd.pl_rs11 : Tryd.f11.results.toList = [.tmp 2, .tmp 3] := by kernel_rfl
@[go_sem] theorem Tryd.pl_rs12 : Tryd.f12.results.toList = [.tmp 2, .tmp 3] := by kernel_rfl
@[go_sem] theorem Tryd.pl_rs13 : Tryd.f13.results.toList = [.tmp 2] := by kernel_rfl
@[go_sem] theorem Tryd.pl_rs14 : Tryd.f14.results.toList = [.tmp 2] := by kernel_rfl
@[go_sem] theorem Tryd.pl_rs15 : Tryd.f15.results.toList = [.tmp 2] := by kernel_rfl
@[go_sem] theorem Tryd.pl_rs16 : Tryd.f16.results.toList = [.tmp 2, .tmp 3] := by kernel_rfl
@[go_sem] theorem Tryd.pl_rs17 : Tryd.f17.results.toList = [.tmp 2] := by kernel_rfl
@[go_sem] theorem Tryd.pl_rs18 : Tryd.f18.results.toList = [.tmp 2] := by kernel_rfl
@[go_sem] theorem Tryd.pl_rs19 : Tryd.f19.results.toList = [.tmp 2, .tmp 3] := by kernel_rfl
@[go_sem] theorem Tryd.pl_rs20 : Tryd.f20.results.toList = [.tmp 2] := by kernel_rfl
@[go_sem] theorem Tryd.pl_rs21 : Tryd.f21.results.toList = [.tmp 6] := by kernel_rfl
@[go_sem] theorem Tryd.pl_rs22 : Tryd.f22.results.toList = [.tmp 2] := by kernel_rfl
@[go_sem] theorem Tryd.pl_rs23 : Tryd.f23.results.toList = [.tmp 2, .tmp 3] := by kernel_rfl
@[go_sem] theorem Tryd.pl_rs24 : Tryd.f24.results.toList = [.tmp 10] := by kernel_rfl
@[go_sem] theorem Tryd.pl_rs25 : Tryd.f25.results.toList = [.tmp 2] := by kernel_rfl
@[go_sem] theorem Tryd.pl_rs26 : Tryd.f26.results.toList = [.tmp 6, .tmp 7] := by kernel_rfl
@[go_sem] theorem Tryd.pl_rs27 : Tryd.f27.results.toList = [.tmp 4] := by kernel_rfl
@[go_sem] theorem Tryd.pl_rs28 : Tryd.f28.results.toList = [.tmp 4] := by kernel_rfl
@[go_sem] theorem Tryd.pl_rs29 : Tryd.f29.results.toList = [.tmp 6] := by kernel_rfl
@[go_sem] theorem Tryd.pl_rs30 : Tryd.f30.results.toList = [.tmp 6] := by kernel_rfl
@[go_sem] theorem Tryd.pl_rs31 : Tryd.f31.results.toList = [.tmp 2] := by kernel_rfl
@[go_sem] theorem Tryd.pl_rs32 : Tryd.f32.results.toList = [.tmp 6, .tmp 7] := by kernel_rfl
@[go_sem] theorem Tryd.pl_rs33 : Tryd.f33.results.toList = [.tmp 2] := by kernel_rfl
@[go_sem] theorem Tryd.pl_rs34 : Tryd.f34.results.toList = [.tmp 2] := by kernel_rfl
@[go_sem] theorem Tryd.pl_rs35 : Tryd.f35.results.toList = [.tmp 4] := by kernel_rfl
@[go_sem] theorem Tryd.pl_rs36 : Tryd.f36.results.toList = [.tmp 2] := by kernel_rfl
@[go_sem] theorem Tryd.pl_rs37 : Tryd.f37.results.toList = [.tmp 2] := by kernel_rfl
@[go_sem] theorem Tryd.pl_rs38 : Tryd.f38.results.toList = [.tmp 2] := by kernel_rfl
@[go_sem] theorem Tryd.pl_rs39 : Tryd.f39.results.toList = [.tmp 2] := by kernel_rfl
@[go_sem] theorem Tryd.pl_rs40 : Tryd.f40.results.toList = [] := by kernel_rfl
@[go_sem] theorem Tryd.pl_rs41 : Tryd.f41.results.toList = [.tmp 10, .tmp 11] := by kernel_rfl
@[go_sem] theorem Tryd.pl_rs42 : Tryd.f42.results.toList = [.tmp 2] := by kernel_rfl
@[go_sem] theorem Tryd.pl_rs43 : Tryd.f43.results.toList = [.tmp 2] := by kernel_rfl
@[go_sem] theorem Tryd.pl_rs44 : Tryd.f44.results.toList = [.tmp 2] := by kernel_rfl
@[go_sem] theorem Tryd.pl_rs45 : Tryd.f45.results.toList = [.tmp 2] := by kernel_rfl
@[go_sem] theorem Tryd.pl_rs46 : Tryd.f46.results.toList = [.tmp 2] := by kernel_rfl
@[go_sem] theorem Tryd.pl_rs47 : Tryd.f47.results.toList = [.tmp 2] := by kernel_rfl
@[go_sem] theorem Tryd.pl_rs48 : Tryd.f48.results.toList = [.tmp 2] := by kernel_rfl
@[go_sem] theorem Tryd.pl_rs49 : Tryd.f49.results.toList = [] := by kernel_rfl
@[go_sem] theorem Tryd.pl_rs50 : Tryd.f50.results.toList = [] := by kernel_rfl
@[go_sem] theorem Tryd.pl_rs51 : Tryd.f51.results.toList = [] := by kernel_rfl
@[go_sem] theorem Tryd.pl_rs52 : Tryd.f52.results.toList = [] := by kernel_rfl
@[go_sem] theorem Tryd.pl_rs53 : Tryd.f53.results.toList = [] := by kernel_rfl
@[go_sem] theorem Tryd.pl_rs54 : Tryd.f54.results.toList = [] := by kernel_rfl
@[go_sem] theorem Tryd.pl_rs55 : Tryd.f55.results.toList = [] := by kernel_rfl
@[go_sem] theorem Tryd.pl_rs56 : Tryd.f56.results.toList = [] := by kernel_rfl
@[go_sem] theorem Tryd.pl_rs57 : Tryd.f57.results.toList = [] := by kernel_rfl
@[go_sem] theorem Tryd.pl_rs58 : Tryd.f58.results.toList = [] := by kernel_rfl
@[go_sem] theorem Tryd.pl_rs59 : Tryd.f59.results.toList = [] := by kernel_rfl
@[go_sem] theorem Tryd.pl_rs60 : Tryd.f60.results.toList = [] := by kernel_rfl
@[go_sem] theorem Tryd.pl_rs61 : Tryd.f61.results.toList = [] := by kernel_rfl
@[go_sem] theorem Tryd.pl_rs62 : Tryd.f62.results.toList = [] := by kernel_rfl
@[go_sem] theorem Tryd.pl_rs63 : Tryd.f63.results.toList = [] := by kernel_rfl
@[go_sem] theorem Tryd.pl_rs64 : Tryd.f64.results.toList = [] := by kernel_rfl
@[go_sem] theorem Tryd.pl_rs65 : Tryd.f65.results.toList = [] := by kernel_rfl
@[go_sem] theorem Tryd.pl_rs66 : Tryd.f66.results.toList = [] := by kernel_rfl
@[go_sem] theorem Tryd.pl_rs67 : Tryd.f67.results.toList = [] := by kernel_rfl
@[go_sem] theorem Tryd.pl_rs68 : Tryd.f68.results.toList = [] := by kernel_rfl
@[go_sem] theorem Tryd.pl_rs69 : Tryd.f69.results.toList = [] := by kernel_rfl
@[go_sem] theorem Tryd.pl_rs70 : Tryd.f70.results.toList = [] := by kernel_rfl
@[go_sem] theorem Tryd.pl_rs71 : Tryd.f71.results.toList = [] := by kernel_rfl
@[go_sem] theorem Tryd.pl_rs72 : Tryd.f72.results.toList = [] := by kernel_rfl
@[go_sem] theorem Tryd.pl_rs73 : Tryd.f73.results.toList = [] := by kernel_rfl
@[go_sem] theorem Tryd.pl_rs74 : Tryd.f74.results.toList = [] := by kernel_rfl
@[go_sem] theorem Tryd.pl_rs75 : Tryd.f75.results.toList = [] := by kernel_rfl
theorem Tryd.pl_follows : Tryd.prog.follows .mixedOrders = true := by kernel_rfl
end Go.Proofs
