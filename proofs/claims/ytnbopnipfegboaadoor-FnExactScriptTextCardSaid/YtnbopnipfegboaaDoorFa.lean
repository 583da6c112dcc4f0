/-
  Facts on the types of this translation: cells, places, zero values. Printed by a program.
-/
import Derived.Test.YtnbopnipfegboaaDoorRows
import Derived.Test.YtnbopnipfegboaaDoorEf
import Derived.KernelRfl
namespace Go.Proofs
open Go.PL
@[go_sem] theorem Tryd.pl_agg2 : aggN Tryd.prog 2 = some (none) := by kernel_rfl
@[go_sem] theorem Tryd.pl_sz2 : szOf Tryd.prog 2 = some 1 := by kernel_rfl
@[go_sem] theorem Tryd.pl_zero2 : zeroCs Tryd.prog 2 = some [.int .i64 0] := by kernel_rfl
@[go_sem] theorem Tryd.pl_und2 : Tryd.prog.underlying 2 = some (.int .i64) := by kernel_rfl
@[go_sem] theorem Tryd.pl_agg3 : aggN Tryd.prog 3 = some (none) := by kernel_rfl
@[go_sem] theorem Tryd.pl_sz3 : szOf Tryd.prog 3 = some 1 := by kernel_rfl
@[go_sem] theorem Tryd.pl_zero3 : zeroCs Tryd.prog 3 = some [.int .i64 0] := by kernel_rfl
@[go_sem] theorem Tryd.pl_und3 : Tryd.prog.underlying 3 = some (.int .i64) := by kernel_rfl
@[go_sem] theorem Tryd.pl_agg4 : aggN Tryd.prog 4 = some (none) := by kernel_rfl
@[go_sem] theorem Tryd.pl_sz4 : szOf Tryd.prog 4 = some 1 := by kernel_rfl
@[go_sem] theorem Tryd.pl_zero4 : zeroCs Tryd.prog 4 = some [.bool false] := by kernel_rfl
@[go_sem] theorem Tryd.pl_und4 : Tryd.prog.underlying 4 = some .bool := by kernel_rfl
@[go_sem] theorem Tryd.pl_agg5 : aggN Tryd.prog 5 = some (none) := by kernel_rfl
@[go_sem] theorem Tryd.pl_sz5 : szOf Tryd.prog 5 = some 1 := by kernel_rfl
@[go_sem] theorem Tryd.pl_zero5 : zeroCs Tryd.prog 5 = some [.int .u8 0] := by kernel_rfl
@[go_sem] theorem Tryd.pl_und5 : Tryd.prog.underlying 5 = some (.int .u8) := by kernel_rfl
@[go_sem] theorem Tryd.pl_agg6 : aggN Tryd.prog 6 = some (none) := by kernel_rfl
@[go_sem] theorem Tryd.pl_sz6 : szOf Tryd.prog 6 = some 1 := by kernel_rfl
@[go_sem] theorem Tryd.pl_zero6 : zeroCs Tryd.prog 6 = some [.int .u8 0] := by kernel_rfl
@[go_sem] theorem Tryd.pl_und6 : Tryd.prog.underlying 6 = some (.int .u8) := by kernel_rfl
@[go_sem] theorem Tryd.pl_agg7 : aggN Tryd.prog 7 = some (some 4) := by kernel_rfl
@[go_sem] theorem Tryd.pl_sz7 : szOf Tryd.prog 7 = some 4 := by kernel_rfl
@[go_sem] theorem Tryd.pl_zero7 : zeroCs Tryd.prog 7 = some [.int .i64 0, .int .i64 0, .bool false, .int .u8 0] := by kernel_rfl
@[go_sem] theorem Tryd.pl_str7 : structP Tryd.prog 7 = some ([.int .i64 0, .int .i64 0, .bool false, .int .u8 0], [(0, 1), (1, 1), (2, 1), (3, 1)]) := by kernel_rfl
@[go_sem] theorem Tryd.pl_off7x0 : fOff Tryd.prog 7 0 = some (0, 1) := by kernel_rfl
@[go_sem] theorem Tryd.pl_part7x0 : fPart Tryd.prog 7 0 = some (0, none) := by kernel_rfl
@[go_sem] theorem Tryd.pl_off7x1 : fOff Tryd.prog 7 1 = some (1, 1) := by kernel_rfl
@[go_sem] theorem Tryd.pl_part7x1 : fPart Tryd.prog 7 1 = some (1, none) := by kernel_rfl
@[go_sem] theorem Tryd.pl_off7x2 : fOff Tryd.prog 7 2 = some (2, 1) := by kernel_rfl
@[go_sem] theorem Tryd.pl_part7x2 : fPart Tryd.prog 7 2 = some (2, none) := by kernel_rfl
@[go_sem] theorem Tryd.pl_off7x3 : fOff Tryd.prog 7 3 = some (3, 1) := by kernel_rfl
@[go_sem] theorem Tryd.pl_part7x3 : fPart Tryd.prog 7 3 = some (3, none) := by kernel_rfl
@[go_sem] theorem Tryd.pl_agg8 : aggN Tryd.prog 8 = some (some 4) := by kernel_rfl
@[go_sem] theorem Tryd.pl_sz8 : szOf Tryd.prog 8 = some 4 := by kernel_rfl
@[go_sem] theorem Tryd.pl_zero8 : zeroCs Tryd.prog 8 = some [.int .i64 0, .int .i64 0, .bool false, .int .u8 0] := by kernel_rfl
@[go_sem] theorem Tryd.pl_str8 : structP Tryd.prog 8 = some ([.int .i64 0, .int .i64 0, .bool false, .int .u8 0], [(0, 1), (1, 1), (2, 1), (3, 1)]) := by kernel_rfl
@[go_sem] theorem Tryd.pl_off8x0 : fOff Tryd.prog 8 0 = some (0, 1) := by kernel_rfl
@[go_sem] theorem Tryd.pl_part8x0 : fPart Tryd.prog 8 0 = some (0, none) := by kernel_rfl
@[go_sem] theorem Tryd.pl_off8x1 : fOff Tryd.prog 8 1 = some (1, 1) := by kernel_rfl
@[go_sem] theorem Tryd.pl_part8x1 : fPart Tryd.prog 8 1 = some (1, none) := by kernel_rfl
@[go_sem] theorem Tryd.pl_off8x2 : fOff Tryd.prog 8 2 = some (2, 1) := by kernel_rfl
@[go_sem] theorem Tryd.pl_part8x2 : fPart Tryd.prog 8 2 = some (2, none) := by kernel_rfl
@[go_sem] theorem Tryd.pl_off8x3 : fOff Tryd.prog 8 3 = some (3, 1) := by kernel_rfl
@[go_sem] theorem Tryd.pl_part8x3 : fPart Tryd.prog 8 3 = some (3, none) := by kernel_rfl
@[go_sem] theorem Tryd.pl_agg9 : aggN Tryd.prog 9 = some (none) := by kernel_rfl
@[go_sem] theorem Tryd.pl_sz9 : szOf Tryd.prog 9 = some 1 := by kernel_rfl
@[go_sem] theorem Tryd.pl_zero9 : zeroCs Tryd.prog 9 = some [.string .empty] := by kernel_rfl
@[go_sem] theorem Tryd.pl_und9 : Tryd.prog.underlying 9 = some .string := by kernel_rfl
@[go_sem] theorem Tryd.pl_agg10 : aggN Tryd.prog 10 = some (none) := by kernel_rfl
@[go_sem] theorem Tryd.pl_sz10 : szOf Tryd.prog 10 = some 1 := by kernel_rfl
@[go_sem] theorem Tryd.pl_zero10 : zeroCs Tryd.prog 10 = some [.string .empty] := by kernel_rfl
@[go_sem] theorem Tryd.pl_und10 : Tryd.prog.underlying 10 = some .string := by kernel_rfl
@[go_sem] theorem Tryd.pl_agg11 : aggN Tryd.prog 11 = some (none) := by kernel_rfl
@[go_sem] theorem Tryd.pl_sz11 : szOf Tryd.prog 11 = some 1 := by kernel_rfl
@[go_sem] theorem Tryd.pl_zero11 : zeroCs Tryd.prog 11 = some [.string .empty] := by kernel_rfl
@[go_sem] theorem Tryd.pl_und11 : Tryd.prog.underlying 11 = some .string := by kernel_rfl
@[go_sem] theorem Tryd.pl_agg12 : aggN Tryd.prog 12 = some (none) := by kernel_rfl
@[go_sem] theorem Tryd.pl_sz12 : szOf Tryd.prog 12 = some 1 := by kernel_rfl
@[go_sem] theorem Tryd.pl_zero12 : zeroCs Tryd.prog 12 = some [.int .u64 0] := by kernel_rfl
@[go_sem] theorem Tryd.pl_und12 : Tryd.prog.underlying 12 = some (.int .u64) := by kernel_rfl
@[go_sem] theorem Tryd.pl_agg13 : aggN Tryd.prog 13 = some (some 2) := by kernel_rfl
@[go_sem] theorem Tryd.pl_sz13 : szOf Tryd.prog 13 = some 2 := by kernel_rfl
@[go_sem] theorem Tryd.pl_zero13 : zeroCs Tryd.prog 13 = some [.string .empty, .int .u64 0] := by kernel_rfl
@[go_sem] theorem Tryd.pl_str13 : structP Tryd.prog 13 = some ([.string .empty, .int .u64 0], [(0, 1), (1, 1)]) := by kernel_rfl
@[go_sem] theorem Tryd.pl_off13x0 : fOff Tryd.prog 13 0 = some (0, 1) := by kernel_rfl
@[go_sem] theorem Tryd.pl_part13x0 : fPart Tryd.prog 13 0 = some (0, none) := by kernel_rfl
@[go_sem] theorem Tryd.pl_off13x1 : fOff Tryd.prog 13 1 = some (1, 1) := by kernel_rfl
@[go_sem] theorem Tryd.pl_part13x1 : fPart Tryd.prog 13 1 = some (1, none) := by kernel_rfl
@[go_sem] theorem Tryd.pl_agg14 : aggN Tryd.prog 14 = some (some 2) := by kernel_rfl
@[go_sem] theorem Tryd.pl_sz14 : szOf Tryd.prog 14 = some 2 := by kernel_rfl
@[go_sem] theorem Tryd.pl_zero14 : zeroCs Tryd.prog 14 = some [.string .empty, .int .u64 0] := by kernel_rfl
@[go_sem] theorem Tryd.pl_str14 : structP Tryd.prog 14 = some ([.string .empty, .int .u64 0], [(0, 1), (1, 1)]) := by kernel_rfl
@[go_sem] theorem Tryd.pl_off14x0 : fOff Tryd.prog 14 0 = some (0, 1) := by kernel_rfl
@[go_sem] theorem Tryd.pl_part14x0 : fPart Tryd.prog 14 0 = some (0, none) := by kernel_rfl
@[go_sem] theorem Tryd.pl_off14x1 : fOff Tryd.prog 14 1 = some (1, 1) := by kernel_rfl
@[go_sem] theorem Tryd.pl_part14x1 : fPart Tryd.prog 14 1 = some (1, none) := by kernel_rfl
@[go_sem] theorem Tryd.pl_agg15 : aggN Tryd.prog 15 = some (none) := by kernel_rfl
@[go_sem] theorem Tryd.pl_sz15 : szOf Tryd.prog 15 = some 1 := by kernel_rfl
@[go_sem] theorem Tryd.pl_zero15 : zeroCs Tryd.prog 15 = some [.pointer none] := by kernel_rfl
@[go_sem] theorem Tryd.pl_agg16 : aggN Tryd.prog 16 = some (none) := by kernel_rfl
@[go_sem] theorem Tryd.pl_sz16 : szOf Tryd.prog 16 = some 1 := by kernel_rfl
@[go_sem] theorem Tryd.pl_zero16 : zeroCs Tryd.prog 16 = some [.pointer none] := by kernel_rfl
@[go_sem] theorem Tryd.pl_agg17 : aggN Tryd.prog 17 = some (none) := by kernel_rfl
@[go_sem] theorem Tryd.pl_sz17 : szOf Tryd.prog 17 = some 1 := by kernel_rfl
@[go_sem] theorem Tryd.pl_zero17 : zeroCs Tryd.prog 17 = some [.pointer none] := by kernel_rfl
@[go_sem] theorem Tryd.pl_agg18 : aggN Tryd.prog 18 = some (some 1) := by kernel_rfl
@[go_sem] theorem Tryd.pl_sz18 : szOf Tryd.prog 18 = some 1 := by kernel_rfl
@[go_sem] theorem Tryd.pl_zero18 : zeroCs Tryd.prog 18 = some [.pointer none] := by kernel_rfl
@[go_sem] theorem Tryd.pl_str18 : structP Tryd.prog 18 = some ([.pointer none], [(0, 1)]) := by kernel_rfl
@[go_sem] theorem Tryd.pl_off18x0 : fOff Tryd.prog 18 0 = some (0, 1) := by kernel_rfl
@[go_sem] theorem Tryd.pl_part18x0 : fPart Tryd.prog 18 0 = some (0, none) := by kernel_rfl
@[go_sem] theorem Tryd.pl_agg19 : aggN Tryd.prog 19 = some (some 1) := by kernel_rfl
@[go_sem] theorem Tryd.pl_sz19 : szOf Tryd.prog 19 = some 1 := by kernel_rfl
@[go_sem] theorem Tryd.pl_zero19 : zeroCs Tryd.prog 19 = some [.pointer none] := by kernel_rfl
@[go_sem] theorem Tryd.pl_str19 : structP Tryd.prog 19 = some ([.pointer none], [(0, 1)]) := by kernel_rfl
@[go_sem] theorem Tryd.pl_off19x0 : fOff Tryd.prog 19 0 = some (0, 1) := by kernel_rfl
@[go_sem] theorem Tryd.pl_part19x0 : fPart Tryd.prog 19 0 = some (0, none) := by kernel_rfl
@[go_sem] theorem Tryd.pl_agg21 : aggN Tryd.prog 21 = some (none) := by kernel_rfl
@[go_sem] theorem Tryd.pl_sz21 : szOf Tryd.prog 21 = some 1 := by kernel_rfl
@[go_sem] theorem Tryd.pl_zero21 : zeroCs Tryd.prog 21 = some [.int .i32 0] := by kernel_rfl
@[go_sem] theorem Tryd.pl_und21 : Tryd.prog.underlying 21 = some (.int .i32) := by kernel_rfl
@[go_sem] theorem Tryd.pl_agg22 : aggN Tryd.prog 22 = some (some 3) := by kernel_rfl
@[go_sem] theorem Tryd.pl_sz22 : szOf Tryd.prog 22 = some 3 := by kernel_rfl
@[go_sem] theorem Tryd.pl_zero22 : zeroCs Tryd.prog 22 = some [.int .i64 0, .int .i64 0, .int .i64 0] := by kernel_rfl
@[go_sem] theorem Tryd.pl_str22 : structP Tryd.prog 22 = some ([.int .i64 0, .int .i64 0, .int .i64 0], [(0, 1), (1, 1), (2, 1)]) := by kernel_rfl
@[go_sem] theorem Tryd.pl_off22x0 : fOff Tryd.prog 22 0 = some (0, 1) := by kernel_rfl
@[go_sem] theorem Tryd.pl_part22x0 : fPart Tryd.prog 22 0 = some (0, none) := by kernel_rfl
@[go_sem] theorem Tryd.pl_off22x1 : fOff Tryd.prog 22 1 = some (1, 1) := by kernel_rfl
@[go_sem] theorem Tryd.pl_part22x1 : fPart Tryd.prog 22 1 = some (1, none) := by kernel_rfl
@[go_sem] theorem Tryd.pl_off22x2 : fOff Tryd.prog 22 2 = some (2, 1) := by kernel_rfl
@[go_sem] theorem Tryd.pl_part22x2 : fPart Tryd.prog 22 2 = some (2, none) := by kernel_rfl
@[go_sem] theorem Tryd.pl_agg23 : aggN Tryd.prog 23 = some (some 3) := by kernel_rfl
@[go_sem] theorem Tryd.pl_sz23 : szOf Tryd.prog 23 = some 3 := by kernel_rfl
@[go_sem] theorem Tryd.pl_zero23 : zeroCs Tryd.prog 23 = some [.int .i64 0, .int .i64 0, .int .i64 0] := by kernel_rfl
@[go_sem] theorem Tryd.pl_str23 : structP Tryd.prog 23 = some ([.int .i64 0, .int .i64 0, .int .i64 0], [(0, 1), (1, 1), (2, 1)]) := by kernel_rfl
@[go_sem] theorem Tryd.pl_off23x0 : fOff Tryd.prog 23 0 = some (0, 1) := by kernel_rfl
@[go_sem] theorem Tryd.pl_part23x0 : fPart Tryd.prog 23 0 = some (0, none) := by kernel_rfl
@[go_sem] theorem Tryd.pl_off23x1 : fOff Tryd.prog 23 1 = some (1, 1) := by kernel_rfl
@[go_sem] theorem Tryd.pl_part23x1 : fPart Tryd.prog 23 1 = some (1, none) := by kernel_rfl
@[go_sem] theorem Tryd.pl_off23x2 : fOff Tryd.prog 23 2 = some (2, 1) := by kernel_rfl
@[go_sem] theorem Tryd.pl_part23x2 : fPart Tryd.prog 23 2 = some (2, none) := by kernel_rfl
@[go_sem] theorem Tryd.pl_agg26 : aggN Tryd.prog 26 = some (some 3) := by kernel_rfl
@[go_sem] theorem Tryd.pl_sz26 : szOf Tryd.prog 26 = some 3 := by kernel_rfl
@[go_sem] theorem Tryd.pl_zero26 : zeroCs Tryd.prog 26 = some [.int .i64 0, .int .i64 0, .int .i64 0] := by kernel_rfl
@[go_sem] theorem Tryd.pl_str26 : structP Tryd.prog 26 = some ([.int .i64 0, .int .i64 0, .int .i64 0], [(0, 1), (1, 1), (2, 1)]) := by kernel_rfl
@[go_sem] theorem Tryd.pl_off26x0 : fOff Tryd.prog 26 0 = some (0, 1) := by kernel_rfl
@[go_sem] theorem Tryd.pl_part26x0 : fPart Tryd.prog 26 0 = some (0, none) := by kernel_rfl
@[go_sem] theorem Tryd.pl_off26x1 : fOff Tryd.prog 26 1 = some (1, 1) := by kernel_rfl
@[go_sem] theorem Tryd.pl_part26x1 : fPart Tryd.prog 26 1 = some (1, none) := by kernel_rfl
@[go_sem] theorem Tryd.pl_off26x2 : fOff Tryd.prog 26 2 = some (2, 1) := by kernel_rfl
@[go_sem] theorem Tryd.pl_part26x2 : fPart Tryd.prog 26 2 = some (2, none) := by kernel_rfl
@[go_sem] theorem Tryd.pl_agg29 : aggN Tryd.prog 29 = some (none) := by kernel_rfl
@[go_sem] theorem Tryd.pl_sz29 : szOf Tryd.prog 29 = some 1 := by kernel_rfl
@[go_sem] theorem Tryd.pl_zero29 : zeroCs Tryd.prog 29 = some [.slice none 0 0] := by kernel_rfl
@[go_sem] theorem Tryd.pl_und29 : Tryd.prog.underlying 29 = some (.slice 23) := by kernel_rfl
@[go_sem] theorem Tryd.pl_zv29 : zeroV Tryd.prog 23 = some (.agg #[.int .i64 0, .int .i64 0, .int .i64 0]) := by kernel_rfl
@[go_sem] theorem Tryd.pl_esz29 : eSz Tryd.prog 29 = some (23, 3) := by kernel_rfl
@[go_sem] theorem Tryd.pl_einf29 : eInf Tryd.prog 29 = some (23, 3, 24) := by kernel_rfl
@[go_sem] theorem Tryd.pl_agg32 : aggN Tryd.prog 32 = some (none) := by kernel_rfl
@[go_sem] theorem Tryd.pl_sz32 : szOf Tryd.prog 32 = some 1 := by kernel_rfl
@[go_sem] theorem Tryd.pl_zero32 : zeroCs Tryd.prog 32 = some [.slice none 0 0] := by kernel_rfl
@[go_sem] theorem Tryd.pl_und32 : Tryd.prog.underlying 32 = some (.slice 26) := by kernel_rfl
@[go_sem] theorem Tryd.pl_zv32 : zeroV Tryd.prog 26 = some (.agg #[.int .i64 0, .int .i64 0, .int .i64 0]) := by kernel_rfl
@[go_sem] theorem Tryd.pl_esz32 : eSz Tryd.prog 32 = some (26, 3) := by kernel_rfl
@[go_sem] theorem Tryd.pl_einf32 : eInf Tryd.prog 32 = some (26, 3, 24) := by kernel_rfl
@[go_sem] theorem Tryd.pl_agg37 : aggN Tryd.prog 37 = some (none) := by kernel_rfl
@[go_sem] theorem Tryd.pl_sz37 : szOf Tryd.prog 37 = some 1 := by kernel_rfl
@[go_sem] theorem Tryd.pl_zero37 : zeroCs Tryd.prog 37 = some [.slice none 0 0] := by kernel_rfl
@[go_sem] theorem Tryd.pl_und37 : Tryd.prog.underlying 37 = some (.slice 9) := by kernel_rfl
@[go_sem] theorem Tryd.pl_zv37 : zeroV Tryd.prog 9 = some (.string .empty) := by kernel_rfl
@[go_sem] theorem Tryd.pl_esz37 : eSz Tryd.prog 37 = some (9, 1) := by kernel_rfl
@[go_sem] theorem Tryd.pl_einf37 : eInf Tryd.prog 37 = some (9, 1, 16) := by kernel_rfl
@[go_sem] theorem Tryd.pl_agg38 : aggN Tryd.prog 38 = some (none) := by kernel_rfl
@[go_sem] theorem Tryd.pl_sz38 : szOf Tryd.prog 38 = some 1 := by kernel_rfl
@[go_sem] theorem Tryd.pl_zero38 : zeroCs Tryd.prog 38 = some [.slice none 0 0] := by kernel_rfl
@[go_sem] theorem Tryd.pl_und38 : Tryd.prog.underlying 38 = some (.slice 3) := by kernel_rfl
@[go_sem] theorem Tryd.pl_zv38 : zeroV Tryd.prog 3 = some (.int .i64 0) := by kernel_rfl
@[go_sem] theorem Tryd.pl_esz38 : eSz Tryd.prog 38 = some (3, 1) := by kernel_rfl
@[go_sem] theorem Tryd.pl_einf38 : eInf Tryd.prog 38 = some (3, 1, 8) := by kernel_rfl
@[go_sem] theorem Tryd.pl_agg42 : aggN Tryd.prog 42 = some (none) := by kernel_rfl
@[go_sem] theorem Tryd.pl_sz42 : szOf Tryd.prog 42 = some 1 := by kernel_rfl
@[go_sem] theorem Tryd.pl_zero42 : zeroCs Tryd.prog 42 = some [.slice none 0 0] := by kernel_rfl
@[go_sem] theorem Tryd.pl_und42 : Tryd.prog.underlying 42 = some (.slice 5) := by kernel_rfl
@[go_sem] theorem Tryd.pl_zv42 : zeroV Tryd.prog 5 = some (.int .u8 0) := by kernel_rfl
@[go_sem] theorem Tryd.pl_esz42 : eSz Tryd.prog 42 = some (5, 1) := by kernel_rfl
@[go_sem] theorem Tryd.pl_einf42 : eInf Tryd.prog 42 = some (5, 1, 1) := by kernel_rfl
@[go_sem] theorem Tryd.pl_agg46 : aggN Tryd.prog 46 = some (none) := by kernel_rfl
@[go_sem] theorem Tryd.pl_sz46 : szOf Tryd.prog 46 = some 1 := by kernel_rfl
@[go_sem] theorem Tryd.pl_zero46 : zeroCs Tryd.prog 46 = some [.pointer none] := by kernel_rfl
@[go_sem] theorem Tryd.pl_agg47 : aggN Tryd.prog 47 = some (some 2) := by kernel_rfl
@[go_sem] theorem Tryd.pl_sz47 : szOf Tryd.prog 47 = some 2 := by kernel_rfl
@[go_sem] theorem Tryd.pl_zero47 : zeroCs Tryd.prog 47 = some [.pointer none, .slice none 0 0] := by kernel_rfl
@[go_sem] theorem Tryd.pl_str47 : structP Tryd.prog 47 = some ([.pointer none, .slice none 0 0], [(0, 1), (1, 1)]) := by kernel_rfl
@[go_sem] theorem Tryd.pl_off47x0 : fOff Tryd.prog 47 0 = some (0, 1) := by kernel_rfl
@[go_sem] theorem Tryd.pl_part47x0 : fPart Tryd.prog 47 0 = some (0, none) := by kernel_rfl
@[go_sem] theorem Tryd.pl_off47x1 : fOff Tryd.prog 47 1 = some (1, 1) := by kernel_rfl
@[go_sem] theorem Tryd.pl_part47x1 : fPart Tryd.prog 47 1 = some (1, none) := by kernel_rfl
@[go_sem] theorem Tryd.pl_agg48 : aggN Tryd.prog 48 = some (some 2) := by kernel_rfl
@[go_sem] theorem Tryd.pl_sz48 : szOf Tryd.prog 48 = some 2 := by kernel_rfl
@[go_sem] theorem Tryd.pl_zero48 : zeroCs Tryd.prog 48 = some [.pointer none, .slice none 0 0] := by kernel_rfl
@[go_sem] theorem Tryd.pl_str48 : structP Tryd.prog 48 = some ([.pointer none, .slice none 0 0], [(0, 1), (1, 1)]) := by kernel_rfl
@[go_sem] theorem Tryd.pl_off48x0 : fOff Tryd.prog 48 0 = some (0, 1) := by kernel_rfl
@[go_sem] theorem Tryd.pl_part48x0 : fPart Tryd.prog 48 0 = some (0, none) := by kernel_rfl
@[go_sem] theorem Tryd.pl_off48x1 : fOff Tryd.prog 48 1 = some (1, 1) := by kernel_rfl
@[go_sem] theorem Tryd.pl_part48x1 : fPart Tryd.prog 48 1 = some (1, none) := by kernel_rfl
@[go_sem] theorem Tryd.pl_agg55 : aggN Tryd.prog 55 = some (none) := by kernel_rfl
@[go_sem] theorem Tryd.pl_sz55 : szOf Tryd.prog 55 = some 1 := by kernel_rfl
@[go_sem] theorem Tryd.pl_zero55 : zeroCs Tryd.prog 55 = some [.pointer none] := by kernel_rfl
@[go_sem] theorem Tryd.pl_agg60 : aggN Tryd.prog 60 = some (some 24) := by kernel_rfl
@[go_sem] theorem Tryd.pl_sz60 : szOf Tryd.prog 60 = some 24 := by kernel_rfl
@[go_sem] theorem Tryd.pl_zero60 : zeroCs Tryd.prog 60 = some [.int .u8 0, .int .u8 0, .int .u8 0, .int .u8 0, .int .u8 0, .int .u8 0, .int .u8 0, .int .u8 0, .int .u8 0, .int .u8 0, .int .u8 0, .int .u8 0, .int .u8 0, .int .u8 0, .int .u8 0, .int .u8 0, .int .u8 0, .int .u8 0, .int .u8 0, .int .u8 0, .int .u8 0, .int .u8 0, .int .u8 0, .int .u8 0] := by kernel_rfl
@[go_sem] theorem Tryd.pl_agg61 : aggN Tryd.prog 61 = some (none) := by kernel_rfl
@[go_sem] theorem Tryd.pl_sz61 : szOf Tryd.prog 61 = some 1 := by kernel_rfl
@[go_sem] theorem Tryd.pl_zero61 : zeroCs Tryd.prog 61 = some [.int .u64 0] := by kernel_rfl
@[go_sem] theorem Tryd.pl_und61 : Tryd.prog.underlying 61 = some (.int .u64) := by kernel_rfl
@[go_sem] theorem Tryd.pl_agg67 : aggN Tryd.prog 67 = some (some 20) := by kernel_rfl
@[go_sem] theorem Tryd.pl_sz67 : szOf Tryd.prog 67 = some 20 := by kernel_rfl
@[go_sem] theorem Tryd.pl_zero67 : zeroCs Tryd.prog 67 = some [.int .u64 0, .int .u64 0, .int .u64 0, .int .u64 0, .int .u64 0, .int .u64 0, .int .u64 0, .int .u64 0, .int .u64 0, .int .u64 0, .int .u64 0, .int .u64 0, .int .u64 0, .int .u64 0, .int .u64 0, .int .u64 0, .int .u64 0, .int .u64 0, .int .u64 0, .int .u64 0] := by kernel_rfl
@[go_sem] theorem Tryd.pl_agg68 : aggN Tryd.prog 68 = some (none) := by kernel_rfl
@[go_sem] theorem Tryd.pl_sz68 : szOf Tryd.prog 68 = some 1 := by kernel_rfl
@[go_sem] theorem Tryd.pl_zero68 : zeroCs Tryd.prog 68 = some [.int .u32 0] := by kernel_rfl
@[go_sem] theorem Tryd.pl_und68 : Tryd.prog.underlying 68 = some (.int .u32) := by kernel_rfl
@[go_sem] theorem Tryd.pl_agg69 : aggN Tryd.prog 69 = some (some 65) := by kernel_rfl
@[go_sem] theorem Tryd.pl_sz69 : szOf Tryd.prog 69 = some 65 := by kernel_rfl
@[go_sem] theorem Tryd.pl_agg71 : aggN Tryd.prog 71 = some (none) := by kernel_rfl
@[go_sem] theorem Tryd.pl_sz71 : szOf Tryd.prog 71 = some 1 := by kernel_rfl
@[go_sem] theorem Tryd.pl_zero71 : zeroCs Tryd.prog 71 = some [.int .u64 0] := by kernel_rfl
@[go_sem] theorem Tryd.pl_und71 : Tryd.prog.underlying 71 = some (.int .u64) := by kernel_rfl
@[go_sem] theorem Tryd.pl_agg74 : aggN Tryd.prog 74 = some (some 32) := by kernel_rfl
@[go_sem] theorem Tryd.pl_sz74 : szOf Tryd.prog 74 = some 32 := by kernel_rfl
@[go_sem] theorem Tryd.pl_agg75 : aggN Tryd.prog 75 = some (some 64) := by kernel_rfl
@[go_sem] theorem Tryd.pl_sz75 : szOf Tryd.prog 75 = some 64 := by kernel_rfl
@[go_sem] theorem Tryd.pl_agg76 : aggN Tryd.prog 76 = some (some 4) := by kernel_rfl
@[go_sem] theorem Tryd.pl_sz76 : szOf Tryd.prog 76 = some 4 := by kernel_rfl
@[go_sem] theorem Tryd.pl_zero76 : zeroCs Tryd.prog 76 = some [.pointer none, .pointer none, .pointer none, .string .empty] := by kernel_rfl
@[go_sem] theorem Tryd.pl_str76 : structP Tryd.prog 76 = some ([.pointer none, .pointer none, .pointer none, .string .empty], [(0, 1), (1, 1), (2, 1), (3, 1)]) := by kernel_rfl
@[go_sem] theorem Tryd.pl_off76x0 : fOff Tryd.prog 76 0 = some (0, 1) := by kernel_rfl
@[go_sem] theorem Tryd.pl_part76x0 : fPart Tryd.prog 76 0 = some (0, none) := by kernel_rfl
@[go_sem] theorem Tryd.pl_off76x1 : fOff Tryd.prog 76 1 = some (1, 1) := by kernel_rfl
@[go_sem] theorem Tryd.pl_part76x1 : fPart Tryd.prog 76 1 = some (1, none) := by kernel_rfl
@[go_sem] theorem Tryd.pl_off76x2 : fOff Tryd.prog 76 2 = some (2, 1) := by kernel_rfl
@[go_sem] theorem Tryd.pl_part76x2 : fPart Tryd.prog 76 2 = some (2, none) := by kernel_rfl
@[go_sem] theorem Tryd.pl_off76x3 : fOff Tryd.prog 76 3 = some (3, 1) := by kernel_rfl
@[go_sem] theorem Tryd.pl_part76x3 : fPart Tryd.prog 76 3 = some (3, none) := by kernel_rfl
@[go_sem] theorem Tryd.pl_agg77 : aggN Tryd.prog 77 = some (some 4) := by kernel_rfl
@[go_sem] theorem Tryd.pl_sz77 : szOf Tryd.prog 77 = some 4 := by kernel_rfl
@[go_sem] theorem Tryd.pl_zero77 : zeroCs Tryd.prog 77 = some [.pointer none, .pointer none, .pointer none, .string .empty] := by kernel_rfl
@[go_sem] theorem Tryd.pl_str77 : structP Tryd.prog 77 = some ([.pointer none, .pointer none, .pointer none, .string .empty], [(0, 1), (1, 1), (2, 1), (3, 1)]) := by kernel_rfl
@[go_sem] theorem Tryd.pl_off77x0 : fOff Tryd.prog 77 0 = some (0, 1) := by kernel_rfl
@[go_sem] theorem Tryd.pl_part77x0 : fPart Tryd.prog 77 0 = some (0, none) := by kernel_rfl
@[go_sem] theorem Tryd.pl_off77x1 : fOff Tryd.prog 77 1 = some (1, 1) := by kernel_rfl
@[go_sem] theorem Tryd.pl_part77x1 : fPart Tryd.prog 77 1 = some (1, none) := by kernel_rfl
@[go_sem] theorem Tryd.pl_off77x2 : fOff Tryd.prog 77 2 = some (2, 1) := by kernel_rfl
@[go_sem] theorem Tryd.pl_part77x2 : fPart Tryd.prog 77 2 = some (2, none) := by kernel_rfl
@[go_sem] theorem Tryd.pl_off77x3 : fOff Tryd.prog 77 3 = some (3, 1) := by kernel_rfl
@[go_sem] theorem Tryd.pl_part77x3 : fPart Tryd.prog 77 3 = some (3, none) := by kernel_rfl
@[go_sem] theorem Tryd.pl_agg78 : aggN Tryd.prog 78 = some (some 0) := by kernel_rfl
@[go_sem] theorem Tryd.pl_sz78 : szOf Tryd.prog 78 = some 0 := by kernel_rfl
@[go_sem] theorem Tryd.pl_zero78 : zeroCs Tryd.prog 78 = some [] := by kernel_rfl
@[go_sem] theorem Tryd.pl_agg79 : aggN Tryd.prog 79 = some (some 0) := by kernel_rfl
@[go_sem] theorem Tryd.pl_sz79 : szOf Tryd.prog 79 = some 0 := by kernel_rfl
@[go_sem] theorem Tryd.pl_zero79 : zeroCs Tryd.prog 79 = some [] := by kernel_rfl
@[go_sem] theorem Tryd.pl_str79 : structP Tryd.prog 79 = some ([], [(0, 0)]) := by kernel_rfl
@[go_sem] theorem Tryd.pl_off79x0 : fOff Tryd.prog 79 0 = some (0, 0) := by kernel_rfl
@[go_sem] theorem Tryd.pl_part79x0 : fPart Tryd.prog 79 0 = some (0, some 0) := by kernel_rfl
@[go_sem] theorem Tryd.pl_agg80 : aggN Tryd.prog 80 = some (some 0) := by kernel_rfl
@[go_sem] theorem Tryd.pl_sz80 : szOf Tryd.prog 80 = some 0 := by kernel_rfl
@[go_sem] theorem Tryd.pl_zero80 : zeroCs Tryd.prog 80 = some [] := by kernel_rfl
@[go_sem] theorem Tryd.pl_str80 : structP Tryd.prog 80 = some ([], [(0, 0)]) := by kernel_rfl
@[go_sem] theorem Tryd.pl_off80x0 : fOff Tryd.prog 80 0 = some (0, 0) := by kernel_rfl
@[go_sem] theorem Tryd.pl_part80x0 : fPart Tryd.prog 80 0 = some (0, some 0) := by kernel_rfl
@[go_sem] theorem Tryd.pl_agg82 : aggN Tryd.prog 82 = some (none) := by kernel_rfl
@[go_sem] theorem Tryd.pl_sz82 : szOf Tryd.prog 82 = some 1 := by kernel_rfl
@[go_sem] theorem Tryd.pl_zero82 : zeroCs Tryd.prog 82 = some [.int .u8 0] := by kernel_rfl
@[go_sem] theorem Tryd.pl_und82 : Tryd.prog.underlying 82 = some (.int .u8) := by kernel_rfl
@[go_sem] theorem Tryd.pl_agg83 : aggN Tryd.prog 83 = some (none) := by kernel_rfl
@[go_sem] theorem Tryd.pl_sz83 : szOf Tryd.prog 83 = some 1 := by kernel_rfl
@[go_sem] theorem Tryd.pl_zero83 : zeroCs Tryd.prog 83 = some [.int .u8 0] := by kernel_rfl
@[go_sem] theorem Tryd.pl_und83 : Tryd.prog.underlying 83 = some (.int .u8) := by kernel_rfl
@[go_sem] theorem Tryd.pl_agg85 : aggN Tryd.prog 85 = some (none) := by kernel_rfl
@[go_sem] theorem Tryd.pl_sz85 : szOf Tryd.prog 85 = some 1 := by kernel_rfl
@[go_sem] theorem Tryd.pl_zero85 : zeroCs Tryd.prog 85 = some [.int .i32 0] := by kernel_rfl
@[go_sem] theorem Tryd.pl_und85 : Tryd.prog.underlying 85 = some (.int .i32) := by kernel_rfl
@[go_sem] theorem Tryd.pl_agg86 : aggN Tryd.prog 86 = some (none) := by kernel_rfl
@[go_sem] theorem Tryd.pl_sz86 : szOf Tryd.prog 86 = some 1 := by kernel_rfl
@[go_sem] theorem Tryd.pl_zero86 : zeroCs Tryd.prog 86 = some [.int .i32 0] := by kernel_rfl
@[go_sem] theorem Tryd.pl_und86 : Tryd.prog.underlying 86 = some (.int .i32) := by kernel_rfl
@[go_sem] theorem Tryd.pl_agg87 : aggN Tryd.prog 87 = some (some 11) := by kernel_rfl
@[go_sem] theorem Tryd.pl_sz87 : szOf Tryd.prog 87 = some 11 := by kernel_rfl
@[go_sem] theorem Tryd.pl_off87x0 : fOff Tryd.prog 87 0 = some (0, 1) := by kernel_rfl
@[go_sem] theorem Tryd.pl_part87x0 : fPart Tryd.prog 87 0 = some (0, none) := by kernel_rfl
@[go_sem] theorem Tryd.pl_off87x1 : fOff Tryd.prog 87 1 = some (1, 1) := by kernel_rfl
@[go_sem] theorem Tryd.pl_part87x1 : fPart Tryd.prog 87 1 = some (1, none) := by kernel_rfl
@[go_sem] theorem Tryd.pl_off87x2 : fOff Tryd.prog 87 2 = some (2, 1) := by kernel_rfl
@[go_sem] theorem Tryd.pl_part87x2 : fPart Tryd.prog 87 2 = some (2, none) := by kernel_rfl
@[go_sem] theorem Tryd.pl_off87x3 : fOff Tryd.prog 87 3 = some (3, 1) := by kernel_rfl
@[go_sem] theorem Tryd.pl_part87x3 : fPart Tryd.prog 87 3 = some (3, none) := by kernel_rfl
@[go_sem] theorem Tryd.pl_off87x4 : fOff Tryd.prog 87 4 = some (4, 1) := by kernel_rfl
@[go_sem] theorem Tryd.pl_part87x4 : fPart Tryd.prog 87 4 = some (4, none) := by kernel_rfl
@[go_sem] theorem Tryd.pl_off87x5 : fOff Tryd.prog 87 5 = some (5, 1) := by kernel_rfl
@[go_sem] theorem Tryd.pl_part87x5 : fPart Tryd.prog 87 5 = some (5, none) := by kernel_rfl
@[go_sem] theorem Tryd.pl_off87x6 : fOff Tryd.prog 87 6 = some (6, 1) := by kernel_rfl
@[go_sem] theorem Tryd.pl_part87x6 : fPart Tryd.prog 87 6 = some (6, none) := by kernel_rfl
@[go_sem] theorem Tryd.pl_off87x7 : fOff Tryd.prog 87 7 = some (7, 1) := by kernel_rfl
@[go_sem] theorem Tryd.pl_part87x7 : fPart Tryd.prog 87 7 = some (7, none) := by kernel_rfl
@[go_sem] theorem Tryd.pl_off87x8 : fOff Tryd.prog 87 8 = some (8, 1) := by kernel_rfl
@[go_sem] theorem Tryd.pl_part87x8 : fPart Tryd.prog 87 8 = some (8, none) := by kernel_rfl
@[go_sem] theorem Tryd.pl_off87x9 : fOff Tryd.prog 87 9 = some (9, 1) := by kernel_rfl
@[go_sem] theorem Tryd.pl_part87x9 : fPart Tryd.prog 87 9 = some (9, none) := by kernel_rfl
@[go_sem] theorem Tryd.pl_off87x10 : fOff Tryd.prog 87 10 = some (10, 1) := by kernel_rfl
@[go_sem] theorem Tryd.pl_part87x10 : fPart Tryd.prog 87 10 = some (10, none) := by kernel_rfl
@[go_sem] theorem Tryd.pl_agg88 : aggN Tryd.prog 88 = some (some 11) := by kernel_rfl
@[go_sem] theorem Tryd.pl_sz88 : szOf Tryd.prog 88 = some 11 := by kernel_rfl
@[go_sem] theorem Tryd.pl_off88x0 : fOff Tryd.prog 88 0 = some (0, 1) := by kernel_rfl
@[go_sem] theorem Tryd.pl_part88x0 : fPart Tryd.prog 88 0 = some (0, none) := by kernel_rfl
@[go_sem] theorem Tryd.pl_off88x1 : fOff Tryd.prog 88 1 = some (1, 1) := by kernel_rfl
@[go_sem] theorem Tryd.pl_part88x1 : fPart Tryd.prog 88 1 = some (1, none) := by kernel_rfl
@[go_sem] theorem Tryd.pl_off88x2 : fOff Tryd.prog 88 2 = some (2, 1) := by kernel_rfl
@[go_sem] theorem Tryd.pl_part88x2 : fPart Tryd.prog 88 2 = some (2, none) := by kernel_rfl
@[go_sem] theorem Tryd.pl_off88x3 : fOff Tryd.prog 88 3 = some (3, 1) := by kernel_rfl
@[go_sem] theorem Tryd.pl_part88x3 : fPart Tryd.prog 88 3 = some (3, none) := by kernel_rfl
@[go_sem] theorem Tryd.pl_off88x4 : fOff Tryd.prog 88 4 = some (4, 1) := by kernel_rfl
@[go_sem] theorem Tryd.pl_part88x4 : fPart Tryd.prog 88 4 = some (4, none) := by kernel_rfl
@[go_sem] theorem Tryd.pl_off88x5 : fOff Tryd.prog 88 5 = some (5, 1) := by kernel_rfl
@[go_sem] theorem Tryd.pl_part88x5 : fPart Tryd.prog 88 5 = some (5, none) := by kernel_rfl
@[go_sem] theorem Tryd.pl_off88x6 : fOff Tryd.prog 88 6 = some (6, 1) := by kernel_rfl
@[go_sem] theorem Tryd.pl_part88x6 : fPart Tryd.prog 88 6 = some (6, none) := by kernel_rfl
@[go_sem] theorem Tryd.pl_off88x7 : fOff Tryd.prog 88 7 = some (7, 1) := by kernel_rfl
@[go_sem] theorem Tryd.pl_part88x7 : fPart Tryd.prog 88 7 = some (7, none) := by kernel_rfl
@[go_sem] theorem Tryd.pl_off88x8 : fOff Tryd.prog 88 8 = some (8, 1) := by kernel_rfl
@[go_sem] theorem Tryd.pl_part88x8 : fPart Tryd.prog 88 8 = some (8, none) := by kernel_rfl
@[go_sem] theorem Tryd.pl_off88x9 : fOff Tryd.prog 88 9 = some (9, 1) := by kernel_rfl
@[go_sem] theorem Tryd.pl_part88x9 : fPart Tryd.prog 88 9 = some (9, none) := by kernel_rfl
@[go_sem] theorem Tryd.pl_off88x10 : fOff Tryd.prog 88 10 = some (10, 1) := by kernel_rfl
@[go_sem] theorem Tryd.pl_part88x10 : fPart Tryd.prog 88 10 = some (10, none) := by kernel_rfl
@[go_sem] theorem Tryd.pl_rs0 : Tryd.f0.results.toList = [] := by kernel_rfl
@[go_sem] theorem Tryd.pl_rs1 : Tryd.f1.results.toList = [] := by kernel_rfl
@[go_sem] theorem Tryd.pl_rs2 : Tryd.f2.results.toList = [] := by kernel_rfl
@[go_sem] theorem Tryd.pl_rs3 : Tryd.f3.results.toList = [.tmp 2] := by kernel_rfl
@[go_sem] theorem Tryd.pl_rs4 : Tryd.f4.results.toList = [.tmp 2] := by kernel_rfl
@[go_sem] theorem Tryd.pl_rs5 : Tryd.f5.results.toList = [.tmp 2, .tmp 3] := by kernel_rfl
@[go_sem] theorem Tryd.pl_rs6 : Tryd.f6.results.toList = [.cell 2 26] := by kernel_rfl
@[go_sem] theorem Tryd.pl_rs7 : Tryd.f7.results.toList = [.tmp 2, .tmp 3] := by kernel_rfl
@[go_sem] theorem Tryd.pl_rs8 : Tryd.f8.results.toList = [.tmp 4] := by kernel_rfl
@[go_sem] theorem Tryd.pl_rs9 : Tryd.f9.results.toList = [.tmp 2, .tmp 3] := by kernel_rfl
@[go_sem] theorem Tryd.pl_rs10 : Tryd.f10.results.toList = [.tmp 2] := by kernel_rfl
@[go_sem] theorem Tryd.pl_rs11 : Tryd.f11.results.toList = [.tmp 2, .tmp 3] := by kernel_rfl
@[go_sem] theorem Tryd.pl_rs12 : Tryd.f12.results.toList = [.tmp 4] := by kernel_rfl
@[go_sem] theorem Tryd.pl_rs13 : Tryd.f13.results.toList = [.tmp 2] := by kernel_rfl
@[go_sem] theorem Tryd.pl_rs14 : Tryd.f14.results.toList = [.tmp 2] := by kernel_rfl
@[go_sem] theorem Tryd.pl_rs15 : Tryd.f15.results.toList = [.tmp 2] := by kernel_rfl
@[go_sem] theorem Tryd.pl_rs16 : Tryd.f16.results.toList = [.tmp 2] := by kernel_rfl
@[go_sem] theorem Tryd.pl_rs17 : Tryd.f17.results.toList = [.tmp 2] := by kernel_rfl
@[go_sem] theorem Tryd.pl_rs18 : Tryd.f18.results.toList = [.tmp 4] := by kernel_rfl
@[go_sem] theorem Tryd.pl_rs19 : Tryd.f19.results.toList = [.tmp 2] := by kernel_rfl
@[go_sem] theorem Tryd.pl_rs20 : Tryd.f20.results.toList = [.tmp 4] := by kernel_rfl
@[go_sem] theorem Tryd.pl_rs21 : Tryd.f21.results.toList = [.tmp 6] := by kernel_rfl
@[go_sem] theorem Tryd.pl_rs22 : Tryd.f22.results.toList = [.tmp 2] := by kernel_rfl
@[go_sem] theorem Tryd.pl_rs23 : Tryd.f23.results.toList = [.tmp 6] := by kernel_rfl
@[go_sem] theorem Tryd.pl_rs24 : Tryd.f24.results.toList = [.tmp 2] := by kernel_rfl
@[go_sem] theorem Tryd.pl_rs25 : Tryd.f25.results.toList = [] := by kernel_rfl
@[go_sem] theorem Tryd.pl_rs26 : Tryd.f26.results.toList = [.tmp 4, .tmp 5] := by kernel_rfl
@[go_sem] theorem Tryd.pl_rs27 : Tryd.f27.results.toList = [.tmp 2] := by kernel_rfl
@[go_sem] theorem Tryd.pl_rs28 : Tryd.f28.results.toList = [.tmp 2] := by kernel_rfl
@[go_sem] theorem Tryd.pl_rs29 : Tryd.f29.results.toList = [] := by kernel_rfl
@[go_sem] theorem Tryd.pl_rs30 : Tryd.f30.results.toList = [] := by kernel_rfl
@[go_sem] theorem Tryd.pl_rs31 : Tryd.f31.results.toList = [.tmp 4] := by kernel_rfl
@[go_sem] theorem Tryd.pl_rs32 : Tryd.f32.results.toList = [] := by kernel_rfl
@[go_sem] theorem Tryd.pl_rs33 : Tryd.f33.results.toList = [] := by kernel_rfl
@[go_sem] theorem Tryd.pl_rs34 : Tryd.f34.results.toList = [.tmp 2] := by kernel_rfl
@[go_sem] theorem Tryd.pl_rs35 : Tryd.f35.results.toList = [.tmp 2] := by kernel_rfl
@[go_sem] theorem Tryd.pl_rs36 : Tryd.f36.results.toList = [] := by kernel_rfl
@[go_sem] theorem Tryd.pl_rs37 : Tryd.f37.results.toList = [.tmp 10, .tmp 11] := by kernel_rfl
@[go_sem] theorem Tryd.pl_rs38 : Tryd.f38.results.toList = [.tmp 2] := by kernel_rfl
@[go_sem] theorem Tryd.pl_rs39 : Tryd.f39.results.toList = [.tmp 2] := by kernel_rfl
@[go_sem] theorem Tryd.pl_rs40 : Tryd.f40.results.toList = [.tmp 2] := by kernel_rfl
@[go_sem] theorem Tryd.pl_rs41 : Tryd.f41.results.toList = [.tmp 2] := by kernel_rfl
@[go_sem] theorem Tryd.pl_rs42 : Tryd.f42.results.toList = [.tmp 2] := by kernel_rfl
@[go_sem] theorem Tryd.pl_rs43 : Tryd.f43.results.toList = [.tmp 2] := by kernel_rfl
@[go_sem] theorem Tryd.pl_rs44 : Tryd.f44.results.toList = [.tmp 2] := by kernel_rfl
@[go_sem] theorem Tryd.pl_rs45 : Tryd.f45.results.toList = [] := by kernel_rfl
@[go_sem] theorem Tryd.pl_rs46 : Tryd.f46.results.toList = [] := by kernel_rfl
@[go_sem] theorem Tryd.pl_rs47 : Tryd.f47.results.toList = [] := by kernel_rfl
@[go_sem] theorem Tryd.pl_rs48 : Tryd.f48.results.toList = [] := by kernel_rfl
@[go_sem] theorem Tryd.pl_rs49 : Tryd.f49.results.toList = [] := by kernel_rfl
@[go_sem] theorem Tryd.pl_rs50 : Tryd.f50.results.toList = [] := by kernel_rfl
@[go_sem] theorem Tryd.pl_rs51 : Tryd.f51.results.toList = [] := by kernel_rfl
@[go_sem] theorem Tryd.pl_rs52 : Tryd.f52.results.toList = [] := by kernel_rfl
@[go_sem] theorem Tryd.pl_rs53 : Tryd.f53.results.toList = [] := by kernel_rfl
@[go_sem] theorem Tryd.pl_rs54 : Tryd.f54.results.toList = [] := by kernel_rfl
@[go_sem] theorem Tryd.pl_rs55 : Tryd.f55.results.toList = [] := by kernel_rfl
@[go_sem] theorem Tryd.pl_rs56 : Tryd.f56.results.toList = [] := by kernel_rfl
@[go_sem] theorem Tryd.pl_rs57 : Tryd.f57.results.toList = [] := by kernel_rfl
@[go_sem] theorem Tryd.pl_rs58 : Tryd.f58.results.toList = [] := by kernel_rfl
@[go_sem] theorem Tryd.pl_rs59 : Tryd.f59.results.toList = [] := by kernel_rfl
@[go_sem] theorem Tryd.pl_rs60 : Tryd.f60.results.toList = [] := by kernel_rfl
@[go_sem] theorem Tryd.pl_rs61 : Tryd.f61.results.toList = [] := by kernel_rfl
@[go_sem] theorem Tryd.pl_rs62 : Tryd.f62.results.toList = [] := by kernel_rfl
@[go_sem] theorem Tryd.pl_rs63 : Tryd.f63.results.toList = [] := by kernel_rfl
@[go_sem] theorem Tryd.pl_rs64 : Tryd.f64.results.toList = [] := by kernel_rfl
@[go_sem] theorem Tryd.pl_rs65 : Tryd.f65.results.toList = [] := by kernel_rfl
@[go_sem] theorem Tryd.pl_rs66 : Tryd.f66.results.toList = [] := by kernel_rfl
@[go_sem] theorem Tryd.pl_rs67 : Tryd.f67.results.toList = [] := by kernel_rfl
theorem Tryd.pl_follows : Tryd.prog.follows .mixedOrders = true := by kernel_rfl
end Go.Proofs
