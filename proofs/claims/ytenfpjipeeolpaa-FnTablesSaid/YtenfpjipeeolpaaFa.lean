/-
  Facts on the types of this translation: cells, places, zero values. Printed by a program.
-/
import Derived.Test.YtenfpjipeeolpaaRows
import Derived.Test.YtenfpjipeeolpaaEf
import Derived.KernelRfl
namespace Go.Proofs
open Go.PL
@[go_sem] theorem Try.pl_agg2 : aggN Try.prog 2 = some (none) := by kernel_rfl
@[go_sem] theorem Try.pl_sz2 : szOf Try.prog 2 = some 1 := by kernel_rfl
@[go_sem] theorem Try.pl_zero2 : zeroCs Try.prog 2 = some [.int .i64 0] := by kernel_rfl
@[go_sem] theorem Try.pl_und2 : Try.prog.underlying 2 = some (.int .i64) := by kernel_rfl
@[go_sem] theorem Try.pl_agg3 : aggN Try.prog 3 = some (none) := by kernel_rfl
@[go_sem] theorem Try.pl_sz3 : szOf Try.prog 3 = some 1 := by kernel_rfl
@[go_sem] theorem Try.pl_zero3 : zeroCs Try.prog 3 = some [.int .i64 0] := by kernel_rfl
@[go_sem] theorem Try.pl_und3 : Try.prog.underlying 3 = some (.int .i64) := by kernel_rfl
@[go_sem] theorem Try.pl_agg4 : aggN Try.prog 4 = some (none) := by kernel_rfl
@[go_sem] theorem Try.pl_sz4 : szOf Try.prog 4 = some 1 := by kernel_rfl
@[go_sem] theorem Try.pl_zero4 : zeroCs Try.prog 4 = some [.bool false] := by kernel_rfl
@[go_sem] theorem Try.pl_und4 : Try.prog.underlying 4 = some .bool := by kernel_rfl
@[go_sem] theorem Try.pl_agg5 : aggN Try.prog 5 = some (none) := by kernel_rfl
@[go_sem] theorem Try.pl_sz5 : szOf Try.prog 5 = some 1 := by kernel_rfl
@[go_sem] theorem Try.pl_zero5 : zeroCs Try.prog 5 = some [.int .u8 0] := by kernel_rfl
@[go_sem] theorem Try.pl_und5 : Try.prog.underlying 5 = some (.int .u8) := by kernel_rfl
@[go_sem] theorem Try.pl_agg6 : aggN Try.prog 6 = some (none) := by kernel_rfl
@[go_sem] theorem Try.pl_sz6 : szOf Try.prog 6 = some 1 := by kernel_rfl
@[go_sem] theorem Try.pl_zero6 : zeroCs Try.prog 6 = some [.int .u8 0] := by kernel_rfl
@[go_sem] theorem Try.pl_und6 : Try.prog.underlying 6 = some (.int .u8) := by kernel_rfl
@[go_sem] theorem Try.pl_agg7 : aggN Try.prog 7 = some (some 4) := by kernel_rfl
@[go_sem] theorem Try.pl_sz7 : szOf Try.prog 7 = some 4 := by kernel_rfl
@[go_sem] theorem Try.pl_zero7 : zeroCs Try.prog 7 = some [.int .i64 0, .int .i64 0, .bool false, .int .u8 0] := by kernel_rfl
@[go_sem] theorem Try.pl_str7 : structP Try.prog 7 = some ([.int .i64 0, .int .i64 0, .bool false, .int .u8 0], [(0, 1), (1, 1), (2, 1), (3, 1)]) := by kernel_rfl
@[go_sem] theorem Try.pl_off7x0 : fOff Try.prog 7 0 = some (0, 1) := by kernel_rfl
@[go_sem] theorem Try.pl_part7x0 : fPart Try.prog 7 0 = some (0, none) := by kernel_rfl
@[go_sem] theorem Try.pl_off7x1 : fOff Try.prog 7 1 = some (1, 1) := by kernel_rfl
@[go_sem] theorem Try.pl_part7x1 : fPart Try.prog 7 1 = some (1, none) := by kernel_rfl
@[go_sem] theorem Try.pl_off7x2 : fOff Try.prog 7 2 = some (2, 1) := by kernel_rfl
@[go_sem] theorem Try.pl_part7x2 : fPart Try.prog 7 2 = some (2, none) := by kernel_rfl
@[go_sem] theorem Try.pl_off7x3 : fOff Try.prog 7 3 = some (3, 1) := by kernel_rfl
@[go_sem] theorem Try.pl_part7x3 : fPart Try.prog 7 3 = some (3, none) := by kernel_rfl
@[go_sem] theorem Try.pl_agg8 : aggN Try.prog 8 = some (some 4) := by kernel_rfl
@[go_sem] theorem Try.pl_sz8 : szOf Try.prog 8 = some 4 := by kernel_rfl
@[go_sem] theorem Try.pl_zero8 : zeroCs Try.prog 8 = some [.int .i64 0, .int .i64 0, .bool false, .int .u8 0] := by kernel_rfl
@[go_sem] theorem Try.pl_str8 : structP Try.prog 8 = some ([.int .i64 0, .int .i64 0, .bool false, .int .u8 0], [(0, 1), (1, 1), (2, 1), (3, 1)]) := by kernel_rfl
@[go_sem] theorem Try.pl_off8x0 : fOff Try.prog 8 0 = some (0, 1) := by kernel_rfl
@[go_sem] theorem Try.pl_part8x0 : fPart Try.prog 8 0 = some (0, none) := by kernel_rfl
@[go_sem] theorem Try.pl_off8x1 : fOff Try.prog 8 1 = some (1, 1) := by kernel_rfl
@[go_sem] theorem Try.pl_part8x1 : fPart Try.prog 8 1 = some (1, none) := by kernel_rfl
@[go_sem] theorem Try.pl_off8x2 : fOff Try.prog 8 2 = some (2, 1) := by kernel_rfl
@[go_sem] theorem Try.pl_part8x2 : fPart Try.prog 8 2 = some (2, none) := by kernel_rfl
@[go_sem] theorem Try.pl_off8x3 : fOff Try.prog 8 3 = some (3, 1) := by kernel_rfl
@[go_sem] theorem Try.pl_part8x3 : fPart Try.prog 8 3 = some (3, none) := by kernel_rfl
@[go_sem] theorem Try.pl_agg9 : aggN Try.prog 9 = some (none) := by kernel_rfl
@[go_sem] theorem Try.pl_sz9 : szOf Try.prog 9 = some 1 := by kernel_rfl
@[go_sem] theorem Try.pl_zero9 : zeroCs Try.prog 9 = some [.string .empty] := by kernel_rfl
@[go_sem] theorem Try.pl_und9 : Try.prog.underlying 9 = some .string := by kernel_rfl
@[go_sem] theorem Try.pl_agg10 : aggN Try.prog 10 = some (none) := by kernel_rfl
@[go_sem] theorem Try.pl_sz10 : szOf Try.prog 10 = some 1 := by kernel_rfl
@[go_sem] theorem Try.pl_zero10 : zeroCs Try.prog 10 = some [.string .empty] := by kernel_rfl
@[go_sem] theorem Try.pl_und10 : Try.prog.underlying 10 = some .string := by kernel_rfl
@[go_sem] theorem Try.pl_agg11 : aggN Try.prog 11 = some (none) := by kernel_rfl
@[go_sem] theorem Try.pl_sz11 : szOf Try.prog 11 = some 1 := by kernel_rfl
@[go_sem] theorem Try.pl_zero11 : zeroCs Try.prog 11 = some [.string .empty] := by kernel_rfl
@[go_sem] theorem Try.pl_und11 : Try.prog.underlying 11 = some .string := by kernel_rfl
@[go_sem] theorem Try.pl_agg12 : aggN Try.prog 12 = some (none) := by kernel_rfl
@[go_sem] theorem Try.pl_sz12 : szOf Try.prog 12 = some 1 := by kernel_rfl
@[go_sem] theorem Try.pl_zero12 : zeroCs Try.prog 12 = some [.int .u64 0] := by kernel_rfl
@[go_sem] theorem Try.pl_und12 : Try.prog.underlying 12 = some (.int .u64) := by kernel_rfl
@[go_sem] theorem Try.pl_agg13 : aggN Try.prog 13 = some (some 2) := by kernel_rfl
@[go_sem] theorem Try.pl_sz13 : szOf Try.prog 13 = some 2 := by kernel_rfl
@[go_sem] theorem Try.pl_zero13 : zeroCs Try.prog 13 = some [.string .empty, .int .u64 0] := by kernel_rfl
@[go_sem] theorem Try.pl_str13 : structP Try.prog 13 = some ([.string .empty, .int .u64 0], [(0, 1), (1, 1)]) := by kernel_rfl
@[go_sem] theorem Try.pl_off13x0 : fOff Try.prog 13 0 = some (0, 1) := by kernel_rfl
@[go_sem] theorem Try.pl_part13x0 : fPart Try.prog 13 0 = some (0, none) := by kernel_rfl
@[go_sem] theorem Try.pl_off13x1 : fOff Try.prog 13 1 = some (1, 1) := by kernel_rfl
@[go_sem] theorem Try.pl_part13x1 : fPart Try.prog 13 1 = some (1, none) := by kernel_rfl
@[go_sem] theorem Try.pl_agg14 : aggN Try.prog 14 = some (some 2) := by kernel_rfl
@[go_sem] theorem Try.pl_sz14 : szOf Try.prog 14 = some 2 := by kernel_rfl
@[go_sem] theorem Try.pl_zero14 : zeroCs Try.prog 14 = some [.string .empty, .int .u64 0] := by kernel_rfl
@[go_sem] theorem Try.pl_str14 : structP Try.prog 14 = some ([.string .empty, .int .u64 0], [(0, 1), (1, 1)]) := by kernel_rfl
@[go_sem] theorem Try.pl_off14x0 : fOff Try.prog 14 0 = some (0, 1) := by kernel_rfl
@[go_sem] theorem Try.pl_part14x0 : fPart Try.prog 14 0 = some (0, none) := by kernel_rfl
@[go_sem] theorem Try.pl_off14x1 : fOff Try.prog 14 1 = some (1, 1) := by kernel_rfl
@[go_sem] theorem Try.pl_part14x1 : fPart Try.prog 14 1 = some (1, none) := by kernel_rfl
@[go_sem] theorem Try.pl_agg15 : aggN Try.prog 15 = some (none) := by kernel_rfl
@[go_sem] theorem Try.pl_sz15 : szOf Try.prog 15 = some 1 := by kernel_rfl
@[go_sem] theorem Try.pl_zero15 : zeroCs Try.prog 15 = some [.pointer none] := by kernel_rfl
@[go_sem] theorem Try.pl_agg16 : aggN Try.prog 16 = some (none) := by kernel_rfl
@[go_sem] theorem Try.pl_sz16 : szOf Try.prog 16 = some 1 := by kernel_rfl
@[go_sem] theorem Try.pl_zero16 : zeroCs Try.prog 16 = some [.pointer none] := by kernel_rfl
@[go_sem] theorem Try.pl_agg17 : aggN Try.prog 17 = some (none) := by kernel_rfl
@[go_sem] theorem Try.pl_sz17 : szOf Try.prog 17 = some 1 := by kernel_rfl
@[go_sem] theorem Try.pl_zero17 : zeroCs Try.prog 17 = some [.pointer none] := by kernel_rfl
@[go_sem] theorem Try.pl_agg18 : aggN Try.prog 18 = some (some 1) := by kernel_rfl
@[go_sem] theorem Try.pl_sz18 : szOf Try.prog 18 = some 1 := by kernel_rfl
@[go_sem] theorem Try.pl_zero18 : zeroCs Try.prog 18 = some [.pointer none] := by kernel_rfl
@[go_sem] theorem Try.pl_str18 : structP Try.prog 18 = some ([.pointer none], [(0, 1)]) := by kernel_rfl
@[go_sem] theorem Try.pl_off18x0 : fOff Try.prog 18 0 = some (0, 1) := by kernel_rfl
@[go_sem] theorem Try.pl_part18x0 : fPart Try.prog 18 0 = some (0, none) := by kernel_rfl
@[go_sem] theorem Try.pl_agg19 : aggN Try.prog 19 = some (some 1) := by kernel_rfl
@[go_sem] theorem Try.pl_sz19 : szOf Try.prog 19 = some 1 := by kernel_rfl
@[go_sem] theorem Try.pl_zero19 : zeroCs Try.prog 19 = some [.pointer none] := by kernel_rfl
@[go_sem] theorem Try.pl_str19 : structP Try.prog 19 = some ([.pointer none], [(0, 1)]) := by kernel_rfl
@[go_sem] theorem Try.pl_off19x0 : fOff Try.prog 19 0 = some (0, 1) := by kernel_rfl
@[go_sem] theorem Try.pl_part19x0 : fPart Try.prog 19 0 = some (0, none) := by kernel_rfl
@[go_sem] theorem Try.pl_agg21 : aggN Try.prog 21 = some (none) := by kernel_rfl
@[go_sem] theorem Try.pl_sz21 : szOf Try.prog 21 = some 1 := by kernel_rfl
@[go_sem] theorem Try.pl_zero21 : zeroCs Try.prog 21 = some [.int .i32 0] := by kernel_rfl
@[go_sem] theorem Try.pl_und21 : Try.prog.underlying 21 = some (.int .i32) := by kernel_rfl
@[go_sem] theorem Try.pl_agg22 : aggN Try.prog 22 = some (none) := by kernel_rfl
@[go_sem] theorem Try.pl_sz22 : szOf Try.prog 22 = some 1 := by kernel_rfl
@[go_sem] theorem Try.pl_zero22 : zeroCs Try.prog 22 = some [.slice none 0 0] := by kernel_rfl
@[go_sem] theorem Try.pl_und22 : Try.prog.underlying 22 = some (.slice 5) := by kernel_rfl
@[go_sem] theorem Try.pl_zv22 : zeroV Try.prog 5 = some (.int .u8 0) := by kernel_rfl
@[go_sem] theorem Try.pl_esz22 : eSz Try.prog 22 = some (5, 1) := by kernel_rfl
@[go_sem] theorem Try.pl_einf22 : eInf Try.prog 22 = some (5, 1, 1) := by kernel_rfl
@[go_sem] theorem Try.pl_agg24 : aggN Try.prog 24 = some (none) := by kernel_rfl
@[go_sem] theorem Try.pl_sz24 : szOf Try.prog 24 = some 1 := by kernel_rfl
@[go_sem] theorem Try.pl_zero24 : zeroCs Try.prog 24 = some [.slice none 0 0] := by kernel_rfl
@[go_sem] theorem Try.pl_und24 : Try.prog.underlying 24 = some (.slice 31) := by kernel_rfl
@[go_sem] theorem Try.pl_zv24 : zeroV Try.prog 31 = some (.agg #[.int .i64 0, .int .i64 0, .int .i64 0, .int .i64 0]) := by kernel_rfl
@[go_sem] theorem Try.pl_esz24 : eSz Try.prog 24 = some (31, 4) := by kernel_rfl
@[go_sem] theorem Try.pl_einf24 : eInf Try.prog 24 = some (31, 4, 32) := by kernel_rfl
@[go_sem] theorem Try.pl_agg30 : aggN Try.prog 30 = some (some 4) := by kernel_rfl
@[go_sem] theorem Try.pl_sz30 : szOf Try.prog 30 = some 4 := by kernel_rfl
@[go_sem] theorem Try.pl_zero30 : zeroCs Try.prog 30 = some [.int .i64 0, .int .i64 0, .int .i64 0, .int .i64 0] := by kernel_rfl
@[go_sem] theorem Try.pl_str30 : structP Try.prog 30 = some ([.int .i64 0, .int .i64 0, .int .i64 0, .int .i64 0], [(0, 1), (1, 1), (2, 1), (3, 1)]) := by kernel_rfl
@[go_sem] theorem Try.pl_off30x0 : fOff Try.prog 30 0 = some (0, 1) := by kernel_rfl
@[go_sem] theorem Try.pl_part30x0 : fPart Try.prog 30 0 = some (0, none) := by kernel_rfl
@[go_sem] theorem Try.pl_off30x1 : fOff Try.prog 30 1 = some (1, 1) := by kernel_rfl
@[go_sem] theorem Try.pl_part30x1 : fPart Try.prog 30 1 = some (1, none) := by kernel_rfl
@[go_sem] theorem Try.pl_off30x2 : fOff Try.prog 30 2 = some (2, 1) := by kernel_rfl
@[go_sem] theorem Try.pl_part30x2 : fPart Try.prog 30 2 = some (2, none) := by kernel_rfl
@[go_sem] theorem Try.pl_off30x3 : fOff Try.prog 30 3 = some (3, 1) := by kernel_rfl
@[go_sem] theorem Try.pl_part30x3 : fPart Try.prog 30 3 = some (3, none) := by kernel_rfl
@[go_sem] theorem Try.pl_agg31 : aggN Try.prog 31 = some (some 4) := by kernel_rfl
@[go_sem] theorem Try.pl_sz31 : szOf Try.prog 31 = some 4 := by kernel_rfl
@[go_sem] theorem Try.pl_zero31 : zeroCs Try.prog 31 = some [.int .i64 0, .int .i64 0, .int .i64 0, .int .i64 0] := by kernel_rfl
@[go_sem] theorem Try.pl_str31 : structP Try.prog 31 = some ([.int .i64 0, .int .i64 0, .int .i64 0, .int .i64 0], [(0, 1), (1, 1), (2, 1), (3, 1)]) := by kernel_rfl
@[go_sem] theorem Try.pl_off31x0 : fOff Try.prog 31 0 = some (0, 1) := by kernel_rfl
@[go_sem] theorem Try.pl_part31x0 : fPart Try.prog 31 0 = some (0, none) := by kernel_rfl
@[go_sem] theorem Try.pl_off31x1 : fOff Try.prog 31 1 = some (1, 1) := by kernel_rfl
@[go_sem] theorem Try.pl_part31x1 : fPart Try.prog 31 1 = some (1, none) := by kernel_rfl
@[go_sem] theorem Try.pl_off31x2 : fOff Try.prog 31 2 = some (2, 1) := by kernel_rfl
@[go_sem] theorem Try.pl_part31x2 : fPart Try.prog 31 2 = some (2, none) := by kernel_rfl
@[go_sem] theorem Try.pl_off31x3 : fOff Try.prog 31 3 = some (3, 1) := by kernel_rfl
@[go_sem] theorem Try.pl_part31x3 : fPart Try.prog 31 3 = some (3, none) := by kernel_rfl
@[go_sem] theorem Try.pl_agg36 : aggN Try.prog 36 = some (some 3) := by kernel_rfl
@[go_sem] theorem Try.pl_sz36 : szOf Try.prog 36 = some 3 := by kernel_rfl
@[go_sem] theorem Try.pl_zero36 : zeroCs Try.prog 36 = some [.int .i64 0, .int .i64 0, .int .i64 0] := by kernel_rfl
@[go_sem] theorem Try.pl_str36 : structP Try.prog 36 = some ([.int .i64 0, .int .i64 0, .int .i64 0], [(0, 1), (1, 1), (2, 1)]) := by kernel_rfl
@[go_sem] theorem Try.pl_off36x0 : fOff Try.prog 36 0 = some (0, 1) := by kernel_rfl
@[go_sem] theorem Try.pl_part36x0 : fPart Try.prog 36 0 = some (0, none) := by kernel_rfl
@[go_sem] theorem Try.pl_off36x1 : fOff Try.prog 36 1 = some (1, 1) := by kernel_rfl
@[go_sem] theorem Try.pl_part36x1 : fPart Try.prog 36 1 = some (1, none) := by kernel_rfl
@[go_sem] theorem Try.pl_off36x2 : fOff Try.prog 36 2 = some (2, 1) := by kernel_rfl
@[go_sem] theorem Try.pl_part36x2 : fPart Try.prog 36 2 = some (2, none) := by kernel_rfl
@[go_sem] theorem Try.pl_agg37 : aggN Try.prog 37 = some (some 3) := by kernel_rfl
@[go_sem] theorem Try.pl_sz37 : szOf Try.prog 37 = some 3 := by kernel_rfl
@[go_sem] theorem Try.pl_zero37 : zeroCs Try.prog 37 = some [.int .i64 0, .int .i64 0, .int .i64 0] := by kernel_rfl
@[go_sem] theorem Try.pl_str37 : structP Try.prog 37 = some ([.int .i64 0, .int .i64 0, .int .i64 0], [(0, 1), (1, 1), (2, 1)]) := by kernel_rfl
@[go_sem] theorem Try.pl_off37x0 : fOff Try.prog 37 0 = some (0, 1) := by kernel_rfl
@[go_sem] theorem Try.pl_part37x0 : fPart Try.prog 37 0 = some (0, none) := by kernel_rfl
@[go_sem] theorem Try.pl_off37x1 : fOff Try.prog 37 1 = some (1, 1) := by kernel_rfl
@[go_sem] theorem Try.pl_part37x1 : fPart Try.prog 37 1 = some (1, none) := by kernel_rfl
@[go_sem] theorem Try.pl_off37x2 : fOff Try.prog 37 2 = some (2, 1) := by kernel_rfl
@[go_sem] theorem Try.pl_part37x2 : fPart Try.prog 37 2 = some (2, none) := by kernel_rfl
@[go_sem] theorem Try.pl_agg41 : aggN Try.prog 41 = some (none) := by kernel_rfl
@[go_sem] theorem Try.pl_sz41 : szOf Try.prog 41 = some 1 := by kernel_rfl
@[go_sem] theorem Try.pl_zero41 : zeroCs Try.prog 41 = some [.slice none 0 0] := by kernel_rfl
@[go_sem] theorem Try.pl_und41 : Try.prog.underlying 41 = some (.slice 3) := by kernel_rfl
@[go_sem] theorem Try.pl_zv41 : zeroV Try.prog 3 = some (.int .i64 0) := by kernel_rfl
@[go_sem] theorem Try.pl_esz41 : eSz Try.prog 41 = some (3, 1) := by kernel_rfl
@[go_sem] theorem Try.pl_einf41 : eInf Try.prog 41 = some (3, 1, 8) := by kernel_rfl
@[go_sem] theorem Try.pl_agg47 : aggN Try.prog 47 = some (none) := by kernel_rfl
@[go_sem] theorem Try.pl_sz47 : szOf Try.prog 47 = some 1 := by kernel_rfl
@[go_sem] theorem Try.pl_zero47 : zeroCs Try.prog 47 = some [.slice none 0 0] := by kernel_rfl
@[go_sem] theorem Try.pl_und47 : Try.prog.underlying 47 = some (.slice 55) := by kernel_rfl
@[go_sem] theorem Try.pl_zv47 : zeroV Try.prog 55 = some (.agg #[.int .i64 0, .int .i64 0, .int .i64 0]) := by kernel_rfl
@[go_sem] theorem Try.pl_esz47 : eSz Try.prog 47 = some (55, 3) := by kernel_rfl
@[go_sem] theorem Try.pl_einf47 : eInf Try.prog 47 = some (55, 3, 24) := by kernel_rfl
@[go_sem] theorem Try.pl_agg54 : aggN Try.prog 54 = some (some 3) := by kernel_rfl
@[go_sem] theorem Try.pl_sz54 : szOf Try.prog 54 = some 3 := by kernel_rfl
@[go_sem] theorem Try.pl_zero54 : zeroCs Try.prog 54 = some [.int .i64 0, .int .i64 0, .int .i64 0] := by kernel_rfl
@[go_sem] theorem Try.pl_str54 : structP Try.prog 54 = some ([.int .i64 0, .int .i64 0, .int .i64 0], [(0, 1), (1, 1), (2, 1)]) := by kernel_rfl
@[go_sem] theorem Try.pl_off54x0 : fOff Try.prog 54 0 = some (0, 1) := by kernel_rfl
@[go_sem] theorem Try.pl_part54x0 : fPart Try.prog 54 0 = some (0, none) := by kernel_rfl
@[go_sem] theorem Try.pl_off54x1 : fOff Try.prog 54 1 = some (1, 1) := by kernel_rfl
@[go_sem] theorem Try.pl_part54x1 : fPart Try.prog 54 1 = some (1, none) := by kernel_rfl
@[go_sem] theorem Try.pl_off54x2 : fOff Try.prog 54 2 = some (2, 1) := by kernel_rfl
@[go_sem] theorem Try.pl_part54x2 : fPart Try.prog 54 2 = some (2, none) := by kernel_rfl
@[go_sem] theorem Try.pl_agg55 : aggN Try.prog 55 = some (some 3) := by kernel_rfl
@[go_sem] theorem Try.pl_sz55 : szOf Try.prog 55 = some 3 := by kernel_rfl
@[go_sem] theorem Try.pl_zero55 : zeroCs Try.prog 55 = some [.int .i64 0, .int .i64 0, .int .i64 0] := by kernel_rfl
@[go_sem] theorem Try.pl_str55 : structP Try.prog 55 = some ([.int .i64 0, .int .i64 0, .int .i64 0], [(0, 1), (1, 1), (2, 1)]) := by kernel_rfl
@[go_sem] theorem Try.pl_off55x0 : fOff Try.prog 55 0 = some (0, 1) := by kernel_rfl
@[go_sem] theorem Try.pl_part55x0 : fPart Try.prog 55 0 = some (0, none) := by kernel_rfl
@[go_sem] theorem Try.pl_off55x1 : fOff Try.prog 55 1 = some (1, 1) := by kernel_rfl
@[go_sem] theorem Try.pl_part55x1 : fPart Try.prog 55 1 = some (1, none) := by kernel_rfl
@[go_sem] theorem Try.pl_off55x2 : fOff Try.prog 55 2 = some (2, 1) := by kernel_rfl
@[go_sem] theorem Try.pl_part55x2 : fPart Try.prog 55 2 = some (2, none) := by kernel_rfl
@[go_sem] theorem Try.pl_agg56 : aggN Try.prog 56 = some (none) := by kernel_rfl
@[go_sem] theorem Try.pl_sz56 : szOf Try.prog 56 = some 1 := by kernel_rfl
@[go_sem] theorem Try.pl_zero56 : zeroCs Try.prog 56 = some [.slice none 0 0] := by kernel_rfl
@[go_sem] theorem Try.pl_und56 : Try.prog.underlying 56 = some (.slice 47) := by kernel_rfl
@[go_sem] theorem Try.pl_zv56 : zeroV Try.prog 47 = some (.slice none 0 0) := by kernel_rfl
@[go_sem] theorem Try.pl_esz56 : eSz Try.prog 56 = some (47, 1) := by kernel_rfl
@[go_sem] theorem Try.pl_einf56 : eInf Try.prog 56 = some (47, 1, 24) := by kernel_rfl
@[go_sem] theorem Try.pl_agg67 : aggN Try.prog 67 = some (some 5) := by kernel_rfl
@[go_sem] theorem Try.pl_sz67 : szOf Try.prog 67 = some 5 := by kernel_rfl
@[go_sem] theorem Try.pl_zero67 : zeroCs Try.prog 67 = some [.int .i64 0, .int .i64 0, .int .i64 0, .int .i64 0, .int .i64 0] := by kernel_rfl
@[go_sem] theorem Try.pl_str67 : structP Try.prog 67 = some ([.int .i64 0, .int .i64 0, .int .i64 0, .int .i64 0, .int .i64 0], [(0, 3), (3, 1), (4, 1)]) := by kernel_rfl
@[go_sem] theorem Try.pl_off67x0 : fOff Try.prog 67 0 = some (0, 3) := by kernel_rfl
@[go_sem] theorem Try.pl_part67x0 : fPart Try.prog 67 0 = some (0, some 3) := by kernel_rfl
@[go_sem] theorem Try.pl_off67x1 : fOff Try.prog 67 1 = some (3, 1) := by kernel_rfl
@[go_sem] theorem Try.pl_part67x1 : fPart Try.prog 67 1 = some (3, none) := by kernel_rfl
@[go_sem] theorem Try.pl_off67x2 : fOff Try.prog 67 2 = some (4, 1) := by kernel_rfl
@[go_sem] theorem Try.pl_part67x2 : fPart Try.prog 67 2 = some (4, none) := by kernel_rfl
@[go_sem] theorem Try.pl_agg68 : aggN Try.prog 68 = some (some 5) := by kernel_rfl
@[go_sem] theorem Try.pl_sz68 : szOf Try.prog 68 = some 5 := by kernel_rfl
@[go_sem] theorem Try.pl_zero68 : zeroCs Try.prog 68 = some [.int .i64 0, .int .i64 0, .int .i64 0, .int .i64 0, .int .i64 0] := by kernel_rfl
@[go_sem] theorem Try.pl_str68 : structP Try.prog 68 = some ([.int .i64 0, .int .i64 0, .int .i64 0, .int .i64 0, .int .i64 0], [(0, 3), (3, 1), (4, 1)]) := by kernel_rfl
@[go_sem] theorem Try.pl_off68x0 : fOff Try.prog 68 0 = some (0, 3) := by kernel_rfl
@[go_sem] theorem Try.pl_part68x0 : fPart Try.prog 68 0 = some (0, some 3) := by kernel_rfl
@[go_sem] theorem Try.pl_off68x1 : fOff Try.prog 68 1 = some (3, 1) := by kernel_rfl
@[go_sem] theorem Try.pl_part68x1 : fPart Try.prog 68 1 = some (3, none) := by kernel_rfl
@[go_sem] theorem Try.pl_off68x2 : fOff Try.prog 68 2 = some (4, 1) := by kernel_rfl
@[go_sem] theorem Try.pl_part68x2 : fPart Try.prog 68 2 = some (4, none) := by kernel_rfl
@[go_sem] theorem Try.pl_agg69 : aggN Try.prog 69 = some (some 8) := by kernel_rfl
@[go_sem] theorem Try.pl_sz69 : szOf Try.prog 69 = some 8 := by kernel_rfl
@[go_sem] theorem Try.pl_zero69 : zeroCs Try.prog 69 = some [.int .i64 0, .int .i64 0, .int .i64 0, .int .i64 0, .int .i64 0, .slice none 0 0, .int .i64 0, .int .i64 0] := by kernel_rfl
@[go_sem] theorem Try.pl_str69 : structP Try.prog 69 = some ([.int .i64 0, .int .i64 0, .int .i64 0, .int .i64 0, .int .i64 0, .slice none 0 0, .int .i64 0, .int .i64 0], [(0, 5), (5, 1), (6, 1), (7, 1)]) := by kernel_rfl
@[go_sem] theorem Try.pl_off69x0 : fOff Try.prog 69 0 = some (0, 5) := by kernel_rfl
@[go_sem] theorem Try.pl_part69x0 : fPart Try.prog 69 0 = some (0, some 5) := by kernel_rfl
@[go_sem] theorem Try.pl_off69x1 : fOff Try.prog 69 1 = some (5, 1) := by kernel_rfl
@[go_sem] theorem Try.pl_part69x1 : fPart Try.prog 69 1 = some (5, none) := by kernel_rfl
@[go_sem] theorem Try.pl_off69x2 : fOff Try.prog 69 2 = some (6, 1) := by kernel_rfl
@[go_sem] theorem Try.pl_part69x2 : fPart Try.prog 69 2 = some (6, none) := by kernel_rfl
@[go_sem] theorem Try.pl_off69x3 : fOff Try.prog 69 3 = some (7, 1) := by kernel_rfl
@[go_sem] theorem Try.pl_part69x3 : fPart Try.prog 69 3 = some (7, none) := by kernel_rfl
@[go_sem] theorem Try.pl_agg70 : aggN Try.prog 70 = some (some 8) := by kernel_rfl
@[go_sem] theorem Try.pl_sz70 : szOf Try.prog 70 = some 8 := by kernel_rfl
@[go_sem] theorem Try.pl_zero70 : zeroCs Try.prog 70 = some [.int .i64 0, .int .i64 0, .int .i64 0, .int .i64 0, .int .i64 0, .slice none 0 0, .int .i64 0, .int .i64 0] := by kernel_rfl
@[go_sem] theorem Try.pl_str70 : structP Try.prog 70 = some ([.int .i64 0, .int .i64 0, .int .i64 0, .int .i64 0, .int .i64 0, .slice none 0 0, .int .i64 0, .int .i64 0], [(0, 5), (5, 1), (6, 1), (7, 1)]) := by kernel_rfl
@[go_sem] theorem Try.pl_off70x0 : fOff Try.prog 70 0 = some (0, 5) := by kernel_rfl
@[go_sem] theorem Try.pl_part70x0 : fPart Try.prog 70 0 = some (0, some 5) := by kernel_rfl
@[go_sem] theorem Try.pl_off70x1 : fOff Try.prog 70 1 = some (5, 1) := by kernel_rfl
@[go_sem] theorem Try.pl_part70x1 : fPart Try.prog 70 1 = some (5, none) := by kernel_rfl
@[go_sem] theorem Try.pl_off70x2 : fOff Try.prog 70 2 = some (6, 1) := by kernel_rfl
@[go_sem] theorem Try.pl_part70x2 : fPart Try.prog 70 2 = some (6, none) := by kernel_rfl
@[go_sem] theorem Try.pl_off70x3 : fOff Try.prog 70 3 = some (7, 1) := by kernel_rfl
@[go_sem] theorem Try.pl_part70x3 : fPart Try.prog 70 3 = some (7, none) := by kernel_rfl
@[go_sem] theorem Try.pl_agg80 : aggN Try.prog 80 = some (some 3) := by kernel_rfl
@[go_sem] theorem Try.pl_sz80 : szOf Try.prog 80 = some 3 := by kernel_rfl
@[go_sem] theorem Try.pl_zero80 : zeroCs Try.prog 80 = some [.int .i64 0, .int .i64 0, .int .i64 0] := by kernel_rfl
@[go_sem] theorem Try.pl_str80 : structP Try.prog 80 = some ([.int .i64 0, .int .i64 0, .int .i64 0], [(0, 1), (1, 1), (2, 1)]) := by kernel_rfl
@[go_sem] theorem Try.pl_off80x0 : fOff Try.prog 80 0 = some (0, 1) := by kernel_rfl
@[go_sem] theorem Try.pl_part80x0 : fPart Try.prog 80 0 = some (0, none) := by kernel_rfl
@[go_sem] theorem Try.pl_off80x1 : fOff Try.prog 80 1 = some (1, 1) := by kernel_rfl
@[go_sem] theorem Try.pl_part80x1 : fPart Try.prog 80 1 = some (1, none) := by kernel_rfl
@[go_sem] theorem Try.pl_off80x2 : fOff Try.prog 80 2 = some (2, 1) := by kernel_rfl
@[go_sem] theorem Try.pl_part80x2 : fPart Try.prog 80 2 = some (2, none) := by kernel_rfl
@[go_sem] theorem Try.pl_agg81 : aggN Try.prog 81 = some (some 3) := by kernel_rfl
@[go_sem] theorem Try.pl_sz81 : szOf Try.prog 81 = some 3 := by kernel_rfl
@[go_sem] theorem Try.pl_zero81 : zeroCs Try.prog 81 = some [.int .i64 0, .int .i64 0, .int .i64 0] := by kernel_rfl
@[go_sem] theorem Try.pl_str81 : structP Try.prog 81 = some ([.int .i64 0, .int .i64 0, .int .i64 0], [(0, 1), (1, 1), (2, 1)]) := by kernel_rfl
@[go_sem] theorem Try.pl_off81x0 : fOff Try.prog 81 0 = some (0, 1) := by kernel_rfl
@[go_sem] theorem Try.pl_part81x0 : fPart Try.prog 81 0 = some (0, none) := by kernel_rfl
@[go_sem] theorem Try.pl_off81x1 : fOff Try.prog 81 1 = some (1, 1) := by kernel_rfl
@[go_sem] theorem Try.pl_part81x1 : fPart Try.prog 81 1 = some (1, none) := by kernel_rfl
@[go_sem] theorem Try.pl_off81x2 : fOff Try.prog 81 2 = some (2, 1) := by kernel_rfl
@[go_sem] theorem Try.pl_part81x2 : fPart Try.prog 81 2 = some (2, none) := by kernel_rfl
@[go_sem] theorem Try.pl_agg82 : aggN Try.prog 82 = some (some 13) := by kernel_rfl
@[go_sem] theorem Try.pl_sz82 : szOf Try.prog 82 = some 13 := by kernel_rfl
@[go_sem] theorem Try.pl_zero82 : zeroCs Try.prog 82 = some [.int .i64 0, .int .i64 0, .int .i64 0, .int .i64 0, .int .i64 0, .slice none 0 0, .int .i64 0, .int .i64 0, .int .i64 0, .int .i64 0, .int .i64 0, .int .i64 0, .slice none 0 0] := by kernel_rfl
@[go_sem] theorem Try.pl_str82 : structP Try.prog 82 = some ([.int .i64 0, .int .i64 0, .int .i64 0, .int .i64 0, .int .i64 0, .slice none 0 0, .int .i64 0, .int .i64 0, .int .i64 0, .int .i64 0, .int .i64 0, .int .i64 0, .slice none 0 0], [(0, 8), (8, 3), (11, 1), (12, 1)]) := by kernel_rfl
@[go_sem] theorem Try.pl_off82x0 : fOff Try.prog 82 0 = some (0, 8) := by kernel_rfl
@[go_sem] theorem Try.pl_part82x0 : fPart Try.prog 82 0 = some (0, some 8) := by kernel_rfl
@[go_sem] theorem Try.pl_off82x1 : fOff Try.prog 82 1 = some (8, 3) := by kernel_rfl
@[go_sem] theorem Try.pl_part82x1 : fPart Try.prog 82 1 = some (8, some 3) := by kernel_rfl
@[go_sem] theorem Try.pl_off82x2 : fOff Try.prog 82 2 = some (11, 1) := by kernel_rfl
@[go_sem] theorem Try.pl_part82x2 : fPart Try.prog 82 2 = some (11, none) := by kernel_rfl
@[go_sem] theorem Try.pl_off82x3 : fOff Try.prog 82 3 = some (12, 1) := by kernel_rfl
@[go_sem] theorem Try.pl_part82x3 : fPart Try.prog 82 3 = some (12, none) := by kernel_rfl
@[go_sem] theorem Try.pl_agg83 : aggN Try.prog 83 = some (some 13) := by kernel_rfl
@[go_sem] theorem Try.pl_sz83 : szOf Try.prog 83 = some 13 := by kernel_rfl
@[go_sem] theorem Try.pl_zero83 : zeroCs Try.prog 83 = some [.int .i64 0, .int .i64 0, .int .i64 0, .int .i64 0, .int .i64 0, .slice none 0 0, .int .i64 0, .int .i64 0, .int .i64 0, .int .i64 0, .int .i64 0, .int .i64 0, .slice none 0 0] := by kernel_rfl
@[go_sem] theorem Try.pl_str83 : structP Try.prog 83 = some ([.int .i64 0, .int .i64 0, .int .i64 0, .int .i64 0, .int .i64 0, .slice none 0 0, .int .i64 0, .int .i64 0, .int .i64 0, .int .i64 0, .int .i64 0, .int .i64 0, .slice none 0 0], [(0, 8), (8, 3), (11, 1), (12, 1)]) := by kernel_rfl
@[go_sem] theorem Try.pl_off83x0 : fOff Try.prog 83 0 = some (0, 8) := by kernel_rfl
@[go_sem] theorem Try.pl_part83x0 : fPart Try.prog 83 0 = some (0, some 8) := by kernel_rfl
@[go_sem] theorem Try.pl_off83x1 : fOff Try.prog 83 1 = some (8, 3) := by kernel_rfl
@[go_sem] theorem Try.pl_part83x1 : fPart Try.prog 83 1 = some (8, some 3) := by kernel_rfl
@[go_sem] theorem Try.pl_off83x2 : fOff Try.prog 83 2 = some (11, 1) := by kernel_rfl
@[go_sem] theorem Try.pl_part83x2 : fPart Try.prog 83 2 = some (11, none) := by kernel_rfl
@[go_sem] theorem Try.pl_off83x3 : fOff Try.prog 83 3 = some (12, 1) := by kernel_rfl
@[go_sem] theorem Try.pl_part83x3 : fPart Try.prog 83 3 = some (12, none) := by kernel_rfl
@[go_sem] theorem Try.pl_agg91 : aggN Try.prog 91 = some (none) := by kernel_rfl
@[go_sem] theorem Try.pl_sz91 : szOf Try.prog 91 = some 1 := by kernel_rfl
@[go_sem] theorem Try.pl_zero91 : zeroCs Try.prog 91 = some [.pointer none] := by kernel_rfl
@[go_sem] theorem Try.pl_agg98 : aggN Try.prog 98 = some (none) := by kernel_rfl
@[go_sem] theorem Try.pl_sz98 : szOf Try.prog 98 = some 1 := by kernel_rfl
@[go_sem] theorem Try.pl_zero98 : zeroCs Try.prog 98 = some [.slice none 0 0] := by kernel_rfl
@[go_sem] theorem Try.pl_und98 : Try.prog.underlying 98 = some (.slice 4) := by kernel_rfl
@[go_sem] theorem Try.pl_zv98 : zeroV Try.prog 4 = some (.bool false) := by kernel_rfl
@[go_sem] theorem Try.pl_esz98 : eSz Try.prog 98 = some (4, 1) := by kernel_rfl
@[go_sem] theorem Try.pl_einf98 : eInf Try.prog 98 = some (4, 1, 1) := by kernel_rfl
@[go_sem] theorem Try.pl_agg100 : aggN Try.prog 100 = some (none) := by kernel_rfl
@[go_sem] theorem Try.pl_sz100 : szOf Try.prog 100 = some 1 := by kernel_rfl
@[go_sem] theorem Try.pl_zero100 : zeroCs Try.prog 100 = some [.slice none 0 0] := by kernel_rfl
@[go_sem] theorem Try.pl_und100 : Try.prog.underlying 100 = some (.slice 4) := by kernel_rfl
@[go_sem] theorem Try.pl_zv100 : zeroV Try.prog 4 = some (.bool false) := by kernel_rfl
@[go_sem] theorem Try.pl_esz100 : eSz Try.prog 100 = some (4, 1) := by kernel_rfl
@[go_sem] theorem Try.pl_einf100 : eInf Try.prog 100 = some (4, 1, 1) := by kernel_rfl
@[go_sem] theorem Try.pl_agg111 : aggN Try.prog 111 = some (some 4) := by kernel_rfl
@[go_sem] theorem Try.pl_sz111 : szOf Try.prog 111 = some 4 := by kernel_rfl
@[go_sem] theorem Try.pl_zero111 : zeroCs Try.prog 111 = some [.slice none 0 0, .slice none 0 0, .int .i64 0, .map none] := by kernel_rfl
@[go_sem] theorem Try.pl_str111 : structP Try.prog 111 = some ([.slice none 0 0, .slice none 0 0, .int .i64 0, .map none], [(0, 1), (1, 1), (2, 1), (3, 1)]) := by kernel_rfl
@[go_sem] theorem Try.pl_off111x0 : fOff Try.prog 111 0 = some (0, 1) := by kernel_rfl
@[go_sem] theorem Try.pl_part111x0 : fPart Try.prog 111 0 = some (0, none) := by kernel_rfl
@[go_sem] theorem Try.pl_off111x1 : fOff Try.prog 111 1 = some (1, 1) := by kernel_rfl
@[go_sem] theorem Try.pl_part111x1 : fPart Try.prog 111 1 = some (1, none) := by kernel_rfl
@[go_sem] theorem Try.pl_off111x2 : fOff Try.prog 111 2 = some (2, 1) := by kernel_rfl
@[go_sem] theorem Try.pl_part111x2 : fPart Try.prog 111 2 = some (2, none) := by kernel_rfl
@[go_sem] theorem Try.pl_off111x3 : fOff Try.prog 111 3 = some (3, 1) := by kernel_rfl
@[go_sem] theorem Try.pl_part111x3 : fPart Try.prog 111 3 = some (3, none) := by kernel_rfl
@[go_sem] theorem Try.pl_agg112 : aggN Try.prog 112 = some (some 4) := by kernel_rfl
@[go_sem] theorem Try.pl_sz112 : szOf Try.prog 112 = some 4 := by kernel_rfl
@[go_sem] theorem Try.pl_zero112 : zeroCs Try.prog 112 = some [.slice none 0 0, .slice none 0 0, .int .i64 0, .map none] := by kernel_rfl
@[go_sem] theorem Try.pl_str112 : structP Try.prog 112 = some ([.slice none 0 0, .slice none 0 0, .int .i64 0, .map none], [(0, 1), (1, 1), (2, 1), (3, 1)]) := by kernel_rfl
@[go_sem] theorem Try.pl_off112x0 : fOff Try.prog 112 0 = some (0, 1) := by kernel_rfl
@[go_sem] theorem Try.pl_part112x0 : fPart Try.prog 112 0 = some (0, none) := by kernel_rfl
@[go_sem] theorem Try.pl_off112x1 : fOff Try.prog 112 1 = some (1, 1) := by kernel_rfl
@[go_sem] theorem Try.pl_part112x1 : fPart Try.prog 112 1 = some (1, none) := by kernel_rfl
@[go_sem] theorem Try.pl_off112x2 : fOff Try.prog 112 2 = some (2, 1) := by kernel_rfl
@[go_sem] theorem Try.pl_part112x2 : fPart Try.prog 112 2 = some (2, none) := by kernel_rfl
@[go_sem] theorem Try.pl_off112x3 : fOff Try.prog 112 3 = some (3, 1) := by kernel_rfl
@[go_sem] theorem Try.pl_part112x3 : fPart Try.prog 112 3 = some (3, none) := by kernel_rfl
@[go_sem] theorem Try.pl_agg135 : aggN Try.prog 135 = some (some 3) := by kernel_rfl
@[go_sem] theorem Try.pl_sz135 : szOf Try.prog 135 = some 3 := by kernel_rfl
@[go_sem] theorem Try.pl_zero135 : zeroCs Try.prog 135 = some [.slice none 0 0, .int .i64 0, .int .i64 0] := by kernel_rfl
@[go_sem] theorem Try.pl_str135 : structP Try.prog 135 = some ([.slice none 0 0, .int .i64 0, .int .i64 0], [(0, 1), (1, 1), (2, 1)]) := by kernel_rfl
@[go_sem] theorem Try.pl_off135x0 : fOff Try.prog 135 0 = some (0, 1) := by kernel_rfl
@[go_sem] theorem Try.pl_part135x0 : fPart Try.prog 135 0 = some (0, none) := by kernel_rfl
@[go_sem] theorem Try.pl_off135x1 : fOff Try.prog 135 1 = some (1, 1) := by kernel_rfl
@[go_sem] theorem Try.pl_part135x1 : fPart Try.prog 135 1 = some (1, none) := by kernel_rfl
@[go_sem] theorem Try.pl_off135x2 : fOff Try.prog 135 2 = some (2, 1) := by kernel_rfl
@[go_sem] theorem Try.pl_part135x2 : fPart Try.prog 135 2 = some (2, none) := by kernel_rfl
@[go_sem] theorem Try.pl_agg136 : aggN Try.prog 136 = some (some 3) := by kernel_rfl
@[go_sem] theorem Try.pl_sz136 : szOf Try.prog 136 = some 3 := by kernel_rfl
@[go_sem] theorem Try.pl_zero136 : zeroCs Try.prog 136 = some [.slice none 0 0, .int .i64 0, .int .i64 0] := by kernel_rfl
@[go_sem] theorem Try.pl_str136 : structP Try.prog 136 = some ([.slice none 0 0, .int .i64 0, .int .i64 0], [(0, 1), (1, 1), (2, 1)]) := by kernel_rfl
@[go_sem] theorem Try.pl_off136x0 : fOff Try.prog 136 0 = some (0, 1) := by kernel_rfl
@[go_sem] theorem Try.pl_part136x0 : fPart Try.prog 136 0 = some (0, none) := by kernel_rfl
@[go_sem] theorem Try.pl_off136x1 : fOff Try.prog 136 1 = some (1, 1) := by kernel_rfl
@[go_sem] theorem Try.pl_part136x1 : fPart Try.prog 136 1 = some (1, none) := by kernel_rfl
@[go_sem] theorem Try.pl_off136x2 : fOff Try.prog 136 2 = some (2, 1) := by kernel_rfl
@[go_sem] theorem Try.pl_part136x2 : fPart Try.prog 136 2 = some (2, none) := by kernel_rfl
@[go_sem] theorem Try.pl_agg141 : aggN Try.prog 141 = some (none) := by kernel_rfl
@[go_sem] theorem Try.pl_sz141 : szOf Try.prog 141 = some 1 := by kernel_rfl
@[go_sem] theorem Try.pl_zero141 : zeroCs Try.prog 141 = some [.int .u64 0] := by kernel_rfl
@[go_sem] theorem Try.pl_und141 : Try.prog.underlying 141 = some (.int .u64) := by kernel_rfl
@[go_sem] theorem Try.pl_agg143 : aggN Try.prog 143 = some (some 2) := by kernel_rfl
@[go_sem] theorem Try.pl_sz143 : szOf Try.prog 143 = some 2 := by kernel_rfl
@[go_sem] theorem Try.pl_zero143 : zeroCs Try.prog 143 = some [.int .i64 0, .int .i64 0] := by kernel_rfl
@[go_sem] theorem Try.pl_agg151 : aggN Try.prog 151 = some (none) := by kernel_rfl
@[go_sem] theorem Try.pl_sz151 : szOf Try.prog 151 = some 1 := by kernel_rfl
@[go_sem] theorem Try.pl_zero151 : zeroCs Try.prog 151 = some [.int .u32 0] := by kernel_rfl
@[go_sem] theorem Try.pl_und151 : Try.prog.underlying 151 = some (.int .u32) := by kernel_rfl
@[go_sem] theorem Try.pl_agg153 : aggN Try.prog 153 = some (none) := by kernel_rfl
@[go_sem] theorem Try.pl_sz153 : szOf Try.prog 153 = some 1 := by kernel_rfl
@[go_sem] theorem Try.pl_zero153 : zeroCs Try.prog 153 = some [.int .u64 0] := by kernel_rfl
@[go_sem] theorem Try.pl_und153 : Try.prog.underlying 153 = some (.int .u64) := by kernel_rfl
@[go_sem] theorem Try.pl_agg158 : aggN Try.prog 158 = some (some 4) := by kernel_rfl
@[go_sem] theorem Try.pl_sz158 : szOf Try.prog 158 = some 4 := by kernel_rfl
@[go_sem] theorem Try.pl_zero158 : zeroCs Try.prog 158 = some [.pointer none, .pointer none, .pointer none, .string .empty] := by kernel_rfl
@[go_sem] theorem Try.pl_str158 : structP Try.prog 158 = some ([.pointer none, .pointer none, .pointer none, .string .empty], [(0, 1), (1, 1), (2, 1), (3, 1)]) := by kernel_rfl
@[go_sem] theorem Try.pl_off158x0 : fOff Try.prog 158 0 = some (0, 1) := by kernel_rfl
@[go_sem] theorem Try.pl_part158x0 : fPart Try.prog 158 0 = some (0, none) := by kernel_rfl
@[go_sem] theorem Try.pl_off158x1 : fOff Try.prog 158 1 = some (1, 1) := by kernel_rfl
@[go_sem] theorem Try.pl_part158x1 : fPart Try.prog 158 1 = some (1, none) := by kernel_rfl
@[go_sem] theorem Try.pl_off158x2 : fOff Try.prog 158 2 = some (2, 1) := by kernel_rfl
@[go_sem] theorem Try.pl_part158x2 : fPart Try.prog 158 2 = some (2, none) := by kernel_rfl
@[go_sem] theorem Try.pl_off158x3 : fOff Try.prog 158 3 = some (3, 1) := by kernel_rfl
@[go_sem] theorem Try.pl_part158x3 : fPart Try.prog 158 3 = some (3, none) := by kernel_rfl
@[go_sem] theorem Try.pl_agg159 : aggN Try.prog 159 = some (some 4) := by kernel_rfl
@[go_sem] theorem Try.pl_sz159 : szOf Try.prog 159 = some 4 := by kernel_rfl
@[go_sem] theorem Try.pl_zero159 : zeroCs Try.prog 159 = some [.pointer none, .pointer none, .pointer none, .string .empty] := by kernel_rfl
@[go_sem] theorem Try.pl_str159 : structP Try.prog 159 = some ([.pointer none, .pointer none, .pointer none, .string .empty], [(0, 1), (1, 1), (2, 1), (3, 1)]) := by kernel_rfl
@[go_sem] theorem Try.pl_off159x0 : fOff Try.prog 159 0 = some (0, 1) := by kernel_rfl
@[go_sem] theorem Try.pl_part159x0 : fPart Try.prog 159 0 = some (0, none) := by kernel_rfl
@[go_sem] theorem Try.pl_off159x1 : fOff Try.prog 159 1 = some (1, 1) := by kernel_rfl
@[go_sem] theorem Try.pl_part159x1 : fPart Try.prog 159 1 = some (1, none) := by kernel_rfl
@[go_sem] theorem Try.pl_off159x2 : fOff Try.prog 159 2 = some (2, 1) := by kernel_rfl
@[go_sem] theorem Try.pl_part159x2 : fPart Try.prog 159 2 = some (2, none) := by kernel_rfl
@[go_sem] theorem Try.pl_off159x3 : fOff Try.prog 159 3 = some (3, 1) := by kernel_rfl
@[go_sem] theorem Try.pl_part159x3 : fPart Try.prog 159 3 = some (3, none) := by kernel_rfl
@[go_sem] theorem Try.pl_agg160 : aggN Try.prog 160 = some (some 0) := by kernel_rfl
@[go_sem] theorem Try.pl_sz160 : szOf Try.prog 160 = some 0 := by kernel_rfl
@[go_sem] theorem Try.pl_zero160 : zeroCs Try.prog 160 = some [] := by kernel_rfl
@[go_sem] theorem Try.pl_agg161 : aggN Try.prog 161 = some (some 0) := by kernel_rfl
@[go_sem] theorem Try.pl_sz161 : szOf Try.prog 161 = some 0 := by kernel_rfl
@[go_sem] theorem Try.pl_zero161 : zeroCs Try.prog 161 = some [] := by kernel_rfl
@[go_sem] theorem Try.pl_str161 : structP Try.prog 161 = some ([], [(0, 0)]) := by kernel_rfl
@[go_sem] theorem Try.pl_off161x0 : fOff Try.prog 161 0 = some (0, 0) := by kernel_rfl
@[go_sem] theorem Try.pl_part161x0 : fPart Try.prog 161 0 = some (0, some 0) := by kernel_rfl
@[go_sem] theorem Try.pl_agg162 : aggN Try.prog 162 = some (some 0) := by kernel_rfl
@[go_sem] theorem Try.pl_sz162 : szOf Try.prog 162 = some 0 := by kernel_rfl
@[go_sem] theorem Try.pl_zero162 : zeroCs Try.prog 162 = some [] := by kernel_rfl
@[go_sem] theorem Try.pl_str162 : structP Try.prog 162 = some ([], [(0, 0)]) := by kernel_rfl
@[go_sem] theorem Try.pl_off162x0 : fOff Try.prog 162 0 = some (0, 0) := by kernel_rfl
@[go_sem] theorem Try.pl_part162x0 : fPart Try.prog 162 0 = some (0, some 0) := by kernel_rfl
@[go_sem] theorem Try.pl_agg164 : aggN Try.prog 164 = some (none) := by kernel_rfl
@[go_sem] theorem Try.pl_sz164 : szOf Try.prog 164 = some 1 := by kernel_rfl
@[go_sem] theorem Try.pl_zero164 : zeroCs Try.prog 164 = some [.int .u8 0] := by kernel_rfl
@[go_sem] theorem Try.pl_und164 : Try.prog.underlying 164 = some (.int .u8) := by kernel_rfl
@[go_sem] theorem Try.pl_agg165 : aggN Try.prog 165 = some (none) := by kernel_rfl
@[go_sem] theorem Try.pl_sz165 : szOf Try.prog 165 = some 1 := by kernel_rfl
@[go_sem] theorem Try.pl_zero165 : zeroCs Try.prog 165 = some [.int .u8 0] := by kernel_rfl
@[go_sem] theorem Try.pl_und165 : Try.prog.underlying 165 = some (.int .u8) := by kernel_rfl
@[go_sem] theorem Try.pl_agg167 : aggN Try.prog 167 = some (none) := by kernel_rfl
@[go_sem] theorem Try.pl_sz167 : szOf Try.prog 167 = some 1 := by kernel_rfl
@[go_sem] theorem Try.pl_zero167 : zeroCs Try.prog 167 = some [.pointer none] := by kernel_rfl
@[go_sem] theorem Try.pl_agg168 : aggN Try.prog 168 = some (none) := by kernel_rfl
@[go_sem] theorem Try.pl_sz168 : szOf Try.prog 168 = some 1 := by kernel_rfl
@[go_sem] theorem Try.pl_zero168 : zeroCs Try.prog 168 = some [.int .i32 0] := by kernel_rfl
@[go_sem] theorem Try.pl_und168 : Try.prog.underlying 168 = some (.int .i32) := by kernel_rfl
@[go_sem] theorem Try.pl_agg169 : aggN Try.prog 169 = some (none) := by kernel_rfl
@[go_sem] theorem Try.pl_sz169 : szOf Try.prog 169 = some 1 := by kernel_rfl
@[go_sem] theorem Try.pl_zero169 : zeroCs Try.prog 169 = some [.int .i32 0] := by kernel_rfl
@[go_sem] theorem Try.pl_und169 : Try.prog.underlying 169 = some (.int .i32) := by kernel_rfl
@[go_sem] theorem Try.pl_agg170 : aggN Try.prog 170 = some (some 11) := by kernel_rfl
@[go_sem] theorem Try.pl_sz170 : szOf Try.prog 170 = some 11 := by kernel_rfl
@[go_sem] theorem Try.pl_off170x0 : fOff Try.prog 170 0 = some (0, 1) := by kernel_rfl
@[go_sem] theorem Try.pl_part170x0 : fPart Try.prog 170 0 = some (0, none) := by kernel_rfl
@[go_sem] theorem Try.pl_off170x1 : fOff Try.prog 170 1 = some (1, 1) := by kernel_rfl
@[go_sem] theorem Try.pl_part170x1 : fPart Try.prog 170 1 = some (1, none) := by kernel_rfl
@[go_sem] theorem Try.pl_off170x2 : fOff Try.prog 170 2 = some (2, 1) := by kernel_rfl
@[go_sem] theorem Try.pl_part170x2 : fPart Try.prog 170 2 = some (2, none) := by kernel_rfl
@[go_sem] theorem Try.pl_off170x3 : fOff Try.prog 170 3 = some (3, 1) := by kernel_rfl
@[go_sem] theorem Try.pl_part170x3 : fPart Try.prog 170 3 = some (3, none) := by kernel_rfl
@[go_sem] theorem Try.pl_off170x4 : fOff Try.prog 170 4 = some (4, 1) := by kernel_rfl
@[go_sem] theorem Try.pl_part170x4 : fPart Try.prog 170 4 = some (4, none) := by kernel_rfl
@[go_sem] theorem Try.pl_off170x5 : fOff Try.prog 170 5 = some (5, 1) := by kernel_rfl
@[go_sem] theorem Try.pl_part170x5 : fPart Try.prog 170 5 = some (5, none) := by kernel_rfl
@[go_sem] theorem Try.pl_off170x6 : fOff Try.prog 170 6 = some (6, 1) := by kernel_rfl
@[go_sem] theorem Try.pl_part170x6 : fPart Try.prog 170 6 = some (6, none) := by kernel_rfl
@[go_sem] theorem Try.pl_off170x7 : fOff Try.prog 170 7 = some (7, 1) := by kernel_rfl
@[go_sem] theorem Try.pl_part170x7 : fPart Try.prog 170 7 = some (7, none) := by kernel_rfl
@[go_sem] theorem Try.pl_off170x8 : fOff Try.prog 170 8 = some (8, 1) := by kernel_rfl
@[go_sem] theorem Try.pl_part170x8 : fPart Try.prog 170 8 = some (8, none) := by kernel_rfl
@[go_sem] theorem Try.pl_off170x9 : fOff Try.prog 170 9 = some (9, 1) := by kernel_rfl
@[go_sem] theorem Try.pl_part170x9 : fPart Try.prog 170 9 = some (9, none) := by kernel_rfl
@[go_sem] theorem Try.pl_off170x10 : fOff Try.prog 170 10 = some (10, 1) := by kernel_rfl
@[go_sem] theorem Try.pl_part170x10 : fPart Try.prog 170 10 = some (10, none) := by kernel_rfl
@[go_sem] theorem Try.pl_agg171 : aggN Try.prog 171 = some (some 11) := by kernel_rfl
@[go_sem] theorem Try.pl_sz171 : szOf Try.prog 171 = some 11 := by kernel_rfl
@[go_sem] theorem Try.pl_off171x0 : fOff Try.prog 171 0 = some (0, 1) := by kernel_rfl
@[go_sem] theorem Try.pl_part171x0 : fPart Try.prog 171 0 = some (0, none) := by kernel_rfl
@[go_sem] theorem Try.pl_off171x1 : fOff Try.prog 171 1 = some (1, 1) := by kernel_rfl
@[go_sem] theorem Try.pl_part171x1 : fPart Try.prog 171 1 = some (1, none) := by kernel_rfl
@[go_sem] theorem Try.pl_off171x2 : fOff Try.prog 171 2 = some (2, 1) := by kernel_rfl
@[go_sem] theorem Try.pl_part171x2 : fPart Try.prog 171 2 = some (2, none) := by kernel_rfl
@[go_sem] theorem Try.pl_off171x3 : fOff Try.prog 171 3 = some (3, 1) := by kernel_rfl
@[go_sem] theorem Try.pl_part171x3 : fPart Try.prog 171 3 = some (3, none) := by kernel_rfl
@[go_sem] theorem Try.pl_off171x4 : fOff Try.prog 171 4 = some (4, 1) := by kernel_rfl
@[go_sem] theorem Try.pl_part171x4 : fPart Try.prog 171 4 = some (4, none) := by kernel_rfl
@[go_sem] theorem Try.pl_off171x5 : fOff Try.prog 171 5 = some (5, 1) := by kernel_rfl
@[go_sem] theorem Try.pl_part171x5 : fPart Try.prog 171 5 = some (5, none) := by kernel_rfl
@[go_sem] theorem Try.pl_off171x6 : fOff Try.prog 171 6 = some (6, 1) := by kernel_rfl
@[go_sem] theorem Try.pl_part171x6 : fPart Try.prog 171 6 = some (6, none) := by kernel_rfl
@[go_sem] theorem Try.pl_off171x7 : fOff Try.prog 171 7 = some (7, 1) := by kernel_rfl
@[go_sem] theorem Try.pl_part171x7 : fPart Try.prog 171 7 = some (7, none) := by kernel_rfl
@[go_sem] theorem Try.pl_off171x8 : fOff Try.prog 171 8 = some (8, 1) := by kernel_rfl
@[go_sem] theorem Try.pl_part171x8 : fPart Try.prog 171 8 = some (8, none) := by kernel_rfl
@[go_sem] theorem Try.pl_off171x9 : fOff Try.prog 171 9 = some (9, 1) := by kernel_rfl
@[go_sem] theorem Try.pl_part171x9 : fPart Try.prog 171 9 = some (9, none) := by kernel_rfl
@[go_sem] theorem Try.pl_off171x10 : fOff Try.prog 171 10 = some (10, 1) := by kernel_rfl
@[go_sem] theorem Try.pl_part171x10 : fPart Try.prog 171 10 = some (10, none) := by kernel_rfl
@[go_sem] theorem Try.pl_rs0 : Try.f0.results.toList = [] := by kernel_rfl
@[go_sem] theorem Try.pl_rs1 : Try.f1.results.toList = [] := by kernel_rfl
@[go_sem] theorem Try.pl_rs2 : Try.f2.results.toList = [] := by kernel_rfl
@[go_sem] theorem Try.pl_rs3 : Try.f3.results.toList = [.tmp 2] := by kernel_rfl
@[go_sem] theorem Try.pl_rs4 : Try.f4.results.toList = [.tmp 2] := by kernel_rfl
@[go_sem] theorem Try.pl_rs5 : Try.f5.results.toList = [.tmp 2] := by kernel_rfl
@[go_sem] theorem Try.pl_rs6 : Try.f6.results.toList = [.tmp 2] := by kernel_rfl
@[go_sem] theorem Try.pl_rs7 : Try.f7.results.toList = [.tmp 2] := by kernel_rfl
@[go_sem] theorem Try.pl_rs8 : Try.f8.results.toList = [.tmp 2] := by kernel_rfl
@[go_sem] theorem Try.pl_rs9 : Try.f9.results.toList = [.tmp 2] := by kernel_rfl
@[go_sem] theorem Try.pl_rs10 : Try.f10.results.toList = [.tmp 2, .tmp 3] := by kernel_rfl
@[go_sem] theorem Try.pl_rs11 : Try.f11.results.toList = [.tmp 4, .tmp 5] := by kernel_rfl
@[go_sem] theorem Try.pl_rs12 : Try.f12.results.toList = [.tmp 2] := by kernel_rfl
@[go_sem] theorem Try.pl_rs13 : Try.f13.results.toList = [.cell 4 31, .tmp 5] := by kernel_rfl
@[go_sem] theorem Try.pl_rs14 : Try.f14.results.toList = [.tmp 4, .tmp 5] := by kernel_rfl
@[go_sem] theorem Try.pl_rs15 : Try.f15.results.toList = [.tmp 4] := by kernel_rfl
@[go_sem] theorem Try.pl_rs16 : Try.f16.results.toList = [.cell 2 37, .tmp 3, .tmp 4] := by kernel_rfl
@[go_sem] theorem Try.pl_rs17 : Try.f17.results.toList = [.tmp 6] := by kernel_rfl
@[go_sem] theorem Try.pl_rs18 : Try.f18.results.toList = [.tmp 6] := by kernel_rfl
@[go_sem] theorem Try.pl_rs19 : Try.f19.results.toList = [.tmp 6, .tmp 7] := by kernel_rfl
@[go_sem] theorem Try.pl_rs20 : Try.f20.results.toList = [.tmp 6] := by kernel_rfl
@[go_sem] theorem Try.pl_rs21 : Try.f21.results.toList = [.tmp 6] := by kernel_rfl
@[go_sem] theorem Try.pl_rs22 : Try.f22.results.toList = [.tmp 4] := by kernel_rfl
@[go_sem] theorem Try.pl_rs23 : Try.f23.results.toList = [.tmp 4] := by kernel_rfl
@[go_sem] theorem Try.pl_rs24 : Try.f24.results.toList = [.cell 4 37] := by kernel_rfl
@[go_sem] theorem Try.pl_rs25 : Try.f25.results.toList = [.tmp 4] := by kernel_rfl
@[go_sem] theorem Try.pl_rs26 : Try.f26.results.toList = [.tmp 4] := by kernel_rfl
@[go_sem] theorem Try.pl_rs27 : Try.f27.results.toList = [.tmp 4] := by kernel_rfl
@[go_sem] theorem Try.pl_rs28 : Try.f28.results.toList = [.tmp 6] := by kernel_rfl
@[go_sem] theorem Try.pl_rs29 : Try.f29.results.toList = [.tmp 6, .tmp 7] := by kernel_rfl
@[go_sem] theorem Try.pl_rs30 : Try.f30.results.toList = [.tmp 6, .tmp 7] := by kernel_rfl
@[go_sem] theorem Try.pl_rs31 : Try.f31.results.toList = [.tmp 2] := by kernel_rfl
@[go_sem] theorem Try.pl_rs32 : Try.f32.results.toList = [.tmp 2] := by kernel_rfl
@[go_sem] theorem Try.pl_rs33 : Try.f33.results.toList = [.tmp 2] := by kernel_rfl
@[go_sem] theorem Try.pl_rs34 : Try.f34.results.toList = [.tmp 8] := by kernel_rfl
@[go_sem] theorem Try.pl_rs35 : Try.f35.results.toList = [.tmp 2] := by kernel_rfl
@[go_sem] theorem Try.pl_rs36 : Try.f36.results.toList = [.tmp 6] := by kernel_rfl
@[go_sem] theorem Try.pl_rs37 : Try.f37.results.toList = [.cell 2 37, .tmp 3, .tmp 4] := by kernel_rfl
@[go_sem] theorem Try.pl_rs38 : Try.f38.results.toList = [.tmp 6, .tmp 7] := by kernel_rfl
@[go_sem] theorem Try.pl_rs39 : Try.f39.results.toList = [.tmp 2] := by kernel_rfl
@[go_sem] theorem Try.pl_rs40 : Try.f40.results.toList = [.tmp 2] := by kernel_rfl
@[go_sem] theorem Try.pl_rs41 : Try.f41.results.toList = [.tmp 2] := by kernel_rfl
@[go_sem] theorem Try.pl_rs42 : Try.f42.results.toList = [.tmp 4] := by kernel_rfl
@[go_sem] theorem Try.pl_rs43 : Try.f43.results.toList = [.tmp 4] := by kernel_rfl
@[go_sem] theorem Try.pl_rs44 : Try.f44.results.toList = [.tmp 4] := by kernel_rfl
@[go_sem] theorem Try.pl_rs45 : Try.f45.results.toList = [.tmp 4] := by kernel_rfl
@[go_sem] theorem Try.pl_rs46 : Try.f46.results.toList = [.tmp 4] := by kernel_rfl
@[go_sem] theorem Try.pl_rs47 : Try.f47.results.toList = [.tmp 2] := by kernel_rfl
@[go_sem] theorem Try.pl_rs48 : Try.f48.results.toList = [.tmp 6] := by kernel_rfl
@[go_sem] theorem Try.pl_rs49 : Try.f49.results.toList = [.tmp 2] := by kernel_rfl
@[go_sem] theorem Try.pl_rs50 : Try.f50.results.toList = [.tmp 2] := by kernel_rfl
@[go_sem] theorem Try.pl_rs51 : Try.f51.results.toList = [.tmp 2] := by kernel_rfl
@[go_sem] theorem Try.pl_rs52 : Try.f52.results.toList = [.cell 2 70] := by kernel_rfl
@[go_sem] theorem Try.pl_rs53 : Try.f53.results.toList = [.tmp 2] := by kernel_rfl
@[go_sem] theorem Try.pl_rs54 : Try.f54.results.toList = [.tmp 4] := by kernel_rfl
@[go_sem] theorem Try.pl_rs55 : Try.f55.results.toList = [.tmp 2] := by kernel_rfl
@[go_sem] theorem Try.pl_rs56 : Try.f56.results.toList = [.tmp 2] := by kernel_rfl
@[go_sem] theorem Try.pl_rs57 : Try.f57.results.toList = [.tmp 4] := by kernel_rfl
@[go_sem] theorem Try.pl_rs58 : Try.f58.results.toList = [.cell 4 70, .tmp 5] := by kernel_rfl
@[go_sem] theorem Try.pl_rs59 : Try.f59.results.toList = [.cell 2 70, .tmp 3] := by kernel_rfl
@[go_sem] theorem Try.pl_rs60 : Try.f60.results.toList = [.tmp 4] := by kernel_rfl
@[go_sem] theorem Try.pl_rs61 : Try.f61.results.toList = [.cell 2 70, .tmp 3] := by kernel_rfl
@[go_sem] theorem Try.pl_rs62 : Try.f62.results.toList = [.cell 2 70, .tmp 3] := by kernel_rfl
@[go_sem] theorem Try.pl_rs63 : Try.f63.results.toList = [.cell 2 83] := by kernel_rfl
@[go_sem] theorem Try.pl_rs64 : Try.f64.results.toList = [.tmp 2] := by kernel_rfl
@[go_sem] theorem Try.pl_rs65 : Try.f65.results.toList = [.tmp 2] := by kernel_rfl
@[go_sem] theorem Try.pl_rs66 : Try.f66.results.toList = [.tmp 2] := by kernel_rfl
@[go_sem] theorem Try.pl_rs67 : Try.f67.results.toList = [.cell 6 83, .tmp 7] := by kernel_rfl
@[go_sem] theorem Try.pl_rs68 : Try.f68.results.toList = [.cell 4 83, .tmp 5] := by kernel_rfl
@[go_sem] theorem Try.pl_rs69 : Try.f69.results.toList = [.cell 2 83, .tmp 3] := by kernel_rfl
@[go_sem] theorem Try.pl_rs70 : Try.f70.results.toList = [.cell 6 83, .tmp 7] := by kernel_rfl
@[go_sem] theorem Try.pl_rs71 : Try.f71.results.toList = [.tmp 2] := by kernel_rfl
@[go_sem] theorem Try.pl_rs72 : Try.f72.results.toList = [.tmp 2] := by kernel_rfl
@[go_sem] theorem Try.pl_rs73 : Try.f73.results.toList = [.tmp 2] := by kernel_rfl
@[go_sem] theorem Try.pl_rs74 : Try.f74.results.toList = [.tmp 2] := by kernel_rfl
@[go_sem] theorem Try.pl_rs75 : Try.f75.results.toList = [.tmp 4, .tmp 5] := by kernel_rfl
@[go_sem] theorem Try.pl_rs76 : Try.f76.results.toList = [.tmp 6] := by kernel_rfl
@[go_sem] theorem Try.pl_rs77 : Try.f77.results.toList = [.cell 2 37, .tmp 3, .tmp 4] := by kernel_rfl
@[go_sem] theorem Try.pl_rs78 : Try.f78.results.toList = [.tmp 2] := by kernel_rfl
@[go_sem] theorem Try.pl_rs79 : Try.f79.results.toList = [.tmp 4] := by kernel_rfl
@[go_sem] theorem Try.pl_rs80 : Try.f80.results.toList = [.tmp 6] := by kernel_rfl
@[go_sem] theorem Try.pl_rs81 : Try.f81.results.toList = [.tmp 6] := by kernel_rfl
@[go_sem] theorem Try.pl_rs82 : Try.f82.results.toList = [.tmp 4] := by kernel_rfl
@[go_sem] theorem Try.pl_rs83 : Try.f83.results.toList = [.tmp 6] := by kernel_rfl
@[go_sem] theorem Try.pl_rs84 : Try.f84.results.toList = [.tmp 4] := by kernel_rfl
@[go_sem] theorem Try.pl_rs85 : Try.f85.results.toList = [.tmp 4] := by kernel_rfl
@[go_sem] theorem Try.pl_rs86 : Try.f86.results.toList = [.tmp 2] := by kernel_rfl
@[go_sem] theorem Try.pl_rs87 : Try.f87.results.toList = [.tmp 2] := by kernel_rfl
@[go_sem] theorem Try.pl_rs88 : Try.f88.results.toList = [.tmp 4] := by kernel_rfl
@[go_sem] theorem Try.pl_rs89 : Try.f89.results.toList = [.tmp 2] := by kernel_rfl
@[go_sem] theorem Try.pl_rs90 : Try.f90.results.toList = [.tmp 2] := by kernel_rfl
@[go_sem] theorem Try.pl_rs91 : Try.f91.results.toList = [.tmp 2] := by kernel_rfl
@[go_sem] theorem Try.pl_rs92 : Try.f92.results.toList = [.tmp 2] := by kernel_rfl
@[go_sem] theorem Try.pl_rs93 : Try.f93.results.toList = [.tmp 2] := by kernel_rfl
@[go_sem] theorem Try.pl_rs94 : Try.f94.results.toList = [.tmp 4] := by kernel_rfl
@[go_sem] theorem Try.pl_rs95 : Try.f95.results.toList = [.cell 4 112] := by kernel_rfl
@[go_sem] theorem Try.pl_rs96 : Try.f96.results.toList = [.tmp 6] := by kernel_rfl
@[go_sem] theorem Try.pl_rs97 : Try.f97.results.toList = [.tmp 8] := by kernel_rfl
@[go_sem] theorem Try.pl_rs98 : Try.f98.results.toList = [.tmp 4, .tmp 5] := by kernel_rfl
@[go_sem] theorem Try.pl_rs99 : Try.f99.results.toList = [.tmp 4] := by kernel_rfl
@[go_sem] theorem Try.pl_rs100 : Try.f100.results.toList = [.tmp 2] := by kernel_rfl
@[go_sem] theorem Try.pl_rs101 : Try.f101.results.toList = [.cell 2 37] := by kernel_rfl
@[go_sem] theorem Try.pl_rs102 : Try.f102.results.toList = [.tmp 4] := by kernel_rfl
@[go_sem] theorem Try.pl_rs103 : Try.f103.results.toList = [.tmp 8] := by kernel_rfl
@[go_sem] theorem Try.pl_rs104 : Try.f104.results.toList = [.tmp 4] := by kernel_rfl
@[go_sem] theorem Try.pl_rs105 : Try.f105.results.toList = [.tmp 6, .tmp 7] := by kernel_rfl
@[go_sem] theorem Try.pl_rs106 : Try.f106.results.toList = [.tmp 2] := by kernel_rfl
@[go_sem] theorem Try.pl_rs107 : Try.f107.results.toList = [.tmp 2] := by kernel_rfl
@[go_sem] theorem Try.pl_rs108 : Try.f108.results.toList = [.tmp 4] := by kernel_rfl
@[go_sem] theorem Try.pl_rs109 : Try.f109.results.toList = [.tmp 4] := by kernel_rfl
@[go_sem] theorem Try.pl_rs110 : Try.f110.results.toList = [.tmp 2] := by kernel_rfl
@[go_sem] theorem Try.pl_rs111 : Try.f111.results.toList = [.tmp 4] := by kernel_rfl
@[go_sem] theorem Try.pl_rs112 : Try.f112.results.toList = [.tmp 4] := by kernel_rfl
@[go_sem] theorem Try.pl_rs113 : Try.f113.results.toList = [.tmp 4] := by kernel_rfl
@[go_sem] theorem Try.pl_rs114 : Try.f114.results.toList = [.cell 2 70] := by kernel_rfl
@[go_sem] theorem Try.pl_rs115 : Try.f115.results.toList = [.tmp 6, .tmp 7] := by kernel_rfl
@[go_sem] theorem Try.pl_rs116 : Try.f116.results.toList = [.tmp 2] := by kernel_rfl
@[go_sem] theorem Try.pl_rs117 : Try.f117.results.toList = [.cell 2 70] := by kernel_rfl
@[go_sem] theorem Try.pl_rs118 : Try.f118.results.toList = [.cell 4 55, .tmp 5] := by kernel_rfl
@[go_sem] theorem Try.pl_rs119 : Try.f119.results.toList = [.cell 2 83] := by kernel_rfl
@[go_sem] theorem Try.pl_rs120 : Try.f120.results.toList = [.tmp 2] := by kernel_rfl
@[go_sem] theorem Try.pl_rs121 : Try.f121.results.toList = [.tmp 2] := by kernel_rfl
@[go_sem] theorem Try.pl_rs122 : Try.f122.results.toList = [.tmp 6, .tmp 7] := by kernel_rfl
@[go_sem] theorem Try.pl_rs123 : Try.f123.results.toList = [.cell 4 81, .tmp 5] := by kernel_rfl
@[go_sem] theorem Try.pl_rs124 : Try.f124.results.toList = [.cell 8 83, .tmp 9] := by kernel_rfl
@[go_sem] theorem Try.pl_rs125 : Try.f125.results.toList = [.cell 2 83] := by kernel_rfl
@[go_sem] theorem Try.pl_rs126 : Try.f126.results.toList = [.cell 2 37, .tmp 3] := by kernel_rfl
@[go_sem] theorem Try.pl_rs127 : Try.f127.results.toList = [.tmp 2] := by kernel_rfl
@[go_sem] theorem Try.pl_rs128 : Try.f128.results.toList = [.cell 4 37] := by kernel_rfl
@[go_sem] theorem Try.pl_rs129 : Try.f129.results.toList = [.tmp 4] := by kernel_rfl
@[go_sem] theorem Try.pl_rs130 : Try.f130.results.toList = [.tmp 4] := by kernel_rfl
@[go_sem] theorem Try.pl_rs131 : Try.f131.results.toList = [.tmp 4, .tmp 5] := by kernel_rfl
@[go_sem] theorem Try.pl_rs132 : Try.f132.results.toList = [.tmp 6] := by kernel_rfl
@[go_sem] theorem Try.pl_rs133 : Try.f133.results.toList = [.tmp 2] := by kernel_rfl
@[go_sem] theorem Try.pl_rs134 : Try.f134.results.toList = [.tmp 2] := by kernel_rfl
@[go_sem] theorem Try.pl_rs135 : Try.f135.results.toList = [.tmp 6] := by kernel_rfl
@[go_sem] theorem Try.pl_rs136 : Try.f136.results.toList = [.tmp 2] := by kernel_rfl
@[go_sem] theorem Try.pl_rs137 : Try.f137.results.toList = [.tmp 4] := by kernel_rfl
@[go_sem] theorem Try.pl_rs138 : Try.f138.results.toList = [.tmp 4] := by kernel_rfl
@[go_sem] theorem Try.pl_rs139 : Try.f139.results.toList = [.tmp 2] := by kernel_rfl
@[go_sem] theorem Try.pl_rs140 : Try.f140.results.toList = [.tmp 6] := by kernel_rfl
@[go_sem] theorem Try.pl_rs141 : Try.f141.results.toList = [.tmp 4] := by kernel_rfl
@[go_sem] theorem Try.pl_rs142 : Try.f142.results.toList = [.tmp 6] := by kernel_rfl
@[go_sem] theorem Try.pl_rs143 : Try.f143.results.toList = [.cell 2 68] := by kernel_rfl
@[go_sem] theorem Try.pl_rs144 : Try.f144.results.toList = [.tmp 6, .tmp 7] := by kernel_rfl
@[go_sem] theorem Try.pl_rs145 : Try.f145.results.toList = [.tmp 2] := by kernel_rfl
@[go_sem] theorem Try.pl_rs146 : Try.f146.results.toList = [.tmp 6] := by kernel_rfl
@[go_sem] theorem Try.pl_rs147 : Try.f147.results.toList = [.cell 2 81] := by kernel_rfl
@[go_sem] theorem Try.pl_rs148 : Try.f148.results.toList = [.tmp 2] := by kernel_rfl
@[go_sem] theorem Try.pl_rs149 : Try.f149.results.toList = [.tmp 6, .tmp 7] := by kernel_rfl
@[go_sem] theorem Try.pl_rs150 : Try.f150.results.toList = [.tmp 2] := by kernel_rfl
@[go_sem] theorem Try.pl_rs151 : Try.f151.results.toList = [.tmp 2] := by kernel_rfl
@[go_sem] theorem Try.pl_rs152 : Try.f152.results.toList = [.tmp 4] := by kernel_rfl
@[go_sem] theorem Try.pl_rs153 : Try.f153.results.toList = [.tmp 4] := by kernel_rfl
@[go_sem] theorem Try.pl_rs154 : Try.f154.results.toList = [.tmp 4] := by kernel_rfl
@[go_sem] theorem Try.pl_rs155 : Try.f155.results.toList = [.tmp 4] := by kernel_rfl
@[go_sem] theorem Try.pl_rs156 : Try.f156.results.toList = [.tmp 6] := by kernel_rfl
@[go_sem] theorem Try.pl_rs157 : Try.f157.results.toList = [.cell 6 55, .tmp 7] := by kernel_rfl
@[go_sem] theorem Try.pl_rs158 : Try.f158.results.toList = [.cell 6 55, .tmp 7] := by kernel_rfl
@[go_sem] theorem Try.pl_rs159 : Try.f159.results.toList = [] := by kernel_rfl
@[go_sem] theorem Try.pl_rs160 : Try.f160.results.toList = [] := by kernel_rfl
@[go_sem] theorem Try.pl_rs161 : Try.f161.results.toList = [] := by kernel_rfl
@[go_sem] theorem Try.pl_rs162 : Try.f162.results.toList = [] := by kernel_rfl
@[go_sem] theorem Try.pl_rs163 : Try.f163.results.toList = [] := by kernel_rfl
@[go_sem] theorem Try.pl_rs164 : Try.f164.results.toList = [] := by kernel_rfl
@[go_sem] theorem Try.pl_rs165 : Try.f165.results.toList = [] := by kernel_rfl
@[go_sem] theorem Try.pl_rs166 : Try.f166.results.toList = [] := by kernel_rfl
@[go_sem] theorem Try.pl_rs167 : Try.f167.results.toList = [] := by kernel_rfl
@[go_sem] theorem Try.pl_rs168 : Try.f168.results.toList = [] := by kernel_rfl
@[go_sem] theorem Try.pl_rs169 : Try.f169.results.toList = [] := by kernel_rfl
@[go_sem] theorem Try.pl_rs170 : Try.f170.results.toList = [] := by kernel_rfl
@[go_sem] theorem Try.pl_rs171 : Try.f171.results.toList = [] := by kernel_rfl
@[go_sem] theorem Try.pl_rs172 : Try.f172.results.toList = [] := by kernel_rfl
@[go_sem] theorem Try.pl_rs173 : Try.f173.results.toList = [] := by kernel_rfl
@[go_sem] theorem Try.pl_rs174 : Try.f174.results.toList = [] := by kernel_rfl
theorem Try.pl_follows : Try.prog.follows .mixedOrders = true := by kernel_rfl
end Go.Proofs
