/-
  Facts on the types of this translation: cells, places, zero values. Printed by a program.
-/
import Derived.Test.YtahnbliabllflaaRows
import Derived.Test.YtahnbliabllflaaEf
import Derived.KernelRfl
namespace Go.Proofs
open Go.PL
namespace Try
@[go_sem] theorem plt2 : aggN prog 2 = some (none) ∧ szOf prog 2 = some 1 ∧ zeroCs prog 2 = some [.int .i64 0] ∧ prog.underlying 2 = some (.int .i64) := by and_intros <;> kernel_rfl
@[go_sem] theorem plt3 : aggN prog 3 = some (none) ∧ szOf prog 3 = some 1 ∧ zeroCs prog 3 = some [.int .i64 0] ∧ prog.underlying 3 = some (.int .i64) := by and_intros <;> kernel_rfl
@[go_sem] theorem plt4 : aggN prog 4 = some (none) ∧ szOf prog 4 = some 1 ∧ zeroCs prog 4 = some [.bool false] ∧ prog.underlying 4 = some .bool := by and_intros <;> kernel_rfl
@[go_sem] theorem plt5 : aggN prog 5 = some (none) ∧ szOf prog 5 = some 1 ∧ zeroCs prog 5 = some [.int .u8 0] ∧ prog.underlying 5 = some (.int .u8) := by and_intros <;> kernel_rfl
@[go_sem] theorem plt6 : aggN prog 6 = some (none) ∧ szOf prog 6 = some 1 ∧ zeroCs prog 6 = some [.int .u8 0] ∧ prog.underlying 6 = some (.int .u8) := by and_intros <;> kernel_rfl
@[go_sem] theorem plt7 : aggN prog 7 = some (some 4) ∧ szOf prog 7 = some 4 ∧ zeroCs prog 7 = some [.int .i64 0, .int .i64 0, .bool false, .int .u8 0] ∧ structP prog 7 = some ([.int .i64 0, .int .i64 0, .bool false, .int .u8 0], [(0, 1), (1, 1), (2, 1), (3, 1)]) ∧ fOff prog 7 0 = some (0, 1) ∧ fPart prog 7 0 = some (0, none) ∧ fOff prog 7 1 = some (1, 1) ∧ fPart prog 7 1 = some (1, none) ∧ fOff prog 7 2 = some (2, 1) ∧ fPart prog 7 2 = some (2, none) ∧ fOff prog 7 3 = some (3, 1) ∧ fPart prog 7 3 = some (3, none) := by and_intros <;> kernel_rfl
@[go_sem] theorem plt8 : aggN prog 8 = some (some 4) ∧ szOf prog 8 = some 4 ∧ zeroCs prog 8 = some [.int .i64 0, .int .i64 0, .bool false, .int .u8 0] ∧ structP prog 8 = some ([.int .i64 0, .int .i64 0, .bool false, .int .u8 0], [(0, 1), (1, 1), (2, 1), (3, 1)]) ∧ fOff prog 8 0 = some (0, 1) ∧ fPart prog 8 0 = some (0, none) ∧ fOff prog 8 1 = some (1, 1) ∧ fPart prog 8 1 = some (1, none) ∧ fOff prog 8 2 = some (2, 1) ∧ fPart prog 8 2 = some (2, none) ∧ fOff prog 8 3 = some (3, 1) ∧ fPart prog 8 3 = some (3, none) := by and_intros <;> kernel_rfl
@[go_sem] theorem plt9 : aggN prog 9 = some (none) ∧ szOf prog 9 = some 1 ∧ zeroCs prog 9 = some [.string .empty] ∧ prog.underlying 9 = some .string := by and_intros <;> kernel_rfl
@[go_sem] theorem plt10 : aggN prog 10 = some (none) ∧ szOf prog 10 = some 1 ∧ zeroCs prog 10 = some [.string .empty] ∧ prog.underlying 10 = some .string := by and_intros <;> kernel_rfl
@[go_sem] theorem plt11 : aggN prog 11 = some (none) ∧ szOf prog 11 = some 1 ∧ zeroCs prog 11 = some [.string .empty] ∧ prog.underlying 11 = some .string := by and_intros <;> kernel_rfl
@[go_sem] theorem plt12 : aggN prog 12 = some (none) ∧ szOf prog 12 = some 1 ∧ zeroCs prog 12 = some [.int .u64 0] ∧ prog.underlying 12 = some (.int .u64) := by and_intros <;> kernel_rfl
@[go_sem] theorem plt13 : aggN prog 13 = some (some 2) ∧ szOf prog 13 = some 2 ∧ zeroCs prog 13 = some [.string .empty, .int .u64 0] ∧ structP prog 13 = some ([.string .empty, .int .u64 0], [(0, 1), (1, 1)]) ∧ fOff prog 13 0 = some (0, 1) ∧ fPart prog 13 0 = some (0, none) ∧ fOff prog 13 1 = some (1, 1) ∧ fPart prog 13 1 = some (1, none) := by and_intros <;> kernel_rfl
@[go_sem] theorem plt14 : aggN prog 14 = some (some 2) ∧ szOf prog 14 = some 2 ∧ zeroCs prog 14 = some [.string .empty, .int .u64 0] ∧ structP prog 14 = some ([.string .empty, .int .u64 0], [(0, 1), (1, 1)]) ∧ fOff prog 14 0 = some (0, 1) ∧ fPart prog 14 0 = some (0, none) ∧ fOff prog 14 1 = some (1, 1) ∧ fPart prog 14 1 = some (1, none) := by and_intros <;> kernel_rfl
@[go_sem] theorem plt15 : aggN prog 15 = some (none) ∧ szOf prog 15 = some 1 ∧ zeroCs prog 15 = some [.pointer none] := by and_intros <;> kernel_rfl
@[go_sem] theorem plt16 : aggN prog 16 = some (none) ∧ szOf prog 16 = some 1 ∧ zeroCs prog 16 = some [.pointer none] := by and_intros <;> kernel_rfl
@[go_sem] theorem plt17 : aggN prog 17 = some (none) ∧ szOf prog 17 = some 1 ∧ zeroCs prog 17 = some [.pointer none] := by and_intros <;> kernel_rfl
@[go_sem] theorem plt18 : aggN prog 18 = some (some 1) ∧ szOf prog 18 = some 1 ∧ zeroCs prog 18 = some [.pointer none] ∧ structP prog 18 = some ([.pointer none], [(0, 1)]) ∧ fOff prog 18 0 = some (0, 1) ∧ fPart prog 18 0 = some (0, none) := by and_intros <;> kernel_rfl
@[go_sem] theorem plt19 : aggN prog 19 = some (some 1) ∧ szOf prog 19 = some 1 ∧ zeroCs prog 19 = some [.pointer none] ∧ structP prog 19 = some ([.pointer none], [(0, 1)]) ∧ fOff prog 19 0 = some (0, 1) ∧ fPart prog 19 0 = some (0, none) := by and_intros <;> kernel_rfl
@[go_sem] theorem plt21 : aggN prog 21 = some (none) ∧ szOf prog 21 = some 1 ∧ zeroCs prog 21 = some [.int .i32 0] ∧ prog.underlying 21 = some (.int .i32) := by and_intros <;> kernel_rfl
@[go_sem] theorem plt22 : aggN prog 22 = some (none) ∧ szOf prog 22 = some 1 ∧ zeroCs prog 22 = some [.slice none 0 0] ∧ prog.underlying 22 = some (.slice 5) ∧ zeroV prog 5 = some (.int .u8 0) ∧ eSz prog 22 = some (5, 1) ∧ eInf prog 22 = some (5, 1, 1) ∧ nestT prog 22 = false := by and_intros <;> kernel_rfl
@[go_sem] theorem plt24 : aggN prog 24 = some (some 3) ∧ szOf prog 24 = some 3 ∧ zeroCs prog 24 = some [.int .i64 0, .int .i64 0, .int .i64 0] ∧ structP prog 24 = some ([.int .i64 0, .int .i64 0, .int .i64 0], [(0, 1), (1, 1), (2, 1)]) ∧ fOff prog 24 0 = some (0, 1) ∧ fPart prog 24 0 = some (0, none) ∧ fOff prog 24 1 = some (1, 1) ∧ fPart prog 24 1 = some (1, none) ∧ fOff prog 24 2 = some (2, 1) ∧ fPart prog 24 2 = some (2, none) := by and_intros <;> kernel_rfl
@[go_sem] theorem plt25 : aggN prog 25 = some (some 3) ∧ szOf prog 25 = some 3 ∧ zeroCs prog 25 = some [.int .i64 0, .int .i64 0, .int .i64 0] ∧ structP prog 25 = some ([.int .i64 0, .int .i64 0, .int .i64 0], [(0, 1), (1, 1), (2, 1)]) ∧ fOff prog 25 0 = some (0, 1) ∧ fPart prog 25 0 = some (0, none) ∧ fOff prog 25 1 = some (1, 1) ∧ fPart prog 25 1 = some (1, none) ∧ fOff prog 25 2 = some (2, 1) ∧ fPart prog 25 2 = some (2, none) := by and_intros <;> kernel_rfl
@[go_sem] theorem plt29 : aggN prog 29 = some (none) ∧ szOf prog 29 = some 1 ∧ zeroCs prog 29 = some [.slice none 0 0] ∧ prog.underlying 29 = some (.slice 35) ∧ zeroV prog 35 = some (.agg #[.int .i64 0, .int .i64 0, .int .i64 0]) ∧ eSz prog 29 = some (35, 3) ∧ eInf prog 29 = some (35, 3, 24) ∧ nestT prog 29 = false := by and_intros <;> kernel_rfl
@[go_sem] theorem plt34 : aggN prog 34 = some (some 3) ∧ szOf prog 34 = some 3 ∧ zeroCs prog 34 = some [.int .i64 0, .int .i64 0, .int .i64 0] ∧ structP prog 34 = some ([.int .i64 0, .int .i64 0, .int .i64 0], [(0, 1), (1, 1), (2, 1)]) ∧ fOff prog 34 0 = some (0, 1) ∧ fPart prog 34 0 = some (0, none) ∧ fOff prog 34 1 = some (1, 1) ∧ fPart prog 34 1 = some (1, none) ∧ fOff prog 34 2 = some (2, 1) ∧ fPart prog 34 2 = some (2, none) := by and_intros <;> kernel_rfl
@[go_sem] theorem plt35 : aggN prog 35 = some (some 3) ∧ szOf prog 35 = some 3 ∧ zeroCs prog 35 = some [.int .i64 0, .int .i64 0, .int .i64 0] ∧ structP prog 35 = some ([.int .i64 0, .int .i64 0, .int .i64 0], [(0, 1), (1, 1), (2, 1)]) ∧ fOff prog 35 0 = some (0, 1) ∧ fPart prog 35 0 = some (0, none) ∧ fOff prog 35 1 = some (1, 1) ∧ fPart prog 35 1 = some (1, none) ∧ fOff prog 35 2 = some (2, 1) ∧ fPart prog 35 2 = some (2, none) := by and_intros <;> kernel_rfl
@[go_sem] theorem plt36 : aggN prog 36 = some (none) ∧ szOf prog 36 = some 1 ∧ zeroCs prog 36 = some [.slice none 0 0] ∧ prog.underlying 36 = some (.slice 29) ∧ zeroV prog 29 = some (.slice none 0 0) ∧ eSz prog 36 = some (29, 1) ∧ eInf prog 36 = some (29, 1, 24) ∧ nestT prog 36 = true := by and_intros <;> kernel_rfl
@[go_sem] theorem plt40 : aggN prog 40 = some (none) ∧ szOf prog 40 = some 1 ∧ zeroCs prog 40 = some [.pointer none] := by and_intros <;> kernel_rfl
@[go_sem] theorem plt42 : aggN prog 42 = some (none) ∧ szOf prog 42 = some 1 ∧ zeroCs prog 42 = some [.slice none 0 0] ∧ prog.underlying 42 = some (.slice 4) ∧ zeroV prog 4 = some (.bool false) ∧ eSz prog 42 = some (4, 1) ∧ eInf prog 42 = some (4, 1, 1) ∧ nestT prog 42 = false := by and_intros <;> kernel_rfl
@[go_sem] theorem plt43 : aggN prog 43 = some (none) ∧ szOf prog 43 = some 1 ∧ zeroCs prog 43 = some [.slice none 0 0] ∧ prog.underlying 43 = some (.slice 4) ∧ zeroV prog 4 = some (.bool false) ∧ eSz prog 43 = some (4, 1) ∧ eInf prog 43 = some (4, 1, 1) ∧ nestT prog 43 = false := by and_intros <;> kernel_rfl
@[go_sem] theorem plt44 : aggN prog 44 = some (none) ∧ szOf prog 44 = some 1 ∧ zeroCs prog 44 = some [.map none] := by and_intros <;> kernel_rfl
@[go_sem] theorem plt45 : aggN prog 45 = some (some 4) ∧ szOf prog 45 = some 4 ∧ zeroCs prog 45 = some [.slice none 0 0, .slice none 0 0, .int .i64 0, .map none] ∧ structP prog 45 = some ([.slice none 0 0, .slice none 0 0, .int .i64 0, .map none], [(0, 1), (1, 1), (2, 1), (3, 1)]) ∧ fOff prog 45 0 = some (0, 1) ∧ fPart prog 45 0 = some (0, none) ∧ fOff prog 45 1 = some (1, 1) ∧ fPart prog 45 1 = some (1, none) ∧ fOff prog 45 2 = some (2, 1) ∧ fPart prog 45 2 = some (2, none) ∧ fOff prog 45 3 = some (3, 1) ∧ fPart prog 45 3 = some (3, none) := by and_intros <;> kernel_rfl
@[go_sem] theorem plt46 : aggN prog 46 = some (some 4) ∧ szOf prog 46 = some 4 ∧ zeroCs prog 46 = some [.slice none 0 0, .slice none 0 0, .int .i64 0, .map none] ∧ structP prog 46 = some ([.slice none 0 0, .slice none 0 0, .int .i64 0, .map none], [(0, 1), (1, 1), (2, 1), (3, 1)]) ∧ fOff prog 46 0 = some (0, 1) ∧ fPart prog 46 0 = some (0, none) ∧ fOff prog 46 1 = some (1, 1) ∧ fPart prog 46 1 = some (1, none) ∧ fOff prog 46 2 = some (2, 1) ∧ fPart prog 46 2 = some (2, none) ∧ fOff prog 46 3 = some (3, 1) ∧ fPart prog 46 3 = some (3, none) := by and_intros <;> kernel_rfl
@[go_sem] theorem plt59 : aggN prog 59 = some (none) ∧ szOf prog 59 = some 1 ∧ zeroCs prog 59 = some [.slice none 0 0] ∧ prog.underlying 59 = some (.slice 3) ∧ zeroV prog 3 = some (.int .i64 0) ∧ eSz prog 59 = some (3, 1) ∧ eInf prog 59 = some (3, 1, 8) ∧ nestT prog 59 = false := by and_intros <;> kernel_rfl
@[go_sem] theorem plt69 : aggN prog 69 = some (some 3) ∧ szOf prog 69 = some 3 ∧ zeroCs prog 69 = some [.slice none 0 0, .int .i64 0, .int .i64 0] ∧ structP prog 69 = some ([.slice none 0 0, .int .i64 0, .int .i64 0], [(0, 1), (1, 1), (2, 1)]) ∧ fOff prog 69 0 = some (0, 1) ∧ fPart prog 69 0 = some (0, none) ∧ fOff prog 69 1 = some (1, 1) ∧ fPart prog 69 1 = some (1, none) ∧ fOff prog 69 2 = some (2, 1) ∧ fPart prog 69 2 = some (2, none) := by and_intros <;> kernel_rfl
@[go_sem] theorem plt70 : aggN prog 70 = some (some 3) ∧ szOf prog 70 = some 3 ∧ zeroCs prog 70 = some [.slice none 0 0, .int .i64 0, .int .i64 0] ∧ structP prog 70 = some ([.slice none 0 0, .int .i64 0, .int .i64 0], [(0, 1), (1, 1), (2, 1)]) ∧ fOff prog 70 0 = some (0, 1) ∧ fPart prog 70 0 = some (0, none) ∧ fOff prog 70 1 = some (1, 1) ∧ fPart prog 70 1 = some (1, none) ∧ fOff prog 70 2 = some (2, 1) ∧ fPart prog 70 2 = some (2, none) := by and_intros <;> kernel_rfl
@[go_sem] theorem plt73 : aggN prog 73 = some (some 2) ∧ szOf prog 73 = some 2 ∧ zeroCs prog 73 = some [.int .i64 0, .int .i64 0] ∧ structP prog 73 = some ([.int .i64 0, .int .i64 0], [(0, 1), (1, 1)]) := by and_intros <;> kernel_rfl
@[go_sem] theorem plt84 : aggN prog 84 = some (none) ∧ szOf prog 84 = some 1 ∧ zeroCs prog 84 = some [.int .u64 0] ∧ prog.underlying 84 = some (.int .u64) := by and_intros <;> kernel_rfl
@[go_sem] theorem plt89 : aggN prog 89 = some (some 4) ∧ szOf prog 89 = some 4 ∧ zeroCs prog 89 = some [.pointer none, .pointer none, .pointer none, .string .empty] ∧ structP prog 89 = some ([.pointer none, .pointer none, .pointer none, .string .empty], [(0, 1), (1, 1), (2, 1), (3, 1)]) ∧ fOff prog 89 0 = some (0, 1) ∧ fPart prog 89 0 = some (0, none) ∧ fOff prog 89 1 = some (1, 1) ∧ fPart prog 89 1 = some (1, none) ∧ fOff prog 89 2 = some (2, 1) ∧ fPart prog 89 2 = some (2, none) ∧ fOff prog 89 3 = some (3, 1) ∧ fPart prog 89 3 = some (3, none) := by and_intros <;> kernel_rfl
@[go_sem] theorem plt90 : aggN prog 90 = some (some 4) ∧ szOf prog 90 = some 4 ∧ zeroCs prog 90 = some [.pointer none, .pointer none, .pointer none, .string .empty] ∧ structP prog 90 = some ([.pointer none, .pointer none, .pointer none, .string .empty], [(0, 1), (1, 1), (2, 1), (3, 1)]) ∧ fOff prog 90 0 = some (0, 1) ∧ fPart prog 90 0 = some (0, none) ∧ fOff prog 90 1 = some (1, 1) ∧ fPart prog 90 1 = some (1, none) ∧ fOff prog 90 2 = some (2, 1) ∧ fPart prog 90 2 = some (2, none) ∧ fOff prog 90 3 = some (3, 1) ∧ fPart prog 90 3 = some (3, none) := by and_intros <;> kernel_rfl
@[go_sem] theorem plt91 : aggN prog 91 = some (some 0) ∧ szOf prog 91 = some 0 ∧ zeroCs prog 91 = some [] ∧ structP prog 91 = some ([], []) := by and_intros <;> kernel_rfl
@[go_sem] theorem plt92 : aggN prog 92 = some (some 0) ∧ szOf prog 92 = some 0 ∧ zeroCs prog 92 = some [] ∧ structP prog 92 = some ([], [(0, 0)]) ∧ fOff prog 92 0 = some (0, 0) ∧ fPart prog 92 0 = some (0, some 0) := by and_intros <;> kernel_rfl
@[go_sem] theorem plt93 : aggN prog 93 = some (some 0) ∧ szOf prog 93 = some 0 ∧ zeroCs prog 93 = some [] ∧ structP prog 93 = some ([], [(0, 0)]) ∧ fOff prog 93 0 = some (0, 0) ∧ fPart prog 93 0 = some (0, some 0) := by and_intros <;> kernel_rfl
@[go_sem] theorem plt95 : aggN prog 95 = some (none) ∧ szOf prog 95 = some 1 ∧ zeroCs prog 95 = some [.int .u32 0] ∧ prog.underlying 95 = some (.int .u32) := by and_intros <;> kernel_rfl
@[go_sem] theorem plt96 : aggN prog 96 = some (none) ∧ szOf prog 96 = some 1 ∧ zeroCs prog 96 = some [.int .u8 0] ∧ prog.underlying 96 = some (.int .u8) := by and_intros <;> kernel_rfl
@[go_sem] theorem plt97 : aggN prog 97 = some (none) ∧ szOf prog 97 = some 1 ∧ zeroCs prog 97 = some [.int .u8 0] ∧ prog.underlying 97 = some (.int .u8) := by and_intros <;> kernel_rfl
@[go_sem] theorem plt99 : aggN prog 99 = some (none) ∧ szOf prog 99 = some 1 ∧ zeroCs prog 99 = some [.pointer none] := by and_intros <;> kernel_rfl
@[go_sem] theorem plt100 : aggN prog 100 = some (none) ∧ szOf prog 100 = some 1 ∧ zeroCs prog 100 = some [.int .i32 0] ∧ prog.underlying 100 = some (.int .i32) := by and_intros <;> kernel_rfl
@[go_sem] theorem plt101 : aggN prog 101 = some (none) ∧ szOf prog 101 = some 1 ∧ zeroCs prog 101 = some [.int .i32 0] ∧ prog.underlying 101 = some (.int .i32) := by and_intros <;> kernel_rfl
@[go_sem] theorem plt102 : aggN prog 102 = some (some 11) ∧ szOf prog 102 = some 11 ∧ fOff prog 102 0 = some (0, 1) ∧ fPart prog 102 0 = some (0, none) ∧ fOff prog 102 1 = some (1, 1) ∧ fPart prog 102 1 = some (1, none) ∧ fOff prog 102 2 = some (2, 1) ∧ fPart prog 102 2 = some (2, none) ∧ fOff prog 102 3 = some (3, 1) ∧ fPart prog 102 3 = some (3, none) ∧ fOff prog 102 4 = some (4, 1) ∧ fPart prog 102 4 = some (4, none) ∧ fOff prog 102 5 = some (5, 1) ∧ fPart prog 102 5 = some (5, none) ∧ fOff prog 102 6 = some (6, 1) ∧ fPart prog 102 6 = some (6, none) ∧ fOff prog 102 7 = some (7, 1) ∧ fPart prog 102 7 = some (7, none) ∧ fOff prog 102 8 = some (8, 1) ∧ fPart prog 102 8 = some (8, none) ∧ fOff prog 102 9 = some (9, 1) ∧ fPart prog 102 9 = some (9, none) ∧ fOff prog 102 10 = some (10, 1) ∧ fPart prog 102 10 = some (10, none) := by and_intros <;> kernel_rfl
@[go_sem] theorem plt103 : aggN prog 103 = some (some 11) ∧ szOf prog 103 = some 11 ∧ fOff prog 103 0 = some (0, 1) ∧ fPart prog 103 0 = some (0, none) ∧ fOff prog 103 1 = some (1, 1) ∧ fPart prog 103 1 = some (1, none) ∧ fOff prog 103 2 = some (2, 1) ∧ fPart prog 103 2 = some (2, none) ∧ fOff prog 103 3 = some (3, 1) ∧ fPart prog 103 3 = some (3, none) ∧ fOff prog 103 4 = some (4, 1) ∧ fPart prog 103 4 = some (4, none) ∧ fOff prog 103 5 = some (5, 1) ∧ fPart prog 103 5 = some (5, none) ∧ fOff prog 103 6 = some (6, 1) ∧ fPart prog 103 6 = some (6, none) ∧ fOff prog 103 7 = some (7, 1) ∧ fPart prog 103 7 = some (7, none) ∧ fOff prog 103 8 = some (8, 1) ∧ fPart prog 103 8 = some (8, none) ∧ fOff prog 103 9 = some (9, 1) ∧ fPart prog 103 9 = some (9, none) ∧ fOff prog 103 10 = some (10, 1) ∧ fPart prog 103 10 = some (10, none) := by and_intros <;> kernel_rfl
@[go_sem] theorem plr0 : f0.results.toList = [] := by kernel_rfl
@[go_sem] theorem plr1 : f1.results.toList = [] := by kernel_rfl
@[go_sem] theorem plr2 : f2.results.toList = [] := by kernel_rfl
@[go_sem] theorem plr3 : f3.results.toList = [.tmp 2] := by kernel_rfl
@[go_sem] theorem plr4 : f4.results.toList = [.tmp 2] := by kernel_rfl
@[go_sem] theorem plr5 : f5.results.toList = [.cell 2 25, .tmp 3, .tmp 4] := by kernel_rfl
@[go_sem] theorem plr6 : f6.results.toList = [.tmp 6] := by kernel_rfl
@[go_sem] theorem plr7 : f7.results.toList = [.tmp 6, .tmp 7] := by kernel_rfl
@[go_sem] theorem plr8 : f8.results.toList = [.tmp 6, .tmp 7] := by kernel_rfl
@[go_sem] theorem plr9 : f9.results.toList = [.tmp 2] := by kernel_rfl
@[go_sem] theorem plr10 : f10.results.toList = [.tmp 2] := by kernel_rfl
@[go_sem] theorem plr11 : f11.results.toList = [.tmp 2] := by kernel_rfl
@[go_sem] theorem plr12 : f12.results.toList = [.tmp 8] := by kernel_rfl
@[go_sem] theorem plr13 : f13.results.toList = [.tmp 2] := by kernel_rfl
@[go_sem] theorem plr14 : f14.results.toList = [.tmp 6] := by kernel_rfl
@[go_sem] theorem plr15 : f15.results.toList = [.cell 2 25, .tmp 3, .tmp 4] := by kernel_rfl
@[go_sem] theorem plr16 : f16.results.toList = [.tmp 2] := by kernel_rfl
@[go_sem] theorem plr17 : f17.results.toList = [.cell 4 46] := by kernel_rfl
@[go_sem] theorem plr18 : f18.results.toList = [.tmp 4] := by kernel_rfl
@[go_sem] theorem plr19 : f19.results.toList = [.tmp 6] := by kernel_rfl
@[go_sem] theorem plr20 : f20.results.toList = [.tmp 8] := by kernel_rfl
@[go_sem] theorem plr21 : f21.results.toList = [.tmp 4, .tmp 5] := by kernel_rfl
@[go_sem] theorem plr22 : f22.results.toList = [.tmp 6] := by kernel_rfl
@[go_sem] theorem plr23 : f23.results.toList = [.tmp 4] := by kernel_rfl
@[go_sem] theorem plr24 : f24.results.toList = [.tmp 4] := by kernel_rfl
@[go_sem] theorem plr25 : f25.results.toList = [.tmp 2] := by kernel_rfl
@[go_sem] theorem plr26 : f26.results.toList = [.tmp 6, .tmp 7] := by kernel_rfl
@[go_sem] theorem plr27 : f27.results.toList = [.tmp 4] := by kernel_rfl
@[go_sem] theorem plr28 : f28.results.toList = [.tmp 2] := by kernel_rfl
@[go_sem] theorem plr29 : f29.results.toList = [.cell 2 25, .tmp 3] := by kernel_rfl
@[go_sem] theorem plr30 : f30.results.toList = [.tmp 2] := by kernel_rfl
@[go_sem] theorem plr31 : f31.results.toList = [.cell 4 25] := by kernel_rfl
@[go_sem] theorem plr32 : f32.results.toList = [.tmp 4] := by kernel_rfl
@[go_sem] theorem plr33 : f33.results.toList = [.tmp 8] := by kernel_rfl
@[go_sem] theorem plr34 : f34.results.toList = [.tmp 4] := by kernel_rfl
@[go_sem] theorem plr35 : f35.results.toList = [.tmp 4] := by kernel_rfl
@[go_sem] theorem plr36 : f36.results.toList = [.tmp 4] := by kernel_rfl
@[go_sem] theorem plr37 : f37.results.toList = [.tmp 2] := by kernel_rfl
@[go_sem] theorem plr38 : f38.results.toList = [.tmp 6] := by kernel_rfl
@[go_sem] theorem plr39 : f39.results.toList = [.tmp 4] := by kernel_rfl
@[go_sem] theorem plr40 : f40.results.toList = [.tmp 2] := by kernel_rfl
@[go_sem] theorem plr41 : f41.results.toList = [.tmp 6] := by kernel_rfl
@[go_sem] theorem plr42 : f42.results.toList = [.tmp 2] := by kernel_rfl
@[go_sem] theorem plr43 : f43.results.toList = [.tmp 6, .tmp 7] := by kernel_rfl
@[go_sem] theorem plr44 : f44.results.toList = [.tmp 2] := by kernel_rfl
@[go_sem] theorem plr45 : f45.results.toList = [.tmp 2] := by kernel_rfl
@[go_sem] theorem plr46 : f46.results.toList = [.tmp 4] := by kernel_rfl
@[go_sem] theorem plr47 : f47.results.toList = [.tmp 4] := by kernel_rfl
@[go_sem] theorem plr48 : f48.results.toList = [.cell 2 25] := by kernel_rfl
@[go_sem] theorem plr49 : f49.results.toList = [.tmp 6] := by kernel_rfl
@[go_sem] theorem plr50 : f50.results.toList = [.tmp 2] := by kernel_rfl
@[go_sem] theorem plr51 : f51.results.toList = [.tmp 2] := by kernel_rfl
@[go_sem] theorem plr52 : f52.results.toList = [.tmp 6] := by kernel_rfl
@[go_sem] theorem plr53 : f53.results.toList = [.tmp 2] := by kernel_rfl
@[go_sem] theorem plr54 : f54.results.toList = [.tmp 4] := by kernel_rfl
@[go_sem] theorem plr55 : f55.results.toList = [.tmp 4, .tmp 5] := by kernel_rfl
@[go_sem] theorem plr56 : f56.results.toList = [.tmp 6] := by kernel_rfl
@[go_sem] theorem plr57 : f57.results.toList = [.tmp 6] := by kernel_rfl
@[go_sem] theorem plr58 : f58.results.toList = [.tmp 2] := by kernel_rfl
@[go_sem] theorem plr59 : f59.results.toList = [.tmp 4] := by kernel_rfl
@[go_sem] theorem plr60 : f60.results.toList = [.tmp 2] := by kernel_rfl
@[go_sem] theorem plr61 : f61.results.toList = [.tmp 4] := by kernel_rfl
@[go_sem] theorem plr62 : f62.results.toList = [.tmp 6] := by kernel_rfl
@[go_sem] theorem plr63 : f63.results.toList = [.tmp 4] := by kernel_rfl
@[go_sem] theorem plr64 : f64.results.toList = [.cell 6 35, .tmp 7] := by kernel_rfl
@[go_sem] theorem plr65 : f65.results.toList = [] := by kernel_rfl
@[go_sem] theorem plr66 : f66.results.toList = [] := by kernel_rfl
@[go_sem] theorem plr67 : f67.results.toList = [] := by kernel_rfl
@[go_sem] theorem plr68 : f68.results.toList = [] := by kernel_rfl
@[go_sem] theorem plr69 : f69.results.toList = [] := by kernel_rfl
@[go_sem] theorem plr70 : f70.results.toList = [] := by kernel_rfl
@[go_sem] theorem plr71 : f71.results.toList = [] := by kernel_rfl
@[go_sem] theorem plr72 : f72.results.toList = [] := by kernel_rfl
@[go_sem] theorem plr73 : f73.results.toList = [] := by kernel_rfl
@[go_sem] theorem plr74 : f74.results.toList = [] := by kernel_rfl
@[go_sem] theorem plr75 : f75.results.toList = [] := by kernel_rfl
@[go_sem] theorem plr76 : f76.results.toList = [] := by kernel_rfl
@[go_sem] theorem plr77 : f77.results.toList = [] := by kernel_rfl
@[go_sem] theorem plr78 : f78.results.toList = [] := by kernel_rfl
@[go_sem] theorem plr79 : f79.results.toList = [] := by kernel_rfl
@[go_sem] theorem plr80 : f80.results.toList = [] := by kernel_rfl
theorem pl_follows : prog.follows .mixedOrders = true := by kernel_rfl
end Try
end Go.Proofs
