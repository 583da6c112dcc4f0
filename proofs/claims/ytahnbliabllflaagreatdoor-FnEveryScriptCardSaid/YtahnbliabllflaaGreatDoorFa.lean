/-
  Facts on the types of this translation: cells, places, zero values. Printed by a program.
-/
import Derived.Test.YtahnbliabllflaaGreatDoorRows
import Derived.Test.YtahnbliabllflaaGreatDoorEf
import Derived.KernelRfl
namespace Go.Proofs
open Go.PL
namespace Tryz
@[go_sem] theorem plt2 : aggN prog 2 = some (none) ∧ szOf prog 2 = some 1 ∧ zeroCs prog 2 = some [.int .i64 0] ∧ prog.underlying 2 = some (.int .i64) := by and_intros <;> kernel_rfl
@[go_sem] theorem plt3 : aggN prog 3 = some (none) ∧ szOf prog 3 = some 1 ∧ zeroCs prog 3 = some [.int .i64 0] ∧ prog.underlying 3 = some (.int .i64) := by and_intros <;> kernel_rfl
@[go_sem] theorem plt4 : aggN prog 4 = some (none) ∧ szOf prog 4 = some 1 ∧ zeroCs prog 4 = some [.bool false] ∧ prog.underlying 4 = some .bool := by and_intros <;> kernel_rfl
@[go_sem] theorem plt5 : aggN prog 5 = some (none) ∧ szOf prog 5 = some 1 ∧ zeroCs prog 5 = some [.int .u8 0] ∧ prog.underlying 5 = some (.int .u8) := by and_intros <;> kernel_rfl
@[go_sem] theorem plt6 : aggN prog 6 = some (none) ∧ szOf prog 6 = some 1 ∧ zeroCs prog 6 = some [.int .u8 0] ∧ prog.underlying 6 = some (.int .u8) := by and_intros <;> kernel_rfl
@[go_sem] theorem plt7 : aggN prog 7 = some (some 4) ∧ szOf prog 7 = some 4 ∧ zeroCs prog 7 = some [.int .i64 0, .int .i64 0, .bool false, .int .u8 0] ∧ structP prog 7 = some ([.int .i64 0, .int .i64 0, .bool false, .int .u8 0], [(0, 1), (1, 1), (2, 1), (3, 1)]) ∧ fOff prog 7 0 = some (0, 1) ∧ fPart prog 7 0 = some (0, none) ∧ fOff prog 7 1 = some (1, 1) ∧ fPart prog 7 1 = some (1, none) ∧ fOff prog 7 2 = some (2, 1) ∧ fPart prog 7 2 = some (2, none) ∧ fOff prog 7 3 = some (3, 1) ∧ fPart prog 7 3 = some (3, none) := by and_intros <;> kernel_rfl
@[go_sem] theorem plt8 : aggN prog 8 = some (some 4) ∧ szOf prog 8 = some 4 ∧ zeroCs prog 8 = some [.int .i64 0, .int .i64 0, .bool false, .int .u8 0] ∧ structP prog 8 = some ([.int .i64 0, .int .i64 0, .bool false, .int .u8 0], [(0, 1), (1, 1), (2, 1), (3, 1)]) ∧ fOff prog 8 0 = some (0, 1) ∧ fPart prog 8 0 = some (0, none) ∧ fOff prog 8 1 = some (1, 1) ∧ fPart prog 8 1 = some (1, none) ∧ fOff prog 8 2 = some (2, 1) ∧ fPart prog 8 2 = some (2, none) ∧ fOff prog 8 3 = some (3, 1) ∧ fPart prog 8 3 = some (3, none) := by and_intros <;> kernel_rfl
@[go_sem] theorem plt9 : aggN prog 9 = some (none) ∧ szOf prog 9 = some 1 ∧ zeroCs prog 9 = some [.string .empty] ∧ prog.underlying 9 = some .string := by and_intros <;> kernel_rfl
@[go_sem] theorem plt10 : aggN prog 10 = some (none) ∧ szOf prog 10 = some 1 ∧ zeroCs prog 10 = some [.string .empty] ∧ prog.underlying 10 = some .string := by and_intros <;> kernel_rfl
@[go_sem] theorem plt11 : aggN prog 11 = some (none) ∧ szOf prog 11 = some 1 ∧ zeroCs prog 11 = some [.string .empty] ∧ prog.underlying 11 = some .string := by and_intros <;> kernel_rfl
@[go_sem] theorem plt12 : aggN prog 12 = some (none) ∧ szOf prog 12 = some 1 ∧ zeroCs prog 12 = some [.int .u64 0] ∧ prog.underlying 12 = some (.int .u64) := by and_intros <;> kernel_rfl
@[go_sem] theorem plt13 : aggN prog 13 = some (some 2) ∧ szOf prog 13 = some 2 ∧ zeroCs prog 13 = some [.string .empty, .int .u64 0] ∧ structP prog 13 = some ([.string .empty, .int .u64 0], [(0, 1), (1, 1)]) ∧ fOff prog 13 0 = some (0, 1) ∧ fPart prog 13 0 = some (0, none) ∧ fOff prog 13 1 = some (1, 1) ∧ fPart prog 13 1 = some (1, none) := by and_intros <;> kernel_rfl
@[go_sem] theorem plt14 : aggN prog 14 = some (some 2) ∧ szOf prog 14 = some 2 ∧ zeroCs prog 14 = some [.string .empty, .int .u64 0] ∧ structP prog 14 = some ([.string .empty, .int .u64 0], [(0, 1), (1, 1)]) ∧ fOff prog 14 0 = some (0, 1) ∧ fPart prog 14 0 = some (0, none) ∧ fOff prog 14 1 = some (1, 1) ∧ fPart prog 14 1 = some (1, none) := by and_intros <;> kernel_rfl
@[go_sem] theorem plt15 : aggN prog 15 = some (none) ∧ szOf prog 15 = some 1 ∧ zeroCs prog 15 = some [.pointer none] := by and_intros <;> kernel_rfl
@[go_sem] theorem plt16 : aggN prog 16 = some (none) ∧ szOf prog 16 = some 1 ∧ zeroCs prog 16 = some [.pointer none] := by and_intros <;> kernel_rfl
@[go_sem] theorem plt17 : aggN prog 17 = some (none) ∧ szOf prog 17 = some 1 ∧ zeroCs prog 17 = some [.pointer none] := by and_intros <;> kernel_rfl
@[go_sem] theorem plt18 : aggN prog 18 = some (some 1) ∧ szOf prog 18 = some 1 ∧ zeroCs prog 18 = some [.pointer none] ∧ structP prog 18 = some ([.pointer none], [(0, 1)]) ∧ fOff prog 18 0 = some (0, 1) ∧ fPart prog 18 0 = some (0, none) := by and_intros <;> kernel_rfl
@[go_sem] theorem plt19 : aggN prog 19 = some (some 1) ∧ szOf prog 19 = some 1 ∧ zeroCs prog 19 = some [.pointer none] ∧ structP prog 19 = some ([.pointer none], [(0, 1)]) ∧ fOff prog 19 0 = some (0, 1) ∧ fPart prog 19 0 = some (0, none) := by and_intros <;> kernel_rfl
@[go_sem] theorem plt21 : aggN prog 21 = some (none) ∧ szOf prog 21 = some 1 ∧ zeroCs prog 21 = some [.int .i32 0] ∧ prog.underlying 21 = some (.int .i32) := by and_intros <;> kernel_rfl
@[go_sem] theorem plt22 : aggN prog 22 = some (none) ∧ szOf prog 22 = some 1 ∧ zeroCs prog 22 = some [.slice none 0 0] ∧ prog.underlying 22 = some (.slice 5) ∧ zeroV prog 5 = some (.int .u8 0) ∧ eSz prog 22 = some (5, 1) ∧ eInf prog 22 = some (5, 1, 1) := by and_intros <;> kernel_rfl
@[go_sem] theorem plt24 : aggN prog 24 = some (some 3) ∧ szOf prog 24 = some 3 ∧ zeroCs prog 24 = some [.int .i64 0, .int .i64 0, .int .i64 0] ∧ structP prog 24 = some ([.int .i64 0, .int .i64 0, .int .i64 0], [(0, 1), (1, 1), (2, 1)]) ∧ fOff prog 24 0 = some (0, 1) ∧ fPart prog 24 0 = some (0, none) ∧ fOff prog 24 1 = some (1, 1) ∧ fPart prog 24 1 = some (1, none) ∧ fOff prog 24 2 = some (2, 1) ∧ fPart prog 24 2 = some (2, none) := by and_intros <;> kernel_rfl
@[go_sem] theorem plt25 : aggN prog 25 = some (some 3) ∧ szOf prog 25 = some 3 ∧ zeroCs prog 25 = some [.int .i64 0, .int .i64 0, .int .i64 0] ∧ structP prog 25 = some ([.int .i64 0, .int .i64 0, .int .i64 0], [(0, 1), (1, 1), (2, 1)]) ∧ fOff prog 25 0 = some (0, 1) ∧ fPart prog 25 0 = some (0, none) ∧ fOff prog 25 1 = some (1, 1) ∧ fPart prog 25 1 = some (1, none) ∧ fOff prog 25 2 = some (2, 1) ∧ fPart prog 25 2 = some (2, none) := by and_intros <;> kernel_rfl
@[go_sem] theorem plt26 : aggN prog 26 = some (some 5) ∧ szOf prog 26 = some 5 ∧ zeroCs prog 26 = some [.int .i64 0, .int .i64 0, .int .i64 0, .int .i64 0, .int .i64 0] ∧ structP prog 26 = some ([.int .i64 0, .int .i64 0, .int .i64 0, .int .i64 0, .int .i64 0], [(0, 3), (3, 1), (4, 1)]) ∧ fOff prog 26 0 = some (0, 3) ∧ fPart prog 26 0 = some (0, some 3) ∧ fOff prog 26 1 = some (3, 1) ∧ fPart prog 26 1 = some (3, none) ∧ fOff prog 26 2 = some (4, 1) ∧ fPart prog 26 2 = some (4, none) := by and_intros <;> kernel_rfl
@[go_sem] theorem plt27 : aggN prog 27 = some (some 5) ∧ szOf prog 27 = some 5 ∧ zeroCs prog 27 = some [.int .i64 0, .int .i64 0, .int .i64 0, .int .i64 0, .int .i64 0] ∧ structP prog 27 = some ([.int .i64 0, .int .i64 0, .int .i64 0, .int .i64 0, .int .i64 0], [(0, 3), (3, 1), (4, 1)]) ∧ fOff prog 27 0 = some (0, 3) ∧ fPart prog 27 0 = some (0, some 3) ∧ fOff prog 27 1 = some (3, 1) ∧ fPart prog 27 1 = some (3, none) ∧ fOff prog 27 2 = some (4, 1) ∧ fPart prog 27 2 = some (4, none) := by and_intros <;> kernel_rfl
@[go_sem] theorem plt28 : aggN prog 28 = some (none) ∧ szOf prog 28 = some 1 ∧ zeroCs prog 28 = some [.slice none 0 0] ∧ prog.underlying 28 = some (.slice 86) ∧ zeroV prog 86 = some (.agg #[.int .i64 0, .int .i64 0, .int .i64 0]) ∧ eSz prog 28 = some (86, 3) ∧ eInf prog 28 = some (86, 3, 24) := by and_intros <;> kernel_rfl
@[go_sem] theorem plt29 : aggN prog 29 = some (some 8) ∧ szOf prog 29 = some 8 ∧ zeroCs prog 29 = some [.int .i64 0, .int .i64 0, .int .i64 0, .int .i64 0, .int .i64 0, .slice none 0 0, .int .i64 0, .int .i64 0] ∧ structP prog 29 = some ([.int .i64 0, .int .i64 0, .int .i64 0, .int .i64 0, .int .i64 0, .slice none 0 0, .int .i64 0, .int .i64 0], [(0, 5), (5, 1), (6, 1), (7, 1)]) ∧ fOff prog 29 0 = some (0, 5) ∧ fPart prog 29 0 = some (0, some 5) ∧ fOff prog 29 1 = some (5, 1) ∧ fPart prog 29 1 = some (5, none) ∧ fOff prog 29 2 = some (6, 1) ∧ fPart prog 29 2 = some (6, none) ∧ fOff prog 29 3 = some (7, 1) ∧ fPart prog 29 3 = some (7, none) := by and_intros <;> kernel_rfl
@[go_sem] theorem plt30 : aggN prog 30 = some (some 8) ∧ szOf prog 30 = some 8 ∧ zeroCs prog 30 = some [.int .i64 0, .int .i64 0, .int .i64 0, .int .i64 0, .int .i64 0, .slice none 0 0, .int .i64 0, .int .i64 0] ∧ structP prog 30 = some ([.int .i64 0, .int .i64 0, .int .i64 0, .int .i64 0, .int .i64 0, .slice none 0 0, .int .i64 0, .int .i64 0], [(0, 5), (5, 1), (6, 1), (7, 1)]) ∧ fOff prog 30 0 = some (0, 5) ∧ fPart prog 30 0 = some (0, some 5) ∧ fOff prog 30 1 = some (5, 1) ∧ fPart prog 30 1 = some (5, none) ∧ fOff prog 30 2 = some (6, 1) ∧ fPart prog 30 2 = some (6, none) ∧ fOff prog 30 3 = some (7, 1) ∧ fPart prog 30 3 = some (7, none) := by and_intros <;> kernel_rfl
@[go_sem] theorem plt31 : aggN prog 31 = some (some 3) ∧ szOf prog 31 = some 3 ∧ zeroCs prog 31 = some [.int .i64 0, .int .i64 0, .int .i64 0] ∧ structP prog 31 = some ([.int .i64 0, .int .i64 0, .int .i64 0], [(0, 1), (1, 1), (2, 1)]) ∧ fOff prog 31 0 = some (0, 1) ∧ fPart prog 31 0 = some (0, none) ∧ fOff prog 31 1 = some (1, 1) ∧ fPart prog 31 1 = some (1, none) ∧ fOff prog 31 2 = some (2, 1) ∧ fPart prog 31 2 = some (2, none) := by and_intros <;> kernel_rfl
@[go_sem] theorem plt32 : aggN prog 32 = some (some 3) ∧ szOf prog 32 = some 3 ∧ zeroCs prog 32 = some [.int .i64 0, .int .i64 0, .int .i64 0] ∧ structP prog 32 = some ([.int .i64 0, .int .i64 0, .int .i64 0], [(0, 1), (1, 1), (2, 1)]) ∧ fOff prog 32 0 = some (0, 1) ∧ fPart prog 32 0 = some (0, none) ∧ fOff prog 32 1 = some (1, 1) ∧ fPart prog 32 1 = some (1, none) ∧ fOff prog 32 2 = some (2, 1) ∧ fPart prog 32 2 = some (2, none) := by and_intros <;> kernel_rfl
@[go_sem] theorem plt33 : aggN prog 33 = some (none) ∧ szOf prog 33 = some 1 ∧ zeroCs prog 33 = some [.slice none 0 0] ∧ prog.underlying 33 = some (.slice 140) ∧ zeroV prog 140 = some (.agg #[.int .i64 0, .int .i64 0, .int .i64 0, .int .i64 0]) ∧ eSz prog 33 = some (140, 4) ∧ eInf prog 33 = some (140, 4, 32) := by and_intros <;> kernel_rfl
@[go_sem] theorem plt34 : aggN prog 34 = some (some 13) ∧ szOf prog 34 = some 13 ∧ zeroCs prog 34 = some [.int .i64 0, .int .i64 0, .int .i64 0, .int .i64 0, .int .i64 0, .slice none 0 0, .int .i64 0, .int .i64 0, .int .i64 0, .int .i64 0, .int .i64 0, .int .i64 0, .slice none 0 0] ∧ structP prog 34 = some ([.int .i64 0, .int .i64 0, .int .i64 0, .int .i64 0, .int .i64 0, .slice none 0 0, .int .i64 0, .int .i64 0, .int .i64 0, .int .i64 0, .int .i64 0, .int .i64 0, .slice none 0 0], [(0, 8), (8, 3), (11, 1), (12, 1)]) ∧ fOff prog 34 0 = some (0, 8) ∧ fPart prog 34 0 = some (0, some 8) ∧ fOff prog 34 1 = some (8, 3) ∧ fPart prog 34 1 = some (8, some 3) ∧ fOff prog 34 2 = some (11, 1) ∧ fPart prog 34 2 = some (11, none) ∧ fOff prog 34 3 = some (12, 1) ∧ fPart prog 34 3 = some (12, none) := by and_intros <;> kernel_rfl
@[go_sem] theorem plt35 : aggN prog 35 = some (some 13) ∧ szOf prog 35 = some 13 ∧ zeroCs prog 35 = some [.int .i64 0, .int .i64 0, .int .i64 0, .int .i64 0, .int .i64 0, .slice none 0 0, .int .i64 0, .int .i64 0, .int .i64 0, .int .i64 0, .int .i64 0, .int .i64 0, .slice none 0 0] ∧ structP prog 35 = some ([.int .i64 0, .int .i64 0, .int .i64 0, .int .i64 0, .int .i64 0, .slice none 0 0, .int .i64 0, .int .i64 0, .int .i64 0, .int .i64 0, .int .i64 0, .int .i64 0, .slice none 0 0], [(0, 8), (8, 3), (11, 1), (12, 1)]) ∧ fOff prog 35 0 = some (0, 8) ∧ fPart prog 35 0 = some (0, some 8) ∧ fOff prog 35 1 = some (8, 3) ∧ fPart prog 35 1 = some (8, some 3) ∧ fOff prog 35 2 = some (11, 1) ∧ fPart prog 35 2 = some (11, none) ∧ fOff prog 35 3 = some (12, 1) ∧ fPart prog 35 3 = some (12, none) := by and_intros <;> kernel_rfl
@[go_sem] theorem plt36 : aggN prog 36 = some (none) ∧ szOf prog 36 = some 1 ∧ zeroCs prog 36 = some [.slice none 0 0] ∧ prog.underlying 36 = some (.slice 42) ∧ zeroV prog 42 = some (.agg #[.int .i64 0, .int .i64 0, .int .i64 0]) ∧ eSz prog 36 = some (42, 3) ∧ eInf prog 36 = some (42, 3, 24) := by and_intros <;> kernel_rfl
@[go_sem] theorem plt41 : aggN prog 41 = some (some 3) ∧ szOf prog 41 = some 3 ∧ zeroCs prog 41 = some [.int .i64 0, .int .i64 0, .int .i64 0] ∧ structP prog 41 = some ([.int .i64 0, .int .i64 0, .int .i64 0], [(0, 1), (1, 1), (2, 1)]) ∧ fOff prog 41 0 = some (0, 1) ∧ fPart prog 41 0 = some (0, none) ∧ fOff prog 41 1 = some (1, 1) ∧ fPart prog 41 1 = some (1, none) ∧ fOff prog 41 2 = some (2, 1) ∧ fPart prog 41 2 = some (2, none) := by and_intros <;> kernel_rfl
@[go_sem] theorem plt42 : aggN prog 42 = some (some 3) ∧ szOf prog 42 = some 3 ∧ zeroCs prog 42 = some [.int .i64 0, .int .i64 0, .int .i64 0] ∧ structP prog 42 = some ([.int .i64 0, .int .i64 0, .int .i64 0], [(0, 1), (1, 1), (2, 1)]) ∧ fOff prog 42 0 = some (0, 1) ∧ fPart prog 42 0 = some (0, none) ∧ fOff prog 42 1 = some (1, 1) ∧ fPart prog 42 1 = some (1, none) ∧ fOff prog 42 2 = some (2, 1) ∧ fPart prog 42 2 = some (2, none) := by and_intros <;> kernel_rfl
@[go_sem] theorem plt45 : aggN prog 45 = some (none) ∧ szOf prog 45 = some 1 ∧ zeroCs prog 45 = some [.slice none 0 0] ∧ prog.underlying 45 = some (.slice 9) ∧ zeroV prog 9 = some (.string .empty) ∧ eSz prog 45 = some (9, 1) ∧ eInf prog 45 = some (9, 1, 16) := by and_intros <;> kernel_rfl
@[go_sem] theorem plt52 : aggN prog 52 = some (none) ∧ szOf prog 52 = some 1 ∧ zeroCs prog 52 = some [.slice none 0 0] ∧ prog.underlying 52 = some (.slice 3) ∧ zeroV prog 3 = some (.int .i64 0) ∧ eSz prog 52 = some (3, 1) ∧ eInf prog 52 = some (3, 1, 8) := by and_intros <;> kernel_rfl
@[go_sem] theorem plt70 : aggN prog 70 = some (none) ∧ szOf prog 70 = some 1 ∧ zeroCs prog 70 = some [.pointer none] := by and_intros <;> kernel_rfl
@[go_sem] theorem plt85 : aggN prog 85 = some (some 3) ∧ szOf prog 85 = some 3 ∧ zeroCs prog 85 = some [.int .i64 0, .int .i64 0, .int .i64 0] ∧ structP prog 85 = some ([.int .i64 0, .int .i64 0, .int .i64 0], [(0, 1), (1, 1), (2, 1)]) ∧ fOff prog 85 0 = some (0, 1) ∧ fPart prog 85 0 = some (0, none) ∧ fOff prog 85 1 = some (1, 1) ∧ fPart prog 85 1 = some (1, none) ∧ fOff prog 85 2 = some (2, 1) ∧ fPart prog 85 2 = some (2, none) := by and_intros <;> kernel_rfl
@[go_sem] theorem plt86 : aggN prog 86 = some (some 3) ∧ szOf prog 86 = some 3 ∧ zeroCs prog 86 = some [.int .i64 0, .int .i64 0, .int .i64 0] ∧ structP prog 86 = some ([.int .i64 0, .int .i64 0, .int .i64 0], [(0, 1), (1, 1), (2, 1)]) ∧ fOff prog 86 0 = some (0, 1) ∧ fPart prog 86 0 = some (0, none) ∧ fOff prog 86 1 = some (1, 1) ∧ fPart prog 86 1 = some (1, none) ∧ fOff prog 86 2 = some (2, 1) ∧ fPart prog 86 2 = some (2, none) := by and_intros <;> kernel_rfl
@[go_sem] theorem plt103 : aggN prog 103 = some (none) ∧ szOf prog 103 = some 1 ∧ zeroCs prog 103 = some [.slice none 0 0] ∧ prog.underlying 103 = some (.slice 4) ∧ zeroV prog 4 = some (.bool false) ∧ eSz prog 103 = some (4, 1) ∧ eInf prog 103 = some (4, 1, 1) := by and_intros <;> kernel_rfl
@[go_sem] theorem plt106 : aggN prog 106 = some (some 3) ∧ szOf prog 106 = some 3 ∧ zeroCs prog 106 = some [.slice none 0 0, .int .i64 0, .int .i64 0] ∧ structP prog 106 = some ([.slice none 0 0, .int .i64 0, .int .i64 0], [(0, 1), (1, 1), (2, 1)]) ∧ fOff prog 106 0 = some (0, 1) ∧ fPart prog 106 0 = some (0, none) ∧ fOff prog 106 1 = some (1, 1) ∧ fPart prog 106 1 = some (1, none) ∧ fOff prog 106 2 = some (2, 1) ∧ fPart prog 106 2 = some (2, none) := by and_intros <;> kernel_rfl
@[go_sem] theorem plt107 : aggN prog 107 = some (some 3) ∧ szOf prog 107 = some 3 ∧ zeroCs prog 107 = some [.slice none 0 0, .int .i64 0, .int .i64 0] ∧ structP prog 107 = some ([.slice none 0 0, .int .i64 0, .int .i64 0], [(0, 1), (1, 1), (2, 1)]) ∧ fOff prog 107 0 = some (0, 1) ∧ fPart prog 107 0 = some (0, none) ∧ fOff prog 107 1 = some (1, 1) ∧ fPart prog 107 1 = some (1, none) ∧ fOff prog 107 2 = some (2, 1) ∧ fPart prog 107 2 = some (2, none) := by and_intros <;> kernel_rfl
@[go_sem] theorem plt112 : aggN prog 112 = some (none) ∧ szOf prog 112 = some 1 ∧ zeroCs prog 112 = some [.pointer none] := by and_intros <;> kernel_rfl
@[go_sem] theorem plt113 : aggN prog 113 = some (some 2) ∧ szOf prog 113 = some 2 ∧ zeroCs prog 113 = some [.pointer none, .slice none 0 0] ∧ structP prog 113 = some ([.pointer none, .slice none 0 0], [(0, 1), (1, 1)]) ∧ fOff prog 113 0 = some (0, 1) ∧ fPart prog 113 0 = some (0, none) ∧ fOff prog 113 1 = some (1, 1) ∧ fPart prog 113 1 = some (1, none) := by and_intros <;> kernel_rfl
@[go_sem] theorem plt114 : aggN prog 114 = some (some 2) ∧ szOf prog 114 = some 2 ∧ zeroCs prog 114 = some [.pointer none, .slice none 0 0] ∧ structP prog 114 = some ([.pointer none, .slice none 0 0], [(0, 1), (1, 1)]) ∧ fOff prog 114 0 = some (0, 1) ∧ fPart prog 114 0 = some (0, none) ∧ fOff prog 114 1 = some (1, 1) ∧ fPart prog 114 1 = some (1, none) := by and_intros <;> kernel_rfl
@[go_sem] theorem plt139 : aggN prog 139 = some (some 4) ∧ szOf prog 139 = some 4 ∧ zeroCs prog 139 = some [.int .i64 0, .int .i64 0, .int .i64 0, .int .i64 0] ∧ structP prog 139 = some ([.int .i64 0, .int .i64 0, .int .i64 0, .int .i64 0], [(0, 1), (1, 1), (2, 1), (3, 1)]) ∧ fOff prog 139 0 = some (0, 1) ∧ fPart prog 139 0 = some (0, none) ∧ fOff prog 139 1 = some (1, 1) ∧ fPart prog 139 1 = some (1, none) ∧ fOff prog 139 2 = some (2, 1) ∧ fPart prog 139 2 = some (2, none) ∧ fOff prog 139 3 = some (3, 1) ∧ fPart prog 139 3 = some (3, none) := by and_intros <;> kernel_rfl
@[go_sem] theorem plt140 : aggN prog 140 = some (some 4) ∧ szOf prog 140 = some 4 ∧ zeroCs prog 140 = some [.int .i64 0, .int .i64 0, .int .i64 0, .int .i64 0] ∧ structP prog 140 = some ([.int .i64 0, .int .i64 0, .int .i64 0, .int .i64 0], [(0, 1), (1, 1), (2, 1), (3, 1)]) ∧ fOff prog 140 0 = some (0, 1) ∧ fPart prog 140 0 = some (0, none) ∧ fOff prog 140 1 = some (1, 1) ∧ fPart prog 140 1 = some (1, none) ∧ fOff prog 140 2 = some (2, 1) ∧ fPart prog 140 2 = some (2, none) ∧ fOff prog 140 3 = some (3, 1) ∧ fPart prog 140 3 = some (3, none) := by and_intros <;> kernel_rfl
@[go_sem] theorem plt150 : aggN prog 150 = some (none) ∧ szOf prog 150 = some 1 ∧ zeroCs prog 150 = some [.pointer none] := by and_intros <;> kernel_rfl
@[go_sem] theorem plt164 : aggN prog 164 = some (none) ∧ szOf prog 164 = some 1 ∧ zeroCs prog 164 = some [.int .u64 0] ∧ prog.underlying 164 = some (.int .u64) := by and_intros <;> kernel_rfl
@[go_sem] theorem plt168 : aggN prog 168 = some (none) ∧ szOf prog 168 = some 1 ∧ zeroCs prog 168 = some [.int .i64 0] ∧ prog.underlying 168 = some (.int .i64) := by and_intros <;> kernel_rfl
@[go_sem] theorem plt171 : aggN prog 171 = some (none) ∧ szOf prog 171 = some 1 ∧ zeroCs prog 171 = some [.pointer none] := by and_intros <;> kernel_rfl
@[go_sem] theorem plt177 : aggN prog 177 = some (some 24) ∧ szOf prog 177 = some 24 ∧ zeroCs prog 177 = some [.int .u8 0, .int .u8 0, .int .u8 0, .int .u8 0, .int .u8 0, .int .u8 0, .int .u8 0, .int .u8 0, .int .u8 0, .int .u8 0, .int .u8 0, .int .u8 0, .int .u8 0, .int .u8 0, .int .u8 0, .int .u8 0, .int .u8 0, .int .u8 0, .int .u8 0, .int .u8 0, .int .u8 0, .int .u8 0, .int .u8 0, .int .u8 0] := by and_intros <;> kernel_rfl
@[go_sem] theorem plt178 : aggN prog 178 = some (none) ∧ szOf prog 178 = some 1 ∧ zeroCs prog 178 = some [.int .u64 0] ∧ prog.underlying 178 = some (.int .u64) := by and_intros <;> kernel_rfl
@[go_sem] theorem plt190 : aggN prog 190 = some (some 3) ∧ szOf prog 190 = some 3 ∧ zeroCs prog 190 = some [.string .empty, .string .empty, .nilIface] ∧ structP prog 190 = some ([.string .empty, .string .empty, .nilIface], [(0, 1), (1, 1), (2, 1)]) ∧ fOff prog 190 0 = some (0, 1) ∧ fPart prog 190 0 = some (0, none) ∧ fOff prog 190 1 = some (1, 1) ∧ fPart prog 190 1 = some (1, none) ∧ fOff prog 190 2 = some (2, 1) ∧ fPart prog 190 2 = some (2, none) := by and_intros <;> kernel_rfl
@[go_sem] theorem plt191 : aggN prog 191 = some (some 3) ∧ szOf prog 191 = some 3 ∧ zeroCs prog 191 = some [.string .empty, .string .empty, .nilIface] ∧ structP prog 191 = some ([.string .empty, .string .empty, .nilIface], [(0, 1), (1, 1), (2, 1)]) ∧ fOff prog 191 0 = some (0, 1) ∧ fPart prog 191 0 = some (0, none) ∧ fOff prog 191 1 = some (1, 1) ∧ fPart prog 191 1 = some (1, none) ∧ fOff prog 191 2 = some (2, 1) ∧ fPart prog 191 2 = some (2, none) := by and_intros <;> kernel_rfl
@[go_sem] theorem plt193 : aggN prog 193 = some (some 20) ∧ szOf prog 193 = some 20 ∧ zeroCs prog 193 = some [.int .u64 0, .int .u64 0, .int .u64 0, .int .u64 0, .int .u64 0, .int .u64 0, .int .u64 0, .int .u64 0, .int .u64 0, .int .u64 0, .int .u64 0, .int .u64 0, .int .u64 0, .int .u64 0, .int .u64 0, .int .u64 0, .int .u64 0, .int .u64 0, .int .u64 0, .int .u64 0] := by and_intros <;> kernel_rfl
@[go_sem] theorem plt194 : aggN prog 194 = some (none) ∧ szOf prog 194 = some 1 ∧ zeroCs prog 194 = some [.int .u32 0] ∧ prog.underlying 194 = some (.int .u32) := by and_intros <;> kernel_rfl
@[go_sem] theorem plt195 : aggN prog 195 = some (some 65) ∧ szOf prog 195 = some 65 := by and_intros <;> kernel_rfl
@[go_sem] theorem plt198 : aggN prog 198 = some (none) ∧ szOf prog 198 = some 1 ∧ zeroCs prog 198 = some [.slice none 0 0] ∧ prog.underlying 198 = some (.slice 4) ∧ zeroV prog 4 = some (.bool false) ∧ eSz prog 198 = some (4, 1) ∧ eInf prog 198 = some (4, 1, 1) := by and_intros <;> kernel_rfl
@[go_sem] theorem plt205 : aggN prog 205 = some (none) ∧ szOf prog 205 = some 1 ∧ zeroCs prog 205 = some [.pointer none] := by and_intros <;> kernel_rfl
@[go_sem] theorem plt206 : aggN prog 206 = some (some 1) ∧ szOf prog 206 = some 1 ∧ zeroCs prog 206 = some [.string .empty] ∧ structP prog 206 = some ([.string .empty], [(0, 1)]) ∧ fOff prog 206 0 = some (0, 1) ∧ fPart prog 206 0 = some (0, none) := by and_intros <;> kernel_rfl
@[go_sem] theorem plt207 : aggN prog 207 = some (some 1) ∧ szOf prog 207 = some 1 ∧ zeroCs prog 207 = some [.string .empty] ∧ structP prog 207 = some ([.string .empty], [(0, 1)]) ∧ fOff prog 207 0 = some (0, 1) ∧ fPart prog 207 0 = some (0, none) := by and_intros <;> kernel_rfl
@[go_sem] theorem plt208 : aggN prog 208 = some (some 256) ∧ szOf prog 208 = some 256 := by and_intros <;> kernel_rfl
@[go_sem] theorem plt209 : aggN prog 209 = some (some 2) ∧ szOf prog 209 = some 2 ∧ zeroCs prog 209 = some [.int .u8 0, .int .u8 0] ∧ structP prog 209 = some ([.int .u8 0, .int .u8 0], [(0, 1), (1, 1)]) ∧ fOff prog 209 0 = some (0, 1) ∧ fPart prog 209 0 = some (0, none) ∧ fOff prog 209 1 = some (1, 1) ∧ fPart prog 209 1 = some (1, none) := by and_intros <;> kernel_rfl
@[go_sem] theorem plt210 : aggN prog 210 = some (some 2) ∧ szOf prog 210 = some 2 ∧ zeroCs prog 210 = some [.int .u8 0, .int .u8 0] ∧ structP prog 210 = some ([.int .u8 0, .int .u8 0], [(0, 1), (1, 1)]) ∧ fOff prog 210 0 = some (0, 1) ∧ fPart prog 210 0 = some (0, none) ∧ fOff prog 210 1 = some (1, 1) ∧ fPart prog 210 1 = some (1, none) := by and_intros <;> kernel_rfl
@[go_sem] theorem plt211 : aggN prog 211 = some (some 32) ∧ szOf prog 211 = some 32 := by and_intros <;> kernel_rfl
@[go_sem] theorem plt216 : aggN prog 216 = some (some 32) ∧ szOf prog 216 = some 32 := by and_intros <;> kernel_rfl
@[go_sem] theorem plt217 : aggN prog 217 = some (some 64) ∧ szOf prog 217 = some 64 := by and_intros <;> kernel_rfl
@[go_sem] theorem plt218 : aggN prog 218 = some (some 4) ∧ szOf prog 218 = some 4 ∧ zeroCs prog 218 = some [.pointer none, .pointer none, .pointer none, .string .empty] ∧ structP prog 218 = some ([.pointer none, .pointer none, .pointer none, .string .empty], [(0, 1), (1, 1), (2, 1), (3, 1)]) ∧ fOff prog 218 0 = some (0, 1) ∧ fPart prog 218 0 = some (0, none) ∧ fOff prog 218 1 = some (1, 1) ∧ fPart prog 218 1 = some (1, none) ∧ fOff prog 218 2 = some (2, 1) ∧ fPart prog 218 2 = some (2, none) ∧ fOff prog 218 3 = some (3, 1) ∧ fPart prog 218 3 = some (3, none) := by and_intros <;> kernel_rfl
@[go_sem] theorem plt219 : aggN prog 219 = some (some 4) ∧ szOf prog 219 = some 4 ∧ zeroCs prog 219 = some [.pointer none, .pointer none, .pointer none, .string .empty] ∧ structP prog 219 = some ([.pointer none, .pointer none, .pointer none, .string .empty], [(0, 1), (1, 1), (2, 1), (3, 1)]) ∧ fOff prog 219 0 = some (0, 1) ∧ fPart prog 219 0 = some (0, none) ∧ fOff prog 219 1 = some (1, 1) ∧ fPart prog 219 1 = some (1, none) ∧ fOff prog 219 2 = some (2, 1) ∧ fPart prog 219 2 = some (2, none) ∧ fOff prog 219 3 = some (3, 1) ∧ fPart prog 219 3 = some (3, none) := by and_intros <;> kernel_rfl
@[go_sem] theorem plt220 : aggN prog 220 = some (some 0) ∧ szOf prog 220 = some 0 ∧ zeroCs prog 220 = some [] := by and_intros <;> kernel_rfl
@[go_sem] theorem plt221 : aggN prog 221 = some (some 0) ∧ szOf prog 221 = some 0 ∧ zeroCs prog 221 = some [] ∧ structP prog 221 = some ([], [(0, 0)]) ∧ fOff prog 221 0 = some (0, 0) ∧ fPart prog 221 0 = some (0, some 0) := by and_intros <;> kernel_rfl
@[go_sem] theorem plt222 : aggN prog 222 = some (some 0) ∧ szOf prog 222 = some 0 ∧ zeroCs prog 222 = some [] ∧ structP prog 222 = some ([], [(0, 0)]) ∧ fOff prog 222 0 = some (0, 0) ∧ fPart prog 222 0 = some (0, some 0) := by and_intros <;> kernel_rfl
@[go_sem] theorem plt224 : aggN prog 224 = some (none) ∧ szOf prog 224 = some 1 ∧ zeroCs prog 224 = some [.int .u8 0] ∧ prog.underlying 224 = some (.int .u8) := by and_intros <;> kernel_rfl
@[go_sem] theorem plt225 : aggN prog 225 = some (none) ∧ szOf prog 225 = some 1 ∧ zeroCs prog 225 = some [.int .u8 0] ∧ prog.underlying 225 = some (.int .u8) := by and_intros <;> kernel_rfl
@[go_sem] theorem plt227 : aggN prog 227 = some (none) ∧ szOf prog 227 = some 1 ∧ zeroCs prog 227 = some [.int .i32 0] ∧ prog.underlying 227 = some (.int .i32) := by and_intros <;> kernel_rfl
@[go_sem] theorem plt228 : aggN prog 228 = some (none) ∧ szOf prog 228 = some 1 ∧ zeroCs prog 228 = some [.int .i32 0] ∧ prog.underlying 228 = some (.int .i32) := by and_intros <;> kernel_rfl
@[go_sem] theorem plt229 : aggN prog 229 = some (some 11) ∧ szOf prog 229 = some 11 ∧ fOff prog 229 0 = some (0, 1) ∧ fPart prog 229 0 = some (0, none) ∧ fOff prog 229 1 = some (1, 1) ∧ fPart prog 229 1 = some (1, none) ∧ fOff prog 229 2 = some (2, 1) ∧ fPart prog 229 2 = some (2, none) ∧ fOff prog 229 3 = some (3, 1) ∧ fPart prog 229 3 = some (3, none) ∧ fOff prog 229 4 = some (4, 1) ∧ fPart prog 229 4 = some (4, none) ∧ fOff prog 229 5 = some (5, 1) ∧ fPart prog 229 5 = some (5, none) ∧ fOff prog 229 6 = some (6, 1) ∧ fPart prog 229 6 = some (6, none) ∧ fOff prog 229 7 = some (7, 1) ∧ fPart prog 229 7 = some (7, none) ∧ fOff prog 229 8 = some (8, 1) ∧ fPart prog 229 8 = some (8, none) ∧ fOff prog 229 9 = some (9, 1) ∧ fPart prog 229 9 = some (9, none) ∧ fOff prog 229 10 = some (10, 1) ∧ fPart prog 229 10 = some (10, none) := by and_intros <;> kernel_rfl
@[go_sem] theorem plt230 : aggN prog 230 = some (some 11) ∧ szOf prog 230 = some 11 ∧ fOff prog 230 0 = some (0, 1) ∧ fPart prog 230 0 = some (0, none) ∧ fOff prog 230 1 = some (1, 1) ∧ fPart prog 230 1 = some (1, none) ∧ fOff prog 230 2 = some (2, 1) ∧ fPart prog 230 2 = some (2, none) ∧ fOff prog 230 3 = some (3, 1) ∧ fPart prog 230 3 = some (3, none) ∧ fOff prog 230 4 = some (4, 1) ∧ fPart prog 230 4 = some (4, none) ∧ fOff prog 230 5 = some (5, 1) ∧ fPart prog 230 5 = some (5, none) ∧ fOff prog 230 6 = some (6, 1) ∧ fPart prog 230 6 = some (6, none) ∧ fOff prog 230 7 = some (7, 1) ∧ fPart prog 230 7 = some (7, none) ∧ fOff prog 230 8 = some (8, 1) ∧ fPart prog 230 8 = some (8, none) ∧ fOff prog 230 9 = some (9, 1) ∧ fPart prog 230 9 = some (9, none) ∧ fOff prog 230 10 = some (10, 1) ∧ fPart prog 230 10 = some (10, none) := by and_intros <;> kernel_rfl
@[go_sem] theorem plr3 : f3.results.toList = [.tmp 2] := by kernel_rfl
@[go_sem] theorem plr4 : f4.results.toList = [.tmp 2] := by kernel_rfl
@[go_sem] theorem plr5 : f5.results.toList = [.tmp 2] := by kernel_rfl
@[go_sem] theorem plr6 : f6.results.toList = [.tmp 2] := by kernel_rfl
@[go_sem] theorem plr7 : f7.results.toList = [.tmp 2] := by kernel_rfl
@[go_sem] theorem plr8 : f8.results.toList = [.cell 2 35, .tmp 3] := by kernel_rfl
@[go_sem] theorem plr9 : f9.results.toList = [.tmp 2, .tmp 3] := by kernel_rfl
@[go_sem] theorem plr10 : f10.results.toList = [.cell 2 42, .tmp 3] := by kernel_rfl
@[go_sem] theorem plr11 : f11.results.toList = [.tmp 2, .tmp 3] := by kernel_rfl
@[go_sem] theorem plr12 : f12.results.toList = [.tmp 2, .tmp 3] := by kernel_rfl
@[go_sem] theorem plr13 : f13.results.toList = [.tmp 4] := by kernel_rfl
@[go_sem] theorem plr14 : f14.results.toList = [.tmp 4] := by kernel_rfl
@[go_sem] theorem plr15 : f15.results.toList = [.tmp 4] := by kernel_rfl
@[go_sem] theorem plr16 : f16.results.toList = [.tmp 2, .tmp 3] := by kernel_rfl
@[go_sem] theorem plr17 : f17.results.toList = [.cell 4 35, .tmp 5] := by kernel_rfl
@[go_sem] theorem plr18 : f18.results.toList = [.cell 0 35] := by kernel_rfl
@[go_sem] theorem plr19 : f19.results.toList = [.tmp 2] := by kernel_rfl
@[go_sem] theorem plr20 : f20.results.toList = [.tmp 2] := by kernel_rfl
@[go_sem] theorem plr21 : f21.results.toList = [.tmp 4] := by kernel_rfl
@[go_sem] theorem plr22 : f22.results.toList = [.tmp 2, .tmp 3, .tmp 4] := by kernel_rfl
@[go_sem] theorem plr23 : f23.results.toList = [.cell 4 35, .tmp 5] := by kernel_rfl
@[go_sem] theorem plr24 : f24.results.toList = [.cell 4 35, .tmp 5] := by kernel_rfl
@[go_sem] theorem plr25 : f25.results.toList = [.tmp 2] := by kernel_rfl
@[go_sem] theorem plr26 : f26.results.toList = [.tmp 2] := by kernel_rfl
@[go_sem] theorem plr27 : f27.results.toList = [.tmp 4] := by kernel_rfl
@[go_sem] theorem plr28 : f28.results.toList = [.tmp 2] := by kernel_rfl
@[go_sem] theorem plr29 : f29.results.toList = [.tmp 8] := by kernel_rfl
@[go_sem] theorem plr30 : f30.results.toList = [.tmp 6] := by kernel_rfl
@[go_sem] theorem plr31 : f31.results.toList = [.tmp 4] := by kernel_rfl
@[go_sem] theorem plr32 : f32.results.toList = [.tmp 6] := by kernel_rfl
@[go_sem] theorem plr33 : f33.results.toList = [.tmp 6, .tmp 7] := by kernel_rfl
@[go_sem] theorem plr34 : f34.results.toList = [.tmp 2] := by kernel_rfl
@[go_sem] theorem plr35 : f35.results.toList = [.cell 2 35] := by kernel_rfl
@[go_sem] theorem plr36 : f36.results.toList = [.tmp 4] := by kernel_rfl
@[go_sem] theorem plr37 : f37.results.toList = [.tmp 2] := by kernel_rfl
@[go_sem] theorem plr38 : f38.results.toList = [.tmp 2] := by kernel_rfl
@[go_sem] theorem plr39 : f39.results.toList = [.tmp 4] := by kernel_rfl
@[go_sem] theorem plr40 : f40.results.toList = [.tmp 2] := by kernel_rfl
@[go_sem] theorem plr41 : f41.results.toList = [.tmp 2, .tmp 3] := by kernel_rfl
@[go_sem] theorem plr42 : f42.results.toList = [.tmp 2, .tmp 3] := by kernel_rfl
@[go_sem] theorem plr43 : f43.results.toList = [.tmp 2, .tmp 3] := by kernel_rfl
@[go_sem] theorem plr44 : f44.results.toList = [.cell 2 42, .tmp 3] := by kernel_rfl
@[go_sem] theorem plr45 : f45.results.toList = [.cell 4 35, .tmp 5] := by kernel_rfl
@[go_sem] theorem plr46 : f46.results.toList = [.cell 0 35] := by kernel_rfl
@[go_sem] theorem plr47 : f47.results.toList = [.tmp 2] := by kernel_rfl
@[go_sem] theorem plr48 : f48.results.toList = [.tmp 2] := by kernel_rfl
@[go_sem] theorem plr49 : f49.results.toList = [.tmp 4] := by kernel_rfl
@[go_sem] theorem plr50 : f50.results.toList = [.tmp 2] := by kernel_rfl
@[go_sem] theorem plr51 : f51.results.toList = [.cell 2 35] := by kernel_rfl
@[go_sem] theorem plr52 : f52.results.toList = [.cell 6 35, .tmp 7] := by kernel_rfl
@[go_sem] theorem plr53 : f53.results.toList = [.cell 4 25] := by kernel_rfl
@[go_sem] theorem plr54 : f54.results.toList = [.tmp 2] := by kernel_rfl
@[go_sem] theorem plr55 : f55.results.toList = [.tmp 4] := by kernel_rfl
@[go_sem] theorem plr56 : f56.results.toList = [.tmp 4] := by kernel_rfl
@[go_sem] theorem plr57 : f57.results.toList = [.tmp 2] := by kernel_rfl
@[go_sem] theorem plr58 : f58.results.toList = [.cell 6 86, .tmp 7] := by kernel_rfl
@[go_sem] theorem plr59 : f59.results.toList = [.cell 6 35, .tmp 7] := by kernel_rfl
@[go_sem] theorem plr60 : f60.results.toList = [.cell 4 35, .tmp 5] := by kernel_rfl
@[go_sem] theorem plr61 : f61.results.toList = [.cell 2 35, .tmp 3] := by kernel_rfl
@[go_sem] theorem plr62 : f62.results.toList = [.cell 6 35, .tmp 7] := by kernel_rfl
@[go_sem] theorem plr63 : f63.results.toList = [.tmp 2] := by kernel_rfl
@[go_sem] theorem plr64 : f64.results.toList = [.cell 2 35] := by kernel_rfl
@[go_sem] theorem plr65 : f65.results.toList = [.tmp 2] := by kernel_rfl
@[go_sem] theorem plr66 : f66.results.toList = [.tmp 2] := by kernel_rfl
@[go_sem] theorem plr67 : f67.results.toList = [.cell 6 86, .tmp 7] := by kernel_rfl
@[go_sem] theorem plr68 : f68.results.toList = [.cell 6 35, .tmp 7] := by kernel_rfl
@[go_sem] theorem plr69 : f69.results.toList = [.cell 4 35, .tmp 5] := by kernel_rfl
@[go_sem] theorem plr70 : f70.results.toList = [.cell 2 35, .tmp 3] := by kernel_rfl
@[go_sem] theorem plr71 : f71.results.toList = [.cell 6 35, .tmp 7] := by kernel_rfl
@[go_sem] theorem plr72 : f72.results.toList = [.tmp 2] := by kernel_rfl
@[go_sem] theorem plr73 : f73.results.toList = [.tmp 2] := by kernel_rfl
@[go_sem] theorem plr74 : f74.results.toList = [.tmp 2] := by kernel_rfl
@[go_sem] theorem plr75 : f75.results.toList = [.tmp 2] := by kernel_rfl
@[go_sem] theorem plr76 : f76.results.toList = [.tmp 2] := by kernel_rfl
@[go_sem] theorem plr77 : f77.results.toList = [.tmp 6] := by kernel_rfl
@[go_sem] theorem plr78 : f78.results.toList = [.tmp 6, .tmp 7] := by kernel_rfl
@[go_sem] theorem plr79 : f79.results.toList = [.tmp 6, .tmp 7] := by kernel_rfl
@[go_sem] theorem plr80 : f80.results.toList = [.tmp 4] := by kernel_rfl
@[go_sem] theorem plr81 : f81.results.toList = [.tmp 4] := by kernel_rfl
@[go_sem] theorem plr82 : f82.results.toList = [.tmp 4] := by kernel_rfl
@[go_sem] theorem plr83 : f83.results.toList = [.tmp 4] := by kernel_rfl
@[go_sem] theorem plr84 : f84.results.toList = [.tmp 2] := by kernel_rfl
@[go_sem] theorem plr85 : f85.results.toList = [.tmp 2] := by kernel_rfl
@[go_sem] theorem plr86 : f86.results.toList = [.tmp 6] := by kernel_rfl
@[go_sem] theorem plr87 : f87.results.toList = [.tmp 6, .tmp 7] := by kernel_rfl
@[go_sem] theorem plr88 : f88.results.toList = [.tmp 4] := by kernel_rfl
@[go_sem] theorem plr89 : f89.results.toList = [.cell 2 35] := by kernel_rfl
@[go_sem] theorem plr90 : f90.results.toList = [.tmp 4] := by kernel_rfl
@[go_sem] theorem plr91 : f91.results.toList = [.cell 4 42] := by kernel_rfl
@[go_sem] theorem plr92 : f92.results.toList = [.tmp 4] := by kernel_rfl
@[go_sem] theorem plr97 : f97.results.toList = [.tmp 6] := by kernel_rfl
@[go_sem] theorem plr98 : f98.results.toList = [.tmp 2] := by kernel_rfl
@[go_sem] theorem plr99 : f99.results.toList = [.tmp 2, .tmp 3] := by kernel_rfl
@[go_sem] theorem plr100 : f100.results.toList = [.cell 6 35, .tmp 7] := by kernel_rfl
@[go_sem] theorem plr101 : f101.results.toList = [.cell 4 25] := by kernel_rfl
@[go_sem] theorem plr102 : f102.results.toList = [.tmp 2] := by kernel_rfl
@[go_sem] theorem plr103 : f103.results.toList = [.tmp 4] := by kernel_rfl
@[go_sem] theorem plr104 : f104.results.toList = [.tmp 4] := by kernel_rfl
@[go_sem] theorem plr105 : f105.results.toList = [.tmp 2] := by kernel_rfl
@[go_sem] theorem plr107 : f107.results.toList = [.cell 2 30] := by kernel_rfl
@[go_sem] theorem plr108 : f108.results.toList = [.tmp 2] := by kernel_rfl
@[go_sem] theorem plr109 : f109.results.toList = [.cell 2 30, .tmp 3] := by kernel_rfl
@[go_sem] theorem plr111 : f111.results.toList = [.tmp 4] := by kernel_rfl
@[go_sem] theorem plr112 : f112.results.toList = [.tmp 4] := by kernel_rfl
@[go_sem] theorem plr113 : f113.results.toList = [.tmp 4] := by kernel_rfl
@[go_sem] theorem plr114 : f114.results.toList = [.tmp 4] := by kernel_rfl
@[go_sem] theorem plr115 : f115.results.toList = [.tmp 2] := by kernel_rfl
@[go_sem] theorem plr116 : f116.results.toList = [.cell 4 30, .tmp 5] := by kernel_rfl
@[go_sem] theorem plr117 : f117.results.toList = [.cell 4 32, .tmp 5] := by kernel_rfl
@[go_sem] theorem plr118 : f118.results.toList = [.cell 8 35, .tmp 9] := by kernel_rfl
@[go_sem] theorem plr119 : f119.results.toList = [.cell 2 30, .tmp 3] := by kernel_rfl
@[go_sem] theorem plr120 : f120.results.toList = [.cell 2 30, .tmp 3] := by kernel_rfl
@[go_sem] theorem plr121 : f121.results.toList = [.tmp 2] := by kernel_rfl
@[go_sem] theorem plr122 : f122.results.toList = [.tmp 2] := by kernel_rfl
@[go_sem] theorem plr123 : f123.results.toList = [.tmp 4, .tmp 5] := by kernel_rfl
@[go_sem] theorem plr124 : f124.results.toList = [.cell 2 30] := by kernel_rfl
@[go_sem] theorem plr125 : f125.results.toList = [.tmp 2] := by kernel_rfl
@[go_sem] theorem plr126 : f126.results.toList = [.tmp 2] := by kernel_rfl
@[go_sem] theorem plr127 : f127.results.toList = [.tmp 2] := by kernel_rfl
@[go_sem] theorem plr128 : f128.results.toList = [.tmp 2] := by kernel_rfl
@[go_sem] theorem plr129 : f129.results.toList = [.cell 4 30, .tmp 5] := by kernel_rfl
@[go_sem] theorem plr130 : f130.results.toList = [.cell 4 32, .tmp 5] := by kernel_rfl
@[go_sem] theorem plr131 : f131.results.toList = [.cell 2 30, .tmp 3] := by kernel_rfl
@[go_sem] theorem plr132 : f132.results.toList = [.cell 2 30, .tmp 3] := by kernel_rfl
@[go_sem] theorem plr133 : f133.results.toList = [.tmp 2] := by kernel_rfl
@[go_sem] theorem plr134 : f134.results.toList = [.tmp 4, .tmp 5] := by kernel_rfl
@[go_sem] theorem plr135 : f135.results.toList = [.tmp 2] := by kernel_rfl
@[go_sem] theorem plr136 : f136.results.toList = [.tmp 2] := by kernel_rfl
@[go_sem] theorem plr137 : f137.results.toList = [.tmp 6, .tmp 7] := by kernel_rfl
@[go_sem] theorem plr138 : f138.results.toList = [.tmp 6, .tmp 7] := by kernel_rfl
@[go_sem] theorem plr139 : f139.results.toList = [.tmp 2] := by kernel_rfl
@[go_sem] theorem plr140 : f140.results.toList = [.tmp 4] := by kernel_rfl
@[go_sem] theorem plr141 : f141.results.toList = [.tmp 2] := by kernel_rfl
@[go_sem] theorem plr142 : f142.results.toList = [.tmp 2] := by kernel_rfl
@[go_sem] theorem plr143 : f143.results.toList = [.tmp 4, .tmp 5] := by kernel_rfl
@[go_sem] theorem plr144 : f144.results.toList = [.cell 2 30] := by kernel_rfl
@[go_sem] theorem plr145 : f145.results.toList = [.cell 2 32] := by kernel_rfl
@[go_sem] theorem plr146 : f146.results.toList = [.tmp 2] := by kernel_rfl
@[go_sem] theorem plr147 : f147.results.toList = [.tmp 2] := by kernel_rfl
@[go_sem] theorem plr152 : f152.results.toList = [.tmp 2, .tmp 3] := by kernel_rfl
@[go_sem] theorem plr153 : f153.results.toList = [.cell 2 30, .tmp 3] := by kernel_rfl
@[go_sem] theorem plr154 : f154.results.toList = [.tmp 4] := by kernel_rfl
@[go_sem] theorem plr155 : f155.results.toList = [.tmp 4] := by kernel_rfl
@[go_sem] theorem plr156 : f156.results.toList = [.tmp 4] := by kernel_rfl
@[go_sem] theorem plr160 : f160.results.toList = [.tmp 2] := by kernel_rfl
@[go_sem] theorem plr162 : f162.results.toList = [.tmp 4] := by kernel_rfl
@[go_sem] theorem plr163 : f163.results.toList = [.tmp 2] := by kernel_rfl
@[go_sem] theorem plr164 : f164.results.toList = [.tmp 6] := by kernel_rfl
@[go_sem] theorem plr165 : f165.results.toList = [.cell 4 86, .tmp 5] := by kernel_rfl
@[go_sem] theorem plr166 : f166.results.toList = [.tmp 4, .tmp 5] := by kernel_rfl
@[go_sem] theorem plr167 : f167.results.toList = [.tmp 2] := by kernel_rfl
@[go_sem] theorem plr168 : f168.results.toList = [.tmp 2] := by kernel_rfl
@[go_sem] theorem plr169 : f169.results.toList = [.tmp 6] := by kernel_rfl
@[go_sem] theorem plr170 : f170.results.toList = [.cell 4 86, .tmp 5] := by kernel_rfl
@[go_sem] theorem plr171 : f171.results.toList = [.tmp 2] := by kernel_rfl
@[go_sem] theorem plr172 : f172.results.toList = [.tmp 4, .tmp 5] := by kernel_rfl
@[go_sem] theorem plr173 : f173.results.toList = [.tmp 6] := by kernel_rfl
@[go_sem] theorem plr174 : f174.results.toList = [.cell 2 27] := by kernel_rfl
@[go_sem] theorem plr175 : f175.results.toList = [.tmp 8] := by kernel_rfl
@[go_sem] theorem plr176 : f176.results.toList = [.tmp 6, .tmp 7] := by kernel_rfl
@[go_sem] theorem plr184 : f184.results.toList = [.tmp 4] := by kernel_rfl
@[go_sem] theorem plr193 : f193.results.toList = [.tmp 6] := by kernel_rfl
@[go_sem] theorem plr194 : f194.results.toList = [.tmp 6] := by kernel_rfl
@[go_sem] theorem plr195 : f195.results.toList = [.tmp 6] := by kernel_rfl
@[go_sem] theorem plr196 : f196.results.toList = [.cell 2 25, .tmp 3, .tmp 4] := by kernel_rfl
@[go_sem] theorem plr197 : f197.results.toList = [.tmp 4] := by kernel_rfl
@[go_sem] theorem plr211 : f211.results.toList = [.tmp 6] := by kernel_rfl
@[go_sem] theorem plr212 : f212.results.toList = [.tmp 4] := by kernel_rfl
@[go_sem] theorem plr213 : f213.results.toList = [.tmp 4] := by kernel_rfl
@[go_sem] theorem plr214 : f214.results.toList = [.cell 2 25, .tmp 3] := by kernel_rfl
@[go_sem] theorem plr215 : f215.results.toList = [.tmp 2] := by kernel_rfl
@[go_sem] theorem plr216 : f216.results.toList = [.tmp 4] := by kernel_rfl
@[go_sem] theorem plr217 : f217.results.toList = [.tmp 4] := by kernel_rfl
@[go_sem] theorem plr224 : f224.results.toList = [.cell 2 25] := by kernel_rfl
theorem pl_follows : prog.follows .mixedOrders = true := by kernel_rfl
end Tryz
end Go.Proofs
