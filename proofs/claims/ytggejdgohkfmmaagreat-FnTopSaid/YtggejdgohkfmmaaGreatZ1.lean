/-
  What the functions compute that open a table.
  What the functions of the laws compute that write a table's lists anew and read them again; the law on opening a table.
-/
import Derived.Test.YtggejdgohkfmmaaGreatW1
import Derived.Test.YtggejdgohkfmmaaGreatN1
import Derived.Test.YtggejdgohkfmmaaGreatN4
import Derived.Test.YtggejdgohkfmmaaGreatL9
namespace Go.Proofs.YtggejdgohkfmmaaGreat
open Go.PL
set_option linter.unusedSimpArgs false
/-- the table that is laid for a puzzle, before it is judged -/
def layT (x : Pz) (n m : Int) : Tb := ⟨⟨newPz x, [], 0, 0⟩, ⟨m, 2, 0⟩, n, []⟩
def noT : Tb := ⟨⟨⟨⟨0, 0, 0⟩, 0, 0⟩, [], 0, 0⟩, ⟨0, 0, 0⟩, 0, []⟩
def openOk (x : Pz) (n m : Int) : Bool := puzzleOk x && tableOk (layT x n m)
def openT (x : Pz) (n m : Int) : Tb := if openOk x n m = true then layT x n m else noT
theorem newPz_in {x : Pz} (hx : pzIn x) : pzIn (newPz x) := by
  unfold newPz
  split
  · exact hx
  · exact ⟨by simp, by simp⟩
theorem layT_in {x : Pz} {n m : Int} (hx : pzIn x) : TbIn (layT x n m) := ⟨⟨newPz_in hx, by simp [layT]⟩, by simp [layT]⟩
set_option maxHeartbeats 2000000 in
theorem OpenTable_c (d e : Nat) (hde : d ≠ e) (x : Pz) (n m : Int) (hx : pzIn x) : PC Tryz.prog 91 [] [.a (pzC x), .c (.v (.int .i64 n)), .c (.v (.int .i64 m))] (.t [.a (tbC (openT x n m) (.o d) (.o e)), .c (.v (.bool (openOk x n m)))]) ⟨[], [(d, ⟨58, 3, [], false, true⟩), (e, ⟨98, 4, [], false, true⟩)]⟩ := by
  have hed : e ≠ d := fun h => hde h.symm
  refine pc_of Tryz.func91 rfl (by kernel_rfl) _ Tryz.ntmps91 (by simp) ?_
  repeat' first
    | (first | simp -implicitDefEqProofs only [go_sem] | (refine And.intro ?_ ?_; omega) | (refine And.intro (shr_bd ?_ ?_) ?_; omega; omega) | refine sl_list rfl ?_ | refine sd_list rfl ?_ | refine sl_str ?_ | refine sd_str ?_)
    | refine callL (NewGame_c 13 x hx) rfl rfl rfl ?_
  by_cases h : puzzleOk x = true
  · (repeat' (first | simp -implicitDefEqProofs only [h, go_sem] | (refine And.intro ?_ ?_; omega) | (refine And.intro (shr_bd ?_ ?_) ?_; omega; omega) | refine sl_list rfl ?_ | refine sd_list rfl ?_ | refine sl_str ?_ | refine sd_str ?_))
    refine callS (TableOk_c (layT x n m) (layT_in hx)) rfl rfl rfl ?_
    by_cases h' : tableOk (layT x n m) = true
    · have ho : openOk x n m = true := by simp [openOk, h, h']
      have e1 : openT x n m = layT x n m := by simp [openT, ho]
      (repeat' (first | simp -implicitDefEqProofs only [h', go_sem] | (refine And.intro ?_ ?_; omega) | (refine And.intro (shr_bd ?_ ?_) ?_; omega; omega) | refine sl_list rfl ?_ | refine sd_list rfl ?_ | refine sl_str ?_ | refine sd_str ?_))
      refine fin_adopt (pv' := .t [.a (tbC (layT x n m) (.o 13) (.o 999)), .c (.v (.bool true))]) 999 98 4 rfl (by omega) (by simp [adPV, adVs, adV1, adCs, adC, layT]) ?_
      exact fin_of (fun i => i) (fun i => if i = d then 13 else 999) ⟨by simp [boxesR, listsR, csR, renC, keyC, optK, fnd, envR, St.get, keyPV, keyV1, renPV, renV1, hasKey, made_zero, e1, ho, hde, hed, layT] <;> omega, by simp [boxesR, listsR, csR, renC, keyC, optK, fnd, envR, St.get, keyPV, keyV1, renPV, renV1, hasKey, made_zero, e1, ho, hde, hed, layT] <;> omega, by simp [boxesR, listsR, csR, renC, keyC, optK, fnd, envR, St.get, keyPV, keyV1, renPV, renV1, hasKey, made_zero, e1, ho, hde, hed, layT] <;> omega, by simp [boxesR, listsR, csR, renC, keyC, optK, fnd, envR, St.get, keyPV, keyV1, renPV, renV1, hasKey, made_zero, e1, ho, hde, hed, layT] <;> omega, by simp [boxesR, listsR, csR, renC, keyC, optK, fnd, envR, St.get, keyPV, keyV1, renPV, renV1, hasKey, made_zero, e1, ho, hde, hed, layT] <;> omega⟩ (by simp [boxesR, listsR, csR, renC, keyC, optK, fnd, envR, St.get, keyPV, keyV1, renPV, renV1, hasKey, made_zero, e1, ho, hde, hed, layT] <;> omega) (by first | rfl | (simp [renPV, renV1, renC, e1, ho, hde, hed, layT]))
    · have ho : openOk x n m = false := by simp [openOk, h']
      have e1 : openT x n m = noT := by simp [openT, ho]
      (repeat' (first | simp -implicitDefEqProofs only [h', go_sem] | (refine And.intro ?_ ?_; omega) | (refine And.intro (shr_bd ?_ ?_) ?_; omega; omega) | refine sl_list rfl ?_ | refine sd_list rfl ?_ | refine sl_str ?_ | refine sd_str ?_))
      refine fin_adopt (pv' := .t [.a [.v (.int .i64 0), .v (.int .i64 0), .v (.int .i64 0), .v (.int .i64 0), .v (.int .i64 0), .o 998, .v (.int .i64 0), .v (.int .i64 0), .v (.int .i64 0), .v (.int .i64 0), .v (.int .i64 0), .v (.int .i64 0), .v (.slice none 0 0)], .c (.v (.bool false))]) 998 58 3 rfl (by omega) (by simp [adPV, adVs, adV1, adCs, adC, layT]) ?_
      refine fin_adopt (pv' := .t [.a [.v (.int .i64 0), .v (.int .i64 0), .v (.int .i64 0), .v (.int .i64 0), .v (.int .i64 0), .o 998, .v (.int .i64 0), .v (.int .i64 0), .v (.int .i64 0), .v (.int .i64 0), .v (.int .i64 0), .v (.int .i64 0), .o 999], .c (.v (.bool false))]) 999 98 4 rfl (by omega) (by simp [adPV, adVs, adV1, adCs, adC, layT]) ?_
      exact fin_of (fun i => i) (fun i => if i = d then 998 else 999) ⟨by simp [boxesR, listsR, csR, renC, keyC, optK, fnd, envR, St.get, keyPV, keyV1, renPV, renV1, hasKey, made_zero, e1, ho, hde, hed, noT] <;> omega, by simp [boxesR, listsR, csR, renC, keyC, optK, fnd, envR, St.get, keyPV, keyV1, renPV, renV1, hasKey, made_zero, e1, ho, hde, hed, noT] <;> omega, by simp [boxesR, listsR, csR, renC, keyC, optK, fnd, envR, St.get, keyPV, keyV1, renPV, renV1, hasKey, made_zero, e1, ho, hde, hed, noT] <;> omega, by simp [boxesR, listsR, csR, renC, keyC, optK, fnd, envR, St.get, keyPV, keyV1, renPV, renV1, hasKey, made_zero, e1, ho, hde, hed, noT] <;> omega, by simp [boxesR, listsR, csR, renC, keyC, optK, fnd, envR, St.get, keyPV, keyV1, renPV, renV1, hasKey, made_zero, e1, ho, hde, hed, noT] <;> omega⟩ (by simp [boxesR, listsR, csR, renC, keyC, optK, fnd, envR, St.get, keyPV, keyV1, renPV, renV1, hasKey, made_zero, e1, ho, hde, hed, noT] <;> omega) (by first | rfl | (simp [renPV, renV1, renC, e1, ho, hde, hed, noT]))
  · have ho : openOk x n m = false := by simp [openOk, h]
    have e1 : openT x n m = noT := by simp [openT, ho]
    (repeat' (first | simp -implicitDefEqProofs only [h, go_sem] | (refine And.intro ?_ ?_; omega) | (refine And.intro (shr_bd ?_ ?_) ?_; omega; omega) | refine sl_list rfl ?_ | refine sd_list rfl ?_ | refine sl_str ?_ | refine sd_str ?_))
    refine fin_adopt (pv' := .t [.a [.v (.int .i64 0), .v (.int .i64 0), .v (.int .i64 0), .v (.int .i64 0), .v (.int .i64 0), .o 998, .v (.int .i64 0), .v (.int .i64 0), .v (.int .i64 0), .v (.int .i64 0), .v (.int .i64 0), .v (.int .i64 0), .v (.slice none 0 0)], .c (.v (.bool false))]) 998 58 3 rfl (by omega) (by simp [adPV, adVs, adV1, adCs, adC, layT]) ?_
    refine fin_adopt (pv' := .t [.a [.v (.int .i64 0), .v (.int .i64 0), .v (.int .i64 0), .v (.int .i64 0), .v (.int .i64 0), .o 998, .v (.int .i64 0), .v (.int .i64 0), .v (.int .i64 0), .v (.int .i64 0), .v (.int .i64 0), .v (.int .i64 0), .o 999], .c (.v (.bool false))]) 999 98 4 rfl (by omega) (by simp [adPV, adVs, adV1, adCs, adC, layT]) ?_
    exact fin_of (fun i => i) (fun i => if i = d then 998 else 999) ⟨by simp [boxesR, listsR, csR, renC, keyC, optK, fnd, envR, St.get, keyPV, keyV1, renPV, renV1, hasKey, made_zero, e1, ho, hde, hed, noT] <;> omega, by simp [boxesR, listsR, csR, renC, keyC, optK, fnd, envR, St.get, keyPV, keyV1, renPV, renV1, hasKey, made_zero, e1, ho, hde, hed, noT] <;> omega, by simp [boxesR, listsR, csR, renC, keyC, optK, fnd, envR, St.get, keyPV, keyV1, renPV, renV1, hasKey, made_zero, e1, ho, hde, hed, noT] <;> omega, by simp [boxesR, listsR, csR, renC, keyC, optK, fnd, envR, St.get, keyPV, keyV1, renPV, renV1, hasKey, made_zero, e1, ho, hde, hed, noT] <;> omega, by simp [boxesR, listsR, csR, renC, keyC, optK, fnd, envR, St.get, keyPV, keyV1, renPV, renV1, hasKey, made_zero, e1, ho, hde, hed, noT] <;> omega⟩ (by simp [boxesR, listsR, csR, renC, keyC, optK, fnd, envR, St.get, keyPV, keyV1, renPV, renV1, hasKey, made_zero, e1, ho, hde, hed, noT] <;> omega) (by first | rfl | (simp [renPV, renV1, renC, e1, ho, hde, hed, noT]))
end Go.Proofs.YtggejdgohkfmmaaGreat
namespace Go.Proofs.YtggejdgohkfmmaaGreat
open Go.PL
set_option linter.unusedSimpArgs false
end Go.Proofs.YtggejdgohkfmmaaGreat
