/-
  What the functions compute that open a table.
  What the functions of the laws compute that write a table's lists anew and read them again; the law on opening a table.
  What the functions compute that open the sample table; the law on it.
-/
import Derived.Test.YtahnbliabllflaaGreatDoorV1
import Derived.Test.YtahnbliabllflaaGreatDoorL6
import Derived.Test.YtahnbliabllflaaGreatDoorN4
import Derived.Test.YtahnbliabllflaaGreatDoorL2
namespace Go.Proofs.YtahnbliabllflaaGreatDoor
open Go.PL
set_option linter.unusedSimpArgs false
def layT (x : Pz) (n m : Int) : Tb := ⟨⟨newPz x, [], 0, 0⟩, ⟨m, 2, 0⟩, n, []⟩
def noT : Tb := ⟨⟨⟨⟨0, 0, 0⟩, 0, 0⟩, [], 0, 0⟩, ⟨0, 0, 0⟩, 0, []⟩
def openOk (x : Pz) (n m : Int) : Bool := puzzleOk x && tableOk (layT x n m)
def openT (x : Pz) (n m : Int) : Tb := if openOk x n m = true then layT x n m else noT
theorem newPz_in {x : Pz} (hx : pzIn x) : pzIn (newPz x) := by
  unfold newPz
  split
  · exact hx
  · exact ⟨by simp, by simp⟩
theorem layT_in {x : Pz} {n m : Int} (hx : pzIn x) : TbIn (layT x n m) := ⟨⟨newPz_in hx, by simp [layT]⟩, by simp [layT]⟩
set_option maxHeartbeats 2000000 in
theorem OpenTable_c (d e : Nat) (hde : d ≠ e) (x : Pz) (n m : Int) (hx : pzIn x) : PC Tryz.prog 100 [] [.a (pzC x), .c (.v (.int .i64 n)), .c (.v (.int .i64 m))] (.t [.a (tbC (openT x n m) (.o d) (.o e)), .c (.v (.bool (openOk x n m)))]) ⟨[], [(d, ⟨86, 3, [], false, true⟩), (e, ⟨140, 4, [], false, true⟩)]⟩ := by
  have hed : e ≠ d := fun h => hde h.symm
  refine pc_of Tryz.func100 rfl (by kernel_rfl) _ Tryz.ntmps100 (by simp) ?_
  repeat' first
    | (first | simp -implicitDefEqProofs only [go_sem] | (refine And.intro ?_ ?_; omega) | (refine And.intro (shr_bd ?_ ?_) ?_; omega; omega) | refine sl_list rfl ?_ | refine sd_list rfl ?_ | refine sl_str ?_ | refine sd_str ?_)
    | refine callL (NewGame_c 13 x hx) rfl rfl rfl ?_
  by_cases h : puzzleOk x = true
  · (repeat' (first | simp -implicitDefEqProofs only [h, go_sem] | (refine And.intro ?_ ?_; omega) | (refine And.intro (shr_bd ?_ ?_) ?_; omega; omega) | refine sl_list rfl ?_ | refine sd_list rfl ?_ | refine sl_str ?_ | refine sd_str ?_))
    refine callS (TableOk_c (layT x n m) (layT_in hx)) rfl rfl rfl ?_
    by_cases h' : tableOk (layT x n m) = true
    · have ho : openOk x n m = true := by simp [openOk, h, h']
      have e1 : openT x n m = layT x n m := by simp [openT, ho]
      (repeat' (first | simp -implicitDefEqProofs only [h', go_sem] | (refine And.intro ?_ ?_; omega) | (refine And.intro (shr_bd ?_ ?_) ?_; omega; omega) | refine sl_list rfl ?_ | refine sd_list rfl ?_ | refine sl_str ?_ | refine sd_str ?_))
      refine fin_adopt (pv' := .t [.a (tbC (layT x n m) (.o 13) (.o 999)), .c (.v (.bool true))]) 999 140 4 rfl (by omega) (by simp [adPV, adVs, adV1, adCs, adC, layT]) ?_
      exact fin_of (fun i => i) (fun i => if i = d then 13 else 999) ⟨by simp [e1, ho, hde, hed, layT] <;> omega, by simp [e1, ho, hde, hed, layT] <;> omega, by simp [e1, ho, hde, hed, layT] <;> omega, by simp [e1, ho, hde, hed, layT] <;> omega, by simp [e1, ho, hde, hed, layT] <;> omega⟩ (by simp [e1, ho, hde, hed, layT] <;> omega) (by first | rfl | (simp [renPV, renV1, renC, e1, ho, hde, hed, layT]))
    · have ho : openOk x n m = false := by simp [openOk, h']
      have e1 : openT x n m = noT := by simp [openT, ho]
      (repeat' (first | simp -implicitDefEqProofs only [h', go_sem] | (refine And.intro ?_ ?_; omega) | (refine And.intro (shr_bd ?_ ?_) ?_; omega; omega) | refine sl_list rfl ?_ | refine sd_list rfl ?_ | refine sl_str ?_ | refine sd_str ?_))
      refine fin_adopt (pv' := .t [.a [.v (.int .i64 0), .v (.int .i64 0), .v (.int .i64 0), .v (.int .i64 0), .v (.int .i64 0), .o 998, .v (.int .i64 0), .v (.int .i64 0), .v (.int .i64 0), .v (.int .i64 0), .v (.int .i64 0), .v (.int .i64 0), .v (.slice none 0 0)], .c (.v (.bool false))]) 998 86 3 rfl (by omega) (by simp [adPV, adVs, adV1, adCs, adC, layT]) ?_
      refine fin_adopt (pv' := .t [.a [.v (.int .i64 0), .v (.int .i64 0), .v (.int .i64 0), .v (.int .i64 0), .v (.int .i64 0), .o 998, .v (.int .i64 0), .v (.int .i64 0), .v (.int .i64 0), .v (.int .i64 0), .v (.int .i64 0), .v (.int .i64 0), .o 999], .c (.v (.bool false))]) 999 140 4 rfl (by omega) (by simp [adPV, adVs, adV1, adCs, adC, layT]) ?_
      exact fin_of (fun i => i) (fun i => if i = d then 998 else 999) ⟨by simp [e1, ho, hde, hed, noT] <;> omega, by simp [e1, ho, hde, hed, noT] <;> omega, by simp [e1, ho, hde, hed, noT] <;> omega, by simp [e1, ho, hde, hed, noT] <;> omega, by simp [e1, ho, hde, hed, noT] <;> omega⟩ (by simp [e1, ho, hde, hed, noT] <;> omega) (by first | rfl | (simp [renPV, renV1, renC, e1, ho, hde, hed, noT]))
  · have ho : openOk x n m = false := by simp [openOk, h]
    have e1 : openT x n m = noT := by simp [openT, ho]
    (repeat' (first | simp -implicitDefEqProofs only [h, go_sem] | (refine And.intro ?_ ?_; omega) | (refine And.intro (shr_bd ?_ ?_) ?_; omega; omega) | refine sl_list rfl ?_ | refine sd_list rfl ?_ | refine sl_str ?_ | refine sd_str ?_))
    refine fin_adopt (pv' := .t [.a [.v (.int .i64 0), .v (.int .i64 0), .v (.int .i64 0), .v (.int .i64 0), .v (.int .i64 0), .o 998, .v (.int .i64 0), .v (.int .i64 0), .v (.int .i64 0), .v (.int .i64 0), .v (.int .i64 0), .v (.int .i64 0), .v (.slice none 0 0)], .c (.v (.bool false))]) 998 86 3 rfl (by omega) (by simp [adPV, adVs, adV1, adCs, adC, layT]) ?_
    refine fin_adopt (pv' := .t [.a [.v (.int .i64 0), .v (.int .i64 0), .v (.int .i64 0), .v (.int .i64 0), .v (.int .i64 0), .o 998, .v (.int .i64 0), .v (.int .i64 0), .v (.int .i64 0), .v (.int .i64 0), .v (.int .i64 0), .v (.int .i64 0), .o 999], .c (.v (.bool false))]) 999 140 4 rfl (by omega) (by simp [adPV, adVs, adV1, adCs, adC, layT]) ?_
    exact fin_of (fun i => i) (fun i => if i = d then 998 else 999) ⟨by simp [e1, ho, hde, hed, noT] <;> omega, by simp [e1, ho, hde, hed, noT] <;> omega, by simp [e1, ho, hde, hed, noT] <;> omega, by simp [e1, ho, hde, hed, noT] <;> omega, by simp [e1, ho, hde, hed, noT] <;> omega⟩ (by simp [e1, ho, hde, hed, noT] <;> omega) (by first | rfl | (simp [renPV, renV1, renC, e1, ho, hde, hed, noT]))
set_option maxHeartbeats 2000000 in
theorem iOpenTable_c (d e : Nat) (hde : d ≠ e) (x : Pz) (n m : Int) (hx : pzIn x) : PC Tryz.prog 52 [] [.a (pzC x), .c (.v (.int .i64 n)), .c (.v (.int .i64 m))] (.t [.a (tbC (openT x n m) (.o d) (.o e)), .c (.v (.bool (openOk x n m)))]) ⟨[], [(d, ⟨86, 3, [], false, true⟩), (e, ⟨140, 4, [], false, true⟩)]⟩ := by
  have hed : e ≠ d := fun h => hde h.symm
  refine pc_of Tryz.func52 rfl (by kernel_rfl) _ Tryz.ntmps52 (by simp) ?_
  repeat' first
    | (first | simp -implicitDefEqProofs only [go_sem] | (refine And.intro ?_ ?_; omega) | (refine And.intro (shr_bd ?_ ?_) ?_; omega; omega) | refine sl_list rfl ?_ | refine sd_list rfl ?_ | refine sl_str ?_ | refine sd_str ?_)
    | refine callL (iNewGame_c 13 x hx) rfl rfl rfl ?_
  by_cases h : puzzleOk x = true
  · (repeat' (first | simp -implicitDefEqProofs only [h, go_sem] | (refine And.intro ?_ ?_; omega) | (refine And.intro (shr_bd ?_ ?_) ?_; omega; omega) | refine sl_list rfl ?_ | refine sd_list rfl ?_ | refine sl_str ?_ | refine sd_str ?_))
    refine callS (iTableOk_c (layT x n m) (layT_in hx)) rfl rfl rfl ?_
    by_cases h' : tableOk (layT x n m) = true
    · have ho : openOk x n m = true := by simp [openOk, h, h']
      have e1 : openT x n m = layT x n m := by simp [openT, ho]
      (repeat' (first | simp -implicitDefEqProofs only [h', go_sem] | (refine And.intro ?_ ?_; omega) | (refine And.intro (shr_bd ?_ ?_) ?_; omega; omega) | refine sl_list rfl ?_ | refine sd_list rfl ?_ | refine sl_str ?_ | refine sd_str ?_))
      refine fin_adopt (pv' := .t [.a (tbC (layT x n m) (.o 13) (.o 999)), .c (.v (.bool true))]) 999 140 4 rfl (by omega) (by simp [adPV, adVs, adV1, adCs, adC, layT]) ?_
      exact fin_of (fun i => i) (fun i => if i = d then 13 else 999) ⟨by simp [e1, ho, hde, hed, layT] <;> omega, by simp [e1, ho, hde, hed, layT] <;> omega, by simp [e1, ho, hde, hed, layT] <;> omega, by simp [e1, ho, hde, hed, layT] <;> omega, by simp [e1, ho, hde, hed, layT] <;> omega⟩ (by simp [e1, ho, hde, hed, layT] <;> omega) (by first | rfl | (simp [renPV, renV1, renC, e1, ho, hde, hed, layT]))
    · have ho : openOk x n m = false := by simp [openOk, h']
      have e1 : openT x n m = noT := by simp [openT, ho]
      (repeat' (first | simp -implicitDefEqProofs only [h', go_sem] | (refine And.intro ?_ ?_; omega) | (refine And.intro (shr_bd ?_ ?_) ?_; omega; omega) | refine sl_list rfl ?_ | refine sd_list rfl ?_ | refine sl_str ?_ | refine sd_str ?_))
      refine fin_adopt (pv' := .t [.a [.v (.int .i64 0), .v (.int .i64 0), .v (.int .i64 0), .v (.int .i64 0), .v (.int .i64 0), .o 998, .v (.int .i64 0), .v (.int .i64 0), .v (.int .i64 0), .v (.int .i64 0), .v (.int .i64 0), .v (.int .i64 0), .v (.slice none 0 0)], .c (.v (.bool false))]) 998 86 3 rfl (by omega) (by simp [adPV, adVs, adV1, adCs, adC, layT]) ?_
      refine fin_adopt (pv' := .t [.a [.v (.int .i64 0), .v (.int .i64 0), .v (.int .i64 0), .v (.int .i64 0), .v (.int .i64 0), .o 998, .v (.int .i64 0), .v (.int .i64 0), .v (.int .i64 0), .v (.int .i64 0), .v (.int .i64 0), .v (.int .i64 0), .o 999], .c (.v (.bool false))]) 999 140 4 rfl (by omega) (by simp [adPV, adVs, adV1, adCs, adC, layT]) ?_
      exact fin_of (fun i => i) (fun i => if i = d then 998 else 999) ⟨by simp [e1, ho, hde, hed, noT] <;> omega, by simp [e1, ho, hde, hed, noT] <;> omega, by simp [e1, ho, hde, hed, noT] <;> omega, by simp [e1, ho, hde, hed, noT] <;> omega, by simp [e1, ho, hde, hed, noT] <;> omega⟩ (by simp [e1, ho, hde, hed, noT] <;> omega) (by first | rfl | (simp [renPV, renV1, renC, e1, ho, hde, hed, noT]))
  · have ho : openOk x n m = false := by simp [openOk, h]
    have e1 : openT x n m = noT := by simp [openT, ho]
    (repeat' (first | simp -implicitDefEqProofs only [h, go_sem] | (refine And.intro ?_ ?_; omega) | (refine And.intro (shr_bd ?_ ?_) ?_; omega; omega) | refine sl_list rfl ?_ | refine sd_list rfl ?_ | refine sl_str ?_ | refine sd_str ?_))
    refine fin_adopt (pv' := .t [.a [.v (.int .i64 0), .v (.int .i64 0), .v (.int .i64 0), .v (.int .i64 0), .v (.int .i64 0), .o 998, .v (.int .i64 0), .v (.int .i64 0), .v (.int .i64 0), .v (.int .i64 0), .v (.int .i64 0), .v (.int .i64 0), .v (.slice none 0 0)], .c (.v (.bool false))]) 998 86 3 rfl (by omega) (by simp [adPV, adVs, adV1, adCs, adC, layT]) ?_
    refine fin_adopt (pv' := .t [.a [.v (.int .i64 0), .v (.int .i64 0), .v (.int .i64 0), .v (.int .i64 0), .v (.int .i64 0), .o 998, .v (.int .i64 0), .v (.int .i64 0), .v (.int .i64 0), .v (.int .i64 0), .v (.int .i64 0), .v (.int .i64 0), .o 999], .c (.v (.bool false))]) 999 140 4 rfl (by omega) (by simp [adPV, adVs, adV1, adCs, adC, layT]) ?_
    exact fin_of (fun i => i) (fun i => if i = d then 998 else 999) ⟨by simp [e1, ho, hde, hed, noT] <;> omega, by simp [e1, ho, hde, hed, noT] <;> omega, by simp [e1, ho, hde, hed, noT] <;> omega, by simp [e1, ho, hde, hed, noT] <;> omega, by simp [e1, ho, hde, hed, noT] <;> omega⟩ (by simp [e1, ho, hde, hed, noT] <;> omega) (by first | rfl | (simp [renPV, renV1, renC, e1, ho, hde, hed, noT]))
end Go.Proofs.YtahnbliabllflaaGreatDoor
namespace Go.Proofs.YtahnbliabllflaaGreatDoor
open Go.PL
set_option linter.unusedSimpArgs false
end Go.Proofs.YtahnbliabllflaaGreatDoor
namespace Go.Proofs.YtahnbliabllflaaGreatDoor
open Go.PL
set_option linter.unusedSimpArgs false
abbrev smB : Brd := ⟨3, 3, 511⟩
abbrev smX : Pz := ⟨smB, 35, 256⟩
theorem Rect3_c : PC Tryz.prog 101 [] [.c (.v (.int .i64 3)), .c (.v (.int .i64 3))] (.s (.a (brdC smB))) ⟨[], []⟩ := by
  refine pc_of Tryz.func101 rfl (by kernel_rfl) _ Tryz.ntmps101 (by simp) ?_
  have e : within 3 1 7 = true := by decide
  repeat' first
    | (first | simp -implicitDefEqProofs only [e, go_sem] | (refine And.intro ?_ ?_; omega) | (refine And.intro (shr_bd ?_ ?_) ?_; omega; omega) | refine sl_list rfl ?_ | refine sd_list rfl ?_ | refine sl_str ?_ | refine sd_str ?_)
    | refine callS (l01In_c _ _ _) rfl rfl rfl ?_
  exact fin_scal rfl rfl
theorem iRect3_c : PC Tryz.prog 53 [] [.c (.v (.int .i64 3)), .c (.v (.int .i64 3))] (.s (.a (brdC smB))) ⟨[], []⟩ := by
  refine pc_of Tryz.func53 rfl (by kernel_rfl) _ Tryz.ntmps53 (by simp) ?_
  have e : within 3 1 7 = true := by decide
  repeat' first
    | (first | simp -implicitDefEqProofs only [e, go_sem] | (refine And.intro ?_ ?_; omega) | (refine And.intro (shr_bd ?_ ?_) ?_; omega; omega) | refine sl_list rfl ?_ | refine sd_list rfl ?_ | refine sl_str ?_ | refine sd_str ?_)
    | refine callS (within_c _ _ _) rfl rfl rfl ?_
  exact fin_scal rfl rfl
theorem SampleTable_c (d e : Nat) (hde : d ≠ e) : PC Tryz.prog 46 [] [] (.s (.a (tbC (openT smX 7 300) (.o d) (.o e)))) ⟨[], [(d, ⟨86, 3, [], false, true⟩), (e, ⟨140, 4, [], false, true⟩)]⟩ := by
  have hed : e ≠ d := fun h => hde h.symm
  have hx : pzIn smX := ⟨by simp, by simp⟩
  refine pc_of Tryz.func46 rfl (by kernel_rfl) _ Tryz.ntmps46 (by simp) ?_
  repeat' first
    | (first | simp -implicitDefEqProofs only [go_sem] | (refine And.intro ?_ ?_; omega) | (refine And.intro (shr_bd ?_ ?_) ?_; omega; omega) | refine sl_list rfl ?_ | refine sd_list rfl ?_ | refine sl_str ?_ | refine sd_str ?_)
    | refine callS Rect3_c rfl rfl rfl ?_
    | refine callL (OpenTable_c 6 1006 (by omega) smX 7 300 hx) rfl rfl rfl ?_
  exact fin_of (fun i => i) (fun i => if i = d then 6 else 1006) ⟨by simp [hde, hed] <;> omega, by simp [hde, hed] <;> omega, by simp [hde, hed] <;> omega, by simp [hde, hed] <;> omega, by simp [hde, hed] <;> omega⟩ (by simp [hde, hed] <;> omega) (by first | rfl | (simp [renPV, renV1, renC, hde, hed]))
theorem iSampleTable_c (d e : Nat) (hde : d ≠ e) : PC Tryz.prog 18 [] [] (.s (.a (tbC (openT smX 7 300) (.o d) (.o e)))) ⟨[], [(d, ⟨86, 3, [], false, true⟩), (e, ⟨140, 4, [], false, true⟩)]⟩ := by
  have hed : e ≠ d := fun h => hde h.symm
  have hx : pzIn smX := ⟨by simp, by simp⟩
  refine pc_of Tryz.func18 rfl (by kernel_rfl) _ Tryz.ntmps18 (by simp) ?_
  repeat' first
    | (first | simp -implicitDefEqProofs only [go_sem] | (refine And.intro ?_ ?_; omega) | (refine And.intro (shr_bd ?_ ?_) ?_; omega; omega) | refine sl_list rfl ?_ | refine sd_list rfl ?_ | refine sl_str ?_ | refine sd_str ?_)
    | refine callS iRect3_c rfl rfl rfl ?_
    | refine callL (iOpenTable_c 6 1006 (by omega) smX 7 300 hx) rfl rfl rfl ?_
  exact fin_of (fun i => i) (fun i => if i = d then 6 else 1006) ⟨by simp [hde, hed] <;> omega, by simp [hde, hed] <;> omega, by simp [hde, hed] <;> omega, by simp [hde, hed] <;> omega, by simp [hde, hed] <;> omega⟩ (by simp [hde, hed] <;> omega) (by first | rfl | (simp [renPV, renV1, renC, hde, hed]))
end Go.Proofs.YtahnbliabllflaaGreatDoor
