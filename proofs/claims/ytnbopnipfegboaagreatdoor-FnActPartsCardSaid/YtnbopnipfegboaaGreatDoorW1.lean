/-
  What the functions compute that judge a table.
  What the functions of the laws compute that copy, measure and compare tables; the law on judging a table.
-/
import Derived.Test.YtnbopnipfegboaaGreatDoorU3
import Derived.Test.YtnbopnipfegboaaGreatDoorL2
namespace Go.Proofs.YtnbopnipfegboaaGreatDoor
open Go.PL
set_option linter.unusedSimpArgs false
structure Ck where
  a : Int
  b : Int
  c : Int
structure Tb where
  g : Gm
  c : Ck
  n : Int
  r : List Rec
abbrev ckC (c : Ck) : List C := [.v (.int .i64 c.a), .v (.int .i64 c.b), .v (.int .i64 c.c)]
/-- a table whose jumps and records are these values -/
abbrev tbC (t : Tb) (j r : C) : List C := gmC t.g j ++ [.v (.int .i64 t.c.a), .v (.int .i64 t.c.b), .v (.int .i64 t.c.c), .v (.int .i64 t.n), r]
abbrev tbL (t : Tb) : List C := tbC t (.l 3 (t.g.j.map lineV)) (.l 4 (t.r.map recV))
def clockOk (c : Ck) : Bool := within c.a 0 100000 && (within c.b 0 600 && within c.c 0 1000)
theorem ClockOk_c (c : Ck) : PC Tryz.prog 61 [] [.a (ckC c)] (vB (clockOk c)) ⟨[], []⟩ := by
  refine pc_of Tryz.func61 rfl (by kernel_rfl) _ Tryz.ntmps61 (by simp) ?_
  by_cases h1 : within c.a 0 100000 = true
  · by_cases h2 : within c.b 0 600 = true
    · repeat' first
        | (first | simp -implicitDefEqProofs only [h1, h2, go_sem] | (refine And.intro ?_ ?_; omega) | (refine And.intro (shr_bd ?_ ?_) ?_; omega; omega) | refine sl_list rfl ?_ | refine sd_list rfl ?_ | refine sl_str ?_ | refine sd_str ?_)
        | refine callS (l01In_c _ _ _) rfl rfl rfl ?_
      exact fin_scal rfl (by simp [clockOk, h1, h2])
    · repeat' first
        | (first | simp -implicitDefEqProofs only [h1, h2, go_sem] | (refine And.intro ?_ ?_; omega) | (refine And.intro (shr_bd ?_ ?_) ?_; omega; omega) | refine sl_list rfl ?_ | refine sd_list rfl ?_ | refine sl_str ?_ | refine sd_str ?_)
        | refine callS (l01In_c _ _ _) rfl rfl rfl ?_
      exact fin_scal rfl (by simp [clockOk, h2])
  · repeat' first
      | (first | simp -implicitDefEqProofs only [h1, go_sem] | (refine And.intro ?_ ?_; omega) | (refine And.intro (shr_bd ?_ ?_) ?_; omega; omega) | refine sl_list rfl ?_ | refine sd_list rfl ?_ | refine sl_str ?_ | refine sd_str ?_)
      | refine callS (l01In_c _ _ _) rfl rfl rfl ?_
    exact fin_scal rfl (by simp [clockOk, h1])
theorem iClockOk_c (c : Ck) : PC Tryz.prog 73 [] [.a (ckC c)] (vB (clockOk c)) ⟨[], []⟩ := by
  refine pc_of Tryz.func73 rfl (by kernel_rfl) _ Tryz.ntmps73 (by simp) ?_
  by_cases h1 : within c.a 0 100000 = true
  · by_cases h2 : within c.b 0 600 = true
    · repeat' first
        | (first | simp -implicitDefEqProofs only [h1, h2, go_sem] | (refine And.intro ?_ ?_; omega) | (refine And.intro (shr_bd ?_ ?_) ?_; omega; omega) | refine sl_list rfl ?_ | refine sd_list rfl ?_ | refine sl_str ?_ | refine sd_str ?_)
        | refine callS (within_c _ _ _) rfl rfl rfl ?_
      exact fin_scal rfl (by simp [clockOk, h1, h2])
    · repeat' first
        | (first | simp -implicitDefEqProofs only [h1, h2, go_sem] | (refine And.intro ?_ ?_; omega) | (refine And.intro (shr_bd ?_ ?_) ?_; omega; omega) | refine sl_list rfl ?_ | refine sd_list rfl ?_ | refine sl_str ?_ | refine sd_str ?_)
        | refine callS (within_c _ _ _) rfl rfl rfl ?_
      exact fin_scal rfl (by simp [clockOk, h2])
  · repeat' first
      | (first | simp -implicitDefEqProofs only [h1, go_sem] | (refine And.intro ?_ ?_; omega) | (refine And.intro (shr_bd ?_ ?_) ?_; omega; omega) | refine sl_list rfl ?_ | refine sd_list rfl ?_ | refine sl_str ?_ | refine sd_str ?_)
      | refine callS (within_c _ _ _) rfl rfl rfl ?_
    exact fin_scal rfl (by simp [clockOk, h1])
structure TbIn (t : Tb) : Prop where
  g : GmIn t.g
  r : t.r.length ≤ 1048576
def tableOk (t : Tb) : Bool := gameOk t.g && (clockOk t.c && (recordsOk t.r && within t.n 1 999))
set_option maxHeartbeats 2000000 in
theorem TableOk_c (t : Tb) (ht : TbIn t) : PC Tryz.prog 28 [] [.a (tbL t)] (vB (tableOk t)) ⟨[], []⟩ := by
  refine pc_of Tryz.func28 rfl (by kernel_rfl) _ Tryz.ntmps28 (by simp) ?_
  (repeat' (first | simp -implicitDefEqProofs only [go_sem] | (refine And.intro ?_ ?_; omega) | (refine And.intro (shr_bd ?_ ?_) ?_; omega; omega) | refine sl_list rfl ?_ | refine sd_list rfl ?_ | refine sl_str ?_ | refine sd_str ?_))
  refine callS (GameOk_c t.g ht.g) rfl rfl rfl ?_
  by_cases h1 : gameOk t.g = true
  · (repeat' (first | simp -implicitDefEqProofs only [h1, go_sem] | (refine And.intro ?_ ?_; omega) | (refine And.intro (shr_bd ?_ ?_) ?_; omega; omega) | refine sl_list rfl ?_ | refine sd_list rfl ?_ | refine sl_str ?_ | refine sd_str ?_))
    refine callS (ClockOk_c t.c) rfl rfl rfl ?_
    by_cases h2 : clockOk t.c = true
    · (repeat' (first | simp -implicitDefEqProofs only [h2, go_sem] | (refine And.intro ?_ ?_; omega) | (refine And.intro (shr_bd ?_ ?_) ?_; omega; omega) | refine sl_list rfl ?_ | refine sd_list rfl ?_ | refine sl_str ?_ | refine sd_str ?_))
      refine callS (RecordsOk_c t.r ht.r) rfl rfl rfl ?_
      by_cases h3 : recordsOk t.r = true
      · (repeat' (first | simp -implicitDefEqProofs only [h3, go_sem] | (refine And.intro ?_ ?_; omega) | (refine And.intro (shr_bd ?_ ?_) ?_; omega; omega) | refine sl_list rfl ?_ | refine sd_list rfl ?_ | refine sl_str ?_ | refine sd_str ?_))
        refine callS (l01In_c _ _ _) rfl rfl rfl ?_
        (repeat' (first | simp -implicitDefEqProofs only [go_sem] | (refine And.intro ?_ ?_; omega) | (refine And.intro (shr_bd ?_ ?_) ?_; omega; omega) | refine sl_list rfl ?_ | refine sd_list rfl ?_ | refine sl_str ?_ | refine sd_str ?_))
        exact fin_scal rfl (by simp [tableOk, h1, h2, h3])
      · (repeat' (first | simp -implicitDefEqProofs only [h3, go_sem] | (refine And.intro ?_ ?_; omega) | (refine And.intro (shr_bd ?_ ?_) ?_; omega; omega) | refine sl_list rfl ?_ | refine sd_list rfl ?_ | refine sl_str ?_ | refine sd_str ?_))
        exact fin_scal rfl (by simp [tableOk, h3])
    · (repeat' (first | simp -implicitDefEqProofs only [h2, go_sem] | (refine And.intro ?_ ?_; omega) | (refine And.intro (shr_bd ?_ ?_) ?_; omega; omega) | refine sl_list rfl ?_ | refine sd_list rfl ?_ | refine sl_str ?_ | refine sd_str ?_))
      exact fin_scal rfl (by simp [tableOk, h2])
  · (repeat' (first | simp -implicitDefEqProofs only [h1, go_sem] | (refine And.intro ?_ ?_; omega) | (refine And.intro (shr_bd ?_ ?_) ?_; omega; omega) | refine sl_list rfl ?_ | refine sd_list rfl ?_ | refine sl_str ?_ | refine sd_str ?_))
    exact fin_scal rfl (by simp [tableOk, h1])
set_option maxHeartbeats 2000000 in
theorem iTableOk_c (t : Tb) (ht : TbIn t) : PC Tryz.prog 37 [] [.a (tbL t)] (vB (tableOk t)) ⟨[], []⟩ := by
  refine pc_of Tryz.func37 rfl (by kernel_rfl) _ Tryz.ntmps37 (by simp) ?_
  (repeat' (first | simp -implicitDefEqProofs only [go_sem] | (refine And.intro ?_ ?_; omega) | (refine And.intro (shr_bd ?_ ?_) ?_; omega; omega) | refine sl_list rfl ?_ | refine sd_list rfl ?_ | refine sl_str ?_ | refine sd_str ?_))
  refine callS (iGameOk_c t.g ht.g) rfl rfl rfl ?_
  by_cases h1 : gameOk t.g = true
  · (repeat' (first | simp -implicitDefEqProofs only [h1, go_sem] | (refine And.intro ?_ ?_; omega) | (refine And.intro (shr_bd ?_ ?_) ?_; omega; omega) | refine sl_list rfl ?_ | refine sd_list rfl ?_ | refine sl_str ?_ | refine sd_str ?_))
    refine callS (iClockOk_c t.c) rfl rfl rfl ?_
    by_cases h2 : clockOk t.c = true
    · (repeat' (first | simp -implicitDefEqProofs only [h2, go_sem] | (refine And.intro ?_ ?_; omega) | (refine And.intro (shr_bd ?_ ?_) ?_; omega; omega) | refine sl_list rfl ?_ | refine sd_list rfl ?_ | refine sl_str ?_ | refine sd_str ?_))
      refine callS (iRecordsOk_c t.r ht.r) rfl rfl rfl ?_
      by_cases h3 : recordsOk t.r = true
      · (repeat' (first | simp -implicitDefEqProofs only [h3, go_sem] | (refine And.intro ?_ ?_; omega) | (refine And.intro (shr_bd ?_ ?_) ?_; omega; omega) | refine sl_list rfl ?_ | refine sd_list rfl ?_ | refine sl_str ?_ | refine sd_str ?_))
        refine callS (within_c _ _ _) rfl rfl rfl ?_
        (repeat' (first | simp -implicitDefEqProofs only [go_sem] | (refine And.intro ?_ ?_; omega) | (refine And.intro (shr_bd ?_ ?_) ?_; omega; omega) | refine sl_list rfl ?_ | refine sd_list rfl ?_ | refine sl_str ?_ | refine sd_str ?_))
        exact fin_scal rfl (by simp [tableOk, h1, h2, h3])
      · (repeat' (first | simp -implicitDefEqProofs only [h3, go_sem] | (refine And.intro ?_ ?_; omega) | (refine And.intro (shr_bd ?_ ?_) ?_; omega; omega) | refine sl_list rfl ?_ | refine sd_list rfl ?_ | refine sl_str ?_ | refine sd_str ?_))
        exact fin_scal rfl (by simp [tableOk, h3])
    · (repeat' (first | simp -implicitDefEqProofs only [h2, go_sem] | (refine And.intro ?_ ?_; omega) | (refine And.intro (shr_bd ?_ ?_) ?_; omega; omega) | refine sl_list rfl ?_ | refine sd_list rfl ?_ | refine sl_str ?_ | refine sd_str ?_))
      exact fin_scal rfl (by simp [tableOk, h2])
  · (repeat' (first | simp -implicitDefEqProofs only [h1, go_sem] | (refine And.intro ?_ ?_; omega) | (refine And.intro (shr_bd ?_ ?_) ?_; omega; omega) | refine sl_list rfl ?_ | refine sd_list rfl ?_ | refine sl_str ?_ | refine sd_str ?_))
    exact fin_scal rfl (by simp [tableOk, h1])
end Go.Proofs.YtnbopnipfegboaaGreatDoor
namespace Go.Proofs.YtnbopnipfegboaaGreatDoor
open Go.PL
set_option linter.unusedSimpArgs false
/-- what a table leaves of the room -/
def szT (t : Tb) (left : Int) : Int := if (t.g.j.length : Int) ≤ left then (if (t.r.length : Int) ≤ left - t.g.j.length then left - t.g.j.length - t.r.length else -1) else -1
end Go.Proofs.YtnbopnipfegboaaGreatDoor
