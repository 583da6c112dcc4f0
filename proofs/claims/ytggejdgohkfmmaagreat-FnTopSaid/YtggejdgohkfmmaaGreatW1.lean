/-
  What the functions compute that judge a table.
  What the functions of the laws compute that copy, measure and compare tables; the law on judging a table.
-/
import Derived.Test.YtggejdgohkfmmaaGreatU3
import Derived.Test.YtggejdgohkfmmaaGreatL2
namespace Go.Proofs.YtggejdgohkfmmaaGreat
open Go.PL
set_option linter.unusedSimpArgs false
structure Ck where
  a : Int
  b : Int
  c : Int
structure Tb where
  g : Gm
  c : Ck
  n : Int
  r : List Rec
abbrev ckC (c : Ck) : List C := [.v (.int .i64 c.a), .v (.int .i64 c.b), .v (.int .i64 c.c)]
/-- a table whose jumps and records are these values -/
abbrev tbC (t : Tb) (j r : C) : List C := gmC t.g j ++ [.v (.int .i64 t.c.a), .v (.int .i64 t.c.b), .v (.int .i64 t.c.c), .v (.int .i64 t.n), r]
abbrev tbL (t : Tb) : List C := tbC t (.l 3 (t.g.j.map lineV)) (.l 4 (t.r.map recV))
def clockOk (c : Ck) : Bool := within c.a 0 100000 && (within c.b 0 600 && within c.c 0 1000)
theorem ClockOk_c (c : Ck) : PC Tryz.prog 71 [] [.a (ckC c)] (vB (clockOk c)) ⟨[], []⟩ := by
  refine pc_of Tryz.func71 rfl (by kernel_rfl) _ Tryz.ntmps71 (by simp) ?_
  by_cases h1 : within c.a 0 100000 = true
  · by_cases h2 : within c.b 0 600 = true
    · repeat' first
        | (first | simp -implicitDefEqProofs only [h1, h2, go_sem] | (refine And.intro ?_ ?_; omega) | (refine And.intro (shr_bd ?_ ?_) ?_; omega; omega) | refine sl_list rfl ?_ | refine sd_list rfl ?_ | refine sl_str ?_ | refine sd_str ?_)
        | refine callS (l01In_c _ _ _) rfl rfl rfl ?_
      exact fin_scal rfl (by simp [clockOk, h1, h2])
    · repeat' first
        | (first | simp -implicitDefEqProofs only [h1, h2, go_sem] | (refine And.intro ?_ ?_; omega) | (refine And.intro (shr_bd ?_ ?_) ?_; omega; omega) | refine sl_list rfl ?_ | refine sd_list rfl ?_ | refine sl_str ?_ | refine sd_str ?_)
        | refine callS (l01In_c _ _ _) rfl rfl rfl ?_
      exact fin_scal rfl (by simp [clockOk, h2])
  · repeat' first
      | (first | simp -implicitDefEqProofs only [h1, go_sem] | (refine And.intro ?_ ?_; omega) | (refine And.intro (shr_bd ?_ ?_) ?_; omega; omega) | refine sl_list rfl ?_ | refine sd_list rfl ?_ | refine sl_str ?_ | refine sd_str ?_)
      | refine callS (l01In_c _ _ _) rfl rfl rfl ?_
    exact fin_scal rfl (by simp [clockOk, h1])
theorem iClockOk_c (c : Ck) : PC Tryz.prog 39 [] [.a (ckC c)] (vB (clockOk c)) ⟨[], []⟩ := by
  refine pc_of Tryz.func39 rfl (by kernel_rfl) _ Tryz.ntmps39 (by simp) ?_
  by_cases h1 : within c.a 0 100000 = true
  · by_cases h2 : within c.b 0 600 = true
    · repeat' first
        | (first | simp -implicitDefEqProofs only [h1, h2, go_sem] | (refine And.intro ?_ ?_; omega) | (refine And.intro (shr_bd ?_ ?_) ?_; omega; omega) | refine sl_list rfl ?_ | refine sd_list rfl ?_ | refine sl_str ?_ | refine sd_str ?_)
        | refine callS (within_c _ _ _) rfl rfl rfl ?_
      exact fin_scal rfl (by simp [clockOk, h1, h2])
    · repeat' first
        | (first | simp -implicitDefEqProofs only [h1, h2, go_sem] | (refine And.intro ?_ ?_; omega) | (refine And.intro (shr_bd ?_ ?_) ?_; omega; omega) | refine sl_list rfl ?_ | refine sd_list rfl ?_ | refine sl_str ?_ | refine sd_str ?_)
        | refine callS (within_c _ _ _) rfl rfl rfl ?_
      exact fin_scal rfl (by simp [clockOk, h2])
  · repeat' first
      | (first | simp -implicitDefEqProofs only [h1, go_sem] | (refine And.intro ?_ ?_; omega) | (refine And.intro (shr_bd ?_ ?_) ?_; omega; omega) | refine sl_list rfl ?_ | refine sd_list rfl ?_ | refine sl_str ?_ | refine sd_str ?_)
      | refine callS (within_c _ _ _) rfl rfl rfl ?_
    exact fin_scal rfl (by simp [clockOk, h1])
structure TbIn (t : Tb) : Prop where
  g : GmIn t.g
  r : t.r.length ≤ 1048576
def tableOk (t : Tb) : Bool := gameOk t.g && (clockOk t.c && (recordsOk t.r && within t.n 1 999))
set_option maxHeartbeats 2000000 in
theorem TableOk_c (t : Tb) (ht : TbIn t) : PC Tryz.prog 29 [] [.a (tbL t)] (vB (tableOk t)) ⟨[], []⟩ := by
  refine pc_of Tryz.func29 rfl (by kernel_rfl) _ Tryz.ntmps29 (by simp) ?_
  (repeat' (first | simp -implicitDefEqProofs only [go_sem] | (refine And.intro ?_ ?_; omega) | (refine And.intro (shr_bd ?_ ?_) ?_; omega; omega) | refine sl_list rfl ?_ | refine sd_list rfl ?_ | refine sl_str ?_ | refine sd_str ?_))
  refine callS (GameOk_c t.g ht.g) rfl rfl rfl ?_
  by_cases h1 : gameOk t.g = true
  · (repeat' (first | simp -implicitDefEqProofs only [h1, go_sem] | (refine And.intro ?_ ?_; omega) | (refine And.intro (shr_bd ?_ ?_) ?_; omega; omega) | refine sl_list rfl ?_ | refine sd_list rfl ?_ | refine sl_str ?_ | refine sd_str ?_))
    refine callS (ClockOk_c t.c) rfl rfl rfl ?_
    by_cases h2 : clockOk t.c = true
    · (repeat' (first | simp -implicitDefEqProofs only [h2, go_sem] | (refine And.intro ?_ ?_; omega) | (refine And.intro (shr_bd ?_ ?_) ?_; omega; omega) | refine sl_list rfl ?_ | refine sd_list rfl ?_ | refine sl_str ?_ | refine sd_str ?_))
      refine callS (RecordsOk_c t.r ht.r) rfl rfl rfl ?_
      by_cases h3 : recordsOk t.r = true
      · (repeat' (first | simp -implicitDefEqProofs only [h3, go_sem] | (refine And.intro ?_ ?_; omega) | (refine And.intro (shr_bd ?_ ?_) ?_; omega; omega) | refine sl_list rfl ?_ | refine sd_list rfl ?_ | refine sl_str ?_ | refine sd_str ?_))
        refine callS (l01In_c _ _ _) rfl rfl rfl ?_
        (repeat' (first | simp -implicitDefEqProofs only [go_sem] | (refine And.intro ?_ ?_; omega) | (refine And.intro (shr_bd ?_ ?_) ?_; omega; omega) | refine sl_list rfl ?_ | refine sd_list rfl ?_ | refine sl_str ?_ | refine sd_str ?_))
        exact fin_scal rfl (by simp [tableOk, h1, h2, h3])
      · (repeat' (first | simp -implicitDefEqProofs only [h3, go_sem] | (refine And.intro ?_ ?_; omega) | (refine And.intro (shr_bd ?_ ?_) ?_; omega; omega) | refine sl_list rfl ?_ | refine sd_list rfl ?_ | refine sl_str ?_ | refine sd_str ?_))
        exact fin_scal rfl (by simp [tableOk, h3])
    · (repeat' (first | simp -implicitDefEqProofs only [h2, go_sem] | (refine And.intro ?_ ?_; omega) | (refine And.intro (shr_bd ?_ ?_) ?_; omega; omega) | refine sl_list rfl ?_ | refine sd_list rfl ?_ | refine sl_str ?_ | refine sd_str ?_))
      exact fin_scal rfl (by simp [tableOk, h2])
  · (repeat' (first | simp -implicitDefEqProofs only [h1, go_sem] | (refine And.intro ?_ ?_; omega) | (refine And.intro (shr_bd ?_ ?_) ?_; omega; omega) | refine sl_list rfl ?_ | refine sd_list rfl ?_ | refine sl_str ?_ | refine sd_str ?_))
    exact fin_scal rfl (by simp [tableOk, h1])
set_option maxHeartbeats 2000000 in
theorem iTableOk_c (t : Tb) (ht : TbIn t) : PC Tryz.prog 8 [] [.a (tbL t)] (vB (tableOk t)) ⟨[], []⟩ := by
  refine pc_of Tryz.func8 rfl (by kernel_rfl) _ Tryz.ntmps8 (by simp) ?_
  (repeat' (first | simp -implicitDefEqProofs only [go_sem] | (refine And.intro ?_ ?_; omega) | (refine And.intro (shr_bd ?_ ?_) ?_; omega; omega) | refine sl_list rfl ?_ | refine sd_list rfl ?_ | refine sl_str ?_ | refine sd_str ?_))
  refine callS (iGameOk_c t.g ht.g) rfl rfl rfl ?_
  by_cases h1 : gameOk t.g = true
  · (repeat' (first | simp -implicitDefEqProofs only [h1, go_sem] | (refine And.intro ?_ ?_; omega) | (refine And.intro (shr_bd ?_ ?_) ?_; omega; omega) | refine sl_list rfl ?_ | refine sd_list rfl ?_ | refine sl_str ?_ | refine sd_str ?_))
    refine callS (iClockOk_c t.c) rfl rfl rfl ?_
    by_cases h2 : clockOk t.c = true
    · (repeat' (first | simp -implicitDefEqProofs only [h2, go_sem] | (refine And.intro ?_ ?_; omega) | (refine And.intro (shr_bd ?_ ?_) ?_; omega; omega) | refine sl_list rfl ?_ | refine sd_list rfl ?_ | refine sl_str ?_ | refine sd_str ?_))
      refine callS (iRecordsOk_c t.r ht.r) rfl rfl rfl ?_
      by_cases h3 : recordsOk t.r = true
      · (repeat' (first | simp -implicitDefEqProofs only [h3, go_sem] | (refine And.intro ?_ ?_; omega) | (refine And.intro (shr_bd ?_ ?_) ?_; omega; omega) | refine sl_list rfl ?_ | refine sd_list rfl ?_ | refine sl_str ?_ | refine sd_str ?_))
        refine callS (within_c _ _ _) rfl rfl rfl ?_
        (repeat' (first | simp -implicitDefEqProofs only [go_sem] | (refine And.intro ?_ ?_; omega) | (refine And.intro (shr_bd ?_ ?_) ?_; omega; omega) | refine sl_list rfl ?_ | refine sd_list rfl ?_ | refine sl_str ?_ | refine sd_str ?_))
        exact fin_scal rfl (by simp [tableOk, h1, h2, h3])
      · (repeat' (first | simp -implicitDefEqProofs only [h3, go_sem] | (refine And.intro ?_ ?_; omega) | (refine And.intro (shr_bd ?_ ?_) ?_; omega; omega) | refine sl_list rfl ?_ | refine sd_list rfl ?_ | refine sl_str ?_ | refine sd_str ?_))
        exact fin_scal rfl (by simp [tableOk, h3])
    · (repeat' (first | simp -implicitDefEqProofs only [h2, go_sem] | (refine And.intro ?_ ?_; omega) | (refine And.intro (shr_bd ?_ ?_) ?_; omega; omega) | refine sl_list rfl ?_ | refine sd_list rfl ?_ | refine sl_str ?_ | refine sd_str ?_))
      exact fin_scal rfl (by simp [tableOk, h2])
  · (repeat' (first | simp -implicitDefEqProofs only [h1, go_sem] | (refine And.intro ?_ ?_; omega) | (refine And.intro (shr_bd ?_ ?_) ?_; omega; omega) | refine sl_list rfl ?_ | refine sd_list rfl ?_ | refine sl_str ?_ | refine sd_str ?_))
    exact fin_scal rfl (by simp [tableOk, h1])
end Go.Proofs.YtggejdgohkfmmaaGreat
namespace Go.Proofs.YtggejdgohkfmmaaGreat
open Go.PL
set_option linter.unusedSimpArgs false
/-- what a table leaves of the room -/
def szT (t : Tb) (left : Int) : Int := if (t.g.j.length : Int) ≤ left then (if (t.r.length : Int) ≤ left - t.g.j.length then left - t.g.j.length - t.r.length else -1) else -1
theorem tb_of {cs : List C} (h : All2 TC [.z (.i .i64), .z (.i .i64), .z (.i .i64), .z (.i .i64), .z (.i .i64), .l 3 true [.i .i64, .i .i64, .i .i64], .z (.i .i64), .z (.i .i64), .z (.i .i64), .z (.i .i64), .z (.i .i64), .z (.i .i64), .l 4 true recK] cs) :
    ∃ t : Tb, cs = tbL t ∧ pzIn t.g.x ∧ t.g.j.length ≤ maxLen ∧ t.r.length ≤ maxLen := by
  obtain ⟨c1, r1, rfl, h1, g1⟩ := all2_cons h
  obtain ⟨c2, r2, rfl, h2, g2⟩ := all2_cons g1
  obtain ⟨c3, r3, rfl, h3, g3⟩ := all2_cons g2
  obtain ⟨c4, r4, rfl, h4, g4⟩ := all2_cons g3
  obtain ⟨c5, r5, rfl, h5, g5⟩ := all2_cons g4
  obtain ⟨c6, r6, rfl, h6, g6⟩ := all2_cons g5
  obtain ⟨c7, r7, rfl, h7, g7⟩ := all2_cons g6
  obtain ⟨c8, r8, rfl, h8, g8⟩ := all2_cons g7
  obtain ⟨c9, r9, rfl, h9, g9⟩ := all2_cons g8
  obtain ⟨ca, ra, rfl, ha, ga⟩ := all2_cons g9
  obtain ⟨cb, rb, rfl, hb, gb⟩ := all2_cons ga
  obtain ⟨cc, rc, rfl, hc, gc⟩ := all2_cons gb
  obtain ⟨cd, rd, rfl, hd, gd⟩ := all2_cons gc
  obtain rfl := all2_nil gd
  obtain ⟨g, eg, hx, hj⟩ := gm_of (cs := [c1, c2, c3, c4, c5, c6, c7, c8]) ⟨h1, h2, h3, h4, h5, h6, h7, h8, trivial⟩
  simp only [gmL, gmC, List.cons.injEq, and_true] at eg
  obtain ⟨rfl, rfl, rfl, rfl, rfl, rfl, rfl, rfl⟩ := eg
  obtain ⟨a, rfl, _⟩ := tc_i h9
  obtain ⟨b, rfl, _⟩ := tc_i ha
  obtain ⟨c, rfl, _⟩ := tc_i hb
  obtain ⟨n, rfl, _⟩ := tc_i hc
  obtain ⟨rs, rfl, hl, _⟩ := recs_of hd
  exact ⟨⟨g, ⟨a, b, c⟩, n, rs⟩, rfl, hx, hj, hl⟩
end Go.Proofs.YtggejdgohkfmmaaGreat
