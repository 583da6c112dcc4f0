/-
  What the functions compute that judge a table.
  What the functions of the laws compute that copy, measure and compare tables; the law on judging a table.
-/
import Derived.Test.YtmgfndejfeconaaGreatDoorU3
import Derived.Test.YtmgfndejfeconaaGreatDoorL2
namespace Go.Proofs.YtmgfndejfeconaaGreatDoor
open Go.PL
set_option linter.unusedSimpArgs false
structure Ck where
  a : Int
  b : Int
  c : Int
structure Tb where
  g : Gm
  c : Ck
  n : Int
  r : List Rec
abbrev ckC (c : Ck) : List C := [.v (.int .i64 c.a), .v (.int .i64 c.b), .v (.int .i64 c.c)]
/-- a table whose jumps and records are these values -/
abbrev tbC (t : Tb) (j r : C) : List C := gmC t.g j ++ [.v (.int .i64 t.c.a), .v (.int .i64 t.c.b), .v (.int .i64 t.c.c), .v (.int .i64 t.n), r]
abbrev tbL (t : Tb) : List C := tbC t (.l 3 (t.g.j.map lineV)) (.l 4 (t.r.map recV))
def clockOk (c : Ck) : Bool := within c.a 0 100000 && (within c.b 0 600 && within c.c 0 1000)
theorem ClockOk_c (c : Ck) : PC Tryz.prog 38 [] [.a (ckC c)] (vB (clockOk c)) ⟨[], []⟩ := by
  refine pc_of Tryz.func38 rfl (by kernel_rfl) _ Tryz.ntmps38 (by simp) ?_
  by_cases h1 : within c.a 0 100000 = true
  · by_cases h2 : within c.b 0 600 = true
    · repeat' first
        | (first | simp -implicitDefEqProofs only [h1, h2, go_sem] | (refine And.intro ?_ ?_; omega) | (refine And.intro (shr_bd ?_ ?_) ?_; omega; omega) | refine sl_list rfl ?_ | refine sd_list rfl ?_ | refine sl_str ?_ | refine sd_str ?_)
        | refine callS (l01In_c _ _ _) rfl rfl rfl ?_
      exact fin_scal rfl (by simp [clockOk, h1, h2])
    · repeat' first
        | (first | simp -implicitDefEqProofs only [h1, h2, go_sem] | (refine And.intro ?_ ?_; omega) | (refine And.intro (shr_bd ?_ ?_) ?_; omega; omega) | refine sl_list rfl ?_ | refine sd_list rfl ?_ | refine sl_str ?_ | refine sd_str ?_)
        | refine callS (l01In_c _ _ _) rfl rfl rfl ?_
      exact fin_scal rfl (by simp [clockOk, h2])
  · repeat' first
      | (first | simp -implicitDefEqProofs only [h1, go_sem] | (refine And.intro ?_ ?_; omega) | (refine And.intro (shr_bd ?_ ?_) ?_; omega; omega) | refine sl_list rfl ?_ | refine sd_list rfl ?_ | refine sl_str ?_ | refine sd_str ?_)
      | refine callS (l01In_c _ _ _) rfl rfl rfl ?_
    exact fin_scal rfl (by simp [clockOk, h1])
theorem iClockOk_c (c : Ck) : PC Tryz.prog 51 [] [.a (ckC c)] (vB (clockOk c)) ⟨[], []⟩ := by
  refine pc_of Tryz.func51 rfl (by kernel_rfl) _ Tryz.ntmps51 (by simp) ?_
  by_cases h1 : within c.a 0 100000 = true
  · by_cases h2 : within c.b 0 600 = true
    · repeat' first
        | (first | simp -implicitDefEqProofs only [h1, h2, go_sem] | (refine And.intro ?_ ?_; omega) | (refine And.intro (shr_bd ?_ ?_) ?_; omega; omega) | refine sl_list rfl ?_ | refine sd_list rfl ?_ | refine sl_str ?_ | refine sd_str ?_)
        | refine callS (within_c _ _ _) rfl rfl rfl ?_
      exact fin_scal rfl (by simp [clockOk, h1, h2])
    · repeat' first
        | (first | simp -implicitDefEqProofs only [h1, h2, go_sem] | (refine And.intro ?_ ?_; omega) | (refine And.intro (shr_bd ?_ ?_) ?_; omega; omega) | refine sl_list rfl ?_ | refine sd_list rfl ?_ | refine sl_str ?_ | refine sd_str ?_)
        | refine callS (within_c _ _ _) rfl rfl rfl ?_
      exact fin_scal rfl (by simp [clockOk, h2])
  · repeat' first
      | (first | simp -implicitDefEqProofs only [h1, go_sem] | (refine And.intro ?_ ?_; omega) | (refine And.intro (shr_bd ?_ ?_) ?_; omega; omega) | refine sl_list rfl ?_ | refine sd_list rfl ?_ | refine sl_str ?_ | refine sd_str ?_)
      | refine callS (within_c _ _ _) rfl rfl rfl ?_
    exact fin_scal rfl (by simp [clockOk, h1])
structure TbIn (t : Tb) : Prop where
  g : GmIn t.g
  r : t.r.length ≤ 1048576
def tableOk (t : Tb) : Bool := gameOk t.g && (clockOk t.c && (recordsOk t.r && within t.n 1 999))
set_option maxHeartbeats 2000000 in
theorem TableOk_c (t : Tb) (ht : TbIn t) : PC Tryz.prog 15 [] [.a (tbL t)] (vB (tableOk t)) ⟨[], []⟩ := by
  refine pc_of Tryz.func15 rfl (by kernel_rfl) _ Tryz.ntmps15 (by simp) ?_
  (repeat' (first | simp -implicitDefEqProofs only [go_sem] | (refine And.intro ?_ ?_; omega) | (refine And.intro (shr_bd ?_ ?_) ?_; omega; omega) | refine sl_list rfl ?_ | refine sd_list rfl ?_ | refine sl_str ?_ | refine sd_str ?_))
  refine callS (GameOk_c t.g ht.g) rfl rfl rfl ?_
  by_cases h1 : gameOk t.g = true
  · (repeat' (first | simp -implicitDefEqProofs only [h1, go_sem] | (refine And.intro ?_ ?_; omega) | (refine And.intro (shr_bd ?_ ?_) ?_; omega; omega) | refine sl_list rfl ?_ | refine sd_list rfl ?_ | refine sl_str ?_ | refine sd_str ?_))
    refine callS (ClockOk_c t.c) rfl rfl rfl ?_
    by_cases h2 : clockOk t.c = true
    · (repeat' (first | simp -implicitDefEqProofs only [h2, go_sem] | (refine And.intro ?_ ?_; omega) | (refine And.intro (shr_bd ?_ ?_) ?_; omega; omega) | refine sl_list rfl ?_ | refine sd_list rfl ?_ | refine sl_str ?_ | refine sd_str ?_))
      refine callS (RecordsOk_c t.r ht.r) rfl rfl rfl ?_
      by_cases h3 : recordsOk t.r = true
      · (repeat' (first | simp -implicitDefEqProofs only [h3, go_sem] | (refine And.intro ?_ ?_; omega) | (refine And.intro (shr_bd ?_ ?_) ?_; omega; omega) | refine sl_list rfl ?_ | refine sd_list rfl ?_ | refine sl_str ?_ | refine sd_str ?_))
        refine callS (l01In_c _ _ _) rfl rfl rfl ?_
        (repeat' (first | simp -implicitDefEqProofs only [go_sem] | (refine And.intro ?_ ?_; omega) | (refine And.intro (shr_bd ?_ ?_) ?_; omega; omega) | refine sl_list rfl ?_ | refine sd_list rfl ?_ | refine sl_str ?_ | refine sd_str ?_))
        exact fin_scal rfl (by simp [tableOk, h1, h2, h3])
      · (repeat' (first | simp -implicitDefEqProofs only [h3, go_sem] | (refine And.intro ?_ ?_; omega) | (refine And.intro (shr_bd ?_ ?_) ?_; omega; omega) | refine sl_list rfl ?_ | refine sd_list rfl ?_ | refine sl_str ?_ | refine sd_str ?_))
        exact fin_scal rfl (by simp [tableOk, h3])
    · (repeat' (first | simp -implicitDefEqProofs only [h2, go_sem] | (refine And.intro ?_ ?_; omega) | (refine And.intro (shr_bd ?_ ?_) ?_; omega; omega) | refine sl_list rfl ?_ | refine sd_list rfl ?_ | refine sl_str ?_ | refine sd_str ?_))
      exact fin_scal rfl (by simp [tableOk, h2])
  · (repeat' (first | simp -implicitDefEqProofs only [h1, go_sem] | (refine And.intro ?_ ?_; omega) | (refine And.intro (shr_bd ?_ ?_) ?_; omega; omega) | refine sl_list rfl ?_ | refine sd_list rfl ?_ | refine sl_str ?_ | refine sd_str ?_))
    exact fin_scal rfl (by simp [tableOk, h1])
set_option maxHeartbeats 2000000 in
theorem iTableOk_c (t : Tb) (ht : TbIn t) : PC Tryz.prog 24 [] [.a (tbL t)] (vB (tableOk t)) ⟨[], []⟩ := by
  refine pc_of Tryz.func24 rfl (by kernel_rfl) _ Tryz.ntmps24 (by simp) ?_
  (repeat' (first | simp -implicitDefEqProofs only [go_sem] | (refine And.intro ?_ ?_; omega) | (refine And.intro (shr_bd ?_ ?_) ?_; omega; omega) | refine sl_list rfl ?_ | refine sd_list rfl ?_ | refine sl_str ?_ | refine sd_str ?_))
  refine callS (iGameOk_c t.g ht.g) rfl rfl rfl ?_
  by_cases h1 : gameOk t.g = true
  · (repeat' (first | simp -implicitDefEqProofs only [h1, go_sem] | (refine And.intro ?_ ?_; omega) | (refine And.intro (shr_bd ?_ ?_) ?_; omega; omega) | refine sl_list rfl ?_ | refine sd_list rfl ?_ | refine sl_str ?_ | refine sd_str ?_))
    refine callS (iClockOk_c t.c) rfl rfl rfl ?_
    by_cases h2 : clockOk t.c = true
    · (repeat' (first | simp -implicitDefEqProofs only [h2, go_sem] | (refine And.intro ?_ ?_; omega) | (refine And.intro (shr_bd ?_ ?_) ?_; omega; omega) | refine sl_list rfl ?_ | refine sd_list rfl ?_ | refine sl_str ?_ | refine sd_str ?_))
      refine callS (iRecordsOk_c t.r ht.r) rfl rfl rfl ?_
      by_cases h3 : recordsOk t.r = true
      · (repeat' (first | simp -implicitDefEqProofs only [h3, go_sem] | (refine And.intro ?_ ?_; omega) | (refine And.intro (shr_bd ?_ ?_) ?_; omega; omega) | refine sl_list rfl ?_ | refine sd_list rfl ?_ | refine sl_str ?_ | refine sd_str ?_))
        refine callS (within_c _ _ _) rfl rfl rfl ?_
        (repeat' (first | simp -implicitDefEqProofs only [go_sem] | (refine And.intro ?_ ?_; omega) | (refine And.intro (shr_bd ?_ ?_) ?_; omega; omega) | refine sl_list rfl ?_ | refine sd_list rfl ?_ | refine sl_str ?_ | refine sd_str ?_))
        exact fin_scal rfl (by simp [tableOk, h1, h2, h3])
      · (repeat' (first | simp -implicitDefEqProofs only [h3, go_sem] | (refine And.intro ?_ ?_; omega) | (refine And.intro (shr_bd ?_ ?_) ?_; omega; omega) | refine sl_list rfl ?_ | refine sd_list rfl ?_ | refine sl_str ?_ | refine sd_str ?_))
        exact fin_scal rfl (by simp [tableOk, h3])
    · (repeat' (first | simp -implicitDefEqProofs only [h2, go_sem] | (refine And.intro ?_ ?_; omega) | (refine And.intro (shr_bd ?_ ?_) ?_; omega; omega) | refine sl_list rfl ?_ | refine sd_list rfl ?_ | refine sl_str ?_ | refine sd_str ?_))
      exact fin_scal rfl (by simp [tableOk, h2])
  · (repeat' (first | simp -implicitDefEqProofs only [h1, go_sem] | (refine And.intro ?_ ?_; omega) | (refine And.intro (shr_bd ?_ ?_) ?_; omega; omega) | refine sl_list rfl ?_ | refine sd_list rfl ?_ | refine sl_str ?_ | refine sd_str ?_))
    exact fin_scal rfl (by simp [tableOk, h1])
end Go.Proofs.YtmgfndejfeconaaGreatDoor
namespace Go.Proofs.YtmgfndejfeconaaGreatDoor
open Go.PL
set_option linter.unusedSimpArgs false
theorem szRecordS_w (xs : List Rec) (left : Int) (h0 : 0 ≤ left) (h1 : left ≤ 1048576) (hn : xs.length ≤ maxLen) : PC Tryz.prog 14 [] [.c (.l 4 (xs.map recV)), .c (.v (.int .i64 left))] (.s (.c (.v (.int .i64 (if (xs.length : Int) ≤ left then left - xs.length else -1))))) ⟨[], []⟩ := by
  refine pc_of Tryz.func14 rfl (by kernel_rfl) _ Tryz.ntmps14 (by simp) ?_
  simp only [maxLen] at hn
  repeat' first
    | simp -implicitDefEqProofs only [go_sem]
    | refine if_splitP (fun h => ?_) (fun h => ?_) | refine if_splitN (fun h => ?_) (fun h => ?_) | refine if_split (fun h => ?_) (fun h => ?_) | refine grd_splitP (fun h => ?_) (fun h => ?_) | refine grd_splitN (fun h => ?_) (fun h => ?_) | refine grd_split (fun h => ?_) (fun h => ?_) | refine grdX_splitP (fun h => ?_) (fun h => ?_) | refine grdX_splitN (fun h => ?_) (fun h => ?_) | refine grdX_split (fun h => ?_) (fun h => ?_) | refine grdY_splitP (fun h => ?_) (fun h => ?_) | refine grdY_splitN (fun h => ?_) (fun h => ?_) | refine grdY_split (fun h => ?_) (fun h => ?_)
    | (refine And.intro ?_ ?_; omega)
  · exact fin_scal rfl (by rw [if_neg (by omega)])
  · exact fin_scal rfl (by rw [if_pos (by omega)])
theorem toClock_c (c : Ck) : PC Tryz.prog 22 [] [.a (ckC c)] (.s (.a (ckC c))) ⟨[], []⟩ := by
  refine pc_of Tryz.func22 rfl (by kernel_rfl) _ Tryz.ntmps22 (by simp) ?_
  (repeat' (first | simp -implicitDefEqProofs only [go_sem] | (refine And.intro ?_ ?_; omega) | (refine And.intro (shr_bd ?_ ?_) ?_; omega; omega) | refine sl_list rfl ?_ | refine sd_list rfl ?_ | refine sl_str ?_ | refine sd_str ?_))
  exact fin_scal rfl rfl
theorem eqClock_c (c : Ck) : PC Tryz.prog 31 [] [.a (ckC c), .a (ckC c)] (vB true) ⟨[], []⟩ := by
  refine pc_of Tryz.func31 rfl (by kernel_rfl) _ Tryz.ntmps31 (by simp) ?_
  (repeat' (first | simp -implicitDefEqProofs only [go_sem] | (refine And.intro ?_ ?_; omega) | (refine And.intro (shr_bd ?_ ?_) ?_; omega; omega) | refine sl_list rfl ?_ | refine sd_list rfl ?_ | refine sl_str ?_ | refine sd_str ?_))
  exact fin_scal rfl rfl
/-- what a table leaves of the room -/
def szT (t : Tb) (left : Int) : Int := if (t.g.j.length : Int) ≤ left then (if (t.r.length : Int) ≤ left - t.g.j.length then left - t.g.j.length - t.r.length else -1) else -1
theorem szTable_c (t : Tb) (left : Int) (h0 : 0 ≤ left) (h1 : left ≤ 1048576) (hn : t.g.j.length ≤ maxLen) (hr : t.r.length ≤ maxLen) : PC Tryz.prog 4 [] [.a (tbL t), .c (.v (.int .i64 left))] (.s (.c (.v (.int .i64 (szT t left))))) ⟨[], []⟩ := by
  refine pc_of Tryz.func4 rfl (by kernel_rfl) _ Tryz.ntmps4 (by simp) ?_
  by_cases h : (t.g.j.length : Int) ≤ left
  · have e : (left - (t.g.j.length : Int) < 0) = False := by simp; omega
    by_cases h' : (t.r.length : Int) ≤ left - t.g.j.length
    · have e' : (left - (t.g.j.length : Int) - t.r.length < 0) = False := by simp; omega
      repeat' first
        | (first | simp -implicitDefEqProofs only [h, e, h', e', go_sem] | (refine And.intro ?_ ?_; omega) | (refine And.intro (shr_bd ?_ ?_) ?_; omega; omega) | refine sl_list rfl ?_ | refine sd_list rfl ?_ | refine sl_str ?_ | refine sd_str ?_)
        | refine callS (szGame_c t.g left h0 h1 hn) rfl rfl rfl ?_
        | refine callS (szRecordS_w t.r _ (by omega) (by omega) hr) rfl rfl rfl ?_
      exact fin_scal rfl (by simp [szT, h, h'])
    · repeat' first
        | (first | simp -implicitDefEqProofs only [h, e, h', go_sem] | (refine And.intro ?_ ?_; omega) | (refine And.intro (shr_bd ?_ ?_) ?_; omega; omega) | refine sl_list rfl ?_ | refine sd_list rfl ?_ | refine sl_str ?_ | refine sd_str ?_)
        | refine callS (szGame_c t.g left h0 h1 hn) rfl rfl rfl ?_
        | refine callS (szRecordS_w t.r _ (by omega) (by omega) hr) rfl rfl rfl ?_
      exact fin_scal rfl (by simp [szT, h, h'])
  · repeat' first
      | (first | simp -implicitDefEqProofs only [h, go_sem] | (refine And.intro ?_ ?_; omega) | (refine And.intro (shr_bd ?_ ?_) ?_; omega; omega) | refine sl_list rfl ?_ | refine sd_list rfl ?_ | refine sl_str ?_ | refine sd_str ?_)
      | refine callS (szGame_c t.g left h0 h1 hn) rfl rfl rfl ?_
    exact fin_scal rfl (by simp [szT, h])
theorem toTable_c (d e : Nat) (hde : d ≠ e) (t : Tb) (hn : t.g.j.length ≤ 1048576) (hr : t.r.length ≤ 1048576) : PC Tryz.prog 6 [] [.a (tbL t)] (.s (.a (tbC t (.o d) (.o e)))) ⟨[], [(d, ⟨78, 3, t.g.j.map lineV, false, true⟩), (e, ⟨86, 4, t.r.map recV, false, true⟩)]⟩ := by
  refine pc_of Tryz.func6 rfl (by kernel_rfl) _ Tryz.ntmps6 (by simp) ?_
  repeat' first
    | (first | simp -implicitDefEqProofs only [go_sem] | (refine And.intro ?_ ?_; omega) | (refine And.intro (shr_bd ?_ ?_) ?_; omega; omega) | refine sl_list rfl ?_ | refine sd_list rfl ?_ | refine sl_str ?_ | refine sd_str ?_)
    | refine callL (toGame_c 6 t.g hn) rfl rfl rfl ?_
    | refine callS (toClock_c t.c) rfl rfl rfl ?_
    | refine callL (toRecordS_c 17 t.r hr) rfl rfl rfl ?_
  have hed : e ≠ d := fun h => hde h.symm
  exact fin_of (fun i => i) (fun i => if i = d then 6 else 17) ⟨by simp [boxesR, listsR, csR, renC, keyC, optK, fnd, envR, St.get, keyPV, keyV1, renPV, renV1, hasKey, made_zero, hde, hed] <;> omega, by simp [boxesR, listsR, csR, renC, keyC, optK, fnd, envR, St.get, keyPV, keyV1, renPV, renV1, hasKey, made_zero, hde, hed] <;> omega, by simp [boxesR, listsR, csR, renC, keyC, optK, fnd, envR, St.get, keyPV, keyV1, renPV, renV1, hasKey, made_zero, hde, hed] <;> omega, by simp [boxesR, listsR, csR, renC, keyC, optK, fnd, envR, St.get, keyPV, keyV1, renPV, renV1, hasKey, made_zero, hde, hed] <;> omega, by simp [boxesR, listsR, csR, renC, keyC, optK, fnd, envR, St.get, keyPV, keyV1, renPV, renV1, hasKey, made_zero, hde, hed] <;> omega⟩ (by simp [boxesR, listsR, csR, renC, keyC, optK, fnd, envR, St.get, keyPV, keyV1, renPV, renV1, hasKey, made_zero, hde, hed] <;> omega) (by first | rfl | (simp [renPV, renV1, renC, hde, hed]))
theorem eqTable_c (t : Tb) (hn : t.g.j.length ≤ 4194304) (hr : t.r.length ≤ 1048576) : PC Tryz.prog 9 [] [.a (tbL t), .a (tbL t)] (vB true) ⟨[], []⟩ := by
  refine pc_of Tryz.func9 rfl (by kernel_rfl) _ Tryz.ntmps9 (by simp) ?_
  repeat' first
    | (first | simp -implicitDefEqProofs only [go_sem] | (refine And.intro ?_ ?_; omega) | (refine And.intro (shr_bd ?_ ?_) ?_; omega; omega) | refine sl_list rfl ?_ | refine sd_list rfl ?_ | refine sl_str ?_ | refine sd_str ?_)
    | refine callS (eqGame_c t.g (by omega)) rfl rfl rfl ?_
    | refine callS (eqClock_c t.c) rfl rfl rfl ?_
    | refine callS (eqRecordS_c t.r hr) rfl rfl rfl ?_
  exact fin_scal rfl rfl
theorem tb_of {cs : List C} (h : All2 TC [.z (.i .i64), .z (.i .i64), .z (.i .i64), .z (.i .i64), .z (.i .i64), .l 3 true [.i .i64, .i .i64, .i .i64], .z (.i .i64), .z (.i .i64), .z (.i .i64), .z (.i .i64), .z (.i .i64), .z (.i .i64), .l 4 true recK] cs) :
    ∃ t : Tb, cs = tbL t ∧ pzIn t.g.x ∧ t.g.j.length ≤ maxLen ∧ t.r.length ≤ maxLen := by
  obtain ⟨c1, r1, rfl, h1, g1⟩ := all2_cons h
  obtain ⟨c2, r2, rfl, h2, g2⟩ := all2_cons g1
  obtain ⟨c3, r3, rfl, h3, g3⟩ := all2_cons g2
  obtain ⟨c4, r4, rfl, h4, g4⟩ := all2_cons g3
  obtain ⟨c5, r5, rfl, h5, g5⟩ := all2_cons g4
  obtain ⟨c6, r6, rfl, h6, g6⟩ := all2_cons g5
  obtain ⟨c7, r7, rfl, h7, g7⟩ := all2_cons g6
  obtain ⟨c8, r8, rfl, h8, g8⟩ := all2_cons g7
  obtain ⟨c9, r9, rfl, h9, g9⟩ := all2_cons g8
  obtain ⟨ca, ra, rfl, ha, ga⟩ := all2_cons g9
  obtain ⟨cb, rb, rfl, hb, gb⟩ := all2_cons ga
  obtain ⟨cc, rc, rfl, hc, gc⟩ := all2_cons gb
  obtain ⟨cd, rd, rfl, hd, gd⟩ := all2_cons gc
  obtain rfl := all2_nil gd
  obtain ⟨g, eg, hx, hj⟩ := gm_of (cs := [c1, c2, c3, c4, c5, c6, c7, c8]) ⟨h1, h2, h3, h4, h5, h6, h7, h8, trivial⟩
  simp only [gmL, gmC, List.cons.injEq, and_true] at eg
  obtain ⟨rfl, rfl, rfl, rfl, rfl, rfl, rfl, rfl⟩ := eg
  obtain ⟨a, rfl, _⟩ := tc_i h9
  obtain ⟨b, rfl, _⟩ := tc_i ha
  obtain ⟨c, rfl, _⟩ := tc_i hb
  obtain ⟨n, rfl, _⟩ := tc_i hc
  obtain ⟨rs, rfl, hl, _⟩ := recs_of hd
  exact ⟨⟨g, ⟨a, b, c⟩, n, rs⟩, rfl, hx, hj, hl⟩
end Go.Proofs.YtmgfndejfeconaaGreatDoor
