/-
  The law on the summary of a table.
-/
import Derived.Test.YtmgfndejfeconaaGreatDoorBB
import Derived.Test.YtmgfndejfeconaaGreatDoorBC
import Derived.Test.YtmgfndejfeconaaGreatDoorZ1
namespace Go.Proofs.YtmgfndejfeconaaGreatDoor
open Go.PL
set_option linter.unusedSimpArgs false
set_option linter.unusedVariables false
theorem fmtT_len {t : Tb} : (fmtT t).length ≤ 12 := by
  unfold fmtT
  split
  · rename_i h
    obtain ⟨_, _, c1, c2⟩ := tb_nums h
    have pl := posT_len (b := t.g.x.b) (p := nowOf t.g)
    rw [List.length_append]
    simp only [List.length_cons, List.length_nil]
    omega
  · simp
set_option maxHeartbeats 16000000 in
theorem lawFormatTable_c (t : Tb) (hx : pzIn t.g.x) (hn : t.g.j.length ≤ maxLen) (hr : t.r.length ≤ maxLen) : PC Tryz.prog 3 [] [.a (tbL t)] (vB true) ⟨[], []⟩ := by
  refine pc_of Tryz.func3 rfl (by kernel_rfl) _ Tryz.ntmps3 (by simp) ?_
  by_cases hs : szT t 1048576 < 0
  · repeat' first
      | (first | simp -implicitDefEqProofs only [hs, go_sem] | (refine And.intro ?_ ?_; omega) | (refine And.intro (shr_bd ?_ ?_) ?_; omega; omega) | refine sl_list rfl ?_ | refine sd_list rfl ?_ | refine sl_str ?_ | refine sd_str ?_)
      | refine callS (szTable_c t _ (by omega) (by omega) hn hr) rfl rfl rfl ?_
    all_goals exact fin_scal rfl rfl
  · have h1 : (t.g.j.length : Int) ≤ 1048576 := by unfold szT at hs; split at hs <;> omega
    have h2 : (t.r.length : Int) ≤ 1048576 := by unfold szT at hs; split at hs; (split at hs <;> omega); omega
    have ht : TbS t := ⟨hx, by omega, by omega⟩
    have fl := fmtT_len (t := t)
    have e2 : (1 + ((fmtT t).length : Int) < 0) = False := by simp; omega
    have e3 : (1 + 3 * (t.g.j.length : Int) + 4 * (t.r.length : Int) < 0) = False := by simp; omega
    repeat' first
      | (first | simp -implicitDefEqProofs only [hs, e2, e3, go_sem] | (refine And.intro ?_ ?_; omega) | (refine And.intro (shr_bd ?_ ?_) ?_; omega; omega) | refine sl_list rfl ?_ | refine sd_list rfl ?_ | refine sl_str ?_ | refine sd_str ?_)
      | refine draw_stepY Tryz.pl_follows (by kernel_rfl) ?_
      | refine callS (szTable_c t _ (by omega) (by omega) hn hr) rfl rfl rfl ?_
      | refine callL2 (fun d e h => toTable_c d e h t (by omega) (by omega)) rfl rfl rfl ?_
      | refine callL1 (fun d => FormatTable_c d t ht) rfl rfl rfl ?_
      | refine callL1 (fun d => iFormatTable_c d t ht) rfl rfl rfl ?_
      | refine callS (eqTable_c t (by omega) (by omega)) rfl rfl rfl ?_
      | refine callS (eqStringS_c (fmtT t) (by omega)) rfl rfl rfl ?_
      | refine callI (markTable_c 20 1020 (by omega) t _ (by omega) (by omega) (by omega) (by omega)) ⟨⟨rfl, rfl, rfl⟩, rfl, ⟨rfl, rfl, rfl⟩, rfl, trivial⟩ rfl rfl rfl ?_
      | refine callI (markStringS_c 22 (fmtT t) (by omega)) ⟨⟨rfl, rfl, rfl⟩, rfl, trivial⟩ rfl rfl rfl ?_
      | refine callS (heldStringS_c (fmtT t).length (by omega)) rfl rfl rfl ?_
    all_goals exact fin_scal rfl rfl
theorem fnExactFormatTable.law_c {cs : List C} (h : All2 TC [.z (.i .i64), .z (.i .i64), .z (.i .i64), .z (.i .i64), .z (.i .i64), .l 3 true [.i .i64, .i .i64, .i .i64], .z (.i .i64), .z (.i .i64), .z (.i .i64), .z (.i .i64), .z (.i .i64), .z (.i .i64), .l 4 true recK] cs) : PC Tryz.prog 3 [] [.a cs] (vB true) ⟨[], []⟩ := by
  obtain ⟨t, rfl, hx, hn, hr⟩ := tb_of h
  exact lawFormatTable_c t hx hn hr
end Go.Proofs.YtmgfndejfeconaaGreatDoor
