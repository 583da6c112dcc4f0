/-
  The law on carrying out an act.
-/
import Derived.Test.YtncdcgaaeclhiaaGreatT1
import Derived.Test.YtncdcgaaeclhiaaGreatZ1
namespace Go.Proofs.YtncdcgaaeclhiaaGreat
open Go.PL
set_option linter.unusedSimpArgs false
set_option maxHeartbeats 16000000 in
theorem lawDoAct_c (t : Tb) (a : Ac) (hx : pzIn t.g.x) (hn : t.g.j.length ≤ maxLen) (hr : t.r.length ≤ maxLen) : PC Tryz.prog 3 [] [.a (tbL t), .a (actC a)] (vB true) ⟨[], []⟩ := by
  refine pc_of Tryz.func3 rfl (by kernel_rfl) _ Tryz.ntmps3 (by simp) ?_
  by_cases hs : szT t 1048576 < 0
  · repeat' first
      | (first | simp -implicitDefEqProofs only [hs, go_sem, Nat.reduceLT, Nat.reduceLeDiff, Nat.reduceEqDiff, Nat.reduceAdd, Nat.reduceSub, Nat.reduceMul, Int.reduceEq, Int.reduceLT, Int.reduceLE, Int.reduceNeg, Int.reduceAdd, Int.reduceSub, Int.reduceMul, Int.reduceToNat, reduceIte, reduceCtorEq, List.map_cons, List.map_nil] | (refine And.intro ?_ ?_; omega) | (refine And.intro (shr_bd ?_ ?_) ?_; omega; omega) | refine sl_list rfl ?_ | refine sd_list rfl ?_ | refine sl_str ?_ | refine sd_str ?_)
      | refine callS (szTable_c t _ (by omega) (by omega) hn hr) rfl rfl rfl ?_
    all_goals exact fin_scal rfl rfl
  · have h1 : (t.g.j.length : Int) ≤ 1048576 := by unfold szT at hs; split at hs <;> omega
    have h2 : (t.r.length : Int) ≤ 1048576 := by unfold szT at hs; split at hs; (split at hs <;> omega); omega
    have ht : TbS t := ⟨hx, by omega, by omega⟩
    obtain ⟨l1, l2⟩ := doT_len (a := a) ht
    have e2 : (1 + 3 * ((doT t a).g.j.length : Int) + 4 * ((doT t a).r.length : Int) < 0) = False := by simp; omega
    have e3 : (1 + 3 * (t.g.j.length : Int) + 4 * (t.r.length : Int) < 0) = False := by simp; omega
    repeat' first
      | (first | simp -implicitDefEqProofs only [hs, e2, e3, go_sem, Nat.reduceLT, Nat.reduceLeDiff, Nat.reduceEqDiff, Nat.reduceAdd, Nat.reduceSub, Nat.reduceMul, Int.reduceEq, Int.reduceLT, Int.reduceLE, Int.reduceNeg, Int.reduceAdd, Int.reduceSub, Int.reduceMul, Int.reduceToNat, reduceIte, reduceCtorEq, List.map_cons, List.map_nil] | (refine And.intro ?_ ?_; omega) | (refine And.intro (shr_bd ?_ ?_) ?_; omega; omega) | refine sl_list rfl ?_ | refine sd_list rfl ?_ | refine sl_str ?_ | refine sd_str ?_)
      | refine draw_stepY Tryz.pl_follows (by kernel_rfl) ?_
      | refine callS (szTable_c t _ (by omega) (by omega) hn hr) rfl rfl rfl ?_
      | refine callL2 (fun d e h => toTable_c d e h t (by omega) (by omega)) rfl rfl rfl ?_
      | refine callS (toAct_c _ _ _) rfl rfl rfl ?_
      | refine callL2 (fun d e h => DoAct_c d e h t a ht) rfl rfl rfl ?_
      | refine callL2 (fun d e h => iDoAct_c d e h t a ht) rfl rfl rfl ?_
      | refine callS (eqTable_c t (by omega) (by omega)) rfl rfl rfl ?_
      | refine callS (eqTable_c (doT t a) (by omega) (by omega)) rfl rfl rfl ?_
      | refine callI (markTable_c 30 1030 (by omega) t _ (by omega) (by omega) (by omega) (by omega)) ⟨⟨rfl, rfl, rfl⟩, rfl, ⟨rfl, rfl, rfl⟩, rfl, trivial⟩ rfl rfl rfl ?_
      | refine callI (markTable_c 35 1035 (by omega) (doT t a) _ (by omega) (by omega) (by omega) (by omega)) ⟨⟨rfl, rfl, rfl⟩, rfl, ⟨rfl, rfl, rfl⟩, rfl, trivial⟩ rfl rfl rfl ?_
      | refine callS (heldTable_c (doT t a) _ _ _ (by omega) (by omega) (by omega) (by omega)) rfl rfl rfl ?_
    all_goals exact fin_scal rfl rfl
theorem fnExactDoAct.law_c {cs : List C} {ds : List C} (h : All2 TC [.z (.i .i64), .z (.i .i64), .z (.i .i64), .z (.i .i64), .z (.i .i64), .l 3 true [.i .i64, .i .i64, .i .i64], .z (.i .i64), .z (.i .i64), .z (.i .i64), .z (.i .i64), .z (.i .i64), .z (.i .i64), .l 4 true recK] cs) (h' : All2 TC [.z (.i .i64), .z (.i .i64), .z (.i .i64)] ds) : PC Tryz.prog 3 [] [.a cs, .a ds] (vB true) ⟨[], []⟩ := by
  obtain ⟨t, rfl, hx, hn, hr⟩ := tb_of h
  obtain ⟨a, rfl⟩ := ac_of h'
  exact lawDoAct_c t a hx hn hr
end Go.Proofs.YtncdcgaaeclhiaaGreat
