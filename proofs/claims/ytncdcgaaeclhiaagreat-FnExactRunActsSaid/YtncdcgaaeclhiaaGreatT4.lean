/-
  The law on carrying out many acts.
-/
import Derived.Test.YtncdcgaaeclhiaaGreatT2
import Derived.Test.YtncdcgaaeclhiaaGreatZ1
import Derived.Test.YtncdcgaaeclhiaaGreatTAe
namespace Go.Proofs.YtncdcgaaeclhiaaGreat
open Go.PL
set_option linter.unusedSimpArgs false
theorem szT_le {t : Tb} {left : Int} (h0 : 0 ≤ left) : szT t left ≤ left := by unfold szT; repeat' split <;> omega
set_option maxRecDepth 20000 in
set_option maxHeartbeats 32000000 in
theorem lawRunActs_c (t : Tb) (l : List Ac) (hx : pzIn t.g.x) (hn : t.g.j.length ≤ maxLen) (hr : t.r.length ≤ maxLen) (hl : l.length ≤ maxLen) : PC Tryz.prog 5 [] [.a (tbL t), .c (.l 3 (l.map actV))] (vB true) ⟨[], []⟩ := by
  refine pc_of Tryz.func5 rfl (by kernel_rfl) _ Tryz.ntmps5 (by simp) ?_
  have hsl := szT_le (t := t) (left := 1048576) (by omega)
  by_cases hs : szT t 1048576 < 0
  · repeat' first
      | (first | simp -implicitDefEqProofs only [hs, go_sem, Nat.reduceLT, Nat.reduceLeDiff, Nat.reduceEqDiff, Nat.reduceAdd, Nat.reduceSub, Nat.reduceMul, Int.reduceEq, Int.reduceLT, Int.reduceLE, Int.reduceNeg, Int.reduceAdd, Int.reduceSub, Int.reduceMul, Int.reduceToNat, reduceIte, reduceCtorEq, List.map_cons, List.map_nil] | (refine And.intro ?_ ?_; omega) | (refine And.intro (shr_bd ?_ ?_) ?_; omega; omega) | refine sl_list rfl ?_ | refine sd_list rfl ?_ | refine sl_str ?_ | refine sd_str ?_)
      | refine callS (szTable_c t _ (by omega) (by omega) hn hr) rfl rfl rfl ?_
    all_goals exact fin_scal rfl rfl
  by_cases ha : (l.length : Int) ≤ szT t 1048576
  rotate_left
  · repeat' first
      | (first | simp -implicitDefEqProofs only [hs, ha, go_sem, Nat.reduceLT, Nat.reduceLeDiff, Nat.reduceEqDiff, Nat.reduceAdd, Nat.reduceSub, Nat.reduceMul, Int.reduceEq, Int.reduceLT, Int.reduceLE, Int.reduceNeg, Int.reduceAdd, Int.reduceSub, Int.reduceMul, Int.reduceToNat, reduceIte, reduceCtorEq, List.map_cons, List.map_nil] | (refine And.intro ?_ ?_; omega) | (refine And.intro (shr_bd ?_ ?_) ?_; omega; omega) | refine sl_list rfl ?_ | refine sd_list rfl ?_ | refine sl_str ?_ | refine sd_str ?_)
      | refine callS (szTable_c t _ (by omega) (by omega) hn hr) rfl rfl rfl ?_
      | refine callS (szActS_c l _ (by omega) (by omega) hl) rfl rfl rfl ?_
    all_goals exact fin_scal rfl rfl
  have h1 : (t.g.j.length : Int) ≤ 1048576 := by unfold szT at hs; split at hs <;> omega
  have h2 : (t.r.length : Int) ≤ 1048576 := by unfold szT at hs; split at hs; (split at hs <;> omega); omega
  have ht : TbS t := ⟨hx, by omega, by omega⟩
  obtain ⟨l1, l2⟩ := runsT_len (l := l) ht
  have l3 := runsN_len (t := t) (l := l)
  have e0 : (szT t 1048576 - (l.length : Int) < 0) = False := by simp; omega
  have e1 : (1 + 3 * (t.g.j.length : Int) + 4 * (t.r.length : Int) + 3 * (l.length : Int) < 0) = False := by simp; omega
  have e2 : (1 + 3 * ((runsT t l).g.j.length : Int) + 4 * ((runsT t l).r.length : Int) < 0) = False := by simp; omega
  have e3 : (1 + 3 * ((runsT t l).g.j.length : Int) + 4 * ((runsT t l).r.length : Int) + ((runsN t l).length : Int) < 0) = False := by simp; omega
  repeat' first
    | (first | simp -implicitDefEqProofs only [hs, ha, e0, e1, e2, e3, go_sem, Nat.reduceLT, Nat.reduceLeDiff, Nat.reduceEqDiff, Nat.reduceAdd, Nat.reduceSub, Nat.reduceMul, Int.reduceEq, Int.reduceLT, Int.reduceLE, Int.reduceNeg, Int.reduceAdd, Int.reduceSub, Int.reduceMul, Int.reduceToNat, reduceIte, reduceCtorEq, List.map_cons, List.map_nil] | (refine And.intro ?_ ?_; omega) | (refine And.intro (shr_bd ?_ ?_) ?_; omega; omega) | refine sl_list rfl ?_ | refine sd_list rfl ?_ | refine sl_str ?_ | refine sd_str ?_)
    | refine draw_stepY Tryz.pl_follows (by kernel_rfl) ?_
    | refine callS (szTable_c t _ (by omega) (by omega) hn hr) rfl rfl rfl ?_
    | refine callS (szActS_c l _ (by omega) (by omega) hl) rfl rfl rfl ?_
    | refine callL2 (fun d e h => toTable_c d e h t (by omega) (by omega)) rfl rfl rfl ?_
    | refine callL1 (fun d => toActS_c d l (by omega)) rfl rfl rfl ?_
    | refine callL3 (fun d e f h1 h2 h3 => RunActs_c d e f h1 h2 h3 t l ht (by omega)) rfl rfl rfl ?_
    | refine callL3 (fun d e f h1 h2 h3 => iRunActs_c d e f h1 h2 h3 t l ht (by omega)) rfl rfl rfl ?_
    | refine callS (eqTable_c t (by omega) (by omega)) rfl rfl rfl ?_
    | refine callS (eqTable_c (runsT t l) (by omega) (by omega)) rfl rfl rfl ?_
    | refine callS (eqActS_c l (by omega)) rfl rfl rfl ?_
    | refine callS (eqIntS_c (runsN t l) (by omega)) rfl rfl rfl ?_
    | refine callI (markTable_c 36 1036 (by omega) t _ (by omega) (by omega) (by omega) (by omega)) ⟨⟨rfl, rfl, rfl⟩, rfl, ⟨rfl, rfl, rfl⟩, rfl, trivial⟩ rfl rfl rfl ?_
    | refine callI (markActS_c 38 l _ (by omega) (by omega) (by omega)) ⟨⟨rfl, rfl, rfl⟩, rfl, trivial⟩ rfl rfl rfl ?_
    | refine callI (markTable_c 42 1042 (by omega) (runsT t l) _ (by omega) (by omega) (by omega) (by omega)) ⟨⟨rfl, rfl, rfl⟩, rfl, ⟨rfl, rfl, rfl⟩, rfl, trivial⟩ rfl rfl rfl ?_
    | refine callI (markIntS_c 2042 (runsN t l) _ (by omega) (by omega) (by omega)) ⟨⟨rfl, rfl, rfl⟩, rfl, trivial⟩ rfl rfl rfl ?_
    | refine callS (heldTable_c (runsT t l) _ _ _ (by omega) (by omega) (by omega) (by omega)) rfl rfl rfl ?_
    | refine callS (heldIntS_c _ _ (by omega) (by omega) (by omega)) rfl rfl rfl ?_
  all_goals exact fin_scal rfl rfl
theorem fnExactRunActs.law_c {cs : List C} {c : C} (h : All2 TC [.z (.i .i64), .z (.i .i64), .z (.i .i64), .z (.i .i64), .z (.i .i64), .l 3 true [.i .i64, .i .i64, .i .i64], .z (.i .i64), .z (.i .i64), .z (.i .i64), .z (.i .i64), .z (.i .i64), .z (.i .i64), .l 4 true recK] cs) (h' : TC (.l 3 true [.i .i64, .i .i64, .i .i64]) c) : PC Tryz.prog 5 [] [.a cs, .c c] (vB true) ⟨[], []⟩ := by
  obtain ⟨t, rfl, hx, hn, hr⟩ := tb_of h
  obtain ⟨l, rfl, hl⟩ := acts_of h'
  exact lawRunActs_c t l hx hn hr hl
end Go.Proofs.YtncdcgaaeclhiaaGreat
