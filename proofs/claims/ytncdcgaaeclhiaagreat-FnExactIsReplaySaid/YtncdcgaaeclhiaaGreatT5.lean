/-
  The law on replays.
-/
import Derived.Test.YtncdcgaaeclhiaaGreatT2
import Derived.Test.YtncdcgaaeclhiaaGreatZ1
import Derived.Test.YtncdcgaaeclhiaaGreatTAe
namespace Go.Proofs.YtncdcgaaeclhiaaGreat
open Go.PL
set_option linter.unusedSimpArgs false
theorem szT_le' {t : Tb} {left : Int} (h0 : 0 ≤ left) : szT t left ≤ left := by unfold szT; repeat' split <;> omega
set_option maxRecDepth 20000 in
set_option maxHeartbeats 32000000 in
theorem lawIsReplay_c (t : Tb) (l : List Ac) (ns : List Int) (hx : pzIn t.g.x) (hn : t.g.j.length ≤ maxLen) (hr : t.r.length ≤ maxLen) (hl : l.length ≤ maxLen) : PC Tryz.prog 4 [] [.a (tbL t), .c (.l 3 (l.map actV)), .c (.l 1 (ns.map iV))] (vB true) ⟨[], []⟩ := by
  refine pc_of Tryz.func4 rfl (by kernel_rfl) _ Tryz.ntmps4 (by simp) ?_
  have hsl := szT_le' (t := t) (left := 1048576) (by omega)
  by_cases hb : (1048576 : Int) < ns.length
  · (repeat' (first | simp -implicitDefEqProofs only [hb, go_sem, Nat.reduceLT, Nat.reduceLeDiff, Nat.reduceEqDiff, Nat.reduceAdd, Nat.reduceSub, Nat.reduceMul, Int.reduceEq, Int.reduceLT, Int.reduceLE, Int.reduceNeg, Int.reduceAdd, Int.reduceSub, Int.reduceMul, Int.reduceToNat, reduceIte, reduceCtorEq, List.map_cons, List.map_nil] | (refine And.intro ?_ ?_; omega) | (refine And.intro (shr_bd ?_ ?_) ?_; omega; omega) | refine sl_list rfl ?_ | refine sd_list rfl ?_ | refine sl_str ?_ | refine sd_str ?_))
    exact fin_scal rfl rfl
  by_cases hs : szT t 1048576 < 0
  · repeat' first
      | (first | simp -implicitDefEqProofs only [hs, hb, go_sem, Nat.reduceLT, Nat.reduceLeDiff, Nat.reduceEqDiff, Nat.reduceAdd, Nat.reduceSub, Nat.reduceMul, Int.reduceEq, Int.reduceLT, Int.reduceLE, Int.reduceNeg, Int.reduceAdd, Int.reduceSub, Int.reduceMul, Int.reduceToNat, reduceIte, reduceCtorEq, List.map_cons, List.map_nil] | (refine And.intro ?_ ?_; omega) | (refine And.intro (shr_bd ?_ ?_) ?_; omega; omega) | refine sl_list rfl ?_ | refine sd_list rfl ?_ | refine sl_str ?_ | refine sd_str ?_)
      | refine callS (szTable_c t _ (by omega) (by omega) hn hr) rfl rfl rfl ?_
    all_goals exact fin_scal rfl rfl
  by_cases ha : (l.length : Int) ≤ szT t 1048576
  rotate_left
  · repeat' first
      | (first | simp -implicitDefEqProofs only [hs, ha, hb, go_sem, Nat.reduceLT, Nat.reduceLeDiff, Nat.reduceEqDiff, Nat.reduceAdd, Nat.reduceSub, Nat.reduceMul, Int.reduceEq, Int.reduceLT, Int.reduceLE, Int.reduceNeg, Int.reduceAdd, Int.reduceSub, Int.reduceMul, Int.reduceToNat, reduceIte, reduceCtorEq, List.map_cons, List.map_nil] | (refine And.intro ?_ ?_; omega) | (refine And.intro (shr_bd ?_ ?_) ?_; omega; omega) | refine sl_list rfl ?_ | refine sd_list rfl ?_ | refine sl_str ?_ | refine sd_str ?_)
      | refine callS (szTable_c t _ (by omega) (by omega) hn hr) rfl rfl rfl ?_
      | refine callS (szActS_c l _ (by omega) (by omega) hl) rfl rfl rfl ?_
    all_goals exact fin_scal rfl rfl
  have h1 : (t.g.j.length : Int) ≤ 1048576 := by unfold szT at hs; split at hs <;> omega
  have h2 : (t.r.length : Int) ≤ 1048576 := by unfold szT at hs; split at hs; (split at hs <;> omega); omega
  have ht : TbS t := ⟨hx, by omega, by omega⟩
  have e0 : (szT t 1048576 - (l.length : Int) < 0) = False := by simp; omega
  repeat' first
    | (first | simp -implicitDefEqProofs only [hs, ha, e0, hb, go_sem, Nat.reduceLT, Nat.reduceLeDiff, Nat.reduceEqDiff, Nat.reduceAdd, Nat.reduceSub, Nat.reduceMul, Int.reduceEq, Int.reduceLT, Int.reduceLE, Int.reduceNeg, Int.reduceAdd, Int.reduceSub, Int.reduceMul, Int.reduceToNat, reduceIte, reduceCtorEq, List.map_cons, List.map_nil] | (refine And.intro ?_ ?_; omega) | (refine And.intro (shr_bd ?_ ?_) ?_; omega; omega) | refine sl_list rfl ?_ | refine sd_list rfl ?_ | refine sl_str ?_ | refine sd_str ?_)
    | refine draw_stepY Tryz.pl_follows (by kernel_rfl) ?_
    | refine callS (szTable_c t _ (by omega) (by omega) hn hr) rfl rfl rfl ?_
    | refine callS (szActS_c l _ (by omega) (by omega) hl) rfl rfl rfl ?_
    | refine callL2 (fun d e h => toTable_c d e h t (by omega) (by omega)) rfl rfl rfl ?_
    | refine callL1 (fun d => toActS_c d l (by omega)) rfl rfl rfl ?_
    | refine callL1 (fun d => toIntS_c d ns (by omega)) rfl rfl rfl ?_
    | refine callS (IsReplay_c t l ns ht (by omega)) rfl rfl rfl ?_
    | refine callS (iIsReplay_c t l ns ht (by omega)) rfl rfl rfl ?_
    | refine callS (eqTable_c t (by omega) (by omega)) rfl rfl rfl ?_
    | refine callS (eqActS_c l (by omega)) rfl rfl rfl ?_
    | refine callS (eqIntS_c ns (by omega)) rfl rfl rfl ?_
  all_goals exact fin_scal rfl rfl
theorem fnExactIsReplay.law_c {cs : List C} {c c' : C} (h : All2 TC [.z (.i .i64), .z (.i .i64), .z (.i .i64), .z (.i .i64), .z (.i .i64), .l 3 true [.i .i64, .i .i64, .i .i64], .z (.i .i64), .z (.i .i64), .z (.i .i64), .z (.i .i64), .z (.i .i64), .z (.i .i64), .l 4 true recK] cs) (h' : TC (.l 3 true [.i .i64, .i .i64, .i .i64]) c) (h'' : TC (.l 1 false [.i .i64]) c') : PC Tryz.prog 4 [] [.a cs, .c c, .c c'] (vB true) ⟨[], []⟩ := by
  obtain ⟨t, rfl, hx, hn, hr⟩ := tb_of h
  obtain ⟨l, rfl, hl⟩ := acts_of h'
  obtain ⟨ns, rfl, _⟩ := ints_of h''
  exact lawIsReplay_c t l ns hx hn hr hl
end Go.Proofs.YtncdcgaaeclhiaaGreat
