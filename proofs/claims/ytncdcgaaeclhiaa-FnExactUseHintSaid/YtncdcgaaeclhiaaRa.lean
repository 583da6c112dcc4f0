/-
  The law on using a hint.
-/
import Derived.Test.YtncdcgaaeclhiaaR4
import Derived.Test.YtncdcgaaeclhiaaN4
namespace Go.Proofs.Ytncdcgaaeclhiaa
open Go.PL
set_option linter.unusedSimpArgs false
set_option maxHeartbeats 8000000 in
theorem lawUseHint_c (g : Gm) (hx : pzIn g.x) (hn : g.j.length ≤ maxLen) : PC Try.prog 6 [] [.a (gmL g)] (vB true) ⟨[], []⟩ := by
  refine pc_of Try.func6 rfl (by kernel_rfl) _ Try.ntmps6 (by simp) ?_
  by_cases hs : (g.j.length : Int) ≤ 1048576
  · have e : (1048576 - (g.j.length : Int) < 0) = False := by simp; omega
    have hg : GmIn g := ⟨hx, by omega⟩
    have hl := hintR_len (g := g) (by omega)
    have e2 : (1 + 3 * ((hintR g).j.length : Int) < 0) = False := by simp; omega
    have e3 : (1 + 3 * (g.j.length : Int) < 0) = False := by simp; omega
    repeat' first
      | (first | simp -implicitDefEqProofs only [hs, e, e2, e3, go_sem, Nat.reduceLT, Nat.reduceLeDiff, Nat.reduceEqDiff, Nat.reduceAdd, Nat.reduceSub, Nat.reduceMul, Int.reduceEq, Int.reduceLT, Int.reduceLE, Int.reduceNeg, Int.reduceAdd, Int.reduceSub, Int.reduceMul, Int.reduceToNat, reduceIte, reduceCtorEq, List.map_cons, List.map_nil] | (refine And.intro ?_ ?_; omega) | (refine And.intro (shr_bd ?_ ?_) ?_; omega; omega) | refine sl_list rfl ?_ | refine sd_list rfl ?_ | refine sl_str ?_ | refine sd_str ?_)
      | refine draw_stepY Try.pl_follows (by kernel_rfl) ?_
      | refine callS (szGame_c g _ (by omega) (by omega) hn) rfl rfl rfl ?_
      | refine callL (toGame_c 21 g (by omega)) rfl rfl rfl ?_
      | refine callL (toGame_c 26 g (by omega)) rfl rfl rfl ?_
      | refine callL (toGame_c 43 g (by omega)) rfl rfl rfl ?_
      | refine callL (toGame_c 75 g (by omega)) rfl rfl rfl ?_
      | refine callL (UseHint_c 22 g hg (by omega)) rfl rfl rfl ?_
      | refine callL (iUseHint_c 29 g hg (by omega)) rfl rfl rfl ?_
      | refine callL (iUseHint_c 76 g hg (by omega)) rfl rfl rfl ?_
      | refine callS (eqGame_c g (by omega)) rfl rfl rfl ?_
      | refine callS (eqGame_c (hintR g) (by omega)) rfl rfl rfl ?_
      | refine callI (markGame_c 26 g _ (by omega) (by omega) (by omega)) ⟨⟨rfl, rfl, rfl⟩, rfl, trivial⟩ rfl rfl rfl ?_
      | refine callI (markGame_c 29 (hintR g) _ (by omega) (by omega) (by omega)) ⟨⟨rfl, rfl, rfl⟩, rfl, trivial⟩ rfl rfl rfl ?_
      | refine callS (heldGame_c (hintR g) _ _ (by omega) (by omega) (by omega)) rfl rfl rfl ?_
    all_goals exact fin_scal rfl rfl
  · repeat' first
      | (first | simp -implicitDefEqProofs only [hs, go_sem, Nat.reduceLT, Nat.reduceLeDiff, Nat.reduceEqDiff, Nat.reduceAdd, Nat.reduceSub, Nat.reduceMul, Int.reduceEq, Int.reduceLT, Int.reduceLE, Int.reduceNeg, Int.reduceAdd, Int.reduceSub, Int.reduceMul, Int.reduceToNat, reduceIte, reduceCtorEq, List.map_cons, List.map_nil] | (refine And.intro ?_ ?_; omega) | (refine And.intro (shr_bd ?_ ?_) ?_; omega; omega) | refine sl_list rfl ?_ | refine sd_list rfl ?_ | refine sl_str ?_ | refine sd_str ?_)
      | refine callS (szGame_c g _ (by omega) (by omega) hn) rfl rfl rfl ?_
    all_goals exact fin_scal rfl rfl
theorem fnExactUseHint.law_c {cs : List C} (h : All2 TC [.z (.i .i64), .z (.i .i64), .z (.i .i64), .z (.i .i64), .z (.i .i64), .l 3 true [.i .i64, .i .i64, .i .i64], .z (.i .i64), .z (.i .i64)] cs) : PC Try.prog 6 [] [.a cs] (vB true) ⟨[], []⟩ := by
  obtain ⟨g, rfl, hx, hn⟩ := gm_of h
  exact lawUseHint_c g hx hn
end Go.Proofs.Ytncdcgaaeclhiaa
