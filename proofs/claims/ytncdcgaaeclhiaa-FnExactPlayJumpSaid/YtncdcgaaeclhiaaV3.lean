/-
  The law on making a jump.
-/
import Derived.Test.YtncdcgaaeclhiaaV1
import Derived.Test.YtncdcgaaeclhiaaN4
namespace Go.Proofs.Ytncdcgaaeclhiaa
open Go.PL
set_option linter.unusedSimpArgs false
theorem toLine_c' (r : Ln) : PC Try.prog 17 [] [.a (lineC r)] (.s (.a (lineC r))) ⟨[], []⟩ := toLine_c r
set_option maxHeartbeats 8000000 in
theorem lawMakeJump_c (g : Gm) (l : Ln) (hx : pzIn g.x) (hn : g.j.length ≤ maxLen) : PC Try.prog 4 [] [.a (gmL g), .a (lineC l)] (vB true) ⟨[], []⟩ := by
  refine pc_of Try.func4 rfl (by kernel_rfl) _ Try.ntmps4 (by simp) ?_
  by_cases hs : (g.j.length : Int) ≤ 1048576
  · have e : (1048576 - (g.j.length : Int) < 0) = False := by simp; omega
    have hg : GmIn g := ⟨hx, by omega⟩
    have hl := makeG_len (g := g) (l := l) (by omega)
    have e2 : (1 + 3 * ((makeG g l).j.length : Int) < 0) = False := by simp; omega
    have e3 : (1 + 3 * (g.j.length : Int) < 0) = False := by simp; omega
    repeat' first
      | (first | simp -implicitDefEqProofs only [hs, e, e2, e3, go_sem, Nat.reduceLT, Nat.reduceLeDiff, Nat.reduceEqDiff, Nat.reduceAdd, Nat.reduceSub, Nat.reduceMul, Int.reduceEq, Int.reduceLT, Int.reduceLE, Int.reduceNeg, Int.reduceAdd, Int.reduceSub, Int.reduceMul, Int.reduceToNat, reduceIte, reduceCtorEq, List.map_cons, List.map_nil] | (refine And.intro ?_ ?_; omega) | (refine And.intro (shr_bd ?_ ?_) ?_; omega; omega) | refine sl_list rfl ?_ | refine sd_list rfl ?_ | refine sl_str ?_ | refine sd_str ?_)
      | refine draw_stepY Try.pl_follows (by kernel_rfl) ?_
      | refine callS (szGame_c g _ (by omega) (by omega) hn) rfl rfl rfl ?_
      | refine callS (toLine_c l) rfl rfl rfl ?_
      | refine callL (toGame_c 23 g (by omega)) rfl rfl rfl ?_
      | refine callL (toGame_c 30 g (by omega)) rfl rfl rfl ?_
      | refine callL (toGame_c 49 g (by omega)) rfl rfl rfl ?_
      | refine callL (toGame_c 81 g (by omega)) rfl rfl rfl ?_
      | refine callL (MakeJump_c 26 g l hg (by omega)) rfl rfl rfl ?_
      | refine callL (iMakeJump_c 35 g l hg (by omega)) rfl rfl rfl ?_
      | refine callL (iMakeJump_c 84 g l hg (by omega)) rfl rfl rfl ?_
      | refine callS (eqGame_c g (by omega)) rfl rfl rfl ?_
      | refine callS (eqGame_c (makeG g l) (by omega)) rfl rfl rfl ?_
      | refine callI (markGame_c 30 g _ (by omega) (by omega) (by omega)) ⟨⟨rfl, rfl, rfl⟩, rfl, trivial⟩ rfl rfl rfl ?_
      | refine callI (markGame_c 35 (makeG g l) _ (by omega) (by omega) (by omega)) ⟨⟨rfl, rfl, rfl⟩, rfl, trivial⟩ rfl rfl rfl ?_
      | refine callS (heldGame_c (makeG g l) _ _ (by omega) (by omega) (by omega)) rfl rfl rfl ?_
    all_goals exact fin_scal rfl rfl
  · repeat' first
      | (first | simp -implicitDefEqProofs only [hs, go_sem, Nat.reduceLT, Nat.reduceLeDiff, Nat.reduceEqDiff, Nat.reduceAdd, Nat.reduceSub, Nat.reduceMul, Int.reduceEq, Int.reduceLT, Int.reduceLE, Int.reduceNeg, Int.reduceAdd, Int.reduceSub, Int.reduceMul, Int.reduceToNat, reduceIte, reduceCtorEq, List.map_cons, List.map_nil] | (refine And.intro ?_ ?_; omega) | (refine And.intro (shr_bd ?_ ?_) ?_; omega; omega) | refine sl_list rfl ?_ | refine sd_list rfl ?_ | refine sl_str ?_ | refine sd_str ?_)
      | refine callS (szGame_c g _ (by omega) (by omega) hn) rfl rfl rfl ?_
    all_goals exact fin_scal rfl rfl
theorem ln_of {cs : List C} (h : All2 TC [.z (.i .i64), .z (.i .i64), .z (.i .i64)] cs) : ∃ l : Ln, cs = lineC l := by
  obtain ⟨c1, r1, rfl, h1, g1⟩ := all2_cons h
  obtain ⟨c2, r2, rfl, h2, g2⟩ := all2_cons g1
  obtain ⟨c3, r3, rfl, h3, g3⟩ := all2_cons g2
  obtain rfl := all2_nil g3
  obtain ⟨a, rfl, _⟩ := tc_i h1
  obtain ⟨b, rfl, _⟩ := tc_i h2
  obtain ⟨c, rfl, _⟩ := tc_i h3
  exact ⟨⟨a, b, c⟩, rfl⟩
theorem fnExactMakeJump.law_c {cs ds : List C} (h : All2 TC [.z (.i .i64), .z (.i .i64), .z (.i .i64), .z (.i .i64), .z (.i .i64), .l 3 true [.i .i64, .i .i64, .i .i64], .z (.i .i64), .z (.i .i64)] cs) (h' : All2 TC [.z (.i .i64), .z (.i .i64), .z (.i .i64)] ds) : PC Try.prog 4 [] [.a cs, .a ds] (vB true) ⟨[], []⟩ := by
  obtain ⟨g, rfl, hx, hn⟩ := gm_of h
  obtain ⟨l, rfl⟩ := ln_of h'
  exact lawMakeJump_c g l hx hn
end Go.Proofs.Ytncdcgaaeclhiaa
