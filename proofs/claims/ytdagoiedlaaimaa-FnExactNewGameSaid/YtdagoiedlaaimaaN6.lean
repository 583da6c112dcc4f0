/-
  The law on new games.
-/
import Derived.Test.YtdagoiedlaaimaaN3
import Derived.Test.YtdagoiedlaaimaaN5
import Derived.Test.YtdagoiedlaaimaaL7
namespace Go.Proofs.Ytdagoiedlaaimaa
open Go.PL
set_option linter.unusedSimpArgs false
set_option maxHeartbeats 4000000 in
theorem lawNewGame_c (x : Pz) (hx : pzIn x) : PC Try.prog 12 [] [.a (pzC x)] (vB true) ⟨[], []⟩ := by
  refine pc_of Try.func12 rfl (by kernel_rfl) _ Try.ntmps12 (by simp) ?_
  repeat' first
    | (first | simp -implicitDefEqProofs only [go_sem, Nat.reduceLT, Nat.reduceLeDiff, Nat.reduceEqDiff, Nat.reduceAdd, Nat.reduceSub, Nat.reduceMul, Int.reduceEq, Int.reduceLT, Int.reduceLE, Int.reduceNeg, Int.reduceAdd, Int.reduceSub, Int.reduceMul, Int.reduceToNat, reduceIte, reduceCtorEq, List.map_cons, List.map_nil] | (refine And.intro ?_ ?_; omega) | refine sl_list rfl ?_ | refine sd_list rfl ?_ | refine sl_str ?_ | refine sd_str ?_)
    | refine callS (toPuzzle_c x) rfl rfl rfl ?_
    | refine callL (NewGame_c 14 x hx) rfl rfl rfl ?_
    | refine callL (iNewGame_c 20 x hx) rfl rfl rfl ?_
    | refine callL (iNewGame_c 46 x hx) rfl rfl rfl ?_
    | refine callS (eqGame_c ⟨newPz x, [], 0, 0⟩ (by simp)) rfl rfl rfl ?_
    | refine callI (markGame_c 20 ⟨newPz x, [], 0, 0⟩ 1 (by simp) (by omega) (by omega)) ⟨⟨rfl, rfl, rfl⟩, rfl, trivial⟩ rfl rfl rfl ?_
    | refine callS (heldGame_c ⟨newPz x, [], 0, 0⟩ 0 1 (by simp) (by omega) (by omega)) rfl rfl rfl ?_
  all_goals exact fin_scal rfl rfl
theorem pz_of {cs : List C} (h : All2 TC [.z (.i .i64), .z (.i .i64), .z (.i .i64), .z (.i .i64), .z (.i .i64)] cs) : ∃ x : Pz, cs = pzC x ∧ pzIn x := by
  obtain ⟨c1, r1, rfl, h1, g1⟩ := all2_cons h
  obtain ⟨c2, r2, rfl, h2, g2⟩ := all2_cons g1
  obtain ⟨c3, r3, rfl, h3, g3⟩ := all2_cons g2
  obtain ⟨c4, r4, rfl, h4, g4⟩ := all2_cons g3
  obtain ⟨c5, r5, rfl, h5, g5⟩ := all2_cons g4
  obtain rfl := all2_nil g5
  obtain ⟨a, rfl, _⟩ := tc_i h1
  obtain ⟨b, rfl, _⟩ := tc_i h2
  obtain ⟨c, rfl, _⟩ := tc_i h3
  obtain ⟨s, rfl, i4⟩ := tc_i h4
  obtain ⟨g, rfl, i5⟩ := tc_i h5
  rw [inK_i64] at i4 i5
  exact ⟨⟨⟨a, b, c⟩, s, g⟩, rfl, i4.2, i5.2⟩
theorem fnExactNewGame.law_c {cs : List C} (h : All2 TC [.z (.i .i64), .z (.i .i64), .z (.i .i64), .z (.i .i64), .z (.i .i64)] cs) : PC Try.prog 12 [] [.a cs] (vB true) ⟨[], []⟩ := by
  obtain ⟨x, rfl, hx⟩ := pz_of h
  exact lawNewGame_c x hx
end Go.Proofs.Ytdagoiedlaaimaa
