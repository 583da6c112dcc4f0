/-
  The law on lone holes.
-/
import Derived.Test.YtmckpdackhlgbaaQ1
import Derived.Test.YtmckpdackhlgbaaTIe
import Derived.Test.YtmckpdackhlgbaaTIm
namespace Go.Proofs.Ytmckpdackhlgbaa
open Go.PL
set_option linter.unusedSimpArgs false
theorem lone_len {b : Brd} : (loneHoles b).length ≤ 1048576 := by
  have h1 := List.length_filter_le (isLone b) (holesOf b)
  have h2 := holes_len (b := b)
  unfold loneHoles; omega
set_option maxHeartbeats 4000000 in
theorem lawLoneHoles_c (b : Brd) : PC Try.prog 3 [] [.a (brdC b)] (vB true) ⟨[], []⟩ := by
  refine pc_of Try.func3 rfl (by kernel_rfl) _ Try.ntmps3 (by simp) ?_
  have hl := lone_len (b := b)
  have e : (1 + ((loneHoles b).length : Int) < 0) = False := by simp; omega
  repeat' first
    | (first | simp -implicitDefEqProofs only [e, go_sem, Nat.reduceLT, Nat.reduceLeDiff, Nat.reduceEqDiff, Nat.reduceAdd, Nat.reduceSub, Nat.reduceMul, Int.reduceEq, Int.reduceLT, Int.reduceLE, Int.reduceNeg, Int.reduceAdd, Int.reduceSub, Int.reduceMul, Int.reduceToNat, reduceIte, reduceCtorEq, List.map_cons, List.map_nil] | (refine And.intro ?_ ?_; omega) | refine sl_list rfl ?_ | refine sd_list rfl ?_ | refine sl_str ?_ | refine sd_str ?_)
    | refine callS (toBoard_c b) rfl rfl rfl ?_
    | refine callL (LoneHoles_c 10 b) rfl rfl rfl ?_
    | refine callL (iLoneHoles_c 13 b) rfl rfl rfl ?_
    | refine callL (iLoneHoles_c 31 b) rfl rfl rfl ?_
    | refine callS (eqIntS_c _ hl) rfl rfl rfl ?_
    | refine callI (markIntS_c 13 _ 1 hl (by omega) (by omega)) ⟨⟨rfl, rfl, rfl⟩, rfl, trivial⟩ rfl rfl rfl ?_
    | refine callS (heldIntS_c _ _ hl (by omega) (by omega)) rfl rfl rfl ?_
  all_goals exact fin_scal rfl rfl
theorem fnExactLoneHoles.law_c {cs : List C} (h : All2 TC [.z (.i .i64), .z (.i .i64), .z (.i .i64)] cs) : PC Try.prog 3 [] [.a cs] (vB true) ⟨[], []⟩ := by
  obtain ⟨b, rfl⟩ := brd_of h
  exact lawLoneHoles_c b
end Go.Proofs.Ytmckpdackhlgbaa
