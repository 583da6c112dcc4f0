/-
  What the functions of the laws compute that copy a puzzle and compare games.
-/
import Derived.Test.YtncdcgaaeclhiaaN1
import Derived.Test.YtncdcgaaeclhiaaTLe
namespace Go.Proofs.Ytncdcgaaeclhiaa
open Go.PL
set_option linter.unusedSimpArgs false
structure Gm where
  x : Pz
  j : List Ln
  h : Int
  u : Int
/-- a game whose list of jumps is this value -/
abbrev gmC (g : Gm) (c : C) : List C := [.v (.int .i64 g.x.b.w), .v (.int .i64 g.x.b.h), .v (.int .i64 g.x.b.n), .v (.int .i64 g.x.s), .v (.int .i64 g.x.g), c, .v (.int .i64 g.h), .v (.int .i64 g.u)]
abbrev gmL (g : Gm) : List C := gmC g (.l 3 (g.j.map lineV))
theorem toPuzzle_c (x : Pz) : PC Try.prog 47 [] [.a (pzC x)] (.s (.a (pzC x))) ⟨[], []⟩ := by
  refine pc_of Try.func47 rfl (by kernel_rfl) _ Try.ntmps47 (by simp) ?_
  repeat' first
    | (first | simp -implicitDefEqProofs only [go_sem, Nat.reduceLT, Nat.reduceLeDiff, Nat.reduceEqDiff, Nat.reduceAdd, Nat.reduceSub, Nat.reduceMul, Int.reduceEq, Int.reduceLT, Int.reduceLE, Int.reduceNeg, Int.reduceAdd, Int.reduceSub, Int.reduceMul, Int.reduceToNat, reduceIte, reduceCtorEq, List.map_cons, List.map_nil] | (refine And.intro ?_ ?_; omega) | (refine And.intro (shr_bd ?_ ?_) ?_; omega; omega) | refine sl_list rfl ?_ | refine sd_list rfl ?_ | refine sl_str ?_ | refine sd_str ?_)
    | refine callS (toBoard_c x.b) rfl rfl rfl ?_
  exact fin_scal rfl rfl
theorem eqBoard_c (b : Brd) : PC Try.prog 100 [] [.a (brdC b), .a (brdC b)] (vB true) ⟨[], []⟩ := by
  refine pc_of Try.func100 rfl (by kernel_rfl) _ Try.ntmps100 (by simp) ?_
  (repeat' (first | simp -implicitDefEqProofs only [go_sem, Nat.reduceLT, Nat.reduceLeDiff, Nat.reduceEqDiff, Nat.reduceAdd, Nat.reduceSub, Nat.reduceMul, Int.reduceEq, Int.reduceLT, Int.reduceLE, Int.reduceNeg, Int.reduceAdd, Int.reduceSub, Int.reduceMul, Int.reduceToNat, reduceIte, reduceCtorEq, List.map_cons, List.map_nil] | (refine And.intro ?_ ?_; omega) | (refine And.intro (shr_bd ?_ ?_) ?_; omega; omega) | refine sl_list rfl ?_ | refine sd_list rfl ?_ | refine sl_str ?_ | refine sd_str ?_))
  exact fin_scal rfl rfl
theorem eqPuzzle_c (x : Pz) : PC Try.prog 51 [] [.a (pzC x), .a (pzC x)] (vB true) ⟨[], []⟩ := by
  refine pc_of Try.func51 rfl (by kernel_rfl) _ Try.ntmps51 (by simp) ?_
  repeat' first
    | (first | simp -implicitDefEqProofs only [go_sem, Nat.reduceLT, Nat.reduceLeDiff, Nat.reduceEqDiff, Nat.reduceAdd, Nat.reduceSub, Nat.reduceMul, Int.reduceEq, Int.reduceLT, Int.reduceLE, Int.reduceNeg, Int.reduceAdd, Int.reduceSub, Int.reduceMul, Int.reduceToNat, reduceIte, reduceCtorEq, List.map_cons, List.map_nil] | (refine And.intro ?_ ?_; omega) | (refine And.intro (shr_bd ?_ ?_) ?_; omega; omega) | refine sl_list rfl ?_ | refine sd_list rfl ?_ | refine sl_str ?_ | refine sd_str ?_)
    | refine callS (eqBoard_c x.b) rfl rfl rfl ?_
  exact fin_scal rfl rfl
theorem eqGame_c (g : Gm) (hn : g.j.length ≤ 4194304) : PC Try.prog 19 [] [.a (gmL g), .a (gmL g)] (vB true) ⟨[], []⟩ := by
  refine pc_of Try.func19 rfl (by kernel_rfl) _ Try.ntmps19 (by simp) ?_
  repeat' first
    | (first | simp -implicitDefEqProofs only [go_sem, Nat.reduceLT, Nat.reduceLeDiff, Nat.reduceEqDiff, Nat.reduceAdd, Nat.reduceSub, Nat.reduceMul, Int.reduceEq, Int.reduceLT, Int.reduceLE, Int.reduceNeg, Int.reduceAdd, Int.reduceSub, Int.reduceMul, Int.reduceToNat, reduceIte, reduceCtorEq, List.map_cons, List.map_nil] | (refine And.intro ?_ ?_; omega) | (refine And.intro (shr_bd ?_ ?_) ?_; omega; omega) | refine sl_list rfl ?_ | refine sd_list rfl ?_ | refine sl_str ?_ | refine sd_str ?_)
    | refine callS (eqPuzzle_c g.x) rfl rfl rfl ?_
    | refine callS (eqLineS_c g.j hn) rfl rfl rfl ?_
  exact fin_scal rfl rfl
end Go.Proofs.Ytncdcgaaeclhiaa
