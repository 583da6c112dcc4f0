/-
  What the functions of the law on acts compute, and that the law answers true.
-/
import Derived.Test.YtncdcgaaeclhiaaGreatFa
import Derived.Test.YtncdcgaaeclhiaaGreatEg
namespace Go.Proofs.YtncdcgaaeclhiaaGreat
open Go.PL
set_option linter.unusedSimpArgs false
def within (n lo hi : Int) : Bool := decide (lo ≤ n) && decide (n ≤ hi)
theorem within_c (a b c : Int) : PC Tryz.prog 82 [] [.c (.v (.int .i64 a)), .c (.v (.int .i64 b)), .c (.v (.int .i64 c))] (vB (within a b c)) ⟨[], []⟩ := by
  refine pc_of Tryz.func82 rfl (by kernel_rfl) _ Tryz.ntmps82 (by simp) ?_
  simp -implicitDefEqProofs only [go_sem, Nat.reduceLT, Nat.reduceLeDiff, Nat.reduceEqDiff, Nat.reduceAdd, Nat.reduceSub, Nat.reduceMul, Int.reduceEq, Int.reduceLT, Int.reduceLE, Int.reduceNeg, Int.reduceAdd, Int.reduceSub, Int.reduceMul, Int.reduceToNat, reduceIte, reduceCtorEq, List.map_cons, List.map_nil]
  refine grd_split (fun h => ?_) (fun h => ?_) <;> simp -implicitDefEqProofs only [h, go_sem, Nat.reduceLT, Nat.reduceLeDiff, Nat.reduceEqDiff, Nat.reduceAdd, Nat.reduceSub, Nat.reduceMul, Int.reduceEq, Int.reduceLT, Int.reduceLE, Int.reduceNeg, Int.reduceAdd, Int.reduceSub, Int.reduceMul, Int.reduceToNat, reduceIte, reduceCtorEq, List.map_cons, List.map_nil] <;> exact fin_scal rfl (by simp [within, vB, vV, h])
theorem l01In_c (a b c : Int) : PC Tryz.prog 66 [] [.c (.v (.int .i64 a)), .c (.v (.int .i64 b)), .c (.v (.int .i64 c))] (vB (within a b c)) ⟨[], []⟩ := by
  refine pc_of Tryz.func66 rfl (by kernel_rfl) _ Tryz.ntmps66 (by simp) ?_
  simp -implicitDefEqProofs only [go_sem, Nat.reduceLT, Nat.reduceLeDiff, Nat.reduceEqDiff, Nat.reduceAdd, Nat.reduceSub, Nat.reduceMul, Int.reduceEq, Int.reduceLT, Int.reduceLE, Int.reduceNeg, Int.reduceAdd, Int.reduceSub, Int.reduceMul, Int.reduceToNat, reduceIte, reduceCtorEq, List.map_cons, List.map_nil]
  refine grd_split (fun h => ?_) (fun h => ?_) <;> simp -implicitDefEqProofs only [h, go_sem, Nat.reduceLT, Nat.reduceLeDiff, Nat.reduceEqDiff, Nat.reduceAdd, Nat.reduceSub, Nat.reduceMul, Int.reduceEq, Int.reduceLT, Int.reduceLE, Int.reduceNeg, Int.reduceAdd, Int.reduceSub, Int.reduceMul, Int.reduceToNat, reduceIte, reduceCtorEq, List.map_cons, List.map_nil] <;> exact fin_scal rfl (by simp [within, vB, vV, h])
theorem toAct_c (a b c : Int) : PC Tryz.prog 9 [] [.a [.v (.int .i64 a), .v (.int .i64 b), .v (.int .i64 c)]] (.s (.a [.v (.int .i64 a), .v (.int .i64 b), .v (.int .i64 c)])) ⟨[], []⟩ := by
  refine pc_of Tryz.func9 rfl (by kernel_rfl) _ Tryz.ntmps9 (by simp) ?_
  simp -implicitDefEqProofs only [go_sem, Nat.reduceLT, Nat.reduceLeDiff, Nat.reduceEqDiff, Nat.reduceAdd, Nat.reduceSub, Nat.reduceMul, Int.reduceEq, Int.reduceLT, Int.reduceLE, Int.reduceNeg, Int.reduceAdd, Int.reduceSub, Int.reduceMul, Int.reduceToNat, reduceIte, reduceCtorEq, List.map_cons, List.map_nil]
  exact fin_scal rfl rfl
def actOk (k a b : Int) : Bool :=
  if k = 1 then within a 0 48 && within b 0 48
  else if k = 2 then within a 0 100 && decide (b = 0)
  else if k = 4 then within a 0 999 && within b 0 9999
  else if k = 3 ∨ k = 5 then decide (a = 0) && decide (b = 0)
  else false
theorem ActOk_c (a b c : Int) : PC Tryz.prog 30 [] [.a [.v (.int .i64 a), .v (.int .i64 b), .v (.int .i64 c)]] (vB (actOk a b c)) ⟨[], []⟩ := by
  refine pc_of Tryz.func30 rfl (by kernel_rfl) _ Tryz.ntmps30 (by simp) ?_
  simp -implicitDefEqProofs only [go_sem, Nat.reduceLT, Nat.reduceLeDiff, Nat.reduceEqDiff, Nat.reduceAdd, Nat.reduceSub, Nat.reduceMul, Int.reduceEq, Int.reduceLT, Int.reduceLE, Int.reduceNeg, Int.reduceAdd, Int.reduceSub, Int.reduceMul, Int.reduceToNat, reduceIte, reduceCtorEq, List.map_cons, List.map_nil]
  repeat' first
    | simp -implicitDefEqProofs only [*, go_sem, Nat.reduceLT, Nat.reduceLeDiff, Nat.reduceEqDiff, Nat.reduceAdd, Nat.reduceSub, Nat.reduceMul, Int.reduceEq, Int.reduceLT, Int.reduceLE, Int.reduceNeg, Int.reduceAdd, Int.reduceSub, Int.reduceMul, Int.reduceToNat, reduceIte, reduceCtorEq, List.map_cons, List.map_nil]
    | refine if_split (fun h => ?_) (fun h => ?_)
    | refine grd_split (fun h => ?_) (fun h => ?_)
    | refine callS (l01In_c _ _ _) rfl rfl rfl ?_
  all_goals exact fin_scal rfl (by simp_all [actOk, vB, vV])
theorem iActOk_c (a b c : Int) : PC Tryz.prog 42 [] [.a [.v (.int .i64 a), .v (.int .i64 b), .v (.int .i64 c)]] (vB (actOk a b c)) ⟨[], []⟩ := by
  refine pc_of Tryz.func42 rfl (by kernel_rfl) _ Tryz.ntmps42 (by simp) ?_
  simp -implicitDefEqProofs only [go_sem, Nat.reduceLT, Nat.reduceLeDiff, Nat.reduceEqDiff, Nat.reduceAdd, Nat.reduceSub, Nat.reduceMul, Int.reduceEq, Int.reduceLT, Int.reduceLE, Int.reduceNeg, Int.reduceAdd, Int.reduceSub, Int.reduceMul, Int.reduceToNat, reduceIte, reduceCtorEq, List.map_cons, List.map_nil]
  repeat' first
    | simp -implicitDefEqProofs only [*, go_sem, Nat.reduceLT, Nat.reduceLeDiff, Nat.reduceEqDiff, Nat.reduceAdd, Nat.reduceSub, Nat.reduceMul, Int.reduceEq, Int.reduceLT, Int.reduceLE, Int.reduceNeg, Int.reduceAdd, Int.reduceSub, Int.reduceMul, Int.reduceToNat, reduceIte, reduceCtorEq, List.map_cons, List.map_nil]
    | refine if_split (fun h => ?_) (fun h => ?_)
    | refine grd_split (fun h => ?_) (fun h => ?_)
    | refine callS (within_c _ _ _) rfl rfl rfl ?_
  all_goals exact fin_scal rfl (by simp_all [actOk, vB, vV])
end Go.Proofs.YtncdcgaaeclhiaaGreat
