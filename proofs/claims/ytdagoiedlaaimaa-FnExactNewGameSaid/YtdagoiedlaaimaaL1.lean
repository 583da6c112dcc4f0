/-
  What the functions of the law on acts compute, and that the law answers true.
-/
import Derived.Test.YtdagoiedlaaimaaFa
import Derived.Test.YtdagoiedlaaimaaEg
namespace Go.Proofs.Ytdagoiedlaaimaa
open Go.PL
set_option linter.unusedSimpArgs false
def within (n lo hi : Int) : Bool := decide (lo ≤ n) && decide (n ≤ hi)
theorem within_c (a b c : Int) : PC Try.prog 64 [] [.c (.v (.int .i64 a)), .c (.v (.int .i64 b)), .c (.v (.int .i64 c))] (vB (within a b c)) ⟨[], []⟩ := by
  refine pc_of Try.func64 rfl (by kernel_rfl) _ Try.ntmps64 (by simp) ?_
  simp -implicitDefEqProofs only [go_sem, Nat.reduceLT, Nat.reduceLeDiff, Nat.reduceEqDiff, Nat.reduceAdd, Nat.reduceSub, Nat.reduceMul, Int.reduceEq, Int.reduceLT, Int.reduceLE, Int.reduceNeg, Int.reduceAdd, Int.reduceSub, Int.reduceMul, Int.reduceToNat, reduceIte, reduceCtorEq, List.map_cons, List.map_nil]
  refine grd_split (fun h => ?_) (fun h => ?_) <;> simp -implicitDefEqProofs only [h, go_sem, Nat.reduceLT, Nat.reduceLeDiff, Nat.reduceEqDiff, Nat.reduceAdd, Nat.reduceSub, Nat.reduceMul, Int.reduceEq, Int.reduceLT, Int.reduceLE, Int.reduceNeg, Int.reduceAdd, Int.reduceSub, Int.reduceMul, Int.reduceToNat, reduceIte, reduceCtorEq, List.map_cons, List.map_nil] <;> exact fin_scal rfl (by simp [within, vB, vV, h])
theorem l01In_c (a b c : Int) : PC Try.prog 63 [] [.c (.v (.int .i64 a)), .c (.v (.int .i64 b)), .c (.v (.int .i64 c))] (vB (within a b c)) ⟨[], []⟩ := by
  refine pc_of Try.func63 rfl (by kernel_rfl) _ Try.ntmps63 (by simp) ?_
  simp -implicitDefEqProofs only [go_sem, Nat.reduceLT, Nat.reduceLeDiff, Nat.reduceEqDiff, Nat.reduceAdd, Nat.reduceSub, Nat.reduceMul, Int.reduceEq, Int.reduceLT, Int.reduceLE, Int.reduceNeg, Int.reduceAdd, Int.reduceSub, Int.reduceMul, Int.reduceToNat, reduceIte, reduceCtorEq, List.map_cons, List.map_nil]
  refine grd_split (fun h => ?_) (fun h => ?_) <;> simp -implicitDefEqProofs only [h, go_sem, Nat.reduceLT, Nat.reduceLeDiff, Nat.reduceEqDiff, Nat.reduceAdd, Nat.reduceSub, Nat.reduceMul, Int.reduceEq, Int.reduceLT, Int.reduceLE, Int.reduceNeg, Int.reduceAdd, Int.reduceSub, Int.reduceMul, Int.reduceToNat, reduceIte, reduceCtorEq, List.map_cons, List.map_nil] <;> exact fin_scal rfl (by simp [within, vB, vV, h])
theorem toAct_c (a b c : Int) : PC Try.prog 16 [] [.a [.v (.int .i64 a), .v (.int .i64 b), .v (.int .i64 c)]] (.s (.a [.v (.int .i64 a), .v (.int .i64 b), .v (.int .i64 c)])) ⟨[], []⟩ := by
  refine pc_of Try.func16 rfl (by kernel_rfl) _ Try.ntmps16 (by simp) ?_
  simp -implicitDefEqProofs only [go_sem, Nat.reduceLT, Nat.reduceLeDiff, Nat.reduceEqDiff, Nat.reduceAdd, Nat.reduceSub, Nat.reduceMul, Int.reduceEq, Int.reduceLT, Int.reduceLE, Int.reduceNeg, Int.reduceAdd, Int.reduceSub, Int.reduceMul, Int.reduceToNat, reduceIte, reduceCtorEq, List.map_cons, List.map_nil]
  exact fin_scal rfl rfl
def actOk (k a b : Int) : Bool :=
  if k = 1 then within a 0 48 && within b 0 48
  else if k = 2 then within a 0 100 && decide (b = 0)
  else if k = 4 then within a 0 999 && within b 0 9999
  else if k = 3 ∨ k = 5 then decide (a = 0) && decide (b = 0)
  else false
theorem ActOk_c (a b c : Int) : PC Try.prog 15 [] [.a [.v (.int .i64 a), .v (.int .i64 b), .v (.int .i64 c)]] (vB (actOk a b c)) ⟨[], []⟩ := by
  refine pc_of Try.func15 rfl (by kernel_rfl) _ Try.ntmps15 (by simp) ?_
  simp -implicitDefEqProofs only [go_sem, Nat.reduceLT, Nat.reduceLeDiff, Nat.reduceEqDiff, Nat.reduceAdd, Nat.reduceSub, Nat.reduceMul, Int.reduceEq, Int.reduceLT, Int.reduceLE, Int.reduceNeg, Int.reduceAdd, Int.reduceSub, Int.reduceMul, Int.reduceToNat, reduceIte, reduceCtorEq, List.map_cons, List.map_nil]
  repeat' first
    | simp -implicitDefEqProofs only [*, go_sem, Nat.reduceLT, Nat.reduceLeDiff, Nat.reduceEqDiff, Nat.reduceAdd, Nat.reduceSub, Nat.reduceMul, Int.reduceEq, Int.reduceLT, Int.reduceLE, Int.reduceNeg, Int.reduceAdd, Int.reduceSub, Int.reduceMul, Int.reduceToNat, reduceIte, reduceCtorEq, List.map_cons, List.map_nil]
    | refine if_split (fun h => ?_) (fun h => ?_)
    | refine grd_split (fun h => ?_) (fun h => ?_)
    | refine callS (l01In_c _ _ _) rfl rfl rfl ?_
  all_goals exact fin_scal rfl (by simp_all [actOk, vB, vV])
theorem iActOk_c (a b c : Int) : PC Try.prog 17 [] [.a [.v (.int .i64 a), .v (.int .i64 b), .v (.int .i64 c)]] (vB (actOk a b c)) ⟨[], []⟩ := by
  refine pc_of Try.func17 rfl (by kernel_rfl) _ Try.ntmps17 (by simp) ?_
  simp -implicitDefEqProofs only [go_sem, Nat.reduceLT, Nat.reduceLeDiff, Nat.reduceEqDiff, Nat.reduceAdd, Nat.reduceSub, Nat.reduceMul, Int.reduceEq, Int.reduceLT, Int.reduceLE, Int.reduceNeg, Int.reduceAdd, Int.reduceSub, Int.reduceMul, Int.reduceToNat, reduceIte, reduceCtorEq, List.map_cons, List.map_nil]
  repeat' first
    | simp -implicitDefEqProofs only [*, go_sem, Nat.reduceLT, Nat.reduceLeDiff, Nat.reduceEqDiff, Nat.reduceAdd, Nat.reduceSub, Nat.reduceMul, Int.reduceEq, Int.reduceLT, Int.reduceLE, Int.reduceNeg, Int.reduceAdd, Int.reduceSub, Int.reduceMul, Int.reduceToNat, reduceIte, reduceCtorEq, List.map_cons, List.map_nil]
    | refine if_split (fun h => ?_) (fun h => ?_)
    | refine grd_split (fun h => ?_) (fun h => ?_)
    | refine callS (within_c _ _ _) rfl rfl rfl ?_
  all_goals exact fin_scal rfl (by simp_all [actOk, vB, vV])
theorem lawActOk_c (a b c : Int) : PC Try.prog 3 [] [.a [.v (.int .i64 a), .v (.int .i64 b), .v (.int .i64 c)]] (vB true) ⟨[], []⟩ := by
  refine pc_of Try.func3 rfl (by kernel_rfl) _ Try.ntmps3 (by simp) ?_
  simp -implicitDefEqProofs only [go_sem, Nat.reduceLT, Nat.reduceLeDiff, Nat.reduceEqDiff, Nat.reduceAdd, Nat.reduceSub, Nat.reduceMul, Int.reduceEq, Int.reduceLT, Int.reduceLE, Int.reduceNeg, Int.reduceAdd, Int.reduceSub, Int.reduceMul, Int.reduceToNat, reduceIte, reduceCtorEq, List.map_cons, List.map_nil]
  repeat' first
    | simp -implicitDefEqProofs only [*, go_sem, Nat.reduceLT, Nat.reduceLeDiff, Nat.reduceEqDiff, Nat.reduceAdd, Nat.reduceSub, Nat.reduceMul, Int.reduceEq, Int.reduceLT, Int.reduceLE, Int.reduceNeg, Int.reduceAdd, Int.reduceSub, Int.reduceMul, Int.reduceToNat, reduceIte, reduceCtorEq, List.map_cons, List.map_nil]
    | refine if_split (fun h => ?_) (fun h => ?_)
    | refine grd_split (fun h => ?_) (fun h => ?_)
    | refine callS (toAct_c _ _ _) rfl rfl rfl ?_
    | refine callS (ActOk_c _ _ _) rfl rfl rfl ?_
    | refine callS (iActOk_c _ _ _) rfl rfl rfl ?_
  all_goals first | exact fin_scal rfl rfl | exact fin_scal rfl (by simp_all [vB, vV])
theorem fnExactActOk.law_c {cs : List C} (h : All2 TC [.z (.i .i64), .z (.i .i64), .z (.i .i64)] cs) : PC Try.prog 3 [] [.a cs] (vB true) ⟨[], []⟩ := by
  obtain ⟨c1, r1, rfl, h1, h⟩ := all2_cons h
  obtain ⟨c2, r2, rfl, h2, h⟩ := all2_cons h
  obtain ⟨c3, r3, rfl, h3, h⟩ := all2_cons h
  obtain rfl := all2_nil h
  obtain ⟨a, rfl, _⟩ := tc_i h1
  obtain ⟨b, rfl, _⟩ := tc_i h2
  obtain ⟨c, rfl, _⟩ := tc_i h3
  exact lawActOk_c a b c
end Go.Proofs.Ytdagoiedlaaimaa
