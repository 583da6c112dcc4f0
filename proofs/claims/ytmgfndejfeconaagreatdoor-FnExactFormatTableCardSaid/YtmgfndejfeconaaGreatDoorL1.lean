/-
  What the functions of the law on acts compute, and that the law answers true.
-/
import Derived.Test.YtmgfndejfeconaaGreatDoorFa
import Derived.Test.YtmgfndejfeconaaGreatDoorEg
namespace Go.Proofs.YtmgfndejfeconaaGreatDoor
open Go.PL
set_option linter.unusedSimpArgs false
def within (n lo hi : Int) : Bool := decide (lo ≤ n) && decide (n ≤ hi)
theorem within_c (a b c : Int) : PC Tryz.prog 53 [] [.c (.v (.int .i64 a)), .c (.v (.int .i64 b)), .c (.v (.int .i64 c))] (vB (within a b c)) ⟨[], []⟩ := by
  refine pc_of Tryz.func53 rfl (by kernel_rfl) _ Tryz.ntmps53 (by simp) ?_
  simp -implicitDefEqProofs only [go_sem]
  refine grd_split (fun h => ?_) (fun h => ?_) <;> simp -implicitDefEqProofs only [h, go_sem] <;> exact fin_scal rfl (by simp [within, vB, vV, h])
theorem l01In_c (a b c : Int) : PC Tryz.prog 40 [] [.c (.v (.int .i64 a)), .c (.v (.int .i64 b)), .c (.v (.int .i64 c))] (vB (within a b c)) ⟨[], []⟩ := by
  refine pc_of Tryz.func40 rfl (by kernel_rfl) _ Tryz.ntmps40 (by simp) ?_
  simp -implicitDefEqProofs only [go_sem]
  refine grd_split (fun h => ?_) (fun h => ?_) <;> simp -implicitDefEqProofs only [h, go_sem] <;> exact fin_scal rfl (by simp [within, vB, vV, h])
def actOk (k a b : Int) : Bool :=
  if k = 1 then within a 0 48 && within b 0 48
  else if k = 2 then within a 0 100 && decide (b = 0)
  else if k = 4 then within a 0 999 && within b 0 9999
  else if k = 3 ∨ k = 5 then decide (a = 0) && decide (b = 0)
  else false
end Go.Proofs.YtmgfndejfeconaaGreatDoor
