/-
  What the functions of the law on acts compute, and that the law answers true.
-/
import Derived.Test.YtlplopaahflcpaaDoorFa
import Derived.Test.YtlplopaahflcpaaDoorEg
namespace Go.Proofs.YtlplopaahflcpaaDoor
open Go.PL
set_option linter.unusedSimpArgs false
def within (n lo hi : Int) : Bool := decide (lo ≤ n) && decide (n ≤ hi)
theorem within_c (a b c : Int) : PC Tryd.prog 21 [] [.c (.v (.int .i64 a)), .c (.v (.int .i64 b)), .c (.v (.int .i64 c))] (vB (within a b c)) ⟨[], []⟩ := by
  refine pc_of Tryd.func21 rfl (by kernel_rfl) _ Tryd.ntmps21 (by simp) ?_
  simp -implicitDefEqProofs only [go_sem]
  refine grd_split (fun h => ?_) (fun h => ?_) <;> simp -implicitDefEqProofs only [h, go_sem] <;> exact fin_scal rfl (by simp [within, vB, vV, h])
theorem l01In_c (a b c : Int) : PC Tryd.prog 8 [] [.c (.v (.int .i64 a)), .c (.v (.int .i64 b)), .c (.v (.int .i64 c))] (vB (within a b c)) ⟨[], []⟩ := by
  refine pc_of Tryd.func8 rfl (by kernel_rfl) _ Tryd.ntmps8 (by simp) ?_
  simp -implicitDefEqProofs only [go_sem]
  refine grd_split (fun h => ?_) (fun h => ?_) <;> simp -implicitDefEqProofs only [h, go_sem] <;> exact fin_scal rfl (by simp [within, vB, vV, h])
def actOk (k a b : Int) : Bool :=
  if k = 1 then within a 0 48 && within b 0 48
  else if k = 2 then within a 0 100 && decide (b = 0)
  else if k = 4 then within a 0 999 && within b 0 9999
  else if k = 3 ∨ k = 5 then decide (a = 0) && decide (b = 0)
  else false
theorem ActOk_c (a b c : Int) : PC Tryd.prog 17 [] [.a [.v (.int .i64 a), .v (.int .i64 b), .v (.int .i64 c)]] (vB (actOk a b c)) ⟨[], []⟩ := by
  refine pc_of Tryd.func17 rfl (by kernel_rfl) _ Tryd.ntmps17 (by simp) ?_
  simp -implicitDefEqProofs only [go_sem]
  repeat' first
    | simp -implicitDefEqProofs only [*, go_sem]
    | refine if_split (fun h => ?_) (fun h => ?_)
    | refine grd_split (fun h => ?_) (fun h => ?_)
    | refine callS (l01In_c _ _ _) rfl rfl rfl ?_
  all_goals exact fin_scal rfl (by simp_all [actOk, vB, vV])
theorem iActOk_c (a b c : Int) : PC Tryd.prog 15 [] [.a [.v (.int .i64 a), .v (.int .i64 b), .v (.int .i64 c)]] (vB (actOk a b c)) ⟨[], []⟩ := by
  refine pc_of Tryd.func15 rfl (by kernel_rfl) _ Tryd.ntmps15 (by simp) ?_
  simp -implicitDefEqProofs only [go_sem]
  repeat' first
    | simp -implicitDefEqProofs only [*, go_sem]
    | refine if_split (fun h => ?_) (fun h => ?_)
    | refine grd_split (fun h => ?_) (fun h => ?_)
    | refine callS (within_c _ _ _) rfl rfl rfl ?_
  all_goals exact fin_scal rfl (by simp_all [actOk, vB, vV])
end Go.Proofs.YtlplopaahflcpaaDoor
