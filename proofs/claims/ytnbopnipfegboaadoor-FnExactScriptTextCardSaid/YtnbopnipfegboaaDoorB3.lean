/-
  The laws on printed acts and scripts; what ScriptText computes.
-/
import Derived.Test.YtnbopnipfegboaaDoorB2
import Derived.Test.YtnbopnipfegboaaDoorTAe
namespace Go.Proofs.YtnbopnipfegboaaDoor
open Go.PL
set_option linter.unusedSimpArgs false
theorem lawFormatAct_c (x : Ac) : PC Tryd.prog 3 [] [.a (actC x)] (vB true) ⟨[], []⟩ := by
  refine pc_of Tryd.func3 rfl (by kernel_rfl) _ Tryd.ntmps3 (by simp) ?_
  repeat' first
    | (first | simp -implicitDefEqProofs only [go_sem] | (refine And.intro ?_ ?_; omega) | (refine And.intro (shr_bd ?_ ?_) ?_; omega; omega) | refine sl_list rfl ?_ | refine sd_list rfl ?_ | refine sl_str ?_ | refine sd_str ?_)
    | refine callS (toAct_c x.k x.a x.b) rfl rfl rfl ?_
    | refine callS (FormatAct_c x) rfl rfl rfl ?_
    | refine callS (iFormatAct_c x) rfl rfl rfl ?_
  all_goals exact fin_scal rfl rfl
theorem fnExactFormatAct.law_c {cs : List C} (h : All2 TC [.z (.i .i64), .z (.i .i64), .z (.i .i64)] cs) : PC Tryd.prog 3 [] [.a cs] (vB true) ⟨[], []⟩ := by
  obtain ⟨x, rfl⟩ := ac_of h
  exact lawFormatAct_c x
end Go.Proofs.YtnbopnipfegboaaDoor
