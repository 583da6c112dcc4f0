/-
  What the functions compute that open the sample table; the law on it.
-/
import Derived.Test.YtggejdgohkfmmaaGreatZ1
namespace Go.Proofs.YtggejdgohkfmmaaGreat
open Go.PL
set_option linter.unusedSimpArgs false
abbrev smB : Brd := ⟨3, 3, 511⟩
abbrev smX : Pz := ⟨smB, 35, 256⟩
theorem Rect3_c : PC Tryz.prog 92 [] [.c (.v (.int .i64 3)), .c (.v (.int .i64 3))] (.s (.a (brdC smB))) ⟨[], []⟩ := by
  refine pc_of Tryz.func92 rfl (by kernel_rfl) _ Tryz.ntmps92 (by simp) ?_
  have e : within 3 1 7 = true := by decide
  repeat' first
    | (first | simp -implicitDefEqProofs only [e, go_sem] | (refine And.intro ?_ ?_; omega) | (refine And.intro (shr_bd ?_ ?_) ?_; omega; omega) | refine sl_list rfl ?_ | refine sd_list rfl ?_ | refine sl_str ?_ | refine sd_str ?_)
    | refine callS (l01In_c _ _ _) rfl rfl rfl ?_
  exact fin_scal rfl rfl
theorem SampleTable_c (d e : Nat) (hde : d ≠ e) : PC Tryz.prog 53 [] [] (.s (.a (tbC (openT smX 7 300) (.o d) (.o e)))) ⟨[], [(d, ⟨58, 3, [], false, true⟩), (e, ⟨98, 4, [], false, true⟩)]⟩ := by
  have hed : e ≠ d := fun h => hde h.symm
  have hx : pzIn smX := ⟨by simp, by simp⟩
  refine pc_of Tryz.func53 rfl (by kernel_rfl) _ Tryz.ntmps53 (by simp) ?_
  repeat' first
    | (first | simp -implicitDefEqProofs only [go_sem] | (refine And.intro ?_ ?_; omega) | (refine And.intro (shr_bd ?_ ?_) ?_; omega; omega) | refine sl_list rfl ?_ | refine sd_list rfl ?_ | refine sl_str ?_ | refine sd_str ?_)
    | refine callS Rect3_c rfl rfl rfl ?_
    | refine callL (OpenTable_c 6 1006 (by omega) smX 7 300 hx) rfl rfl rfl ?_
  exact fin_of (fun i => i) (fun i => if i = d then 6 else 1006) ⟨by simp [boxesR, listsR, csR, renC, keyC, optK, fnd, envR, St.get, keyPV, keyV1, renPV, renV1, hasKey, made_zero, hde, hed] <;> omega, by simp [boxesR, listsR, csR, renC, keyC, optK, fnd, envR, St.get, keyPV, keyV1, renPV, renV1, hasKey, made_zero, hde, hed] <;> omega, by simp [boxesR, listsR, csR, renC, keyC, optK, fnd, envR, St.get, keyPV, keyV1, renPV, renV1, hasKey, made_zero, hde, hed] <;> omega, by simp [boxesR, listsR, csR, renC, keyC, optK, fnd, envR, St.get, keyPV, keyV1, renPV, renV1, hasKey, made_zero, hde, hed] <;> omega, by simp [boxesR, listsR, csR, renC, keyC, optK, fnd, envR, St.get, keyPV, keyV1, renPV, renV1, hasKey, made_zero, hde, hed] <;> omega⟩ (by simp [boxesR, listsR, csR, renC, keyC, optK, fnd, envR, St.get, keyPV, keyV1, renPV, renV1, hasKey, made_zero, hde, hed] <;> omega) (by first | rfl | (simp [renPV, renV1, renC, hde, hed]))
end Go.Proofs.YtggejdgohkfmmaaGreat
