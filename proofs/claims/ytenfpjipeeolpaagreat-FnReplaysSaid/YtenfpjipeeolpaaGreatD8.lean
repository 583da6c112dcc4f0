/-
  Draws of tables.
-/
import Derived.Test.YtenfpjipeeolpaaGreatD7
import Derived.Test.YtenfpjipeeolpaaGreatD2
import Derived.Test.YtenfpjipeeolpaaGreatW1
namespace Go.Proofs.YtenfpjipeeolpaaGreat
open Go.PL
set_option linter.unusedSimpArgs false
/-- what is said of a drawn table -/
structure DrawnT (t : Tb) : Prop where
  g : DrawnG t.g ∨ ∃ h, 0 ≤ h ∧ h ≤ 2 ∧ DrawnG { t.g with h := h } ∧ t.g.h = 0
  c : ClkIn t.c.a t.c.b t.c.c
  n : 1 ≤ t.n ∧ t.n ≤ 9
  r : RsOk t.r
set_option maxHeartbeats 8000000 in
theorem l38Table_ex {B : Bs} (c : Cr B) : ∃ t : Tb, DrawnT t ∧ Drw 27 c [] (.s (.a (tbL t))) := by
  obtain ⟨g, hg, c1, p1⟩ := l37Game_ex c
  obtain ⟨x, y, z, c2, hk, p2⟩ := clock_ex c1
  have b1 := bel_rg c2 (n := 9) (by omega)
  obtain ⟨rs, c3, hr, p3⟩ := recs_ex (belC c2 9)
  by_cases h : belN c3 2 = 0
  · refine ⟨⟨{ g with h := 0 }, ⟨x, y, z⟩, 1 + belN c2 9, rs⟩, ⟨.inr ⟨g.h, hg.h.1, hg.h.2, hg, rfl⟩, hk, by simp only; omega, hr⟩, belC c3 2, ?_⟩
    refine pc_of Tryz.func27 rfl (by kernel_rfl) _ Tryz.ntmps27 (by simp) ?_
    repeat' first
      | (first | simp -implicitDefEqProofs only [h, go_sem] | (refine And.intro ?_ ?_; omega) | (refine And.intro (shr_bd ?_ ?_) ?_; omega; omega) | refine sl_list rfl ?_ | refine sd_list rfl ?_ | refine sl_str ?_ | refine sd_str ?_)
      | refine callC p1 rfl rfl rfl rfl rfl ?_
      | refine callC p2 rfl rfl rfl rfl rfl ?_
      | refine callC (bel_c c2 9) rfl rfl rfl rfl rfl ?_
      | refine callC p3 rfl rfl rfl rfl rfl ?_
      | refine callC (once_c c3 2) rfl rfl rfl rfl rfl ?_
    exact fin_of (fun i => i) (fun i => i) ⟨by simp [boxesR, listsR, csR, renC, keyC, optK, fnd, envR, St.get, keyPV, keyV1, renPV, renV1, hasKey, made_zero] <;> omega, by simp [boxesR, listsR, csR, renC, keyC, optK, fnd, envR, St.get, keyPV, keyV1, renPV, renV1, hasKey, made_zero] <;> omega, by simp [boxesR, listsR, csR, renC, keyC, optK, fnd, envR, St.get, keyPV, keyV1, renPV, renV1, hasKey, made_zero] <;> omega, by simp [boxesR, listsR, csR, renC, keyC, optK, fnd, envR, St.get, keyPV, keyV1, renPV, renV1, hasKey, made_zero] <;> omega, by simp [boxesR, listsR, csR, renC, keyC, optK, fnd, envR, St.get, keyPV, keyV1, renPV, renV1, hasKey, made_zero] <;> omega⟩ (by simp [boxesR, listsR, csR, renC, keyC, optK, fnd, envR, St.get, keyPV, keyV1, renPV, renV1, hasKey, made_zero] <;> omega) rfl
  · refine ⟨⟨g, ⟨x, y, z⟩, 1 + belN c2 9, rs⟩, ⟨.inl hg, hk, by simp only; omega, hr⟩, belC c3 2, ?_⟩
    refine pc_of Tryz.func27 rfl (by kernel_rfl) _ Tryz.ntmps27 (by simp) ?_
    repeat' first
      | (first | simp -implicitDefEqProofs only [h, go_sem] | (refine And.intro ?_ ?_; omega) | (refine And.intro (shr_bd ?_ ?_) ?_; omega; omega) | refine sl_list rfl ?_ | refine sd_list rfl ?_ | refine sl_str ?_ | refine sd_str ?_)
      | refine callC p1 rfl rfl rfl rfl rfl ?_
      | refine callC p2 rfl rfl rfl rfl rfl ?_
      | refine callC (bel_c c2 9) rfl rfl rfl rfl rfl ?_
      | refine callC p3 rfl rfl rfl rfl rfl ?_
      | refine callC (once_c c3 2) rfl rfl rfl rfl rfl ?_
    exact fin_of (fun i => i) (fun i => i) ⟨by simp [boxesR, listsR, csR, renC, keyC, optK, fnd, envR, St.get, keyPV, keyV1, renPV, renV1, hasKey, made_zero] <;> omega, by simp [boxesR, listsR, csR, renC, keyC, optK, fnd, envR, St.get, keyPV, keyV1, renPV, renV1, hasKey, made_zero] <;> omega, by simp [boxesR, listsR, csR, renC, keyC, optK, fnd, envR, St.get, keyPV, keyV1, renPV, renV1, hasKey, made_zero] <;> omega, by simp [boxesR, listsR, csR, renC, keyC, optK, fnd, envR, St.get, keyPV, keyV1, renPV, renV1, hasKey, made_zero] <;> omega, by simp [boxesR, listsR, csR, renC, keyC, optK, fnd, envR, St.get, keyPV, keyV1, renPV, renV1, hasKey, made_zero] <;> omega⟩ (by simp [boxesR, listsR, csR, renC, keyC, optK, fnd, envR, St.get, keyPV, keyV1, renPV, renV1, hasKey, made_zero] <;> omega) rfl
end Go.Proofs.YtenfpjipeeolpaaGreat
