/-
  Draws of tables.
-/
import Derived.Test.YtenfpjipeeolpaaD7
import Derived.Test.YtenfpjipeeolpaaD2
import Derived.Test.YtenfpjipeeolpaaW1
namespace Go.Proofs.Ytenfpjipeeolpaa
open Go.PL
set_option linter.unusedSimpArgs false
/-- what is said of a drawn table -/
structure DrawnT (t : Tb) : Prop where
  g : DrawnG t.g ∨ ∃ h, 0 ≤ h ∧ h ≤ 2 ∧ DrawnG { t.g with h := h } ∧ t.g.h = 0
  c : ClkIn t.c.a t.c.b t.c.c
  n : 1 ≤ t.n ∧ t.n ≤ 9
  r : RsOk t.r
set_option maxHeartbeats 8000000 in
theorem l38Table_ex {B : Bs} (c : Cr B) : ∃ t : Tb, DrawnT t ∧ Drw 119 c [] (.s (.a (tbL t))) := by
  obtain ⟨g, hg, c1, p1⟩ := l37Game_ex c
  obtain ⟨x, y, z, c2, hk, p2⟩ := clock_ex c1
  have b1 := bel_rg c2 (n := 9) (by omega)
  obtain ⟨rs, c3, hr, p3⟩ := recs_ex (belC c2 9)
  by_cases h : belN c3 2 = 0
  · refine ⟨⟨{ g with h := 0 }, ⟨x, y, z⟩, 1 + belN c2 9, rs⟩, ⟨.inr ⟨g.h, hg.h.1, hg.h.2, hg, rfl⟩, hk, by simp only; omega, hr⟩, belC c3 2, ?_⟩
    refine pc_of Try.func119 rfl (by kernel_rfl) _ Try.ntmps119 (by simp) ?_
    repeat' first
      | (first | simp -implicitDefEqProofs only [h, go_sem, Nat.reduceLT, Nat.reduceLeDiff, Nat.reduceEqDiff, Nat.reduceAdd, Nat.reduceSub, Nat.reduceMul, Int.reduceEq, Int.reduceLT, Int.reduceLE, Int.reduceNeg, Int.reduceAdd, Int.reduceSub, Int.reduceMul, Int.reduceToNat, reduceIte, reduceCtorEq, List.map_cons, List.map_nil] | (refine And.intro ?_ ?_; omega) | (refine And.intro (shr_bd ?_ ?_) ?_; omega; omega) | refine sl_list rfl ?_ | refine sd_list rfl ?_ | refine sl_str ?_ | refine sd_str ?_)
      | refine callC p1 rfl rfl rfl rfl rfl ?_
      | refine callC p2 rfl rfl rfl rfl rfl ?_
      | refine callC (bel_c c2 9) rfl rfl rfl rfl rfl ?_
      | refine callC p3 rfl rfl rfl rfl rfl ?_
      | refine callC (once_c c3 2) rfl rfl rfl rfl rfl ?_
    exact fin_of (fun i => i) (fun i => i) ⟨by simp [boxesR, listsR, csR, renC, keyC, optK, fnd, envR, St.get, keyPV, keyV1, renPV, renV1, hasKey, made_zero] <;> omega, by simp [boxesR, listsR, csR, renC, keyC, optK, fnd, envR, St.get, keyPV, keyV1, renPV, renV1, hasKey, made_zero] <;> omega, by simp [boxesR, listsR, csR, renC, keyC, optK, fnd, envR, St.get, keyPV, keyV1, renPV, renV1, hasKey, made_zero] <;> omega, by simp [boxesR, listsR, csR, renC, keyC, optK, fnd, envR, St.get, keyPV, keyV1, renPV, renV1, hasKey, made_zero] <;> omega, by simp [boxesR, listsR, csR, renC, keyC, optK, fnd, envR, St.get, keyPV, keyV1, renPV, renV1, hasKey, made_zero] <;> omega⟩ (by simp [boxesR, listsR, csR, renC, keyC, optK, fnd, envR, St.get, keyPV, keyV1, renPV, renV1, hasKey, made_zero] <;> omega) rfl
  · refine ⟨⟨g, ⟨x, y, z⟩, 1 + belN c2 9, rs⟩, ⟨.inl hg, hk, by simp only; omega, hr⟩, belC c3 2, ?_⟩
    refine pc_of Try.func119 rfl (by kernel_rfl) _ Try.ntmps119 (by simp) ?_
    repeat' first
      | (first | simp -implicitDefEqProofs only [h, go_sem, Nat.reduceLT, Nat.reduceLeDiff, Nat.reduceEqDiff, Nat.reduceAdd, Nat.reduceSub, Nat.reduceMul, Int.reduceEq, Int.reduceLT, Int.reduceLE, Int.reduceNeg, Int.reduceAdd, Int.reduceSub, Int.reduceMul, Int.reduceToNat, reduceIte, reduceCtorEq, List.map_cons, List.map_nil] | (refine And.intro ?_ ?_; omega) | (refine And.intro (shr_bd ?_ ?_) ?_; omega; omega) | refine sl_list rfl ?_ | refine sd_list rfl ?_ | refine sl_str ?_ | refine sd_str ?_)
      | refine callC p1 rfl rfl rfl rfl rfl ?_
      | refine callC p2 rfl rfl rfl rfl rfl ?_
      | refine callC (bel_c c2 9) rfl rfl rfl rfl rfl ?_
      | refine callC p3 rfl rfl rfl rfl rfl ?_
      | refine callC (once_c c3 2) rfl rfl rfl rfl rfl ?_
    exact fin_of (fun i => i) (fun i => i) ⟨by simp [boxesR, listsR, csR, renC, keyC, optK, fnd, envR, St.get, keyPV, keyV1, renPV, renV1, hasKey, made_zero] <;> omega, by simp [boxesR, listsR, csR, renC, keyC, optK, fnd, envR, St.get, keyPV, keyV1, renPV, renV1, hasKey, made_zero] <;> omega, by simp [boxesR, listsR, csR, renC, keyC, optK, fnd, envR, St.get, keyPV, keyV1, renPV, renV1, hasKey, made_zero] <;> omega, by simp [boxesR, listsR, csR, renC, keyC, optK, fnd, envR, St.get, keyPV, keyV1, renPV, renV1, hasKey, made_zero] <;> omega, by simp [boxesR, listsR, csR, renC, keyC, optK, fnd, envR, St.get, keyPV, keyV1, renPV, renV1, hasKey, made_zero] <;> omega⟩ (by simp [boxesR, listsR, csR, renC, keyC, optK, fnd, envR, St.get, keyPV, keyV1, renPV, renV1, hasKey, made_zero] <;> omega) rfl
theorem drawTable_ex (B : Bs) : ∃ t : Tb, DrawnT t ∧ PC Try.prog 63 [] [.c (.l 1 (B.l.map bV))] (.s (.a (tbL t))) ⟨[], []⟩ := by
  obtain ⟨t, h, c1, p1⟩ := l38Table_ex (newCr B)
  refine ⟨t, h, ?_⟩
  refine pc_of Try.func63 rfl (by kernel_rfl) _ Try.ntmps63 (by simp) ?_
  repeat' first
    | (first | simp -implicitDefEqProofs only [go_sem, Nat.reduceLT, Nat.reduceLeDiff, Nat.reduceEqDiff, Nat.reduceAdd, Nat.reduceSub, Nat.reduceMul, Int.reduceEq, Int.reduceLT, Int.reduceLE, Int.reduceNeg, Int.reduceAdd, Int.reduceSub, Int.reduceMul, Int.reduceToNat, reduceIte, reduceCtorEq, List.map_cons, List.map_nil] | (refine And.intro ?_ ?_; omega) | (refine And.intro (shr_bd ?_ ?_) ?_; omega; omega) | refine sl_list rfl ?_ | refine sd_list rfl ?_ | refine sl_str ?_ | refine sd_str ?_)
    | refine callN (new_c B 9000) rfl rfl rfl rfl ?_
    | refine callC p1 rfl rfl rfl rfl rfl ?_
  exact fin_of (fun i => i) (fun i => i) ⟨by simp [boxesR, listsR, csR, renC, keyC, optK, fnd, envR, St.get, keyPV, keyV1, renPV, renV1, hasKey, made_zero] <;> omega, by simp [boxesR, listsR, csR, renC, keyC, optK, fnd, envR, St.get, keyPV, keyV1, renPV, renV1, hasKey, made_zero] <;> omega, by simp [boxesR, listsR, csR, renC, keyC, optK, fnd, envR, St.get, keyPV, keyV1, renPV, renV1, hasKey, made_zero] <;> omega, by simp [boxesR, listsR, csR, renC, keyC, optK, fnd, envR, St.get, keyPV, keyV1, renPV, renV1, hasKey, made_zero] <;> omega, by simp [boxesR, listsR, csR, renC, keyC, optK, fnd, envR, St.get, keyPV, keyV1, renPV, renV1, hasKey, made_zero] <;> omega⟩ (by simp [boxesR, listsR, csR, renC, keyC, optK, fnd, envR, St.get, keyPV, keyV1, renPV, renV1, hasKey, made_zero] <;> omega) rfl
end Go.Proofs.Ytenfpjipeeolpaa
