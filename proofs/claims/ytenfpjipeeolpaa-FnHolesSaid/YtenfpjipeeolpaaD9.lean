/-
  Draws of games on small boards.
-/
import Derived.Test.YtenfpjipeeolpaaD5
namespace Go.Proofs.Ytenfpjipeeolpaa
open Go.PL
set_option linter.unusedSimpArgs false
/-- what is said of a drawn game on a small board -/
structure GameOn (b : Brd) (p : Int) (ls : List Ln) (q : Int) : Prop where
  s : isSmall b = true
  po : positionOk b p = true
  ply : playF b p ls = some q
  len : ls.length ≤ 12
set_option maxHeartbeats 4000000 in
theorem drawGame_ex (B : Bs) : ∃ (b : Brd) (p : Int) (ls : List Ln) (q : Int), GameOn b p ls q ∧ PC Try.prog 37 [] [.c (.l 1 (B.l.map bV))] (.t [.a (brdC b), .c (.v (.int .i64 p)), .c (.l 3 (ls.map lineV))]) ⟨[], []⟩ := by
  obtain ⟨b, hs, c1, p1⟩ := l02Small_ex (newCr B)
  obtain ⟨p, hp, c2, p2⟩ := l06Start_ex c1 (small_ok hs)
  have hpo := sub_pos (small_ok hs) hp
  have hple := pos_le hpo
  have b1 := bel_rg c2 (n := 12) (by omega)
  obtain ⟨ls, q, hq, hl, c3, p3⟩ := l06Play_ex (belC c2 12) hpo (belN c2 12) (by omega)
  refine ⟨b, p, ls, q, ⟨hs, hpo, hq, by omega⟩, ?_⟩
  refine pc_of Try.func37 rfl (by kernel_rfl) _ Try.ntmps37 (by simp) ?_
  repeat' first
    | (first | simp -implicitDefEqProofs only [go_sem, Nat.reduceLT, Nat.reduceLeDiff, Nat.reduceEqDiff, Nat.reduceAdd, Nat.reduceSub, Nat.reduceMul, Int.reduceEq, Int.reduceLT, Int.reduceLE, Int.reduceNeg, Int.reduceAdd, Int.reduceSub, Int.reduceMul, Int.reduceToNat, reduceIte, reduceCtorEq, List.map_cons, List.map_nil] | (refine And.intro ?_ ?_; omega) | (refine And.intro (shr_bd ?_ ?_) ?_; omega; omega) | refine sl_list rfl ?_ | refine sd_list rfl ?_ | refine sl_str ?_ | refine sd_str ?_)
    | refine callN (new_c B 9000) rfl rfl rfl rfl ?_
    | refine callC p1 rfl rfl rfl rfl rfl ?_
    | refine callC p2 rfl rfl rfl rfl rfl ?_
    | refine draw_stepY Try.pl_follows (by kernel_rfl) ?_
    | refine callC (bel_c c2 12) rfl rfl rfl rfl rfl ?_
    | refine callC p3 rfl rfl rfl rfl rfl ?_
  exact fin_of (fun i => i) (fun i => i) ⟨by simp [boxesR, listsR, csR, renC, keyC, optK, fnd, envR, St.get, keyPV, keyV1, renPV, renV1, hasKey, made_zero] <;> omega, by simp [boxesR, listsR, csR, renC, keyC, optK, fnd, envR, St.get, keyPV, keyV1, renPV, renV1, hasKey, made_zero] <;> omega, by simp [boxesR, listsR, csR, renC, keyC, optK, fnd, envR, St.get, keyPV, keyV1, renPV, renV1, hasKey, made_zero] <;> omega, by simp [boxesR, listsR, csR, renC, keyC, optK, fnd, envR, St.get, keyPV, keyV1, renPV, renV1, hasKey, made_zero] <;> omega, by simp [boxesR, listsR, csR, renC, keyC, optK, fnd, envR, St.get, keyPV, keyV1, renPV, renV1, hasKey, made_zero] <;> omega⟩ (by simp [boxesR, listsR, csR, renC, keyC, optK, fnd, envR, St.get, keyPV, keyV1, renPV, renV1, hasKey, made_zero] <;> omega) rfl
end Go.Proofs.Ytenfpjipeeolpaa
