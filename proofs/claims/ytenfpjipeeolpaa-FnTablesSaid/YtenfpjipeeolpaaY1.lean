/-
  What the functions compute that undo a list of jumps.
-/
import Derived.Test.YtenfpjipeeolpaaU1
namespace Go.Proofs.Ytenfpjipeeolpaa
open Go.PL
set_option linter.unusedSimpArgs false
def canUn (b : Brd) (p : Int) (l : Ln) : Bool := positionOk b p && (isLine b l && canU p l)
def undoJ (b : Brd) (p : Int) (l : Ln) : Int := if canUn b p l = true then flip p l else p
theorem iUndoJump_c (b : Brd) (p : Int) (l : Ln) (p2 : p ≤ 9223372036854775807) : PC Try.prog 149 [] [.a (brdC b), .c (.v (.int .i64 p)), .a (lineC l)] (.t [.c (.v (.int .i64 (undoJ b p l))), .c (.v (.bool (canUn b p l)))]) ⟨[], []⟩ := by
  refine pc_of Try.func149 rfl (by kernel_rfl) _ Try.ntmps149 (by simp) ?_
  (repeat' (first | simp -implicitDefEqProofs only [go_sem, Nat.reduceLT, Nat.reduceLeDiff, Nat.reduceEqDiff, Nat.reduceAdd, Nat.reduceSub, Nat.reduceMul, Int.reduceEq, Int.reduceLT, Int.reduceLE, Int.reduceNeg, Int.reduceAdd, Int.reduceSub, Int.reduceMul, Int.reduceToNat, reduceIte, reduceCtorEq, List.map_cons, List.map_nil] | (refine And.intro ?_ ?_; omega) | (refine And.intro (shr_bd ?_ ?_) ?_; omega; omega) | refine sl_list rfl ?_ | refine sd_list rfl ?_ | refine sl_str ?_ | refine sd_str ?_))
  refine callS (iPositionOk_c b p p2) rfl rfl rfl ?_
  by_cases h1 : positionOk b p = true
  · (repeat' (first | simp -implicitDefEqProofs only [h1, go_sem, Nat.reduceLT, Nat.reduceLeDiff, Nat.reduceEqDiff, Nat.reduceAdd, Nat.reduceSub, Nat.reduceMul, Int.reduceEq, Int.reduceLT, Int.reduceLE, Int.reduceNeg, Int.reduceAdd, Int.reduceSub, Int.reduceMul, Int.reduceToNat, reduceIte, reduceCtorEq, List.map_cons, List.map_nil] | (refine And.intro ?_ ?_; omega) | (refine And.intro (shr_bd ?_ ?_) ?_; omega; omega) | refine sl_list rfl ?_ | refine sd_list rfl ?_ | refine sl_str ?_ | refine sd_str ?_))
    refine callS (iisLine_c b l) rfl rfl rfl ?_
    by_cases h2 : isLine b l = true
    · have hm := isLine_mem h2
      have hln := lnIn hm
      obtain ⟨hne0, hne1, hne2⟩ := line_ne hm
      obtain ⟨hb, p0, hs⟩ := pos_sub h1
      (repeat' (first | simp -implicitDefEqProofs only [h1, h2, go_sem, Nat.reduceLT, Nat.reduceLeDiff, Nat.reduceEqDiff, Nat.reduceAdd, Nat.reduceSub, Nat.reduceMul, Int.reduceEq, Int.reduceLT, Int.reduceLE, Int.reduceNeg, Int.reduceAdd, Int.reduceSub, Int.reduceMul, Int.reduceToNat, reduceIte, reduceCtorEq, List.map_cons, List.map_nil] | (refine And.intro ?_ ?_; omega) | (refine And.intro (shr_bd ?_ ?_) ?_; omega; omega) | refine sl_list rfl ?_ | refine sd_list rfl ?_ | refine sl_str ?_ | refine sd_str ?_))
      refine callS (undoFrom_c p l p0 p2 hln) rfl rfl rfl ?_
      (repeat' (first | simp -implicitDefEqProofs only [go_sem, Nat.reduceLT, Nat.reduceLeDiff, Nat.reduceEqDiff, Nat.reduceAdd, Nat.reduceSub, Nat.reduceMul, Int.reduceEq, Int.reduceLT, Int.reduceLE, Int.reduceNeg, Int.reduceAdd, Int.reduceSub, Int.reduceMul, Int.reduceToNat, reduceIte, reduceCtorEq, List.map_cons, List.map_nil] | (refine And.intro ?_ ?_; omega) | (refine And.intro (shr_bd ?_ ?_) ?_; omega; omega) | refine sl_list rfl ?_ | refine sd_list rfl ?_ | refine sl_str ?_ | refine sd_str ?_))
      refine fin_scal rfl ?_
      have e1 : canUn b p l = canU p l := by simp [canUn, h1, h2]
      have e2 : undoJ b p l = undoI p l := by
        unfold undoJ undoI
        rw [e1]
        split
        · rename_i hc
          rw [und_flip p0 hln hne1 hne2 hc]; rfl
        · rfl
      rw [e1, e2]
    · have e : canUn b p l = false := by simp [canUn, h2]
      (repeat' (first | simp -implicitDefEqProofs only [h1, h2, go_sem, Nat.reduceLT, Nat.reduceLeDiff, Nat.reduceEqDiff, Nat.reduceAdd, Nat.reduceSub, Nat.reduceMul, Int.reduceEq, Int.reduceLT, Int.reduceLE, Int.reduceNeg, Int.reduceAdd, Int.reduceSub, Int.reduceMul, Int.reduceToNat, reduceIte, reduceCtorEq, List.map_cons, List.map_nil] | (refine And.intro ?_ ?_; omega) | (refine And.intro (shr_bd ?_ ?_) ?_; omega; omega) | refine sl_list rfl ?_ | refine sd_list rfl ?_ | refine sl_str ?_ | refine sd_str ?_))
      exact fin_scal rfl (by simp [undoJ, e])
  · have e : canUn b p l = false := by simp [canUn, h1]
    (repeat' (first | simp -implicitDefEqProofs only [h1, go_sem, Nat.reduceLT, Nat.reduceLeDiff, Nat.reduceEqDiff, Nat.reduceAdd, Nat.reduceSub, Nat.reduceMul, Int.reduceEq, Int.reduceLT, Int.reduceLE, Int.reduceNeg, Int.reduceAdd, Int.reduceSub, Int.reduceMul, Int.reduceToNat, reduceIte, reduceCtorEq, List.map_cons, List.map_nil] | (refine And.intro ?_ ?_; omega) | (refine And.intro (shr_bd ?_ ?_) ?_; omega; omega) | refine sl_list rfl ?_ | refine sd_list rfl ?_ | refine sl_str ?_ | refine sd_str ?_))
    exact fin_scal rfl (by simp [undoJ, e])
theorem un_pos {b : Brd} {p : Int} {l : Ln} (h : canUn b p l = true) : positionOk b (flip p l) = true := by
  have h' := h
  simp only [canUn, Bool.and_eq_true] at h'
  obtain ⟨hb, p0, hs⟩ := pos_sub h'.1
  have ha : able true p.toNat l = true := by simp only [able, if_true]; rw [Int.toNat_of_nonneg p0]; exact h'.2.2
  exact sub_pos hb (rch_sub hs (.step _ l .refl (isLine_mem h'.2.1) ha))
end Go.Proofs.Ytenfpjipeeolpaa
