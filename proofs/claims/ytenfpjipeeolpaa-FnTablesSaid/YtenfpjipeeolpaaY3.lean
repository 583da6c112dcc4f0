/-
  What the functions compute that audit a table; the law on the audit.
-/
import Derived.Test.YtenfpjipeeolpaaY2
namespace Go.Proofs.Ytenfpjipeeolpaa
open Go.PL
set_option linter.unusedSimpArgs false
theorem now_le {g : Gm} (h : gameOk g = true) : nowOf g ≤ 9223372036854775807 := by
  have h' := h
  simp only [gameOk, Bool.and_eq_true] at h'
  obtain ⟨q, hq⟩ := Option.isSome_iff_exists.1 h'.2.2.2
  have e : nowOf g = q := by simp [nowOf, h, playI, hq]
  unfold playAll at hq
  split at hq
  · rename_i hp
    have := pos_le (playF_pos hp.1 hq)
    omega
  · cases hq
def auditOk (t : Tb) : Bool := tableOk t && ((undoAll t.g.x.b (nowOf t.g) t.g.j).isSome && decide (undoAI t.g.x.b (nowOf t.g) t.g.j = t.g.x.s))
theorem tableOk_g {t : Tb} (h : tableOk t = true) : gameOk t.g = true := by
  simp only [tableOk, Bool.and_eq_true] at h
  exact h.1
set_option maxHeartbeats 2000000 in
theorem iAuditTable_c (t : Tb) (ht : TbIn t) : PC Try.prog 66 [] [.a (tbL t)] (vB (auditOk t)) ⟨[], []⟩ := by
  refine pc_of Try.func66 rfl (by kernel_rfl) _ Try.ntmps66 (by simp) ?_
  (repeat' (first | simp -implicitDefEqProofs only [go_sem, Nat.reduceLT, Nat.reduceLeDiff, Nat.reduceEqDiff, Nat.reduceAdd, Nat.reduceSub, Nat.reduceMul, Int.reduceEq, Int.reduceLT, Int.reduceLE, Int.reduceNeg, Int.reduceAdd, Int.reduceSub, Int.reduceMul, Int.reduceToNat, reduceIte, reduceCtorEq, List.map_cons, List.map_nil] | (refine And.intro ?_ ?_; omega) | (refine And.intro (shr_bd ?_ ?_) ?_; omega; omega) | refine sl_list rfl ?_ | refine sd_list rfl ?_ | refine sl_str ?_ | refine sd_str ?_))
  refine callS (iTableOk_c t ht) rfl rfl rfl ?_
  by_cases h1 : tableOk t = true
  · simp -implicitDefEqProofs only [h1, go_sem, Nat.reduceLT, Nat.reduceLeDiff, Nat.reduceEqDiff, Nat.reduceAdd, Nat.reduceSub, Nat.reduceMul, Int.reduceEq, Int.reduceLT, Int.reduceLE, Int.reduceNeg, Int.reduceAdd, Int.reduceSub, Int.reduceMul, Int.reduceToNat, reduceIte, reduceCtorEq, List.map_cons, List.map_nil]
    refine draw_step Try.pl_follows (by kernel_rfl) ?_
    (repeat' (first | simp -implicitDefEqProofs only [go_sem, Nat.reduceLT, Nat.reduceLeDiff, Nat.reduceEqDiff, Nat.reduceAdd, Nat.reduceSub, Nat.reduceMul, Int.reduceEq, Int.reduceLT, Int.reduceLE, Int.reduceNeg, Int.reduceAdd, Int.reduceSub, Int.reduceMul, Int.reduceToNat, reduceIte, reduceCtorEq, List.map_cons, List.map_nil] | (refine And.intro ?_ ?_; omega) | (refine And.intro (shr_bd ?_ ?_) ?_; omega; omega) | refine sl_list rfl ?_ | refine sd_list rfl ?_ | refine sl_str ?_ | refine sd_str ?_))
    refine callD (iNowOf_c t.g ht.g) rfl rfl rfl ?_
    (repeat' (first | simp -implicitDefEqProofs only [go_sem, Nat.reduceLT, Nat.reduceLeDiff, Nat.reduceEqDiff, Nat.reduceAdd, Nat.reduceSub, Nat.reduceMul, Int.reduceEq, Int.reduceLT, Int.reduceLE, Int.reduceNeg, Int.reduceAdd, Int.reduceSub, Int.reduceMul, Int.reduceToNat, reduceIte, reduceCtorEq, List.map_cons, List.map_nil] | (refine And.intro ?_ ?_; omega) | (refine And.intro (shr_bd ?_ ?_) ?_; omega; omega) | refine sl_list rfl ?_ | refine sd_list rfl ?_ | refine sl_str ?_ | refine sd_str ?_))
    refine callD (iUndoAll_c t.g.x.b (nowOf t.g) t.g.j (now_le (tableOk_g h1)) ht.g.j) rfl rfl rfl ?_
    by_cases h2 : (undoAll t.g.x.b (nowOf t.g) t.g.j).isSome = true
    · (repeat' (first | simp -implicitDefEqProofs only [h2, go_sem, Nat.reduceLT, Nat.reduceLeDiff, Nat.reduceEqDiff, Nat.reduceAdd, Nat.reduceSub, Nat.reduceMul, Int.reduceEq, Int.reduceLT, Int.reduceLE, Int.reduceNeg, Int.reduceAdd, Int.reduceSub, Int.reduceMul, Int.reduceToNat, reduceIte, reduceCtorEq, List.map_cons, List.map_nil] | (refine And.intro ?_ ?_; omega) | (refine And.intro (shr_bd ?_ ?_) ?_; omega; omega) | refine sl_list rfl ?_ | refine sd_list rfl ?_ | refine sl_str ?_ | refine sd_str ?_))
      exact fin_scal rfl (by simp [auditOk, h1, h2])
    · (repeat' (first | simp -implicitDefEqProofs only [h2, go_sem, Nat.reduceLT, Nat.reduceLeDiff, Nat.reduceEqDiff, Nat.reduceAdd, Nat.reduceSub, Nat.reduceMul, Int.reduceEq, Int.reduceLT, Int.reduceLE, Int.reduceNeg, Int.reduceAdd, Int.reduceSub, Int.reduceMul, Int.reduceToNat, reduceIte, reduceCtorEq, List.map_cons, List.map_nil] | (refine And.intro ?_ ?_; omega) | (refine And.intro (shr_bd ?_ ?_) ?_; omega; omega) | refine sl_list rfl ?_ | refine sd_list rfl ?_ | refine sl_str ?_ | refine sd_str ?_))
      exact fin_scal rfl (by simp [auditOk, h2])
  · (repeat' (first | simp -implicitDefEqProofs only [h1, go_sem, Nat.reduceLT, Nat.reduceLeDiff, Nat.reduceEqDiff, Nat.reduceAdd, Nat.reduceSub, Nat.reduceMul, Int.reduceEq, Int.reduceLT, Int.reduceLE, Int.reduceNeg, Int.reduceAdd, Int.reduceSub, Int.reduceMul, Int.reduceToNat, reduceIte, reduceCtorEq, List.map_cons, List.map_nil] | (refine And.intro ?_ ?_; omega) | (refine And.intro (shr_bd ?_ ?_) ?_; omega; omega) | refine sl_list rfl ?_ | refine sd_list rfl ?_ | refine sl_str ?_ | refine sd_str ?_))
    exact fin_scal rfl (by simp [auditOk, h1])
end Go.Proofs.Ytenfpjipeeolpaa
