/-
  What the functions compute that audit a table; the law on the audit.
-/
import Derived.Test.YtengcnpmhncefaaY2
namespace Go.Proofs.Ytengcnpmhncefaa
open Go.PL
set_option linter.unusedSimpArgs false
theorem now_le {g : Gm} (h : gameOk g = true) : nowOf g ≤ 9223372036854775807 := by
  have h' := h
  simp only [gameOk, Bool.and_eq_true] at h'
  obtain ⟨q, hq⟩ := Option.isSome_iff_exists.1 h'.2.2.2
  have e : nowOf g = q := by simp [nowOf, h, playI, hq]
  unfold playAll at hq
  split at hq
  · rename_i hp
    have := pos_le (playF_pos hp.1 hq)
    omega
  · cases hq
def auditOk (t : Tb) : Bool := tableOk t && ((undoAll t.g.x.b (nowOf t.g) t.g.j).isSome && decide (undoAI t.g.x.b (nowOf t.g) t.g.j = t.g.x.s))
theorem tableOk_g {t : Tb} (h : tableOk t = true) : gameOk t.g = true := by
  simp only [tableOk, Bool.and_eq_true] at h
  exact h.1
set_option maxHeartbeats 2000000 in
theorem AuditTable_c (t : Tb) (ht : TbIn t) : PC Try.prog 63 [] [.a (tbL t)] (vB (auditOk t)) ⟨[], []⟩ := by
  refine pc_of Try.func63 rfl (by kernel_rfl) _ Try.ntmps63 (by simp) ?_
  (repeat' (first | simp -implicitDefEqProofs only [go_sem, Nat.reduceLT, Nat.reduceLeDiff, Nat.reduceEqDiff, Nat.reduceAdd, Nat.reduceSub, Nat.reduceMul, Int.reduceEq, Int.reduceLT, Int.reduceLE, Int.reduceNeg, Int.reduceAdd, Int.reduceSub, Int.reduceMul, Int.reduceToNat, reduceIte, reduceCtorEq, List.map_cons, List.map_nil] | (refine And.intro ?_ ?_; omega) | (refine And.intro (shr_bd ?_ ?_) ?_; omega; omega) | refine sl_list rfl ?_ | refine sd_list rfl ?_ | refine sl_str ?_ | refine sd_str ?_))
  refine callS (TableOk_c t ht) rfl rfl rfl ?_
  by_cases h1 : tableOk t = true
  · simp -implicitDefEqProofs only [h1, go_sem, Nat.reduceLT, Nat.reduceLeDiff, Nat.reduceEqDiff, Nat.reduceAdd, Nat.reduceSub, Nat.reduceMul, Int.reduceEq, Int.reduceLT, Int.reduceLE, Int.reduceNeg, Int.reduceAdd, Int.reduceSub, Int.reduceMul, Int.reduceToNat, reduceIte, reduceCtorEq, List.map_cons, List.map_nil]
    refine draw_step Try.pl_follows (by kernel_rfl) ?_
    (repeat' (first | simp -implicitDefEqProofs only [go_sem, Nat.reduceLT, Nat.reduceLeDiff, Nat.reduceEqDiff, Nat.reduceAdd, Nat.reduceSub, Nat.reduceMul, Int.reduceEq, Int.reduceLT, Int.reduceLE, Int.reduceNeg, Int.reduceAdd, Int.reduceSub, Int.reduceMul, Int.reduceToNat, reduceIte, reduceCtorEq, List.map_cons, List.map_nil] | (refine And.intro ?_ ?_; omega) | (refine And.intro (shr_bd ?_ ?_) ?_; omega; omega) | refine sl_list rfl ?_ | refine sd_list rfl ?_ | refine sl_str ?_ | refine sd_str ?_))
    refine callD (NowOf_c t.g ht.g) rfl rfl rfl ?_
    (repeat' (first | simp -implicitDefEqProofs only [go_sem, Nat.reduceLT, Nat.reduceLeDiff, Nat.reduceEqDiff, Nat.reduceAdd, Nat.reduceSub, Nat.reduceMul, Int.reduceEq, Int.reduceLT, Int.reduceLE, Int.reduceNeg, Int.reduceAdd, Int.reduceSub, Int.reduceMul, Int.reduceToNat, reduceIte, reduceCtorEq, List.map_cons, List.map_nil] | (refine And.intro ?_ ?_; omega) | (refine And.intro (shr_bd ?_ ?_) ?_; omega; omega) | refine sl_list rfl ?_ | refine sd_list rfl ?_ | refine sl_str ?_ | refine sd_str ?_))
    refine callD (UndoAll_c t.g.x.b (nowOf t.g) t.g.j (now_le (tableOk_g h1)) ht.g.j) rfl rfl rfl ?_
    by_cases h2 : (undoAll t.g.x.b (nowOf t.g) t.g.j).isSome = true
    · (repeat' (first | simp -implicitDefEqProofs only [h2, go_sem, Nat.reduceLT, Nat.reduceLeDiff, Nat.reduceEqDiff, Nat.reduceAdd, Nat.reduceSub, Nat.reduceMul, Int.reduceEq, Int.reduceLT, Int.reduceLE, Int.reduceNeg, Int.reduceAdd, Int.reduceSub, Int.reduceMul, Int.reduceToNat, reduceIte, reduceCtorEq, List.map_cons, List.map_nil] | (refine And.intro ?_ ?_; omega) | (refine And.intro (shr_bd ?_ ?_) ?_; omega; omega) | refine sl_list rfl ?_ | refine sd_list rfl ?_ | refine sl_str ?_ | refine sd_str ?_))
      exact fin_scal rfl (by simp [auditOk, h1, h2])
    · (repeat' (first | simp -implicitDefEqProofs only [h2, go_sem, Nat.reduceLT, Nat.reduceLeDiff, Nat.reduceEqDiff, Nat.reduceAdd, Nat.reduceSub, Nat.reduceMul, Int.reduceEq, Int.reduceLT, Int.reduceLE, Int.reduceNeg, Int.reduceAdd, Int.reduceSub, Int.reduceMul, Int.reduceToNat, reduceIte, reduceCtorEq, List.map_cons, List.map_nil] | (refine And.intro ?_ ?_; omega) | (refine And.intro (shr_bd ?_ ?_) ?_; omega; omega) | refine sl_list rfl ?_ | refine sd_list rfl ?_ | refine sl_str ?_ | refine sd_str ?_))
      exact fin_scal rfl (by simp [auditOk, h2])
  · (repeat' (first | simp -implicitDefEqProofs only [h1, go_sem, Nat.reduceLT, Nat.reduceLeDiff, Nat.reduceEqDiff, Nat.reduceAdd, Nat.reduceSub, Nat.reduceMul, Int.reduceEq, Int.reduceLT, Int.reduceLE, Int.reduceNeg, Int.reduceAdd, Int.reduceSub, Int.reduceMul, Int.reduceToNat, reduceIte, reduceCtorEq, List.map_cons, List.map_nil] | (refine And.intro ?_ ?_; omega) | (refine And.intro (shr_bd ?_ ?_) ?_; omega; omega) | refine sl_list rfl ?_ | refine sd_list rfl ?_ | refine sl_str ?_ | refine sd_str ?_))
    exact fin_scal rfl (by simp [auditOk, h1])
set_option maxHeartbeats 2000000 in
theorem iAuditTable_c (t : Tb) (ht : TbIn t) : PC Try.prog 64 [] [.a (tbL t)] (vB (auditOk t)) ⟨[], []⟩ := by
  refine pc_of Try.func64 rfl (by kernel_rfl) _ Try.ntmps64 (by simp) ?_
  (repeat' (first | simp -implicitDefEqProofs only [go_sem, Nat.reduceLT, Nat.reduceLeDiff, Nat.reduceEqDiff, Nat.reduceAdd, Nat.reduceSub, Nat.reduceMul, Int.reduceEq, Int.reduceLT, Int.reduceLE, Int.reduceNeg, Int.reduceAdd, Int.reduceSub, Int.reduceMul, Int.reduceToNat, reduceIte, reduceCtorEq, List.map_cons, List.map_nil] | (refine And.intro ?_ ?_; omega) | (refine And.intro (shr_bd ?_ ?_) ?_; omega; omega) | refine sl_list rfl ?_ | refine sd_list rfl ?_ | refine sl_str ?_ | refine sd_str ?_))
  refine callS (iTableOk_c t ht) rfl rfl rfl ?_
  by_cases h1 : tableOk t = true
  · simp -implicitDefEqProofs only [h1, go_sem, Nat.reduceLT, Nat.reduceLeDiff, Nat.reduceEqDiff, Nat.reduceAdd, Nat.reduceSub, Nat.reduceMul, Int.reduceEq, Int.reduceLT, Int.reduceLE, Int.reduceNeg, Int.reduceAdd, Int.reduceSub, Int.reduceMul, Int.reduceToNat, reduceIte, reduceCtorEq, List.map_cons, List.map_nil]
    refine draw_step Try.pl_follows (by kernel_rfl) ?_
    (repeat' (first | simp -implicitDefEqProofs only [go_sem, Nat.reduceLT, Nat.reduceLeDiff, Nat.reduceEqDiff, Nat.reduceAdd, Nat.reduceSub, Nat.reduceMul, Int.reduceEq, Int.reduceLT, Int.reduceLE, Int.reduceNeg, Int.reduceAdd, Int.reduceSub, Int.reduceMul, Int.reduceToNat, reduceIte, reduceCtorEq, List.map_cons, List.map_nil] | (refine And.intro ?_ ?_; omega) | (refine And.intro (shr_bd ?_ ?_) ?_; omega; omega) | refine sl_list rfl ?_ | refine sd_list rfl ?_ | refine sl_str ?_ | refine sd_str ?_))
    refine callD (iNowOf_c t.g ht.g) rfl rfl rfl ?_
    (repeat' (first | simp -implicitDefEqProofs only [go_sem, Nat.reduceLT, Nat.reduceLeDiff, Nat.reduceEqDiff, Nat.reduceAdd, Nat.reduceSub, Nat.reduceMul, Int.reduceEq, Int.reduceLT, Int.reduceLE, Int.reduceNeg, Int.reduceAdd, Int.reduceSub, Int.reduceMul, Int.reduceToNat, reduceIte, reduceCtorEq, List.map_cons, List.map_nil] | (refine And.intro ?_ ?_; omega) | (refine And.intro (shr_bd ?_ ?_) ?_; omega; omega) | refine sl_list rfl ?_ | refine sd_list rfl ?_ | refine sl_str ?_ | refine sd_str ?_))
    refine callD (iUndoAll_c t.g.x.b (nowOf t.g) t.g.j (now_le (tableOk_g h1)) ht.g.j) rfl rfl rfl ?_
    by_cases h2 : (undoAll t.g.x.b (nowOf t.g) t.g.j).isSome = true
    · (repeat' (first | simp -implicitDefEqProofs only [h2, go_sem, Nat.reduceLT, Nat.reduceLeDiff, Nat.reduceEqDiff, Nat.reduceAdd, Nat.reduceSub, Nat.reduceMul, Int.reduceEq, Int.reduceLT, Int.reduceLE, Int.reduceNeg, Int.reduceAdd, Int.reduceSub, Int.reduceMul, Int.reduceToNat, reduceIte, reduceCtorEq, List.map_cons, List.map_nil] | (refine And.intro ?_ ?_; omega) | (refine And.intro (shr_bd ?_ ?_) ?_; omega; omega) | refine sl_list rfl ?_ | refine sd_list rfl ?_ | refine sl_str ?_ | refine sd_str ?_))
      exact fin_scal rfl (by simp [auditOk, h1, h2])
    · (repeat' (first | simp -implicitDefEqProofs only [h2, go_sem, Nat.reduceLT, Nat.reduceLeDiff, Nat.reduceEqDiff, Nat.reduceAdd, Nat.reduceSub, Nat.reduceMul, Int.reduceEq, Int.reduceLT, Int.reduceLE, Int.reduceNeg, Int.reduceAdd, Int.reduceSub, Int.reduceMul, Int.reduceToNat, reduceIte, reduceCtorEq, List.map_cons, List.map_nil] | (refine And.intro ?_ ?_; omega) | (refine And.intro (shr_bd ?_ ?_) ?_; omega; omega) | refine sl_list rfl ?_ | refine sd_list rfl ?_ | refine sl_str ?_ | refine sd_str ?_))
      exact fin_scal rfl (by simp [auditOk, h2])
  · (repeat' (first | simp -implicitDefEqProofs only [h1, go_sem, Nat.reduceLT, Nat.reduceLeDiff, Nat.reduceEqDiff, Nat.reduceAdd, Nat.reduceSub, Nat.reduceMul, Int.reduceEq, Int.reduceLT, Int.reduceLE, Int.reduceNeg, Int.reduceAdd, Int.reduceSub, Int.reduceMul, Int.reduceToNat, reduceIte, reduceCtorEq, List.map_cons, List.map_nil] | (refine And.intro ?_ ?_; omega) | (refine And.intro (shr_bd ?_ ?_) ?_; omega; omega) | refine sl_list rfl ?_ | refine sd_list rfl ?_ | refine sl_str ?_ | refine sd_str ?_))
    exact fin_scal rfl (by simp [auditOk, h1])
set_option maxHeartbeats 4000000 in
theorem lawAuditTable_c (t : Tb) (hx : pzIn t.g.x) (hn : t.g.j.length ≤ maxLen) (hr : t.r.length ≤ maxLen) : PC Try.prog 11 [] [.a (tbL t)] (vB true) ⟨[], []⟩ := by
  refine pc_of Try.func11 rfl (by kernel_rfl) _ Try.ntmps11 (by simp) ?_
  by_cases hs : szT t 1048576 < 0
  · repeat' first
      | (first | simp -implicitDefEqProofs only [hs, go_sem, Nat.reduceLT, Nat.reduceLeDiff, Nat.reduceEqDiff, Nat.reduceAdd, Nat.reduceSub, Nat.reduceMul, Int.reduceEq, Int.reduceLT, Int.reduceLE, Int.reduceNeg, Int.reduceAdd, Int.reduceSub, Int.reduceMul, Int.reduceToNat, reduceIte, reduceCtorEq, List.map_cons, List.map_nil] | (refine And.intro ?_ ?_; omega) | (refine And.intro (shr_bd ?_ ?_) ?_; omega; omega) | refine sl_list rfl ?_ | refine sd_list rfl ?_ | refine sl_str ?_ | refine sd_str ?_)
      | refine callS (szTable_c t _ (by omega) (by omega) hn hr) rfl rfl rfl ?_
    all_goals exact fin_scal rfl rfl
  · have h1 : (t.g.j.length : Int) ≤ 1048576 := by unfold szT at hs; split at hs <;> omega
    have h2 : (t.r.length : Int) ≤ 1048576 := by unfold szT at hs; split at hs; (split at hs <;> omega); omega
    have ht : TbIn t := ⟨⟨hx, by omega⟩, by omega⟩
    repeat' first
      | (first | simp -implicitDefEqProofs only [hs, go_sem, Nat.reduceLT, Nat.reduceLeDiff, Nat.reduceEqDiff, Nat.reduceAdd, Nat.reduceSub, Nat.reduceMul, Int.reduceEq, Int.reduceLT, Int.reduceLE, Int.reduceNeg, Int.reduceAdd, Int.reduceSub, Int.reduceMul, Int.reduceToNat, reduceIte, reduceCtorEq, List.map_cons, List.map_nil] | (refine And.intro ?_ ?_; omega) | (refine And.intro (shr_bd ?_ ?_) ?_; omega; omega) | refine sl_list rfl ?_ | refine sd_list rfl ?_ | refine sl_str ?_ | refine sd_str ?_)
      | refine draw_stepY Try.pl_follows (by kernel_rfl) ?_
      | refine callS (szTable_c t _ (by omega) (by omega) hn hr) rfl rfl rfl ?_
      | refine callL (toTable_c 13 1013 (by omega) t (by omega) (by omega)) rfl rfl rfl ?_
      | refine callL (toTable_c 16 1016 (by omega) t (by omega) (by omega)) rfl rfl rfl ?_
      | refine callL (toTable_c 24 1024 (by omega) t (by omega) (by omega)) rfl rfl rfl ?_
      | refine callS (AuditTable_c t ht) rfl rfl rfl ?_
      | refine callS (iAuditTable_c t ht) rfl rfl rfl ?_
      | refine callS (eqTable_c t (by omega) (by omega)) rfl rfl rfl ?_
    all_goals exact fin_scal rfl rfl
theorem fnExactAuditTable.law_c {cs : List C} (h : All2 TC [.z (.i .i64), .z (.i .i64), .z (.i .i64), .z (.i .i64), .z (.i .i64), .l 3 true [.i .i64, .i .i64, .i .i64], .z (.i .i64), .z (.i .i64), .z (.i .i64), .z (.i .i64), .z (.i .i64), .z (.i .i64), .l 4 true recK] cs) : PC Try.prog 11 [] [.a cs] (vB true) ⟨[], []⟩ := by
  obtain ⟨t, rfl, hx, hn, hr⟩ := tb_of h
  exact lawAuditTable_c t hx hn hr
end Go.Proofs.Ytengcnpmhncefaa
