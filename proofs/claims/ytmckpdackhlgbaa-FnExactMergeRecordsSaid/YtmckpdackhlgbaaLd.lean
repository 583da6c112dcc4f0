/-
  The law on merging records.
-/
import Derived.Test.YtmckpdackhlgbaaLc
namespace Go.Proofs.Ytmckpdackhlgbaa
open Go.PL
set_option linter.unusedSimpArgs false
theorem szRecordS_g (xs : List Rec) (left : Int) (h0 : 0 ≤ left) (h1 : left ≤ 1048576) (hn : xs.length ≤ maxLen) : PC Try.prog 31 [] [.c (.l 4 (xs.map recV)), .c (.v (.int .i64 left))] (.s (.c (.v (.int .i64 (if (xs.length : Int) ≤ left then left - xs.length else -1))))) ⟨[], []⟩ := by
  refine pc_of Try.func31 rfl (by kernel_rfl) _ Try.ntmps31 (by simp) ?_
  simp only [maxLen] at hn
  repeat' first
    | simp -implicitDefEqProofs only [go_sem, Nat.reduceLT, Nat.reduceLeDiff, Nat.reduceEqDiff, Nat.reduceAdd, Nat.reduceSub, Nat.reduceMul, Int.reduceEq, Int.reduceLT, Int.reduceLE, Int.reduceNeg, Int.reduceAdd, Int.reduceSub, Int.reduceMul, Int.reduceToNat, reduceIte, reduceCtorEq, List.map_cons, List.map_nil]
    | refine if_splitP (fun h => ?_) (fun h => ?_) | refine if_splitN (fun h => ?_) (fun h => ?_) | refine if_split (fun h => ?_) (fun h => ?_) | refine grd_splitP (fun h => ?_) (fun h => ?_) | refine grd_splitN (fun h => ?_) (fun h => ?_) | refine grd_split (fun h => ?_) (fun h => ?_) | refine grdX_splitP (fun h => ?_) (fun h => ?_) | refine grdX_splitN (fun h => ?_) (fun h => ?_) | refine grdX_split (fun h => ?_) (fun h => ?_) | refine grdY_splitP (fun h => ?_) (fun h => ?_) | refine grdY_splitN (fun h => ?_) (fun h => ?_) | refine grdY_split (fun h => ?_) (fun h => ?_)
    | (refine And.intro ?_ ?_; omega)
  · exact fin_scal rfl (by rw [if_neg (by omega)])
  · exact fin_scal rfl (by rw [if_pos (by omega)])
set_option maxHeartbeats 8000000 in
theorem lawMergeRecords_c (rs cs : List Rec) (hn : rs.length ≤ maxLen) (hc : cs.length ≤ maxLen) : PC Try.prog 5 [] [.c (.l 4 (rs.map recV)), .c (.l 4 (cs.map recV))] (vB true) ⟨[], []⟩ := by
  refine pc_of Try.func5 rfl (by kernel_rfl) _ Try.ntmps5 (by simp) ?_
  by_cases hs : (rs.length : Int) ≤ 1048576
  · have e : (1048576 - (rs.length : Int) < 0) = False := by simp; omega
    by_cases ht : (cs.length : Int) ≤ 1048576 - rs.length
    · have e0 : (1048576 - (rs.length : Int) - cs.length < 0) = False := by simp; omega
      have hl := mergeR_len (rs := rs) (cs := cs) (by omega)
      have e2 : (1 + 4 * ((mergeR rs cs).1.length : Int) < 0) = False := by simp; omega
      have e3 : (1 + 4 * (rs.length : Int) + 4 * cs.length < 0) = False := by simp; omega
      repeat' first
        | (first | simp -implicitDefEqProofs only [hs, ht, e, e0, e2, e3, go_sem, Nat.reduceLT, Nat.reduceLeDiff, Nat.reduceEqDiff, Nat.reduceAdd, Nat.reduceSub, Nat.reduceMul, Int.reduceEq, Int.reduceLT, Int.reduceLE, Int.reduceNeg, Int.reduceAdd, Int.reduceSub, Int.reduceMul, Int.reduceToNat, reduceIte, reduceCtorEq, List.map_cons, List.map_nil] | (refine And.intro ?_ ?_; omega) | refine sl_list rfl ?_ | refine sd_list rfl ?_ | refine sl_str ?_ | refine sd_str ?_)
        | refine callS (szRecordS_g _ _ (by omega) (by omega) hn) rfl rfl rfl ?_
        | refine callS (szRecordS_g _ _ (by omega) (by omega) hc) rfl rfl rfl ?_
        | refine callL (toRecordS_c 29 rs (by omega)) rfl rfl rfl ?_
        | refine callL (toRecordS_c 31 cs (by omega)) rfl rfl rfl ?_
        | refine callL (toRecordS_c 36 rs (by omega)) rfl rfl rfl ?_
        | refine callL (toRecordS_c 38 cs (by omega)) rfl rfl rfl ?_
        | refine callL (toRecordS_c 56 rs (by omega)) rfl rfl rfl ?_
        | refine callL (toRecordS_c 61 cs (by omega)) rfl rfl rfl ?_
        | refine callL (toRecordS_c 96 rs (by omega)) rfl rfl rfl ?_
        | refine callL (toRecordS_c 98 cs (by omega)) rfl rfl rfl ?_
        | refine callL (MergeRecords_c 32 _ _ (by omega) (by omega)) rfl rfl rfl ?_
        | refine callL (iMergeRecords_c 42 _ _ (by omega) (by omega)) rfl rfl rfl ?_
        | refine callL (iMergeRecords_c 99 _ _ (by omega) (by omega)) rfl rfl rfl ?_
        | refine callS (eqRecordS_c rs (by omega)) rfl rfl rfl ?_
        | refine callS (eqRecordS_c cs (by omega)) rfl rfl rfl ?_
        | refine callS (eqRecordS_c _ hl) rfl rfl rfl ?_
        | refine callI (markRecordS_c 36 rs _ (by omega) (by omega) (by omega)) ⟨⟨rfl, rfl, rfl⟩, rfl, trivial⟩ rfl rfl rfl ?_
        | refine callI (markRecordS_c 38 cs _ (by omega) (by omega) (by omega)) ⟨⟨rfl, rfl, rfl⟩, rfl, trivial⟩ rfl rfl rfl ?_
        | refine callI (markRecordS_c 42 _ _ hl (by omega) (by omega)) ⟨⟨rfl, rfl, rfl⟩, rfl, trivial⟩ rfl rfl rfl ?_
        | refine callS (heldRecordS_c _ _ hl (by omega) (by omega)) rfl rfl rfl ?_
      all_goals exact fin_scal rfl rfl
    · repeat' first
        | (first | simp -implicitDefEqProofs only [hs, ht, e, go_sem, Nat.reduceLT, Nat.reduceLeDiff, Nat.reduceEqDiff, Nat.reduceAdd, Nat.reduceSub, Nat.reduceMul, Int.reduceEq, Int.reduceLT, Int.reduceLE, Int.reduceNeg, Int.reduceAdd, Int.reduceSub, Int.reduceMul, Int.reduceToNat, reduceIte, reduceCtorEq, List.map_cons, List.map_nil] | (refine And.intro ?_ ?_; omega) | refine sl_list rfl ?_ | refine sd_list rfl ?_ | refine sl_str ?_ | refine sd_str ?_)
        | refine callS (szRecordS_g _ _ (by omega) (by omega) hn) rfl rfl rfl ?_
        | refine callS (szRecordS_g _ _ (by omega) (by omega) hc) rfl rfl rfl ?_
      all_goals exact fin_scal rfl rfl
  · repeat' first
      | (first | simp -implicitDefEqProofs only [hs, go_sem, Nat.reduceLT, Nat.reduceLeDiff, Nat.reduceEqDiff, Nat.reduceAdd, Nat.reduceSub, Nat.reduceMul, Int.reduceEq, Int.reduceLT, Int.reduceLE, Int.reduceNeg, Int.reduceAdd, Int.reduceSub, Int.reduceMul, Int.reduceToNat, reduceIte, reduceCtorEq, List.map_cons, List.map_nil] | (refine And.intro ?_ ?_; omega) | refine sl_list rfl ?_ | refine sd_list rfl ?_ | refine sl_str ?_ | refine sd_str ?_)
      | refine callS (szRecordS_g _ _ (by omega) (by omega) hn) rfl rfl rfl ?_
    all_goals exact fin_scal rfl rfl
theorem fnExactMergeRecords.law_c {c c' : C} (h : TC (.l 4 true recK) c) (h' : TC (.l 4 true recK) c') : PC Try.prog 5 [] [.c c, .c c'] (vB true) ⟨[], []⟩ := by
  obtain ⟨rs, rfl, hl, _⟩ := recs_of h
  obtain ⟨cs, rfl, hc, _⟩ := recs_of h'
  exact lawMergeRecords_c rs cs hl hc
end Go.Proofs.Ytmckpdackhlgbaa
