/-
  The law on claiming a record.
-/
import Derived.Test.YtncdcgaaeclhiaaR5
import Derived.Test.YtncdcgaaeclhiaaZ1
namespace Go.Proofs.Ytncdcgaaeclhiaa
open Go.PL
set_option linter.unusedSimpArgs false
set_option maxHeartbeats 16000000 in
theorem lawClaimRecord_c (t : Tb) (n : Int) (day : Int) (hx : pzIn t.g.x) (hn : t.g.j.length ≤ maxLen) (hr : t.r.length ≤ maxLen) : PC Try.prog 9 [] [.a (tbL t), .c (.v (.int .i64 n)), .c (.v (.int .i64 day))] (vB true) ⟨[], []⟩ := by
  refine pc_of Try.func9 rfl (by kernel_rfl) _ Try.ntmps9 (by simp) ?_
  by_cases hs : szT t 1048576 < 0
  · repeat' first
      | (first | simp -implicitDefEqProofs only [hs, go_sem, Nat.reduceLT, Nat.reduceLeDiff, Nat.reduceEqDiff, Nat.reduceAdd, Nat.reduceSub, Nat.reduceMul, Int.reduceEq, Int.reduceLT, Int.reduceLE, Int.reduceNeg, Int.reduceAdd, Int.reduceSub, Int.reduceMul, Int.reduceToNat, reduceIte, reduceCtorEq, List.map_cons, List.map_nil] | (refine And.intro ?_ ?_; omega) | (refine And.intro (shr_bd ?_ ?_) ?_; omega; omega) | refine sl_list rfl ?_ | refine sd_list rfl ?_ | refine sl_str ?_ | refine sd_str ?_)
      | refine callS (szTable_c t _ (by omega) (by omega) hn hr) rfl rfl rfl ?_
    all_goals exact fin_scal rfl rfl
  · have h1 : (t.g.j.length : Int) ≤ 1048576 := by unfold szT at hs; split at hs <;> omega
    have h2 : (t.r.length : Int) ≤ 1048576 := by unfold szT at hs; split at hs; (split at hs <;> omega); omega
    have ht : TbS t := ⟨hx, by omega, by omega⟩
    obtain ⟨l1, l2⟩ := claimT_len (n := n) (day := day) ht
    have e2 : (1 + 3 * ((claimT t n day).g.j.length : Int) + 4 * ((claimT t n day).r.length : Int) < 0) = False := by simp; omega
    have e3 : (1 + 3 * (t.g.j.length : Int) + 4 * (t.r.length : Int) < 0) = False := by simp; omega
    repeat' first
      | (first | simp -implicitDefEqProofs only [hs, e2, e3, go_sem, Nat.reduceLT, Nat.reduceLeDiff, Nat.reduceEqDiff, Nat.reduceAdd, Nat.reduceSub, Nat.reduceMul, Int.reduceEq, Int.reduceLT, Int.reduceLE, Int.reduceNeg, Int.reduceAdd, Int.reduceSub, Int.reduceMul, Int.reduceToNat, reduceIte, reduceCtorEq, List.map_cons, List.map_nil] | (refine And.intro ?_ ?_; omega) | (refine And.intro (shr_bd ?_ ?_) ?_; omega; omega) | refine sl_list rfl ?_ | refine sd_list rfl ?_ | refine sl_str ?_ | refine sd_str ?_)
      | refine draw_stepY Try.pl_follows (by kernel_rfl) ?_
      | refine callS (szTable_c t _ (by omega) (by omega) hn hr) rfl rfl rfl ?_
      | refine callL2 (fun d e h => toTable_c d e h t (by omega) (by omega)) rfl rfl rfl ?_
      | refine callL2 (fun d e h => ClaimRecord_c d e h t n day ht) rfl rfl rfl ?_
      | refine callL2 (fun d e h => iClaimRecord_c d e h t n day ht) rfl rfl rfl ?_
      | refine callS (eqTable_c t (by omega) (by omega)) rfl rfl rfl ?_
      | refine callS (eqTable_c (claimT t n day) (by omega) (by omega)) rfl rfl rfl ?_
      | refine callI (markTable_c 32 1032 (by omega) t _ (by omega) (by omega) (by omega) (by omega)) ⟨⟨rfl, rfl, rfl⟩, rfl, ⟨rfl, rfl, rfl⟩, rfl, trivial⟩ rfl rfl rfl ?_
      | refine callI (markTable_c 37 1037 (by omega) (claimT t n day) _ (by omega) (by omega) (by omega) (by omega)) ⟨⟨rfl, rfl, rfl⟩, rfl, ⟨rfl, rfl, rfl⟩, rfl, trivial⟩ rfl rfl rfl ?_
      | refine callS (heldTable_c (claimT t n day) _ _ _ (by omega) (by omega) (by omega) (by omega)) rfl rfl rfl ?_
    all_goals exact fin_scal rfl rfl
theorem fnExactClaimRecord.law_c {cs : List C} {c2 : C} {c3 : C} (h : All2 TC [.z (.i .i64), .z (.i .i64), .z (.i .i64), .z (.i .i64), .z (.i .i64), .l 3 true [.i .i64, .i .i64, .i .i64], .z (.i .i64), .z (.i .i64), .z (.i .i64), .z (.i .i64), .z (.i .i64), .z (.i .i64), .l 4 true recK] cs) (h2 : TC (.z (.i .i64)) c2) (h3 : TC (.z (.i .i64)) c3) : PC Try.prog 9 [] [.a cs, .c c2, .c c3] (vB true) ⟨[], []⟩ := by
  obtain ⟨t, rfl, hx, hn, hr⟩ := tb_of h
  obtain ⟨n, rfl, _⟩ := tc_i h2
  obtain ⟨day, rfl, _⟩ := tc_i h3
  exact lawClaimRecord_c t n day hx hn hr
end Go.Proofs.Ytncdcgaaeclhiaa
