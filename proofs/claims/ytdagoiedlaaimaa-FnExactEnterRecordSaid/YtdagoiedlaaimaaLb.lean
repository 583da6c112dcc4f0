/-
  The law on the entering of a record.
-/
import Derived.Test.YtdagoiedlaaimaaLa
namespace Go.Proofs.Ytdagoiedlaaimaa
open Go.PL
set_option linter.unusedSimpArgs false
theorem enterRecord_len {rs : List Rec} {r : Rec} (hn : rs.length ≤ 1048576) : (enterRecord rs r).1.length ≤ 1048576 := by
  have h := entered_len (rs := rs) (r := r)
  unfold enterRecord
  split
  · rename_i hk
    have := recordsOk_len hk
    split <;> (simp only; omega)
  · exact hn
set_option maxHeartbeats 4000000 in
theorem lawEnterRecord_c (rs : List Rec) (r : Rec) (hn : rs.length ≤ maxLen) : PC Try.prog 13 [] [.c (.l 4 (rs.map recV)), .a (recC r)] (vB true) ⟨[], []⟩ := by
  refine pc_of Try.func13 rfl (by kernel_rfl) _ Try.ntmps13 (by simp) ?_
  by_cases hs : rs.length ≤ 1048576
  · have e : (1048576 - (rs.length : Int) < 0) = False := by simp; omega
    have e2 : (1 + 4 * ((enterRecord rs r).1.length : Int) < 0) = False := by simp; omega
    have e3 : (1 + 4 * (rs.length : Int) < 0) = False := by simp; omega
    have hl := enterRecord_len (r := r) hs
    repeat' first
      | simp -implicitDefEqProofs only [hs, e, e2, e3, go_sem, Nat.reduceLT, Nat.reduceLeDiff, Nat.reduceEqDiff, Nat.reduceAdd, Nat.reduceSub, Nat.reduceMul, Int.reduceEq, Int.reduceLT, Int.reduceLE, Int.reduceNeg, Int.reduceAdd, Int.reduceSub, Int.reduceMul, Int.reduceToNat, reduceIte, reduceCtorEq, List.map_cons, List.map_nil]
      | refine draw_stepY Try.pl_follows (by kernel_rfl) ?_
      | refine callS (szRecordS_c _ hn) rfl rfl rfl ?_
      | refine callL (toRecordS_c 23 _ hs) rfl rfl rfl ?_
      | refine callL (toRecordS_c 30 _ hs) rfl rfl rfl ?_
      | refine callL (toRecordS_c 49 _ hs) rfl rfl rfl ?_
      | refine callL (toRecordS_c 81 _ hs) rfl rfl rfl ?_
      | refine callS (toRecord_c _) rfl rfl rfl ?_
      | refine callL (EnterRecord_c 26 _ _ hs) rfl rfl rfl ?_
      | refine callL (iEnterRecord_c 35 _ _ hs) rfl rfl rfl ?_
      | refine callL (iEnterRecord_c 84 _ _ hs) rfl rfl rfl ?_
      | refine callS (eqRecordS_c _ hs) rfl rfl rfl ?_
      | refine callS (eqRecordS_c _ hl) rfl rfl rfl ?_
      | refine callI (markRecordS_c 30 _ _ hs (by omega) (by omega)) ⟨⟨rfl, rfl, rfl⟩, rfl, trivial⟩ rfl rfl rfl ?_
      | refine callI (markRecordS_c 35 _ _ hl (by omega) (by omega)) ⟨⟨rfl, rfl, rfl⟩, rfl, trivial⟩ rfl rfl rfl ?_
      | refine callS (heldRecordS_c _ _ hl (by omega) (by omega)) rfl rfl rfl ?_
    all_goals exact fin_scal rfl rfl
  · repeat' first
      | simp -implicitDefEqProofs only [hs, go_sem, Nat.reduceLT, Nat.reduceLeDiff, Nat.reduceEqDiff, Nat.reduceAdd, Nat.reduceSub, Nat.reduceMul, Int.reduceEq, Int.reduceLT, Int.reduceLE, Int.reduceNeg, Int.reduceAdd, Int.reduceSub, Int.reduceMul, Int.reduceToNat, reduceIte, reduceCtorEq, List.map_cons, List.map_nil]
      | refine callS (szRecordS_c _ hn) rfl rfl rfl ?_
    all_goals exact fin_scal rfl rfl
theorem recC_of {cs : List C} (h : All2 TC [.z (.i .i64), .z (.i .i64), .z (.i .i64), .z (.i .i64)] cs) : ∃ r : Rec, cs = recC r := by
  obtain ⟨c1, r1, rfl, h1, g1⟩ := all2_cons h
  obtain ⟨c2, r2, rfl, h2, g2⟩ := all2_cons g1
  obtain ⟨c3, r3, rfl, h3, g3⟩ := all2_cons g2
  obtain ⟨c4, r4, rfl, h4, g4⟩ := all2_cons g3
  obtain rfl := all2_nil g4
  obtain ⟨a, rfl, _⟩ := tc_i h1
  obtain ⟨b, rfl, _⟩ := tc_i h2
  obtain ⟨c, rfl, _⟩ := tc_i h3
  obtain ⟨d, rfl, _⟩ := tc_i h4
  exact ⟨⟨a, b, c, d⟩, rfl⟩
theorem fnExactEnterRecord.law_c {c : C} {cs : List C} (h : TC (.l 4 true recK) c) (h' : All2 TC [.z (.i .i64), .z (.i .i64), .z (.i .i64), .z (.i .i64)] cs) : PC Try.prog 13 [] [.c c, .a cs] (vB true) ⟨[], []⟩ := by
  obtain ⟨rs, rfl, hl, _⟩ := recs_of h
  obtain ⟨r, rfl⟩ := recC_of h'
  exact lawEnterRecord_c rs r hl
end Go.Proofs.Ytdagoiedlaaimaa
