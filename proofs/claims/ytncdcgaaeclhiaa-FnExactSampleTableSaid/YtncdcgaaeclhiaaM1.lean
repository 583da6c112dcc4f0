/-
  What the functions compute that write a list of records anew and read it again.
-/
import Derived.Test.YtncdcgaaeclhiaaGb
import Derived.Test.YtncdcgaaeclhiaaL2
namespace Go.Proofs.Ytncdcgaaeclhiaa
open Go.PL
set_option linter.unusedSimpArgs false
def mkRec (k : Int) (j : Nat) : Value := .agg #[.int .i64 (k + 4 * j), .int .i64 (k + 4 * j + 1), .int .i64 (k + 4 * j + 2), .int .i64 (k + 4 * j + 3)]
set_option maxHeartbeats 2000000 in
theorem markRecordS_c (d : Nat) (rs : List Rec) (k : Int) (hn : rs.length ≤ 1048576) (h0 : 0 ≤ k) (h1 : k ≤ 1000000000000) :
    PI Try.prog 61 [(d, ⟨107, 4, rs.map recV, false, true⟩)] [.c (.o d), .c (.v (.int .i64 k))] (.s (.c (.v (.int .i64 (k + 4 * rs.length))))) ⟨[], [(d, ⟨107, 4, marks (mkRec k) rs.length, false, true⟩)]⟩ := by
  refine pi_of Try.func61 rfl (by kernel_rfl) _ Try.ntmps61 (by simp) ?_
  simp -implicitDefEqProofs only [go_sem, Nat.reduceLT, Nat.reduceLeDiff, Nat.reduceEqDiff, Nat.reduceAdd, Nat.reduceSub, Nat.reduceMul, Int.reduceEq, Int.reduceLT, Int.reduceLE, Int.reduceNeg, Int.reduceAdd, Int.reduceSub, Int.reduceMul, Int.reduceToNat, reduceIte, reduceCtorEq, List.map_cons, List.map_nil]
  refine loop_step (X := Nat) (fun i => ⟨41, [(0, vO d), (1, vN (k + 4 * i)), (5, vN i)], ⟨[], [(d, ⟨107, 4, mkd (mkRec k) (rs.map recV) i, false, true⟩)]⟩⟩)
    (fun i => i ≤ rs.length) (fun i => rs.length - i) 0 (by omega) (weak_of (fun i => i) (fun i => i) rfl ⟨by simp [boxesR, listsR, csR, renC, keyC, optK, fnd, envR, St.get, keyPV, keyV1, renPV, renV1, hasKey, made_zero, mkd_zero] <;> omega, by simp [boxesR, listsR, csR, renC, keyC, optK, fnd, envR, St.get, keyPV, keyV1, renPV, renV1, hasKey, made_zero, mkd_zero] <;> omega, by simp [boxesR, listsR, csR, renC, keyC, optK, fnd, envR, St.get, keyPV, keyV1, renPV, renV1, hasKey, made_zero, mkd_zero] <;> omega, by simp [boxesR, listsR, csR, renC, keyC, optK, fnd, envR, St.get, keyPV, keyV1, renPV, renV1, hasKey, made_zero, mkd_zero] <;> omega, by simp [boxesR, listsR, csR, renC, keyC, optK, fnd, envR, St.get, keyPV, keyV1, renPV, renV1, hasKey, made_zero, mkd_zero] <;> omega⟩ (by simp [boxesR, listsR, csR, renC, keyC, optK, fnd, envR, St.get, keyPV, keyV1, renPV, renV1, hasKey, made_zero, mkd_zero] <;> omega)) (fun i hi => ?_)
  have hml := mkd_len (f := mkRec k) (l := rs.map recV) (i := i) (by simpa using hi)
  have hml' : (mkd (mkRec k) (rs.map recV) i).length = rs.length := by simpa using hml
  simp -implicitDefEqProofs only [hml', go_sem, Nat.reduceLT, Nat.reduceLeDiff, Nat.reduceEqDiff, Nat.reduceAdd, Nat.reduceSub, Nat.reduceMul, Int.reduceEq, Int.reduceLT, Int.reduceLE, Int.reduceNeg, Int.reduceAdd, Int.reduceSub, Int.reduceMul, Int.reduceToNat, reduceIte, reduceCtorEq, List.map_cons, List.map_nil]
  refine if_splitP (fun h => ?_) (fun h => ?_)
  · have hlt : i < rs.length := by omega
    have hg : (mkd (mkRec k) (rs.map recV) i)[i]? = some (recV rs[i]) := by rw [mkd_get, map_get hlt]
    repeat' first
      | simp -implicitDefEqProofs only [hml', hg, hlt, recV, go_sem, Nat.reduceLT, Nat.reduceLeDiff, Nat.reduceEqDiff, Nat.reduceAdd, Nat.reduceSub, Nat.reduceMul, Int.reduceEq, Int.reduceLT, Int.reduceLE, Int.reduceNeg, Int.reduceAdd, Int.reduceSub, Int.reduceMul, Int.reduceToNat, reduceIte, reduceCtorEq, List.map_cons, List.map_nil]
      | refine And.intro (by omega) ?_
    have e : mkd (mkRec k) (rs.map recV) (i + 1) = (mkd (mkRec k) (rs.map recV) i).set i (.agg #[.int .i64 (k + 4 * i), .int .i64 (k + 4 * i + 1), .int .i64 (k + 4 * i + 1 + 1), .int .i64 (k + 4 * i + 1 + 1 + 1)]) := by
      rw [← mkd_set (by simpa using hlt)]
      simp only [mkRec, Int.add_assoc]
      rfl
    have e2 : k + 4 * ((i : Int) + 1) = k + 4 * i + 1 + 1 + 1 + 1 := by omega
    exact ⟨i + 1, by omega, by omega, weak_of (fun i => i) (fun i => i) rfl ⟨by simp [boxesR, listsR, csR, renC, keyC, optK, fnd, envR, St.get, keyPV, keyV1, renPV, renV1, hasKey, made_zero, e, e2] <;> omega, by simp [boxesR, listsR, csR, renC, keyC, optK, fnd, envR, St.get, keyPV, keyV1, renPV, renV1, hasKey, made_zero, e, e2] <;> omega, by simp [boxesR, listsR, csR, renC, keyC, optK, fnd, envR, St.get, keyPV, keyV1, renPV, renV1, hasKey, made_zero, e, e2] <;> omega, by simp [boxesR, listsR, csR, renC, keyC, optK, fnd, envR, St.get, keyPV, keyV1, renPV, renV1, hasKey, made_zero, e, e2] <;> omega, by simp [boxesR, listsR, csR, renC, keyC, optK, fnd, envR, St.get, keyPV, keyV1, renPV, renV1, hasKey, made_zero, e, e2] <;> omega⟩ (by simp [boxesR, listsR, csR, renC, keyC, optK, fnd, envR, St.get, keyPV, keyV1, renPV, renV1, hasKey, made_zero, e, e2] <;> omega)⟩
  · have hle : i = rs.length := by omega
    subst hle
    have e : mkd (mkRec k) (rs.map recV) rs.length = marks (mkRec k) rs.length := by
      have := mkd_end (f := mkRec k) (l := rs.map recV)
      simpa using this
    simp -implicitDefEqProofs only [e, go_sem, Nat.reduceLT, Nat.reduceLeDiff, Nat.reduceEqDiff, Nat.reduceAdd, Nat.reduceSub, Nat.reduceMul, Int.reduceEq, Int.reduceLT, Int.reduceLE, Int.reduceNeg, Int.reduceAdd, Int.reduceSub, Int.reduceMul, Int.reduceToNat, reduceIte, reduceCtorEq, List.map_cons, List.map_nil]
    exact fin_of (fun i => i) (fun i => i) ⟨by simp [boxesR, listsR, csR, renC, keyC, optK, fnd, envR, St.get, keyPV, keyV1, renPV, renV1, hasKey, made_zero] <;> omega, by simp [boxesR, listsR, csR, renC, keyC, optK, fnd, envR, St.get, keyPV, keyV1, renPV, renV1, hasKey, made_zero] <;> omega, by simp [boxesR, listsR, csR, renC, keyC, optK, fnd, envR, St.get, keyPV, keyV1, renPV, renV1, hasKey, made_zero] <;> omega, by simp [boxesR, listsR, csR, renC, keyC, optK, fnd, envR, St.get, keyPV, keyV1, renPV, renV1, hasKey, made_zero] <;> omega, by simp [boxesR, listsR, csR, renC, keyC, optK, fnd, envR, St.get, keyPV, keyV1, renPV, renV1, hasKey, made_zero] <;> omega⟩ (by simp [boxesR, listsR, csR, renC, keyC, optK, fnd, envR, St.get, keyPV, keyV1, renPV, renV1, hasKey, made_zero] <;> omega) rfl
theorem heldRecordS_c (n : Nat) (k : Int) (hn : n ≤ 1048576) (h0 : 0 ≤ k) (h1 : k ≤ 1000000000000) :
    PC Try.prog 62 [] [.c (.l 4 (marks (mkRec k) n)), .c (.v (.int .i64 k))] (.s (.c (.v (.int .i64 (k + 4 * n))))) ⟨[], []⟩ := by
  refine pc_of Try.func62 rfl (by kernel_rfl) _ Try.ntmps62 (by simp) ?_
  simp -implicitDefEqProofs only [go_sem, Nat.reduceLT, Nat.reduceLeDiff, Nat.reduceEqDiff, Nat.reduceAdd, Nat.reduceSub, Nat.reduceMul, Int.reduceEq, Int.reduceLT, Int.reduceLE, Int.reduceNeg, Int.reduceAdd, Int.reduceSub, Int.reduceMul, Int.reduceToNat, reduceIte, reduceCtorEq, List.map_cons, List.map_nil]
  refine loop_step (X := Nat) (fun i => ⟨49, [(0, vL 4 (marks (mkRec k) n)), (1, vN (k + 4 * i)), (5, vN i)], ⟨[], []⟩⟩)
    (fun i => i ≤ n) (fun i => n - i) 0 (by omega) (weak_of (fun i => i) (fun i => i) rfl ⟨by simp [boxesR, listsR, csR, renC, keyC, optK, fnd, envR, St.get, keyPV, keyV1, renPV, renV1, hasKey, made_zero] <;> omega, by simp [boxesR, listsR, csR, renC, keyC, optK, fnd, envR, St.get, keyPV, keyV1, renPV, renV1, hasKey, made_zero] <;> omega, by simp [boxesR, listsR, csR, renC, keyC, optK, fnd, envR, St.get, keyPV, keyV1, renPV, renV1, hasKey, made_zero] <;> omega, by simp [boxesR, listsR, csR, renC, keyC, optK, fnd, envR, St.get, keyPV, keyV1, renPV, renV1, hasKey, made_zero] <;> omega, by simp [boxesR, listsR, csR, renC, keyC, optK, fnd, envR, St.get, keyPV, keyV1, renPV, renV1, hasKey, made_zero] <;> omega⟩ (by simp [boxesR, listsR, csR, renC, keyC, optK, fnd, envR, St.get, keyPV, keyV1, renPV, renV1, hasKey, made_zero] <;> omega)) (fun i hi => ?_)
  simp -implicitDefEqProofs only [marks_len, go_sem, Nat.reduceLT, Nat.reduceLeDiff, Nat.reduceEqDiff, Nat.reduceAdd, Nat.reduceSub, Nat.reduceMul, Int.reduceEq, Int.reduceLT, Int.reduceLE, Int.reduceNeg, Int.reduceAdd, Int.reduceSub, Int.reduceMul, Int.reduceToNat, reduceIte, reduceCtorEq, List.map_cons, List.map_nil]
  refine if_splitP (fun h => ?_) (fun h => ?_)
  · have hlt : i < n := by omega
    have hg := marks_get (f := mkRec k) hlt
    have e1 : k + 4 * (i : Int) + 1 + 1 = k + 4 * i + 2 := by omega
    have e2 : k + 4 * (i : Int) + 2 + 1 = k + 4 * i + 3 := by omega
    repeat' first
      | simp -implicitDefEqProofs only [hg, mkRec, e1, e2, go_sem, Nat.reduceLT, Nat.reduceLeDiff, Nat.reduceEqDiff, Nat.reduceAdd, Nat.reduceSub, Nat.reduceMul, Int.reduceEq, Int.reduceLT, Int.reduceLE, Int.reduceNeg, Int.reduceAdd, Int.reduceSub, Int.reduceMul, Int.reduceToNat, reduceIte, reduceCtorEq, List.map_cons, List.map_nil]
      | refine And.intro (by omega) ?_
    have e2 : k + 4 * ((i : Int) + 1) = k + 4 * i + 3 + 1 := by omega
    exact ⟨i + 1, by omega, by omega, weak_of (fun i => i) (fun i => i) rfl ⟨by simp [boxesR, listsR, csR, renC, keyC, optK, fnd, envR, St.get, keyPV, keyV1, renPV, renV1, hasKey, made_zero, e2] <;> omega, by simp [boxesR, listsR, csR, renC, keyC, optK, fnd, envR, St.get, keyPV, keyV1, renPV, renV1, hasKey, made_zero, e2] <;> omega, by simp [boxesR, listsR, csR, renC, keyC, optK, fnd, envR, St.get, keyPV, keyV1, renPV, renV1, hasKey, made_zero, e2] <;> omega, by simp [boxesR, listsR, csR, renC, keyC, optK, fnd, envR, St.get, keyPV, keyV1, renPV, renV1, hasKey, made_zero, e2] <;> omega, by simp [boxesR, listsR, csR, renC, keyC, optK, fnd, envR, St.get, keyPV, keyV1, renPV, renV1, hasKey, made_zero, e2] <;> omega⟩ (by simp [boxesR, listsR, csR, renC, keyC, optK, fnd, envR, St.get, keyPV, keyV1, renPV, renV1, hasKey, made_zero, e2] <;> omega)⟩
  · have hle : i = n := by omega
    subst hle
    simp -implicitDefEqProofs only [go_sem, Nat.reduceLT, Nat.reduceLeDiff, Nat.reduceEqDiff, Nat.reduceAdd, Nat.reduceSub, Nat.reduceMul, Int.reduceEq, Int.reduceLT, Int.reduceLE, Int.reduceNeg, Int.reduceAdd, Int.reduceSub, Int.reduceMul, Int.reduceToNat, reduceIte, reduceCtorEq, List.map_cons, List.map_nil]
    exact fin_scal rfl rfl
end Go.Proofs.Ytncdcgaaeclhiaa
