/-
  What the functions compute that copy a list of lines and measure it.
-/
import Derived.Test.YtncdcgaaeclhiaaGb
import Derived.Test.YtncdcgaaeclhiaaL6
namespace Go.Proofs.Ytncdcgaaeclhiaa
open Go.PL
set_option linter.unusedSimpArgs false
theorem toLine_c (r : Ln) : PC Try.prog 17 [] [.a (lineC r)] (.s (.a (lineC r))) ⟨[], []⟩ := by
  refine pc_of Try.func17 rfl (by kernel_rfl) _ Try.ntmps17 (by simp) ?_
  simp -implicitDefEqProofs only [go_sem, Nat.reduceLT, Nat.reduceLeDiff, Nat.reduceEqDiff, Nat.reduceAdd, Nat.reduceSub, Nat.reduceMul, Int.reduceEq, Int.reduceLT, Int.reduceLE, Int.reduceNeg, Int.reduceAdd, Int.reduceSub, Int.reduceMul, Int.reduceToNat, reduceIte, reduceCtorEq, List.map_cons, List.map_nil]
  exact fin_scal rfl rfl
theorem toLineS_c (d : Nat) (xs : List Ln) (hn : xs.length ≤ 1048576) : PC Try.prog 48 [] [.c (.l 3 (xs.map lineV))] (.s (.c (.o d))) ⟨[], [(d, ⟨44, 3, xs.map lineV, false, true⟩)]⟩ := by
  refine pc_of Try.func48 rfl (by kernel_rfl) _ Try.ntmps48 (by simp) ?_
  simp -implicitDefEqProofs only [go_sem, Nat.reduceLT, Nat.reduceLeDiff, Nat.reduceEqDiff, Nat.reduceAdd, Nat.reduceSub, Nat.reduceMul, Int.reduceEq, Int.reduceLT, Int.reduceLE, Int.reduceNeg, Int.reduceAdd, Int.reduceSub, Int.reduceMul, Int.reduceToNat, reduceIte, reduceCtorEq, List.map_cons, List.map_nil]
  refine ⟨by omega, ?_⟩
  refine loop_step (X := Nat) (fun i => ⟨23, [(0, vL 3 (xs.map lineV)), (3, vO 7), (4, vN i)], ⟨[], [(7, ⟨44, 3, made lineV (.agg #[.int .i64 0, .int .i64 0, .int .i64 0]) xs i, false, true⟩)]⟩⟩)
    (fun i => i ≤ xs.length) (fun i => xs.length - i) 0 (by simp) (weak_of (fun i => i) (fun i => i) rfl ⟨by simp [boxesR, listsR, csR, renC, keyC, optK, fnd, envR, St.get, keyPV, keyV1, renPV, renV1, hasKey, made_zero] <;> omega, by simp [boxesR, listsR, csR, renC, keyC, optK, fnd, envR, St.get, keyPV, keyV1, renPV, renV1, hasKey, made_zero] <;> omega, by simp [boxesR, listsR, csR, renC, keyC, optK, fnd, envR, St.get, keyPV, keyV1, renPV, renV1, hasKey, made_zero] <;> omega, by simp [boxesR, listsR, csR, renC, keyC, optK, fnd, envR, St.get, keyPV, keyV1, renPV, renV1, hasKey, made_zero] <;> omega, by simp [boxesR, listsR, csR, renC, keyC, optK, fnd, envR, St.get, keyPV, keyV1, renPV, renV1, hasKey, made_zero] <;> omega⟩ (by simp [boxesR, listsR, csR, renC, keyC, optK, fnd, envR, St.get, keyPV, keyV1, renPV, renV1, hasKey, made_zero] <;> omega)) (fun i hi => ?_)
  simp -implicitDefEqProofs only [go_sem, Nat.reduceLT, Nat.reduceLeDiff, Nat.reduceEqDiff, Nat.reduceAdd, Nat.reduceSub, Nat.reduceMul, Int.reduceEq, Int.reduceLT, Int.reduceLE, Int.reduceNeg, Int.reduceAdd, Int.reduceSub, Int.reduceMul, Int.reduceToNat, reduceIte, reduceCtorEq, List.map_cons, List.map_nil]
  refine if_split (fun h => ?_) (fun h => ?_)
  · have hlt : i < xs.length := by simpa using h
    simp -implicitDefEqProofs only [map_get hlt, lineV, go_sem, Nat.reduceLT, Nat.reduceLeDiff, Nat.reduceEqDiff, Nat.reduceAdd, Nat.reduceSub, Nat.reduceMul, Int.reduceEq, Int.reduceLT, Int.reduceLE, Int.reduceNeg, Int.reduceAdd, Int.reduceSub, Int.reduceMul, Int.reduceToNat, reduceIte, reduceCtorEq, List.map_cons, List.map_nil]
    refine callS (toLine_c xs[i]) rfl rfl rfl ?_
    simp -implicitDefEqProofs only [made_len hi, hlt, go_sem, Nat.reduceLT, Nat.reduceLeDiff, Nat.reduceEqDiff, Nat.reduceAdd, Nat.reduceSub, Nat.reduceMul, Int.reduceEq, Int.reduceLT, Int.reduceLE, Int.reduceNeg, Int.reduceAdd, Int.reduceSub, Int.reduceMul, Int.reduceToNat, reduceIte, reduceCtorEq, List.map_cons, List.map_nil]
    have hs : (made lineV (.agg #[.int .i64 0, .int .i64 0, .int .i64 0]) xs i).set i (.agg #[.int .i64 xs[i].f, .int .i64 xs[i].o, .int .i64 xs[i].t]) = made lineV _ xs (i + 1) := made_set hlt
    rw [hs]
    exact ⟨by omega, i + 1, by omega, by omega, weak_of (fun i => i) (fun i => i) rfl ⟨by simp [boxesR, listsR, csR, renC, keyC, optK, fnd, envR, St.get, keyPV, keyV1, renPV, renV1, hasKey, made_zero] <;> omega, by simp [boxesR, listsR, csR, renC, keyC, optK, fnd, envR, St.get, keyPV, keyV1, renPV, renV1, hasKey, made_zero] <;> omega, by simp [boxesR, listsR, csR, renC, keyC, optK, fnd, envR, St.get, keyPV, keyV1, renPV, renV1, hasKey, made_zero] <;> omega, by simp [boxesR, listsR, csR, renC, keyC, optK, fnd, envR, St.get, keyPV, keyV1, renPV, renV1, hasKey, made_zero] <;> omega, by simp [boxesR, listsR, csR, renC, keyC, optK, fnd, envR, St.get, keyPV, keyV1, renPV, renV1, hasKey, made_zero] <;> omega⟩ (by simp [boxesR, listsR, csR, renC, keyC, optK, fnd, envR, St.get, keyPV, keyV1, renPV, renV1, hasKey, made_zero] <;> omega)⟩
  · have hle : i = xs.length := by simp at h; omega
    subst hle
    simp -implicitDefEqProofs only [made_end, go_sem, Nat.reduceLT, Nat.reduceLeDiff, Nat.reduceEqDiff, Nat.reduceAdd, Nat.reduceSub, Nat.reduceMul, Int.reduceEq, Int.reduceLT, Int.reduceLE, Int.reduceNeg, Int.reduceAdd, Int.reduceSub, Int.reduceMul, Int.reduceToNat, reduceIte, reduceCtorEq, List.map_cons, List.map_nil]
    exact fin_of (fun i => i) (fun i => 7) ⟨by simp [boxesR, listsR, csR, renC, keyC, optK, fnd, envR, St.get, keyPV, keyV1, renPV, renV1, hasKey, made_zero] <;> omega, by simp [boxesR, listsR, csR, renC, keyC, optK, fnd, envR, St.get, keyPV, keyV1, renPV, renV1, hasKey, made_zero] <;> omega, by simp [boxesR, listsR, csR, renC, keyC, optK, fnd, envR, St.get, keyPV, keyV1, renPV, renV1, hasKey, made_zero] <;> omega, by simp [boxesR, listsR, csR, renC, keyC, optK, fnd, envR, St.get, keyPV, keyV1, renPV, renV1, hasKey, made_zero] <;> omega, by simp [boxesR, listsR, csR, renC, keyC, optK, fnd, envR, St.get, keyPV, keyV1, renPV, renV1, hasKey, made_zero] <;> omega⟩ (by simp [boxesR, listsR, csR, renC, keyC, optK, fnd, envR, St.get, keyPV, keyV1, renPV, renV1, hasKey, made_zero] <;> omega) rfl
theorem szLineS_c (xs : List Ln) (left : Int) (h0 : 0 ≤ left) (h1 : left ≤ 1048576) (hn : xs.length ≤ maxLen) : PC Try.prog 44 [] [.c (.l 3 (xs.map lineV)), .c (.v (.int .i64 left))] (.s (.c (.v (.int .i64 (if (xs.length : Int) ≤ left then left - xs.length else -1))))) ⟨[], []⟩ := by
  refine pc_of Try.func44 rfl (by kernel_rfl) _ Try.ntmps44 (by simp) ?_
  simp only [maxLen] at hn
  repeat' first
    | simp -implicitDefEqProofs only [go_sem, Nat.reduceLT, Nat.reduceLeDiff, Nat.reduceEqDiff, Nat.reduceAdd, Nat.reduceSub, Nat.reduceMul, Int.reduceEq, Int.reduceLT, Int.reduceLE, Int.reduceNeg, Int.reduceAdd, Int.reduceSub, Int.reduceMul, Int.reduceToNat, reduceIte, reduceCtorEq, List.map_cons, List.map_nil]
    | refine if_splitP (fun h => ?_) (fun h => ?_) | refine if_splitN (fun h => ?_) (fun h => ?_) | refine if_split (fun h => ?_) (fun h => ?_) | refine grd_splitP (fun h => ?_) (fun h => ?_) | refine grd_splitN (fun h => ?_) (fun h => ?_) | refine grd_split (fun h => ?_) (fun h => ?_) | refine grdX_splitP (fun h => ?_) (fun h => ?_) | refine grdX_splitN (fun h => ?_) (fun h => ?_) | refine grdX_split (fun h => ?_) (fun h => ?_) | refine grdY_splitP (fun h => ?_) (fun h => ?_) | refine grdY_splitN (fun h => ?_) (fun h => ?_) | refine grdY_split (fun h => ?_) (fun h => ?_)
    | (refine And.intro ?_ ?_; omega)
  · exact fin_scal rfl (by rw [if_neg (by omega)])
  · exact fin_scal rfl (by rw [if_pos (by omega)])
end Go.Proofs.Ytncdcgaaeclhiaa
