/-
  What the functions compute that open the sample table; the law on it.
-/
import Derived.Test.YtncdcgaaeclhiaaZ2
namespace Go.Proofs.Ytncdcgaaeclhiaa
open Go.PL
set_option linter.unusedSimpArgs false
abbrev smB : Brd := ⟨3, 3, 511⟩
abbrev smX : Pz := ⟨smB, 35, 256⟩
theorem Rect3_c : PC Try.prog 56 [] [.c (.v (.int .i64 3)), .c (.v (.int .i64 3))] (.s (.a (brdC smB))) ⟨[], []⟩ := by
  refine pc_of Try.func56 rfl (by kernel_rfl) _ Try.ntmps56 (by simp) ?_
  have e : within 3 1 7 = true := by decide
  repeat' first
    | (first | simp -implicitDefEqProofs only [e, go_sem, Nat.reduceLT, Nat.reduceLeDiff, Nat.reduceEqDiff, Nat.reduceAdd, Nat.reduceSub, Nat.reduceMul, Int.reduceEq, Int.reduceLT, Int.reduceLE, Int.reduceNeg, Int.reduceAdd, Int.reduceSub, Int.reduceMul, Int.reduceToNat, reduceIte, reduceCtorEq, List.map_cons, List.map_nil] | (refine And.intro ?_ ?_; omega) | (refine And.intro (shr_bd ?_ ?_) ?_; omega; omega) | refine sl_list rfl ?_ | refine sd_list rfl ?_ | refine sl_str ?_ | refine sd_str ?_)
    | refine callS (l01In_c _ _ _) rfl rfl rfl ?_
  exact fin_scal rfl rfl
theorem iRect3_c : PC Try.prog 58 [] [.c (.v (.int .i64 3)), .c (.v (.int .i64 3))] (.s (.a (brdC smB))) ⟨[], []⟩ := by
  refine pc_of Try.func58 rfl (by kernel_rfl) _ Try.ntmps58 (by simp) ?_
  have e : within 3 1 7 = true := by decide
  repeat' first
    | (first | simp -implicitDefEqProofs only [e, go_sem, Nat.reduceLT, Nat.reduceLeDiff, Nat.reduceEqDiff, Nat.reduceAdd, Nat.reduceSub, Nat.reduceMul, Int.reduceEq, Int.reduceLT, Int.reduceLE, Int.reduceNeg, Int.reduceAdd, Int.reduceSub, Int.reduceMul, Int.reduceToNat, reduceIte, reduceCtorEq, List.map_cons, List.map_nil] | (refine And.intro ?_ ?_; omega) | (refine And.intro (shr_bd ?_ ?_) ?_; omega; omega) | refine sl_list rfl ?_ | refine sd_list rfl ?_ | refine sl_str ?_ | refine sd_str ?_)
    | refine callS (within_c _ _ _) rfl rfl rfl ?_
  exact fin_scal rfl rfl
theorem SampleTable_c (d e : Nat) (hde : d ≠ e) : PC Try.prog 22 [] [] (.s (.a (tbC (openT smX 7 300) (.o d) (.o e)))) ⟨[], [(d, ⟨44, 3, [], false, true⟩), (e, ⟨107, 4, [], false, true⟩)]⟩ := by
  have hed : e ≠ d := fun h => hde h.symm
  have hx : pzIn smX := ⟨by simp, by simp⟩
  refine pc_of Try.func22 rfl (by kernel_rfl) _ Try.ntmps22 (by simp) ?_
  repeat' first
    | (first | simp -implicitDefEqProofs only [go_sem, Nat.reduceLT, Nat.reduceLeDiff, Nat.reduceEqDiff, Nat.reduceAdd, Nat.reduceSub, Nat.reduceMul, Int.reduceEq, Int.reduceLT, Int.reduceLE, Int.reduceNeg, Int.reduceAdd, Int.reduceSub, Int.reduceMul, Int.reduceToNat, reduceIte, reduceCtorEq, List.map_cons, List.map_nil] | (refine And.intro ?_ ?_; omega) | (refine And.intro (shr_bd ?_ ?_) ?_; omega; omega) | refine sl_list rfl ?_ | refine sd_list rfl ?_ | refine sl_str ?_ | refine sd_str ?_)
    | refine callS Rect3_c rfl rfl rfl ?_
    | refine callL (OpenTable_c 6 1006 (by omega) smX 7 300 hx) rfl rfl rfl ?_
  exact fin_of (fun i => i) (fun i => if i = d then 6 else 1006) ⟨by simp [boxesR, listsR, csR, renC, keyC, optK, fnd, envR, St.get, keyPV, keyV1, renPV, renV1, hasKey, made_zero, hde, hed] <;> omega, by simp [boxesR, listsR, csR, renC, keyC, optK, fnd, envR, St.get, keyPV, keyV1, renPV, renV1, hasKey, made_zero, hde, hed] <;> omega, by simp [boxesR, listsR, csR, renC, keyC, optK, fnd, envR, St.get, keyPV, keyV1, renPV, renV1, hasKey, made_zero, hde, hed] <;> omega, by simp [boxesR, listsR, csR, renC, keyC, optK, fnd, envR, St.get, keyPV, keyV1, renPV, renV1, hasKey, made_zero, hde, hed] <;> omega, by simp [boxesR, listsR, csR, renC, keyC, optK, fnd, envR, St.get, keyPV, keyV1, renPV, renV1, hasKey, made_zero, hde, hed] <;> omega⟩ (by simp [boxesR, listsR, csR, renC, keyC, optK, fnd, envR, St.get, keyPV, keyV1, renPV, renV1, hasKey, made_zero, hde, hed] <;> omega) (by first | rfl | (simp [renPV, renV1, renC, hde, hed]))
theorem iSampleTable_c (d e : Nat) (hde : d ≠ e) : PC Try.prog 23 [] [] (.s (.a (tbC (openT smX 7 300) (.o d) (.o e)))) ⟨[], [(d, ⟨44, 3, [], false, true⟩), (e, ⟨107, 4, [], false, true⟩)]⟩ := by
  have hed : e ≠ d := fun h => hde h.symm
  have hx : pzIn smX := ⟨by simp, by simp⟩
  refine pc_of Try.func23 rfl (by kernel_rfl) _ Try.ntmps23 (by simp) ?_
  repeat' first
    | (first | simp -implicitDefEqProofs only [go_sem, Nat.reduceLT, Nat.reduceLeDiff, Nat.reduceEqDiff, Nat.reduceAdd, Nat.reduceSub, Nat.reduceMul, Int.reduceEq, Int.reduceLT, Int.reduceLE, Int.reduceNeg, Int.reduceAdd, Int.reduceSub, Int.reduceMul, Int.reduceToNat, reduceIte, reduceCtorEq, List.map_cons, List.map_nil] | (refine And.intro ?_ ?_; omega) | (refine And.intro (shr_bd ?_ ?_) ?_; omega; omega) | refine sl_list rfl ?_ | refine sd_list rfl ?_ | refine sl_str ?_ | refine sd_str ?_)
    | refine callS iRect3_c rfl rfl rfl ?_
    | refine callL (iOpenTable_c 6 1006 (by omega) smX 7 300 hx) rfl rfl rfl ?_
  exact fin_of (fun i => i) (fun i => if i = d then 6 else 1006) ⟨by simp [boxesR, listsR, csR, renC, keyC, optK, fnd, envR, St.get, keyPV, keyV1, renPV, renV1, hasKey, made_zero, hde, hed] <;> omega, by simp [boxesR, listsR, csR, renC, keyC, optK, fnd, envR, St.get, keyPV, keyV1, renPV, renV1, hasKey, made_zero, hde, hed] <;> omega, by simp [boxesR, listsR, csR, renC, keyC, optK, fnd, envR, St.get, keyPV, keyV1, renPV, renV1, hasKey, made_zero, hde, hed] <;> omega, by simp [boxesR, listsR, csR, renC, keyC, optK, fnd, envR, St.get, keyPV, keyV1, renPV, renV1, hasKey, made_zero, hde, hed] <;> omega, by simp [boxesR, listsR, csR, renC, keyC, optK, fnd, envR, St.get, keyPV, keyV1, renPV, renV1, hasKey, made_zero, hde, hed] <;> omega⟩ (by simp [boxesR, listsR, csR, renC, keyC, optK, fnd, envR, St.get, keyPV, keyV1, renPV, renV1, hasKey, made_zero, hde, hed] <;> omega) (by first | rfl | (simp [renPV, renV1, renC, hde, hed]))
set_option maxHeartbeats 4000000 in
theorem fnExactSampleTable.law_c : PC Try.prog 5 [] [] (vB true) ⟨[], []⟩ := by
  have e0 : (openT smX 7 300).g.j = [] := by unfold openT; split <;> rfl
  have e1 : (openT smX 7 300).r = [] := by unfold openT; split <;> rfl
  have hj : (openT smX 7 300).g.j.length = 0 := by rw [e0]; rfl
  have hr : (openT smX 7 300).r.length = 0 := by rw [e1]; rfl
  have mk := fun d e h => markTable_c d e h (openT smX 7 300) 1 (by omega) (by omega) (by omega) (by omega)
  have eq := eqTable_c (openT smX 7 300) (by omega) (by omega)
  have hd := heldTable_c (openT smX 7 300) 0 0 1 (by omega) (by omega) (by omega) (by omega)
  simp only [tbL, e0, e1, List.map_nil, List.length_nil] at mk eq
  have s1 := SampleTable_c 6 1006 (by omega)
  have s2 := iSampleTable_c 7 1007 (by omega)
  have s3 := iSampleTable_c 23 1023 (by omega)
  generalize openT smX 7 300 = T at mk eq hd s1 s2 s3
  refine pc_of Try.func5 rfl (by kernel_rfl) _ Try.ntmps5 (by simp) ?_
  repeat' first
    | (first | simp -implicitDefEqProofs only [go_sem, Nat.reduceLT, Nat.reduceLeDiff, Nat.reduceEqDiff, Nat.reduceAdd, Nat.reduceSub, Nat.reduceMul, Int.reduceEq, Int.reduceLT, Int.reduceLE, Int.reduceNeg, Int.reduceAdd, Int.reduceSub, Int.reduceMul, Int.reduceToNat, reduceIte, reduceCtorEq, List.map_cons, List.map_nil] | (refine And.intro ?_ ?_; omega) | (refine And.intro (shr_bd ?_ ?_) ?_; omega; omega) | refine sl_list rfl ?_ | refine sd_list rfl ?_ | refine sl_str ?_ | refine sd_str ?_)
    | refine callL s1 rfl rfl rfl ?_
    | refine callL s2 rfl rfl rfl ?_
    | refine callL s3 rfl rfl rfl ?_
    | refine callS eq rfl rfl rfl ?_
    | refine callI (mk 7 1007 (by omega)) ⟨⟨rfl, rfl, rfl⟩, rfl, ⟨rfl, rfl, rfl⟩, rfl, trivial⟩ rfl rfl rfl ?_
    | refine callS hd rfl rfl rfl ?_
  all_goals exact fin_scal rfl rfl
end Go.Proofs.Ytncdcgaaeclhiaa
