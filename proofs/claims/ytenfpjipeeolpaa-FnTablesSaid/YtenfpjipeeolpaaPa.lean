/-
  What the functions compute that find the least start and count tight positions; the laws on them.
-/
import Derived.Test.YtenfpjipeeolpaaP8
import Derived.Test.YtenfpjipeeolpaaP9
namespace Go.Proofs.Ytenfpjipeeolpaa
open Go.PL
set_option linter.unusedSimpArgs false
noncomputable def backOf (b : Brd) (g : Int) : List Nat := listS (spreadL b true g)
theorem mem_listS {S : List Bool} {q : Nat} (h : q ∈ listS S) : hasS S (q : Int) = true := by
  unfold listS listN at h
  obtain ⟨h1, h2⟩ := List.mem_filter.1 h
  simp only [markedS] at h2
  simp [hasS, h2]
theorem listS_len {S : List Bool} (h : S.length ≤ 65536) : (listS S).length ≤ 65536 := by
  have := listN_len (S := S) (i := S.length)
  unfold listS; omega
theorem iBackOf_c (d : Nat) (b : Brd) (g : Int) (g2 : g ≤ 9223372036854775807) : PC Try.prog 85 [] [.a (brdC b), .c (.v (.int .i64 g))] (.s (.c (.o d))) ⟨[], [(d, ⟨3, 1, (backOf b g).map nV, false, true⟩)]⟩ := by
  refine pc_of Try.func85 rfl (by kernel_rfl) _ Try.ntmps85 (by simp) ?_
  simp -implicitDefEqProofs only [go_sem, Nat.reduceLT, Nat.reduceLeDiff, Nat.reduceEqDiff, Nat.reduceAdd, Nat.reduceSub, Nat.reduceMul, Int.reduceEq, Int.reduceLT, Int.reduceLE, Int.reduceNeg, Int.reduceAdd, Int.reduceSub, Int.reduceMul, Int.reduceToNat, reduceIte, reduceCtorEq, List.map_cons, List.map_nil]
  refine callL (spreadOf_c 7 b g true g2) rfl rfl rfl ?_
  simp -implicitDefEqProofs only [go_sem, Nat.reduceLT, Nat.reduceLeDiff, Nat.reduceEqDiff, Nat.reduceAdd, Nat.reduceSub, Nat.reduceMul, Int.reduceEq, Int.reduceLT, Int.reduceLE, Int.reduceNeg, Int.reduceAdd, Int.reduceSub, Int.reduceMul, Int.reduceToNat, reduceIte, reduceCtorEq, List.map_cons, List.map_nil]
  refine callL (list_c 8 _ spreadL_len) rfl rfl rfl ?_
  simp -implicitDefEqProofs only [go_sem, Nat.reduceLT, Nat.reduceLeDiff, Nat.reduceEqDiff, Nat.reduceAdd, Nat.reduceSub, Nat.reduceMul, Int.reduceEq, Int.reduceLT, Int.reduceLE, Int.reduceNeg, Int.reduceAdd, Int.reduceSub, Int.reduceMul, Int.reduceToNat, reduceIte, reduceCtorEq, List.map_cons, List.map_nil]
  exact fin_of (fun i => i) (fun i => 8) ⟨by simp [boxesR, listsR, csR, renC, keyC, optK, fnd, envR, St.get, keyPV, keyV1, renPV, renV1, hasKey, made_zero, backOf] <;> omega, by simp [boxesR, listsR, csR, renC, keyC, optK, fnd, envR, St.get, keyPV, keyV1, renPV, renV1, hasKey, made_zero, backOf] <;> omega, by simp [boxesR, listsR, csR, renC, keyC, optK, fnd, envR, St.get, keyPV, keyV1, renPV, renV1, hasKey, made_zero, backOf] <;> omega, by simp [boxesR, listsR, csR, renC, keyC, optK, fnd, envR, St.get, keyPV, keyV1, renPV, renV1, hasKey, made_zero, backOf] <;> omega, by simp [boxesR, listsR, csR, renC, keyC, optK, fnd, envR, St.get, keyPV, keyV1, renPV, renV1, hasKey, made_zero, backOf] <;> omega⟩ (by simp [boxesR, listsR, csR, renC, keyC, optK, fnd, envR, St.get, keyPV, keyV1, renPV, renV1, hasKey, made_zero, backOf] <;> omega) (by first | rfl | (simp [renPV, renV1, renC, backOf]))
theorem BackOf_c (d : Nat) (b : Brd) (g : Int) (g2 : g ≤ 9223372036854775807) : PC Try.prog 94 [] [.a (brdC b), .c (.v (.int .i64 g))] (.s (.c (.o d))) ⟨[], [(d, ⟨3, 1, (backOf b g).map nV, false, true⟩)]⟩ := by
  refine pc_of Try.func94 rfl (by kernel_rfl) _ Try.ntmps94 (by simp) ?_
  simp -implicitDefEqProofs only [go_sem, Nat.reduceLT, Nat.reduceLeDiff, Nat.reduceEqDiff, Nat.reduceAdd, Nat.reduceSub, Nat.reduceMul, Int.reduceEq, Int.reduceLT, Int.reduceLE, Int.reduceNeg, Int.reduceAdd, Int.reduceSub, Int.reduceMul, Int.reduceToNat, reduceIte, reduceCtorEq, List.map_cons, List.map_nil]
  refine callS (IsSmall_c b) rfl rfl rfl ?_
  by_cases hs : isSmall b = true
  · simp -implicitDefEqProofs only [hs, go_sem, Nat.reduceLT, Nat.reduceLeDiff, Nat.reduceEqDiff, Nat.reduceAdd, Nat.reduceSub, Nat.reduceMul, Int.reduceEq, Int.reduceLT, Int.reduceLE, Int.reduceNeg, Int.reduceAdd, Int.reduceSub, Int.reduceMul, Int.reduceToNat, reduceIte, reduceCtorEq, List.map_cons, List.map_nil]
    refine callS (PositionOk_c b g g2) rfl rfl rfl ?_
    by_cases hg : positionOk b g = true
    · simp -implicitDefEqProofs only [hs, hg, go_sem, Nat.reduceLT, Nat.reduceLeDiff, Nat.reduceEqDiff, Nat.reduceAdd, Nat.reduceSub, Nat.reduceMul, Int.reduceEq, Int.reduceLT, Int.reduceLE, Int.reduceNeg, Int.reduceAdd, Int.reduceSub, Int.reduceMul, Int.reduceToNat, reduceIte, reduceCtorEq, List.map_cons, List.map_nil]
      refine callL (l15Back_c 17 b g hs hg) rfl rfl rfl ?_
      simp -implicitDefEqProofs only [go_sem, Nat.reduceLT, Nat.reduceLeDiff, Nat.reduceEqDiff, Nat.reduceAdd, Nat.reduceSub, Nat.reduceMul, Int.reduceEq, Int.reduceLT, Int.reduceLE, Int.reduceNeg, Int.reduceAdd, Int.reduceSub, Int.reduceMul, Int.reduceToNat, reduceIte, reduceCtorEq, List.map_cons, List.map_nil]
      refine callL (l14List_c 18 _ spreadL_len) rfl rfl rfl ?_
      simp -implicitDefEqProofs only [go_sem, Nat.reduceLT, Nat.reduceLeDiff, Nat.reduceEqDiff, Nat.reduceAdd, Nat.reduceSub, Nat.reduceMul, Int.reduceEq, Int.reduceLT, Int.reduceLE, Int.reduceNeg, Int.reduceAdd, Int.reduceSub, Int.reduceMul, Int.reduceToNat, reduceIte, reduceCtorEq, List.map_cons, List.map_nil]
      exact fin_of (fun i => i) (fun i => 18) ⟨by simp [boxesR, listsR, csR, renC, keyC, optK, fnd, envR, St.get, keyPV, keyV1, renPV, renV1, hasKey, made_zero, backOf] <;> omega, by simp [boxesR, listsR, csR, renC, keyC, optK, fnd, envR, St.get, keyPV, keyV1, renPV, renV1, hasKey, made_zero, backOf] <;> omega, by simp [boxesR, listsR, csR, renC, keyC, optK, fnd, envR, St.get, keyPV, keyV1, renPV, renV1, hasKey, made_zero, backOf] <;> omega, by simp [boxesR, listsR, csR, renC, keyC, optK, fnd, envR, St.get, keyPV, keyV1, renPV, renV1, hasKey, made_zero, backOf] <;> omega, by simp [boxesR, listsR, csR, renC, keyC, optK, fnd, envR, St.get, keyPV, keyV1, renPV, renV1, hasKey, made_zero, backOf] <;> omega⟩ (by simp [boxesR, listsR, csR, renC, keyC, optK, fnd, envR, St.get, keyPV, keyV1, renPV, renV1, hasKey, made_zero, backOf] <;> omega) (by first | rfl | (simp [renPV, renV1, renC, backOf]))
    · have e : backOf b g = [] := by simp [backOf, spreadL, hg, listS, listN]
      (repeat' (first | simp -implicitDefEqProofs only [hs, hg, go_sem, Nat.reduceLT, Nat.reduceLeDiff, Nat.reduceEqDiff, Nat.reduceAdd, Nat.reduceSub, Nat.reduceMul, Int.reduceEq, Int.reduceLT, Int.reduceLE, Int.reduceNeg, Int.reduceAdd, Int.reduceSub, Int.reduceMul, Int.reduceToNat, reduceIte, reduceCtorEq, List.map_cons, List.map_nil] | (refine And.intro ?_ ?_; omega) | (refine And.intro (shr_bd ?_ ?_) ?_; omega; omega) | refine sl_list rfl ?_ | refine sd_list rfl ?_ | refine sl_str ?_ | refine sd_str ?_))
      exact fin_of (fun i => i) (fun i => 14) ⟨by simp [boxesR, listsR, csR, renC, keyC, optK, fnd, envR, St.get, keyPV, keyV1, renPV, renV1, hasKey, made_zero, e] <;> omega, by simp [boxesR, listsR, csR, renC, keyC, optK, fnd, envR, St.get, keyPV, keyV1, renPV, renV1, hasKey, made_zero, e] <;> omega, by simp [boxesR, listsR, csR, renC, keyC, optK, fnd, envR, St.get, keyPV, keyV1, renPV, renV1, hasKey, made_zero, e] <;> omega, by simp [boxesR, listsR, csR, renC, keyC, optK, fnd, envR, St.get, keyPV, keyV1, renPV, renV1, hasKey, made_zero, e] <;> omega, by simp [boxesR, listsR, csR, renC, keyC, optK, fnd, envR, St.get, keyPV, keyV1, renPV, renV1, hasKey, made_zero, e] <;> omega⟩ (by simp [boxesR, listsR, csR, renC, keyC, optK, fnd, envR, St.get, keyPV, keyV1, renPV, renV1, hasKey, made_zero, e] <;> omega) (by first | rfl | (simp [renPV, renV1, renC, e]))
  · have e : backOf b g = [] := by simp [backOf, spreadL, hs, listS, listN]
    (repeat' (first | simp -implicitDefEqProofs only [hs, go_sem, Nat.reduceLT, Nat.reduceLeDiff, Nat.reduceEqDiff, Nat.reduceAdd, Nat.reduceSub, Nat.reduceMul, Int.reduceEq, Int.reduceLT, Int.reduceLE, Int.reduceNeg, Int.reduceAdd, Int.reduceSub, Int.reduceMul, Int.reduceToNat, reduceIte, reduceCtorEq, List.map_cons, List.map_nil] | (refine And.intro ?_ ?_; omega) | (refine And.intro (shr_bd ?_ ?_) ?_; omega; omega) | refine sl_list rfl ?_ | refine sd_list rfl ?_ | refine sl_str ?_ | refine sd_str ?_))
    exact fin_of (fun i => i) (fun i => 14) ⟨by simp [boxesR, listsR, csR, renC, keyC, optK, fnd, envR, St.get, keyPV, keyV1, renPV, renV1, hasKey, made_zero, e] <;> omega, by simp [boxesR, listsR, csR, renC, keyC, optK, fnd, envR, St.get, keyPV, keyV1, renPV, renV1, hasKey, made_zero, e] <;> omega, by simp [boxesR, listsR, csR, renC, keyC, optK, fnd, envR, St.get, keyPV, keyV1, renPV, renV1, hasKey, made_zero, e] <;> omega, by simp [boxesR, listsR, csR, renC, keyC, optK, fnd, envR, St.get, keyPV, keyV1, renPV, renV1, hasKey, made_zero, e] <;> omega, by simp [boxesR, listsR, csR, renC, keyC, optK, fnd, envR, St.get, keyPV, keyV1, renPV, renV1, hasKey, made_zero, e] <;> omega⟩ (by simp [boxesR, listsR, csR, renC, keyC, optK, fnd, envR, St.get, keyPV, keyV1, renPV, renV1, hasKey, made_zero, e] <;> omega) (by first | rfl | (simp [renPV, renV1, renC, e]))
theorem mem_back {b : Brd} {g : Int} {q : Nat} (h : q ∈ backOf b g) : positionOk b (q : Int) = true ∧ q < 65536 := by
  obtain ⟨h1, h2, h3, hb, _, hsub, hlt, _⟩ := spread_at (mem_listS h)
  have := spreadL_len (b := b) (bk := true) (p := g)
  rw [Int.toNat_natCast] at hlt
  exact ⟨h3, by omega⟩
def leastF (g acc : Int) (q : Nat) : Int := if (q : Int) ≠ g ∧ (acc < 0 ∨ (pegs q : Int) < acc) then pegs q else acc
def leastN (g : Int) (l : List Nat) (i : Nat) : Int := (l.take i).foldl (leastF g) (-1)
theorem leastN_step {g : Int} {l : List Nat} {i : Nat} (h : i < l.length) : leastN g l (i + 1) = leastF g (leastN g l i) l[i] := by
  unfold leastN
  rw [List.take_succ_eq_append_getElem h, List.foldl_append]
  rfl
theorem leastN_bd {g : Int} {l : List Nat} : ∀ {i : Nat}, -1 ≤ leastN g l i ∧ leastN g l i ≤ 49
  | 0 => by simp [leastN]
  | i + 1 => by
    by_cases h : i < l.length
    · have ih := leastN_bd (g := g) (l := l) (i := i)
      rw [leastN_step h]
      have := cardN_le (n := 49) (s := l[i])
      unfold leastF
      split
      · unfold pegs; omega
      · exact ih
    · have ih := leastN_bd (g := g) (l := l) (i := i)
      have e : leastN g l (i + 1) = leastN g l i := by
        simp only [leastN]
        rw [List.take_of_length_le (by omega), List.take_of_length_le (by omega)]
      rw [e]; exact ih
noncomputable def leastStart (b : Brd) (g : Int) : Int := leastN g (backOf b g) (backOf b g).length
set_option maxHeartbeats 4000000 in
theorem iLeastStart_c (b : Brd) (g : Int) (g2 : g ≤ 9223372036854775807) : PC Try.prog 22 [] [.a (brdC b), .c (.v (.int .i64 g))] (vN (leastStart b g)) ⟨[], []⟩ := by
  refine pc_of Try.func22 rfl (by kernel_rfl) _ Try.ntmps22 (by simp) ?_
  simp -implicitDefEqProofs only [go_sem, Nat.reduceLT, Nat.reduceLeDiff, Nat.reduceEqDiff, Nat.reduceAdd, Nat.reduceSub, Nat.reduceMul, Int.reduceEq, Int.reduceLT, Int.reduceLE, Int.reduceNeg, Int.reduceAdd, Int.reduceSub, Int.reduceMul, Int.reduceToNat, reduceIte, reduceCtorEq, List.map_cons, List.map_nil]
  refine callL (iBackOf_c 10 b g g2) rfl rfl rfl ?_
  have hl : (backOf b g).length ≤ 65536 := listS_len spreadL_len
  simp -implicitDefEqProofs only [go_sem, Nat.reduceLT, Nat.reduceLeDiff, Nat.reduceEqDiff, Nat.reduceAdd, Nat.reduceSub, Nat.reduceMul, Int.reduceEq, Int.reduceLT, Int.reduceLE, Int.reduceNeg, Int.reduceAdd, Int.reduceSub, Int.reduceMul, Int.reduceToNat, reduceIte, reduceCtorEq, List.map_cons, List.map_nil]
  refine loop_step (X := Nat) (fun i => ⟨33, [(1, vN g), (5, vN (leastN g (backOf b g) i)), (10, vO 10), (11, vN (backOf b g).length), (12, vN i)], ⟨[], [(10, ⟨3, 1, (backOf b g).map nV, false, true⟩)]⟩⟩)
    (fun i => i ≤ (backOf b g).length) (fun i => (backOf b g).length - i) 0 (by omega) (weak_of (fun i => i) (fun i => i) rfl ⟨by simp [boxesR, listsR, csR, renC, keyC, optK, fnd, envR, St.get, keyPV, keyV1, renPV, renV1, hasKey, made_zero, leastN, List.take_zero, List.foldl_nil] <;> omega, by simp [boxesR, listsR, csR, renC, keyC, optK, fnd, envR, St.get, keyPV, keyV1, renPV, renV1, hasKey, made_zero, leastN, List.take_zero, List.foldl_nil] <;> omega, by simp [boxesR, listsR, csR, renC, keyC, optK, fnd, envR, St.get, keyPV, keyV1, renPV, renV1, hasKey, made_zero, leastN, List.take_zero, List.foldl_nil] <;> omega, by simp [boxesR, listsR, csR, renC, keyC, optK, fnd, envR, St.get, keyPV, keyV1, renPV, renV1, hasKey, made_zero, leastN, List.take_zero, List.foldl_nil] <;> omega, by simp [boxesR, listsR, csR, renC, keyC, optK, fnd, envR, St.get, keyPV, keyV1, renPV, renV1, hasKey, made_zero, leastN, List.take_zero, List.foldl_nil] <;> omega⟩ (by simp [boxesR, listsR, csR, renC, keyC, optK, fnd, envR, St.get, keyPV, keyV1, renPV, renV1, hasKey, made_zero, leastN, List.take_zero, List.foldl_nil] <;> omega)) (fun i hi => ?_)
  simp -implicitDefEqProofs only [go_sem, Nat.reduceLT, Nat.reduceLeDiff, Nat.reduceEqDiff, Nat.reduceAdd, Nat.reduceSub, Nat.reduceMul, Int.reduceEq, Int.reduceLT, Int.reduceLE, Int.reduceNeg, Int.reduceAdd, Int.reduceSub, Int.reduceMul, Int.reduceToNat, reduceIte, reduceCtorEq, List.map_cons, List.map_nil]
  refine if_splitP (fun h => ?_) (fun h => ?_)
  · have hlt : i < (backOf b g).length := by omega
    have hg := map_getN hlt
    obtain ⟨hpos, hq⟩ := mem_back (List.getElem_mem hlt)
    have hst := leastN_step (g := g) hlt
    have hpg := pegs_16 hq
    (repeat' (first | simp -implicitDefEqProofs only [hg, hlt, go_sem, Nat.reduceLT, Nat.reduceLeDiff, Nat.reduceEqDiff, Nat.reduceAdd, Nat.reduceSub, Nat.reduceMul, Int.reduceEq, Int.reduceLT, Int.reduceLE, Int.reduceNeg, Int.reduceAdd, Int.reduceSub, Int.reduceMul, Int.reduceToNat, reduceIte, reduceCtorEq, List.map_cons, List.map_nil] | (refine And.intro ?_ ?_; omega) | (refine And.intro (shr_bd ?_ ?_) ?_; omega; omega) | refine sl_list rfl ?_ | refine sd_list rfl ?_ | refine sl_str ?_ | refine sd_str ?_))
    unfold leastF at hst
    rw [hpg] at hst
    by_cases c1 : ((backOf b g)[i] : Int) = g
    · rw [if_neg (by simp [c1])] at hst
      (repeat' (first | simp -implicitDefEqProofs only [c1, go_sem, Nat.reduceLT, Nat.reduceLeDiff, Nat.reduceEqDiff, Nat.reduceAdd, Nat.reduceSub, Nat.reduceMul, Int.reduceEq, Int.reduceLT, Int.reduceLE, Int.reduceNeg, Int.reduceAdd, Int.reduceSub, Int.reduceMul, Int.reduceToNat, reduceIte, reduceCtorEq, List.map_cons, List.map_nil] | (refine And.intro ?_ ?_; omega) | (refine And.intro (shr_bd ?_ ?_) ?_; omega; omega) | refine sl_list rfl ?_ | refine sd_list rfl ?_ | refine sl_str ?_ | refine sd_str ?_))
      exact ⟨i + 1, by omega, by omega, weak_of (fun i => i) (fun i => i) rfl ⟨by simp [boxesR, listsR, csR, renC, keyC, optK, fnd, envR, St.get, keyPV, keyV1, renPV, renV1, hasKey, made_zero, hst] <;> omega, by simp [boxesR, listsR, csR, renC, keyC, optK, fnd, envR, St.get, keyPV, keyV1, renPV, renV1, hasKey, made_zero, hst] <;> omega, by simp [boxesR, listsR, csR, renC, keyC, optK, fnd, envR, St.get, keyPV, keyV1, renPV, renV1, hasKey, made_zero, hst] <;> omega, by simp [boxesR, listsR, csR, renC, keyC, optK, fnd, envR, St.get, keyPV, keyV1, renPV, renV1, hasKey, made_zero, hst] <;> omega, by simp [boxesR, listsR, csR, renC, keyC, optK, fnd, envR, St.get, keyPV, keyV1, renPV, renV1, hasKey, made_zero, hst] <;> omega⟩ (by simp [boxesR, listsR, csR, renC, keyC, optK, fnd, envR, St.get, keyPV, keyV1, renPV, renV1, hasKey, made_zero, hst] <;> omega)⟩
    · by_cases c2 : leastN g (backOf b g) i < 0
      · rw [if_pos ⟨c1, .inl c2⟩] at hst
        (repeat' (first | simp -implicitDefEqProofs only [c1, c2, go_sem, Nat.reduceLT, Nat.reduceLeDiff, Nat.reduceEqDiff, Nat.reduceAdd, Nat.reduceSub, Nat.reduceMul, Int.reduceEq, Int.reduceLT, Int.reduceLE, Int.reduceNeg, Int.reduceAdd, Int.reduceSub, Int.reduceMul, Int.reduceToNat, reduceIte, reduceCtorEq, List.map_cons, List.map_nil] | (refine And.intro ?_ ?_; omega) | (refine And.intro (shr_bd ?_ ?_) ?_; omega; omega) | refine sl_list rfl ?_ | refine sd_list rfl ?_ | refine sl_str ?_ | refine sd_str ?_))
        refine callS (pegsIn_c _ hq) rfl rfl rfl ?_
        (repeat' (first | simp -implicitDefEqProofs only [go_sem, Nat.reduceLT, Nat.reduceLeDiff, Nat.reduceEqDiff, Nat.reduceAdd, Nat.reduceSub, Nat.reduceMul, Int.reduceEq, Int.reduceLT, Int.reduceLE, Int.reduceNeg, Int.reduceAdd, Int.reduceSub, Int.reduceMul, Int.reduceToNat, reduceIte, reduceCtorEq, List.map_cons, List.map_nil] | (refine And.intro ?_ ?_; omega) | (refine And.intro (shr_bd ?_ ?_) ?_; omega; omega) | refine sl_list rfl ?_ | refine sd_list rfl ?_ | refine sl_str ?_ | refine sd_str ?_))
        exact ⟨i + 1, by omega, by omega, weak_of (fun i => i) (fun i => i) rfl ⟨by simp [boxesR, listsR, csR, renC, keyC, optK, fnd, envR, St.get, keyPV, keyV1, renPV, renV1, hasKey, made_zero, hst] <;> omega, by simp [boxesR, listsR, csR, renC, keyC, optK, fnd, envR, St.get, keyPV, keyV1, renPV, renV1, hasKey, made_zero, hst] <;> omega, by simp [boxesR, listsR, csR, renC, keyC, optK, fnd, envR, St.get, keyPV, keyV1, renPV, renV1, hasKey, made_zero, hst] <;> omega, by simp [boxesR, listsR, csR, renC, keyC, optK, fnd, envR, St.get, keyPV, keyV1, renPV, renV1, hasKey, made_zero, hst] <;> omega, by simp [boxesR, listsR, csR, renC, keyC, optK, fnd, envR, St.get, keyPV, keyV1, renPV, renV1, hasKey, made_zero, hst] <;> omega⟩ (by simp [boxesR, listsR, csR, renC, keyC, optK, fnd, envR, St.get, keyPV, keyV1, renPV, renV1, hasKey, made_zero, hst] <;> omega)⟩
      · (repeat' (first | simp -implicitDefEqProofs only [c1, c2, go_sem, Nat.reduceLT, Nat.reduceLeDiff, Nat.reduceEqDiff, Nat.reduceAdd, Nat.reduceSub, Nat.reduceMul, Int.reduceEq, Int.reduceLT, Int.reduceLE, Int.reduceNeg, Int.reduceAdd, Int.reduceSub, Int.reduceMul, Int.reduceToNat, reduceIte, reduceCtorEq, List.map_cons, List.map_nil] | (refine And.intro ?_ ?_; omega) | (refine And.intro (shr_bd ?_ ?_) ?_; omega; omega) | refine sl_list rfl ?_ | refine sd_list rfl ?_ | refine sl_str ?_ | refine sd_str ?_))
        refine callS (pegsIn_c _ hq) rfl rfl rfl ?_
        by_cases c3 : ((cardN 16 (backOf b g)[i] : Nat) : Int) < leastN g (backOf b g) i
        · rw [if_pos ⟨c1, .inr c3⟩] at hst
          (repeat' (first | simp -implicitDefEqProofs only [c1, c2, c3, go_sem, Nat.reduceLT, Nat.reduceLeDiff, Nat.reduceEqDiff, Nat.reduceAdd, Nat.reduceSub, Nat.reduceMul, Int.reduceEq, Int.reduceLT, Int.reduceLE, Int.reduceNeg, Int.reduceAdd, Int.reduceSub, Int.reduceMul, Int.reduceToNat, reduceIte, reduceCtorEq, List.map_cons, List.map_nil] | (refine And.intro ?_ ?_; omega) | (refine And.intro (shr_bd ?_ ?_) ?_; omega; omega) | refine sl_list rfl ?_ | refine sd_list rfl ?_ | refine sl_str ?_ | refine sd_str ?_))
          refine callS (pegsIn_c _ hq) rfl rfl rfl ?_
          (repeat' (first | simp -implicitDefEqProofs only [go_sem, Nat.reduceLT, Nat.reduceLeDiff, Nat.reduceEqDiff, Nat.reduceAdd, Nat.reduceSub, Nat.reduceMul, Int.reduceEq, Int.reduceLT, Int.reduceLE, Int.reduceNeg, Int.reduceAdd, Int.reduceSub, Int.reduceMul, Int.reduceToNat, reduceIte, reduceCtorEq, List.map_cons, List.map_nil] | (refine And.intro ?_ ?_; omega) | (refine And.intro (shr_bd ?_ ?_) ?_; omega; omega) | refine sl_list rfl ?_ | refine sd_list rfl ?_ | refine sl_str ?_ | refine sd_str ?_))
          exact ⟨i + 1, by omega, by omega, weak_of (fun i => i) (fun i => i) rfl ⟨by simp [boxesR, listsR, csR, renC, keyC, optK, fnd, envR, St.get, keyPV, keyV1, renPV, renV1, hasKey, made_zero, hst] <;> omega, by simp [boxesR, listsR, csR, renC, keyC, optK, fnd, envR, St.get, keyPV, keyV1, renPV, renV1, hasKey, made_zero, hst] <;> omega, by simp [boxesR, listsR, csR, renC, keyC, optK, fnd, envR, St.get, keyPV, keyV1, renPV, renV1, hasKey, made_zero, hst] <;> omega, by simp [boxesR, listsR, csR, renC, keyC, optK, fnd, envR, St.get, keyPV, keyV1, renPV, renV1, hasKey, made_zero, hst] <;> omega, by simp [boxesR, listsR, csR, renC, keyC, optK, fnd, envR, St.get, keyPV, keyV1, renPV, renV1, hasKey, made_zero, hst] <;> omega⟩ (by simp [boxesR, listsR, csR, renC, keyC, optK, fnd, envR, St.get, keyPV, keyV1, renPV, renV1, hasKey, made_zero, hst] <;> omega)⟩
        · rw [if_neg (by simp only [ne_eq, c1, not_false_eq_true, true_and]; omega)] at hst
          (repeat' (first | simp -implicitDefEqProofs only [c1, c2, c3, go_sem, Nat.reduceLT, Nat.reduceLeDiff, Nat.reduceEqDiff, Nat.reduceAdd, Nat.reduceSub, Nat.reduceMul, Int.reduceEq, Int.reduceLT, Int.reduceLE, Int.reduceNeg, Int.reduceAdd, Int.reduceSub, Int.reduceMul, Int.reduceToNat, reduceIte, reduceCtorEq, List.map_cons, List.map_nil] | (refine And.intro ?_ ?_; omega) | (refine And.intro (shr_bd ?_ ?_) ?_; omega; omega) | refine sl_list rfl ?_ | refine sd_list rfl ?_ | refine sl_str ?_ | refine sd_str ?_))
          exact ⟨i + 1, by omega, by omega, weak_of (fun i => i) (fun i => i) rfl ⟨by simp [boxesR, listsR, csR, renC, keyC, optK, fnd, envR, St.get, keyPV, keyV1, renPV, renV1, hasKey, made_zero, hst] <;> omega, by simp [boxesR, listsR, csR, renC, keyC, optK, fnd, envR, St.get, keyPV, keyV1, renPV, renV1, hasKey, made_zero, hst] <;> omega, by simp [boxesR, listsR, csR, renC, keyC, optK, fnd, envR, St.get, keyPV, keyV1, renPV, renV1, hasKey, made_zero, hst] <;> omega, by simp [boxesR, listsR, csR, renC, keyC, optK, fnd, envR, St.get, keyPV, keyV1, renPV, renV1, hasKey, made_zero, hst] <;> omega, by simp [boxesR, listsR, csR, renC, keyC, optK, fnd, envR, St.get, keyPV, keyV1, renPV, renV1, hasKey, made_zero, hst] <;> omega⟩ (by simp [boxesR, listsR, csR, renC, keyC, optK, fnd, envR, St.get, keyPV, keyV1, renPV, renV1, hasKey, made_zero, hst] <;> omega)⟩
  · have hle : i = (backOf b g).length := by omega
    subst hle
    simp -implicitDefEqProofs only [go_sem, Nat.reduceLT, Nat.reduceLeDiff, Nat.reduceEqDiff, Nat.reduceAdd, Nat.reduceSub, Nat.reduceMul, Int.reduceEq, Int.reduceLT, Int.reduceLE, Int.reduceNeg, Int.reduceAdd, Int.reduceSub, Int.reduceMul, Int.reduceToNat, reduceIte, reduceCtorEq, List.map_cons, List.map_nil]
    exact fin_scal rfl rfl
/-! ### tight positions -/
def noSpare (b : Brd) (S : List Bool) (q : Nat) : Bool := decide ((spares b S (q : Int)).length = 0)
noncomputable def countTight (b : Brd) (g : Int) : Int :=
  if isSmall b = true ∧ positionOk b g = true ∧ (holesOf b).length ≤ 9 then ((backOf b g).filter (noSpare b (spreadL b true g))).length else -1
set_option maxHeartbeats 4000000 in
theorem iCountTight_c (b : Brd) (g : Int) (g2 : g ≤ 9223372036854775807) : PC Try.prog 23 [] [.a (brdC b), .c (.v (.int .i64 g))] (vN (countTight b g)) ⟨[], []⟩ := by
  refine pc_of Try.func23 rfl (by kernel_rfl) _ Try.ntmps23 (by simp) ?_
  simp -implicitDefEqProofs only [go_sem, Nat.reduceLT, Nat.reduceLeDiff, Nat.reduceEqDiff, Nat.reduceAdd, Nat.reduceSub, Nat.reduceMul, Int.reduceEq, Int.reduceLT, Int.reduceLE, Int.reduceNeg, Int.reduceAdd, Int.reduceSub, Int.reduceMul, Int.reduceToNat, reduceIte, reduceCtorEq, List.map_cons, List.map_nil]
  refine callS (iIsSmall_c b) rfl rfl rfl ?_
  by_cases hs : isSmall b = true
  rotate_left
  · (repeat' (first | simp -implicitDefEqProofs only [hs, go_sem, Nat.reduceLT, Nat.reduceLeDiff, Nat.reduceEqDiff, Nat.reduceAdd, Nat.reduceSub, Nat.reduceMul, Int.reduceEq, Int.reduceLT, Int.reduceLE, Int.reduceNeg, Int.reduceAdd, Int.reduceSub, Int.reduceMul, Int.reduceToNat, reduceIte, reduceCtorEq, List.map_cons, List.map_nil] | (refine And.intro ?_ ?_; omega) | (refine And.intro (shr_bd ?_ ?_) ?_; omega; omega) | refine sl_list rfl ?_ | refine sd_list rfl ?_ | refine sl_str ?_ | refine sd_str ?_))
    exact fin_scal rfl (by simp [countTight, hs])
  simp -implicitDefEqProofs only [hs, go_sem, Nat.reduceLT, Nat.reduceLeDiff, Nat.reduceEqDiff, Nat.reduceAdd, Nat.reduceSub, Nat.reduceMul, Int.reduceEq, Int.reduceLT, Int.reduceLE, Int.reduceNeg, Int.reduceAdd, Int.reduceSub, Int.reduceMul, Int.reduceToNat, reduceIte, reduceCtorEq, List.map_cons, List.map_nil]
  refine callS (iPositionOk_c b g g2) rfl rfl rfl ?_
  by_cases hg : positionOk b g = true
  rotate_left
  · (repeat' (first | simp -implicitDefEqProofs only [hs, hg, go_sem, Nat.reduceLT, Nat.reduceLeDiff, Nat.reduceEqDiff, Nat.reduceAdd, Nat.reduceSub, Nat.reduceMul, Int.reduceEq, Int.reduceLT, Int.reduceLE, Int.reduceNeg, Int.reduceAdd, Int.reduceSub, Int.reduceMul, Int.reduceToNat, reduceIte, reduceCtorEq, List.map_cons, List.map_nil] | (refine And.intro ?_ ?_; omega) | (refine And.intro (shr_bd ?_ ?_) ?_; omega; omega) | refine sl_list rfl ?_ | refine sd_list rfl ?_ | refine sl_str ?_ | refine sd_str ?_))
    exact fin_scal rfl (by simp [countTight, hg])
  simp -implicitDefEqProofs only [hs, hg, go_sem, Nat.reduceLT, Nat.reduceLeDiff, Nat.reduceEqDiff, Nat.reduceAdd, Nat.reduceSub, Nat.reduceMul, Int.reduceEq, Int.reduceLT, Int.reduceLE, Int.reduceNeg, Int.reduceAdd, Int.reduceSub, Int.reduceMul, Int.reduceToNat, reduceIte, reduceCtorEq, List.map_cons, List.map_nil]
  refine callS (iCountHoles_c b hs) rfl rfl rfl ?_
  by_cases h9 : (9 : Int) < (holesOf b).length
  · (repeat' (first | simp -implicitDefEqProofs only [hs, hg, h9, go_sem, Nat.reduceLT, Nat.reduceLeDiff, Nat.reduceEqDiff, Nat.reduceAdd, Nat.reduceSub, Nat.reduceMul, Int.reduceEq, Int.reduceLT, Int.reduceLE, Int.reduceNeg, Int.reduceAdd, Int.reduceSub, Int.reduceMul, Int.reduceToNat, reduceIte, reduceCtorEq, List.map_cons, List.map_nil] | (refine And.intro ?_ ?_; omega) | (refine And.intro (shr_bd ?_ ?_) ?_; omega; omega) | refine sl_list rfl ?_ | refine sd_list rfl ?_ | refine sl_str ?_ | refine sd_str ?_))
    exact fin_scal rfl (by have : ¬ (holesOf b).length ≤ 9 := by omega
                           simp [countTight, this])
  simp -implicitDefEqProofs only [hs, hg, h9, go_sem, Nat.reduceLT, Nat.reduceLeDiff, Nat.reduceEqDiff, Nat.reduceAdd, Nat.reduceSub, Nat.reduceMul, Int.reduceEq, Int.reduceLT, Int.reduceLE, Int.reduceNeg, Int.reduceAdd, Int.reduceSub, Int.reduceMul, Int.reduceToNat, reduceIte, reduceCtorEq, List.map_cons, List.map_nil]
  refine callL (spreadOf_c 25 b g true g2) rfl rfl rfl ?_
  simp -implicitDefEqProofs only [go_sem, Nat.reduceLT, Nat.reduceLeDiff, Nat.reduceEqDiff, Nat.reduceAdd, Nat.reduceSub, Nat.reduceMul, Int.reduceEq, Int.reduceLT, Int.reduceLE, Int.reduceNeg, Int.reduceAdd, Int.reduceSub, Int.reduceMul, Int.reduceToNat, reduceIte, reduceCtorEq, List.map_cons, List.map_nil]
  refine callL (list_c 27 _ spreadL_len) rfl rfl rfl ?_
  have hl : (backOf b g).length ≤ 65536 := listS_len spreadL_len
  have eb : listS (spreadL b true g) = backOf b g := rfl
  simp -implicitDefEqProofs only [eb, go_sem, Nat.reduceLT, Nat.reduceLeDiff, Nat.reduceEqDiff, Nat.reduceAdd, Nat.reduceSub, Nat.reduceMul, Int.reduceEq, Int.reduceLT, Int.reduceLE, Int.reduceNeg, Int.reduceAdd, Int.reduceSub, Int.reduceMul, Int.reduceToNat, reduceIte, reduceCtorEq, List.map_cons, List.map_nil]
  refine loop_step (X := Nat) (fun i => ⟨43, [(2, .s (.c (.p 2 0))), (5, vO 25), (6, vN (filN (noSpare b (spreadL b true g)) (backOf b g) i).length), (27, vO 27), (28, vN (backOf b g).length), (29, vN i)], ⟨[(2, brdC b)], [(27, ⟨3, 1, (backOf b g).map nV, false, true⟩), (25, ⟨4, 1, (spreadL b true g).map Value.bool, false, true⟩)]⟩⟩)
    (fun i => i ≤ (backOf b g).length) (fun i => (backOf b g).length - i) 0 (by omega) (weak_of (fun i => i) (fun i => i) rfl ⟨by simp [boxesR, listsR, csR, renC, keyC, optK, fnd, envR, St.get, keyPV, keyV1, renPV, renV1, hasKey, made_zero, filN_zero] <;> omega, by simp [boxesR, listsR, csR, renC, keyC, optK, fnd, envR, St.get, keyPV, keyV1, renPV, renV1, hasKey, made_zero, filN_zero] <;> omega, by simp [boxesR, listsR, csR, renC, keyC, optK, fnd, envR, St.get, keyPV, keyV1, renPV, renV1, hasKey, made_zero, filN_zero] <;> omega, by simp [boxesR, listsR, csR, renC, keyC, optK, fnd, envR, St.get, keyPV, keyV1, renPV, renV1, hasKey, made_zero, filN_zero] <;> omega, by simp [boxesR, listsR, csR, renC, keyC, optK, fnd, envR, St.get, keyPV, keyV1, renPV, renV1, hasKey, made_zero, filN_zero] <;> omega⟩ (by simp [boxesR, listsR, csR, renC, keyC, optK, fnd, envR, St.get, keyPV, keyV1, renPV, renV1, hasKey, made_zero, filN_zero] <;> omega)) (fun i hi => ?_)
  have hf := filN_len (p := noSpare b (spreadL b true g)) (l := backOf b g) (i := i)
  simp -implicitDefEqProofs only [go_sem, Nat.reduceLT, Nat.reduceLeDiff, Nat.reduceEqDiff, Nat.reduceAdd, Nat.reduceSub, Nat.reduceMul, Int.reduceEq, Int.reduceLT, Int.reduceLE, Int.reduceNeg, Int.reduceAdd, Int.reduceSub, Int.reduceMul, Int.reduceToNat, reduceIte, reduceCtorEq, List.map_cons, List.map_nil]
  refine if_splitP (fun h => ?_) (fun h => ?_)
  · have hlt : i < (backOf b g).length := by omega
    have hgi := map_getN hlt
    obtain ⟨hpos, hq⟩ := mem_back (List.getElem_mem hlt)
    (repeat' (first | simp -implicitDefEqProofs only [hgi, hlt, go_sem, Nat.reduceLT, Nat.reduceLeDiff, Nat.reduceEqDiff, Nat.reduceAdd, Nat.reduceSub, Nat.reduceMul, Int.reduceEq, Int.reduceLT, Int.reduceLE, Int.reduceNeg, Int.reduceAdd, Int.reduceSub, Int.reduceMul, Int.reduceToNat, reduceIte, reduceCtorEq, List.map_cons, List.map_nil] | (refine And.intro ?_ ?_; omega) | (refine And.intro (shr_bd ?_ ?_) ?_; omega; omega) | refine sl_list rfl ?_ | refine sd_list rfl ?_ | refine sl_str ?_ | refine sd_str ?_))
    refine callL (sparesIn_c 36 b _ ((backOf b g)[i] : Int) (by omega) (by omega)) rfl rfl rfl ?_
    (repeat' (first | simp -implicitDefEqProofs only [len0_cast, go_sem, Nat.reduceLT, Nat.reduceLeDiff, Nat.reduceEqDiff, Nat.reduceAdd, Nat.reduceSub, Nat.reduceMul, Int.reduceEq, Int.reduceLT, Int.reduceLE, Int.reduceNeg, Int.reduceAdd, Int.reduceSub, Int.reduceMul, Int.reduceToNat, reduceIte, reduceCtorEq, List.map_cons, List.map_nil] | (refine And.intro ?_ ?_; omega) | (refine And.intro (shr_bd ?_ ?_) ?_; omega; omega) | refine sl_list rfl ?_ | refine sd_list rfl ?_ | refine sl_str ?_ | refine sd_str ?_))
    refine if_splitP (fun ht => ?_) (fun ht => ?_)
    · have e := filN_hit (p := noSpare b (spreadL b true g)) hlt (by simp only [noSpare]; exact decide_eq_true ht)
      (repeat' (first | simp -implicitDefEqProofs only [go_sem, Nat.reduceLT, Nat.reduceLeDiff, Nat.reduceEqDiff, Nat.reduceAdd, Nat.reduceSub, Nat.reduceMul, Int.reduceEq, Int.reduceLT, Int.reduceLE, Int.reduceNeg, Int.reduceAdd, Int.reduceSub, Int.reduceMul, Int.reduceToNat, reduceIte, reduceCtorEq, List.map_cons, List.map_nil] | (refine And.intro ?_ ?_; omega) | (refine And.intro (shr_bd ?_ ?_) ?_; omega; omega) | refine sl_list rfl ?_ | refine sd_list rfl ?_ | refine sl_str ?_ | refine sd_str ?_))
      exact ⟨i + 1, by omega, by omega, weak_of (fun i => i) (fun i => i) rfl ⟨by simp [boxesR, listsR, csR, renC, keyC, optK, fnd, envR, St.get, keyPV, keyV1, renPV, renV1, hasKey, made_zero, e] <;> omega, by simp [boxesR, listsR, csR, renC, keyC, optK, fnd, envR, St.get, keyPV, keyV1, renPV, renV1, hasKey, made_zero, e] <;> omega, by simp [boxesR, listsR, csR, renC, keyC, optK, fnd, envR, St.get, keyPV, keyV1, renPV, renV1, hasKey, made_zero, e] <;> omega, by simp [boxesR, listsR, csR, renC, keyC, optK, fnd, envR, St.get, keyPV, keyV1, renPV, renV1, hasKey, made_zero, e] <;> omega, by simp [boxesR, listsR, csR, renC, keyC, optK, fnd, envR, St.get, keyPV, keyV1, renPV, renV1, hasKey, made_zero, e] <;> omega⟩ (by simp [boxesR, listsR, csR, renC, keyC, optK, fnd, envR, St.get, keyPV, keyV1, renPV, renV1, hasKey, made_zero, e] <;> omega)⟩
    · have e := filN_miss (p := noSpare b (spreadL b true g)) hlt (by simp only [noSpare]; exact decide_eq_false ht)
      (repeat' (first | simp -implicitDefEqProofs only [go_sem, Nat.reduceLT, Nat.reduceLeDiff, Nat.reduceEqDiff, Nat.reduceAdd, Nat.reduceSub, Nat.reduceMul, Int.reduceEq, Int.reduceLT, Int.reduceLE, Int.reduceNeg, Int.reduceAdd, Int.reduceSub, Int.reduceMul, Int.reduceToNat, reduceIte, reduceCtorEq, List.map_cons, List.map_nil] | (refine And.intro ?_ ?_; omega) | (refine And.intro (shr_bd ?_ ?_) ?_; omega; omega) | refine sl_list rfl ?_ | refine sd_list rfl ?_ | refine sl_str ?_ | refine sd_str ?_))
      exact ⟨i + 1, by omega, by omega, weak_of (fun i => i) (fun i => i) rfl ⟨by simp [boxesR, listsR, csR, renC, keyC, optK, fnd, envR, St.get, keyPV, keyV1, renPV, renV1, hasKey, made_zero, e] <;> omega, by simp [boxesR, listsR, csR, renC, keyC, optK, fnd, envR, St.get, keyPV, keyV1, renPV, renV1, hasKey, made_zero, e] <;> omega, by simp [boxesR, listsR, csR, renC, keyC, optK, fnd, envR, St.get, keyPV, keyV1, renPV, renV1, hasKey, made_zero, e] <;> omega, by simp [boxesR, listsR, csR, renC, keyC, optK, fnd, envR, St.get, keyPV, keyV1, renPV, renV1, hasKey, made_zero, e] <;> omega, by simp [boxesR, listsR, csR, renC, keyC, optK, fnd, envR, St.get, keyPV, keyV1, renPV, renV1, hasKey, made_zero, e] <;> omega⟩ (by simp [boxesR, listsR, csR, renC, keyC, optK, fnd, envR, St.get, keyPV, keyV1, renPV, renV1, hasKey, made_zero, e] <;> omega)⟩
  · have hle : i = (backOf b g).length := by omega
    subst hle
    simp -implicitDefEqProofs only [filN_end, go_sem, Nat.reduceLT, Nat.reduceLeDiff, Nat.reduceEqDiff, Nat.reduceAdd, Nat.reduceSub, Nat.reduceMul, Int.reduceEq, Int.reduceLT, Int.reduceLE, Int.reduceNeg, Int.reduceAdd, Int.reduceSub, Int.reduceMul, Int.reduceToNat, reduceIte, reduceCtorEq, List.map_cons, List.map_nil]
    exact fin_scal rfl (by have : (holesOf b).length ≤ 9 := by omega
                           simp [countTight, hs, hg, this])
end Go.Proofs.Ytenfpjipeeolpaa
