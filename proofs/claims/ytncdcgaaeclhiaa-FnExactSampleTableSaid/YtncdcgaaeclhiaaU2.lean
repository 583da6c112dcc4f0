/-
  What the functions compute that play a list of jumps.
-/
import Derived.Test.YtncdcgaaeclhiaaU1
namespace Go.Proofs.Ytncdcgaaeclhiaa
open Go.PL
set_option linter.unusedSimpArgs false
def playF (b : Brd) : Int → List Ln → Option Int
  | q, [] => some q
  | q, l :: ls => if canDo b q l = true then playF b (flip q l) ls else none
def playAll (b : Brd) (p : Int) (ls : List Ln) : Option Int := if positionOk b p = true ∧ ls.length ≤ 60 then playF b p ls else none
def playI (b : Brd) (p : Int) (ls : List Ln) : Int := (playAll b p ls).getD p
theorem playF_step {b : Brd} {q : Int} {ls : List Ln} {i : Nat} (h : i < ls.length) (hc : canDo b q ls[i] = true) : playF b q (ls.drop i) = playF b (flip q ls[i]) (ls.drop (i + 1)) := by
  rw [List.drop_eq_getElem_cons h, playF, if_pos hc]
theorem playF_no {b : Brd} {q : Int} {ls : List Ln} {i : Nat} (h : i < ls.length) (hc : canDo b q ls[i] = false) : playF b q (ls.drop i) = none := by
  rw [List.drop_eq_getElem_cons h, playF, if_neg (by simp [hc])]
theorem playF_end {b : Brd} {q : Int} {ls : List Ln} : playF b q (ls.drop ls.length) = some q := by rw [List.drop_length]; rfl
theorem playF_pos {b : Brd} : ∀ {ls : List Ln} {p q : Int}, positionOk b p = true → playF b p ls = some q → positionOk b q = true
  | [], p, q, hp, h => by simp only [playF, Option.some.injEq] at h; rw [← h]; exact hp
  | l :: ls, p, q, hp, h => by
    simp only [playF] at h
    split at h
    · rename_i hc; exact playF_pos (do_pos hc) h
    · cases h
set_option maxHeartbeats 4000000 in
theorem PlayAll_c (b : Brd) (p : Int) (ls : List Ln) (p2 : p ≤ 9223372036854775807) (hn : ls.length ≤ 9223372036854775806) : PC Try.prog 96 [] [.a (brdC b), .c (.v (.int .i64 p)), .c (.l 3 (ls.map lineV))] (.t [.c (.v (.int .i64 (playI b p ls))), .c (.v (.bool (playAll b p ls).isSome))]) ⟨[], []⟩ := by
  refine pc_of Try.func96 rfl (by kernel_rfl) _ Try.ntmps96 (by simp) ?_
  (repeat' (first | simp -implicitDefEqProofs only [go_sem, Nat.reduceLT, Nat.reduceLeDiff, Nat.reduceEqDiff, Nat.reduceAdd, Nat.reduceSub, Nat.reduceMul, Int.reduceEq, Int.reduceLT, Int.reduceLE, Int.reduceNeg, Int.reduceAdd, Int.reduceSub, Int.reduceMul, Int.reduceToNat, reduceIte, reduceCtorEq, List.map_cons, List.map_nil] | (refine And.intro ?_ ?_; omega) | (refine And.intro (shr_bd ?_ ?_) ?_; omega; omega) | refine sl_list rfl ?_ | refine sd_list rfl ?_ | refine sl_str ?_ | refine sd_str ?_))
  refine loop_step (X := Nat × Int) (fun x => ⟨44, [(1, vN p), (2, vL 3 (ls.map lineV)), (3, .s (.c (.p 3 0))), (8, vN x.2), (9, vN x.1)], ⟨[(3, brdC b)], []⟩⟩)
    (fun x => x.1 ≤ ls.length ∧ (x.1 = 0 → x.2 = p) ∧ (0 < x.1 → positionOk b p = true ∧ ls.length ≤ 60) ∧ x.2 ≤ 9223372036854775807 ∧ playF b p ls = playF b x.2 (ls.drop x.1)) (fun x => ls.length - x.1) (0, p) ⟨by simp, fun _ => rfl, by simp, p2, by simp⟩ (weak_of (fun i => i) (fun i => i) rfl ⟨by simp [boxesR, listsR, csR, renC, keyC, optK, fnd, envR, St.get, keyPV, keyV1, renPV, renV1, hasKey, made_zero] <;> omega, by simp [boxesR, listsR, csR, renC, keyC, optK, fnd, envR, St.get, keyPV, keyV1, renPV, renV1, hasKey, made_zero] <;> omega, by simp [boxesR, listsR, csR, renC, keyC, optK, fnd, envR, St.get, keyPV, keyV1, renPV, renV1, hasKey, made_zero] <;> omega, by simp [boxesR, listsR, csR, renC, keyC, optK, fnd, envR, St.get, keyPV, keyV1, renPV, renV1, hasKey, made_zero] <;> omega, by simp [boxesR, listsR, csR, renC, keyC, optK, fnd, envR, St.get, keyPV, keyV1, renPV, renV1, hasKey, made_zero] <;> omega⟩ (by simp [boxesR, listsR, csR, renC, keyC, optK, fnd, envR, St.get, keyPV, keyV1, renPV, renV1, hasKey, made_zero] <;> omega)) (fun x hx => ?_)
  obtain ⟨i, q⟩ := x
  obtain ⟨hi, hi0, hi1, hq, hpl⟩ := hx
  simp only at hi hi0 hi1 hq hpl
  simp -implicitDefEqProofs only [go_sem, Nat.reduceLT, Nat.reduceLeDiff, Nat.reduceEqDiff, Nat.reduceAdd, Nat.reduceSub, Nat.reduceMul, Int.reduceEq, Int.reduceLT, Int.reduceLE, Int.reduceNeg, Int.reduceAdd, Int.reduceSub, Int.reduceMul, Int.reduceToNat, reduceIte, reduceCtorEq, List.map_cons, List.map_nil]
  refine if_splitP (fun h => ?_) (fun h => ?_)
  · have hlt : i < ls.length := by omega
    have hg := map_get (f := lineV) hlt
    simp -implicitDefEqProofs only [go_sem, Nat.reduceLT, Nat.reduceLeDiff, Nat.reduceEqDiff, Nat.reduceAdd, Nat.reduceSub, Nat.reduceMul, Int.reduceEq, Int.reduceLT, Int.reduceLE, Int.reduceNeg, Int.reduceAdd, Int.reduceSub, Int.reduceMul, Int.reduceToNat, reduceIte, reduceCtorEq, List.map_cons, List.map_nil]
    refine draw_step Try.pl_follows (by kernel_rfl) ?_
    (repeat' (first | simp -implicitDefEqProofs only [hg, hlt, lineV, go_sem, Nat.reduceLT, Nat.reduceLeDiff, Nat.reduceEqDiff, Nat.reduceAdd, Nat.reduceSub, Nat.reduceMul, Int.reduceEq, Int.reduceLT, Int.reduceLE, Int.reduceNeg, Int.reduceAdd, Int.reduceSub, Int.reduceMul, Int.reduceToNat, reduceIte, reduceCtorEq, List.map_cons, List.map_nil] | (refine And.intro ?_ ?_; omega) | (refine And.intro (shr_bd ?_ ?_) ?_; omega; omega) | refine sl_list rfl ?_ | refine sd_list rfl ?_ | refine sl_str ?_ | refine sd_str ?_))
    refine callD (DoJump_c b q ls[i] hq) rfl rfl rfl ?_
    by_cases hc : canDo b q ls[i] = true
    · have hd : doJ b q ls[i] = flip q ls[i] := by simp [doJ, hc]
      have hpq : positionOk b q = true := by simp only [canDo, Bool.and_eq_true] at hc; exact hc.1
      have hpp : positionOk b p = true := by
        by_cases e : i = 0
        · rw [← hi0 e]; exact hpq
        · exact (hi1 (by omega)).1
      have hst := playF_step hlt hc
      have hle := pos_le (do_pos hc)
      by_cases h60 : (60 : Int) < ls.length
      · have e : playAll b p ls = none := by
          have : ¬ ls.length ≤ 60 := by omega
          simp [playAll, this]
        (repeat' (first | simp -implicitDefEqProofs only [hc, h60, go_sem, Nat.reduceLT, Nat.reduceLeDiff, Nat.reduceEqDiff, Nat.reduceAdd, Nat.reduceSub, Nat.reduceMul, Int.reduceEq, Int.reduceLT, Int.reduceLE, Int.reduceNeg, Int.reduceAdd, Int.reduceSub, Int.reduceMul, Int.reduceToNat, reduceIte, reduceCtorEq, List.map_cons, List.map_nil] | (refine And.intro ?_ ?_; omega) | (refine And.intro (shr_bd ?_ ?_) ?_; omega; omega) | refine sl_list rfl ?_ | refine sd_list rfl ?_ | refine sl_str ?_ | refine sd_str ?_))
        exact fin_scal rfl (by simp [playI, e])
      · (repeat' (first | simp -implicitDefEqProofs only [hc, h60, hd, go_sem, Nat.reduceLT, Nat.reduceLeDiff, Nat.reduceEqDiff, Nat.reduceAdd, Nat.reduceSub, Nat.reduceMul, Int.reduceEq, Int.reduceLT, Int.reduceLE, Int.reduceNeg, Int.reduceAdd, Int.reduceSub, Int.reduceMul, Int.reduceToNat, reduceIte, reduceCtorEq, List.map_cons, List.map_nil] | (refine And.intro ?_ ?_; omega) | (refine And.intro (shr_bd ?_ ?_) ?_; omega; omega) | refine sl_list rfl ?_ | refine sd_list rfl ?_ | refine sl_str ?_ | refine sd_str ?_))
        exact ⟨(i + 1, flip q ls[i]), ⟨by simp only; omega, by simp, fun _ => ⟨hpp, by omega⟩, by simp only; omega, by simp only; rw [hpl, hst]⟩, by simp only; omega, weak_of (fun i => i) (fun i => i) rfl ⟨by simp [boxesR, listsR, csR, renC, keyC, optK, fnd, envR, St.get, keyPV, keyV1, renPV, renV1, hasKey, made_zero] <;> omega, by simp [boxesR, listsR, csR, renC, keyC, optK, fnd, envR, St.get, keyPV, keyV1, renPV, renV1, hasKey, made_zero] <;> omega, by simp [boxesR, listsR, csR, renC, keyC, optK, fnd, envR, St.get, keyPV, keyV1, renPV, renV1, hasKey, made_zero] <;> omega, by simp [boxesR, listsR, csR, renC, keyC, optK, fnd, envR, St.get, keyPV, keyV1, renPV, renV1, hasKey, made_zero] <;> omega, by simp [boxesR, listsR, csR, renC, keyC, optK, fnd, envR, St.get, keyPV, keyV1, renPV, renV1, hasKey, made_zero] <;> omega⟩ (by simp [boxesR, listsR, csR, renC, keyC, optK, fnd, envR, St.get, keyPV, keyV1, renPV, renV1, hasKey, made_zero] <;> omega)⟩
    · have e : playAll b p ls = none := by
        unfold playAll
        split
        · rw [hpl]; exact playF_no hlt (by simpa using hc)
        · rfl
      (repeat' (first | simp -implicitDefEqProofs only [hc, go_sem, Nat.reduceLT, Nat.reduceLeDiff, Nat.reduceEqDiff, Nat.reduceAdd, Nat.reduceSub, Nat.reduceMul, Int.reduceEq, Int.reduceLT, Int.reduceLE, Int.reduceNeg, Int.reduceAdd, Int.reduceSub, Int.reduceMul, Int.reduceToNat, reduceIte, reduceCtorEq, List.map_cons, List.map_nil] | (refine And.intro ?_ ?_; omega) | (refine And.intro (shr_bd ?_ ?_) ?_; omega; omega) | refine sl_list rfl ?_ | refine sd_list rfl ?_ | refine sl_str ?_ | refine sd_str ?_))
      exact fin_scal rfl (by simp [playI, e])
  · have hle : i = ls.length := by omega
    subst hle
    (repeat' (first | simp -implicitDefEqProofs only [go_sem, Nat.reduceLT, Nat.reduceLeDiff, Nat.reduceEqDiff, Nat.reduceAdd, Nat.reduceSub, Nat.reduceMul, Int.reduceEq, Int.reduceLT, Int.reduceLE, Int.reduceNeg, Int.reduceAdd, Int.reduceSub, Int.reduceMul, Int.reduceToNat, reduceIte, reduceCtorEq, List.map_cons, List.map_nil] | (refine And.intro ?_ ?_; omega) | (refine And.intro (shr_bd ?_ ?_) ?_; omega; omega) | refine sl_list rfl ?_ | refine sd_list rfl ?_ | refine sl_str ?_ | refine sd_str ?_))
    refine callS (PositionOk_c b p p2) rfl rfl rfl ?_
    rw [playF_end] at hpl
    by_cases hp : positionOk b p = true
    · have h60 : ls.length ≤ 60 := by
        by_cases e : ls.length = 0
        · omega
        · exact (hi1 (by omega)).2
      have e : playAll b p ls = some q := by simp [playAll, hp, h60, hpl]
      (repeat' (first | simp -implicitDefEqProofs only [hp, go_sem, Nat.reduceLT, Nat.reduceLeDiff, Nat.reduceEqDiff, Nat.reduceAdd, Nat.reduceSub, Nat.reduceMul, Int.reduceEq, Int.reduceLT, Int.reduceLE, Int.reduceNeg, Int.reduceAdd, Int.reduceSub, Int.reduceMul, Int.reduceToNat, reduceIte, reduceCtorEq, List.map_cons, List.map_nil] | (refine And.intro ?_ ?_; omega) | (refine And.intro (shr_bd ?_ ?_) ?_; omega; omega) | refine sl_list rfl ?_ | refine sd_list rfl ?_ | refine sl_str ?_ | refine sd_str ?_))
      exact fin_scal rfl (by simp [playI, e])
    · have e : playAll b p ls = none := by simp [playAll, hp]
      (repeat' (first | simp -implicitDefEqProofs only [hp, go_sem, Nat.reduceLT, Nat.reduceLeDiff, Nat.reduceEqDiff, Nat.reduceAdd, Nat.reduceSub, Nat.reduceMul, Int.reduceEq, Int.reduceLT, Int.reduceLE, Int.reduceNeg, Int.reduceAdd, Int.reduceSub, Int.reduceMul, Int.reduceToNat, reduceIte, reduceCtorEq, List.map_cons, List.map_nil] | (refine And.intro ?_ ?_; omega) | (refine And.intro (shr_bd ?_ ?_) ?_; omega; omega) | refine sl_list rfl ?_ | refine sd_list rfl ?_ | refine sl_str ?_ | refine sd_str ?_))
      exact fin_scal rfl (by simp [playI, e])
set_option maxHeartbeats 4000000 in
theorem iPlayAll_c (b : Brd) (p : Int) (ls : List Ln) (p2 : p ≤ 9223372036854775807) (hn : ls.length ≤ 9223372036854775806) : PC Try.prog 99 [] [.a (brdC b), .c (.v (.int .i64 p)), .c (.l 3 (ls.map lineV))] (.t [.c (.v (.int .i64 (playI b p ls))), .c (.v (.bool (playAll b p ls).isSome))]) ⟨[], []⟩ := by
  refine pc_of Try.func99 rfl (by kernel_rfl) _ Try.ntmps99 (by simp) ?_
  (repeat' (first | simp -implicitDefEqProofs only [go_sem, Nat.reduceLT, Nat.reduceLeDiff, Nat.reduceEqDiff, Nat.reduceAdd, Nat.reduceSub, Nat.reduceMul, Int.reduceEq, Int.reduceLT, Int.reduceLE, Int.reduceNeg, Int.reduceAdd, Int.reduceSub, Int.reduceMul, Int.reduceToNat, reduceIte, reduceCtorEq, List.map_cons, List.map_nil] | (refine And.intro ?_ ?_; omega) | (refine And.intro (shr_bd ?_ ?_) ?_; omega; omega) | refine sl_list rfl ?_ | refine sd_list rfl ?_ | refine sl_str ?_ | refine sd_str ?_))
  refine callS (iPositionOk_c b p p2) rfl rfl rfl ?_
  by_cases hp : positionOk b p = true
  rotate_left
  · have e : playAll b p ls = none := by simp [playAll, hp]
    (repeat' (first | simp -implicitDefEqProofs only [hp, go_sem, Nat.reduceLT, Nat.reduceLeDiff, Nat.reduceEqDiff, Nat.reduceAdd, Nat.reduceSub, Nat.reduceMul, Int.reduceEq, Int.reduceLT, Int.reduceLE, Int.reduceNeg, Int.reduceAdd, Int.reduceSub, Int.reduceMul, Int.reduceToNat, reduceIte, reduceCtorEq, List.map_cons, List.map_nil] | (refine And.intro ?_ ?_; omega) | (refine And.intro (shr_bd ?_ ?_) ?_; omega; omega) | refine sl_list rfl ?_ | refine sd_list rfl ?_ | refine sl_str ?_ | refine sd_str ?_))
    exact fin_scal rfl (by simp [playI, e])
  by_cases h60 : (60 : Int) < ls.length
  · have e : playAll b p ls = none := by
      have : ¬ ls.length ≤ 60 := by omega
      simp [playAll, this]
    (repeat' (first | simp -implicitDefEqProofs only [hp, h60, go_sem, Nat.reduceLT, Nat.reduceLeDiff, Nat.reduceEqDiff, Nat.reduceAdd, Nat.reduceSub, Nat.reduceMul, Int.reduceEq, Int.reduceLT, Int.reduceLE, Int.reduceNeg, Int.reduceAdd, Int.reduceSub, Int.reduceMul, Int.reduceToNat, reduceIte, reduceCtorEq, List.map_cons, List.map_nil] | (refine And.intro ?_ ?_; omega) | (refine And.intro (shr_bd ?_ ?_) ?_; omega; omega) | refine sl_list rfl ?_ | refine sd_list rfl ?_ | refine sl_str ?_ | refine sd_str ?_))
    exact fin_scal rfl (by simp [playI, e])
  have h60' : ls.length ≤ 60 := by omega
  (repeat' (first | simp -implicitDefEqProofs only [hp, h60, go_sem, Nat.reduceLT, Nat.reduceLeDiff, Nat.reduceEqDiff, Nat.reduceAdd, Nat.reduceSub, Nat.reduceMul, Int.reduceEq, Int.reduceLT, Int.reduceLE, Int.reduceNeg, Int.reduceAdd, Int.reduceSub, Int.reduceMul, Int.reduceToNat, reduceIte, reduceCtorEq, List.map_cons, List.map_nil] | (refine And.intro ?_ ?_; omega) | (refine And.intro (shr_bd ?_ ?_) ?_; omega; omega) | refine sl_list rfl ?_ | refine sd_list rfl ?_ | refine sl_str ?_ | refine sd_str ?_))
  refine loop_step (X := Nat × Int) (fun x => ⟨43, [(1, vN p), (3, .s (.c (.p 3 0))), (8, vN x.2), (24, vL 3 (ls.map lineV)), (25, vN ls.length), (26, vN x.1)], ⟨[(3, brdC b)], []⟩⟩)
    (fun x => x.1 ≤ ls.length ∧ x.2 ≤ 9223372036854775807 ∧ playF b p ls = playF b x.2 (ls.drop x.1)) (fun x => ls.length - x.1) (0, p) ⟨by simp, p2, by simp⟩ (weak_of (fun i => i) (fun i => i) rfl ⟨by simp [boxesR, listsR, csR, renC, keyC, optK, fnd, envR, St.get, keyPV, keyV1, renPV, renV1, hasKey, made_zero] <;> omega, by simp [boxesR, listsR, csR, renC, keyC, optK, fnd, envR, St.get, keyPV, keyV1, renPV, renV1, hasKey, made_zero] <;> omega, by simp [boxesR, listsR, csR, renC, keyC, optK, fnd, envR, St.get, keyPV, keyV1, renPV, renV1, hasKey, made_zero] <;> omega, by simp [boxesR, listsR, csR, renC, keyC, optK, fnd, envR, St.get, keyPV, keyV1, renPV, renV1, hasKey, made_zero] <;> omega, by simp [boxesR, listsR, csR, renC, keyC, optK, fnd, envR, St.get, keyPV, keyV1, renPV, renV1, hasKey, made_zero] <;> omega⟩ (by simp [boxesR, listsR, csR, renC, keyC, optK, fnd, envR, St.get, keyPV, keyV1, renPV, renV1, hasKey, made_zero] <;> omega)) (fun x hx => ?_)
  obtain ⟨i, q⟩ := x
  obtain ⟨hi, hq, hpl⟩ := hx
  simp only at hi hq hpl
  simp -implicitDefEqProofs only [go_sem, Nat.reduceLT, Nat.reduceLeDiff, Nat.reduceEqDiff, Nat.reduceAdd, Nat.reduceSub, Nat.reduceMul, Int.reduceEq, Int.reduceLT, Int.reduceLE, Int.reduceNeg, Int.reduceAdd, Int.reduceSub, Int.reduceMul, Int.reduceToNat, reduceIte, reduceCtorEq, List.map_cons, List.map_nil]
  refine if_splitP (fun h => ?_) (fun h => ?_)
  · have hlt : i < ls.length := by omega
    have hg := map_get (f := lineV) hlt
    (repeat' (first | simp -implicitDefEqProofs only [hg, hlt, lineV, go_sem, Nat.reduceLT, Nat.reduceLeDiff, Nat.reduceEqDiff, Nat.reduceAdd, Nat.reduceSub, Nat.reduceMul, Int.reduceEq, Int.reduceLT, Int.reduceLE, Int.reduceNeg, Int.reduceAdd, Int.reduceSub, Int.reduceMul, Int.reduceToNat, reduceIte, reduceCtorEq, List.map_cons, List.map_nil] | (refine And.intro ?_ ?_; omega) | (refine And.intro (shr_bd ?_ ?_) ?_; omega; omega) | refine sl_list rfl ?_ | refine sd_list rfl ?_ | refine sl_str ?_ | refine sd_str ?_))
    refine callS (iDoJump_c b q ls[i] hq) rfl rfl rfl ?_
    by_cases hc : canDo b q ls[i] = true
    · have hd : doJ b q ls[i] = flip q ls[i] := by simp [doJ, hc]
      have hst := playF_step hlt hc
      have hle := pos_le (do_pos hc)
      (repeat' (first | simp -implicitDefEqProofs only [hc, hd, go_sem, Nat.reduceLT, Nat.reduceLeDiff, Nat.reduceEqDiff, Nat.reduceAdd, Nat.reduceSub, Nat.reduceMul, Int.reduceEq, Int.reduceLT, Int.reduceLE, Int.reduceNeg, Int.reduceAdd, Int.reduceSub, Int.reduceMul, Int.reduceToNat, reduceIte, reduceCtorEq, List.map_cons, List.map_nil] | (refine And.intro ?_ ?_; omega) | (refine And.intro (shr_bd ?_ ?_) ?_; omega; omega) | refine sl_list rfl ?_ | refine sd_list rfl ?_ | refine sl_str ?_ | refine sd_str ?_))
      exact ⟨(i + 1, flip q ls[i]), ⟨by simp only; omega, by simp only; omega, by simp only; rw [hpl, hst]⟩, by simp only; omega, weak_of (fun i => i) (fun i => i) rfl ⟨by simp [boxesR, listsR, csR, renC, keyC, optK, fnd, envR, St.get, keyPV, keyV1, renPV, renV1, hasKey, made_zero] <;> omega, by simp [boxesR, listsR, csR, renC, keyC, optK, fnd, envR, St.get, keyPV, keyV1, renPV, renV1, hasKey, made_zero] <;> omega, by simp [boxesR, listsR, csR, renC, keyC, optK, fnd, envR, St.get, keyPV, keyV1, renPV, renV1, hasKey, made_zero] <;> omega, by simp [boxesR, listsR, csR, renC, keyC, optK, fnd, envR, St.get, keyPV, keyV1, renPV, renV1, hasKey, made_zero] <;> omega, by simp [boxesR, listsR, csR, renC, keyC, optK, fnd, envR, St.get, keyPV, keyV1, renPV, renV1, hasKey, made_zero] <;> omega⟩ (by simp [boxesR, listsR, csR, renC, keyC, optK, fnd, envR, St.get, keyPV, keyV1, renPV, renV1, hasKey, made_zero] <;> omega)⟩
    · have e : playAll b p ls = none := by
        unfold playAll
        split
        · rw [hpl]; exact playF_no hlt (by simpa using hc)
        · rfl
      (repeat' (first | simp -implicitDefEqProofs only [hc, go_sem, Nat.reduceLT, Nat.reduceLeDiff, Nat.reduceEqDiff, Nat.reduceAdd, Nat.reduceSub, Nat.reduceMul, Int.reduceEq, Int.reduceLT, Int.reduceLE, Int.reduceNeg, Int.reduceAdd, Int.reduceSub, Int.reduceMul, Int.reduceToNat, reduceIte, reduceCtorEq, List.map_cons, List.map_nil] | (refine And.intro ?_ ?_; omega) | (refine And.intro (shr_bd ?_ ?_) ?_; omega; omega) | refine sl_list rfl ?_ | refine sd_list rfl ?_ | refine sl_str ?_ | refine sd_str ?_))
      exact fin_scal rfl (by simp [playI, e])
  · have hle : i = ls.length := by omega
    subst hle
    rw [playF_end] at hpl
    have e : playAll b p ls = some q := by simp [playAll, hp, h60', hpl]
    (repeat' (first | simp -implicitDefEqProofs only [go_sem, Nat.reduceLT, Nat.reduceLeDiff, Nat.reduceEqDiff, Nat.reduceAdd, Nat.reduceSub, Nat.reduceMul, Int.reduceEq, Int.reduceLT, Int.reduceLE, Int.reduceNeg, Int.reduceAdd, Int.reduceSub, Int.reduceMul, Int.reduceToNat, reduceIte, reduceCtorEq, List.map_cons, List.map_nil] | (refine And.intro ?_ ?_; omega) | (refine And.intro (shr_bd ?_ ?_) ?_; omega; omega) | refine sl_list rfl ?_ | refine sd_list rfl ?_ | refine sl_str ?_ | refine sd_str ?_))
    exact fin_scal rfl (by simp [playI, e])
end Go.Proofs.Ytncdcgaaeclhiaa
