/-
  What the functions on boards compute: the list of lines.
-/
import Derived.Test.YtncdcgaaeclhiaaL5
namespace Go.Proofs.Ytncdcgaaeclhiaa
open Go.PL
set_option linter.unusedSimpArgs false
structure Ln where
  f : Int
  o : Int
  t : Int
def lineV (l : Ln) : Value := .agg #[.int .i64 l.f, .int .i64 l.o, .int .i64 l.t]
abbrev lineC (l : Ln) : List C := [.v (.int .i64 l.f), .v (.int .i64 l.o), .v (.int .i64 l.t)]
def lineAt (b : Brd) (k way : Int) : Option Ln :=
  if 0 ≤ stepTo b k way ∧ 0 ≤ stepTo b (stepTo b k way) way then some ⟨k, stepTo b k way, stepTo b (stepTo b k way) way⟩ else none
def linesFrom (b : Brd) (k : Int) (m : Nat) : List Ln := (List.range m).filterMap (fun (w : Nat) => lineAt b k (w : Int))
theorem linesFrom_zero {b : Brd} {k : Int} : linesFrom b k 0 = [] := rfl
theorem linesFrom_hit {b : Brd} {k : Int} {m : Nat} (h1 : 0 ≤ stepTo b k m) (h2 : 0 ≤ stepTo b (stepTo b k m) m) : linesFrom b k (m + 1) = linesFrom b k m ++ [⟨k, stepTo b k m, stepTo b (stepTo b k m) m⟩] := by
  simp [linesFrom, List.range_succ, List.filterMap_append, lineAt, h1, h2]
theorem linesFrom_miss1 {b : Brd} {k : Int} {m : Nat} (h1 : ¬ 0 ≤ stepTo b k m) : linesFrom b k (m + 1) = linesFrom b k m := by
  simp [linesFrom, List.range_succ, List.filterMap_append, lineAt, h1]
theorem linesFrom_miss2 {b : Brd} {k : Int} {m : Nat} (h1 : ¬ 0 ≤ stepTo b (stepTo b k m) m) : linesFrom b k (m + 1) = linesFrom b k m := by
  simp [linesFrom, List.range_succ, List.filterMap_append, lineAt, h1]
theorem linesFrom_len {b : Brd} {k : Int} {m : Nat} : (linesFrom b k m).length ≤ m := by
  have := List.length_filterMap_le (fun (w : Nat) => lineAt b k (w : Int)) (List.range m)
  simpa [linesFrom] using this
def linesN (b : Brd) (i : Nat) : List Ln := ((holesOf b).take i).flatMap (fun k => linesFrom b k 4)
def linesOf (b : Brd) : List Ln := (holesOf b).flatMap (fun k => linesFrom b k 4)
theorem linesN_zero {b : Brd} : linesN b 0 = [] := by simp [linesN]
theorem linesN_end {b : Brd} : linesN b (holesOf b).length = linesOf b := by simp [linesN, linesOf]
theorem linesN_step {b : Brd} {i : Nat} (h : i < (holesOf b).length) : linesN b (i + 1) = linesN b i ++ linesFrom b (holesOf b)[i] 4 := by
  unfold linesN
  rw [List.take_succ_eq_append_getElem h, List.flatMap_append]
  simp
theorem linesN_len {b : Brd} : ∀ {i : Nat}, (linesN b i).length ≤ 4 * i
  | 0 => by simp [linesN_zero]
  | i + 1 => by
    by_cases h : i < (holesOf b).length
    · have h1 := linesN_len (b := b) (i := i)
      have h2 := linesFrom_len (b := b) (k := (holesOf b)[i]) (m := 4)
      rw [linesN_step h, List.length_append]
      omega
    · have : linesN b (i + 1) = linesN b i := by
        simp only [linesN]
        rw [List.take_of_length_le (by omega), List.take_of_length_le (by omega)]
      have h1 := linesN_len (b := b) (i := i)
      rw [this]; omega
theorem side_step {b : Brd} {k way : Int} (h : hasHole b k = true) : sideTo b k way = stepTo b k way := by simp [sideTo, h]
theorem side_two {b : Brd} {k way : Int} (hb : boardOk b = true) : sideTo b (stepTo b k way) way = if 0 ≤ stepTo b k way then stepTo b (stepTo b k way) way else -1 := by
  split
  · rename_i h
    rw [side_step (step_hole hb h).1]
  · rename_i h
    have : hasHole b (stepTo b k way) = false := by
      cases hh : hasHole b (stepTo b k way) with
      | false => rfl
      | true => exact absurd (hole_bd hh).2.1 h
    simp [sideTo, this]
theorem LinesOf_c (d : Nat) (b : Brd) : PC Try.prog 90 [] [.a (brdC b)] (.s (.c (.o d))) ⟨[], [(d, ⟨44, 3, (linesOf b).map lineV, false, true⟩)]⟩ := by
  refine pc_of Try.func90 rfl (by kernel_rfl) _ Try.ntmps90 (by simp) ?_
  simp -implicitDefEqProofs only [go_sem, Nat.reduceLT, Nat.reduceLeDiff, Nat.reduceEqDiff, Nat.reduceAdd, Nat.reduceSub, Nat.reduceMul, Int.reduceEq, Int.reduceLT, Int.reduceLE, Int.reduceNeg, Int.reduceAdd, Int.reduceSub, Int.reduceMul, Int.reduceToNat, reduceIte, reduceCtorEq, List.map_cons, List.map_nil]
  refine callL (HolesOf_c 11 b) rfl rfl rfl ?_
  simp -implicitDefEqProofs only [go_sem, Nat.reduceLT, Nat.reduceLeDiff, Nat.reduceEqDiff, Nat.reduceAdd, Nat.reduceSub, Nat.reduceMul, Int.reduceEq, Int.reduceLT, Int.reduceLE, Int.reduceNeg, Int.reduceAdd, Int.reduceSub, Int.reduceMul, Int.reduceToNat, reduceIte, reduceCtorEq, List.map_cons, List.map_nil]
  refine loop_step (X := Nat) (fun i => ⟨48, [(1, .s (.c (.p 1 0))), (3, vO 9), (4, vO 11), (5, vN i)], ⟨[(1, brdC b)], [(9, ⟨44, 3, (linesN b i).map lineV, false, true⟩), (11, ⟨3, 1, (holesOf b).map iV, false, true⟩)]⟩⟩)
    (fun i => i ≤ (holesOf b).length) (fun i => (holesOf b).length - i) 0 (by omega) (weak_of (fun i => i) (fun i => i) rfl ⟨by simp [boxesR, listsR, csR, renC, keyC, optK, fnd, envR, St.get, keyPV, keyV1, renPV, renV1, hasKey, made_zero, linesN_zero] <;> omega, by simp [boxesR, listsR, csR, renC, keyC, optK, fnd, envR, St.get, keyPV, keyV1, renPV, renV1, hasKey, made_zero, linesN_zero] <;> omega, by simp [boxesR, listsR, csR, renC, keyC, optK, fnd, envR, St.get, keyPV, keyV1, renPV, renV1, hasKey, made_zero, linesN_zero] <;> omega, by simp [boxesR, listsR, csR, renC, keyC, optK, fnd, envR, St.get, keyPV, keyV1, renPV, renV1, hasKey, made_zero, linesN_zero] <;> omega, by simp [boxesR, listsR, csR, renC, keyC, optK, fnd, envR, St.get, keyPV, keyV1, renPV, renV1, hasKey, made_zero, linesN_zero] <;> omega⟩ (by simp [boxesR, listsR, csR, renC, keyC, optK, fnd, envR, St.get, keyPV, keyV1, renPV, renV1, hasKey, made_zero, linesN_zero] <;> omega)) (fun i hi => ?_)
  have hl := holes_len (b := b)
  simp -implicitDefEqProofs only [go_sem, Nat.reduceLT, Nat.reduceLeDiff, Nat.reduceEqDiff, Nat.reduceAdd, Nat.reduceSub, Nat.reduceMul, Int.reduceEq, Int.reduceLT, Int.reduceLE, Int.reduceNeg, Int.reduceAdd, Int.reduceSub, Int.reduceMul, Int.reduceToNat, reduceIte, reduceCtorEq, List.map_cons, List.map_nil]
  refine if_splitP (fun h => ?_) (fun h => ?_)
  · have hlt : i < (holesOf b).length := by omega
    have hg := map_get (f := iV) hlt
    obtain ⟨hb, hh, hk0, hk1⟩ := mem_holes (List.getElem_mem hlt)
    simp -implicitDefEqProofs only [go_sem, Nat.reduceLT, Nat.reduceLeDiff, Nat.reduceEqDiff, Nat.reduceAdd, Nat.reduceSub, Nat.reduceMul, Int.reduceEq, Int.reduceLT, Int.reduceLE, Int.reduceNeg, Int.reduceAdd, Int.reduceSub, Int.reduceMul, Int.reduceToNat, reduceIte, reduceCtorEq, List.map_cons, List.map_nil]
    refine loop_step (X := Nat) (fun m => ⟨48, [(1, .s (.c (.p 1 0))), (3, vO 9), (4, vO 11), (5, vN i), (6, vN m)], ⟨[(1, brdC b)], [(9, ⟨44, 3, (linesN b i ++ linesFrom b (holesOf b)[i] m).map lineV, false, true⟩), (11, ⟨3, 1, (holesOf b).map iV, false, true⟩)]⟩⟩)
      (fun m => m ≤ 4) (fun m => 4 - m) 0 (by omega) (weak_of (fun i => i) (fun i => i) rfl ⟨by simp [boxesR, listsR, csR, renC, keyC, optK, fnd, envR, St.get, keyPV, keyV1, renPV, renV1, hasKey, made_zero, linesFrom_zero] <;> omega, by simp [boxesR, listsR, csR, renC, keyC, optK, fnd, envR, St.get, keyPV, keyV1, renPV, renV1, hasKey, made_zero, linesFrom_zero] <;> omega, by simp [boxesR, listsR, csR, renC, keyC, optK, fnd, envR, St.get, keyPV, keyV1, renPV, renV1, hasKey, made_zero, linesFrom_zero] <;> omega, by simp [boxesR, listsR, csR, renC, keyC, optK, fnd, envR, St.get, keyPV, keyV1, renPV, renV1, hasKey, made_zero, linesFrom_zero] <;> omega, by simp [boxesR, listsR, csR, renC, keyC, optK, fnd, envR, St.get, keyPV, keyV1, renPV, renV1, hasKey, made_zero, linesFrom_zero] <;> omega⟩ (by simp [boxesR, listsR, csR, renC, keyC, optK, fnd, envR, St.get, keyPV, keyV1, renPV, renV1, hasKey, made_zero, linesFrom_zero] <;> omega)) (fun m hm => ?_)
    have l1 := linesN_len (b := b) (i := i)
    have l2 := linesFrom_len (b := b) (k := (holesOf b)[i]) (m := m)
    have l3 : (linesN b i ++ linesFrom b (holesOf b)[i] m).length ≤ 4 * i + m := by rw [List.length_append]; omega
    simp -implicitDefEqProofs only [go_sem, Nat.reduceLT, Nat.reduceLeDiff, Nat.reduceEqDiff, Nat.reduceAdd, Nat.reduceSub, Nat.reduceMul, Int.reduceEq, Int.reduceLT, Int.reduceLE, Int.reduceNeg, Int.reduceAdd, Int.reduceSub, Int.reduceMul, Int.reduceToNat, reduceIte, reduceCtorEq, List.map_cons, List.map_nil]
    refine if_splitP (fun h => ?_) (fun h => ?_)
    · simp -implicitDefEqProofs only [go_sem, Nat.reduceLT, Nat.reduceLeDiff, Nat.reduceEqDiff, Nat.reduceAdd, Nat.reduceSub, Nat.reduceMul, Int.reduceEq, Int.reduceLT, Int.reduceLE, Int.reduceNeg, Int.reduceAdd, Int.reduceSub, Int.reduceMul, Int.reduceToNat, reduceIte, reduceCtorEq, List.map_cons, List.map_nil]
      refine draw_step Try.pl_follows (by kernel_rfl) ?_
      simp -implicitDefEqProofs only [hg, hlt, go_sem, Nat.reduceLT, Nat.reduceLeDiff, Nat.reduceEqDiff, Nat.reduceAdd, Nat.reduceSub, Nat.reduceMul, Int.reduceEq, Int.reduceLT, Int.reduceLE, Int.reduceNeg, Int.reduceAdd, Int.reduceSub, Int.reduceMul, Int.reduceToNat, reduceIte, reduceCtorEq, List.map_cons, List.map_nil]
      refine callD (l03Step_c b _ m hb hk0 hk1 (by omega) (by omega)) rfl rfl rfl ?_
      simp -implicitDefEqProofs only [go_sem, Nat.reduceLT, Nat.reduceLeDiff, Nat.reduceEqDiff, Nat.reduceAdd, Nat.reduceSub, Nat.reduceMul, Int.reduceEq, Int.reduceLT, Int.reduceLE, Int.reduceNeg, Int.reduceAdd, Int.reduceSub, Int.reduceMul, Int.reduceToNat, reduceIte, reduceCtorEq, List.map_cons, List.map_nil]
      refine if_splitP (fun h1 => ?_) (fun h1 => ?_)
      · simp -implicitDefEqProofs only [go_sem, Nat.reduceLT, Nat.reduceLeDiff, Nat.reduceEqDiff, Nat.reduceAdd, Nat.reduceSub, Nat.reduceMul, Int.reduceEq, Int.reduceLT, Int.reduceLE, Int.reduceNeg, Int.reduceAdd, Int.reduceSub, Int.reduceMul, Int.reduceToNat, reduceIte, reduceCtorEq, List.map_cons, List.map_nil]
        have e1 := linesFrom_miss1 (b := b) (k := (holesOf b)[i]) (m := m) (by omega)
        exact ⟨by omega, m + 1, by omega, by omega, weak_of (fun i => i) (fun i => i) rfl ⟨by simp [boxesR, listsR, csR, renC, keyC, optK, fnd, envR, St.get, keyPV, keyV1, renPV, renV1, hasKey, made_zero, e1] <;> omega, by simp [boxesR, listsR, csR, renC, keyC, optK, fnd, envR, St.get, keyPV, keyV1, renPV, renV1, hasKey, made_zero, e1] <;> omega, by simp [boxesR, listsR, csR, renC, keyC, optK, fnd, envR, St.get, keyPV, keyV1, renPV, renV1, hasKey, made_zero, e1] <;> omega, by simp [boxesR, listsR, csR, renC, keyC, optK, fnd, envR, St.get, keyPV, keyV1, renPV, renV1, hasKey, made_zero, e1] <;> omega, by simp [boxesR, listsR, csR, renC, keyC, optK, fnd, envR, St.get, keyPV, keyV1, renPV, renV1, hasKey, made_zero, e1] <;> omega⟩ (by simp [boxesR, listsR, csR, renC, keyC, optK, fnd, envR, St.get, keyPV, keyV1, renPV, renV1, hasKey, made_zero, e1] <;> omega)⟩
      · have hs := step_hole hb (show 0 ≤ stepTo b (holesOf b)[i] m by omega)
        simp -implicitDefEqProofs only [go_sem, Nat.reduceLT, Nat.reduceLeDiff, Nat.reduceEqDiff, Nat.reduceAdd, Nat.reduceSub, Nat.reduceMul, Int.reduceEq, Int.reduceLT, Int.reduceLE, Int.reduceNeg, Int.reduceAdd, Int.reduceSub, Int.reduceMul, Int.reduceToNat, reduceIte, reduceCtorEq, List.map_cons, List.map_nil]
        refine callS (l03Step_c b _ m hb (by omega) hs.2 (by omega) (by omega)) rfl rfl rfl ?_
        simp -implicitDefEqProofs only [go_sem, Nat.reduceLT, Nat.reduceLeDiff, Nat.reduceEqDiff, Nat.reduceAdd, Nat.reduceSub, Nat.reduceMul, Int.reduceEq, Int.reduceLT, Int.reduceLE, Int.reduceNeg, Int.reduceAdd, Int.reduceSub, Int.reduceMul, Int.reduceToNat, reduceIte, reduceCtorEq, List.map_cons, List.map_nil]
        refine if_splitP (fun h2 => ?_) (fun h2 => ?_)
        · simp -implicitDefEqProofs only [hg, hlt, go_sem, Nat.reduceLT, Nat.reduceLeDiff, Nat.reduceEqDiff, Nat.reduceAdd, Nat.reduceSub, Nat.reduceMul, Int.reduceEq, Int.reduceLT, Int.reduceLE, Int.reduceNeg, Int.reduceAdd, Int.reduceSub, Int.reduceMul, Int.reduceToNat, reduceIte, reduceCtorEq, List.map_cons, List.map_nil]
          have e1 := linesFrom_hit (b := b) (k := (holesOf b)[i]) (m := m) (by omega) h2
          exact ⟨by omega, by omega, m + 1, by omega, by omega, weak_of (fun i => i) (fun i => if i = 9 then 46 else i) rfl ⟨by simp [boxesR, listsR, csR, renC, keyC, optK, fnd, envR, St.get, keyPV, keyV1, renPV, renV1, hasKey, made_zero, e1, lineV] <;> omega, by simp [boxesR, listsR, csR, renC, keyC, optK, fnd, envR, St.get, keyPV, keyV1, renPV, renV1, hasKey, made_zero, e1, lineV] <;> omega, by simp [boxesR, listsR, csR, renC, keyC, optK, fnd, envR, St.get, keyPV, keyV1, renPV, renV1, hasKey, made_zero, e1, lineV] <;> omega, by simp [boxesR, listsR, csR, renC, keyC, optK, fnd, envR, St.get, keyPV, keyV1, renPV, renV1, hasKey, made_zero, e1, lineV] <;> omega, by simp [boxesR, listsR, csR, renC, keyC, optK, fnd, envR, St.get, keyPV, keyV1, renPV, renV1, hasKey, made_zero, e1, lineV] <;> omega⟩ (by simp [boxesR, listsR, csR, renC, keyC, optK, fnd, envR, St.get, keyPV, keyV1, renPV, renV1, hasKey, made_zero, e1, lineV] <;> omega)⟩
        · simp -implicitDefEqProofs only [go_sem, Nat.reduceLT, Nat.reduceLeDiff, Nat.reduceEqDiff, Nat.reduceAdd, Nat.reduceSub, Nat.reduceMul, Int.reduceEq, Int.reduceLT, Int.reduceLE, Int.reduceNeg, Int.reduceAdd, Int.reduceSub, Int.reduceMul, Int.reduceToNat, reduceIte, reduceCtorEq, List.map_cons, List.map_nil]
          have e1 := linesFrom_miss2 (b := b) (k := (holesOf b)[i]) (m := m) (by omega)
          exact ⟨by omega, m + 1, by omega, by omega, weak_of (fun i => i) (fun i => i) rfl ⟨by simp [boxesR, listsR, csR, renC, keyC, optK, fnd, envR, St.get, keyPV, keyV1, renPV, renV1, hasKey, made_zero, e1] <;> omega, by simp [boxesR, listsR, csR, renC, keyC, optK, fnd, envR, St.get, keyPV, keyV1, renPV, renV1, hasKey, made_zero, e1] <;> omega, by simp [boxesR, listsR, csR, renC, keyC, optK, fnd, envR, St.get, keyPV, keyV1, renPV, renV1, hasKey, made_zero, e1] <;> omega, by simp [boxesR, listsR, csR, renC, keyC, optK, fnd, envR, St.get, keyPV, keyV1, renPV, renV1, hasKey, made_zero, e1] <;> omega, by simp [boxesR, listsR, csR, renC, keyC, optK, fnd, envR, St.get, keyPV, keyV1, renPV, renV1, hasKey, made_zero, e1] <;> omega⟩ (by simp [boxesR, listsR, csR, renC, keyC, optK, fnd, envR, St.get, keyPV, keyV1, renPV, renV1, hasKey, made_zero, e1] <;> omega)⟩
    · have e : m = 4 := by omega
      subst e
      simp -implicitDefEqProofs only [go_sem, Nat.reduceLT, Nat.reduceLeDiff, Nat.reduceEqDiff, Nat.reduceAdd, Nat.reduceSub, Nat.reduceMul, Int.reduceEq, Int.reduceLT, Int.reduceLE, Int.reduceNeg, Int.reduceAdd, Int.reduceSub, Int.reduceMul, Int.reduceToNat, reduceIte, reduceCtorEq, List.map_cons, List.map_nil]
      exact ⟨by omega, i + 1, by omega, by omega, weak_of (fun i => i) (fun i => i) rfl ⟨by simp [boxesR, listsR, csR, renC, keyC, optK, fnd, envR, St.get, keyPV, keyV1, renPV, renV1, hasKey, made_zero, linesN_step hlt] <;> omega, by simp [boxesR, listsR, csR, renC, keyC, optK, fnd, envR, St.get, keyPV, keyV1, renPV, renV1, hasKey, made_zero, linesN_step hlt] <;> omega, by simp [boxesR, listsR, csR, renC, keyC, optK, fnd, envR, St.get, keyPV, keyV1, renPV, renV1, hasKey, made_zero, linesN_step hlt] <;> omega, by simp [boxesR, listsR, csR, renC, keyC, optK, fnd, envR, St.get, keyPV, keyV1, renPV, renV1, hasKey, made_zero, linesN_step hlt] <;> omega, by simp [boxesR, listsR, csR, renC, keyC, optK, fnd, envR, St.get, keyPV, keyV1, renPV, renV1, hasKey, made_zero, linesN_step hlt] <;> omega⟩ (by simp [boxesR, listsR, csR, renC, keyC, optK, fnd, envR, St.get, keyPV, keyV1, renPV, renV1, hasKey, made_zero, linesN_step hlt] <;> omega)⟩
  · have e : i = (holesOf b).length := by omega
    subst e
    simp -implicitDefEqProofs only [linesN_end, go_sem, Nat.reduceLT, Nat.reduceLeDiff, Nat.reduceEqDiff, Nat.reduceAdd, Nat.reduceSub, Nat.reduceMul, Int.reduceEq, Int.reduceLT, Int.reduceLE, Int.reduceNeg, Int.reduceAdd, Int.reduceSub, Int.reduceMul, Int.reduceToNat, reduceIte, reduceCtorEq, List.map_cons, List.map_nil]
    exact fin_of (fun i => i) (fun i => 9) ⟨by simp [boxesR, listsR, csR, renC, keyC, optK, fnd, envR, St.get, keyPV, keyV1, renPV, renV1, hasKey, made_zero] <;> omega, by simp [boxesR, listsR, csR, renC, keyC, optK, fnd, envR, St.get, keyPV, keyV1, renPV, renV1, hasKey, made_zero] <;> omega, by simp [boxesR, listsR, csR, renC, keyC, optK, fnd, envR, St.get, keyPV, keyV1, renPV, renV1, hasKey, made_zero] <;> omega, by simp [boxesR, listsR, csR, renC, keyC, optK, fnd, envR, St.get, keyPV, keyV1, renPV, renV1, hasKey, made_zero] <;> omega, by simp [boxesR, listsR, csR, renC, keyC, optK, fnd, envR, St.get, keyPV, keyV1, renPV, renV1, hasKey, made_zero] <;> omega⟩ (by simp [boxesR, listsR, csR, renC, keyC, optK, fnd, envR, St.get, keyPV, keyV1, renPV, renV1, hasKey, made_zero] <;> omega) rfl
theorem iLinesOf_c (d : Nat) (b : Brd) : PC Try.prog 94 [] [.a (brdC b)] (.s (.c (.o d))) ⟨[], [(d, ⟨44, 3, (linesOf b).map lineV, false, true⟩)]⟩ := by
  refine pc_of Try.func94 rfl (by kernel_rfl) _ Try.ntmps94 (by simp) ?_
  simp -implicitDefEqProofs only [go_sem, Nat.reduceLT, Nat.reduceLeDiff, Nat.reduceEqDiff, Nat.reduceAdd, Nat.reduceSub, Nat.reduceMul, Int.reduceEq, Int.reduceLT, Int.reduceLE, Int.reduceNeg, Int.reduceAdd, Int.reduceSub, Int.reduceMul, Int.reduceToNat, reduceIte, reduceCtorEq, List.map_cons, List.map_nil]
  refine callL (iHolesOf_c 11 b) rfl rfl rfl ?_
  simp -implicitDefEqProofs only [go_sem, Nat.reduceLT, Nat.reduceLeDiff, Nat.reduceEqDiff, Nat.reduceAdd, Nat.reduceSub, Nat.reduceMul, Int.reduceEq, Int.reduceLT, Int.reduceLE, Int.reduceNeg, Int.reduceAdd, Int.reduceSub, Int.reduceMul, Int.reduceToNat, reduceIte, reduceCtorEq, List.map_cons, List.map_nil]
  refine loop_step (X := Nat) (fun i => ⟨40, [(1, .s (.c (.p 1 0))), (3, vO 9), (11, vO 11), (12, vN (holesOf b).length), (13, vN i)], ⟨[(1, brdC b)], [(9, ⟨44, 3, (linesN b i).map lineV, false, true⟩), (11, ⟨3, 1, (holesOf b).map iV, false, true⟩)]⟩⟩)
    (fun i => i ≤ (holesOf b).length) (fun i => (holesOf b).length - i) 0 (by omega) (weak_of (fun i => i) (fun i => i) rfl ⟨by simp [boxesR, listsR, csR, renC, keyC, optK, fnd, envR, St.get, keyPV, keyV1, renPV, renV1, hasKey, made_zero, linesN_zero] <;> omega, by simp [boxesR, listsR, csR, renC, keyC, optK, fnd, envR, St.get, keyPV, keyV1, renPV, renV1, hasKey, made_zero, linesN_zero] <;> omega, by simp [boxesR, listsR, csR, renC, keyC, optK, fnd, envR, St.get, keyPV, keyV1, renPV, renV1, hasKey, made_zero, linesN_zero] <;> omega, by simp [boxesR, listsR, csR, renC, keyC, optK, fnd, envR, St.get, keyPV, keyV1, renPV, renV1, hasKey, made_zero, linesN_zero] <;> omega, by simp [boxesR, listsR, csR, renC, keyC, optK, fnd, envR, St.get, keyPV, keyV1, renPV, renV1, hasKey, made_zero, linesN_zero] <;> omega⟩ (by simp [boxesR, listsR, csR, renC, keyC, optK, fnd, envR, St.get, keyPV, keyV1, renPV, renV1, hasKey, made_zero, linesN_zero] <;> omega)) (fun i hi => ?_)
  have hl := holes_len (b := b)
  simp -implicitDefEqProofs only [go_sem, Nat.reduceLT, Nat.reduceLeDiff, Nat.reduceEqDiff, Nat.reduceAdd, Nat.reduceSub, Nat.reduceMul, Int.reduceEq, Int.reduceLT, Int.reduceLE, Int.reduceNeg, Int.reduceAdd, Int.reduceSub, Int.reduceMul, Int.reduceToNat, reduceIte, reduceCtorEq, List.map_cons, List.map_nil]
  refine if_splitP (fun h => ?_) (fun h => ?_)
  · have hlt : i < (holesOf b).length := by omega
    have hg := map_get (f := iV) hlt
    obtain ⟨hb, hh, hk0, hk1⟩ := mem_holes (List.getElem_mem hlt)
    simp -implicitDefEqProofs only [hg, hlt, go_sem, Nat.reduceLT, Nat.reduceLeDiff, Nat.reduceEqDiff, Nat.reduceAdd, Nat.reduceSub, Nat.reduceMul, Int.reduceEq, Int.reduceLT, Int.reduceLE, Int.reduceNeg, Int.reduceAdd, Int.reduceSub, Int.reduceMul, Int.reduceToNat, reduceIte, reduceCtorEq, List.map_cons, List.map_nil]
    refine loop_step (X := Nat) (fun m => ⟨40, [(1, .s (.c (.p 1 0))), (3, vO 9), (11, vO 11), (12, vN (holesOf b).length), (13, vN i), (5, vN (holesOf b)[i]), (6, vN m)], ⟨[(1, brdC b)], [(9, ⟨44, 3, (linesN b i ++ linesFrom b (holesOf b)[i] m).map lineV, false, true⟩), (11, ⟨3, 1, (holesOf b).map iV, false, true⟩)]⟩⟩)
      (fun m => m ≤ 4) (fun m => 4 - m) 0 (by omega) (weak_of (fun i => i) (fun i => i) rfl ⟨by simp [boxesR, listsR, csR, renC, keyC, optK, fnd, envR, St.get, keyPV, keyV1, renPV, renV1, hasKey, made_zero, linesFrom_zero] <;> omega, by simp [boxesR, listsR, csR, renC, keyC, optK, fnd, envR, St.get, keyPV, keyV1, renPV, renV1, hasKey, made_zero, linesFrom_zero] <;> omega, by simp [boxesR, listsR, csR, renC, keyC, optK, fnd, envR, St.get, keyPV, keyV1, renPV, renV1, hasKey, made_zero, linesFrom_zero] <;> omega, by simp [boxesR, listsR, csR, renC, keyC, optK, fnd, envR, St.get, keyPV, keyV1, renPV, renV1, hasKey, made_zero, linesFrom_zero] <;> omega, by simp [boxesR, listsR, csR, renC, keyC, optK, fnd, envR, St.get, keyPV, keyV1, renPV, renV1, hasKey, made_zero, linesFrom_zero] <;> omega⟩ (by simp [boxesR, listsR, csR, renC, keyC, optK, fnd, envR, St.get, keyPV, keyV1, renPV, renV1, hasKey, made_zero, linesFrom_zero] <;> omega)) (fun m hm => ?_)
    have l1 := linesN_len (b := b) (i := i)
    have l2 := linesFrom_len (b := b) (k := (holesOf b)[i]) (m := m)
    have l3 : (linesN b i ++ linesFrom b (holesOf b)[i] m).length ≤ 4 * i + m := by rw [List.length_append]; omega
    simp -implicitDefEqProofs only [go_sem, Nat.reduceLT, Nat.reduceLeDiff, Nat.reduceEqDiff, Nat.reduceAdd, Nat.reduceSub, Nat.reduceMul, Int.reduceEq, Int.reduceLT, Int.reduceLE, Int.reduceNeg, Int.reduceAdd, Int.reduceSub, Int.reduceMul, Int.reduceToNat, reduceIte, reduceCtorEq, List.map_cons, List.map_nil]
    refine if_splitP (fun h => ?_) (fun h => ?_)
    · simp -implicitDefEqProofs only [go_sem, Nat.reduceLT, Nat.reduceLeDiff, Nat.reduceEqDiff, Nat.reduceAdd, Nat.reduceSub, Nat.reduceMul, Int.reduceEq, Int.reduceLT, Int.reduceLE, Int.reduceNeg, Int.reduceAdd, Int.reduceSub, Int.reduceMul, Int.reduceToNat, reduceIte, reduceCtorEq, List.map_cons, List.map_nil]
      refine callS (beside_c b _ m (by omega) (by omega)) rfl rfl rfl ?_
      simp -implicitDefEqProofs only [side_step hh, go_sem, Nat.reduceLT, Nat.reduceLeDiff, Nat.reduceEqDiff, Nat.reduceAdd, Nat.reduceSub, Nat.reduceMul, Int.reduceEq, Int.reduceLT, Int.reduceLE, Int.reduceNeg, Int.reduceAdd, Int.reduceSub, Int.reduceMul, Int.reduceToNat, reduceIte, reduceCtorEq, List.map_cons, List.map_nil]
      refine callS (beside_c b _ m (by omega) (by omega)) rfl rfl rfl ?_
      simp -implicitDefEqProofs only [side_two hb, go_sem, Nat.reduceLT, Nat.reduceLeDiff, Nat.reduceEqDiff, Nat.reduceAdd, Nat.reduceSub, Nat.reduceMul, Int.reduceEq, Int.reduceLT, Int.reduceLE, Int.reduceNeg, Int.reduceAdd, Int.reduceSub, Int.reduceMul, Int.reduceToNat, reduceIte, reduceCtorEq, List.map_cons, List.map_nil]
      by_cases h1 : 0 ≤ stepTo b (holesOf b)[i] m
      · simp -implicitDefEqProofs only [h1, go_sem, Nat.reduceLT, Nat.reduceLeDiff, Nat.reduceEqDiff, Nat.reduceAdd, Nat.reduceSub, Nat.reduceMul, Int.reduceEq, Int.reduceLT, Int.reduceLE, Int.reduceNeg, Int.reduceAdd, Int.reduceSub, Int.reduceMul, Int.reduceToNat, reduceIte, reduceCtorEq, List.map_cons, List.map_nil]
        refine if_splitP (fun h2 => ?_) (fun h2 => ?_)
        · simp -implicitDefEqProofs only [go_sem, Nat.reduceLT, Nat.reduceLeDiff, Nat.reduceEqDiff, Nat.reduceAdd, Nat.reduceSub, Nat.reduceMul, Int.reduceEq, Int.reduceLT, Int.reduceLE, Int.reduceNeg, Int.reduceAdd, Int.reduceSub, Int.reduceMul, Int.reduceToNat, reduceIte, reduceCtorEq, List.map_cons, List.map_nil]
          have e1 := linesFrom_hit (b := b) (k := (holesOf b)[i]) (m := m) (by omega) h2
          exact ⟨by omega, by omega, m + 1, by omega, by omega, weak_of (fun i => i) (fun i => if i = 9 then 37 else i) rfl ⟨by simp [boxesR, listsR, csR, renC, keyC, optK, fnd, envR, St.get, keyPV, keyV1, renPV, renV1, hasKey, made_zero, e1, lineV] <;> omega, by simp [boxesR, listsR, csR, renC, keyC, optK, fnd, envR, St.get, keyPV, keyV1, renPV, renV1, hasKey, made_zero, e1, lineV] <;> omega, by simp [boxesR, listsR, csR, renC, keyC, optK, fnd, envR, St.get, keyPV, keyV1, renPV, renV1, hasKey, made_zero, e1, lineV] <;> omega, by simp [boxesR, listsR, csR, renC, keyC, optK, fnd, envR, St.get, keyPV, keyV1, renPV, renV1, hasKey, made_zero, e1, lineV] <;> omega, by simp [boxesR, listsR, csR, renC, keyC, optK, fnd, envR, St.get, keyPV, keyV1, renPV, renV1, hasKey, made_zero, e1, lineV] <;> omega⟩ (by simp [boxesR, listsR, csR, renC, keyC, optK, fnd, envR, St.get, keyPV, keyV1, renPV, renV1, hasKey, made_zero, e1, lineV] <;> omega)⟩
        · simp -implicitDefEqProofs only [go_sem, Nat.reduceLT, Nat.reduceLeDiff, Nat.reduceEqDiff, Nat.reduceAdd, Nat.reduceSub, Nat.reduceMul, Int.reduceEq, Int.reduceLT, Int.reduceLE, Int.reduceNeg, Int.reduceAdd, Int.reduceSub, Int.reduceMul, Int.reduceToNat, reduceIte, reduceCtorEq, List.map_cons, List.map_nil]
          have e1 := linesFrom_miss2 (b := b) (k := (holesOf b)[i]) (m := m) (by omega)
          exact ⟨by omega, m + 1, by omega, by omega, weak_of (fun i => i) (fun i => i) rfl ⟨by simp [boxesR, listsR, csR, renC, keyC, optK, fnd, envR, St.get, keyPV, keyV1, renPV, renV1, hasKey, made_zero, e1] <;> omega, by simp [boxesR, listsR, csR, renC, keyC, optK, fnd, envR, St.get, keyPV, keyV1, renPV, renV1, hasKey, made_zero, e1] <;> omega, by simp [boxesR, listsR, csR, renC, keyC, optK, fnd, envR, St.get, keyPV, keyV1, renPV, renV1, hasKey, made_zero, e1] <;> omega, by simp [boxesR, listsR, csR, renC, keyC, optK, fnd, envR, St.get, keyPV, keyV1, renPV, renV1, hasKey, made_zero, e1] <;> omega, by simp [boxesR, listsR, csR, renC, keyC, optK, fnd, envR, St.get, keyPV, keyV1, renPV, renV1, hasKey, made_zero, e1] <;> omega⟩ (by simp [boxesR, listsR, csR, renC, keyC, optK, fnd, envR, St.get, keyPV, keyV1, renPV, renV1, hasKey, made_zero, e1] <;> omega)⟩
      · simp -implicitDefEqProofs only [h1, go_sem, Nat.reduceLT, Nat.reduceLeDiff, Nat.reduceEqDiff, Nat.reduceAdd, Nat.reduceSub, Nat.reduceMul, Int.reduceEq, Int.reduceLT, Int.reduceLE, Int.reduceNeg, Int.reduceAdd, Int.reduceSub, Int.reduceMul, Int.reduceToNat, reduceIte, reduceCtorEq, List.map_cons, List.map_nil]
        have e1 := linesFrom_miss1 (b := b) (k := (holesOf b)[i]) (m := m) (by omega)
        exact ⟨by omega, m + 1, by omega, by omega, weak_of (fun i => i) (fun i => i) rfl ⟨by simp [boxesR, listsR, csR, renC, keyC, optK, fnd, envR, St.get, keyPV, keyV1, renPV, renV1, hasKey, made_zero, e1] <;> omega, by simp [boxesR, listsR, csR, renC, keyC, optK, fnd, envR, St.get, keyPV, keyV1, renPV, renV1, hasKey, made_zero, e1] <;> omega, by simp [boxesR, listsR, csR, renC, keyC, optK, fnd, envR, St.get, keyPV, keyV1, renPV, renV1, hasKey, made_zero, e1] <;> omega, by simp [boxesR, listsR, csR, renC, keyC, optK, fnd, envR, St.get, keyPV, keyV1, renPV, renV1, hasKey, made_zero, e1] <;> omega, by simp [boxesR, listsR, csR, renC, keyC, optK, fnd, envR, St.get, keyPV, keyV1, renPV, renV1, hasKey, made_zero, e1] <;> omega⟩ (by simp [boxesR, listsR, csR, renC, keyC, optK, fnd, envR, St.get, keyPV, keyV1, renPV, renV1, hasKey, made_zero, e1] <;> omega)⟩
    · have e : m = 4 := by omega
      subst e
      simp -implicitDefEqProofs only [go_sem, Nat.reduceLT, Nat.reduceLeDiff, Nat.reduceEqDiff, Nat.reduceAdd, Nat.reduceSub, Nat.reduceMul, Int.reduceEq, Int.reduceLT, Int.reduceLE, Int.reduceNeg, Int.reduceAdd, Int.reduceSub, Int.reduceMul, Int.reduceToNat, reduceIte, reduceCtorEq, List.map_cons, List.map_nil]
      exact ⟨by omega, i + 1, by omega, by omega, weak_of (fun i => i) (fun i => i) rfl ⟨by simp [boxesR, listsR, csR, renC, keyC, optK, fnd, envR, St.get, keyPV, keyV1, renPV, renV1, hasKey, made_zero, linesN_step hlt] <;> omega, by simp [boxesR, listsR, csR, renC, keyC, optK, fnd, envR, St.get, keyPV, keyV1, renPV, renV1, hasKey, made_zero, linesN_step hlt] <;> omega, by simp [boxesR, listsR, csR, renC, keyC, optK, fnd, envR, St.get, keyPV, keyV1, renPV, renV1, hasKey, made_zero, linesN_step hlt] <;> omega, by simp [boxesR, listsR, csR, renC, keyC, optK, fnd, envR, St.get, keyPV, keyV1, renPV, renV1, hasKey, made_zero, linesN_step hlt] <;> omega, by simp [boxesR, listsR, csR, renC, keyC, optK, fnd, envR, St.get, keyPV, keyV1, renPV, renV1, hasKey, made_zero, linesN_step hlt] <;> omega⟩ (by simp [boxesR, listsR, csR, renC, keyC, optK, fnd, envR, St.get, keyPV, keyV1, renPV, renV1, hasKey, made_zero, linesN_step hlt] <;> omega)⟩
  · have e : i = (holesOf b).length := by omega
    subst e
    simp -implicitDefEqProofs only [linesN_end, go_sem, Nat.reduceLT, Nat.reduceLeDiff, Nat.reduceEqDiff, Nat.reduceAdd, Nat.reduceSub, Nat.reduceMul, Int.reduceEq, Int.reduceLT, Int.reduceLE, Int.reduceNeg, Int.reduceAdd, Int.reduceSub, Int.reduceMul, Int.reduceToNat, reduceIte, reduceCtorEq, List.map_cons, List.map_nil]
    exact fin_of (fun i => i) (fun i => 9) ⟨by simp [boxesR, listsR, csR, renC, keyC, optK, fnd, envR, St.get, keyPV, keyV1, renPV, renV1, hasKey, made_zero] <;> omega, by simp [boxesR, listsR, csR, renC, keyC, optK, fnd, envR, St.get, keyPV, keyV1, renPV, renV1, hasKey, made_zero] <;> omega, by simp [boxesR, listsR, csR, renC, keyC, optK, fnd, envR, St.get, keyPV, keyV1, renPV, renV1, hasKey, made_zero] <;> omega, by simp [boxesR, listsR, csR, renC, keyC, optK, fnd, envR, St.get, keyPV, keyV1, renPV, renV1, hasKey, made_zero] <;> omega, by simp [boxesR, listsR, csR, renC, keyC, optK, fnd, envR, St.get, keyPV, keyV1, renPV, renV1, hasKey, made_zero] <;> omega⟩ (by simp [boxesR, listsR, csR, renC, keyC, optK, fnd, envR, St.get, keyPV, keyV1, renPV, renV1, hasKey, made_zero] <;> omega) rfl
theorem linesOf_len {b : Brd} : (linesOf b).length ≤ 196 := by
  have h1 := linesN_len (b := b) (i := (holesOf b).length)
  have h2 := holes_len (b := b)
  rw [linesN_end] at h1
  omega
def cntL (p : Ln → Bool) (ls : List Ln) (i : Nat) : Nat := ((ls.take i).filter p).length
theorem cntL_le {p : Ln → Bool} {ls : List Ln} {i : Nat} : cntL p ls i ≤ i := by
  have h1 := List.length_filter_le p (ls.take i)
  have h2 : (ls.take i).length ≤ i := List.length_take_le ..
  unfold cntL; omega
theorem cntL_hit {p : Ln → Bool} {ls : List Ln} {i : Nat} (hi : i < ls.length) (he : p ls[i] = true) : cntL p ls (i + 1) = cntL p ls i + 1 := by
  unfold cntL
  rw [List.take_succ_eq_append_getElem hi, List.filter_append]
  simp [he]
theorem cntL_miss {p : Ln → Bool} {ls : List Ln} {i : Nat} (hi : i < ls.length) (he : p ls[i] = false) : cntL p ls (i + 1) = cntL p ls i := by
  unfold cntL
  rw [List.take_succ_eq_append_getElem hi, List.filter_append]
  simp [he]
theorem cntL_zero {p : Ln → Bool} {ls : List Ln} : cntL p ls 0 = 0 := by simp [cntL]
end Go.Proofs.Ytncdcgaaeclhiaa
