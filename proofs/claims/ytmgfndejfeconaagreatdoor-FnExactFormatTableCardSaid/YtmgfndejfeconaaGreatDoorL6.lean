/-
  What the functions on boards compute: the list of lines.
  What the functions that count lines through a hole compute.
  What the functions that find a part of a board compute: the set of holes that lines lead to.
-/
import Derived.Test.YtmgfndejfeconaaGreatDoorL4
namespace Go.Proofs.YtmgfndejfeconaaGreatDoor
open Go.PL
set_option linter.unusedSimpArgs false
structure Ln where
  f : Int
  o : Int
  t : Int
def lineV (l : Ln) : Value := .agg #[.int .i64 l.f, .int .i64 l.o, .int .i64 l.t]
abbrev lineC (l : Ln) : List C := [.v (.int .i64 l.f), .v (.int .i64 l.o), .v (.int .i64 l.t)]
def lineAt (b : Brd) (k way : Int) : Option Ln :=
  if 0 ≤ stepTo b k way ∧ 0 ≤ stepTo b (stepTo b k way) way then some ⟨k, stepTo b k way, stepTo b (stepTo b k way) way⟩ else none
def linesFrom (b : Brd) (k : Int) (m : Nat) : List Ln := (List.range m).filterMap (fun (w : Nat) => lineAt b k (w : Int))
theorem linesFrom_zero {b : Brd} {k : Int} : linesFrom b k 0 = [] := rfl
theorem linesFrom_hit {b : Brd} {k : Int} {m : Nat} (h1 : 0 ≤ stepTo b k m) (h2 : 0 ≤ stepTo b (stepTo b k m) m) : linesFrom b k (m + 1) = linesFrom b k m ++ [⟨k, stepTo b k m, stepTo b (stepTo b k m) m⟩] := by
  simp [linesFrom, List.range_succ, List.filterMap_append, lineAt, h1, h2]
theorem linesFrom_miss1 {b : Brd} {k : Int} {m : Nat} (h1 : ¬ 0 ≤ stepTo b k m) : linesFrom b k (m + 1) = linesFrom b k m := by
  simp [linesFrom, List.range_succ, List.filterMap_append, lineAt, h1]
theorem linesFrom_miss2 {b : Brd} {k : Int} {m : Nat} (h1 : ¬ 0 ≤ stepTo b (stepTo b k m) m) : linesFrom b k (m + 1) = linesFrom b k m := by
  simp [linesFrom, List.range_succ, List.filterMap_append, lineAt, h1]
theorem linesFrom_len {b : Brd} {k : Int} {m : Nat} : (linesFrom b k m).length ≤ m := by
  have := List.length_filterMap_le (fun (w : Nat) => lineAt b k (w : Int)) (List.range m)
  simpa [linesFrom] using this
def linesN (b : Brd) (i : Nat) : List Ln := ((holesOf b).take i).flatMap (fun k => linesFrom b k 4)
def linesOf (b : Brd) : List Ln := (holesOf b).flatMap (fun k => linesFrom b k 4)
theorem linesN_zero {b : Brd} : linesN b 0 = [] := by simp [linesN]
theorem linesN_end {b : Brd} : linesN b (holesOf b).length = linesOf b := by simp [linesN, linesOf]
theorem linesN_step {b : Brd} {i : Nat} (h : i < (holesOf b).length) : linesN b (i + 1) = linesN b i ++ linesFrom b (holesOf b)[i] 4 := by
  unfold linesN
  rw [List.take_succ_eq_append_getElem h, List.flatMap_append]
  simp
theorem linesN_len {b : Brd} : ∀ {i : Nat}, (linesN b i).length ≤ 4 * i
  | 0 => by simp [linesN_zero]
  | i + 1 => by
    by_cases h : i < (holesOf b).length
    · have h1 := linesN_len (b := b) (i := i)
      have h2 := linesFrom_len (b := b) (k := (holesOf b)[i]) (m := 4)
      rw [linesN_step h, List.length_append]
      omega
    · have : linesN b (i + 1) = linesN b i := by
        simp only [linesN]
        rw [List.take_of_length_le (by omega), List.take_of_length_le (by omega)]
      have h1 := linesN_len (b := b) (i := i)
      rw [this]; omega
theorem side_step {b : Brd} {k way : Int} (h : hasHole b k = true) : sideTo b k way = stepTo b k way := by simp [sideTo, h]
theorem side_two {b : Brd} {k way : Int} (hb : boardOk b = true) : sideTo b (stepTo b k way) way = if 0 ≤ stepTo b k way then stepTo b (stepTo b k way) way else -1 := by
  split
  · rename_i h
    rw [side_step (step_hole hb h).1]
  · rename_i h
    have : hasHole b (stepTo b k way) = false := by
      cases hh : hasHole b (stepTo b k way) with
      | false => rfl
      | true => exact absurd (hole_bd hh).2.1 h
    simp [sideTo, this]
theorem LinesOf_c (d : Nat) (b : Brd) : PC Tryz.prog 83 [] [.a (brdC b)] (.s (.c (.o d))) ⟨[], [(d, ⟨78, 3, (linesOf b).map lineV, false, true⟩)]⟩ := by
  refine pc_of Tryz.func83 rfl (by kernel_rfl) _ Tryz.ntmps83 (by simp) ?_
  simp -implicitDefEqProofs only [go_sem]
  refine callL (HolesOf_c 11 b) rfl rfl rfl ?_
  simp -implicitDefEqProofs only [go_sem]
  refine loop_step (X := Nat) (fun i => ⟨48, [(1, .s (.c (.p 1 0))), (3, vO 9), (4, vO 11), (5, vN i)], ⟨[(1, brdC b)], [(9, ⟨78, 3, (linesN b i).map lineV, false, true⟩), (11, ⟨3, 1, (holesOf b).map iV, false, true⟩)]⟩⟩)
    (fun i => i ≤ (holesOf b).length) (fun i => (holesOf b).length - i) 0 (by omega) (weak_of (fun i => i) (fun i => i) rfl ⟨by simp [boxesR, listsR, csR, renC, keyC, optK, fnd, envR, St.get, keyPV, keyV1, renPV, renV1, hasKey, made_zero, linesN_zero] <;> omega, by simp [boxesR, listsR, csR, renC, keyC, optK, fnd, envR, St.get, keyPV, keyV1, renPV, renV1, hasKey, made_zero, linesN_zero] <;> omega, by simp [boxesR, listsR, csR, renC, keyC, optK, fnd, envR, St.get, keyPV, keyV1, renPV, renV1, hasKey, made_zero, linesN_zero] <;> omega, by simp [boxesR, listsR, csR, renC, keyC, optK, fnd, envR, St.get, keyPV, keyV1, renPV, renV1, hasKey, made_zero, linesN_zero] <;> omega, by simp [boxesR, listsR, csR, renC, keyC, optK, fnd, envR, St.get, keyPV, keyV1, renPV, renV1, hasKey, made_zero, linesN_zero] <;> omega⟩ (by simp [boxesR, listsR, csR, renC, keyC, optK, fnd, envR, St.get, keyPV, keyV1, renPV, renV1, hasKey, made_zero, linesN_zero] <;> omega)) (fun i hi => ?_)
  have hl := holes_len (b := b)
  simp -implicitDefEqProofs only [go_sem]
  refine if_splitP (fun h => ?_) (fun h => ?_)
  · have hlt : i < (holesOf b).length := by omega
    have hg := map_get (f := iV) hlt
    obtain ⟨hb, hh, hk0, hk1⟩ := mem_holes (List.getElem_mem hlt)
    simp -implicitDefEqProofs only [go_sem]
    refine loop_step (X := Nat) (fun m => ⟨48, [(1, .s (.c (.p 1 0))), (3, vO 9), (4, vO 11), (5, vN i), (6, vN m)], ⟨[(1, brdC b)], [(9, ⟨78, 3, (linesN b i ++ linesFrom b (holesOf b)[i] m).map lineV, false, true⟩), (11, ⟨3, 1, (holesOf b).map iV, false, true⟩)]⟩⟩)
      (fun m => m ≤ 4) (fun m => 4 - m) 0 (by omega) (weak_of (fun i => i) (fun i => i) rfl ⟨by simp [boxesR, listsR, csR, renC, keyC, optK, fnd, envR, St.get, keyPV, keyV1, renPV, renV1, hasKey, made_zero, linesFrom_zero] <;> omega, by simp [boxesR, listsR, csR, renC, keyC, optK, fnd, envR, St.get, keyPV, keyV1, renPV, renV1, hasKey, made_zero, linesFrom_zero] <;> omega, by simp [boxesR, listsR, csR, renC, keyC, optK, fnd, envR, St.get, keyPV, keyV1, renPV, renV1, hasKey, made_zero, linesFrom_zero] <;> omega, by simp [boxesR, listsR, csR, renC, keyC, optK, fnd, envR, St.get, keyPV, keyV1, renPV, renV1, hasKey, made_zero, linesFrom_zero] <;> omega, by simp [boxesR, listsR, csR, renC, keyC, optK, fnd, envR, St.get, keyPV, keyV1, renPV, renV1, hasKey, made_zero, linesFrom_zero] <;> omega⟩ (by simp [boxesR, listsR, csR, renC, keyC, optK, fnd, envR, St.get, keyPV, keyV1, renPV, renV1, hasKey, made_zero, linesFrom_zero] <;> omega)) (fun m hm => ?_)
    have l1 := linesN_len (b := b) (i := i)
    have l2 := linesFrom_len (b := b) (k := (holesOf b)[i]) (m := m)
    have l3 : (linesN b i ++ linesFrom b (holesOf b)[i] m).length ≤ 4 * i + m := by rw [List.length_append]; omega
    simp -implicitDefEqProofs only [go_sem]
    refine if_splitP (fun h => ?_) (fun h => ?_)
    · simp -implicitDefEqProofs only [go_sem]
      refine draw_step Tryz.pl_follows (by kernel_rfl) ?_
      simp -implicitDefEqProofs only [hg, hlt, go_sem]
      refine callD (l03Step_c b _ m hb hk0 hk1 (by omega) (by omega)) rfl rfl rfl ?_
      simp -implicitDefEqProofs only [go_sem]
      refine if_splitP (fun h1 => ?_) (fun h1 => ?_)
      · simp -implicitDefEqProofs only [go_sem]
        have e1 := linesFrom_miss1 (b := b) (k := (holesOf b)[i]) (m := m) (by omega)
        exact ⟨by omega, m + 1, by omega, by omega, weak_of (fun i => i) (fun i => i) rfl ⟨by simp [boxesR, listsR, csR, renC, keyC, optK, fnd, envR, St.get, keyPV, keyV1, renPV, renV1, hasKey, made_zero, e1] <;> omega, by simp [boxesR, listsR, csR, renC, keyC, optK, fnd, envR, St.get, keyPV, keyV1, renPV, renV1, hasKey, made_zero, e1] <;> omega, by simp [boxesR, listsR, csR, renC, keyC, optK, fnd, envR, St.get, keyPV, keyV1, renPV, renV1, hasKey, made_zero, e1] <;> omega, by simp [boxesR, listsR, csR, renC, keyC, optK, fnd, envR, St.get, keyPV, keyV1, renPV, renV1, hasKey, made_zero, e1] <;> omega, by simp [boxesR, listsR, csR, renC, keyC, optK, fnd, envR, St.get, keyPV, keyV1, renPV, renV1, hasKey, made_zero, e1] <;> omega⟩ (by simp [boxesR, listsR, csR, renC, keyC, optK, fnd, envR, St.get, keyPV, keyV1, renPV, renV1, hasKey, made_zero, e1] <;> omega)⟩
      · have hs := step_hole hb (show 0 ≤ stepTo b (holesOf b)[i] m by omega)
        simp -implicitDefEqProofs only [go_sem]
        refine callS (l03Step_c b _ m hb (by omega) hs.2 (by omega) (by omega)) rfl rfl rfl ?_
        simp -implicitDefEqProofs only [go_sem]
        refine if_splitP (fun h2 => ?_) (fun h2 => ?_)
        · simp -implicitDefEqProofs only [hg, hlt, go_sem]
          have e1 := linesFrom_hit (b := b) (k := (holesOf b)[i]) (m := m) (by omega) h2
          exact ⟨by omega, by omega, m + 1, by omega, by omega, weak_of (fun i => i) (fun i => if i = 9 then 46 else i) rfl ⟨by simp [boxesR, listsR, csR, renC, keyC, optK, fnd, envR, St.get, keyPV, keyV1, renPV, renV1, hasKey, made_zero, e1, lineV] <;> omega, by simp [boxesR, listsR, csR, renC, keyC, optK, fnd, envR, St.get, keyPV, keyV1, renPV, renV1, hasKey, made_zero, e1, lineV] <;> omega, by simp [boxesR, listsR, csR, renC, keyC, optK, fnd, envR, St.get, keyPV, keyV1, renPV, renV1, hasKey, made_zero, e1, lineV] <;> omega, by simp [boxesR, listsR, csR, renC, keyC, optK, fnd, envR, St.get, keyPV, keyV1, renPV, renV1, hasKey, made_zero, e1, lineV] <;> omega, by simp [boxesR, listsR, csR, renC, keyC, optK, fnd, envR, St.get, keyPV, keyV1, renPV, renV1, hasKey, made_zero, e1, lineV] <;> omega⟩ (by simp [boxesR, listsR, csR, renC, keyC, optK, fnd, envR, St.get, keyPV, keyV1, renPV, renV1, hasKey, made_zero, e1, lineV] <;> omega)⟩
        · simp -implicitDefEqProofs only [go_sem]
          have e1 := linesFrom_miss2 (b := b) (k := (holesOf b)[i]) (m := m) (by omega)
          exact ⟨by omega, m + 1, by omega, by omega, weak_of (fun i => i) (fun i => i) rfl ⟨by simp [boxesR, listsR, csR, renC, keyC, optK, fnd, envR, St.get, keyPV, keyV1, renPV, renV1, hasKey, made_zero, e1] <;> omega, by simp [boxesR, listsR, csR, renC, keyC, optK, fnd, envR, St.get, keyPV, keyV1, renPV, renV1, hasKey, made_zero, e1] <;> omega, by simp [boxesR, listsR, csR, renC, keyC, optK, fnd, envR, St.get, keyPV, keyV1, renPV, renV1, hasKey, made_zero, e1] <;> omega, by simp [boxesR, listsR, csR, renC, keyC, optK, fnd, envR, St.get, keyPV, keyV1, renPV, renV1, hasKey, made_zero, e1] <;> omega, by simp [boxesR, listsR, csR, renC, keyC, optK, fnd, envR, St.get, keyPV, keyV1, renPV, renV1, hasKey, made_zero, e1] <;> omega⟩ (by simp [boxesR, listsR, csR, renC, keyC, optK, fnd, envR, St.get, keyPV, keyV1, renPV, renV1, hasKey, made_zero, e1] <;> omega)⟩
    · have e : m = 4 := by omega
      subst e
      simp -implicitDefEqProofs only [go_sem]
      exact ⟨by omega, i + 1, by omega, by omega, weak_of (fun i => i) (fun i => i) rfl ⟨by simp [boxesR, listsR, csR, renC, keyC, optK, fnd, envR, St.get, keyPV, keyV1, renPV, renV1, hasKey, made_zero, linesN_step hlt] <;> omega, by simp [boxesR, listsR, csR, renC, keyC, optK, fnd, envR, St.get, keyPV, keyV1, renPV, renV1, hasKey, made_zero, linesN_step hlt] <;> omega, by simp [boxesR, listsR, csR, renC, keyC, optK, fnd, envR, St.get, keyPV, keyV1, renPV, renV1, hasKey, made_zero, linesN_step hlt] <;> omega, by simp [boxesR, listsR, csR, renC, keyC, optK, fnd, envR, St.get, keyPV, keyV1, renPV, renV1, hasKey, made_zero, linesN_step hlt] <;> omega, by simp [boxesR, listsR, csR, renC, keyC, optK, fnd, envR, St.get, keyPV, keyV1, renPV, renV1, hasKey, made_zero, linesN_step hlt] <;> omega⟩ (by simp [boxesR, listsR, csR, renC, keyC, optK, fnd, envR, St.get, keyPV, keyV1, renPV, renV1, hasKey, made_zero, linesN_step hlt] <;> omega)⟩
  · have e : i = (holesOf b).length := by omega
    subst e
    simp -implicitDefEqProofs only [linesN_end, go_sem]
    exact fin_of (fun i => i) (fun i => 9) ⟨by simp [boxesR, listsR, csR, renC, keyC, optK, fnd, envR, St.get, keyPV, keyV1, renPV, renV1, hasKey, made_zero] <;> omega, by simp [boxesR, listsR, csR, renC, keyC, optK, fnd, envR, St.get, keyPV, keyV1, renPV, renV1, hasKey, made_zero] <;> omega, by simp [boxesR, listsR, csR, renC, keyC, optK, fnd, envR, St.get, keyPV, keyV1, renPV, renV1, hasKey, made_zero] <;> omega, by simp [boxesR, listsR, csR, renC, keyC, optK, fnd, envR, St.get, keyPV, keyV1, renPV, renV1, hasKey, made_zero] <;> omega, by simp [boxesR, listsR, csR, renC, keyC, optK, fnd, envR, St.get, keyPV, keyV1, renPV, renV1, hasKey, made_zero] <;> omega⟩ (by simp [boxesR, listsR, csR, renC, keyC, optK, fnd, envR, St.get, keyPV, keyV1, renPV, renV1, hasKey, made_zero] <;> omega) rfl
theorem iLinesOf_c (d : Nat) (b : Brd) : PC Tryz.prog 86 [] [.a (brdC b)] (.s (.c (.o d))) ⟨[], [(d, ⟨78, 3, (linesOf b).map lineV, false, true⟩)]⟩ := by
  refine pc_of Tryz.func86 rfl (by kernel_rfl) _ Tryz.ntmps86 (by simp) ?_
  simp -implicitDefEqProofs only [go_sem]
  refine callL (iHolesOf_c 11 b) rfl rfl rfl ?_
  simp -implicitDefEqProofs only [go_sem]
  refine loop_step (X := Nat) (fun i => ⟨40, [(1, .s (.c (.p 1 0))), (3, vO 9), (11, vO 11), (12, vN (holesOf b).length), (13, vN i)], ⟨[(1, brdC b)], [(9, ⟨78, 3, (linesN b i).map lineV, false, true⟩), (11, ⟨3, 1, (holesOf b).map iV, false, true⟩)]⟩⟩)
    (fun i => i ≤ (holesOf b).length) (fun i => (holesOf b).length - i) 0 (by omega) (weak_of (fun i => i) (fun i => i) rfl ⟨by simp [boxesR, listsR, csR, renC, keyC, optK, fnd, envR, St.get, keyPV, keyV1, renPV, renV1, hasKey, made_zero, linesN_zero] <;> omega, by simp [boxesR, listsR, csR, renC, keyC, optK, fnd, envR, St.get, keyPV, keyV1, renPV, renV1, hasKey, made_zero, linesN_zero] <;> omega, by simp [boxesR, listsR, csR, renC, keyC, optK, fnd, envR, St.get, keyPV, keyV1, renPV, renV1, hasKey, made_zero, linesN_zero] <;> omega, by simp [boxesR, listsR, csR, renC, keyC, optK, fnd, envR, St.get, keyPV, keyV1, renPV, renV1, hasKey, made_zero, linesN_zero] <;> omega, by simp [boxesR, listsR, csR, renC, keyC, optK, fnd, envR, St.get, keyPV, keyV1, renPV, renV1, hasKey, made_zero, linesN_zero] <;> omega⟩ (by simp [boxesR, listsR, csR, renC, keyC, optK, fnd, envR, St.get, keyPV, keyV1, renPV, renV1, hasKey, made_zero, linesN_zero] <;> omega)) (fun i hi => ?_)
  have hl := holes_len (b := b)
  simp -implicitDefEqProofs only [go_sem]
  refine if_splitP (fun h => ?_) (fun h => ?_)
  · have hlt : i < (holesOf b).length := by omega
    have hg := map_get (f := iV) hlt
    obtain ⟨hb, hh, hk0, hk1⟩ := mem_holes (List.getElem_mem hlt)
    simp -implicitDefEqProofs only [hg, hlt, go_sem]
    refine loop_step (X := Nat) (fun m => ⟨40, [(1, .s (.c (.p 1 0))), (3, vO 9), (11, vO 11), (12, vN (holesOf b).length), (13, vN i), (5, vN (holesOf b)[i]), (6, vN m)], ⟨[(1, brdC b)], [(9, ⟨78, 3, (linesN b i ++ linesFrom b (holesOf b)[i] m).map lineV, false, true⟩), (11, ⟨3, 1, (holesOf b).map iV, false, true⟩)]⟩⟩)
      (fun m => m ≤ 4) (fun m => 4 - m) 0 (by omega) (weak_of (fun i => i) (fun i => i) rfl ⟨by simp [boxesR, listsR, csR, renC, keyC, optK, fnd, envR, St.get, keyPV, keyV1, renPV, renV1, hasKey, made_zero, linesFrom_zero] <;> omega, by simp [boxesR, listsR, csR, renC, keyC, optK, fnd, envR, St.get, keyPV, keyV1, renPV, renV1, hasKey, made_zero, linesFrom_zero] <;> omega, by simp [boxesR, listsR, csR, renC, keyC, optK, fnd, envR, St.get, keyPV, keyV1, renPV, renV1, hasKey, made_zero, linesFrom_zero] <;> omega, by simp [boxesR, listsR, csR, renC, keyC, optK, fnd, envR, St.get, keyPV, keyV1, renPV, renV1, hasKey, made_zero, linesFrom_zero] <;> omega, by simp [boxesR, listsR, csR, renC, keyC, optK, fnd, envR, St.get, keyPV, keyV1, renPV, renV1, hasKey, made_zero, linesFrom_zero] <;> omega⟩ (by simp [boxesR, listsR, csR, renC, keyC, optK, fnd, envR, St.get, keyPV, keyV1, renPV, renV1, hasKey, made_zero, linesFrom_zero] <;> omega)) (fun m hm => ?_)
    have l1 := linesN_len (b := b) (i := i)
    have l2 := linesFrom_len (b := b) (k := (holesOf b)[i]) (m := m)
    have l3 : (linesN b i ++ linesFrom b (holesOf b)[i] m).length ≤ 4 * i + m := by rw [List.length_append]; omega
    simp -implicitDefEqProofs only [go_sem]
    refine if_splitP (fun h => ?_) (fun h => ?_)
    · simp -implicitDefEqProofs only [go_sem]
      refine callS (beside_c b _ m (by omega) (by omega)) rfl rfl rfl ?_
      simp -implicitDefEqProofs only [side_step hh, go_sem]
      refine callS (beside_c b _ m (by omega) (by omega)) rfl rfl rfl ?_
      simp -implicitDefEqProofs only [side_two hb, go_sem]
      by_cases h1 : 0 ≤ stepTo b (holesOf b)[i] m
      · simp -implicitDefEqProofs only [h1, go_sem]
        refine if_splitP (fun h2 => ?_) (fun h2 => ?_)
        · simp -implicitDefEqProofs only [go_sem]
          have e1 := linesFrom_hit (b := b) (k := (holesOf b)[i]) (m := m) (by omega) h2
          exact ⟨by omega, by omega, m + 1, by omega, by omega, weak_of (fun i => i) (fun i => if i = 9 then 37 else i) rfl ⟨by simp [boxesR, listsR, csR, renC, keyC, optK, fnd, envR, St.get, keyPV, keyV1, renPV, renV1, hasKey, made_zero, e1, lineV] <;> omega, by simp [boxesR, listsR, csR, renC, keyC, optK, fnd, envR, St.get, keyPV, keyV1, renPV, renV1, hasKey, made_zero, e1, lineV] <;> omega, by simp [boxesR, listsR, csR, renC, keyC, optK, fnd, envR, St.get, keyPV, keyV1, renPV, renV1, hasKey, made_zero, e1, lineV] <;> omega, by simp [boxesR, listsR, csR, renC, keyC, optK, fnd, envR, St.get, keyPV, keyV1, renPV, renV1, hasKey, made_zero, e1, lineV] <;> omega, by simp [boxesR, listsR, csR, renC, keyC, optK, fnd, envR, St.get, keyPV, keyV1, renPV, renV1, hasKey, made_zero, e1, lineV] <;> omega⟩ (by simp [boxesR, listsR, csR, renC, keyC, optK, fnd, envR, St.get, keyPV, keyV1, renPV, renV1, hasKey, made_zero, e1, lineV] <;> omega)⟩
        · simp -implicitDefEqProofs only [go_sem]
          have e1 := linesFrom_miss2 (b := b) (k := (holesOf b)[i]) (m := m) (by omega)
          exact ⟨by omega, m + 1, by omega, by omega, weak_of (fun i => i) (fun i => i) rfl ⟨by simp [boxesR, listsR, csR, renC, keyC, optK, fnd, envR, St.get, keyPV, keyV1, renPV, renV1, hasKey, made_zero, e1] <;> omega, by simp [boxesR, listsR, csR, renC, keyC, optK, fnd, envR, St.get, keyPV, keyV1, renPV, renV1, hasKey, made_zero, e1] <;> omega, by simp [boxesR, listsR, csR, renC, keyC, optK, fnd, envR, St.get, keyPV, keyV1, renPV, renV1, hasKey, made_zero, e1] <;> omega, by simp [boxesR, listsR, csR, renC, keyC, optK, fnd, envR, St.get, keyPV, keyV1, renPV, renV1, hasKey, made_zero, e1] <;> omega, by simp [boxesR, listsR, csR, renC, keyC, optK, fnd, envR, St.get, keyPV, keyV1, renPV, renV1, hasKey, made_zero, e1] <;> omega⟩ (by simp [boxesR, listsR, csR, renC, keyC, optK, fnd, envR, St.get, keyPV, keyV1, renPV, renV1, hasKey, made_zero, e1] <;> omega)⟩
      · simp -implicitDefEqProofs only [h1, go_sem]
        have e1 := linesFrom_miss1 (b := b) (k := (holesOf b)[i]) (m := m) (by omega)
        exact ⟨by omega, m + 1, by omega, by omega, weak_of (fun i => i) (fun i => i) rfl ⟨by simp [boxesR, listsR, csR, renC, keyC, optK, fnd, envR, St.get, keyPV, keyV1, renPV, renV1, hasKey, made_zero, e1] <;> omega, by simp [boxesR, listsR, csR, renC, keyC, optK, fnd, envR, St.get, keyPV, keyV1, renPV, renV1, hasKey, made_zero, e1] <;> omega, by simp [boxesR, listsR, csR, renC, keyC, optK, fnd, envR, St.get, keyPV, keyV1, renPV, renV1, hasKey, made_zero, e1] <;> omega, by simp [boxesR, listsR, csR, renC, keyC, optK, fnd, envR, St.get, keyPV, keyV1, renPV, renV1, hasKey, made_zero, e1] <;> omega, by simp [boxesR, listsR, csR, renC, keyC, optK, fnd, envR, St.get, keyPV, keyV1, renPV, renV1, hasKey, made_zero, e1] <;> omega⟩ (by simp [boxesR, listsR, csR, renC, keyC, optK, fnd, envR, St.get, keyPV, keyV1, renPV, renV1, hasKey, made_zero, e1] <;> omega)⟩
    · have e : m = 4 := by omega
      subst e
      simp -implicitDefEqProofs only [go_sem]
      exact ⟨by omega, i + 1, by omega, by omega, weak_of (fun i => i) (fun i => i) rfl ⟨by simp [boxesR, listsR, csR, renC, keyC, optK, fnd, envR, St.get, keyPV, keyV1, renPV, renV1, hasKey, made_zero, linesN_step hlt] <;> omega, by simp [boxesR, listsR, csR, renC, keyC, optK, fnd, envR, St.get, keyPV, keyV1, renPV, renV1, hasKey, made_zero, linesN_step hlt] <;> omega, by simp [boxesR, listsR, csR, renC, keyC, optK, fnd, envR, St.get, keyPV, keyV1, renPV, renV1, hasKey, made_zero, linesN_step hlt] <;> omega, by simp [boxesR, listsR, csR, renC, keyC, optK, fnd, envR, St.get, keyPV, keyV1, renPV, renV1, hasKey, made_zero, linesN_step hlt] <;> omega, by simp [boxesR, listsR, csR, renC, keyC, optK, fnd, envR, St.get, keyPV, keyV1, renPV, renV1, hasKey, made_zero, linesN_step hlt] <;> omega⟩ (by simp [boxesR, listsR, csR, renC, keyC, optK, fnd, envR, St.get, keyPV, keyV1, renPV, renV1, hasKey, made_zero, linesN_step hlt] <;> omega)⟩
  · have e : i = (holesOf b).length := by omega
    subst e
    simp -implicitDefEqProofs only [linesN_end, go_sem]
    exact fin_of (fun i => i) (fun i => 9) ⟨by simp [boxesR, listsR, csR, renC, keyC, optK, fnd, envR, St.get, keyPV, keyV1, renPV, renV1, hasKey, made_zero] <;> omega, by simp [boxesR, listsR, csR, renC, keyC, optK, fnd, envR, St.get, keyPV, keyV1, renPV, renV1, hasKey, made_zero] <;> omega, by simp [boxesR, listsR, csR, renC, keyC, optK, fnd, envR, St.get, keyPV, keyV1, renPV, renV1, hasKey, made_zero] <;> omega, by simp [boxesR, listsR, csR, renC, keyC, optK, fnd, envR, St.get, keyPV, keyV1, renPV, renV1, hasKey, made_zero] <;> omega, by simp [boxesR, listsR, csR, renC, keyC, optK, fnd, envR, St.get, keyPV, keyV1, renPV, renV1, hasKey, made_zero] <;> omega⟩ (by simp [boxesR, listsR, csR, renC, keyC, optK, fnd, envR, St.get, keyPV, keyV1, renPV, renV1, hasKey, made_zero] <;> omega) rfl
theorem linesOf_len {b : Brd} : (linesOf b).length ≤ 196 := by
  have h1 := linesN_len (b := b) (i := (holesOf b).length)
  have h2 := holes_len (b := b)
  rw [linesN_end] at h1
  omega
def cntL (p : Ln → Bool) (ls : List Ln) (i : Nat) : Nat := ((ls.take i).filter p).length
end Go.Proofs.YtmgfndejfeconaaGreatDoor
namespace Go.Proofs.YtmgfndejfeconaaGreatDoor
open Go.PL
set_option linter.unusedSimpArgs false
def degreeOf (b : Brd) (k : Int) : Int := if hasHole b k = true then (cntL (fun l => decide (l.f = k)) (linesOf b) (linesOf b).length : Int) else -1
def overCount (b : Brd) (k : Int) : Int := if hasHole b k = true then (cntL (fun l => decide (l.o = k)) (linesOf b) (linesOf b).length : Int) else -1
end Go.Proofs.YtmgfndejfeconaaGreatDoor
namespace Go.Proofs.YtmgfndejfeconaaGreatDoor
open Go.PL
set_option linter.unusedSimpArgs false
/-! ### sets of numbers as bits -/
def cardN : Nat → Nat → Nat
  | 0, _ => 0
  | n + 1, s => cardN n s + if s.testBit n = true then 1 else 0
theorem bitAt_nat {s j : Nat} : bitAt (s : Int) (j : Int) = s.testBit j := by
  unfold bitAt
  have e : ((s : Int) / 2 ^ (j : Int).toNat).toNat = s / 2 ^ j := by
    have : (s : Int) / 2 ^ (j : Int).toNat = ((s / 2 ^ j : Nat) : Int) := by simp
    rw [this, Int.toNat_natCast]
  rw [e, Nat.and_one_is_mod, Nat.testBit_eq_decide_div_mod_eq]
  by_cases h : s / 2 ^ j % 2 = 1
  · simp [h]
  · have h0 : s / 2 ^ j % 2 = 0 := by omega
    simp [h0]
theorem bitAt_int {s : Nat} {x : Int} (h : 0 ≤ x) : bitAt (s : Int) x = s.testBit x.toNat := by
  rw [← bitAt_nat, Int.toNat_of_nonneg h]
@[go_sem] theorem pow_toNat {n : Nat} : ((2 : Int) ^ n).toNat = 2 ^ n := by
  have : (2 : Int) ^ n = ((2 ^ n : Nat) : Int) := by simp
  rw [this, Int.toNat_natCast]
/-! ### where the lines lead -/
inductive Reach (ls : List Ln) (k : Int) : Int → Prop where
  | refl : Reach ls k k
  | step (l : Ln) : l ∈ ls → Reach ls k l.f → Reach ls k l.t
theorem mem_lines {b : Brd} {l : Ln} (h : l ∈ linesOf b) : boardOk b = true ∧ hasHole b l.f = true ∧ hasHole b l.o = true ∧ hasHole b l.t = true := by
  simp only [linesOf, List.mem_flatMap, linesFrom, List.mem_filterMap, lineAt] at h
  obtain ⟨k, hk, w, _, hl⟩ := h
  split at hl
  · rename_i hc
    simp only [Option.some.injEq] at hl
    subst hl
    obtain ⟨hb, hh, _⟩ := mem_holes hk
    exact ⟨hb, hh, (step_hole hb hc.1).1, (step_hole hb hc.2).1⟩
  · cases hl
def IsPart (b : Brd) (k : Int) (s : Nat) : Prop := ∀ j : Nat, s.testBit j = true ↔ Reach (linesOf b) k (j : Int)
noncomputable def partOf (b : Brd) (k : Int) : Int := if hasHole b k = true then (by
  classical exact if h : ∃ s, IsPart b k s then ((h.choose : Nat) : Int) else 0) else -1
structure Bfs (b : Brd) (k : Int) (part : Nat) (list : List Int) (i : Nat) : Prop where
  lt : part < 2 ^ 49
  len : list.length = cardN 49 part
  mem : ∀ x ∈ list, 0 ≤ x ∧ x ≤ 48 ∧ Reach (linesOf b) k x
  bits : ∀ j, part.testBit j = true → (j : Int) ∈ list
  k0 : part.testBit k.toNat = true
  le : i ≤ list.length
  done : ∀ x ∈ list.take i, ∀ l ∈ linesOf b, l.f = x → part.testBit l.t.toNat = true
end Go.Proofs.YtmgfndejfeconaaGreatDoor
