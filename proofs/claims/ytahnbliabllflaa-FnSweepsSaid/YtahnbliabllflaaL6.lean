/-
  What the functions on boards compute: the list of lines.
  What the functions that count lines through a hole compute.
  What the functions that find a part of a board compute: the set of holes that lines lead to.
  What the functions compute that judge a position and a puzzle, and those that make a game of a puzzle.
  What the functions compute that judge a puzzle and make a game of it.
  What the functions compute that make a new game of a puzzle.
  The geometry of lines: a step in coordinates, lines backwards, three holes that differ.
-/
import Derived.Test.YtahnbliabllflaaL1
namespace Go.Proofs.Ytahnbliabllflaa
open Go.PL
set_option linter.unusedSimpArgs false
structure Ln where
  f : Int
  o : Int
  t : Int
def lineV (l : Ln) : Value := .agg #[.int .i64 l.f, .int .i64 l.o, .int .i64 l.t]
abbrev lineC (l : Ln) : List C := [.v (.int .i64 l.f), .v (.int .i64 l.o), .v (.int .i64 l.t)]
def lineAt (b : Brd) (k way : Int) : Option Ln :=
  if 0 ≤ stepTo b k way ∧ 0 ≤ stepTo b (stepTo b k way) way then some ⟨k, stepTo b k way, stepTo b (stepTo b k way) way⟩ else none
def linesFrom (b : Brd) (k : Int) (m : Nat) : List Ln := (List.range m).filterMap (fun (w : Nat) => lineAt b k (w : Int))
theorem linesFrom_zero {b : Brd} {k : Int} : linesFrom b k 0 = [] := rfl
theorem linesFrom_hit {b : Brd} {k : Int} {m : Nat} (h1 : 0 ≤ stepTo b k m) (h2 : 0 ≤ stepTo b (stepTo b k m) m) : linesFrom b k (m + 1) = linesFrom b k m ++ [⟨k, stepTo b k m, stepTo b (stepTo b k m) m⟩] := by
  simp [linesFrom, List.range_succ, List.filterMap_append, lineAt, h1, h2]
theorem linesFrom_miss1 {b : Brd} {k : Int} {m : Nat} (h1 : ¬ 0 ≤ stepTo b k m) : linesFrom b k (m + 1) = linesFrom b k m := by
  simp [linesFrom, List.range_succ, List.filterMap_append, lineAt, h1]
theorem linesFrom_miss2 {b : Brd} {k : Int} {m : Nat} (h1 : ¬ 0 ≤ stepTo b (stepTo b k m) m) : linesFrom b k (m + 1) = linesFrom b k m := by
  simp [linesFrom, List.range_succ, List.filterMap_append, lineAt, h1]
theorem linesFrom_len {b : Brd} {k : Int} {m : Nat} : (linesFrom b k m).length ≤ m := by
  have := List.length_filterMap_le (fun (w : Nat) => lineAt b k (w : Int)) (List.range m)
  simpa [linesFrom] using this
def linesN (b : Brd) (i : Nat) : List Ln := ((holesOf b).take i).flatMap (fun k => linesFrom b k 4)
def linesOf (b : Brd) : List Ln := (holesOf b).flatMap (fun k => linesFrom b k 4)
theorem linesN_zero {b : Brd} : linesN b 0 = [] := by simp [linesN]
theorem linesN_end {b : Brd} : linesN b (holesOf b).length = linesOf b := by simp [linesN, linesOf]
theorem linesN_step {b : Brd} {i : Nat} (h : i < (holesOf b).length) : linesN b (i + 1) = linesN b i ++ linesFrom b (holesOf b)[i] 4 := by
  unfold linesN
  rw [List.take_succ_eq_append_getElem h, List.flatMap_append]
  simp
theorem linesN_len {b : Brd} : ∀ {i : Nat}, (linesN b i).length ≤ 4 * i
  | 0 => by simp [linesN_zero]
  | i + 1 => by
    by_cases h : i < (holesOf b).length
    · have h1 := linesN_len (b := b) (i := i)
      have h2 := linesFrom_len (b := b) (k := (holesOf b)[i]) (m := 4)
      rw [linesN_step h, List.length_append]
      omega
    · have : linesN b (i + 1) = linesN b i := by
        simp only [linesN]
        rw [List.take_of_length_le (by omega), List.take_of_length_le (by omega)]
      have h1 := linesN_len (b := b) (i := i)
      rw [this]; omega
theorem side_step {b : Brd} {k way : Int} (h : hasHole b k = true) : sideTo b k way = stepTo b k way := by simp [sideTo, h]
theorem side_two {b : Brd} {k way : Int} (hb : boardOk b = true) : sideTo b (stepTo b k way) way = if 0 ≤ stepTo b k way then stepTo b (stepTo b k way) way else -1 := by
  split
  · rename_i h
    rw [side_step (step_hole hb h).1]
  · rename_i h
    have : hasHole b (stepTo b k way) = false := by
      cases hh : hasHole b (stepTo b k way) with
      | false => rfl
      | true => exact absurd (hole_bd hh).2.1 h
    simp [sideTo, this]
theorem LinesOf_c (d : Nat) (b : Brd) : PC Try.prog 42 [] [.a (brdC b)] (.s (.c (.o d))) ⟨[], [(d, ⟨35, 3, (linesOf b).map lineV, false, true⟩)]⟩ := by
  refine pc_of Try.func42 rfl (by kernel_rfl) _ Try.ntmps42 (by simp) ?_
  simp -implicitDefEqProofs only [go_sem]
  refine callL (HolesOf_c 11 b) rfl rfl rfl ?_
  simp -implicitDefEqProofs only [go_sem]
  refine loop_step (X := Nat) (fun i => ⟨48, [(1, .s (.c (.p 1 0))), (3, vO 9), (4, vO 11), (5, vN i)], ⟨[(1, brdC b)], [(9, ⟨35, 3, (linesN b i).map lineV, false, true⟩), (11, ⟨3, 1, (holesOf b).map iV, false, true⟩)]⟩⟩)
    (fun i => i ≤ (holesOf b).length) (fun i => (holesOf b).length - i) 0 (by omega) (weak_of (fun i => i) (fun i => i) rfl ⟨by simp [linesN_zero] <;> omega, by simp [linesN_zero] <;> omega, by simp [linesN_zero] <;> omega, by simp [linesN_zero] <;> omega, by simp [linesN_zero] <;> omega⟩ (by simp [linesN_zero] <;> omega)) (fun i hi => ?_)
  have hl := holes_len (b := b)
  simp -implicitDefEqProofs only [go_sem]
  refine if_splitP (fun h => ?_) (fun h => ?_)
  · have hlt : i < (holesOf b).length := by omega
    have hg := map_get (f := iV) hlt
    obtain ⟨hb, hh, hk0, hk1⟩ := mem_holes (List.getElem_mem hlt)
    simp -implicitDefEqProofs only [go_sem]
    refine loop_step (X := Nat) (fun m => ⟨48, [(1, .s (.c (.p 1 0))), (3, vO 9), (4, vO 11), (5, vN i), (6, vN m)], ⟨[(1, brdC b)], [(9, ⟨35, 3, (linesN b i ++ linesFrom b (holesOf b)[i] m).map lineV, false, true⟩), (11, ⟨3, 1, (holesOf b).map iV, false, true⟩)]⟩⟩)
      (fun m => m ≤ 4) (fun m => 4 - m) 0 (by omega) (weak_of (fun i => i) (fun i => i) rfl ⟨by simp [linesFrom_zero] <;> omega, by simp [linesFrom_zero] <;> omega, by simp [linesFrom_zero] <;> omega, by simp [linesFrom_zero] <;> omega, by simp [linesFrom_zero] <;> omega⟩ (by simp [linesFrom_zero] <;> omega)) (fun m hm => ?_)
    have l1 := linesN_len (b := b) (i := i)
    have l2 := linesFrom_len (b := b) (k := (holesOf b)[i]) (m := m)
    have l3 : (linesN b i ++ linesFrom b (holesOf b)[i] m).length ≤ 4 * i + m := by rw [List.length_append]; omega
    simp -implicitDefEqProofs only [go_sem]
    refine if_splitP (fun h => ?_) (fun h => ?_)
    · simp -implicitDefEqProofs only [go_sem]
      refine draw_step Try.pl_follows (by kernel_rfl) ?_
      simp -implicitDefEqProofs only [hg, hlt, go_sem]
      refine callD (l03Step_c b _ m hb hk0 hk1 (by omega) (by omega)) rfl rfl rfl ?_
      simp -implicitDefEqProofs only [go_sem]
      refine if_splitP (fun h1 => ?_) (fun h1 => ?_)
      · simp -implicitDefEqProofs only [go_sem]
        have e1 := linesFrom_miss1 (b := b) (k := (holesOf b)[i]) (m := m) (by omega)
        exact ⟨by omega, m + 1, by omega, by omega, weak_of (fun i => i) (fun i => i) rfl ⟨by simp [e1] <;> omega, by simp [e1] <;> omega, by simp [e1] <;> omega, by simp [e1] <;> omega, by simp [e1] <;> omega⟩ (by simp [e1] <;> omega)⟩
      · have hs := step_hole hb (show 0 ≤ stepTo b (holesOf b)[i] m by omega)
        simp -implicitDefEqProofs only [go_sem]
        refine callS (l03Step_c b _ m hb (by omega) hs.2 (by omega) (by omega)) rfl rfl rfl ?_
        simp -implicitDefEqProofs only [go_sem]
        refine if_splitP (fun h2 => ?_) (fun h2 => ?_)
        · simp -implicitDefEqProofs only [hg, hlt, go_sem]
          have e1 := linesFrom_hit (b := b) (k := (holesOf b)[i]) (m := m) (by omega) h2
          exact ⟨by omega, by omega, m + 1, by omega, by omega, weak_of (fun i => i) (fun i => if i = 9 then 46 else i) rfl ⟨by simp [e1, lineV] <;> omega, by simp [e1, lineV] <;> omega, by simp [e1, lineV] <;> omega, by simp [e1, lineV] <;> omega, by simp [e1, lineV] <;> omega⟩ (by simp [e1, lineV] <;> omega)⟩
        · simp -implicitDefEqProofs only [go_sem]
          have e1 := linesFrom_miss2 (b := b) (k := (holesOf b)[i]) (m := m) (by omega)
          exact ⟨by omega, m + 1, by omega, by omega, weak_of (fun i => i) (fun i => i) rfl ⟨by simp [e1] <;> omega, by simp [e1] <;> omega, by simp [e1] <;> omega, by simp [e1] <;> omega, by simp [e1] <;> omega⟩ (by simp [e1] <;> omega)⟩
    · have e : m = 4 := by omega
      subst e
      simp -implicitDefEqProofs only [go_sem]
      exact ⟨by omega, i + 1, by omega, by omega, weak_of (fun i => i) (fun i => i) rfl ⟨by simp [linesN_step hlt] <;> omega, by simp [linesN_step hlt] <;> omega, by simp [linesN_step hlt] <;> omega, by simp [linesN_step hlt] <;> omega, by simp [linesN_step hlt] <;> omega⟩ (by simp [linesN_step hlt] <;> omega)⟩
  · have e : i = (holesOf b).length := by omega
    subst e
    simp -implicitDefEqProofs only [linesN_end, go_sem]
    exact fin_of (fun i => i) (fun i => 9) ⟨by simp <;> omega, by simp <;> omega, by simp <;> omega, by simp <;> omega, by simp <;> omega⟩ (by simp <;> omega) rfl
theorem iLinesOf_c (d : Nat) (b : Brd) : PC Try.prog 37 [] [.a (brdC b)] (.s (.c (.o d))) ⟨[], [(d, ⟨35, 3, (linesOf b).map lineV, false, true⟩)]⟩ := by
  refine pc_of Try.func37 rfl (by kernel_rfl) _ Try.ntmps37 (by simp) ?_
  simp -implicitDefEqProofs only [go_sem]
  refine callL (iHolesOf_c 11 b) rfl rfl rfl ?_
  simp -implicitDefEqProofs only [go_sem]
  refine loop_step (X := Nat) (fun i => ⟨40, [(1, .s (.c (.p 1 0))), (3, vO 9), (11, vO 11), (12, vN (holesOf b).length), (13, vN i)], ⟨[(1, brdC b)], [(9, ⟨35, 3, (linesN b i).map lineV, false, true⟩), (11, ⟨3, 1, (holesOf b).map iV, false, true⟩)]⟩⟩)
    (fun i => i ≤ (holesOf b).length) (fun i => (holesOf b).length - i) 0 (by omega) (weak_of (fun i => i) (fun i => i) rfl ⟨by simp [linesN_zero] <;> omega, by simp [linesN_zero] <;> omega, by simp [linesN_zero] <;> omega, by simp [linesN_zero] <;> omega, by simp [linesN_zero] <;> omega⟩ (by simp [linesN_zero] <;> omega)) (fun i hi => ?_)
  have hl := holes_len (b := b)
  simp -implicitDefEqProofs only [go_sem]
  refine if_splitP (fun h => ?_) (fun h => ?_)
  · have hlt : i < (holesOf b).length := by omega
    have hg := map_get (f := iV) hlt
    obtain ⟨hb, hh, hk0, hk1⟩ := mem_holes (List.getElem_mem hlt)
    simp -implicitDefEqProofs only [hg, hlt, go_sem]
    refine loop_step (X := Nat) (fun m => ⟨40, [(1, .s (.c (.p 1 0))), (3, vO 9), (11, vO 11), (12, vN (holesOf b).length), (13, vN i), (5, vN (holesOf b)[i]), (6, vN m)], ⟨[(1, brdC b)], [(9, ⟨35, 3, (linesN b i ++ linesFrom b (holesOf b)[i] m).map lineV, false, true⟩), (11, ⟨3, 1, (holesOf b).map iV, false, true⟩)]⟩⟩)
      (fun m => m ≤ 4) (fun m => 4 - m) 0 (by omega) (weak_of (fun i => i) (fun i => i) rfl ⟨by simp [linesFrom_zero] <;> omega, by simp [linesFrom_zero] <;> omega, by simp [linesFrom_zero] <;> omega, by simp [linesFrom_zero] <;> omega, by simp [linesFrom_zero] <;> omega⟩ (by simp [linesFrom_zero] <;> omega)) (fun m hm => ?_)
    have l1 := linesN_len (b := b) (i := i)
    have l2 := linesFrom_len (b := b) (k := (holesOf b)[i]) (m := m)
    have l3 : (linesN b i ++ linesFrom b (holesOf b)[i] m).length ≤ 4 * i + m := by rw [List.length_append]; omega
    simp -implicitDefEqProofs only [go_sem]
    refine if_splitP (fun h => ?_) (fun h => ?_)
    · simp -implicitDefEqProofs only [go_sem]
      refine callS (beside_c b _ m (by omega) (by omega)) rfl rfl rfl ?_
      simp -implicitDefEqProofs only [side_step hh, go_sem]
      refine callS (beside_c b _ m (by omega) (by omega)) rfl rfl rfl ?_
      simp -implicitDefEqProofs only [side_two hb, go_sem]
      by_cases h1 : 0 ≤ stepTo b (holesOf b)[i] m
      · simp -implicitDefEqProofs only [h1, go_sem]
        refine if_splitP (fun h2 => ?_) (fun h2 => ?_)
        · simp -implicitDefEqProofs only [go_sem]
          have e1 := linesFrom_hit (b := b) (k := (holesOf b)[i]) (m := m) (by omega) h2
          exact ⟨by omega, by omega, m + 1, by omega, by omega, weak_of (fun i => i) (fun i => if i = 9 then 37 else i) rfl ⟨by simp [e1, lineV] <;> omega, by simp [e1, lineV] <;> omega, by simp [e1, lineV] <;> omega, by simp [e1, lineV] <;> omega, by simp [e1, lineV] <;> omega⟩ (by simp [e1, lineV] <;> omega)⟩
        · simp -implicitDefEqProofs only [go_sem]
          have e1 := linesFrom_miss2 (b := b) (k := (holesOf b)[i]) (m := m) (by omega)
          exact ⟨by omega, m + 1, by omega, by omega, weak_of (fun i => i) (fun i => i) rfl ⟨by simp [e1] <;> omega, by simp [e1] <;> omega, by simp [e1] <;> omega, by simp [e1] <;> omega, by simp [e1] <;> omega⟩ (by simp [e1] <;> omega)⟩
      · simp -implicitDefEqProofs only [h1, go_sem]
        have e1 := linesFrom_miss1 (b := b) (k := (holesOf b)[i]) (m := m) (by omega)
        exact ⟨by omega, m + 1, by omega, by omega, weak_of (fun i => i) (fun i => i) rfl ⟨by simp [e1] <;> omega, by simp [e1] <;> omega, by simp [e1] <;> omega, by simp [e1] <;> omega, by simp [e1] <;> omega⟩ (by simp [e1] <;> omega)⟩
    · have e : m = 4 := by omega
      subst e
      simp -implicitDefEqProofs only [go_sem]
      exact ⟨by omega, i + 1, by omega, by omega, weak_of (fun i => i) (fun i => i) rfl ⟨by simp [linesN_step hlt] <;> omega, by simp [linesN_step hlt] <;> omega, by simp [linesN_step hlt] <;> omega, by simp [linesN_step hlt] <;> omega, by simp [linesN_step hlt] <;> omega⟩ (by simp [linesN_step hlt] <;> omega)⟩
  · have e : i = (holesOf b).length := by omega
    subst e
    simp -implicitDefEqProofs only [linesN_end, go_sem]
    exact fin_of (fun i => i) (fun i => 9) ⟨by simp <;> omega, by simp <;> omega, by simp <;> omega, by simp <;> omega, by simp <;> omega⟩ (by simp <;> omega) rfl
theorem linesOf_len {b : Brd} : (linesOf b).length ≤ 196 := by
  have h1 := linesN_len (b := b) (i := (holesOf b).length)
  have h2 := holes_len (b := b)
  rw [linesN_end] at h1
  omega
def cntL (p : Ln → Bool) (ls : List Ln) (i : Nat) : Nat := ((ls.take i).filter p).length
theorem cntL_le {p : Ln → Bool} {ls : List Ln} {i : Nat} : cntL p ls i ≤ i := by
  have h1 := List.length_filter_le p (ls.take i)
  have h2 : (ls.take i).length ≤ i := List.length_take_le ..
  unfold cntL; omega
theorem cntL_hit {p : Ln → Bool} {ls : List Ln} {i : Nat} (hi : i < ls.length) (he : p ls[i] = true) : cntL p ls (i + 1) = cntL p ls i + 1 := by
  unfold cntL
  rw [List.take_succ_eq_append_getElem hi, List.filter_append]
  simp [he]
theorem cntL_miss {p : Ln → Bool} {ls : List Ln} {i : Nat} (hi : i < ls.length) (he : p ls[i] = false) : cntL p ls (i + 1) = cntL p ls i := by
  unfold cntL
  rw [List.take_succ_eq_append_getElem hi, List.filter_append]
  simp [he]
theorem cntL_zero {p : Ln → Bool} {ls : List Ln} : cntL p ls 0 = 0 := by simp [cntL]
end Go.Proofs.Ytahnbliabllflaa
namespace Go.Proofs.Ytahnbliabllflaa
open Go.PL
set_option linter.unusedSimpArgs false
theorem brd_of {cs : List C} (h : All2 TC [.z (.i .i64), .z (.i .i64), .z (.i .i64)] cs) : ∃ b : Brd, cs = brdC b := by
  obtain ⟨c1, r1, rfl, h1, g1⟩ := all2_cons h
  obtain ⟨c2, r2, rfl, h2, g2⟩ := all2_cons g1
  obtain ⟨c3, r3, rfl, h3, g3⟩ := all2_cons g2
  obtain rfl := all2_nil g3
  obtain ⟨a, rfl, _⟩ := tc_i h1
  obtain ⟨b, rfl, _⟩ := tc_i h2
  obtain ⟨c, rfl, _⟩ := tc_i h3
  exact ⟨⟨a, b, c⟩, rfl⟩
def degreeOf (b : Brd) (k : Int) : Int := if hasHole b k = true then (cntL (fun l => decide (l.f = k)) (linesOf b) (linesOf b).length : Int) else -1
theorem DegreeOf_c (b : Brd) (k : Int) : PC Try.prog 47 [] [.a (brdC b), .c (.v (.int .i64 k))] (.s (.c (.v (.int .i64 (degreeOf b k))))) ⟨[], []⟩ := by
  refine pc_of Try.func47 rfl (by kernel_rfl) _ Try.ntmps47 (by simp) ?_
  simp -implicitDefEqProofs only [go_sem]
  refine callS (HasHole_c b k) rfl rfl rfl ?_
  simp -implicitDefEqProofs only [go_sem]
  refine if_splitN (fun hh => ?_) (fun hh => ?_)
  · simp -implicitDefEqProofs only [go_sem]
    exact fin_scal rfl (by simp [degreeOf, hh])
  simp -implicitDefEqProofs only [go_sem]
  refine callL (LinesOf_c 13 b) rfl rfl rfl ?_
  simp -implicitDefEqProofs only [go_sem]
  have hl := linesOf_len (b := b)
  refine loop_step (X := Nat) (fun i => ⟨30, [(1, vN k), (6, vO 13), (7, vN i), (5, vN (cntL (fun l => decide (l.f = k)) (linesOf b) i))], ⟨[], [(13, ⟨35, 3, (linesOf b).map lineV, false, true⟩)]⟩⟩)
    (fun i => i ≤ (linesOf b).length) (fun i => (linesOf b).length - i) 0 (by omega) (weak_of (fun i => i) (fun i => i) rfl ⟨by simp [cntL_zero] <;> omega, by simp [cntL_zero] <;> omega, by simp [cntL_zero] <;> omega, by simp [cntL_zero] <;> omega, by simp [cntL_zero] <;> omega⟩ (by simp [cntL_zero] <;> omega)) (fun i hi => ?_)
  have hc := cntL_le (p := fun l => decide (l.f = k)) (ls := linesOf b) (i := i)
  simp -implicitDefEqProofs only [go_sem]
  refine if_splitP (fun h => ?_) (fun h => ?_)
  · have hlt : i < (linesOf b).length := by omega
    have hg := map_get (f := lineV) hlt
    simp -implicitDefEqProofs only [hg, hlt, lineV, go_sem]
    refine if_splitP (fun he => ?_) (fun he => ?_)
    · have e1 := cntL_hit (p := fun l => decide (l.f = k)) hlt (by simpa using he)
      simp -implicitDefEqProofs only [go_sem]
      exact ⟨by omega, by omega, i + 1, by omega, by omega, weak_of (fun i => i) (fun i => i) rfl ⟨by simp [e1] <;> omega, by simp [e1] <;> omega, by simp [e1] <;> omega, by simp [e1] <;> omega, by simp [e1] <;> omega⟩ (by simp [e1] <;> omega)⟩
    · have e1 := cntL_miss (p := fun l => decide (l.f = k)) hlt (by simpa using he)
      simp -implicitDefEqProofs only [go_sem]
      exact ⟨by omega, i + 1, by omega, by omega, weak_of (fun i => i) (fun i => i) rfl ⟨by simp [e1] <;> omega, by simp [e1] <;> omega, by simp [e1] <;> omega, by simp [e1] <;> omega, by simp [e1] <;> omega⟩ (by simp [e1] <;> omega)⟩
  · have e : i = (linesOf b).length := by omega
    subst e
    simp -implicitDefEqProofs only [go_sem]
    exact fin_scal rfl (by simp [degreeOf, hh])
def overCount (b : Brd) (k : Int) : Int := if hasHole b k = true then (cntL (fun l => decide (l.o = k)) (linesOf b) (linesOf b).length : Int) else -1
theorem OverCount_c (b : Brd) (k : Int) : PC Try.prog 46 [] [.a (brdC b), .c (.v (.int .i64 k))] (.s (.c (.v (.int .i64 (overCount b k))))) ⟨[], []⟩ := by
  refine pc_of Try.func46 rfl (by kernel_rfl) _ Try.ntmps46 (by simp) ?_
  simp -implicitDefEqProofs only [go_sem]
  refine callS (HasHole_c b k) rfl rfl rfl ?_
  simp -implicitDefEqProofs only [go_sem]
  refine if_splitN (fun hh => ?_) (fun hh => ?_)
  · simp -implicitDefEqProofs only [go_sem]
    exact fin_scal rfl (by simp [overCount, hh])
  simp -implicitDefEqProofs only [go_sem]
  refine callL (LinesOf_c 13 b) rfl rfl rfl ?_
  simp -implicitDefEqProofs only [go_sem]
  have hl := linesOf_len (b := b)
  refine loop_step (X := Nat) (fun i => ⟨30, [(1, vN k), (6, vO 13), (7, vN i), (5, vN (cntL (fun l => decide (l.o = k)) (linesOf b) i))], ⟨[], [(13, ⟨35, 3, (linesOf b).map lineV, false, true⟩)]⟩⟩)
    (fun i => i ≤ (linesOf b).length) (fun i => (linesOf b).length - i) 0 (by omega) (weak_of (fun i => i) (fun i => i) rfl ⟨by simp [cntL_zero] <;> omega, by simp [cntL_zero] <;> omega, by simp [cntL_zero] <;> omega, by simp [cntL_zero] <;> omega, by simp [cntL_zero] <;> omega⟩ (by simp [cntL_zero] <;> omega)) (fun i hi => ?_)
  have hc := cntL_le (p := fun l => decide (l.o = k)) (ls := linesOf b) (i := i)
  simp -implicitDefEqProofs only [go_sem]
  refine if_splitP (fun h => ?_) (fun h => ?_)
  · have hlt : i < (linesOf b).length := by omega
    have hg := map_get (f := lineV) hlt
    simp -implicitDefEqProofs only [hg, hlt, lineV, go_sem]
    refine if_splitP (fun he => ?_) (fun he => ?_)
    · have e1 := cntL_hit (p := fun l => decide (l.o = k)) hlt (by simpa using he)
      simp -implicitDefEqProofs only [go_sem]
      exact ⟨by omega, by omega, i + 1, by omega, by omega, weak_of (fun i => i) (fun i => i) rfl ⟨by simp [e1] <;> omega, by simp [e1] <;> omega, by simp [e1] <;> omega, by simp [e1] <;> omega, by simp [e1] <;> omega⟩ (by simp [e1] <;> omega)⟩
    · have e1 := cntL_miss (p := fun l => decide (l.o = k)) hlt (by simpa using he)
      simp -implicitDefEqProofs only [go_sem]
      exact ⟨by omega, i + 1, by omega, by omega, weak_of (fun i => i) (fun i => i) rfl ⟨by simp [e1] <;> omega, by simp [e1] <;> omega, by simp [e1] <;> omega, by simp [e1] <;> omega, by simp [e1] <;> omega⟩ (by simp [e1] <;> omega)⟩
  · have e : i = (linesOf b).length := by omega
    subst e
    simp -implicitDefEqProofs only [go_sem]
    exact fin_scal rfl (by simp [overCount, hh])
end Go.Proofs.Ytahnbliabllflaa
namespace Go.Proofs.Ytahnbliabllflaa
open Go.PL
set_option linter.unusedSimpArgs false
/-! ### sets of numbers as bits -/
def cardN : Nat → Nat → Nat
  | 0, _ => 0
  | n + 1, s => cardN n s + if s.testBit n = true then 1 else 0
theorem cardN_le : ∀ {n s : Nat}, cardN n s ≤ n
  | 0, _ => by simp [cardN]
  | n + 1, s => by
    have := cardN_le (n := n) (s := s)
    simp only [cardN]; split <;> omega
theorem cardN_add {s t : Nat} (h : s.testBit t = false) : ∀ {n : Nat}, cardN n (s ||| 2 ^ t) = cardN n s + if t < n then 1 else 0
  | 0 => by simp [cardN]
  | n + 1 => by
    have ih := cardN_add h (n := n)
    simp only [cardN, ih, Nat.testBit_or, Nat.testBit_two_pow]
    by_cases e : t = n
    · subst e
      simp [h]
    · have e1 : (t < n + 1) ↔ (t < n) := by omega
      simp only [e, decide_false, Bool.or_false, e1]
      omega
theorem cardN_mono {s s' : Nat} (h : ∀ j, s.testBit j = true → s'.testBit j = true) : ∀ {n : Nat}, cardN n s ≤ cardN n s'
  | 0 => by simp [cardN]
  | n + 1 => by
    have ih := cardN_mono h (n := n)
    simp only [cardN]
    by_cases e : s.testBit n = true
    · simp [e, h n e]; omega
    · simp [e]; omega
theorem cardN_lt {s s' : Nat} (h : ∀ j, s.testBit j = true → s'.testBit j = true) {j : Nat} (h1 : s.testBit j = false) (h2 : s'.testBit j = true) : ∀ {n : Nat}, j < n → cardN n s + 1 ≤ cardN n s'
  | 0, hj => by omega
  | n + 1, hj => by
    simp only [cardN]
    by_cases e : j = n
    · subst e
      have := cardN_mono h (n := j)
      simp [h1, h2]; omega
    · have ih := cardN_lt h h1 h2 (n := n) (by omega)
      by_cases e : s.testBit n = true
      · simp [e, h n e]; omega
      · simp [e]; omega
theorem bit_ne {s s' : Nat} (h : s' ≠ s) (hs : ∀ j, s.testBit j = true → s'.testBit j = true) : ∃ j, s.testBit j = false ∧ s'.testBit j = true := by
  apply Classical.byContradiction
  intro hn
  apply h
  apply Nat.eq_of_testBit_eq
  intro j
  cases h1 : s.testBit j with
  | true => exact hs j h1
  | false =>
    cases h2 : s'.testBit j with
    | false => rfl
    | true => exact absurd ⟨j, h1, h2⟩ hn
theorem bit_lt {s j n : Nat} (h : s < 2 ^ n) (hb : s.testBit j = true) : j < n := by
  apply Classical.byContradiction
  intro hn
  have : s < 2 ^ j := Nat.lt_of_lt_of_le h (Nat.pow_le_pow_right (by omega) (by omega))
  rw [Nat.testBit_lt_two_pow this] at hb
  cases hb
theorem bitAt_nat {s j : Nat} : bitAt (s : Int) (j : Int) = s.testBit j := by
  unfold bitAt
  have e : ((s : Int) / 2 ^ (j : Int).toNat).toNat = s / 2 ^ j := by
    have : (s : Int) / 2 ^ (j : Int).toNat = ((s / 2 ^ j : Nat) : Int) := by simp
    rw [this, Int.toNat_natCast]
  rw [e, Nat.and_one_is_mod, Nat.testBit_eq_decide_div_mod_eq]
  by_cases h : s / 2 ^ j % 2 = 1
  · simp [h]
  · have h0 : s / 2 ^ j % 2 = 0 := by omega
    simp [h0]
theorem bitAt_int {s : Nat} {x : Int} (h : 0 ≤ x) : bitAt (s : Int) x = s.testBit x.toNat := by
  rw [← bitAt_nat, Int.toNat_of_nonneg h]
@[go_sem] theorem pow_toNat {n : Nat} : ((2 : Int) ^ n).toNat = 2 ^ n := by
  have : (2 : Int) ^ n = ((2 ^ n : Nat) : Int) := by simp
  rw [this, Int.toNat_natCast]
/-! ### where the lines lead -/
inductive Reach (ls : List Ln) (k : Int) : Int → Prop where
  | refl : Reach ls k k
  | step (l : Ln) : l ∈ ls → Reach ls k l.f → Reach ls k l.t
theorem mem_lines {b : Brd} {l : Ln} (h : l ∈ linesOf b) : boardOk b = true ∧ hasHole b l.f = true ∧ hasHole b l.o = true ∧ hasHole b l.t = true := by
  simp only [linesOf, List.mem_flatMap, linesFrom, List.mem_filterMap, lineAt] at h
  obtain ⟨k, hk, w, _, hl⟩ := h
  split at hl
  · rename_i hc
    simp only [Option.some.injEq] at hl
    subst hl
    obtain ⟨hb, hh, _⟩ := mem_holes hk
    exact ⟨hb, hh, (step_hole hb hc.1).1, (step_hole hb hc.2).1⟩
  · cases hl
def IsPart (b : Brd) (k : Int) (s : Nat) : Prop := ∀ j : Nat, s.testBit j = true ↔ Reach (linesOf b) k (j : Int)
theorem isPart_uniq {b : Brd} {k : Int} {s s' : Nat} (h : IsPart b k s) (h' : IsPart b k s') : s = s' := by
  apply Nat.eq_of_testBit_eq
  intro j
  rw [Bool.eq_iff_iff, h j, h' j]
noncomputable def partOf (b : Brd) (k : Int) : Int := if hasHole b k = true then (by
  classical exact if h : ∃ s, IsPart b k s then ((h.choose : Nat) : Int) else 0) else -1
theorem partOf_eq {b : Brd} {k : Int} {s : Nat} (hh : hasHole b k = true) (h : IsPart b k s) : partOf b k = s := by
  have he : ∃ s, IsPart b k s := ⟨s, h⟩
  unfold partOf
  rw [if_pos hh, dif_pos he, isPart_uniq he.choose_spec h]
/-- a set that holds k, is closed under the lines, and holds only what they lead to -/
theorem isPart_of {b : Brd} {k : Int} (_ : hasHole b k = true) {s : Nat} (h0 : s.testBit k.toNat = true) (hr : ∀ j, s.testBit j = true → Reach (linesOf b) k (j : Int))
    (hc : ∀ l ∈ linesOf b, s.testBit l.f.toNat = true → s.testBit l.t.toNat = true) : IsPart b k s := by
  intro j
  refine ⟨hr j, fun h => ?_⟩
  have all : ∀ x, Reach (linesOf b) k x → s.testBit x.toNat = true := by
    intro x hx
    induction hx with
    | refl => exact h0
    | step l hl _ ih => exact hc l hl ih
  simpa using all _ h
theorem mem_line_bd {b : Brd} {l : Ln} (h : l ∈ linesOf b) : 0 ≤ l.f ∧ l.f ≤ 48 ∧ 0 ≤ l.t ∧ l.t ≤ 48 := by
  obtain ⟨_, h1, _, h3⟩ := mem_lines h
  have a := hole_bd h1
  have c := hole_bd h3
  exact ⟨a.2.1, a.2.2, c.2.1, c.2.2⟩
theorem or_lt {a c n : Nat} (h1 : a < 2 ^ n) (h2 : c < n) : a ||| 2 ^ c < 2 ^ n := Nat.or_lt_two_pow h1 (Nat.pow_lt_pow_right (by omega) h2)
structure Bfs (b : Brd) (k : Int) (part : Nat) (list : List Int) (i : Nat) : Prop where
  lt : part < 2 ^ 49
  len : list.length = cardN 49 part
  mem : ∀ x ∈ list, 0 ≤ x ∧ x ≤ 48 ∧ Reach (linesOf b) k x
  bits : ∀ j, part.testBit j = true → (j : Int) ∈ list
  k0 : part.testBit k.toNat = true
  le : i ≤ list.length
  done : ∀ x ∈ list.take i, ∀ l ∈ linesOf b, l.f = x → part.testBit l.t.toNat = true
theorem bfs_start {b : Brd} {k : Int} (hk0 : 0 ≤ k) (hk1 : k ≤ 48) : Bfs b k (2 ^ k.toNat) [k] 0 := by
  refine ⟨Nat.pow_lt_pow_right (by omega) (by omega), ?_, ?_, ?_, by simp, by simp, by simp⟩
  · have := cardN_add (s := 0) (t := k.toNat) (by simp) (n := 49)
    rw [Nat.zero_or, if_pos (by omega)] at this
    have h0 : cardN 49 0 = 0 := by decide
    rw [this, h0]; rfl
  · intro x hx
    simp only [List.mem_singleton] at hx
    subst hx
    exact ⟨hk0, hk1, .refl⟩
  · intro j hj
    rw [Nat.testBit_two_pow] at hj
    have : k.toNat = j := by simpa using hj
    rw [← this, Int.toNat_of_nonneg hk0]
    simp
theorem bfs_add {b : Brd} {k : Int} {part : Nat} {list : List Int} {i : Nat} (h : Bfs b k part list i) {l : Ln} (hl : l ∈ linesOf b) (hf : l.f ∈ list) (ht : part.testBit l.t.toNat = false) :
    Bfs b k (part ||| 2 ^ l.t.toNat) (list ++ [l.t]) i := by
  obtain ⟨f0, f1, t0, t1⟩ := mem_line_bd hl
  refine ⟨or_lt h.lt (by omega), ?_, ?_, ?_, by simp [h.k0], ?_, ?_⟩
  · rw [cardN_add ht, if_pos (by omega), List.length_append, h.len]; rfl
  · intro x hx
    rcases List.mem_append.1 hx with hx | hx
    · exact h.mem x hx
    · simp only [List.mem_singleton] at hx
      subst hx
      exact ⟨t0, t1, .step _ hl (h.mem _ hf).2.2⟩
  · intro j hj
    simp only [Nat.testBit_or, Nat.testBit_two_pow, Bool.or_eq_true, decide_eq_true_eq] at hj
    rcases hj with hj | hj
    · exact List.mem_append_left _ (h.bits j hj)
    · rw [← hj, Int.toNat_of_nonneg t0]; simp
  · have := h.le; simp; omega
  · intro x hx l' hl' he
    rw [List.take_append_of_le_length h.le] at hx
    simp [h.done x hx l' hl' he]
theorem bfs_next {b : Brd} {k : Int} {part : Nat} {list : List Int} {i : Nat} (h : Bfs b k part list i) (hi : i < list.length) (hd : ∀ l ∈ linesOf b, l.f = list[i] → part.testBit l.t.toNat = true) : Bfs b k part list (i + 1) := by
  refine ⟨h.lt, h.len, h.mem, h.bits, h.k0, by omega, fun x hx => ?_⟩
  rw [List.take_succ_eq_append_getElem hi] at hx
  rcases List.mem_append.1 hx with hx | hx
  · exact h.done x hx
  · simp only [List.mem_singleton] at hx
    subst hx
    exact hd
theorem bfs_end {b : Brd} {k : Int} {part : Nat} {list : List Int} (hh : hasHole b k = true) (h : Bfs b k part list list.length) : partOf b k = part := by
  refine partOf_eq hh (isPart_of hh h.k0 (fun j hj => (h.mem _ (h.bits j hj)).2.2) fun l hl hf => ?_)
  obtain ⟨f0, _, _, _⟩ := mem_line_bd hl
  have := h.bits _ hf
  rw [Int.toNat_of_nonneg f0] at this
  exact h.done l.f (by rw [List.take_length]; exact this) l hl rfl
end Go.Proofs.Ytahnbliabllflaa
namespace Go.Proofs.Ytahnbliabllflaa
open Go.PL
set_option linter.unusedSimpArgs false
structure Pz where
  b : Brd
  s : Int
  g : Int
abbrev pzC (x : Pz) : List C := [.v (.int .i64 x.b.w), .v (.int .i64 x.b.h), .v (.int .i64 x.b.n), .v (.int .i64 x.s), .v (.int .i64 x.g)]
def isSmall (b : Brd) : Bool := boardOk b && decide (b.w * b.h ≤ 16)
/-- the pegs lie in holes -/
def sub (p n : Int) : Bool := decide (((p.toNat &&& n.toNat : Nat) : Int) = p)
def positionOk (b : Brd) (p : Int) : Bool := boardOk b && (decide (0 ≤ p) && sub p b.n)
theorem IsSmall_c (b : Brd) : PC Try.prog 40 [] [.a (brdC b)] (vB (isSmall b)) ⟨[], []⟩ := by
  refine pc_of Try.func40 rfl (by kernel_rfl) _ Try.ntmps40 (by simp) ?_
  simp -implicitDefEqProofs only [go_sem]
  refine callS (BoardOk_c b) rfl rfl rfl ?_
  simp -implicitDefEqProofs only [go_sem]
  refine grd_split (fun hb => ?_) (fun hb => ?_)
  · obtain ⟨w1, w2, h1, h2, m1, m2, n1, n2, n3⟩ := bok hb
    (repeat' (first | simp -implicitDefEqProofs only [hb, go_sem] | (refine And.intro ?_ ?_; omega) | (refine And.intro (shr_bd ?_ ?_) ?_; omega; omega) | refine sl_list rfl ?_ | refine sd_list rfl ?_ | refine sl_str ?_ | refine sd_str ?_))
    exact fin_scal rfl (by simp [isSmall, hb])
  · simp -implicitDefEqProofs only [hb, go_sem]
    exact fin_scal rfl (by simp [isSmall, hb])
theorem iIsSmall_c (b : Brd) : PC Try.prog 53 [] [.a (brdC b)] (vB (isSmall b)) ⟨[], []⟩ := by
  refine pc_of Try.func53 rfl (by kernel_rfl) _ Try.ntmps53 (by simp) ?_
  simp -implicitDefEqProofs only [go_sem]
  refine callS (iBoardOk_c b) rfl rfl rfl ?_
  simp -implicitDefEqProofs only [go_sem]
  refine grd_split (fun hb => ?_) (fun hb => ?_)
  · obtain ⟨w1, w2, h1, h2, m1, m2, n1, n2, n3⟩ := bok hb
    (repeat' (first | simp -implicitDefEqProofs only [hb, go_sem] | (refine And.intro ?_ ?_; omega) | (refine And.intro (shr_bd ?_ ?_) ?_; omega; omega) | refine sl_list rfl ?_ | refine sd_list rfl ?_ | refine sl_str ?_ | refine sd_str ?_))
    exact fin_scal rfl (by simp [isSmall, hb])
  · simp -implicitDefEqProofs only [hb, go_sem]
    exact fin_scal rfl (by simp [isSmall, hb])
theorem and_le' (a b : Nat) : a &&& b ≤ a := Nat.and_le_left
theorem ndiff_zero {a b : Nat} : ndiff a b = 0 ↔ a &&& b = a := by
  unfold ndiff
  constructor
  · intro h
    have := congrArg (· ^^^ (a &&& b)) h
    simp only [Nat.xor_assoc, Nat.xor_self, Nat.xor_zero, Nat.zero_xor] at this
    exact this.symm
  · intro h
    rw [h, Nat.xor_self]
theorem PositionOk_c (b : Brd) (p : Int) (hp2 : p ≤ 9223372036854775807) : PC Try.prog 27 [] [.a (brdC b), .c (.v (.int .i64 p))] (vB (positionOk b p)) ⟨[], []⟩ := by
  refine pc_of Try.func27 rfl (by kernel_rfl) _ Try.ntmps27 (by simp) ?_
  simp -implicitDefEqProofs only [go_sem]
  refine callS (BoardOk_c b) rfl rfl rfl ?_
  simp -implicitDefEqProofs only [go_sem]
  refine grd_split (fun hb => ?_) (fun hb => ?_)
  · obtain ⟨w1, w2, h1, h2, m1, m2, n1, n2, n3⟩ := bok hb
    simp -implicitDefEqProofs only [hb, go_sem]
    refine grd_splitP (fun h0 => ?_) (fun h0 => ?_)
    · (repeat' (first | simp -implicitDefEqProofs only [hb, h0, go_sem] | (refine And.intro ?_ ?_; omega) | (refine And.intro (shr_bd ?_ ?_) ?_; omega; omega) | refine sl_list rfl ?_ | refine sd_list rfl ?_ | refine sl_str ?_ | refine sd_str ?_))
      exact fin_scal rfl (by simp [positionOk, hb, h0, sub])
    · simp -implicitDefEqProofs only [hb, h0, go_sem]
      exact fin_scal rfl (by simp [positionOk, hb, h0])
  · simp -implicitDefEqProofs only [hb, go_sem]
    exact fin_scal rfl (by simp [positionOk, hb])
theorem iPositionOk_c (b : Brd) (p : Int) (hp2 : p ≤ 9223372036854775807) : PC Try.prog 54 [] [.a (brdC b), .c (.v (.int .i64 p))] (vB (positionOk b p)) ⟨[], []⟩ := by
  refine pc_of Try.func54 rfl (by kernel_rfl) _ Try.ntmps54 (by simp) ?_
  simp -implicitDefEqProofs only [go_sem]
  refine callS (iBoardOk_c b) rfl rfl rfl ?_
  simp -implicitDefEqProofs only [go_sem]
  refine grd_split (fun hb => ?_) (fun hb => ?_)
  · obtain ⟨w1, w2, h1, h2, m1, m2, n1, n2, n3⟩ := bok hb
    simp -implicitDefEqProofs only [hb, go_sem]
    refine grd_splitP (fun h0 => ?_) (fun h0 => ?_)
    · (repeat' (first | simp -implicitDefEqProofs only [hb, h0, go_sem] | (refine And.intro ?_ ?_; omega) | (refine And.intro (shr_bd ?_ ?_) ?_; omega; omega) | refine sl_list rfl ?_ | refine sd_list rfl ?_ | refine sl_str ?_ | refine sd_str ?_))
      refine fin_scal rfl ?_
      have e : ndiff p.toNat b.n.toNat = 0 ↔ ((p.toNat &&& b.n.toNat : Nat) : Int) = p := by
        have := ndiff_zero (a := p.toNat) (b := b.n.toNat)
        omega
      simp [positionOk, hb, h0, sub, e]
    · simp -implicitDefEqProofs only [hb, h0, go_sem]
      exact fin_scal rfl (by simp [positionOk, hb, h0])
  · simp -implicitDefEqProofs only [hb, go_sem]
    exact fin_scal rfl (by simp [positionOk, hb])
end Go.Proofs.Ytahnbliabllflaa
namespace Go.Proofs.Ytahnbliabllflaa
open Go.PL
set_option linter.unusedSimpArgs false
def puzzleOk (x : Pz) : Bool := isSmall x.b && (positionOk x.b x.s && positionOk x.b x.g)
def pzIn (x : Pz) : Prop := x.s ≤ 9223372036854775807 ∧ x.g ≤ 9223372036854775807
end Go.Proofs.Ytahnbliabllflaa
namespace Go.Proofs.Ytahnbliabllflaa
open Go.PL
set_option linter.unusedSimpArgs false
def newPz (x : Pz) : Pz := if puzzleOk x = true then x else ⟨⟨0, 0, 0⟩, 0, 0⟩
end Go.Proofs.Ytahnbliabllflaa
namespace Go.Proofs.Ytahnbliabllflaa
open Go.PL
set_option linter.unusedSimpArgs false
theorem divmod_of {w x y r : Int} (hw : 0 < w) (h0 : 0 ≤ x) (h1 : x < w) (e : r = y * w + x) : r % w = x ∧ r / w = y := by
  subst e
  constructor
  · rw [Int.add_comm, Int.add_mul_emod_self_right, Int.emod_eq_of_lt h0 h1]
  · rw [Int.add_comm, Int.add_mul_ediv_right _ _ (by omega), Int.ediv_eq_zero_of_lt h0 h1, Int.zero_add]
theorem step_coord {b : Brd} (hb : boardOk b = true) {k way : Int} (h : 0 ≤ stepTo b k way) :
    stepTo b k way % b.w = k % b.w + dx way ∧ stepTo b k way / b.w = k / b.w + dy way ∧ (0 ≤ k % b.w + dx way ∧ k % b.w + dx way ≤ b.w - 1) ∧ (0 ≤ k / b.w + dy way ∧ k / b.w + dy way ≤ b.h - 1) := by
  have hk := bok hb
  have w1 := hk.w1
  unfold stepTo cellAt at h ⊢
  split at h
  · rename_i hc
    rw [if_pos hc]
    simp only [Bool.and_eq_true, within_iff] at hc
    obtain ⟨⟨hx, hy⟩, _⟩ := hc
    have := divmod_of (w := b.w) (by omega) hx.1 (by omega) (rfl : (k / b.w + dy way) * b.w + (k % b.w + dx way) = _)
    exact ⟨this.1, this.2, hx, hy⟩
  · omega
theorem eq_of_coord {w k k' : Int} (h1 : k % w = k' % w) (h2 : k / w = k' / w) : k = k' := by
  have e1 := Int.mul_ediv_add_emod k w
  have e2 := Int.mul_ediv_add_emod k' w
  rw [h1, h2] at e1
  omega
theorem way_ne {way : Int} (h0 : 0 ≤ way) (h3 : way ≤ 3) : dx way ≠ 0 ∨ dy way ≠ 0 := by
  have : way = 0 ∨ way = 1 ∨ way = 2 ∨ way = 3 := by omega
  rcases this with rfl | rfl | rfl | rfl <;> simp [dx, dy]
def back (way : Int) : Int := if way ≤ 1 then way + 2 else way - 2
theorem back_d {way : Int} (h0 : 0 ≤ way) (h3 : way ≤ 3) : dx (back way) = - dx way ∧ dy (back way) = - dy way ∧ 0 ≤ back way ∧ back way ≤ 3 := by
  have : way = 0 ∨ way = 1 ∨ way = 2 ∨ way = 3 := by omega
  rcases this with rfl | rfl | rfl | rfl <;> simp [dx, dy, back]
/-- a step back leads to where the step began -/
theorem step_back {b : Brd} {k way : Int} (hh : hasHole b k = true) (h0 : 0 ≤ way) (h3 : way ≤ 3) (h : 0 ≤ stepTo b k way) : stepTo b (stepTo b k way) (back way) = k := by
  have hb := (hole_bd hh).1
  have k0 := (hole_bd hh).2.1
  obtain ⟨c1, c2, _, _⟩ := step_coord hb h
  obtain ⟨d1, d2, _, _⟩ := back_d h0 h3
  have hk := bok hb
  have w1 := hk.w1
  have m1 := Int.emod_nonneg k (show b.w ≠ 0 by omega)
  have m2 := Int.emod_lt_of_pos k (show 0 < b.w by omega)
  have q1 : 0 ≤ k / b.w := Int.ediv_nonneg k0 (by omega)
  have q2 : k / b.w ≤ b.h - 1 := by
    simp only [hasHole, Bool.and_eq_true, within_iff] at hh
    have : k < b.h * b.w := by rw [Int.mul_comm]; omega
    have := Int.ediv_lt_of_lt_mul (show 0 < b.w by omega) this
    omega
  have ek : k / b.w * b.w + k % b.w = k := by rw [Int.mul_comm]; exact Int.mul_ediv_add_emod k b.w
  have hbit : bitAt b.n k = true := by
    simp only [hasHole, Bool.and_eq_true] at hh
    exact hh.2
  have e1 : stepTo b k way % b.w + dx (back way) = k % b.w := by omega
  have e2 : stepTo b k way / b.w + dy (back way) = k / b.w := by omega
  have es : ∀ r w', stepTo b r w' = cellAt b (r % b.w + dx w') (r / b.w + dy w') := fun _ _ => rfl
  rw [es (stepTo b k way) (back way), e1, e2]
  unfold cellAt
  rw [ek, if_pos]
  simp only [Bool.and_eq_true, within_iff]
  exact ⟨⟨⟨m1, by omega⟩, q1, q2⟩, hbit⟩
theorem line_at {b : Brd} {l : Ln} (h : l ∈ linesOf b) : ∃ way : Int, 0 ≤ way ∧ way ≤ 3 ∧ hasHole b l.f = true ∧ 0 ≤ l.o ∧ 0 ≤ l.t ∧ l.o = stepTo b l.f way ∧ l.t = stepTo b l.o way := by
  simp only [linesOf, List.mem_flatMap, linesFrom, List.mem_filterMap, lineAt, List.mem_range] at h
  obtain ⟨k, hk, w, hw, hl⟩ := h
  split at hl
  · rename_i hc
    simp only [Option.some.injEq] at hl
    subst hl
    exact ⟨w, by omega, by omega, (mem_holes hk).2.1, hc.1, hc.2, rfl, rfl⟩
  · cases hl
theorem line_of {b : Brd} {k way : Int} (hh : hasHole b k = true) (h0 : 0 ≤ way) (h3 : way ≤ 3) (h1 : 0 ≤ stepTo b k way) (h2 : 0 ≤ stepTo b (stepTo b k way) way) :
    (⟨k, stepTo b k way, stepTo b (stepTo b k way) way⟩ : Ln) ∈ linesOf b := by
  obtain ⟨hb, k0, k1⟩ := hole_bd hh
  have hkm : k ∈ holesOf b := by
    unfold holesOf
    rw [if_pos hb]
    simp only [bitsN, List.mem_map, List.mem_filter, List.mem_range]
    simp only [hasHole, Bool.and_eq_true, within_iff] at hh
    refine ⟨k.toNat, ⟨by omega, ?_⟩, Int.toNat_of_nonneg k0⟩
    rw [Int.toNat_of_nonneg k0]; exact hh.2
  simp only [linesOf, List.mem_flatMap, linesFrom, List.mem_filterMap, lineAt, List.mem_range]
  refine ⟨k, hkm, way.toNat, by omega, ?_⟩
  rw [Int.toNat_of_nonneg h0, if_pos ⟨h1, h2⟩]
/-- every line has its line backwards -/
theorem line_turn {b : Brd} {l : Ln} (h : l ∈ linesOf b) : (⟨l.t, l.o, l.f⟩ : Ln) ∈ linesOf b := by
  obtain ⟨way, h0, h3, hf, ho, ht, eo, et⟩ := line_at h
  have hb := (hole_bd hf).1
  have hho : hasHole b l.o = true := by rw [eo]; exact (step_hole hb (by omega)).1
  have hht : hasHole b l.t = true := by rw [et]; exact (step_hole hb (by omega)).1
  obtain ⟨_, _, b0, b3⟩ := back_d h0 h3
  have r1 : stepTo b l.t (back way) = l.o := by rw [et]; exact step_back hho h0 h3 (by omega)
  have r2 : stepTo b l.o (back way) = l.f := by rw [eo]; exact step_back hf h0 h3 (by omega)
  have := line_of (k := l.t) (way := back way) hht b0 b3 (by omega) (by rw [r1, r2]; exact (hole_bd hf).2.1)
  rw [r1, r2] at this
  exact this
theorem line_ne {b : Brd} {l : Ln} (h : l ∈ linesOf b) : l.f ≠ l.o ∧ l.o ≠ l.t ∧ l.f ≠ l.t := by
  obtain ⟨way, h0, h3, hf, ho, ht, eo, et⟩ := line_at h
  have hb := (hole_bd hf).1
  obtain ⟨c1, c2, _, _⟩ := step_coord hb (k := l.f) (way := way) (by omega)
  obtain ⟨e1, e2, _, _⟩ := step_coord hb (k := l.o) (way := way) (by omega)
  rw [← eo] at c1 c2
  rw [← et] at e1 e2
  rcases way_ne h0 h3 with hd | hd
  · refine ⟨fun e => ?_, fun e => ?_, fun e => ?_⟩
    · rw [← e] at c1; omega
    · rw [← e] at e1; omega
    · rw [← e] at e1; omega
  · refine ⟨fun e => ?_, fun e => ?_, fun e => ?_⟩
    · rw [← e] at c2; omega
    · rw [← e] at e2; omega
    · rw [← e] at e2; omega
end Go.Proofs.Ytahnbliabllflaa
