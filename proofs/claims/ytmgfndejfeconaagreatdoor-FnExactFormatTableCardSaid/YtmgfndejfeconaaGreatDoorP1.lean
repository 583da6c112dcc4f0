/-
  The geometry of lines: a step in coordinates, lines backwards, three holes that differ.
-/
import Derived.Test.YtmgfndejfeconaaGreatDoorL6
namespace Go.Proofs.YtmgfndejfeconaaGreatDoor
open Go.PL
set_option linter.unusedSimpArgs false
theorem divmod_of {w x y r : Int} (hw : 0 < w) (h0 : 0 ≤ x) (h1 : x < w) (e : r = y * w + x) : r % w = x ∧ r / w = y := by
  subst e
  constructor
  · rw [Int.add_comm, Int.add_mul_emod_self_right, Int.emod_eq_of_lt h0 h1]
  · rw [Int.add_comm, Int.add_mul_ediv_right _ _ (by omega), Int.ediv_eq_zero_of_lt h0 h1, Int.zero_add]
theorem step_coord {b : Brd} (hb : boardOk b = true) {k way : Int} (h : 0 ≤ stepTo b k way) :
    stepTo b k way % b.w = k % b.w + dx way ∧ stepTo b k way / b.w = k / b.w + dy way ∧ (0 ≤ k % b.w + dx way ∧ k % b.w + dx way ≤ b.w - 1) ∧ (0 ≤ k / b.w + dy way ∧ k / b.w + dy way ≤ b.h - 1) := by
  have hk := bok hb
  have w1 := hk.w1
  unfold stepTo cellAt at h ⊢
  split at h
  · rename_i hc
    rw [if_pos hc]
    simp only [Bool.and_eq_true, within_iff] at hc
    obtain ⟨⟨hx, hy⟩, _⟩ := hc
    have := divmod_of (w := b.w) (by omega) hx.1 (by omega) (rfl : (k / b.w + dy way) * b.w + (k % b.w + dx way) = _)
    exact ⟨this.1, this.2, hx, hy⟩
  · omega
theorem way_ne {way : Int} (h0 : 0 ≤ way) (h3 : way ≤ 3) : dx way ≠ 0 ∨ dy way ≠ 0 := by
  have : way = 0 ∨ way = 1 ∨ way = 2 ∨ way = 3 := by omega
  rcases this with rfl | rfl | rfl | rfl <;> simp [dx, dy]
def back (way : Int) : Int := if way ≤ 1 then way + 2 else way - 2
theorem line_at {b : Brd} {l : Ln} (h : l ∈ linesOf b) : ∃ way : Int, 0 ≤ way ∧ way ≤ 3 ∧ hasHole b l.f = true ∧ 0 ≤ l.o ∧ 0 ≤ l.t ∧ l.o = stepTo b l.f way ∧ l.t = stepTo b l.o way := by
  simp only [linesOf, List.mem_flatMap, linesFrom, List.mem_filterMap, lineAt, List.mem_range] at h
  obtain ⟨k, hk, w, hw, hl⟩ := h
  split at hl
  · rename_i hc
    simp only [Option.some.injEq] at hl
    subst hl
    exact ⟨w, by omega, by omega, (mem_holes hk).2.1, hc.1, hc.2, rfl, rfl⟩
  · cases hl
theorem line_ne {b : Brd} {l : Ln} (h : l ∈ linesOf b) : l.f ≠ l.o ∧ l.o ≠ l.t ∧ l.f ≠ l.t := by
  obtain ⟨way, h0, h3, hf, ho, ht, eo, et⟩ := line_at h
  have hb := (hole_bd hf).1
  obtain ⟨c1, c2, _, _⟩ := step_coord hb (k := l.f) (way := way) (by omega)
  obtain ⟨e1, e2, _, _⟩ := step_coord hb (k := l.o) (way := way) (by omega)
  rw [← eo] at c1 c2
  rw [← et] at e1 e2
  rcases way_ne h0 h3 with hd | hd
  · refine ⟨fun e => ?_, fun e => ?_, fun e => ?_⟩
    · rw [← e] at c1; omega
    · rw [← e] at e1; omega
    · rw [← e] at e1; omega
  · refine ⟨fun e => ?_, fun e => ?_, fun e => ?_⟩
    · rw [← e] at c2; omega
    · rw [← e] at e2; omega
    · rw [← e] at e2; omega
end Go.Proofs.YtmgfndejfeconaaGreatDoor
