/-
  The geometry of lines: a step in coordinates, lines backwards, three holes that differ.
-/
import Derived.Test.YtggejdgohkfmmaaGreatL6
namespace Go.Proofs.YtggejdgohkfmmaaGreat
open Go.PL
set_option linter.unusedSimpArgs false
theorem divmod_of {w x y r : Int} (hw : 0 < w) (h0 : 0 ≤ x) (h1 : x < w) (e : r = y * w + x) : r % w = x ∧ r / w = y := by
  subst e
  constructor
  · rw [Int.add_comm, Int.add_mul_emod_self_right, Int.emod_eq_of_lt h0 h1]
  · rw [Int.add_comm, Int.add_mul_ediv_right _ _ (by omega), Int.ediv_eq_zero_of_lt h0 h1, Int.zero_add]
theorem step_coord {b : Brd} (hb : boardOk b = true) {k way : Int} (h : 0 ≤ stepTo b k way) :
    stepTo b k way % b.w = k % b.w + dx way ∧ stepTo b k way / b.w = k / b.w + dy way ∧ (0 ≤ k % b.w + dx way ∧ k % b.w + dx way ≤ b.w - 1) ∧ (0 ≤ k / b.w + dy way ∧ k / b.w + dy way ≤ b.h - 1) := by
  have hk := bok hb
  have w1 := hk.w1
  unfold stepTo cellAt at h ⊢
  split at h
  · rename_i hc
    rw [if_pos hc]
    simp only [Bool.and_eq_true, within_iff] at hc
    obtain ⟨⟨hx, hy⟩, _⟩ := hc
    have := divmod_of (w := b.w) (by omega) hx.1 (by omega) (rfl : (k / b.w + dy way) * b.w + (k % b.w + dx way) = _)
    exact ⟨this.1, this.2, hx, hy⟩
  · omega
theorem eq_of_coord {w k k' : Int} (h1 : k % w = k' % w) (h2 : k / w = k' / w) : k = k' := by
  have e1 := Int.mul_ediv_add_emod k w
  have e2 := Int.mul_ediv_add_emod k' w
  rw [h1, h2] at e1
  omega
theorem way_ne {way : Int} (h0 : 0 ≤ way) (h3 : way ≤ 3) : dx way ≠ 0 ∨ dy way ≠ 0 := by
  have : way = 0 ∨ way = 1 ∨ way = 2 ∨ way = 3 := by omega
  rcases this with rfl | rfl | rfl | rfl <;> simp [dx, dy]
def back (way : Int) : Int := if way ≤ 1 then way + 2 else way - 2
theorem back_d {way : Int} (h0 : 0 ≤ way) (h3 : way ≤ 3) : dx (back way) = - dx way ∧ dy (back way) = - dy way ∧ 0 ≤ back way ∧ back way ≤ 3 := by
  have : way = 0 ∨ way = 1 ∨ way = 2 ∨ way = 3 := by omega
  rcases this with rfl | rfl | rfl | rfl <;> simp [dx, dy, back]
/-- a step back leads to where the step began -/
theorem step_back {b : Brd} {k way : Int} (hh : hasHole b k = true) (h0 : 0 ≤ way) (h3 : way ≤ 3) (h : 0 ≤ stepTo b k way) : stepTo b (stepTo b k way) (back way) = k := by
  have hb := (hole_bd hh).1
  have k0 := (hole_bd hh).2.1
  obtain ⟨c1, c2, _, _⟩ := step_coord hb h
  obtain ⟨d1, d2, _, _⟩ := back_d h0 h3
  have hk := bok hb
  have w1 := hk.w1
  have m1 := Int.emod_nonneg k (show b.w ≠ 0 by omega)
  have m2 := Int.emod_lt_of_pos k (show 0 < b.w by omega)
  have q1 : 0 ≤ k / b.w := Int.ediv_nonneg k0 (by omega)
  have q2 : k / b.w ≤ b.h - 1 := by
    simp only [hasHole, Bool.and_eq_true, within_iff] at hh
    have : k < b.h * b.w := by rw [Int.mul_comm]; omega
    have := Int.ediv_lt_of_lt_mul (show 0 < b.w by omega) this
    omega
  have ek : k / b.w * b.w + k % b.w = k := by rw [Int.mul_comm]; exact Int.mul_ediv_add_emod k b.w
  have hbit : bitAt b.n k = true := by
    simp only [hasHole, Bool.and_eq_true] at hh
    exact hh.2
  have e1 : stepTo b k way % b.w + dx (back way) = k % b.w := by omega
  have e2 : stepTo b k way / b.w + dy (back way) = k / b.w := by omega
  have es : ∀ r w', stepTo b r w' = cellAt b (r % b.w + dx w') (r / b.w + dy w') := fun _ _ => rfl
  rw [es (stepTo b k way) (back way), e1, e2]
  unfold cellAt
  rw [ek, if_pos]
  simp only [Bool.and_eq_true, within_iff]
  exact ⟨⟨⟨m1, by omega⟩, q1, q2⟩, hbit⟩
theorem line_at {b : Brd} {l : Ln} (h : l ∈ linesOf b) : ∃ way : Int, 0 ≤ way ∧ way ≤ 3 ∧ hasHole b l.f = true ∧ 0 ≤ l.o ∧ 0 ≤ l.t ∧ l.o = stepTo b l.f way ∧ l.t = stepTo b l.o way := by
  simp only [linesOf, List.mem_flatMap, linesFrom, List.mem_filterMap, lineAt, List.mem_range] at h
  obtain ⟨k, hk, w, hw, hl⟩ := h
  split at hl
  · rename_i hc
    simp only [Option.some.injEq] at hl
    subst hl
    exact ⟨w, by omega, by omega, (mem_holes hk).2.1, hc.1, hc.2, rfl, rfl⟩
  · cases hl
theorem line_of {b : Brd} {k way : Int} (hh : hasHole b k = true) (h0 : 0 ≤ way) (h3 : way ≤ 3) (h1 : 0 ≤ stepTo b k way) (h2 : 0 ≤ stepTo b (stepTo b k way) way) :
    (⟨k, stepTo b k way, stepTo b (stepTo b k way) way⟩ : Ln) ∈ linesOf b := by
  obtain ⟨hb, k0, k1⟩ := hole_bd hh
  have hkm : k ∈ holesOf b := by
    unfold holesOf
    rw [if_pos hb]
    simp only [bitsN, List.mem_map, List.mem_filter, List.mem_range]
    simp only [hasHole, Bool.and_eq_true, within_iff] at hh
    refine ⟨k.toNat, ⟨by omega, ?_⟩, Int.toNat_of_nonneg k0⟩
    rw [Int.toNat_of_nonneg k0]; exact hh.2
  simp only [linesOf, List.mem_flatMap, linesFrom, List.mem_filterMap, lineAt, List.mem_range]
  refine ⟨k, hkm, way.toNat, by omega, ?_⟩
  rw [Int.toNat_of_nonneg h0, if_pos ⟨h1, h2⟩]
/-- every line has its line backwards -/
theorem line_turn {b : Brd} {l : Ln} (h : l ∈ linesOf b) : (⟨l.t, l.o, l.f⟩ : Ln) ∈ linesOf b := by
  obtain ⟨way, h0, h3, hf, ho, ht, eo, et⟩ := line_at h
  have hb := (hole_bd hf).1
  have hho : hasHole b l.o = true := by rw [eo]; exact (step_hole hb (by omega)).1
  have hht : hasHole b l.t = true := by rw [et]; exact (step_hole hb (by omega)).1
  obtain ⟨_, _, b0, b3⟩ := back_d h0 h3
  have r1 : stepTo b l.t (back way) = l.o := by rw [et]; exact step_back hho h0 h3 (by omega)
  have r2 : stepTo b l.o (back way) = l.f := by rw [eo]; exact step_back hf h0 h3 (by omega)
  have := line_of (k := l.t) (way := back way) hht b0 b3 (by omega) (by rw [r1, r2]; exact (hole_bd hf).2.1)
  rw [r1, r2] at this
  exact this
theorem line_ne {b : Brd} {l : Ln} (h : l ∈ linesOf b) : l.f ≠ l.o ∧ l.o ≠ l.t ∧ l.f ≠ l.t := by
  obtain ⟨way, h0, h3, hf, ho, ht, eo, et⟩ := line_at h
  have hb := (hole_bd hf).1
  obtain ⟨c1, c2, _, _⟩ := step_coord hb (k := l.f) (way := way) (by omega)
  obtain ⟨e1, e2, _, _⟩ := step_coord hb (k := l.o) (way := way) (by omega)
  rw [← eo] at c1 c2
  rw [← et] at e1 e2
  rcases way_ne h0 h3 with hd | hd
  · refine ⟨fun e => ?_, fun e => ?_, fun e => ?_⟩
    · rw [← e] at c1; omega
    · rw [← e] at e1; omega
    · rw [← e] at e1; omega
  · refine ⟨fun e => ?_, fun e => ?_, fun e => ?_⟩
    · rw [← e] at c2; omega
    · rw [← e] at e2; omega
    · rw [← e] at e2; omega
end Go.Proofs.YtggejdgohkfmmaaGreat
