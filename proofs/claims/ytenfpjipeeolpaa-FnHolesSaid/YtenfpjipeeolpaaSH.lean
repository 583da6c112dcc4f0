/-
  The holes of a board: each once.
-/
import Derived.Test.YtenfpjipeeolpaaL6
import Derived.Test.YtenfpjipeeolpaaD4
namespace Go.Proofs.Ytenfpjipeeolpaa
open Go.PL
set_option linter.unusedSimpArgs false
theorem nodup_of_lt {n : Int} : ∀ m, (bitsN n m).Nodup
  | 0 => by simp [bitsN]
  | m + 1 => by
    by_cases h : bitAt n (m : Int) = true
    · rw [bitsN_hit h, List.nodup_append]
      refine ⟨nodup_of_lt m, by simp, fun a ha b hb => ?_⟩
      simp only [List.mem_singleton] at hb
      have := (mem_bitsN ha).2.1
      omega
    · rw [bitsN_miss (by simpa using h)]
      exact nodup_of_lt m
theorem holes_nodup {b : Brd} : (holesOf b).Nodup := by
  unfold holesOf
  split
  · exact nodup_of_lt _
  · simp
theorem hole_mem {b : Brd} {k : Int} (h : hasHole b k = true) : k ∈ holesOf b := by
  have h' := h
  simp only [hasHole, Bool.and_eq_true, within_iff] at h'
  obtain ⟨⟨hb, k0, k1⟩, hbit⟩ := h'
  have hk := hole_bd h
  rw [← holes_49 hb]
  simp only [bitsN, List.mem_map, List.mem_filter, List.mem_range]
  exact ⟨k.toNat, ⟨by omega, by rw [Int.toNat_of_nonneg k0]; exact hbit⟩, by omega⟩
end Go.Proofs.Ytenfpjipeeolpaa
