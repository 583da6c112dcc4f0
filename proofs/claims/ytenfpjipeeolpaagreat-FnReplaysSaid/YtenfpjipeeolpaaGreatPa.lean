/-
  What the functions compute that find the least start and count tight positions; the laws on them.
-/
import Derived.Test.YtenfpjipeeolpaaGreatP8
import Derived.Test.YtenfpjipeeolpaaGreatP9
namespace Go.Proofs.YtenfpjipeeolpaaGreat
open Go.PL
set_option linter.unusedSimpArgs false
noncomputable def backOf (b : Brd) (g : Int) : List Nat := listS (spreadL b true g)
theorem mem_listS {S : List Bool} {q : Nat} (h : q ∈ listS S) : hasS S (q : Int) = true := by
  unfold listS listN at h
  obtain ⟨h1, h2⟩ := List.mem_filter.1 h
  simp only [markedS] at h2
  simp [hasS, h2]
theorem listS_len {S : List Bool} (h : S.length ≤ 65536) : (listS S).length ≤ 65536 := by
  have := listN_len (S := S) (i := S.length)
  unfold listS; omega
theorem mem_back {b : Brd} {g : Int} {q : Nat} (h : q ∈ backOf b g) : positionOk b (q : Int) = true ∧ q < 65536 := by
  obtain ⟨h1, h2, h3, hb, _, hsub, hlt, _⟩ := spread_at (mem_listS h)
  have := spreadL_len (b := b) (bk := true) (p := g)
  rw [Int.toNat_natCast] at hlt
  exact ⟨h3, by omega⟩
def leastF (g acc : Int) (q : Nat) : Int := if (q : Int) ≠ g ∧ (acc < 0 ∨ (pegs q : Int) < acc) then pegs q else acc
def leastN (g : Int) (l : List Nat) (i : Nat) : Int := (l.take i).foldl (leastF g) (-1)
theorem leastN_step {g : Int} {l : List Nat} {i : Nat} (h : i < l.length) : leastN g l (i + 1) = leastF g (leastN g l i) l[i] := by
  unfold leastN
  rw [List.take_succ_eq_append_getElem h, List.foldl_append]
  rfl
theorem leastN_bd {g : Int} {l : List Nat} : ∀ {i : Nat}, -1 ≤ leastN g l i ∧ leastN g l i ≤ 49
  | 0 => by simp [leastN]
  | i + 1 => by
    by_cases h : i < l.length
    · have ih := leastN_bd (g := g) (l := l) (i := i)
      rw [leastN_step h]
      have := cardN_le (n := 49) (s := l[i])
      unfold leastF
      split
      · unfold pegs; omega
      · exact ih
    · have ih := leastN_bd (g := g) (l := l) (i := i)
      have e : leastN g l (i + 1) = leastN g l i := by
        simp only [leastN]
        rw [List.take_of_length_le (by omega), List.take_of_length_le (by omega)]
      rw [e]; exact ih
noncomputable def leastStart (b : Brd) (g : Int) : Int := leastN g (backOf b g) (backOf b g).length
/-! ### tight positions -/
def noSpare (b : Brd) (S : List Bool) (q : Nat) : Bool := decide ((spares b S (q : Int)).length = 0)
noncomputable def countTight (b : Brd) (g : Int) : Int :=
  if isSmall b = true ∧ positionOk b g = true ∧ (holesOf b).length ≤ 9 then ((backOf b g).filter (noSpare b (spreadL b true g))).length else -1
end Go.Proofs.YtenfpjipeeolpaaGreat
