/-
  What the functions compute that use a hint in a game and ask for one on a table.
-/
import Derived.Test.YtmgfndejfeconaaGreatDoorR1
import Derived.Test.YtmgfndejfeconaaGreatDoorR3
namespace Go.Proofs.YtmgfndejfeconaaGreatDoor
open Go.PL
set_option linter.unusedSimpArgs false
theorem nowOf_le {g : Gm} : nowOf g ≤ 9223372036854775807 := by
  unfold nowOf
  split
  · rename_i h
    simp only [gameOk, puzzleOk, Bool.and_eq_true] at h
    obtain ⟨⟨_, hp, _⟩, _, _, hs⟩ := h
    unfold playI
    cases hq : playAll g.x.b g.x.s g.j with
    | none => rw [hq] at hs; cases hs
    | some q =>
      simp only [Option.getD_some]
      unfold playAll at hq
      split at hq
      · have := pos_le (playF_pos hp hq)
        omega
      · cases hq
  · omega
noncomputable def hintL (g : Gm) : Ln := lineO (hintFor g.x (nowOf g))
noncomputable def hintG (g : Gm) : Gm := { makeG g (hintL g) with h := (makeG g (hintL g)).h + 1 }
noncomputable def hintOk (g : Gm) : Bool := (hintFor g.x (nowOf g)).isSome && (makeOk g (hintL g) && gameOk (hintG g))
noncomputable def hintR (g : Gm) : Gm := if hintOk g = true then hintG g else g
noncomputable def askOk (t : Tb) (s : Int) : Bool := tableOk t && (within s 0 100000 && (hintOk t.g && tickOk t.c (s + 10)))
noncomputable def askT (t : Tb) (s : Int) : Tb := if askOk t s = true then layG t (hintR t.g) (tickC t.c (s + 10)) else t
end Go.Proofs.YtmgfndejfeconaaGreatDoor
