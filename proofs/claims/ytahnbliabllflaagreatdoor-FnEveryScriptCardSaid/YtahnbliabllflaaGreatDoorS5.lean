/-
  Drawn games: what holds of jumps made and taken back, and of hints.
  Drawn tables: what holds of them, and of their clocks.
-/
import Derived.Test.YtahnbliabllflaaGreatDoorD6
import Derived.Test.YtahnbliabllflaaGreatDoorR4
namespace Go.Proofs.YtahnbliabllflaaGreatDoor
open Go.PL
set_option linter.unusedSimpArgs false
theorem gameOk_mk {x : Pz} {j : List Ln} {h u r : Int} (hx : puzzleOk x = true) (hp : playF x.b x.s j = some r) (hj : j.length ≤ 60) (hh : 0 ≤ h ∧ h ≤ 1000) (hu : 0 ≤ u ∧ u ≤ 1000) : gameOk ⟨x, j, h, u⟩ = true ∧ nowOf ⟨x, j, h, u⟩ = r := by
  have hx' := hx
  simp only [puzzleOk, Bool.and_eq_true] at hx'
  have w1 : within h 0 1000 = true := within_iff.2 hh
  have w2 : within u 0 1000 = true := within_iff.2 hu
  have hpl : playAll x.b x.s j = some r := by
    unfold playAll
    rw [if_pos ⟨hx'.2.1, hj⟩]; exact hp
  have hg : gameOk ⟨x, j, h, u⟩ = true := by simp [gameOk, hx, w1, w2, hpl]
  exact ⟨hg, by simp [nowOf, hg, playI, hpl]⟩
structure GamePl (g : Gm) (r : Nat) : Prop where
  px : puzzleOk g.x = true
  ply : playF g.x.b g.x.s g.j = some (r : Int)
  now : nowOf g = r
  pos : positionOk g.x.b (r : Int) = true
  len : g.j.length ≤ 49
theorem game_pl {g : Gm} (h : DrawnG g) : ∃ r : Nat, GamePl g r := by
  have hg := h.ok
  have hg' := hg
  simp only [gameOk, Bool.and_eq_true] at hg'
  obtain ⟨hx, _, _, hs⟩ := hg'
  obtain ⟨r, hr⟩ := Option.isSome_iff_exists.1 hs
  have hx' := hx
  simp only [puzzleOk, Bool.and_eq_true] at hx'
  have hr2 := hr
  unfold playAll at hr2
  split at hr2
  · have hpos := playF_pos hx'.2.1 hr2
    obtain ⟨_, r0, _⟩ := pos_sub hpos
    obtain ⟨n, rfl⟩ : ∃ n : Nat, r = n := ⟨r.toNat, by omega⟩
    exact ⟨n, hx, hr2, by simp [nowOf, hg, playI, hr], hpos, h.len⟩
  · cases hr2
structure Jumped (g : Gm) (l : Ln) : Prop where
  m1 : makeOk g l = true
  m2 : makeG g l = addG g l
  b1 : backOk (addG g l) = true
  b2 : backR (addG g l) = ⟨g.x, g.j, g.h, g.u + 1⟩
  n1 : nowOf (⟨g.x, g.j, g.h, g.u + 1⟩ : Gm) = nowOf g
end Go.Proofs.YtahnbliabllflaaGreatDoor
namespace Go.Proofs.YtahnbliabllflaaGreatDoor
open Go.PL
set_option linter.unusedSimpArgs false
theorem drawnT_g {t : Tb} (h : DrawnT t) : DrawnG t.g := by
  rcases h.g with h | ⟨k, k0, k1, hd, e⟩
  · exact h
  · obtain ⟨r, P⟩ := game_pl hd
    have hl := P.len
    have hu := hd.u
    have hp := P.ply
    have hx := P.px
    simp only at hl hu hp hx
    have a := gameOk_mk (x := t.g.x) (j := t.g.j) (h := t.g.h) (u := t.g.u) hx hp (by omega) (by omega) (by omega)
    exact ⟨a.1, hl, by omega, hu⟩
theorem drawnT_ok {t : Tb} (h : DrawnT t) : tableOk t = true ∧ clockOk t.c = true := by
  have hg := (drawnT_g h).ok
  obtain ⟨a0, a1, b0, b1, c0, c1⟩ := h.c
  have hn := h.n
  have w1 : within t.c.a 0 100000 = true := within_iff.2 (by omega)
  have w2 : within t.c.b 0 600 = true := within_iff.2 (by omega)
  have w3 : within t.c.c 0 1000 = true := within_iff.2 (by omega)
  have w4 : within t.n 1 999 = true := within_iff.2 (by omega)
  have hc : clockOk t.c = true := by simp [clockOk, w1, w2, w3]
  exact ⟨by simp [tableOk, hg, hc, h.r.ok, w4], hc⟩
end Go.Proofs.YtahnbliabllflaaGreatDoor
