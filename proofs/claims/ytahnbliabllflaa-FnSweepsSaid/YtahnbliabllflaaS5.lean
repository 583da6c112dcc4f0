/-
  Drawn games: what holds of jumps made and taken back, and of hints.
  Drawn tables: what holds of them, and of their clocks.
-/
import Derived.Test.YtahnbliabllflaaD6
import Derived.Test.YtahnbliabllflaaR4
namespace Go.Proofs.Ytahnbliabllflaa
open Go.PL
set_option linter.unusedSimpArgs false
theorem gameOk_mk {x : Pz} {j : List Ln} {h u r : Int} (hx : puzzleOk x = true) (hp : playF x.b x.s j = some r) (hj : j.length ≤ 60) (hh : 0 ≤ h ∧ h ≤ 1000) (hu : 0 ≤ u ∧ u ≤ 1000) : gameOk ⟨x, j, h, u⟩ = true ∧ nowOf ⟨x, j, h, u⟩ = r := by
  have hx' := hx
  simp only [puzzleOk, Bool.and_eq_true] at hx'
  have w1 : within h 0 1000 = true := within_iff.2 hh
  have w2 : within u 0 1000 = true := within_iff.2 hu
  have hpl : playAll x.b x.s j = some r := by
    unfold playAll
    rw [if_pos ⟨hx'.2.1, hj⟩]; exact hp
  have hg : gameOk ⟨x, j, h, u⟩ = true := by simp [gameOk, hx, w1, w2, hpl]
  exact ⟨hg, by simp [nowOf, hg, playI, hpl]⟩
/-- what is known of a drawn game -/
structure GamePl (g : Gm) (r : Nat) : Prop where
  px : puzzleOk g.x = true
  ply : playF g.x.b g.x.s g.j = some (r : Int)
  now : nowOf g = r
  pos : positionOk g.x.b (r : Int) = true
  len : g.j.length ≤ 49
theorem game_pl {g : Gm} (h : DrawnG g) : ∃ r : Nat, GamePl g r := by
  have hg := h.ok
  have hg' := hg
  simp only [gameOk, Bool.and_eq_true] at hg'
  obtain ⟨hx, _, _, hs⟩ := hg'
  obtain ⟨r, hr⟩ := Option.isSome_iff_exists.1 hs
  have hx' := hx
  simp only [puzzleOk, Bool.and_eq_true] at hx'
  have hr2 := hr
  unfold playAll at hr2
  split at hr2
  · have hpos := playF_pos hx'.2.1 hr2
    obtain ⟨_, r0, _⟩ := pos_sub hpos
    obtain ⟨n, rfl⟩ : ∃ n : Nat, r = n := ⟨r.toNat, by omega⟩
    exact ⟨n, hx, hr2, by simp [nowOf, hg, playI, hr], hpos, h.len⟩
  · cases hr2
/-- what holds of a jump that is made and taken back -/
structure Jumped (g : Gm) (l : Ln) : Prop where
  m1 : makeOk g l = true
  m2 : makeG g l = addG g l
  b1 : backOk (addG g l) = true
  b2 : backR (addG g l) = ⟨g.x, g.j, g.h, g.u + 1⟩
  n1 : nowOf (⟨g.x, g.j, g.h, g.u + 1⟩ : Gm) = nowOf g
theorem jumped {g : Gm} (h : DrawnG g) {l : Ln} (hl : l ∈ jumpsOf g.x.b (nowOf g)) : Jumped g l := by
  obtain ⟨r, P⟩ := game_pl h
  have hh := h.h
  have hu := h.u
  have hlen := P.len
  rw [P.now] at hl
  have hc := jumps_can hl
  have hs := playF_snoc P.ply hc
  have a1 := gameOk_mk (x := g.x) (j := g.j ++ [l]) (h := g.h) (u := g.u) P.px hs (by simp; omega) (by omega) (by omega)
  have a2 := gameOk_mk (x := g.x) (j := g.j) (h := g.h) (u := g.u + 1) P.px P.ply (by omega) (by omega) (by omega)
  have e1 : addG g l = ⟨g.x, g.j ++ [l], g.h, g.u⟩ := rfl
  have e2 : backG (addG g l) = ⟨g.x, g.j, g.h, g.u + 1⟩ := by simp [backG, addG]
  have m1 : makeOk g l = true := by simp [makeOk, h.ok, e1, a1.1]
  have b1 : backOk (addG g l) = true := by
    simp only [backOk, e2, a2.1]
    rw [e1, a1.1]
    simp
  exact ⟨m1, by simp [makeG, m1], b1, by simp [backR, b1, e2], by rw [a2.2, P.now]⟩
/-! ### walks -/
end Go.Proofs.Ytahnbliabllflaa
namespace Go.Proofs.Ytahnbliabllflaa
open Go.PL
set_option linter.unusedSimpArgs false
theorem drawnT_g {t : Tb} (h : DrawnT t) : DrawnG t.g := by
  rcases h.g with h | ⟨k, k0, k1, hd, e⟩
  · exact h
  · obtain ⟨r, P⟩ := game_pl hd
    have hl := P.len
    have hu := hd.u
    have hp := P.ply
    have hx := P.px
    simp only at hl hu hp hx
    have a := gameOk_mk (x := t.g.x) (j := t.g.j) (h := t.g.h) (u := t.g.u) hx hp (by omega) (by omega) (by omega)
    exact ⟨a.1, hl, by omega, hu⟩
theorem drawnT_ok {t : Tb} (h : DrawnT t) : tableOk t = true ∧ clockOk t.c = true := by
  have hg := (drawnT_g h).ok
  obtain ⟨a0, a1, b0, b1, c0, c1⟩ := h.c
  have hn := h.n
  have w1 : within t.c.a 0 100000 = true := within_iff.2 (by omega)
  have w2 : within t.c.b 0 600 = true := within_iff.2 (by omega)
  have w3 : within t.c.c 0 1000 = true := within_iff.2 (by omega)
  have w4 : within t.n 1 999 = true := within_iff.2 (by omega)
  have hc : clockOk t.c = true := by simp [clockOk, w1, w2, w3]
  exact ⟨by simp [tableOk, hg, hc, h.r.ok, w4], hc⟩
theorem drawnT_tick {t : Tb} (h : DrawnT t) {s : Int} (s0 : 0 ≤ s) : tickOk t.c s = decide (s ≤ t.c.a) := by
  obtain ⟨a0, a1, b0, b1, c0, c1⟩ := h.c
  have hc := (drawnT_ok h).2
  by_cases hs : s ≤ t.c.a
  · have w0 : within s 0 t.c.a = true := within_iff.2 (by omega)
    have w1 : within (t.c.a - s + t.c.b) 0 100000 = true := within_iff.2 (by omega)
    have w2 : within t.c.b 0 600 = true := within_iff.2 (by omega)
    have w3 : within (t.c.c + 1) 0 1000 = true := within_iff.2 (by omega)
    have hd : clockOk (tickd t.c s) = true := by simp [clockOk, tickd, w1, w2, w3]
    simp [tickOk, hc, w0, hd, hs]
  · have w0 : within s 0 t.c.a = false := within_not.2 (by omega)
    simp [tickOk, w0, hs]
end Go.Proofs.Ytahnbliabllflaa
