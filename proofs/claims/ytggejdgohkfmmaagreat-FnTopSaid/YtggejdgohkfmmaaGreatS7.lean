/-
  Drawn tables: what holds of them, and of their clocks.
-/
import Derived.Test.YtggejdgohkfmmaaGreatD6
import Derived.Test.YtggejdgohkfmmaaGreatS5
namespace Go.Proofs.YtggejdgohkfmmaaGreat
open Go.PL
set_option linter.unusedSimpArgs false
theorem drawnT_g {t : Tb} (h : DrawnT t) : DrawnG t.g := by
  rcases h.g with h | ⟨k, k0, k1, hd, e⟩
  · exact h
  · obtain ⟨r, P⟩ := game_pl hd
    have hl := P.len
    have hu := hd.u
    have hp := P.ply
    have hx := P.px
    simp only at hl hu hp hx
    have a := gameOk_mk (x := t.g.x) (j := t.g.j) (h := t.g.h) (u := t.g.u) hx hp (by omega) (by omega) (by omega)
    exact ⟨a.1, hl, by omega, hu⟩
theorem drawnT_ok {t : Tb} (h : DrawnT t) : tableOk t = true ∧ clockOk t.c = true := by
  have hg := (drawnT_g h).ok
  obtain ⟨a0, a1, b0, b1, c0, c1⟩ := h.c
  have hn := h.n
  have w1 : within t.c.a 0 100000 = true := within_iff.2 (by omega)
  have w2 : within t.c.b 0 600 = true := within_iff.2 (by omega)
  have w3 : within t.c.c 0 1000 = true := within_iff.2 (by omega)
  have w4 : within t.n 1 999 = true := within_iff.2 (by omega)
  have hc : clockOk t.c = true := by simp [clockOk, w1, w2, w3]
  exact ⟨by simp [tableOk, hg, hc, h.r.ok, w4], hc⟩
theorem drawnT_tick {t : Tb} (h : DrawnT t) {s : Int} (s0 : 0 ≤ s) : tickOk t.c s = decide (s ≤ t.c.a) := by
  obtain ⟨a0, a1, b0, b1, c0, c1⟩ := h.c
  have hc := (drawnT_ok h).2
  by_cases hs : s ≤ t.c.a
  · have w0 : within s 0 t.c.a = true := within_iff.2 (by omega)
    have w1 : within (t.c.a - s + t.c.b) 0 100000 = true := within_iff.2 (by omega)
    have w2 : within t.c.b 0 600 = true := within_iff.2 (by omega)
    have w3 : within (t.c.c + 1) 0 1000 = true := within_iff.2 (by omega)
    have hd : clockOk (tickd t.c s) = true := by simp [clockOk, tickd, w1, w2, w3]
    simp [tickOk, hc, w0, hd, hs]
  · have w0 : within s 0 t.c.a = false := within_not.2 (by omega)
    simp [tickOk, w0, hs]
end Go.Proofs.YtggejdgohkfmmaaGreat
