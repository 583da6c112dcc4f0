/-
  What the functions compute that copy a game and make a jump in it.
  What the functions compute that make a jump in a game.
  What the functions compute that take a jump back.
  What the functions compute that judge a table.
  What the functions of the laws compute that copy, measure and compare tables; the law on judging a table.
-/
import Derived.Test.YtahnbliabllflaaU1
import Derived.Test.YtahnbliabllflaaL2
namespace Go.Proofs.Ytahnbliabllflaa
open Go.PL
set_option linter.unusedSimpArgs false
/-- the game after one more jump -/
def addG (g : Gm) (l : Ln) : Gm := { g with j := g.j ++ [l] }
def makeOk (g : Gm) (l : Ln) : Bool := gameOk g && gameOk (addG g l)
def makeG (g : Gm) (l : Ln) : Gm := if makeOk g l = true then addG g l else g
theorem addG_map {g : Gm} {l : Ln} : g.j.map lineV ++ [lineV l] = (addG g l).j.map lineV := by simp [addG]
end Go.Proofs.Ytahnbliabllflaa
namespace Go.Proofs.Ytahnbliabllflaa
open Go.PL
set_option linter.unusedSimpArgs false
theorem addG_in {g : Gm} {l : Ln} (hg : GmIn g) (hn : g.j.length ≤ 4194304) : GmIn (addG g l) := ⟨hg.x, by simp [addG]; omega⟩
theorem makeG_len {g : Gm} {l : Ln} (hn : g.j.length ≤ 1048576) : (makeG g l).j.length ≤ 1048577 := by
  unfold makeG addG
  split
  · simp; omega
  · omega
theorem list_snoc {g : Gm} {l : Ln} : g.j.map lineV ++ [.agg #[.int .i64 l.f, .int .i64 l.o, .int .i64 l.t]] = (addG g l).j.map lineV := by simp [addG, lineV]
end Go.Proofs.Ytahnbliabllflaa
namespace Go.Proofs.Ytahnbliabllflaa
open Go.PL
set_option linter.unusedSimpArgs false
/-- the game after its last jump is taken back -/
def backG (g : Gm) : Gm := { g with j := g.j.dropLast, u := g.u + 1 }
def backOk (g : Gm) : Bool := gameOk g && (!decide (g.j.length = 0) && gameOk (backG g))
def backR (g : Gm) : Gm := if backOk g = true then backG g else g
theorem backG_in {g : Gm} (hg : GmIn g) : GmIn (backG g) := ⟨hg.x, by have := hg.j; simp [backG]; omega⟩
theorem backR_len {g : Gm} : (backR g).j.length ≤ g.j.length := by
  unfold backR backG
  split
  · simp
  · omega
theorem back_map {g : Gm} : (g.j.map lineV).take (g.j.length - 1) = (backG g).j.map lineV := by
  simp [backG, List.dropLast_eq_take, List.map_take]
theorem gameOk_u {g : Gm} (h : gameOk g = true) : 0 ≤ g.u ∧ g.u ≤ 1000 := by
  simp only [gameOk, within, Bool.and_eq_true, decide_eq_true_eq] at h
  omega
end Go.Proofs.Ytahnbliabllflaa
namespace Go.Proofs.Ytahnbliabllflaa
open Go.PL
set_option linter.unusedSimpArgs false
structure Ck where
  a : Int
  b : Int
  c : Int
structure Tb where
  g : Gm
  c : Ck
  n : Int
  r : List Rec
abbrev ckC (c : Ck) : List C := [.v (.int .i64 c.a), .v (.int .i64 c.b), .v (.int .i64 c.c)]
/-- a table whose jumps and records are these values -/
abbrev tbC (t : Tb) (j r : C) : List C := gmC t.g j ++ [.v (.int .i64 t.c.a), .v (.int .i64 t.c.b), .v (.int .i64 t.c.c), .v (.int .i64 t.n), r]
abbrev tbL (t : Tb) : List C := tbC t (.l 3 (t.g.j.map lineV)) (.l 4 (t.r.map recV))
def clockOk (c : Ck) : Bool := within c.a 0 100000 && (within c.b 0 600 && within c.c 0 1000)
structure TbIn (t : Tb) : Prop where
  g : GmIn t.g
  r : t.r.length ≤ 1048576
def tableOk (t : Tb) : Bool := gameOk t.g && (clockOk t.c && (recordsOk t.r && within t.n 1 999))
end Go.Proofs.Ytahnbliabllflaa
namespace Go.Proofs.Ytahnbliabllflaa
open Go.PL
set_option linter.unusedSimpArgs false
/-- what a table leaves of the room -/
def szT (t : Tb) (left : Int) : Int := if (t.g.j.length : Int) ≤ left then (if (t.r.length : Int) ≤ left - t.g.j.length then left - t.g.j.length - t.r.length else -1) else -1
theorem tb_of {cs : List C} (h : All2 TC [.z (.i .i64), .z (.i .i64), .z (.i .i64), .z (.i .i64), .z (.i .i64), .l 3 true [.i .i64, .i .i64, .i .i64], .z (.i .i64), .z (.i .i64), .z (.i .i64), .z (.i .i64), .z (.i .i64), .z (.i .i64), .l 4 true recK] cs) :
    ∃ t : Tb, cs = tbL t ∧ pzIn t.g.x ∧ t.g.j.length ≤ maxLen ∧ t.r.length ≤ maxLen := by
  obtain ⟨c1, r1, rfl, h1, g1⟩ := all2_cons h
  obtain ⟨c2, r2, rfl, h2, g2⟩ := all2_cons g1
  obtain ⟨c3, r3, rfl, h3, g3⟩ := all2_cons g2
  obtain ⟨c4, r4, rfl, h4, g4⟩ := all2_cons g3
  obtain ⟨c5, r5, rfl, h5, g5⟩ := all2_cons g4
  obtain ⟨c6, r6, rfl, h6, g6⟩ := all2_cons g5
  obtain ⟨c7, r7, rfl, h7, g7⟩ := all2_cons g6
  obtain ⟨c8, r8, rfl, h8, g8⟩ := all2_cons g7
  obtain ⟨c9, r9, rfl, h9, g9⟩ := all2_cons g8
  obtain ⟨ca, ra, rfl, ha, ga⟩ := all2_cons g9
  obtain ⟨cb, rb, rfl, hb, gb⟩ := all2_cons ga
  obtain ⟨cc, rc, rfl, hc, gc⟩ := all2_cons gb
  obtain ⟨cd, rd, rfl, hd, gd⟩ := all2_cons gc
  obtain rfl := all2_nil gd
  obtain ⟨g, eg, hx, hj⟩ := gm_of (cs := [c1, c2, c3, c4, c5, c6, c7, c8]) ⟨h1, h2, h3, h4, h5, h6, h7, h8, trivial⟩
  simp only [gmL, gmC, List.cons.injEq, and_true] at eg
  obtain ⟨rfl, rfl, rfl, rfl, rfl, rfl, rfl, rfl⟩ := eg
  obtain ⟨a, rfl, _⟩ := tc_i h9
  obtain ⟨b, rfl, _⟩ := tc_i ha
  obtain ⟨c, rfl, _⟩ := tc_i hb
  obtain ⟨n, rfl, _⟩ := tc_i hc
  obtain ⟨rs, rfl, hl, _⟩ := recs_of hd
  exact ⟨⟨g, ⟨a, b, c⟩, n, rs⟩, rfl, hx, hj, hl⟩
end Go.Proofs.Ytahnbliabllflaa
