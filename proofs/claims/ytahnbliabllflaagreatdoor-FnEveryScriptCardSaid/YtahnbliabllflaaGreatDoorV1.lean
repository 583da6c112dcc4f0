/-
  What the functions compute that copy a game and make a jump in it.
  What the functions compute that make a jump in a game.
  What the functions compute that take a jump back.
  What the functions compute that judge a table.
  What the functions of the laws compute that copy, measure and compare tables; the law on judging a table.
-/
import Derived.Test.YtahnbliabllflaaGreatDoorU1
import Derived.Test.YtahnbliabllflaaGreatDoorL2
namespace Go.Proofs.YtahnbliabllflaaGreatDoor
open Go.PL
set_option linter.unusedSimpArgs false
theorem iCopyJumps_c (d : Nat) (ls : List Ln) (hn : ls.length ≤ 4194304) : PC Tryz.prog 160 [] [.c (.l 3 (ls.map lineV))] (.s (.c (.o d))) ⟨[], [(d, ⟨86, 3, ls.map lineV, false, true⟩)]⟩ := by
  refine pc_of Tryz.func160 rfl (by kernel_rfl) _ Tryz.ntmps160 (by simp) ?_
  (repeat' (first | simp -implicitDefEqProofs only [go_sem] | (refine And.intro ?_ ?_; omega) | (refine And.intro (shr_bd ?_ ?_) ?_; omega; omega) | refine sl_list rfl ?_ | refine sd_list rfl ?_ | refine sl_str ?_ | refine sd_str ?_))
  exact fin_of (fun i => i) (fun i => 5) ⟨by simp <;> omega, by simp <;> omega, by simp <;> omega, by simp <;> omega, by simp <;> omega⟩ (by simp <;> omega) rfl
theorem iCopyGame_c (d : Nat) (g : Gm) (hn : g.j.length ≤ 4194304) : PC Tryz.prog 107 [] [.a (gmL g)] (.s (.a (gmC g (.o d)))) ⟨[], [(d, ⟨86, 3, g.j.map lineV, false, true⟩)]⟩ := by
  refine pc_of Tryz.func107 rfl (by kernel_rfl) _ Tryz.ntmps107 (by simp) ?_
  repeat' first
    | (first | simp -implicitDefEqProofs only [go_sem] | (refine And.intro ?_ ?_; omega) | (refine And.intro (shr_bd ?_ ?_) ?_; omega; omega) | refine sl_list rfl ?_ | refine sd_list rfl ?_ | refine sl_str ?_ | refine sd_str ?_)
    | refine callL (iCopyJumps_c 5 g.j hn) rfl rfl rfl ?_
  exact fin_of (fun i => i) (fun i => 5) ⟨by simp <;> omega, by simp <;> omega, by simp <;> omega, by simp <;> omega, by simp <;> omega⟩ (by simp <;> omega) rfl
theorem l37Copy_c (d : Nat) (g : Gm) (hn : g.j.length ≤ 4194304) : PC Tryz.prog 124 [] [.a (gmL g)] (.s (.a (gmC g (.o d)))) ⟨[], [(d, ⟨86, 3, g.j.map lineV, false, true⟩)]⟩ := by
  refine pc_of Tryz.func124 rfl (by kernel_rfl) _ Tryz.ntmps124 (by simp) ?_
  repeat' first
    | (first | simp -implicitDefEqProofs only [go_sem] | (refine And.intro ?_ ?_; omega) | (refine And.intro (shr_bd ?_ ?_) ?_; omega; omega) | refine sl_list rfl ?_ | refine sd_list rfl ?_ | refine sl_str ?_ | refine sd_str ?_)
    | refine draw_stepY Tryz.pl_follows (by kernel_rfl) ?_
  exact fin_of (fun i => i) (fun i => 8) ⟨by simp <;> omega, by simp <;> omega, by simp <;> omega, by simp <;> omega, by simp <;> omega⟩ (by simp <;> omega) rfl
def addG (g : Gm) (l : Ln) : Gm := { g with j := g.j ++ [l] }
def makeOk (g : Gm) (l : Ln) : Bool := gameOk g && gameOk (addG g l)
def makeG (g : Gm) (l : Ln) : Gm := if makeOk g l = true then addG g l else g
end Go.Proofs.YtahnbliabllflaaGreatDoor
namespace Go.Proofs.YtahnbliabllflaaGreatDoor
open Go.PL
set_option linter.unusedSimpArgs false
theorem addG_in {g : Gm} {l : Ln} (hg : GmIn g) (hn : g.j.length ≤ 4194304) : GmIn (addG g l) := ⟨hg.x, by simp [addG]; omega⟩
theorem makeG_len {g : Gm} {l : Ln} (hn : g.j.length ≤ 1048576) : (makeG g l).j.length ≤ 1048577 := by
  unfold makeG addG
  split
  · simp; omega
  · omega
theorem list_snoc {g : Gm} {l : Ln} : g.j.map lineV ++ [.agg #[.int .i64 l.f, .int .i64 l.o, .int .i64 l.t]] = (addG g l).j.map lineV := by simp [addG, lineV]
set_option maxHeartbeats 2000000 in
theorem MakeJump_c (d : Nat) (g : Gm) (l : Ln) (hg : GmIn g) (hn : g.j.length ≤ 1048576) : PC Tryz.prog 129 [] [.a (gmL g), .a (lineC l)] (.t [.a (gmC (makeG g l) (.o d)), .c (.v (.bool (makeOk g l)))]) ⟨[], [(d, ⟨86, 3, (makeG g l).j.map lineV, false, true⟩)]⟩ := by
  refine pc_of Tryz.func129 rfl (by kernel_rfl) _ Tryz.ntmps129 (by simp) ?_
  have h2 := addG_in (l := l) hg (by omega)
  have e4 := list_snoc (g := g) (l := l)
  repeat' first
    | (first | simp -implicitDefEqProofs only [go_sem] | (refine And.intro ?_ ?_; omega) | (refine And.intro (shr_bd ?_ ?_) ?_; omega; omega) | refine sl_list rfl ?_ | refine sd_list rfl ?_ | refine sl_str ?_ | refine sd_str ?_)
    | refine callL (l37Copy_c 8 g (by omega)) rfl rfl rfl ?_
  refine callS (GameOk_c g hg) rfl rfl rfl ?_
  by_cases h : gameOk g = true
  · (repeat' (first | simp -implicitDefEqProofs only [h, go_sem] | (refine And.intro ?_ ?_; omega) | (refine And.intro (shr_bd ?_ ?_) ?_; omega; omega) | refine sl_list rfl ?_ | refine sd_list rfl ?_ | refine sl_str ?_ | refine sd_str ?_))
    simp only [e4]
    refine callS (GameOk_c (addG g l) h2) rfl rfl rfl ?_
    by_cases h' : gameOk (addG g l) = true
    · have e : makeG g l = addG g l := by simp [makeG, makeOk, h, h']
      have hm : makeOk g l = true := by simp [makeOk, h, h']
      (repeat' (first | simp -implicitDefEqProofs only [h', go_sem] | (refine And.intro ?_ ?_; omega) | (refine And.intro (shr_bd ?_ ?_) ?_; omega; omega) | refine sl_list rfl ?_ | refine sd_list rfl ?_ | refine sl_str ?_ | refine sd_str ?_))
      exact fin_of (fun i => i) (fun i => 13) ⟨by simp [e, hm, addG] <;> omega, by simp [e, hm, addG] <;> omega, by simp [e, hm, addG] <;> omega, by simp [e, hm, addG] <;> omega, by simp [e, hm, addG] <;> omega⟩ (by simp [e, hm, addG] <;> omega) (by first | rfl | (simp [renPV, renV1, renC, e, hm, addG]))
    · have e : makeG g l = g := by simp [makeG, makeOk, h']
      repeat' first
        | (first | simp -implicitDefEqProofs only [h', go_sem] | (refine And.intro ?_ ?_; omega) | (refine And.intro (shr_bd ?_ ?_) ?_; omega; omega) | refine sl_list rfl ?_ | refine sd_list rfl ?_ | refine sl_str ?_ | refine sd_str ?_)
        | refine callL (l37Copy_c 24 g (by omega)) rfl rfl rfl ?_
      exact fin_of (fun i => i) (fun i => 24) ⟨by simp [e, h', makeOk] <;> omega, by simp [e, h', makeOk] <;> omega, by simp [e, h', makeOk] <;> omega, by simp [e, h', makeOk] <;> omega, by simp [e, h', makeOk] <;> omega⟩ (by simp [e, h', makeOk] <;> omega) (by first | rfl | (simp [renPV, renV1, renC, e, h', makeOk]))
  · have e : makeG g l = g := by simp [makeG, makeOk, h]
    repeat' first
      | (first | simp -implicitDefEqProofs only [h, go_sem] | (refine And.intro ?_ ?_; omega) | (refine And.intro (shr_bd ?_ ?_) ?_; omega; omega) | refine sl_list rfl ?_ | refine sd_list rfl ?_ | refine sl_str ?_ | refine sd_str ?_)
      | refine callL (l37Copy_c 24 g (by omega)) rfl rfl rfl ?_
    exact fin_of (fun i => i) (fun i => 24) ⟨by simp [e, h, makeOk] <;> omega, by simp [e, h, makeOk] <;> omega, by simp [e, h, makeOk] <;> omega, by simp [e, h, makeOk] <;> omega, by simp [e, h, makeOk] <;> omega⟩ (by simp [e, h, makeOk] <;> omega) (by first | rfl | (simp [renPV, renV1, renC, e, h, makeOk]))
set_option maxHeartbeats 2000000 in
theorem iMakeJump_c (d : Nat) (g : Gm) (l : Ln) (hg : GmIn g) (hn : g.j.length ≤ 1048576) : PC Tryz.prog 116 [] [.a (gmL g), .a (lineC l)] (.t [.a (gmC (makeG g l) (.o d)), .c (.v (.bool (makeOk g l)))]) ⟨[], [(d, ⟨86, 3, (makeG g l).j.map lineV, false, true⟩)]⟩ := by
  refine pc_of Tryz.func116 rfl (by kernel_rfl) _ Tryz.ntmps116 (by simp) ?_
  have h2 := addG_in (l := l) hg (by omega)
  have e4 := list_snoc (g := g) (l := l)
  repeat' first
    | (first | simp -implicitDefEqProofs only [go_sem] | (refine And.intro ?_ ?_; omega) | (refine And.intro (shr_bd ?_ ?_) ?_; omega; omega) | refine sl_list rfl ?_ | refine sd_list rfl ?_ | refine sl_str ?_ | refine sd_str ?_)
    | refine callL (iCopyGame_c 8 g (by omega)) rfl rfl rfl ?_
  refine callS (iGameOk_c g hg) rfl rfl rfl ?_
  by_cases h : gameOk g = true
  · (repeat' (first | simp -implicitDefEqProofs only [h, go_sem] | (refine And.intro ?_ ?_; omega) | (refine And.intro (shr_bd ?_ ?_) ?_; omega; omega) | refine sl_list rfl ?_ | refine sd_list rfl ?_ | refine sl_str ?_ | refine sd_str ?_))
    simp only [e4]
    refine callS (iGameOk_c (addG g l) h2) rfl rfl rfl ?_
    by_cases h' : gameOk (addG g l) = true
    · have e : makeG g l = addG g l := by simp [makeG, makeOk, h, h']
      have hm : makeOk g l = true := by simp [makeOk, h, h']
      (repeat' (first | simp -implicitDefEqProofs only [h', go_sem] | (refine And.intro ?_ ?_; omega) | (refine And.intro (shr_bd ?_ ?_) ?_; omega; omega) | refine sl_list rfl ?_ | refine sd_list rfl ?_ | refine sl_str ?_ | refine sd_str ?_))
      exact fin_of (fun i => i) (fun i => 13) ⟨by simp [e, hm, addG] <;> omega, by simp [e, hm, addG] <;> omega, by simp [e, hm, addG] <;> omega, by simp [e, hm, addG] <;> omega, by simp [e, hm, addG] <;> omega⟩ (by simp [e, hm, addG] <;> omega) (by first | rfl | (simp [renPV, renV1, renC, e, hm, addG]))
    · have e : makeG g l = g := by simp [makeG, makeOk, h']
      repeat' first
        | (first | simp -implicitDefEqProofs only [h', go_sem] | (refine And.intro ?_ ?_; omega) | (refine And.intro (shr_bd ?_ ?_) ?_; omega; omega) | refine sl_list rfl ?_ | refine sd_list rfl ?_ | refine sl_str ?_ | refine sd_str ?_)
        | refine callL (iCopyGame_c 24 g (by omega)) rfl rfl rfl ?_
      exact fin_of (fun i => i) (fun i => 24) ⟨by simp [e, h', makeOk] <;> omega, by simp [e, h', makeOk] <;> omega, by simp [e, h', makeOk] <;> omega, by simp [e, h', makeOk] <;> omega, by simp [e, h', makeOk] <;> omega⟩ (by simp [e, h', makeOk] <;> omega) (by first | rfl | (simp [renPV, renV1, renC, e, h', makeOk]))
  · have e : makeG g l = g := by simp [makeG, makeOk, h]
    repeat' first
      | (first | simp -implicitDefEqProofs only [h, go_sem] | (refine And.intro ?_ ?_; omega) | (refine And.intro (shr_bd ?_ ?_) ?_; omega; omega) | refine sl_list rfl ?_ | refine sd_list rfl ?_ | refine sl_str ?_ | refine sd_str ?_)
      | refine callL (iCopyGame_c 24 g (by omega)) rfl rfl rfl ?_
    exact fin_of (fun i => i) (fun i => 24) ⟨by simp [e, h, makeOk] <;> omega, by simp [e, h, makeOk] <;> omega, by simp [e, h, makeOk] <;> omega, by simp [e, h, makeOk] <;> omega, by simp [e, h, makeOk] <;> omega⟩ (by simp [e, h, makeOk] <;> omega) (by first | rfl | (simp [renPV, renV1, renC, e, h, makeOk]))
end Go.Proofs.YtahnbliabllflaaGreatDoor
namespace Go.Proofs.YtahnbliabllflaaGreatDoor
open Go.PL
set_option linter.unusedSimpArgs false
def backG (g : Gm) : Gm := { g with j := g.j.dropLast, u := g.u + 1 }
def backOk (g : Gm) : Bool := gameOk g && (!decide (g.j.length = 0) && gameOk (backG g))
def backR (g : Gm) : Gm := if backOk g = true then backG g else g
theorem backG_in {g : Gm} (hg : GmIn g) : GmIn (backG g) := ⟨hg.x, by have := hg.j; simp [backG]; omega⟩
theorem back_map {g : Gm} : (g.j.map lineV).take (g.j.length - 1) = (backG g).j.map lineV := by
  simp [backG, List.dropLast_eq_take, List.map_take]
theorem gameOk_u {g : Gm} (h : gameOk g = true) : 0 ≤ g.u ∧ g.u ≤ 1000 := by
  simp only [gameOk, within, Bool.and_eq_true, decide_eq_true_eq] at h
  omega
set_option maxHeartbeats 2000000 in
theorem TakeBack_c (d : Nat) (g : Gm) (hg : GmIn g) (hn : g.j.length ≤ 1048576) : PC Tryz.prog 132 [] [.a (gmL g)] (.t [.a (gmC (backR g) (.o d)), .c (.v (.bool (backOk g)))]) ⟨[], [(d, ⟨86, 3, (backR g).j.map lineV, false, true⟩)]⟩ := by
  refine pc_of Tryz.func132 rfl (by kernel_rfl) _ Tryz.ntmps132 (by simp) ?_
  have h2 := backG_in hg
  have e4 := back_map (g := g)
  repeat' first
    | (first | simp -implicitDefEqProofs only [go_sem] | (refine And.intro ?_ ?_; omega) | (refine And.intro (shr_bd ?_ ?_) ?_; omega; omega) | refine sl_list rfl ?_ | refine sd_list rfl ?_ | refine sl_str ?_ | refine sd_str ?_)
    | refine callL (l37Copy_c 6 g (by omega)) rfl rfl rfl ?_
  refine callS (GameOk_c g hg) rfl rfl rfl ?_
  by_cases h : gameOk g = true
  · by_cases h0 : (g.j.length : Int) = 0
    · have hm : backOk g = false := by
        have : g.j.length = 0 := by omega
        simp [backOk, this]
      have e : backR g = g := by simp [backR, hm]
      (repeat' (first | simp -implicitDefEqProofs only [h, h0, go_sem] | (refine And.intro ?_ ?_; omega) | (refine And.intro (shr_bd ?_ ?_) ?_; omega; omega) | refine sl_list rfl ?_ | refine sd_list rfl ?_ | refine sl_str ?_ | refine sd_str ?_))
      exact fin_of (fun i => i) (fun i => 6) ⟨by simp [e, hm] <;> omega, by simp [e, hm] <;> omega, by simp [e, hm] <;> omega, by simp [e, hm] <;> omega, by simp [e, hm] <;> omega⟩ (by simp [e, hm] <;> omega) (by first | rfl | (simp [renPV, renV1, renC, e, hm]))
    · obtain ⟨u0, u1⟩ := gameOk_u h
      (repeat' (first | simp -implicitDefEqProofs only [h, h0, go_sem] | (refine And.intro ?_ ?_; omega) | (refine And.intro (shr_bd ?_ ?_) ?_; omega; omega) | refine sl_list rfl ?_ | refine sd_list rfl ?_ | refine sl_str ?_ | refine sd_str ?_))
      refine sl_own rfl rfl rfl rfl rfl rfl (by simp; omega) (by simp; omega) ?_
      (repeat' (first | simp -implicitDefEqProofs only [e4, go_sem] | (refine And.intro ?_ ?_; omega) | (refine And.intro (shr_bd ?_ ?_) ?_; omega; omega) | refine sl_list rfl ?_ | refine sd_list rfl ?_ | refine sl_str ?_ | refine sd_str ?_))
      refine callS (GameOk_c (backG g) h2) rfl rfl rfl ?_
      by_cases h' : gameOk (backG g) = true
      · have hb : backOk g = true := by
          have : ¬ g.j.length = 0 := by omega
          simp [backOk, h, h']; intro he; simp [he] at this
        have e : backR g = backG g := by simp [backR, hb]
        (repeat' (first | simp -implicitDefEqProofs only [h', go_sem] | (refine And.intro ?_ ?_; omega) | (refine And.intro (shr_bd ?_ ?_) ?_; omega; omega) | refine sl_list rfl ?_ | refine sd_list rfl ?_ | refine sl_str ?_ | refine sd_str ?_))
        exact fin_of (fun i => i) (fun i => 23) ⟨by simp [e, hb, backG] <;> omega, by simp [e, hb, backG] <;> omega, by simp [e, hb, backG] <;> omega, by simp [e, hb, backG] <;> omega, by simp [e, hb, backG] <;> omega⟩ (by simp [e, hb, backG] <;> omega) (by first | rfl | (simp [renPV, renV1, renC, e, hb, backG]))
      · have e : backR g = g := by simp [backR, backOk, h']
        repeat' first
          | (first | simp -implicitDefEqProofs only [h', go_sem] | (refine And.intro ?_ ?_; omega) | (refine And.intro (shr_bd ?_ ?_) ?_; omega; omega) | refine sl_list rfl ?_ | refine sd_list rfl ?_ | refine sl_str ?_ | refine sd_str ?_)
          | refine callL (l37Copy_c 33 g (by omega)) rfl rfl rfl ?_
        exact fin_of (fun i => i) (fun i => 33) ⟨by simp [e, h', backOk] <;> omega, by simp [e, h', backOk] <;> omega, by simp [e, h', backOk] <;> omega, by simp [e, h', backOk] <;> omega, by simp [e, h', backOk] <;> omega⟩ (by simp [e, h', backOk] <;> omega) (by first | rfl | (simp [renPV, renV1, renC, e, h', backOk]))
  · have e : backR g = g := by simp [backR, backOk, h]
    (repeat' (first | simp -implicitDefEqProofs only [h, go_sem] | (refine And.intro ?_ ?_; omega) | (refine And.intro (shr_bd ?_ ?_) ?_; omega; omega) | refine sl_list rfl ?_ | refine sd_list rfl ?_ | refine sl_str ?_ | refine sd_str ?_))
    exact fin_of (fun i => i) (fun i => 6) ⟨by simp [e, h, backOk] <;> omega, by simp [e, h, backOk] <;> omega, by simp [e, h, backOk] <;> omega, by simp [e, h, backOk] <;> omega, by simp [e, h, backOk] <;> omega⟩ (by simp [e, h, backOk] <;> omega) (by first | rfl | (simp [renPV, renV1, renC, e, h, backOk]))
set_option maxHeartbeats 2000000 in
theorem iTakeBack_c (d : Nat) (g : Gm) (hg : GmIn g) (hn : g.j.length ≤ 1048576) : PC Tryz.prog 120 [] [.a (gmL g)] (.t [.a (gmC (backR g) (.o d)), .c (.v (.bool (backOk g)))]) ⟨[], [(d, ⟨86, 3, (backR g).j.map lineV, false, true⟩)]⟩ := by
  refine pc_of Tryz.func120 rfl (by kernel_rfl) _ Tryz.ntmps120 (by simp) ?_
  have h2 := backG_in hg
  have e4 := back_map (g := g)
  repeat' first
    | (first | simp -implicitDefEqProofs only [go_sem] | (refine And.intro ?_ ?_; omega) | (refine And.intro (shr_bd ?_ ?_) ?_; omega; omega) | refine sl_list rfl ?_ | refine sd_list rfl ?_ | refine sl_str ?_ | refine sd_str ?_)
    | refine callL (iCopyGame_c 7 g (by omega)) rfl rfl rfl ?_
  by_cases h0 : (g.j.length : Int) = 0
  · have hm : backOk g = false := by
      have : g.j.length = 0 := by omega
      simp [backOk, this]
    have e : backR g = g := by simp [backR, hm]
    (repeat' (first | simp -implicitDefEqProofs only [h0, go_sem] | (refine And.intro ?_ ?_; omega) | (refine And.intro (shr_bd ?_ ?_) ?_; omega; omega) | refine sl_list rfl ?_ | refine sd_list rfl ?_ | refine sl_str ?_ | refine sd_str ?_))
    exact fin_of (fun i => i) (fun i => 7) ⟨by simp [e, hm] <;> omega, by simp [e, hm] <;> omega, by simp [e, hm] <;> omega, by simp [e, hm] <;> omega, by simp [e, hm] <;> omega⟩ (by simp [e, hm] <;> omega) (by first | rfl | (simp [renPV, renV1, renC, e, hm]))
  · (repeat' (first | simp -implicitDefEqProofs only [h0, go_sem] | (refine And.intro ?_ ?_; omega) | (refine And.intro (shr_bd ?_ ?_) ?_; omega; omega) | refine sl_list rfl ?_ | refine sd_list rfl ?_ | refine sl_str ?_ | refine sd_str ?_))
    refine callS (iGameOk_c g hg) rfl rfl rfl ?_
    by_cases h : gameOk g = true
    · obtain ⟨u0, u1⟩ := gameOk_u h
      (repeat' (first | simp -implicitDefEqProofs only [h, h0, go_sem] | (refine And.intro ?_ ?_; omega) | (refine And.intro (shr_bd ?_ ?_) ?_; omega; omega) | refine sl_list rfl ?_ | refine sd_list rfl ?_ | refine sl_str ?_ | refine sd_str ?_))
      refine sl_own rfl rfl rfl rfl rfl rfl (by simp; omega) (by simp; omega) ?_
      (repeat' (first | simp -implicitDefEqProofs only [e4, go_sem] | (refine And.intro ?_ ?_; omega) | (refine And.intro (shr_bd ?_ ?_) ?_; omega; omega) | refine sl_list rfl ?_ | refine sd_list rfl ?_ | refine sl_str ?_ | refine sd_str ?_))
      refine callS (iGameOk_c (backG g) h2) rfl rfl rfl ?_
      by_cases h' : gameOk (backG g) = true
      · have hb : backOk g = true := by
          have : ¬ g.j.length = 0 := by omega
          simp [backOk, h, h']; intro he; simp [he] at this
        have e : backR g = backG g := by simp [backR, hb]
        (repeat' (first | simp -implicitDefEqProofs only [h', go_sem] | (refine And.intro ?_ ?_; omega) | (refine And.intro (shr_bd ?_ ?_) ?_; omega; omega) | refine sl_list rfl ?_ | refine sd_list rfl ?_ | refine sl_str ?_ | refine sd_str ?_))
        exact fin_of (fun i => i) (fun i => 23) ⟨by simp [e, hb, backG] <;> omega, by simp [e, hb, backG] <;> omega, by simp [e, hb, backG] <;> omega, by simp [e, hb, backG] <;> omega, by simp [e, hb, backG] <;> omega⟩ (by simp [e, hb, backG] <;> omega) (by first | rfl | (simp [renPV, renV1, renC, e, hb, backG]))
      · have e : backR g = g := by simp [backR, backOk, h']
        repeat' first
          | (first | simp -implicitDefEqProofs only [h', go_sem] | (refine And.intro ?_ ?_; omega) | (refine And.intro (shr_bd ?_ ?_) ?_; omega; omega) | refine sl_list rfl ?_ | refine sd_list rfl ?_ | refine sl_str ?_ | refine sd_str ?_)
          | refine callL (iCopyGame_c 33 g (by omega)) rfl rfl rfl ?_
        exact fin_of (fun i => i) (fun i => 33) ⟨by simp [e, h', backOk] <;> omega, by simp [e, h', backOk] <;> omega, by simp [e, h', backOk] <;> omega, by simp [e, h', backOk] <;> omega, by simp [e, h', backOk] <;> omega⟩ (by simp [e, h', backOk] <;> omega) (by first | rfl | (simp [renPV, renV1, renC, e, h', backOk]))
    · have e : backR g = g := by simp [backR, backOk, h]
      (repeat' (first | simp -implicitDefEqProofs only [h, go_sem] | (refine And.intro ?_ ?_; omega) | (refine And.intro (shr_bd ?_ ?_) ?_; omega; omega) | refine sl_list rfl ?_ | refine sd_list rfl ?_ | refine sl_str ?_ | refine sd_str ?_))
      exact fin_of (fun i => i) (fun i => 7) ⟨by simp [e, h, backOk] <;> omega, by simp [e, h, backOk] <;> omega, by simp [e, h, backOk] <;> omega, by simp [e, h, backOk] <;> omega, by simp [e, h, backOk] <;> omega⟩ (by simp [e, h, backOk] <;> omega) (by first | rfl | (simp [renPV, renV1, renC, e, h, backOk]))
end Go.Proofs.YtahnbliabllflaaGreatDoor
namespace Go.Proofs.YtahnbliabllflaaGreatDoor
open Go.PL
set_option linter.unusedSimpArgs false
structure Ck where
  a : Int
  b : Int
  c : Int
structure Tb where
  g : Gm
  c : Ck
  n : Int
  r : List Rec
abbrev ckC (c : Ck) : List C := [.v (.int .i64 c.a), .v (.int .i64 c.b), .v (.int .i64 c.c)]
abbrev tbC (t : Tb) (j r : C) : List C := gmC t.g j ++ [.v (.int .i64 t.c.a), .v (.int .i64 t.c.b), .v (.int .i64 t.c.c), .v (.int .i64 t.n), r]
abbrev tbL (t : Tb) : List C := tbC t (.l 3 (t.g.j.map lineV)) (.l 4 (t.r.map recV))
def clockOk (c : Ck) : Bool := within c.a 0 100000 && (within c.b 0 600 && within c.c 0 1000)
theorem ClockOk_c (c : Ck) : PC Tryz.prog 126 [] [.a (ckC c)] (vB (clockOk c)) ⟨[], []⟩ := by
  refine pc_of Tryz.func126 rfl (by kernel_rfl) _ Tryz.ntmps126 (by simp) ?_
  by_cases h1 : within c.a 0 100000 = true
  · by_cases h2 : within c.b 0 600 = true
    · repeat' first
        | (first | simp -implicitDefEqProofs only [h1, h2, go_sem] | (refine And.intro ?_ ?_; omega) | (refine And.intro (shr_bd ?_ ?_) ?_; omega; omega) | refine sl_list rfl ?_ | refine sd_list rfl ?_ | refine sl_str ?_ | refine sd_str ?_)
        | refine callS (l01In_c _ _ _) rfl rfl rfl ?_
      exact fin_scal rfl (by simp [clockOk, h1, h2])
    · repeat' first
        | (first | simp -implicitDefEqProofs only [h1, h2, go_sem] | (refine And.intro ?_ ?_; omega) | (refine And.intro (shr_bd ?_ ?_) ?_; omega; omega) | refine sl_list rfl ?_ | refine sd_list rfl ?_ | refine sl_str ?_ | refine sd_str ?_)
        | refine callS (l01In_c _ _ _) rfl rfl rfl ?_
      exact fin_scal rfl (by simp [clockOk, h2])
  · repeat' first
      | (first | simp -implicitDefEqProofs only [h1, go_sem] | (refine And.intro ?_ ?_; omega) | (refine And.intro (shr_bd ?_ ?_) ?_; omega; omega) | refine sl_list rfl ?_ | refine sd_list rfl ?_ | refine sl_str ?_ | refine sd_str ?_)
      | refine callS (l01In_c _ _ _) rfl rfl rfl ?_
    exact fin_scal rfl (by simp [clockOk, h1])
theorem iClockOk_c (c : Ck) : PC Tryz.prog 75 [] [.a (ckC c)] (vB (clockOk c)) ⟨[], []⟩ := by
  refine pc_of Tryz.func75 rfl (by kernel_rfl) _ Tryz.ntmps75 (by simp) ?_
  by_cases h1 : within c.a 0 100000 = true
  · by_cases h2 : within c.b 0 600 = true
    · repeat' first
        | (first | simp -implicitDefEqProofs only [h1, h2, go_sem] | (refine And.intro ?_ ?_; omega) | (refine And.intro (shr_bd ?_ ?_) ?_; omega; omega) | refine sl_list rfl ?_ | refine sd_list rfl ?_ | refine sl_str ?_ | refine sd_str ?_)
        | refine callS (within_c _ _ _) rfl rfl rfl ?_
      exact fin_scal rfl (by simp [clockOk, h1, h2])
    · repeat' first
        | (first | simp -implicitDefEqProofs only [h1, h2, go_sem] | (refine And.intro ?_ ?_; omega) | (refine And.intro (shr_bd ?_ ?_) ?_; omega; omega) | refine sl_list rfl ?_ | refine sd_list rfl ?_ | refine sl_str ?_ | refine sd_str ?_)
        | refine callS (within_c _ _ _) rfl rfl rfl ?_
      exact fin_scal rfl (by simp [clockOk, h2])
  · repeat' first
      | (first | simp -implicitDefEqProofs only [h1, go_sem] | (refine And.intro ?_ ?_; omega) | (refine And.intro (shr_bd ?_ ?_) ?_; omega; omega) | refine sl_list rfl ?_ | refine sd_list rfl ?_ | refine sl_str ?_ | refine sd_str ?_)
      | refine callS (within_c _ _ _) rfl rfl rfl ?_
    exact fin_scal rfl (by simp [clockOk, h1])
structure TbIn (t : Tb) : Prop where
  g : GmIn t.g
  r : t.r.length ≤ 1048576
def tableOk (t : Tb) : Bool := gameOk t.g && (clockOk t.c && (recordsOk t.r && within t.n 1 999))
set_option maxHeartbeats 2000000 in
theorem TableOk_c (t : Tb) (ht : TbIn t) : PC Tryz.prog 65 [] [.a (tbL t)] (vB (tableOk t)) ⟨[], []⟩ := by
  refine pc_of Tryz.func65 rfl (by kernel_rfl) _ Tryz.ntmps65 (by simp) ?_
  (repeat' (first | simp -implicitDefEqProofs only [go_sem] | (refine And.intro ?_ ?_; omega) | (refine And.intro (shr_bd ?_ ?_) ?_; omega; omega) | refine sl_list rfl ?_ | refine sd_list rfl ?_ | refine sl_str ?_ | refine sd_str ?_))
  refine callS (GameOk_c t.g ht.g) rfl rfl rfl ?_
  by_cases h1 : gameOk t.g = true
  · (repeat' (first | simp -implicitDefEqProofs only [h1, go_sem] | (refine And.intro ?_ ?_; omega) | (refine And.intro (shr_bd ?_ ?_) ?_; omega; omega) | refine sl_list rfl ?_ | refine sd_list rfl ?_ | refine sl_str ?_ | refine sd_str ?_))
    refine callS (ClockOk_c t.c) rfl rfl rfl ?_
    by_cases h2 : clockOk t.c = true
    · (repeat' (first | simp -implicitDefEqProofs only [h2, go_sem] | (refine And.intro ?_ ?_; omega) | (refine And.intro (shr_bd ?_ ?_) ?_; omega; omega) | refine sl_list rfl ?_ | refine sd_list rfl ?_ | refine sl_str ?_ | refine sd_str ?_))
      refine callS (RecordsOk_c t.r ht.r) rfl rfl rfl ?_
      by_cases h3 : recordsOk t.r = true
      · (repeat' (first | simp -implicitDefEqProofs only [h3, go_sem] | (refine And.intro ?_ ?_; omega) | (refine And.intro (shr_bd ?_ ?_) ?_; omega; omega) | refine sl_list rfl ?_ | refine sd_list rfl ?_ | refine sl_str ?_ | refine sd_str ?_))
        refine callS (l01In_c _ _ _) rfl rfl rfl ?_
        (repeat' (first | simp -implicitDefEqProofs only [go_sem] | (refine And.intro ?_ ?_; omega) | (refine And.intro (shr_bd ?_ ?_) ?_; omega; omega) | refine sl_list rfl ?_ | refine sd_list rfl ?_ | refine sl_str ?_ | refine sd_str ?_))
        exact fin_scal rfl (by simp [tableOk, h1, h2, h3])
      · (repeat' (first | simp -implicitDefEqProofs only [h3, go_sem] | (refine And.intro ?_ ?_; omega) | (refine And.intro (shr_bd ?_ ?_) ?_; omega; omega) | refine sl_list rfl ?_ | refine sd_list rfl ?_ | refine sl_str ?_ | refine sd_str ?_))
        exact fin_scal rfl (by simp [tableOk, h3])
    · (repeat' (first | simp -implicitDefEqProofs only [h2, go_sem] | (refine And.intro ?_ ?_; omega) | (refine And.intro (shr_bd ?_ ?_) ?_; omega; omega) | refine sl_list rfl ?_ | refine sd_list rfl ?_ | refine sl_str ?_ | refine sd_str ?_))
      exact fin_scal rfl (by simp [tableOk, h2])
  · (repeat' (first | simp -implicitDefEqProofs only [h1, go_sem] | (refine And.intro ?_ ?_; omega) | (refine And.intro (shr_bd ?_ ?_) ?_; omega; omega) | refine sl_list rfl ?_ | refine sd_list rfl ?_ | refine sl_str ?_ | refine sd_str ?_))
    exact fin_scal rfl (by simp [tableOk, h1])
set_option maxHeartbeats 2000000 in
theorem iTableOk_c (t : Tb) (ht : TbIn t) : PC Tryz.prog 25 [] [.a (tbL t)] (vB (tableOk t)) ⟨[], []⟩ := by
  refine pc_of Tryz.func25 rfl (by kernel_rfl) _ Tryz.ntmps25 (by simp) ?_
  (repeat' (first | simp -implicitDefEqProofs only [go_sem] | (refine And.intro ?_ ?_; omega) | (refine And.intro (shr_bd ?_ ?_) ?_; omega; omega) | refine sl_list rfl ?_ | refine sd_list rfl ?_ | refine sl_str ?_ | refine sd_str ?_))
  refine callS (iGameOk_c t.g ht.g) rfl rfl rfl ?_
  by_cases h1 : gameOk t.g = true
  · (repeat' (first | simp -implicitDefEqProofs only [h1, go_sem] | (refine And.intro ?_ ?_; omega) | (refine And.intro (shr_bd ?_ ?_) ?_; omega; omega) | refine sl_list rfl ?_ | refine sd_list rfl ?_ | refine sl_str ?_ | refine sd_str ?_))
    refine callS (iClockOk_c t.c) rfl rfl rfl ?_
    by_cases h2 : clockOk t.c = true
    · (repeat' (first | simp -implicitDefEqProofs only [h2, go_sem] | (refine And.intro ?_ ?_; omega) | (refine And.intro (shr_bd ?_ ?_) ?_; omega; omega) | refine sl_list rfl ?_ | refine sd_list rfl ?_ | refine sl_str ?_ | refine sd_str ?_))
      refine callS (iRecordsOk_c t.r ht.r) rfl rfl rfl ?_
      by_cases h3 : recordsOk t.r = true
      · (repeat' (first | simp -implicitDefEqProofs only [h3, go_sem] | (refine And.intro ?_ ?_; omega) | (refine And.intro (shr_bd ?_ ?_) ?_; omega; omega) | refine sl_list rfl ?_ | refine sd_list rfl ?_ | refine sl_str ?_ | refine sd_str ?_))
        refine callS (within_c _ _ _) rfl rfl rfl ?_
        (repeat' (first | simp -implicitDefEqProofs only [go_sem] | (refine And.intro ?_ ?_; omega) | (refine And.intro (shr_bd ?_ ?_) ?_; omega; omega) | refine sl_list rfl ?_ | refine sd_list rfl ?_ | refine sl_str ?_ | refine sd_str ?_))
        exact fin_scal rfl (by simp [tableOk, h1, h2, h3])
      · (repeat' (first | simp -implicitDefEqProofs only [h3, go_sem] | (refine And.intro ?_ ?_; omega) | (refine And.intro (shr_bd ?_ ?_) ?_; omega; omega) | refine sl_list rfl ?_ | refine sd_list rfl ?_ | refine sl_str ?_ | refine sd_str ?_))
        exact fin_scal rfl (by simp [tableOk, h3])
    · (repeat' (first | simp -implicitDefEqProofs only [h2, go_sem] | (refine And.intro ?_ ?_; omega) | (refine And.intro (shr_bd ?_ ?_) ?_; omega; omega) | refine sl_list rfl ?_ | refine sd_list rfl ?_ | refine sl_str ?_ | refine sd_str ?_))
      exact fin_scal rfl (by simp [tableOk, h2])
  · (repeat' (first | simp -implicitDefEqProofs only [h1, go_sem] | (refine And.intro ?_ ?_; omega) | (refine And.intro (shr_bd ?_ ?_) ?_; omega; omega) | refine sl_list rfl ?_ | refine sd_list rfl ?_ | refine sl_str ?_ | refine sd_str ?_))
    exact fin_scal rfl (by simp [tableOk, h1])
end Go.Proofs.YtahnbliabllflaaGreatDoor
namespace Go.Proofs.YtahnbliabllflaaGreatDoor
open Go.PL
set_option linter.unusedSimpArgs false
def szT (t : Tb) (left : Int) : Int := if (t.g.j.length : Int) ≤ left then (if (t.r.length : Int) ≤ left - t.g.j.length then left - t.g.j.length - t.r.length else -1) else -1
end Go.Proofs.YtahnbliabllflaaGreatDoor
