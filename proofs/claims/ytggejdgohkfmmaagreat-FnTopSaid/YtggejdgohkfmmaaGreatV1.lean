/-
  What the functions compute that copy a game and make a jump in it.
  What the functions compute that make a jump in a game.
  What the functions compute that take a jump back.
-/
import Derived.Test.YtggejdgohkfmmaaGreatU3
namespace Go.Proofs.YtggejdgohkfmmaaGreat
open Go.PL
set_option linter.unusedSimpArgs false
theorem iCopyJumps_c (d : Nat) (ls : List Ln) (hn : ls.length ≤ 4194304) : PC Tryz.prog 97 [] [.c (.l 3 (ls.map lineV))] (.s (.c (.o d))) ⟨[], [(d, ⟨58, 3, ls.map lineV, false, true⟩)]⟩ := by
  refine pc_of Tryz.func97 rfl (by kernel_rfl) _ Tryz.ntmps97 (by simp) ?_
  (repeat' (first | simp -implicitDefEqProofs only [go_sem] | (refine And.intro ?_ ?_; omega) | (refine And.intro (shr_bd ?_ ?_) ?_; omega; omega) | refine sl_list rfl ?_ | refine sd_list rfl ?_ | refine sl_str ?_ | refine sd_str ?_))
  exact fin_of (fun i => i) (fun i => 5) ⟨by simp [boxesR, listsR, csR, renC, keyC, optK, fnd, envR, St.get, keyPV, keyV1, renPV, renV1, hasKey, made_zero] <;> omega, by simp [boxesR, listsR, csR, renC, keyC, optK, fnd, envR, St.get, keyPV, keyV1, renPV, renV1, hasKey, made_zero] <;> omega, by simp [boxesR, listsR, csR, renC, keyC, optK, fnd, envR, St.get, keyPV, keyV1, renPV, renV1, hasKey, made_zero] <;> omega, by simp [boxesR, listsR, csR, renC, keyC, optK, fnd, envR, St.get, keyPV, keyV1, renPV, renV1, hasKey, made_zero] <;> omega, by simp [boxesR, listsR, csR, renC, keyC, optK, fnd, envR, St.get, keyPV, keyV1, renPV, renV1, hasKey, made_zero] <;> omega⟩ (by simp [boxesR, listsR, csR, renC, keyC, optK, fnd, envR, St.get, keyPV, keyV1, renPV, renV1, hasKey, made_zero] <;> omega) rfl
theorem iCopyGame_c (d : Nat) (g : Gm) (hn : g.j.length ≤ 4194304) : PC Tryz.prog 58 [] [.a (gmL g)] (.s (.a (gmC g (.o d)))) ⟨[], [(d, ⟨58, 3, g.j.map lineV, false, true⟩)]⟩ := by
  refine pc_of Tryz.func58 rfl (by kernel_rfl) _ Tryz.ntmps58 (by simp) ?_
  repeat' first
    | (first | simp -implicitDefEqProofs only [go_sem] | (refine And.intro ?_ ?_; omega) | (refine And.intro (shr_bd ?_ ?_) ?_; omega; omega) | refine sl_list rfl ?_ | refine sd_list rfl ?_ | refine sl_str ?_ | refine sd_str ?_)
    | refine callL (iCopyJumps_c 5 g.j hn) rfl rfl rfl ?_
  exact fin_of (fun i => i) (fun i => 5) ⟨by simp [boxesR, listsR, csR, renC, keyC, optK, fnd, envR, St.get, keyPV, keyV1, renPV, renV1, hasKey, made_zero] <;> omega, by simp [boxesR, listsR, csR, renC, keyC, optK, fnd, envR, St.get, keyPV, keyV1, renPV, renV1, hasKey, made_zero] <;> omega, by simp [boxesR, listsR, csR, renC, keyC, optK, fnd, envR, St.get, keyPV, keyV1, renPV, renV1, hasKey, made_zero] <;> omega, by simp [boxesR, listsR, csR, renC, keyC, optK, fnd, envR, St.get, keyPV, keyV1, renPV, renV1, hasKey, made_zero] <;> omega, by simp [boxesR, listsR, csR, renC, keyC, optK, fnd, envR, St.get, keyPV, keyV1, renPV, renV1, hasKey, made_zero] <;> omega⟩ (by simp [boxesR, listsR, csR, renC, keyC, optK, fnd, envR, St.get, keyPV, keyV1, renPV, renV1, hasKey, made_zero] <;> omega) rfl
theorem l37Copy_c (d : Nat) (g : Gm) (hn : g.j.length ≤ 4194304) : PC Tryz.prog 69 [] [.a (gmL g)] (.s (.a (gmC g (.o d)))) ⟨[], [(d, ⟨58, 3, g.j.map lineV, false, true⟩)]⟩ := by
  refine pc_of Tryz.func69 rfl (by kernel_rfl) _ Tryz.ntmps69 (by simp) ?_
  repeat' first
    | (first | simp -implicitDefEqProofs only [go_sem] | (refine And.intro ?_ ?_; omega) | (refine And.intro (shr_bd ?_ ?_) ?_; omega; omega) | refine sl_list rfl ?_ | refine sd_list rfl ?_ | refine sl_str ?_ | refine sd_str ?_)
    | refine draw_stepY Tryz.pl_follows (by kernel_rfl) ?_
  exact fin_of (fun i => i) (fun i => 8) ⟨by simp [boxesR, listsR, csR, renC, keyC, optK, fnd, envR, St.get, keyPV, keyV1, renPV, renV1, hasKey, made_zero] <;> omega, by simp [boxesR, listsR, csR, renC, keyC, optK, fnd, envR, St.get, keyPV, keyV1, renPV, renV1, hasKey, made_zero] <;> omega, by simp [boxesR, listsR, csR, renC, keyC, optK, fnd, envR, St.get, keyPV, keyV1, renPV, renV1, hasKey, made_zero] <;> omega, by simp [boxesR, listsR, csR, renC, keyC, optK, fnd, envR, St.get, keyPV, keyV1, renPV, renV1, hasKey, made_zero] <;> omega, by simp [boxesR, listsR, csR, renC, keyC, optK, fnd, envR, St.get, keyPV, keyV1, renPV, renV1, hasKey, made_zero] <;> omega⟩ (by simp [boxesR, listsR, csR, renC, keyC, optK, fnd, envR, St.get, keyPV, keyV1, renPV, renV1, hasKey, made_zero] <;> omega) rfl
/-- the game after one more jump -/
def addG (g : Gm) (l : Ln) : Gm := { g with j := g.j ++ [l] }
def makeOk (g : Gm) (l : Ln) : Bool := gameOk g && gameOk (addG g l)
def makeG (g : Gm) (l : Ln) : Gm := if makeOk g l = true then addG g l else g
theorem addG_map {g : Gm} {l : Ln} : g.j.map lineV ++ [lineV l] = (addG g l).j.map lineV := by simp [addG]
end Go.Proofs.YtggejdgohkfmmaaGreat
namespace Go.Proofs.YtggejdgohkfmmaaGreat
open Go.PL
set_option linter.unusedSimpArgs false
theorem addG_in {g : Gm} {l : Ln} (hg : GmIn g) (hn : g.j.length ≤ 4194304) : GmIn (addG g l) := ⟨hg.x, by simp [addG]; omega⟩
theorem makeG_len {g : Gm} {l : Ln} (hn : g.j.length ≤ 1048576) : (makeG g l).j.length ≤ 1048577 := by
  unfold makeG addG
  split
  · simp; omega
  · omega
theorem list_snoc {g : Gm} {l : Ln} : g.j.map lineV ++ [.agg #[.int .i64 l.f, .int .i64 l.o, .int .i64 l.t]] = (addG g l).j.map lineV := by simp [addG, lineV]
set_option maxHeartbeats 2000000 in
theorem MakeJump_c (d : Nat) (g : Gm) (l : Ln) (hg : GmIn g) (hn : g.j.length ≤ 1048576) : PC Tryz.prog 75 [] [.a (gmL g), .a (lineC l)] (.t [.a (gmC (makeG g l) (.o d)), .c (.v (.bool (makeOk g l)))]) ⟨[], [(d, ⟨58, 3, (makeG g l).j.map lineV, false, true⟩)]⟩ := by
  refine pc_of Tryz.func75 rfl (by kernel_rfl) _ Tryz.ntmps75 (by simp) ?_
  have h2 := addG_in (l := l) hg (by omega)
  have e4 := list_snoc (g := g) (l := l)
  repeat' first
    | (first | simp -implicitDefEqProofs only [go_sem] | (refine And.intro ?_ ?_; omega) | (refine And.intro (shr_bd ?_ ?_) ?_; omega; omega) | refine sl_list rfl ?_ | refine sd_list rfl ?_ | refine sl_str ?_ | refine sd_str ?_)
    | refine callL (l37Copy_c 8 g (by omega)) rfl rfl rfl ?_
  refine callS (GameOk_c g hg) rfl rfl rfl ?_
  by_cases h : gameOk g = true
  · (repeat' (first | simp -implicitDefEqProofs only [h, go_sem] | (refine And.intro ?_ ?_; omega) | (refine And.intro (shr_bd ?_ ?_) ?_; omega; omega) | refine sl_list rfl ?_ | refine sd_list rfl ?_ | refine sl_str ?_ | refine sd_str ?_))
    simp only [e4]
    refine callS (GameOk_c (addG g l) h2) rfl rfl rfl ?_
    by_cases h' : gameOk (addG g l) = true
    · have e : makeG g l = addG g l := by simp [makeG, makeOk, h, h']
      have hm : makeOk g l = true := by simp [makeOk, h, h']
      (repeat' (first | simp -implicitDefEqProofs only [h', go_sem] | (refine And.intro ?_ ?_; omega) | (refine And.intro (shr_bd ?_ ?_) ?_; omega; omega) | refine sl_list rfl ?_ | refine sd_list rfl ?_ | refine sl_str ?_ | refine sd_str ?_))
      exact fin_of (fun i => i) (fun i => 13) ⟨by simp [boxesR, listsR, csR, renC, keyC, optK, fnd, envR, St.get, keyPV, keyV1, renPV, renV1, hasKey, made_zero, e, hm, addG] <;> omega, by simp [boxesR, listsR, csR, renC, keyC, optK, fnd, envR, St.get, keyPV, keyV1, renPV, renV1, hasKey, made_zero, e, hm, addG] <;> omega, by simp [boxesR, listsR, csR, renC, keyC, optK, fnd, envR, St.get, keyPV, keyV1, renPV, renV1, hasKey, made_zero, e, hm, addG] <;> omega, by simp [boxesR, listsR, csR, renC, keyC, optK, fnd, envR, St.get, keyPV, keyV1, renPV, renV1, hasKey, made_zero, e, hm, addG] <;> omega, by simp [boxesR, listsR, csR, renC, keyC, optK, fnd, envR, St.get, keyPV, keyV1, renPV, renV1, hasKey, made_zero, e, hm, addG] <;> omega⟩ (by simp [boxesR, listsR, csR, renC, keyC, optK, fnd, envR, St.get, keyPV, keyV1, renPV, renV1, hasKey, made_zero, e, hm, addG] <;> omega) (by first | rfl | (simp [renPV, renV1, renC, e, hm, addG]))
    · have e : makeG g l = g := by simp [makeG, makeOk, h']
      repeat' first
        | (first | simp -implicitDefEqProofs only [h', go_sem] | (refine And.intro ?_ ?_; omega) | (refine And.intro (shr_bd ?_ ?_) ?_; omega; omega) | refine sl_list rfl ?_ | refine sd_list rfl ?_ | refine sl_str ?_ | refine sd_str ?_)
        | refine callL (l37Copy_c 24 g (by omega)) rfl rfl rfl ?_
      exact fin_of (fun i => i) (fun i => 24) ⟨by simp [boxesR, listsR, csR, renC, keyC, optK, fnd, envR, St.get, keyPV, keyV1, renPV, renV1, hasKey, made_zero, e, h', makeOk] <;> omega, by simp [boxesR, listsR, csR, renC, keyC, optK, fnd, envR, St.get, keyPV, keyV1, renPV, renV1, hasKey, made_zero, e, h', makeOk] <;> omega, by simp [boxesR, listsR, csR, renC, keyC, optK, fnd, envR, St.get, keyPV, keyV1, renPV, renV1, hasKey, made_zero, e, h', makeOk] <;> omega, by simp [boxesR, listsR, csR, renC, keyC, optK, fnd, envR, St.get, keyPV, keyV1, renPV, renV1, hasKey, made_zero, e, h', makeOk] <;> omega, by simp [boxesR, listsR, csR, renC, keyC, optK, fnd, envR, St.get, keyPV, keyV1, renPV, renV1, hasKey, made_zero, e, h', makeOk] <;> omega⟩ (by simp [boxesR, listsR, csR, renC, keyC, optK, fnd, envR, St.get, keyPV, keyV1, renPV, renV1, hasKey, made_zero, e, h', makeOk] <;> omega) (by first | rfl | (simp [renPV, renV1, renC, e, h', makeOk]))
  · have e : makeG g l = g := by simp [makeG, makeOk, h]
    repeat' first
      | (first | simp -implicitDefEqProofs only [h, go_sem] | (refine And.intro ?_ ?_; omega) | (refine And.intro (shr_bd ?_ ?_) ?_; omega; omega) | refine sl_list rfl ?_ | refine sd_list rfl ?_ | refine sl_str ?_ | refine sd_str ?_)
      | refine callL (l37Copy_c 24 g (by omega)) rfl rfl rfl ?_
    exact fin_of (fun i => i) (fun i => 24) ⟨by simp [boxesR, listsR, csR, renC, keyC, optK, fnd, envR, St.get, keyPV, keyV1, renPV, renV1, hasKey, made_zero, e, h, makeOk] <;> omega, by simp [boxesR, listsR, csR, renC, keyC, optK, fnd, envR, St.get, keyPV, keyV1, renPV, renV1, hasKey, made_zero, e, h, makeOk] <;> omega, by simp [boxesR, listsR, csR, renC, keyC, optK, fnd, envR, St.get, keyPV, keyV1, renPV, renV1, hasKey, made_zero, e, h, makeOk] <;> omega, by simp [boxesR, listsR, csR, renC, keyC, optK, fnd, envR, St.get, keyPV, keyV1, renPV, renV1, hasKey, made_zero, e, h, makeOk] <;> omega, by simp [boxesR, listsR, csR, renC, keyC, optK, fnd, envR, St.get, keyPV, keyV1, renPV, renV1, hasKey, made_zero, e, h, makeOk] <;> omega⟩ (by simp [boxesR, listsR, csR, renC, keyC, optK, fnd, envR, St.get, keyPV, keyV1, renPV, renV1, hasKey, made_zero, e, h, makeOk] <;> omega) (by first | rfl | (simp [renPV, renV1, renC, e, h, makeOk]))
set_option maxHeartbeats 2000000 in
theorem iMakeJump_c (d : Nat) (g : Gm) (l : Ln) (hg : GmIn g) (hn : g.j.length ≤ 1048576) : PC Tryz.prog 61 [] [.a (gmL g), .a (lineC l)] (.t [.a (gmC (makeG g l) (.o d)), .c (.v (.bool (makeOk g l)))]) ⟨[], [(d, ⟨58, 3, (makeG g l).j.map lineV, false, true⟩)]⟩ := by
  refine pc_of Tryz.func61 rfl (by kernel_rfl) _ Tryz.ntmps61 (by simp) ?_
  have h2 := addG_in (l := l) hg (by omega)
  have e4 := list_snoc (g := g) (l := l)
  repeat' first
    | (first | simp -implicitDefEqProofs only [go_sem] | (refine And.intro ?_ ?_; omega) | (refine And.intro (shr_bd ?_ ?_) ?_; omega; omega) | refine sl_list rfl ?_ | refine sd_list rfl ?_ | refine sl_str ?_ | refine sd_str ?_)
    | refine callL (iCopyGame_c 8 g (by omega)) rfl rfl rfl ?_
  refine callS (iGameOk_c g hg) rfl rfl rfl ?_
  by_cases h : gameOk g = true
  · (repeat' (first | simp -implicitDefEqProofs only [h, go_sem] | (refine And.intro ?_ ?_; omega) | (refine And.intro (shr_bd ?_ ?_) ?_; omega; omega) | refine sl_list rfl ?_ | refine sd_list rfl ?_ | refine sl_str ?_ | refine sd_str ?_))
    simp only [e4]
    refine callS (iGameOk_c (addG g l) h2) rfl rfl rfl ?_
    by_cases h' : gameOk (addG g l) = true
    · have e : makeG g l = addG g l := by simp [makeG, makeOk, h, h']
      have hm : makeOk g l = true := by simp [makeOk, h, h']
      (repeat' (first | simp -implicitDefEqProofs only [h', go_sem] | (refine And.intro ?_ ?_; omega) | (refine And.intro (shr_bd ?_ ?_) ?_; omega; omega) | refine sl_list rfl ?_ | refine sd_list rfl ?_ | refine sl_str ?_ | refine sd_str ?_))
      exact fin_of (fun i => i) (fun i => 13) ⟨by simp [boxesR, listsR, csR, renC, keyC, optK, fnd, envR, St.get, keyPV, keyV1, renPV, renV1, hasKey, made_zero, e, hm, addG] <;> omega, by simp [boxesR, listsR, csR, renC, keyC, optK, fnd, envR, St.get, keyPV, keyV1, renPV, renV1, hasKey, made_zero, e, hm, addG] <;> omega, by simp [boxesR, listsR, csR, renC, keyC, optK, fnd, envR, St.get, keyPV, keyV1, renPV, renV1, hasKey, made_zero, e, hm, addG] <;> omega, by simp [boxesR, listsR, csR, renC, keyC, optK, fnd, envR, St.get, keyPV, keyV1, renPV, renV1, hasKey, made_zero, e, hm, addG] <;> omega, by simp [boxesR, listsR, csR, renC, keyC, optK, fnd, envR, St.get, keyPV, keyV1, renPV, renV1, hasKey, made_zero, e, hm, addG] <;> omega⟩ (by simp [boxesR, listsR, csR, renC, keyC, optK, fnd, envR, St.get, keyPV, keyV1, renPV, renV1, hasKey, made_zero, e, hm, addG] <;> omega) (by first | rfl | (simp [renPV, renV1, renC, e, hm, addG]))
    · have e : makeG g l = g := by simp [makeG, makeOk, h']
      repeat' first
        | (first | simp -implicitDefEqProofs only [h', go_sem] | (refine And.intro ?_ ?_; omega) | (refine And.intro (shr_bd ?_ ?_) ?_; omega; omega) | refine sl_list rfl ?_ | refine sd_list rfl ?_ | refine sl_str ?_ | refine sd_str ?_)
        | refine callL (iCopyGame_c 24 g (by omega)) rfl rfl rfl ?_
      exact fin_of (fun i => i) (fun i => 24) ⟨by simp [boxesR, listsR, csR, renC, keyC, optK, fnd, envR, St.get, keyPV, keyV1, renPV, renV1, hasKey, made_zero, e, h', makeOk] <;> omega, by simp [boxesR, listsR, csR, renC, keyC, optK, fnd, envR, St.get, keyPV, keyV1, renPV, renV1, hasKey, made_zero, e, h', makeOk] <;> omega, by simp [boxesR, listsR, csR, renC, keyC, optK, fnd, envR, St.get, keyPV, keyV1, renPV, renV1, hasKey, made_zero, e, h', makeOk] <;> omega, by simp [boxesR, listsR, csR, renC, keyC, optK, fnd, envR, St.get, keyPV, keyV1, renPV, renV1, hasKey, made_zero, e, h', makeOk] <;> omega, by simp [boxesR, listsR, csR, renC, keyC, optK, fnd, envR, St.get, keyPV, keyV1, renPV, renV1, hasKey, made_zero, e, h', makeOk] <;> omega⟩ (by simp [boxesR, listsR, csR, renC, keyC, optK, fnd, envR, St.get, keyPV, keyV1, renPV, renV1, hasKey, made_zero, e, h', makeOk] <;> omega) (by first | rfl | (simp [renPV, renV1, renC, e, h', makeOk]))
  · have e : makeG g l = g := by simp [makeG, makeOk, h]
    repeat' first
      | (first | simp -implicitDefEqProofs only [h, go_sem] | (refine And.intro ?_ ?_; omega) | (refine And.intro (shr_bd ?_ ?_) ?_; omega; omega) | refine sl_list rfl ?_ | refine sd_list rfl ?_ | refine sl_str ?_ | refine sd_str ?_)
      | refine callL (iCopyGame_c 24 g (by omega)) rfl rfl rfl ?_
    exact fin_of (fun i => i) (fun i => 24) ⟨by simp [boxesR, listsR, csR, renC, keyC, optK, fnd, envR, St.get, keyPV, keyV1, renPV, renV1, hasKey, made_zero, e, h, makeOk] <;> omega, by simp [boxesR, listsR, csR, renC, keyC, optK, fnd, envR, St.get, keyPV, keyV1, renPV, renV1, hasKey, made_zero, e, h, makeOk] <;> omega, by simp [boxesR, listsR, csR, renC, keyC, optK, fnd, envR, St.get, keyPV, keyV1, renPV, renV1, hasKey, made_zero, e, h, makeOk] <;> omega, by simp [boxesR, listsR, csR, renC, keyC, optK, fnd, envR, St.get, keyPV, keyV1, renPV, renV1, hasKey, made_zero, e, h, makeOk] <;> omega, by simp [boxesR, listsR, csR, renC, keyC, optK, fnd, envR, St.get, keyPV, keyV1, renPV, renV1, hasKey, made_zero, e, h, makeOk] <;> omega⟩ (by simp [boxesR, listsR, csR, renC, keyC, optK, fnd, envR, St.get, keyPV, keyV1, renPV, renV1, hasKey, made_zero, e, h, makeOk] <;> omega) (by first | rfl | (simp [renPV, renV1, renC, e, h, makeOk]))
end Go.Proofs.YtggejdgohkfmmaaGreat
namespace Go.Proofs.YtggejdgohkfmmaaGreat
open Go.PL
set_option linter.unusedSimpArgs false
/-- the game after its last jump is taken back -/
def backG (g : Gm) : Gm := { g with j := g.j.dropLast, u := g.u + 1 }
def backOk (g : Gm) : Bool := gameOk g && (!decide (g.j.length = 0) && gameOk (backG g))
def backR (g : Gm) : Gm := if backOk g = true then backG g else g
theorem backG_in {g : Gm} (hg : GmIn g) : GmIn (backG g) := ⟨hg.x, by have := hg.j; simp [backG]; omega⟩
theorem backR_len {g : Gm} : (backR g).j.length ≤ g.j.length := by
  unfold backR backG
  split
  · simp
  · omega
theorem back_map {g : Gm} : (g.j.map lineV).take (g.j.length - 1) = (backG g).j.map lineV := by
  simp [backG, List.dropLast_eq_take, List.map_take]
theorem gameOk_u {g : Gm} (h : gameOk g = true) : 0 ≤ g.u ∧ g.u ≤ 1000 := by
  simp only [gameOk, within, Bool.and_eq_true, decide_eq_true_eq] at h
  omega
set_option maxHeartbeats 2000000 in
theorem TakeBack_c (d : Nat) (g : Gm) (hg : GmIn g) (hn : g.j.length ≤ 1048576) : PC Tryz.prog 78 [] [.a (gmL g)] (.t [.a (gmC (backR g) (.o d)), .c (.v (.bool (backOk g)))]) ⟨[], [(d, ⟨58, 3, (backR g).j.map lineV, false, true⟩)]⟩ := by
  refine pc_of Tryz.func78 rfl (by kernel_rfl) _ Tryz.ntmps78 (by simp) ?_
  have h2 := backG_in hg
  have e4 := back_map (g := g)
  repeat' first
    | (first | simp -implicitDefEqProofs only [go_sem] | (refine And.intro ?_ ?_; omega) | (refine And.intro (shr_bd ?_ ?_) ?_; omega; omega) | refine sl_list rfl ?_ | refine sd_list rfl ?_ | refine sl_str ?_ | refine sd_str ?_)
    | refine callL (l37Copy_c 6 g (by omega)) rfl rfl rfl ?_
  refine callS (GameOk_c g hg) rfl rfl rfl ?_
  by_cases h : gameOk g = true
  · by_cases h0 : (g.j.length : Int) = 0
    · have hm : backOk g = false := by
        have : g.j.length = 0 := by omega
        simp [backOk, this]
      have e : backR g = g := by simp [backR, hm]
      (repeat' (first | simp -implicitDefEqProofs only [h, h0, go_sem] | (refine And.intro ?_ ?_; omega) | (refine And.intro (shr_bd ?_ ?_) ?_; omega; omega) | refine sl_list rfl ?_ | refine sd_list rfl ?_ | refine sl_str ?_ | refine sd_str ?_))
      exact fin_of (fun i => i) (fun i => 6) ⟨by simp [boxesR, listsR, csR, renC, keyC, optK, fnd, envR, St.get, keyPV, keyV1, renPV, renV1, hasKey, made_zero, e, hm] <;> omega, by simp [boxesR, listsR, csR, renC, keyC, optK, fnd, envR, St.get, keyPV, keyV1, renPV, renV1, hasKey, made_zero, e, hm] <;> omega, by simp [boxesR, listsR, csR, renC, keyC, optK, fnd, envR, St.get, keyPV, keyV1, renPV, renV1, hasKey, made_zero, e, hm] <;> omega, by simp [boxesR, listsR, csR, renC, keyC, optK, fnd, envR, St.get, keyPV, keyV1, renPV, renV1, hasKey, made_zero, e, hm] <;> omega, by simp [boxesR, listsR, csR, renC, keyC, optK, fnd, envR, St.get, keyPV, keyV1, renPV, renV1, hasKey, made_zero, e, hm] <;> omega⟩ (by simp [boxesR, listsR, csR, renC, keyC, optK, fnd, envR, St.get, keyPV, keyV1, renPV, renV1, hasKey, made_zero, e, hm] <;> omega) (by first | rfl | (simp [renPV, renV1, renC, e, hm]))
    · obtain ⟨u0, u1⟩ := gameOk_u h
      (repeat' (first | simp -implicitDefEqProofs only [h, h0, go_sem] | (refine And.intro ?_ ?_; omega) | (refine And.intro (shr_bd ?_ ?_) ?_; omega; omega) | refine sl_list rfl ?_ | refine sd_list rfl ?_ | refine sl_str ?_ | refine sd_str ?_))
      refine sl_own rfl rfl rfl rfl rfl rfl (by simp; omega) (by simp; omega) ?_
      (repeat' (first | simp -implicitDefEqProofs only [e4, go_sem] | (refine And.intro ?_ ?_; omega) | (refine And.intro (shr_bd ?_ ?_) ?_; omega; omega) | refine sl_list rfl ?_ | refine sd_list rfl ?_ | refine sl_str ?_ | refine sd_str ?_))
      refine callS (GameOk_c (backG g) h2) rfl rfl rfl ?_
      by_cases h' : gameOk (backG g) = true
      · have hb : backOk g = true := by
          have : ¬ g.j.length = 0 := by omega
          simp [backOk, h, h']; intro he; simp [he] at this
        have e : backR g = backG g := by simp [backR, hb]
        (repeat' (first | simp -implicitDefEqProofs only [h', go_sem] | (refine And.intro ?_ ?_; omega) | (refine And.intro (shr_bd ?_ ?_) ?_; omega; omega) | refine sl_list rfl ?_ | refine sd_list rfl ?_ | refine sl_str ?_ | refine sd_str ?_))
        exact fin_of (fun i => i) (fun i => 23) ⟨by simp [boxesR, listsR, csR, renC, keyC, optK, fnd, envR, St.get, keyPV, keyV1, renPV, renV1, hasKey, made_zero, e, hb, backG] <;> omega, by simp [boxesR, listsR, csR, renC, keyC, optK, fnd, envR, St.get, keyPV, keyV1, renPV, renV1, hasKey, made_zero, e, hb, backG] <;> omega, by simp [boxesR, listsR, csR, renC, keyC, optK, fnd, envR, St.get, keyPV, keyV1, renPV, renV1, hasKey, made_zero, e, hb, backG] <;> omega, by simp [boxesR, listsR, csR, renC, keyC, optK, fnd, envR, St.get, keyPV, keyV1, renPV, renV1, hasKey, made_zero, e, hb, backG] <;> omega, by simp [boxesR, listsR, csR, renC, keyC, optK, fnd, envR, St.get, keyPV, keyV1, renPV, renV1, hasKey, made_zero, e, hb, backG] <;> omega⟩ (by simp [boxesR, listsR, csR, renC, keyC, optK, fnd, envR, St.get, keyPV, keyV1, renPV, renV1, hasKey, made_zero, e, hb, backG] <;> omega) (by first | rfl | (simp [renPV, renV1, renC, e, hb, backG]))
      · have e : backR g = g := by simp [backR, backOk, h']
        repeat' first
          | (first | simp -implicitDefEqProofs only [h', go_sem] | (refine And.intro ?_ ?_; omega) | (refine And.intro (shr_bd ?_ ?_) ?_; omega; omega) | refine sl_list rfl ?_ | refine sd_list rfl ?_ | refine sl_str ?_ | refine sd_str ?_)
          | refine callL (l37Copy_c 33 g (by omega)) rfl rfl rfl ?_
        exact fin_of (fun i => i) (fun i => 33) ⟨by simp [boxesR, listsR, csR, renC, keyC, optK, fnd, envR, St.get, keyPV, keyV1, renPV, renV1, hasKey, made_zero, e, h', backOk] <;> omega, by simp [boxesR, listsR, csR, renC, keyC, optK, fnd, envR, St.get, keyPV, keyV1, renPV, renV1, hasKey, made_zero, e, h', backOk] <;> omega, by simp [boxesR, listsR, csR, renC, keyC, optK, fnd, envR, St.get, keyPV, keyV1, renPV, renV1, hasKey, made_zero, e, h', backOk] <;> omega, by simp [boxesR, listsR, csR, renC, keyC, optK, fnd, envR, St.get, keyPV, keyV1, renPV, renV1, hasKey, made_zero, e, h', backOk] <;> omega, by simp [boxesR, listsR, csR, renC, keyC, optK, fnd, envR, St.get, keyPV, keyV1, renPV, renV1, hasKey, made_zero, e, h', backOk] <;> omega⟩ (by simp [boxesR, listsR, csR, renC, keyC, optK, fnd, envR, St.get, keyPV, keyV1, renPV, renV1, hasKey, made_zero, e, h', backOk] <;> omega) (by first | rfl | (simp [renPV, renV1, renC, e, h', backOk]))
  · have e : backR g = g := by simp [backR, backOk, h]
    (repeat' (first | simp -implicitDefEqProofs only [h, go_sem] | (refine And.intro ?_ ?_; omega) | (refine And.intro (shr_bd ?_ ?_) ?_; omega; omega) | refine sl_list rfl ?_ | refine sd_list rfl ?_ | refine sl_str ?_ | refine sd_str ?_))
    exact fin_of (fun i => i) (fun i => 6) ⟨by simp [boxesR, listsR, csR, renC, keyC, optK, fnd, envR, St.get, keyPV, keyV1, renPV, renV1, hasKey, made_zero, e, h, backOk] <;> omega, by simp [boxesR, listsR, csR, renC, keyC, optK, fnd, envR, St.get, keyPV, keyV1, renPV, renV1, hasKey, made_zero, e, h, backOk] <;> omega, by simp [boxesR, listsR, csR, renC, keyC, optK, fnd, envR, St.get, keyPV, keyV1, renPV, renV1, hasKey, made_zero, e, h, backOk] <;> omega, by simp [boxesR, listsR, csR, renC, keyC, optK, fnd, envR, St.get, keyPV, keyV1, renPV, renV1, hasKey, made_zero, e, h, backOk] <;> omega, by simp [boxesR, listsR, csR, renC, keyC, optK, fnd, envR, St.get, keyPV, keyV1, renPV, renV1, hasKey, made_zero, e, h, backOk] <;> omega⟩ (by simp [boxesR, listsR, csR, renC, keyC, optK, fnd, envR, St.get, keyPV, keyV1, renPV, renV1, hasKey, made_zero, e, h, backOk] <;> omega) (by first | rfl | (simp [renPV, renV1, renC, e, h, backOk]))
set_option maxHeartbeats 2000000 in
theorem iTakeBack_c (d : Nat) (g : Gm) (hg : GmIn g) (hn : g.j.length ≤ 1048576) : PC Tryz.prog 65 [] [.a (gmL g)] (.t [.a (gmC (backR g) (.o d)), .c (.v (.bool (backOk g)))]) ⟨[], [(d, ⟨58, 3, (backR g).j.map lineV, false, true⟩)]⟩ := by
  refine pc_of Tryz.func65 rfl (by kernel_rfl) _ Tryz.ntmps65 (by simp) ?_
  have h2 := backG_in hg
  have e4 := back_map (g := g)
  repeat' first
    | (first | simp -implicitDefEqProofs only [go_sem] | (refine And.intro ?_ ?_; omega) | (refine And.intro (shr_bd ?_ ?_) ?_; omega; omega) | refine sl_list rfl ?_ | refine sd_list rfl ?_ | refine sl_str ?_ | refine sd_str ?_)
    | refine callL (iCopyGame_c 7 g (by omega)) rfl rfl rfl ?_
  by_cases h0 : (g.j.length : Int) = 0
  · have hm : backOk g = false := by
      have : g.j.length = 0 := by omega
      simp [backOk, this]
    have e : backR g = g := by simp [backR, hm]
    (repeat' (first | simp -implicitDefEqProofs only [h0, go_sem] | (refine And.intro ?_ ?_; omega) | (refine And.intro (shr_bd ?_ ?_) ?_; omega; omega) | refine sl_list rfl ?_ | refine sd_list rfl ?_ | refine sl_str ?_ | refine sd_str ?_))
    exact fin_of (fun i => i) (fun i => 7) ⟨by simp [boxesR, listsR, csR, renC, keyC, optK, fnd, envR, St.get, keyPV, keyV1, renPV, renV1, hasKey, made_zero, e, hm] <;> omega, by simp [boxesR, listsR, csR, renC, keyC, optK, fnd, envR, St.get, keyPV, keyV1, renPV, renV1, hasKey, made_zero, e, hm] <;> omega, by simp [boxesR, listsR, csR, renC, keyC, optK, fnd, envR, St.get, keyPV, keyV1, renPV, renV1, hasKey, made_zero, e, hm] <;> omega, by simp [boxesR, listsR, csR, renC, keyC, optK, fnd, envR, St.get, keyPV, keyV1, renPV, renV1, hasKey, made_zero, e, hm] <;> omega, by simp [boxesR, listsR, csR, renC, keyC, optK, fnd, envR, St.get, keyPV, keyV1, renPV, renV1, hasKey, made_zero, e, hm] <;> omega⟩ (by simp [boxesR, listsR, csR, renC, keyC, optK, fnd, envR, St.get, keyPV, keyV1, renPV, renV1, hasKey, made_zero, e, hm] <;> omega) (by first | rfl | (simp [renPV, renV1, renC, e, hm]))
  · (repeat' (first | simp -implicitDefEqProofs only [h0, go_sem] | (refine And.intro ?_ ?_; omega) | (refine And.intro (shr_bd ?_ ?_) ?_; omega; omega) | refine sl_list rfl ?_ | refine sd_list rfl ?_ | refine sl_str ?_ | refine sd_str ?_))
    refine callS (iGameOk_c g hg) rfl rfl rfl ?_
    by_cases h : gameOk g = true
    · obtain ⟨u0, u1⟩ := gameOk_u h
      (repeat' (first | simp -implicitDefEqProofs only [h, h0, go_sem] | (refine And.intro ?_ ?_; omega) | (refine And.intro (shr_bd ?_ ?_) ?_; omega; omega) | refine sl_list rfl ?_ | refine sd_list rfl ?_ | refine sl_str ?_ | refine sd_str ?_))
      refine sl_own rfl rfl rfl rfl rfl rfl (by simp; omega) (by simp; omega) ?_
      (repeat' (first | simp -implicitDefEqProofs only [e4, go_sem] | (refine And.intro ?_ ?_; omega) | (refine And.intro (shr_bd ?_ ?_) ?_; omega; omega) | refine sl_list rfl ?_ | refine sd_list rfl ?_ | refine sl_str ?_ | refine sd_str ?_))
      refine callS (iGameOk_c (backG g) h2) rfl rfl rfl ?_
      by_cases h' : gameOk (backG g) = true
      · have hb : backOk g = true := by
          have : ¬ g.j.length = 0 := by omega
          simp [backOk, h, h']; intro he; simp [he] at this
        have e : backR g = backG g := by simp [backR, hb]
        (repeat' (first | simp -implicitDefEqProofs only [h', go_sem] | (refine And.intro ?_ ?_; omega) | (refine And.intro (shr_bd ?_ ?_) ?_; omega; omega) | refine sl_list rfl ?_ | refine sd_list rfl ?_ | refine sl_str ?_ | refine sd_str ?_))
        exact fin_of (fun i => i) (fun i => 23) ⟨by simp [boxesR, listsR, csR, renC, keyC, optK, fnd, envR, St.get, keyPV, keyV1, renPV, renV1, hasKey, made_zero, e, hb, backG] <;> omega, by simp [boxesR, listsR, csR, renC, keyC, optK, fnd, envR, St.get, keyPV, keyV1, renPV, renV1, hasKey, made_zero, e, hb, backG] <;> omega, by simp [boxesR, listsR, csR, renC, keyC, optK, fnd, envR, St.get, keyPV, keyV1, renPV, renV1, hasKey, made_zero, e, hb, backG] <;> omega, by simp [boxesR, listsR, csR, renC, keyC, optK, fnd, envR, St.get, keyPV, keyV1, renPV, renV1, hasKey, made_zero, e, hb, backG] <;> omega, by simp [boxesR, listsR, csR, renC, keyC, optK, fnd, envR, St.get, keyPV, keyV1, renPV, renV1, hasKey, made_zero, e, hb, backG] <;> omega⟩ (by simp [boxesR, listsR, csR, renC, keyC, optK, fnd, envR, St.get, keyPV, keyV1, renPV, renV1, hasKey, made_zero, e, hb, backG] <;> omega) (by first | rfl | (simp [renPV, renV1, renC, e, hb, backG]))
      · have e : backR g = g := by simp [backR, backOk, h']
        repeat' first
          | (first | simp -implicitDefEqProofs only [h', go_sem] | (refine And.intro ?_ ?_; omega) | (refine And.intro (shr_bd ?_ ?_) ?_; omega; omega) | refine sl_list rfl ?_ | refine sd_list rfl ?_ | refine sl_str ?_ | refine sd_str ?_)
          | refine callL (iCopyGame_c 33 g (by omega)) rfl rfl rfl ?_
        exact fin_of (fun i => i) (fun i => 33) ⟨by simp [boxesR, listsR, csR, renC, keyC, optK, fnd, envR, St.get, keyPV, keyV1, renPV, renV1, hasKey, made_zero, e, h', backOk] <;> omega, by simp [boxesR, listsR, csR, renC, keyC, optK, fnd, envR, St.get, keyPV, keyV1, renPV, renV1, hasKey, made_zero, e, h', backOk] <;> omega, by simp [boxesR, listsR, csR, renC, keyC, optK, fnd, envR, St.get, keyPV, keyV1, renPV, renV1, hasKey, made_zero, e, h', backOk] <;> omega, by simp [boxesR, listsR, csR, renC, keyC, optK, fnd, envR, St.get, keyPV, keyV1, renPV, renV1, hasKey, made_zero, e, h', backOk] <;> omega, by simp [boxesR, listsR, csR, renC, keyC, optK, fnd, envR, St.get, keyPV, keyV1, renPV, renV1, hasKey, made_zero, e, h', backOk] <;> omega⟩ (by simp [boxesR, listsR, csR, renC, keyC, optK, fnd, envR, St.get, keyPV, keyV1, renPV, renV1, hasKey, made_zero, e, h', backOk] <;> omega) (by first | rfl | (simp [renPV, renV1, renC, e, h', backOk]))
    · have e : backR g = g := by simp [backR, backOk, h]
      (repeat' (first | simp -implicitDefEqProofs only [h, go_sem] | (refine And.intro ?_ ?_; omega) | (refine And.intro (shr_bd ?_ ?_) ?_; omega; omega) | refine sl_list rfl ?_ | refine sd_list rfl ?_ | refine sl_str ?_ | refine sd_str ?_))
      exact fin_of (fun i => i) (fun i => 7) ⟨by simp [boxesR, listsR, csR, renC, keyC, optK, fnd, envR, St.get, keyPV, keyV1, renPV, renV1, hasKey, made_zero, e, h, backOk] <;> omega, by simp [boxesR, listsR, csR, renC, keyC, optK, fnd, envR, St.get, keyPV, keyV1, renPV, renV1, hasKey, made_zero, e, h, backOk] <;> omega, by simp [boxesR, listsR, csR, renC, keyC, optK, fnd, envR, St.get, keyPV, keyV1, renPV, renV1, hasKey, made_zero, e, h, backOk] <;> omega, by simp [boxesR, listsR, csR, renC, keyC, optK, fnd, envR, St.get, keyPV, keyV1, renPV, renV1, hasKey, made_zero, e, h, backOk] <;> omega, by simp [boxesR, listsR, csR, renC, keyC, optK, fnd, envR, St.get, keyPV, keyV1, renPV, renV1, hasKey, made_zero, e, h, backOk] <;> omega⟩ (by simp [boxesR, listsR, csR, renC, keyC, optK, fnd, envR, St.get, keyPV, keyV1, renPV, renV1, hasKey, made_zero, e, h, backOk] <;> omega) (by first | rfl | (simp [renPV, renV1, renC, e, h, backOk]))
end Go.Proofs.YtggejdgohkfmmaaGreat
