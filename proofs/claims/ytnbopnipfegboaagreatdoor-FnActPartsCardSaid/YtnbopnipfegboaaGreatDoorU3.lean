/-
  What the functions compute that judge a game and find its position.
  What the functions of the laws compute that copy and measure a game; the laws on judging a game.
-/
import Derived.Test.YtnbopnipfegboaaGreatDoorU1
import Derived.Test.YtnbopnipfegboaaGreatDoorN1
import Derived.Test.YtnbopnipfegboaaGreatDoorN4
import Derived.Test.YtnbopnipfegboaaGreatDoorTLe
namespace Go.Proofs.YtnbopnipfegboaaGreatDoor
open Go.PL
set_option linter.unusedSimpArgs false
structure GmIn (g : Gm) : Prop where
  x : pzIn g.x
  j : g.j.length ≤ 9223372036854775806
def gameOk (g : Gm) : Bool := puzzleOk g.x && (within g.h 0 1000 && (within g.u 0 1000 && (playAll g.x.b g.x.s g.j).isSome))
theorem GameOk_c (g : Gm) (hg : GmIn g) : PC Tryz.prog 60 [] [.a (gmL g)] (vB (gameOk g)) ⟨[], []⟩ := by
  refine pc_of Tryz.func60 rfl (by kernel_rfl) _ Tryz.ntmps60 (by simp) ?_
  (repeat' (first | simp -implicitDefEqProofs only [go_sem] | (refine And.intro ?_ ?_; omega) | (refine And.intro (shr_bd ?_ ?_) ?_; omega; omega) | refine sl_list rfl ?_ | refine sd_list rfl ?_ | refine sl_str ?_ | refine sd_str ?_))
  refine callS (PuzzleOk_c g.x hg.x) rfl rfl rfl ?_
  by_cases h1 : puzzleOk g.x = true
  · by_cases h2 : within g.h 0 1000 = true
    · by_cases h3 : within g.u 0 1000 = true
      · repeat' first
          | (first | simp -implicitDefEqProofs only [h1, h2, h3, go_sem] | (refine And.intro ?_ ?_; omega) | (refine And.intro (shr_bd ?_ ?_) ?_; omega; omega) | refine sl_list rfl ?_ | refine sd_list rfl ?_ | refine sl_str ?_ | refine sd_str ?_)
          | refine callS (l01In_c _ _ _) rfl rfl rfl ?_
          | refine callS (PlayAll_c g.x.b g.x.s g.j hg.x.1 hg.j) rfl rfl rfl ?_
        exact fin_scal rfl (by simp [gameOk, h1, h2, h3])
      · repeat' first
          | (first | simp -implicitDefEqProofs only [h1, h2, h3, go_sem] | (refine And.intro ?_ ?_; omega) | (refine And.intro (shr_bd ?_ ?_) ?_; omega; omega) | refine sl_list rfl ?_ | refine sd_list rfl ?_ | refine sl_str ?_ | refine sd_str ?_)
          | refine callS (l01In_c _ _ _) rfl rfl rfl ?_
        exact fin_scal rfl (by simp [gameOk, h3])
    · repeat' first
        | (first | simp -implicitDefEqProofs only [h1, h2, go_sem] | (refine And.intro ?_ ?_; omega) | (refine And.intro (shr_bd ?_ ?_) ?_; omega; omega) | refine sl_list rfl ?_ | refine sd_list rfl ?_ | refine sl_str ?_ | refine sd_str ?_)
        | refine callS (l01In_c _ _ _) rfl rfl rfl ?_
      exact fin_scal rfl (by simp [gameOk, h2])
  · (repeat' (first | simp -implicitDefEqProofs only [h1, go_sem] | (refine And.intro ?_ ?_; omega) | (refine And.intro (shr_bd ?_ ?_) ?_; omega; omega) | refine sl_list rfl ?_ | refine sd_list rfl ?_ | refine sl_str ?_ | refine sd_str ?_))
    exact fin_scal rfl (by simp [gameOk, h1])
theorem iGameOk_c (g : Gm) (hg : GmIn g) : PC Tryz.prog 49 [] [.a (gmL g)] (vB (gameOk g)) ⟨[], []⟩ := by
  refine pc_of Tryz.func49 rfl (by kernel_rfl) _ Tryz.ntmps49 (by simp) ?_
  (repeat' (first | simp -implicitDefEqProofs only [go_sem] | (refine And.intro ?_ ?_; omega) | (refine And.intro (shr_bd ?_ ?_) ?_; omega; omega) | refine sl_list rfl ?_ | refine sd_list rfl ?_ | refine sl_str ?_ | refine sd_str ?_))
  refine callS (iPuzzleOk_c g.x hg.x) rfl rfl rfl ?_
  by_cases h1 : puzzleOk g.x = true
  · by_cases h2 : within g.h 0 1000 = true
    · by_cases h3 : within g.u 0 1000 = true
      · repeat' first
          | (first | simp -implicitDefEqProofs only [h1, h2, h3, go_sem] | (refine And.intro ?_ ?_; omega) | (refine And.intro (shr_bd ?_ ?_) ?_; omega; omega) | refine sl_list rfl ?_ | refine sd_list rfl ?_ | refine sl_str ?_ | refine sd_str ?_)
          | refine callS (within_c _ _ _) rfl rfl rfl ?_
          | refine callS (iPlayAll_c g.x.b g.x.s g.j hg.x.1 hg.j) rfl rfl rfl ?_
        exact fin_scal rfl (by simp [gameOk, h1, h2, h3])
      · repeat' first
          | (first | simp -implicitDefEqProofs only [h1, h2, h3, go_sem] | (refine And.intro ?_ ?_; omega) | (refine And.intro (shr_bd ?_ ?_) ?_; omega; omega) | refine sl_list rfl ?_ | refine sd_list rfl ?_ | refine sl_str ?_ | refine sd_str ?_)
          | refine callS (within_c _ _ _) rfl rfl rfl ?_
        exact fin_scal rfl (by simp [gameOk, h3])
    · repeat' first
        | (first | simp -implicitDefEqProofs only [h1, h2, go_sem] | (refine And.intro ?_ ?_; omega) | (refine And.intro (shr_bd ?_ ?_) ?_; omega; omega) | refine sl_list rfl ?_ | refine sd_list rfl ?_ | refine sl_str ?_ | refine sd_str ?_)
        | refine callS (within_c _ _ _) rfl rfl rfl ?_
      exact fin_scal rfl (by simp [gameOk, h2])
  · (repeat' (first | simp -implicitDefEqProofs only [h1, go_sem] | (refine And.intro ?_ ?_; omega) | (refine And.intro (shr_bd ?_ ?_) ?_; omega; omega) | refine sl_list rfl ?_ | refine sd_list rfl ?_ | refine sl_str ?_ | refine sd_str ?_))
    exact fin_scal rfl (by simp [gameOk, h1])
def nowOf (g : Gm) : Int := if gameOk g = true then playI g.x.b g.x.s g.j else -1
theorem NowOf_c (g : Gm) (hg : GmIn g) : PC Tryz.prog 30 [] [.a (gmL g)] (vN (nowOf g)) ⟨[], []⟩ := by
  refine pc_of Tryz.func30 rfl (by kernel_rfl) _ Tryz.ntmps30 (by simp) ?_
  (repeat' (first | simp -implicitDefEqProofs only [go_sem] | (refine And.intro ?_ ?_; omega) | (refine And.intro (shr_bd ?_ ?_) ?_; omega; omega) | refine sl_list rfl ?_ | refine sd_list rfl ?_ | refine sl_str ?_ | refine sd_str ?_))
  refine callS (GameOk_c g hg) rfl rfl rfl ?_
  by_cases h : gameOk g = true
  · (repeat' (first | simp -implicitDefEqProofs only [h, go_sem] | (refine And.intro ?_ ?_; omega) | (refine And.intro (shr_bd ?_ ?_) ?_; omega; omega) | refine sl_list rfl ?_ | refine sd_list rfl ?_ | refine sl_str ?_ | refine sd_str ?_))
    refine callS (PlayAll_c g.x.b g.x.s g.j hg.x.1 hg.j) rfl rfl rfl ?_
    (repeat' (first | simp -implicitDefEqProofs only [go_sem] | (refine And.intro ?_ ?_; omega) | (refine And.intro (shr_bd ?_ ?_) ?_; omega; omega) | refine sl_list rfl ?_ | refine sd_list rfl ?_ | refine sl_str ?_ | refine sd_str ?_))
    exact fin_scal rfl (by simp [nowOf, h])
  · (repeat' (first | simp -implicitDefEqProofs only [h, go_sem] | (refine And.intro ?_ ?_; omega) | (refine And.intro (shr_bd ?_ ?_) ?_; omega; omega) | refine sl_list rfl ?_ | refine sd_list rfl ?_ | refine sl_str ?_ | refine sd_str ?_))
    exact fin_scal rfl (by simp [nowOf, h])
theorem iNowOf_c (g : Gm) (hg : GmIn g) : PC Tryz.prog 18 [] [.a (gmL g)] (vN (nowOf g)) ⟨[], []⟩ := by
  refine pc_of Tryz.func18 rfl (by kernel_rfl) _ Tryz.ntmps18 (by simp) ?_
  (repeat' (first | simp -implicitDefEqProofs only [go_sem] | (refine And.intro ?_ ?_; omega) | (refine And.intro (shr_bd ?_ ?_) ?_; omega; omega) | refine sl_list rfl ?_ | refine sd_list rfl ?_ | refine sl_str ?_ | refine sd_str ?_))
  refine callS (iGameOk_c g hg) rfl rfl rfl ?_
  by_cases h : gameOk g = true
  · (repeat' (first | simp -implicitDefEqProofs only [h, go_sem] | (refine And.intro ?_ ?_; omega) | (refine And.intro (shr_bd ?_ ?_) ?_; omega; omega) | refine sl_list rfl ?_ | refine sd_list rfl ?_ | refine sl_str ?_ | refine sd_str ?_))
    refine callS (iPlayAll_c g.x.b g.x.s g.j hg.x.1 hg.j) rfl rfl rfl ?_
    (repeat' (first | simp -implicitDefEqProofs only [go_sem] | (refine And.intro ?_ ?_; omega) | (refine And.intro (shr_bd ?_ ?_) ?_; omega; omega) | refine sl_list rfl ?_ | refine sd_list rfl ?_ | refine sl_str ?_ | refine sd_str ?_))
    exact fin_scal rfl (by simp [nowOf, h])
  · (repeat' (first | simp -implicitDefEqProofs only [h, go_sem] | (refine And.intro ?_ ?_; omega) | (refine And.intro (shr_bd ?_ ?_) ?_; omega; omega) | refine sl_list rfl ?_ | refine sd_list rfl ?_ | refine sl_str ?_ | refine sd_str ?_))
    exact fin_scal rfl (by simp [nowOf, h])
def isWon (g : Gm) : Bool := gameOk g && decide (nowOf g = g.x.g)
theorem IsWon_c (g : Gm) (hg : GmIn g) : PC Tryz.prog 149 [] [.a (gmL g)] (vB (isWon g)) ⟨[], []⟩ := by
  refine pc_of Tryz.func149 rfl (by kernel_rfl) _ Tryz.ntmps149 (by simp) ?_
  simp -implicitDefEqProofs only [go_sem]
  refine draw_step Tryz.pl_follows (by kernel_rfl) ?_
  (repeat' (first | simp -implicitDefEqProofs only [go_sem] | (refine And.intro ?_ ?_; omega) | (refine And.intro (shr_bd ?_ ?_) ?_; omega; omega) | refine sl_list rfl ?_ | refine sd_list rfl ?_ | refine sl_str ?_ | refine sd_str ?_))
  refine callD (GameOk_c g hg) rfl rfl rfl ?_
  by_cases h : gameOk g = true
  · (repeat' (first | simp -implicitDefEqProofs only [h, go_sem] | (refine And.intro ?_ ?_; omega) | (refine And.intro (shr_bd ?_ ?_) ?_; omega; omega) | refine sl_list rfl ?_ | refine sd_list rfl ?_ | refine sl_str ?_ | refine sd_str ?_))
    refine callD (NowOf_c g hg) rfl rfl rfl ?_
    (repeat' (first | simp -implicitDefEqProofs only [h, go_sem] | (refine And.intro ?_ ?_; omega) | (refine And.intro (shr_bd ?_ ?_) ?_; omega; omega) | refine sl_list rfl ?_ | refine sd_list rfl ?_ | refine sl_str ?_ | refine sd_str ?_))
    exact fin_scal rfl (by simp [isWon, h])
  · (repeat' (first | simp -implicitDefEqProofs only [h, go_sem] | (refine And.intro ?_ ?_; omega) | (refine And.intro (shr_bd ?_ ?_) ?_; omega; omega) | refine sl_list rfl ?_ | refine sd_list rfl ?_ | refine sl_str ?_ | refine sd_str ?_))
    exact fin_scal rfl (by simp [isWon, h])
theorem iIsWon_c (g : Gm) (hg : GmIn g) : PC Tryz.prog 133 [] [.a (gmL g)] (vB (isWon g)) ⟨[], []⟩ := by
  refine pc_of Tryz.func133 rfl (by kernel_rfl) _ Tryz.ntmps133 (by simp) ?_
  simp -implicitDefEqProofs only [go_sem]
  refine draw_step Tryz.pl_follows (by kernel_rfl) ?_
  (repeat' (first | simp -implicitDefEqProofs only [go_sem] | (refine And.intro ?_ ?_; omega) | (refine And.intro (shr_bd ?_ ?_) ?_; omega; omega) | refine sl_list rfl ?_ | refine sd_list rfl ?_ | refine sl_str ?_ | refine sd_str ?_))
  refine callD (iGameOk_c g hg) rfl rfl rfl ?_
  by_cases h : gameOk g = true
  · (repeat' (first | simp -implicitDefEqProofs only [h, go_sem] | (refine And.intro ?_ ?_; omega) | (refine And.intro (shr_bd ?_ ?_) ?_; omega; omega) | refine sl_list rfl ?_ | refine sd_list rfl ?_ | refine sl_str ?_ | refine sd_str ?_))
    refine callD (iNowOf_c g hg) rfl rfl rfl ?_
    (repeat' (first | simp -implicitDefEqProofs only [h, go_sem] | (refine And.intro ?_ ?_; omega) | (refine And.intro (shr_bd ?_ ?_) ?_; omega; omega) | refine sl_list rfl ?_ | refine sd_list rfl ?_ | refine sl_str ?_ | refine sd_str ?_))
    exact fin_scal rfl (by simp [isWon, h])
  · (repeat' (first | simp -implicitDefEqProofs only [h, go_sem] | (refine And.intro ?_ ?_; omega) | (refine And.intro (shr_bd ?_ ?_) ?_; omega; omega) | refine sl_list rfl ?_ | refine sd_list rfl ?_ | refine sl_str ?_ | refine sd_str ?_))
    exact fin_scal rfl (by simp [isWon, h])
/-! ### the laws' own functions -/
end Go.Proofs.YtnbopnipfegboaaGreatDoor
namespace Go.Proofs.YtnbopnipfegboaaGreatDoor
open Go.PL
set_option linter.unusedSimpArgs false
end Go.Proofs.YtnbopnipfegboaaGreatDoor
