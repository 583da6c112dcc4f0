/-
  What the functions compute that judge a game and find its position.
  What the functions of the laws compute that copy and measure a game; the laws on judging a game.
-/
import Derived.Test.YtmgfndejfeconaaGreatDoorU1
import Derived.Test.YtmgfndejfeconaaGreatDoorN1
import Derived.Test.YtmgfndejfeconaaGreatDoorN4
import Derived.Test.YtmgfndejfeconaaGreatDoorTLe
namespace Go.Proofs.YtmgfndejfeconaaGreatDoor
open Go.PL
set_option linter.unusedSimpArgs false
structure GmIn (g : Gm) : Prop where
  x : pzIn g.x
  j : g.j.length ≤ 9223372036854775806
def gameOk (g : Gm) : Bool := puzzleOk g.x && (within g.h 0 1000 && (within g.u 0 1000 && (playAll g.x.b g.x.s g.j).isSome))
theorem GameOk_c (g : Gm) (hg : GmIn g) : PC Tryz.prog 37 [] [.a (gmL g)] (vB (gameOk g)) ⟨[], []⟩ := by
  refine pc_of Tryz.func37 rfl (by kernel_rfl) _ Tryz.ntmps37 (by simp) ?_
  (repeat' (first | simp -implicitDefEqProofs only [go_sem] | (refine And.intro ?_ ?_; omega) | (refine And.intro (shr_bd ?_ ?_) ?_; omega; omega) | refine sl_list rfl ?_ | refine sd_list rfl ?_ | refine sl_str ?_ | refine sd_str ?_))
  refine callS (PuzzleOk_c g.x hg.x) rfl rfl rfl ?_
  by_cases h1 : puzzleOk g.x = true
  · by_cases h2 : within g.h 0 1000 = true
    · by_cases h3 : within g.u 0 1000 = true
      · repeat' first
          | (first | simp -implicitDefEqProofs only [h1, h2, h3, go_sem] | (refine And.intro ?_ ?_; omega) | (refine And.intro (shr_bd ?_ ?_) ?_; omega; omega) | refine sl_list rfl ?_ | refine sd_list rfl ?_ | refine sl_str ?_ | refine sd_str ?_)
          | refine callS (l01In_c _ _ _) rfl rfl rfl ?_
          | refine callS (PlayAll_c g.x.b g.x.s g.j hg.x.1 hg.j) rfl rfl rfl ?_
        exact fin_scal rfl (by simp [gameOk, h1, h2, h3])
      · repeat' first
          | (first | simp -implicitDefEqProofs only [h1, h2, h3, go_sem] | (refine And.intro ?_ ?_; omega) | (refine And.intro (shr_bd ?_ ?_) ?_; omega; omega) | refine sl_list rfl ?_ | refine sd_list rfl ?_ | refine sl_str ?_ | refine sd_str ?_)
          | refine callS (l01In_c _ _ _) rfl rfl rfl ?_
        exact fin_scal rfl (by simp [gameOk, h3])
    · repeat' first
        | (first | simp -implicitDefEqProofs only [h1, h2, go_sem] | (refine And.intro ?_ ?_; omega) | (refine And.intro (shr_bd ?_ ?_) ?_; omega; omega) | refine sl_list rfl ?_ | refine sd_list rfl ?_ | refine sl_str ?_ | refine sd_str ?_)
        | refine callS (l01In_c _ _ _) rfl rfl rfl ?_
      exact fin_scal rfl (by simp [gameOk, h2])
  · (repeat' (first | simp -implicitDefEqProofs only [h1, go_sem] | (refine And.intro ?_ ?_; omega) | (refine And.intro (shr_bd ?_ ?_) ?_; omega; omega) | refine sl_list rfl ?_ | refine sd_list rfl ?_ | refine sl_str ?_ | refine sd_str ?_))
    exact fin_scal rfl (by simp [gameOk, h1])
theorem iGameOk_c (g : Gm) (hg : GmIn g) : PC Tryz.prog 50 [] [.a (gmL g)] (vB (gameOk g)) ⟨[], []⟩ := by
  refine pc_of Tryz.func50 rfl (by kernel_rfl) _ Tryz.ntmps50 (by simp) ?_
  (repeat' (first | simp -implicitDefEqProofs only [go_sem] | (refine And.intro ?_ ?_; omega) | (refine And.intro (shr_bd ?_ ?_) ?_; omega; omega) | refine sl_list rfl ?_ | refine sd_list rfl ?_ | refine sl_str ?_ | refine sd_str ?_))
  refine callS (iPuzzleOk_c g.x hg.x) rfl rfl rfl ?_
  by_cases h1 : puzzleOk g.x = true
  · by_cases h2 : within g.h 0 1000 = true
    · by_cases h3 : within g.u 0 1000 = true
      · repeat' first
          | (first | simp -implicitDefEqProofs only [h1, h2, h3, go_sem] | (refine And.intro ?_ ?_; omega) | (refine And.intro (shr_bd ?_ ?_) ?_; omega; omega) | refine sl_list rfl ?_ | refine sd_list rfl ?_ | refine sl_str ?_ | refine sd_str ?_)
          | refine callS (within_c _ _ _) rfl rfl rfl ?_
          | refine callS (iPlayAll_c g.x.b g.x.s g.j hg.x.1 hg.j) rfl rfl rfl ?_
        exact fin_scal rfl (by simp [gameOk, h1, h2, h3])
      · repeat' first
          | (first | simp -implicitDefEqProofs only [h1, h2, h3, go_sem] | (refine And.intro ?_ ?_; omega) | (refine And.intro (shr_bd ?_ ?_) ?_; omega; omega) | refine sl_list rfl ?_ | refine sd_list rfl ?_ | refine sl_str ?_ | refine sd_str ?_)
          | refine callS (within_c _ _ _) rfl rfl rfl ?_
        exact fin_scal rfl (by simp [gameOk, h3])
    · repeat' first
        | (first | simp -implicitDefEqProofs only [h1, h2, go_sem] | (refine And.intro ?_ ?_; omega) | (refine And.intro (shr_bd ?_ ?_) ?_; omega; omega) | refine sl_list rfl ?_ | refine sd_list rfl ?_ | refine sl_str ?_ | refine sd_str ?_)
        | refine callS (within_c _ _ _) rfl rfl rfl ?_
      exact fin_scal rfl (by simp [gameOk, h2])
  · (repeat' (first | simp -implicitDefEqProofs only [h1, go_sem] | (refine And.intro ?_ ?_; omega) | (refine And.intro (shr_bd ?_ ?_) ?_; omega; omega) | refine sl_list rfl ?_ | refine sd_list rfl ?_ | refine sl_str ?_ | refine sd_str ?_))
    exact fin_scal rfl (by simp [gameOk, h1])
def nowOf (g : Gm) : Int := if gameOk g = true then playI g.x.b g.x.s g.j else -1
theorem NowOf_c (g : Gm) (hg : GmIn g) : PC Tryz.prog 17 [] [.a (gmL g)] (vN (nowOf g)) ⟨[], []⟩ := by
  refine pc_of Tryz.func17 rfl (by kernel_rfl) _ Tryz.ntmps17 (by simp) ?_
  (repeat' (first | simp -implicitDefEqProofs only [go_sem] | (refine And.intro ?_ ?_; omega) | (refine And.intro (shr_bd ?_ ?_) ?_; omega; omega) | refine sl_list rfl ?_ | refine sd_list rfl ?_ | refine sl_str ?_ | refine sd_str ?_))
  refine callS (GameOk_c g hg) rfl rfl rfl ?_
  by_cases h : gameOk g = true
  · (repeat' (first | simp -implicitDefEqProofs only [h, go_sem] | (refine And.intro ?_ ?_; omega) | (refine And.intro (shr_bd ?_ ?_) ?_; omega; omega) | refine sl_list rfl ?_ | refine sd_list rfl ?_ | refine sl_str ?_ | refine sd_str ?_))
    refine callS (PlayAll_c g.x.b g.x.s g.j hg.x.1 hg.j) rfl rfl rfl ?_
    (repeat' (first | simp -implicitDefEqProofs only [go_sem] | (refine And.intro ?_ ?_; omega) | (refine And.intro (shr_bd ?_ ?_) ?_; omega; omega) | refine sl_list rfl ?_ | refine sd_list rfl ?_ | refine sl_str ?_ | refine sd_str ?_))
    exact fin_scal rfl (by simp [nowOf, h])
  · (repeat' (first | simp -implicitDefEqProofs only [h, go_sem] | (refine And.intro ?_ ?_; omega) | (refine And.intro (shr_bd ?_ ?_) ?_; omega; omega) | refine sl_list rfl ?_ | refine sd_list rfl ?_ | refine sl_str ?_ | refine sd_str ?_))
    exact fin_scal rfl (by simp [nowOf, h])
theorem iNowOf_c (g : Gm) (hg : GmIn g) : PC Tryz.prog 26 [] [.a (gmL g)] (vN (nowOf g)) ⟨[], []⟩ := by
  refine pc_of Tryz.func26 rfl (by kernel_rfl) _ Tryz.ntmps26 (by simp) ?_
  (repeat' (first | simp -implicitDefEqProofs only [go_sem] | (refine And.intro ?_ ?_; omega) | (refine And.intro (shr_bd ?_ ?_) ?_; omega; omega) | refine sl_list rfl ?_ | refine sd_list rfl ?_ | refine sl_str ?_ | refine sd_str ?_))
  refine callS (iGameOk_c g hg) rfl rfl rfl ?_
  by_cases h : gameOk g = true
  · (repeat' (first | simp -implicitDefEqProofs only [h, go_sem] | (refine And.intro ?_ ?_; omega) | (refine And.intro (shr_bd ?_ ?_) ?_; omega; omega) | refine sl_list rfl ?_ | refine sd_list rfl ?_ | refine sl_str ?_ | refine sd_str ?_))
    refine callS (iPlayAll_c g.x.b g.x.s g.j hg.x.1 hg.j) rfl rfl rfl ?_
    (repeat' (first | simp -implicitDefEqProofs only [go_sem] | (refine And.intro ?_ ?_; omega) | (refine And.intro (shr_bd ?_ ?_) ?_; omega; omega) | refine sl_list rfl ?_ | refine sd_list rfl ?_ | refine sl_str ?_ | refine sd_str ?_))
    exact fin_scal rfl (by simp [nowOf, h])
  · (repeat' (first | simp -implicitDefEqProofs only [h, go_sem] | (refine And.intro ?_ ?_; omega) | (refine And.intro (shr_bd ?_ ?_) ?_; omega; omega) | refine sl_list rfl ?_ | refine sd_list rfl ?_ | refine sl_str ?_ | refine sd_str ?_))
    exact fin_scal rfl (by simp [nowOf, h])
def isWon (g : Gm) : Bool := gameOk g && decide (nowOf g = g.x.g)
/-! ### the laws' own functions -/
end Go.Proofs.YtmgfndejfeconaaGreatDoor
namespace Go.Proofs.YtmgfndejfeconaaGreatDoor
open Go.PL
set_option linter.unusedSimpArgs false
theorem szGame_c (g : Gm) (left : Int) (h0 : 0 ≤ left) (h1 : left ≤ 1048576) (hn : g.j.length ≤ maxLen) : PC Tryz.prog 13 [] [.a (gmL g), .c (.v (.int .i64 left))] (.s (.c (.v (.int .i64 (if (g.j.length : Int) ≤ left then left - g.j.length else -1))))) ⟨[], []⟩ := by
  refine pc_of Tryz.func13 rfl (by kernel_rfl) _ Tryz.ntmps13 (by simp) ?_
  (repeat' (first | simp -implicitDefEqProofs only [go_sem] | (refine And.intro ?_ ?_; omega) | (refine And.intro (shr_bd ?_ ?_) ?_; omega; omega) | refine sl_list rfl ?_ | refine sd_list rfl ?_ | refine sl_str ?_ | refine sd_str ?_))
  refine callS (szLineS_c g.j left h0 h1 hn) rfl rfl rfl ?_
  by_cases h : (g.j.length : Int) ≤ left
  · have e : (left - (g.j.length : Int) < 0) = False := by simp; omega
    (repeat' (first | simp -implicitDefEqProofs only [h, e, go_sem] | (refine And.intro ?_ ?_; omega) | (refine And.intro (shr_bd ?_ ?_) ?_; omega; omega) | refine sl_list rfl ?_ | refine sd_list rfl ?_ | refine sl_str ?_ | refine sd_str ?_))
    exact fin_scal rfl rfl
  · (repeat' (first | simp -implicitDefEqProofs only [h, go_sem] | (refine And.intro ?_ ?_; omega) | (refine And.intro (shr_bd ?_ ?_) ?_; omega; omega) | refine sl_list rfl ?_ | refine sd_list rfl ?_ | refine sl_str ?_ | refine sd_str ?_))
    exact fin_scal rfl rfl
theorem toGame_c (d : Nat) (g : Gm) (hn : g.j.length ≤ 1048576) : PC Tryz.prog 21 [] [.a (gmL g)] (.s (.a (gmC g (.o d)))) ⟨[], [(d, ⟨78, 3, g.j.map lineV, false, true⟩)]⟩ := by
  refine pc_of Tryz.func21 rfl (by kernel_rfl) _ Tryz.ntmps21 (by simp) ?_
  repeat' first
    | (first | simp -implicitDefEqProofs only [go_sem] | (refine And.intro ?_ ?_; omega) | (refine And.intro (shr_bd ?_ ?_) ?_; omega; omega) | refine sl_list rfl ?_ | refine sd_list rfl ?_ | refine sl_str ?_ | refine sd_str ?_)
    | refine callS (toPuzzle_c g.x) rfl rfl rfl ?_
    | refine callL (toLineS_c 10 g.j hn) rfl rfl rfl ?_
  exact fin_of (fun i => i) (fun i => 10) ⟨by simp [boxesR, listsR, csR, renC, keyC, optK, fnd, envR, St.get, keyPV, keyV1, renPV, renV1, hasKey, made_zero] <;> omega, by simp [boxesR, listsR, csR, renC, keyC, optK, fnd, envR, St.get, keyPV, keyV1, renPV, renV1, hasKey, made_zero] <;> omega, by simp [boxesR, listsR, csR, renC, keyC, optK, fnd, envR, St.get, keyPV, keyV1, renPV, renV1, hasKey, made_zero] <;> omega, by simp [boxesR, listsR, csR, renC, keyC, optK, fnd, envR, St.get, keyPV, keyV1, renPV, renV1, hasKey, made_zero] <;> omega, by simp [boxesR, listsR, csR, renC, keyC, optK, fnd, envR, St.get, keyPV, keyV1, renPV, renV1, hasKey, made_zero] <;> omega⟩ (by simp [boxesR, listsR, csR, renC, keyC, optK, fnd, envR, St.get, keyPV, keyV1, renPV, renV1, hasKey, made_zero] <;> omega) rfl
theorem gm_of {cs : List C} (h : All2 TC [.z (.i .i64), .z (.i .i64), .z (.i .i64), .z (.i .i64), .z (.i .i64), .l 3 true [.i .i64, .i .i64, .i .i64], .z (.i .i64), .z (.i .i64)] cs) : ∃ g : Gm, cs = gmL g ∧ pzIn g.x ∧ g.j.length ≤ maxLen := by
  obtain ⟨c1, r1, rfl, h1, g1⟩ := all2_cons h
  obtain ⟨c2, r2, rfl, h2, g2⟩ := all2_cons g1
  obtain ⟨c3, r3, rfl, h3, g3⟩ := all2_cons g2
  obtain ⟨c4, r4, rfl, h4, g4⟩ := all2_cons g3
  obtain ⟨c5, r5, rfl, h5, g5⟩ := all2_cons g4
  obtain ⟨c6, r6, rfl, h6, g6⟩ := all2_cons g5
  obtain ⟨c7, r7, rfl, h7, g7⟩ := all2_cons g6
  obtain ⟨c8, r8, rfl, h8, g8⟩ := all2_cons g7
  obtain rfl := all2_nil g8
  obtain ⟨a, rfl, _⟩ := tc_i h1
  obtain ⟨b, rfl, _⟩ := tc_i h2
  obtain ⟨c, rfl, _⟩ := tc_i h3
  obtain ⟨s, rfl, i4⟩ := tc_i h4
  obtain ⟨g, rfl, i5⟩ := tc_i h5
  obtain ⟨hh, rfl, i7⟩ := tc_i h7
  obtain ⟨uu, rfl, i8⟩ := tc_i h8
  obtain ⟨xs, rfl, hl, hx⟩ := tc_l h6
  have lin : ∀ x ∈ xs, ∃ l : Ln, x = lineV l := fun x hm => by
    obtain ⟨cs, rfl, h⟩ := hx x hm
    obtain ⟨c1, r1, rfl, ⟨a, rfl, ha⟩, h1⟩ := all2_cons h
    obtain ⟨c2, r2, rfl, ⟨b, rfl, hb⟩, h2⟩ := all2_cons h1
    obtain ⟨c3, r3, rfl, ⟨c, rfl, hc⟩, h3⟩ := all2_cons h2
    obtain rfl := all2_nil h3
    exact ⟨⟨a, b, c⟩, rfl⟩
  obtain ⟨ls, rfl, _⟩ := list_of lineV (fun _ => True) (xs := xs) (fun x hm => by obtain ⟨l, e⟩ := lin x hm; exact ⟨l, e, trivial⟩)
  rw [inK_i64] at i4 i5
  exact ⟨⟨⟨⟨a, b, c⟩, s, g⟩, ls, hh, uu⟩, rfl, ⟨i4.2, i5.2⟩, by simpa using hl⟩
end Go.Proofs.YtmgfndejfeconaaGreatDoor
