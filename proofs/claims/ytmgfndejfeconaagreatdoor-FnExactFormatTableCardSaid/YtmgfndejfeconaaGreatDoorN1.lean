/-
  What the functions compute that judge a position and a puzzle, and those that make a game of a puzzle.
  What the functions compute that judge a puzzle and make a game of it.
  What the functions compute that make a new game of a puzzle.
-/
import Derived.Test.YtmgfndejfeconaaGreatDoorL6
namespace Go.Proofs.YtmgfndejfeconaaGreatDoor
open Go.PL
set_option linter.unusedSimpArgs false
structure Pz where
  b : Brd
  s : Int
  g : Int
abbrev pzC (x : Pz) : List C := [.v (.int .i64 x.b.w), .v (.int .i64 x.b.h), .v (.int .i64 x.b.n), .v (.int .i64 x.s), .v (.int .i64 x.g)]
def isSmall (b : Brd) : Bool := boardOk b && decide (b.w * b.h ≤ 16)
/-- the pegs lie in holes -/
def sub (p n : Int) : Bool := decide (((p.toNat &&& n.toNat : Nat) : Int) = p)
def positionOk (b : Brd) (p : Int) : Bool := boardOk b && (decide (0 ≤ p) && sub p b.n)
theorem IsSmall_c (b : Brd) : PC Tryz.prog 88 [] [.a (brdC b)] (vB (isSmall b)) ⟨[], []⟩ := by
  refine pc_of Tryz.func88 rfl (by kernel_rfl) _ Tryz.ntmps88 (by simp) ?_
  simp -implicitDefEqProofs only [go_sem]
  refine callS (BoardOk_c b) rfl rfl rfl ?_
  simp -implicitDefEqProofs only [go_sem]
  refine grd_split (fun hb => ?_) (fun hb => ?_)
  · obtain ⟨w1, w2, h1, h2, m1, m2, n1, n2, n3⟩ := bok hb
    (repeat' (first | simp -implicitDefEqProofs only [hb, go_sem] | (refine And.intro ?_ ?_; omega) | (refine And.intro (shr_bd ?_ ?_) ?_; omega; omega) | refine sl_list rfl ?_ | refine sd_list rfl ?_ | refine sl_str ?_ | refine sd_str ?_))
    exact fin_scal rfl (by simp [isSmall, hb])
  · simp -implicitDefEqProofs only [hb, go_sem]
    exact fin_scal rfl (by simp [isSmall, hb])
theorem iIsSmall_c (b : Brd) : PC Tryz.prog 84 [] [.a (brdC b)] (vB (isSmall b)) ⟨[], []⟩ := by
  refine pc_of Tryz.func84 rfl (by kernel_rfl) _ Tryz.ntmps84 (by simp) ?_
  simp -implicitDefEqProofs only [go_sem]
  refine callS (iBoardOk_c b) rfl rfl rfl ?_
  simp -implicitDefEqProofs only [go_sem]
  refine grd_split (fun hb => ?_) (fun hb => ?_)
  · obtain ⟨w1, w2, h1, h2, m1, m2, n1, n2, n3⟩ := bok hb
    (repeat' (first | simp -implicitDefEqProofs only [hb, go_sem] | (refine And.intro ?_ ?_; omega) | (refine And.intro (shr_bd ?_ ?_) ?_; omega; omega) | refine sl_list rfl ?_ | refine sd_list rfl ?_ | refine sl_str ?_ | refine sd_str ?_))
    exact fin_scal rfl (by simp [isSmall, hb])
  · simp -implicitDefEqProofs only [hb, go_sem]
    exact fin_scal rfl (by simp [isSmall, hb])
theorem ndiff_zero {a b : Nat} : ndiff a b = 0 ↔ a &&& b = a := by
  unfold ndiff
  constructor
  · intro h
    have := congrArg (· ^^^ (a &&& b)) h
    simp only [Nat.xor_assoc, Nat.xor_self, Nat.xor_zero, Nat.zero_xor] at this
    exact this.symm
  · intro h
    rw [h, Nat.xor_self]
theorem PositionOk_c (b : Brd) (p : Int) (hp2 : p ≤ 9223372036854775807) : PC Tryz.prog 41 [] [.a (brdC b), .c (.v (.int .i64 p))] (vB (positionOk b p)) ⟨[], []⟩ := by
  refine pc_of Tryz.func41 rfl (by kernel_rfl) _ Tryz.ntmps41 (by simp) ?_
  simp -implicitDefEqProofs only [go_sem]
  refine callS (BoardOk_c b) rfl rfl rfl ?_
  simp -implicitDefEqProofs only [go_sem]
  refine grd_split (fun hb => ?_) (fun hb => ?_)
  · obtain ⟨w1, w2, h1, h2, m1, m2, n1, n2, n3⟩ := bok hb
    simp -implicitDefEqProofs only [hb, go_sem]
    refine grd_splitP (fun h0 => ?_) (fun h0 => ?_)
    · (repeat' (first | simp -implicitDefEqProofs only [hb, h0, go_sem] | (refine And.intro ?_ ?_; omega) | (refine And.intro (shr_bd ?_ ?_) ?_; omega; omega) | refine sl_list rfl ?_ | refine sd_list rfl ?_ | refine sl_str ?_ | refine sd_str ?_))
      exact fin_scal rfl (by simp [positionOk, hb, h0, sub])
    · simp -implicitDefEqProofs only [hb, h0, go_sem]
      exact fin_scal rfl (by simp [positionOk, hb, h0])
  · simp -implicitDefEqProofs only [hb, go_sem]
    exact fin_scal rfl (by simp [positionOk, hb])
theorem iPositionOk_c (b : Brd) (p : Int) (hp2 : p ≤ 9223372036854775807) : PC Tryz.prog 54 [] [.a (brdC b), .c (.v (.int .i64 p))] (vB (positionOk b p)) ⟨[], []⟩ := by
  refine pc_of Tryz.func54 rfl (by kernel_rfl) _ Tryz.ntmps54 (by simp) ?_
  simp -implicitDefEqProofs only [go_sem]
  refine callS (iBoardOk_c b) rfl rfl rfl ?_
  simp -implicitDefEqProofs only [go_sem]
  refine grd_split (fun hb => ?_) (fun hb => ?_)
  · obtain ⟨w1, w2, h1, h2, m1, m2, n1, n2, n3⟩ := bok hb
    simp -implicitDefEqProofs only [hb, go_sem]
    refine grd_splitP (fun h0 => ?_) (fun h0 => ?_)
    · (repeat' (first | simp -implicitDefEqProofs only [hb, h0, go_sem] | (refine And.intro ?_ ?_; omega) | (refine And.intro (shr_bd ?_ ?_) ?_; omega; omega) | refine sl_list rfl ?_ | refine sd_list rfl ?_ | refine sl_str ?_ | refine sd_str ?_))
      refine fin_scal rfl ?_
      have e : ndiff p.toNat b.n.toNat = 0 ↔ ((p.toNat &&& b.n.toNat : Nat) : Int) = p := by
        have := ndiff_zero (a := p.toNat) (b := b.n.toNat)
        omega
      simp [positionOk, hb, h0, sub, e]
    · simp -implicitDefEqProofs only [hb, h0, go_sem]
      exact fin_scal rfl (by simp [positionOk, hb, h0])
  · simp -implicitDefEqProofs only [hb, go_sem]
    exact fin_scal rfl (by simp [positionOk, hb])
end Go.Proofs.YtmgfndejfeconaaGreatDoor
namespace Go.Proofs.YtmgfndejfeconaaGreatDoor
open Go.PL
set_option linter.unusedSimpArgs false
def puzzleOk (x : Pz) : Bool := isSmall x.b && (positionOk x.b x.s && positionOk x.b x.g)
def pzIn (x : Pz) : Prop := x.s ≤ 9223372036854775807 ∧ x.g ≤ 9223372036854775807
theorem l15Ok_c (x : Pz) (hx : pzIn x) : PC Tryz.prog 80 [] [.a (brdC x.b), .c (.v (.int .i64 x.s)), .c (.v (.int .i64 x.g))] (vB (puzzleOk x)) ⟨[], []⟩ := by
  refine pc_of Tryz.func80 rfl (by kernel_rfl) _ Tryz.ntmps80 (by simp) ?_
  obtain ⟨hs, hg⟩ := hx
  simp -implicitDefEqProofs only [go_sem]
  refine callS (IsSmall_c x.b) rfl rfl rfl ?_
  simp -implicitDefEqProofs only [go_sem]
  refine grd_split (fun h1 => ?_) (fun h1 => ?_)
  · simp -implicitDefEqProofs only [h1, go_sem]
    refine callS (PositionOk_c _ _ hs) rfl rfl rfl ?_
    simp -implicitDefEqProofs only [h1, go_sem]
    refine grd_split (fun h2 => ?_) (fun h2 => ?_)
    · simp -implicitDefEqProofs only [h1, h2, go_sem]
      refine callS (PositionOk_c _ _ hg) rfl rfl rfl ?_
      simp -implicitDefEqProofs only [h1, h2, go_sem]
      exact fin_scal rfl (by simp [puzzleOk, h1, h2])
    · simp -implicitDefEqProofs only [h1, h2, go_sem]
      exact fin_scal rfl (by simp [puzzleOk, h1, h2])
  · simp -implicitDefEqProofs only [h1, go_sem]
    exact fin_scal rfl (by simp [puzzleOk, h1])
theorem PuzzleOk_c (x : Pz) (hx : pzIn x) : PC Tryz.prog 65 [] [.a (pzC x)] (vB (puzzleOk x)) ⟨[], []⟩ := by
  refine pc_of Tryz.func65 rfl (by kernel_rfl) _ Tryz.ntmps65 (by simp) ?_
  (repeat' (first | simp -implicitDefEqProofs only [go_sem] | (refine And.intro ?_ ?_; omega) | (refine And.intro (shr_bd ?_ ?_) ?_; omega; omega) | refine sl_list rfl ?_ | refine sd_list rfl ?_ | refine sl_str ?_ | refine sd_str ?_))
  refine callS (l15Ok_c x hx) rfl rfl rfl ?_
  simp -implicitDefEqProofs only [go_sem]
  exact fin_scal rfl rfl
theorem iPuzzleOk_c (x : Pz) (hx : pzIn x) : PC Tryz.prog 72 [] [.a (pzC x)] (vB (puzzleOk x)) ⟨[], []⟩ := by
  refine pc_of Tryz.func72 rfl (by kernel_rfl) _ Tryz.ntmps72 (by simp) ?_
  obtain ⟨hs, hg⟩ := hx
  (repeat' (first | simp -implicitDefEqProofs only [go_sem] | (refine And.intro ?_ ?_; omega) | (refine And.intro (shr_bd ?_ ?_) ?_; omega; omega) | refine sl_list rfl ?_ | refine sd_list rfl ?_ | refine sl_str ?_ | refine sd_str ?_))
  refine callS (iIsSmall_c x.b) rfl rfl rfl ?_
  simp -implicitDefEqProofs only [go_sem]
  refine grd_split (fun h1 => ?_) (fun h1 => ?_)
  · (repeat' (first | simp -implicitDefEqProofs only [h1, go_sem] | (refine And.intro ?_ ?_; omega) | (refine And.intro (shr_bd ?_ ?_) ?_; omega; omega) | refine sl_list rfl ?_ | refine sd_list rfl ?_ | refine sl_str ?_ | refine sd_str ?_))
    refine callS (iPositionOk_c x.b x.s hs) rfl rfl rfl ?_
    simp -implicitDefEqProofs only [h1, go_sem]
    refine grd_split (fun h2 => ?_) (fun h2 => ?_)
    · (repeat' (first | simp -implicitDefEqProofs only [h1, h2, go_sem] | (refine And.intro ?_ ?_; omega) | (refine And.intro (shr_bd ?_ ?_) ?_; omega; omega) | refine sl_list rfl ?_ | refine sd_list rfl ?_ | refine sl_str ?_ | refine sd_str ?_))
      refine callS (iPositionOk_c x.b x.g hg) rfl rfl rfl ?_
      simp -implicitDefEqProofs only [h1, h2, go_sem]
      exact fin_scal rfl (by simp [puzzleOk, h1, h2])
    · simp -implicitDefEqProofs only [h1, h2, go_sem]
      exact fin_scal rfl (by simp [puzzleOk, h1, h2])
  · simp -implicitDefEqProofs only [h1, go_sem]
    exact fin_scal rfl (by simp [puzzleOk, h1])
end Go.Proofs.YtmgfndejfeconaaGreatDoor
namespace Go.Proofs.YtmgfndejfeconaaGreatDoor
open Go.PL
set_option linter.unusedSimpArgs false
def newPz (x : Pz) : Pz := if puzzleOk x = true then x else ⟨⟨0, 0, 0⟩, 0, 0⟩
end Go.Proofs.YtmgfndejfeconaaGreatDoor
