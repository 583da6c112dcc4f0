/-
  What the functions of the laws compute that copy a puzzle and compare games.
  What the functions of the laws compute that write a game's jumps anew and read them again.
  The law on new games.
-/
import Derived.Test.YtmgfndejfeconaaGreatDoorN1
import Derived.Test.YtmgfndejfeconaaGreatDoorTLe
import Derived.Test.YtmgfndejfeconaaGreatDoorL6
namespace Go.Proofs.YtmgfndejfeconaaGreatDoor
open Go.PL
set_option linter.unusedSimpArgs false
structure Gm where
  x : Pz
  j : List Ln
  h : Int
  u : Int
/-- a game whose list of jumps is this value -/
abbrev gmC (g : Gm) (c : C) : List C := [.v (.int .i64 g.x.b.w), .v (.int .i64 g.x.b.h), .v (.int .i64 g.x.b.n), .v (.int .i64 g.x.s), .v (.int .i64 g.x.g), c, .v (.int .i64 g.h), .v (.int .i64 g.u)]
abbrev gmL (g : Gm) : List C := gmC g (.l 3 (g.j.map lineV))
theorem toPuzzle_c (x : Pz) : PC Tryz.prog 47 [] [.a (pzC x)] (.s (.a (pzC x))) ⟨[], []⟩ := by
  refine pc_of Tryz.func47 rfl (by kernel_rfl) _ Tryz.ntmps47 (by simp) ?_
  repeat' first
    | (first | simp -implicitDefEqProofs only [go_sem] | (refine And.intro ?_ ?_; omega) | (refine And.intro (shr_bd ?_ ?_) ?_; omega; omega) | refine sl_list rfl ?_ | refine sd_list rfl ?_ | refine sl_str ?_ | refine sd_str ?_)
    | refine callS (toBoard_c x.b) rfl rfl rfl ?_
  exact fin_scal rfl rfl
theorem eqBoard_c (b : Brd) : PC Tryz.prog 78 [] [.a (brdC b), .a (brdC b)] (vB true) ⟨[], []⟩ := by
  refine pc_of Tryz.func78 rfl (by kernel_rfl) _ Tryz.ntmps78 (by simp) ?_
  (repeat' (first | simp -implicitDefEqProofs only [go_sem] | (refine And.intro ?_ ?_; omega) | (refine And.intro (shr_bd ?_ ?_) ?_; omega; omega) | refine sl_list rfl ?_ | refine sd_list rfl ?_ | refine sl_str ?_ | refine sd_str ?_))
  exact fin_scal rfl rfl
theorem eqPuzzle_c (x : Pz) : PC Tryz.prog 61 [] [.a (pzC x), .a (pzC x)] (vB true) ⟨[], []⟩ := by
  refine pc_of Tryz.func61 rfl (by kernel_rfl) _ Tryz.ntmps61 (by simp) ?_
  repeat' first
    | (first | simp -implicitDefEqProofs only [go_sem] | (refine And.intro ?_ ?_; omega) | (refine And.intro (shr_bd ?_ ?_) ?_; omega; omega) | refine sl_list rfl ?_ | refine sd_list rfl ?_ | refine sl_str ?_ | refine sd_str ?_)
    | refine callS (eqBoard_c x.b) rfl rfl rfl ?_
  exact fin_scal rfl rfl
theorem eqGame_c (g : Gm) (hn : g.j.length ≤ 4194304) : PC Tryz.prog 30 [] [.a (gmL g), .a (gmL g)] (vB true) ⟨[], []⟩ := by
  refine pc_of Tryz.func30 rfl (by kernel_rfl) _ Tryz.ntmps30 (by simp) ?_
  repeat' first
    | (first | simp -implicitDefEqProofs only [go_sem] | (refine And.intro ?_ ?_; omega) | (refine And.intro (shr_bd ?_ ?_) ?_; omega; omega) | refine sl_list rfl ?_ | refine sd_list rfl ?_ | refine sl_str ?_ | refine sd_str ?_)
    | refine callS (eqPuzzle_c g.x) rfl rfl rfl ?_
    | refine callS (eqLineS_c g.j hn) rfl rfl rfl ?_
  exact fin_scal rfl rfl
end Go.Proofs.YtmgfndejfeconaaGreatDoor
namespace Go.Proofs.YtmgfndejfeconaaGreatDoor
open Go.PL
set_option linter.unusedSimpArgs false
theorem markGame_c (d : Nat) (g : Gm) (k : Int) (hn : g.j.length ≤ 4194304) (h0 : 0 ≤ k) (h1 : k ≤ 1000000000000) :
    PI Tryz.prog 33 [(d, ⟨78, 3, g.j.map lineV, false, true⟩)] [.a (gmC g (.o d)), .c (.v (.int .i64 k))] (.s (.c (.v (.int .i64 (k + 3 * g.j.length))))) ⟨[], [(d, ⟨78, 3, marks (mkLine k) g.j.length, false, true⟩)]⟩ := by
  refine pi_of Tryz.func33 rfl (by kernel_rfl) _ Tryz.ntmps33 (by simp) ?_
  repeat' first
    | (first | simp -implicitDefEqProofs only [go_sem] | (refine And.intro ?_ ?_; omega) | (refine And.intro (shr_bd ?_ ?_) ?_; omega; omega) | refine sl_list rfl ?_ | refine sd_list rfl ?_ | refine sl_str ?_ | refine sd_str ?_)
    | refine callI (markLineS_c d g.j k hn h0 h1) ⟨⟨by simp [fnd], rfl, rfl⟩, rfl, trivial⟩ (by simp [viewArgs, viewV1, viewC, memN]) (by simp [okV1, okC, memN]) (by simp [freshL, memN, nvPV, nvV1, nvC]) ?_
  exact fin_of (fun i => i) (fun i => i) ⟨by simp [boxesR, listsR, csR, renC, keyC, optK, fnd, envR, St.get, keyPV, keyV1, renPV, renV1, hasKey, made_zero] <;> omega, by simp [boxesR, listsR, csR, renC, keyC, optK, fnd, envR, St.get, keyPV, keyV1, renPV, renV1, hasKey, made_zero] <;> omega, by simp [boxesR, listsR, csR, renC, keyC, optK, fnd, envR, St.get, keyPV, keyV1, renPV, renV1, hasKey, made_zero] <;> omega, by simp [boxesR, listsR, csR, renC, keyC, optK, fnd, envR, St.get, keyPV, keyV1, renPV, renV1, hasKey, made_zero] <;> omega, by simp [boxesR, listsR, csR, renC, keyC, optK, fnd, envR, St.get, keyPV, keyV1, renPV, renV1, hasKey, made_zero] <;> omega⟩ (by simp [boxesR, listsR, csR, renC, keyC, optK, fnd, envR, St.get, keyPV, keyV1, renPV, renV1, hasKey, made_zero] <;> omega) rfl
end Go.Proofs.YtmgfndejfeconaaGreatDoor
namespace Go.Proofs.YtmgfndejfeconaaGreatDoor
open Go.PL
set_option linter.unusedSimpArgs false
end Go.Proofs.YtmgfndejfeconaaGreatDoor
