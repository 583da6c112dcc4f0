/-
  What the functions of the laws compute that copy a puzzle and compare games.
  What the functions of the laws compute that write a game's jumps anew and read them again.
  The law on new games.
-/
import Derived.Test.YtncdcgaaeclhiaaGreatN1
import Derived.Test.YtncdcgaaeclhiaaGreatTLe
import Derived.Test.YtncdcgaaeclhiaaGreatL6
namespace Go.Proofs.YtncdcgaaeclhiaaGreat
open Go.PL
set_option linter.unusedSimpArgs false
structure Gm where
  x : Pz
  j : List Ln
  h : Int
  u : Int
/-- a game whose list of jumps is this value -/
abbrev gmC (g : Gm) (c : C) : List C := [.v (.int .i64 g.x.b.w), .v (.int .i64 g.x.b.h), .v (.int .i64 g.x.b.n), .v (.int .i64 g.x.s), .v (.int .i64 g.x.g), c, .v (.int .i64 g.h), .v (.int .i64 g.u)]
abbrev gmL (g : Gm) : List C := gmC g (.l 3 (g.j.map lineV))
theorem toPuzzle_c (x : Pz) : PC Tryz.prog 76 [] [.a (pzC x)] (.s (.a (pzC x))) ⟨[], []⟩ := by
  refine pc_of Tryz.func76 rfl (by kernel_rfl) _ Tryz.ntmps76 (by simp) ?_
  repeat' first
    | (first | simp -implicitDefEqProofs only [go_sem, Nat.reduceLT, Nat.reduceLeDiff, Nat.reduceEqDiff, Nat.reduceAdd, Nat.reduceSub, Nat.reduceMul, Int.reduceEq, Int.reduceLT, Int.reduceLE, Int.reduceNeg, Int.reduceAdd, Int.reduceSub, Int.reduceMul, Int.reduceToNat, reduceIte, reduceCtorEq, List.map_cons, List.map_nil] | (refine And.intro ?_ ?_; omega) | (refine And.intro (shr_bd ?_ ?_) ?_; omega; omega) | refine sl_list rfl ?_ | refine sd_list rfl ?_ | refine sl_str ?_ | refine sd_str ?_)
    | refine callS (toBoard_c x.b) rfl rfl rfl ?_
  exact fin_scal rfl rfl
theorem eqBoard_c (b : Brd) : PC Tryz.prog 116 [] [.a (brdC b), .a (brdC b)] (vB true) ⟨[], []⟩ := by
  refine pc_of Tryz.func116 rfl (by kernel_rfl) _ Tryz.ntmps116 (by simp) ?_
  (repeat' (first | simp -implicitDefEqProofs only [go_sem, Nat.reduceLT, Nat.reduceLeDiff, Nat.reduceEqDiff, Nat.reduceAdd, Nat.reduceSub, Nat.reduceMul, Int.reduceEq, Int.reduceLT, Int.reduceLE, Int.reduceNeg, Int.reduceAdd, Int.reduceSub, Int.reduceMul, Int.reduceToNat, reduceIte, reduceCtorEq, List.map_cons, List.map_nil] | (refine And.intro ?_ ?_; omega) | (refine And.intro (shr_bd ?_ ?_) ?_; omega; omega) | refine sl_list rfl ?_ | refine sd_list rfl ?_ | refine sl_str ?_ | refine sd_str ?_))
  exact fin_scal rfl rfl
theorem eqPuzzle_c (x : Pz) : PC Tryz.prog 95 [] [.a (pzC x), .a (pzC x)] (vB true) ⟨[], []⟩ := by
  refine pc_of Tryz.func95 rfl (by kernel_rfl) _ Tryz.ntmps95 (by simp) ?_
  repeat' first
    | (first | simp -implicitDefEqProofs only [go_sem, Nat.reduceLT, Nat.reduceLeDiff, Nat.reduceEqDiff, Nat.reduceAdd, Nat.reduceSub, Nat.reduceMul, Int.reduceEq, Int.reduceLT, Int.reduceLE, Int.reduceNeg, Int.reduceAdd, Int.reduceSub, Int.reduceMul, Int.reduceToNat, reduceIte, reduceCtorEq, List.map_cons, List.map_nil] | (refine And.intro ?_ ?_; omega) | (refine And.intro (shr_bd ?_ ?_) ?_; omega; omega) | refine sl_list rfl ?_ | refine sd_list rfl ?_ | refine sl_str ?_ | refine sd_str ?_)
    | refine callS (eqBoard_c x.b) rfl rfl rfl ?_
  exact fin_scal rfl rfl
theorem eqGame_c (g : Gm) (hn : g.j.length ≤ 4194304) : PC Tryz.prog 51 [] [.a (gmL g), .a (gmL g)] (vB true) ⟨[], []⟩ := by
  refine pc_of Tryz.func51 rfl (by kernel_rfl) _ Tryz.ntmps51 (by simp) ?_
  repeat' first
    | (first | simp -implicitDefEqProofs only [go_sem, Nat.reduceLT, Nat.reduceLeDiff, Nat.reduceEqDiff, Nat.reduceAdd, Nat.reduceSub, Nat.reduceMul, Int.reduceEq, Int.reduceLT, Int.reduceLE, Int.reduceNeg, Int.reduceAdd, Int.reduceSub, Int.reduceMul, Int.reduceToNat, reduceIte, reduceCtorEq, List.map_cons, List.map_nil] | (refine And.intro ?_ ?_; omega) | (refine And.intro (shr_bd ?_ ?_) ?_; omega; omega) | refine sl_list rfl ?_ | refine sd_list rfl ?_ | refine sl_str ?_ | refine sd_str ?_)
    | refine callS (eqPuzzle_c g.x) rfl rfl rfl ?_
    | refine callS (eqLineS_c g.j hn) rfl rfl rfl ?_
  exact fin_scal rfl rfl
end Go.Proofs.YtncdcgaaeclhiaaGreat
namespace Go.Proofs.YtncdcgaaeclhiaaGreat
open Go.PL
set_option linter.unusedSimpArgs false
theorem markGame_c (d : Nat) (g : Gm) (k : Int) (hn : g.j.length ≤ 4194304) (h0 : 0 ≤ k) (h1 : k ≤ 1000000000000) :
    PI Tryz.prog 54 [(d, ⟨76, 3, g.j.map lineV, false, true⟩)] [.a (gmC g (.o d)), .c (.v (.int .i64 k))] (.s (.c (.v (.int .i64 (k + 3 * g.j.length))))) ⟨[], [(d, ⟨76, 3, marks (mkLine k) g.j.length, false, true⟩)]⟩ := by
  refine pi_of Tryz.func54 rfl (by kernel_rfl) _ Tryz.ntmps54 (by simp) ?_
  repeat' first
    | (first | simp -implicitDefEqProofs only [go_sem, Nat.reduceLT, Nat.reduceLeDiff, Nat.reduceEqDiff, Nat.reduceAdd, Nat.reduceSub, Nat.reduceMul, Int.reduceEq, Int.reduceLT, Int.reduceLE, Int.reduceNeg, Int.reduceAdd, Int.reduceSub, Int.reduceMul, Int.reduceToNat, reduceIte, reduceCtorEq, List.map_cons, List.map_nil] | (refine And.intro ?_ ?_; omega) | (refine And.intro (shr_bd ?_ ?_) ?_; omega; omega) | refine sl_list rfl ?_ | refine sd_list rfl ?_ | refine sl_str ?_ | refine sd_str ?_)
    | refine callI (markLineS_c d g.j k hn h0 h1) ⟨⟨by simp [fnd], rfl, rfl⟩, rfl, trivial⟩ (by simp [viewArgs, viewV1, viewC, memN]) (by simp [okV1, okC, memN]) (by simp [freshL, memN, nvPV, nvV1, nvC]) ?_
  exact fin_of (fun i => i) (fun i => i) ⟨by simp [boxesR, listsR, csR, renC, keyC, optK, fnd, envR, St.get, keyPV, keyV1, renPV, renV1, hasKey, made_zero] <;> omega, by simp [boxesR, listsR, csR, renC, keyC, optK, fnd, envR, St.get, keyPV, keyV1, renPV, renV1, hasKey, made_zero] <;> omega, by simp [boxesR, listsR, csR, renC, keyC, optK, fnd, envR, St.get, keyPV, keyV1, renPV, renV1, hasKey, made_zero] <;> omega, by simp [boxesR, listsR, csR, renC, keyC, optK, fnd, envR, St.get, keyPV, keyV1, renPV, renV1, hasKey, made_zero] <;> omega, by simp [boxesR, listsR, csR, renC, keyC, optK, fnd, envR, St.get, keyPV, keyV1, renPV, renV1, hasKey, made_zero] <;> omega⟩ (by simp [boxesR, listsR, csR, renC, keyC, optK, fnd, envR, St.get, keyPV, keyV1, renPV, renV1, hasKey, made_zero] <;> omega) rfl
theorem heldGame_c (g : Gm) (n : Nat) (k : Int) (hn : n ≤ 4194304) (h0 : 0 ≤ k) (h1 : k ≤ 1000000000000) :
    PC Tryz.prog 56 [] [.a (gmC g (.l 3 (marks (mkLine k) n))), .c (.v (.int .i64 k))] (.s (.c (.v (.int .i64 (k + 3 * n))))) ⟨[], []⟩ := by
  refine pc_of Tryz.func56 rfl (by kernel_rfl) _ Tryz.ntmps56 (by simp) ?_
  have e : (k + 3 * (n : Int) < 0) = False := by simp; omega
  repeat' first
    | (first | simp -implicitDefEqProofs only [e, go_sem, Nat.reduceLT, Nat.reduceLeDiff, Nat.reduceEqDiff, Nat.reduceAdd, Nat.reduceSub, Nat.reduceMul, Int.reduceEq, Int.reduceLT, Int.reduceLE, Int.reduceNeg, Int.reduceAdd, Int.reduceSub, Int.reduceMul, Int.reduceToNat, reduceIte, reduceCtorEq, List.map_cons, List.map_nil] | (refine And.intro ?_ ?_; omega) | (refine And.intro (shr_bd ?_ ?_) ?_; omega; omega) | refine sl_list rfl ?_ | refine sd_list rfl ?_ | refine sl_str ?_ | refine sd_str ?_)
    | refine callS (heldLineS_c n k hn h0 h1) rfl rfl rfl ?_
  exact fin_scal rfl rfl
end Go.Proofs.YtncdcgaaeclhiaaGreat
namespace Go.Proofs.YtncdcgaaeclhiaaGreat
open Go.PL
set_option linter.unusedSimpArgs false
theorem pz_of {cs : List C} (h : All2 TC [.z (.i .i64), .z (.i .i64), .z (.i .i64), .z (.i .i64), .z (.i .i64)] cs) : ∃ x : Pz, cs = pzC x ∧ pzIn x := by
  obtain ⟨c1, r1, rfl, h1, g1⟩ := all2_cons h
  obtain ⟨c2, r2, rfl, h2, g2⟩ := all2_cons g1
  obtain ⟨c3, r3, rfl, h3, g3⟩ := all2_cons g2
  obtain ⟨c4, r4, rfl, h4, g4⟩ := all2_cons g3
  obtain ⟨c5, r5, rfl, h5, g5⟩ := all2_cons g4
  obtain rfl := all2_nil g5
  obtain ⟨a, rfl, _⟩ := tc_i h1
  obtain ⟨b, rfl, _⟩ := tc_i h2
  obtain ⟨c, rfl, _⟩ := tc_i h3
  obtain ⟨s, rfl, i4⟩ := tc_i h4
  obtain ⟨g, rfl, i5⟩ := tc_i h5
  rw [inK_i64] at i4 i5
  exact ⟨⟨⟨a, b, c⟩, s, g⟩, rfl, i4.2, i5.2⟩
end Go.Proofs.YtncdcgaaeclhiaaGreat
