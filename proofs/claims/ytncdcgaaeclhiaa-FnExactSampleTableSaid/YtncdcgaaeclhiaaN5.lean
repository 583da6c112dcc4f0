/-
  What the functions of the laws compute that write a game's jumps anew and read them again.
-/
import Derived.Test.YtncdcgaaeclhiaaN4
import Derived.Test.YtncdcgaaeclhiaaTLm
namespace Go.Proofs.Ytncdcgaaeclhiaa
open Go.PL
set_option linter.unusedSimpArgs false
theorem markGame_c (d : Nat) (g : Gm) (k : Int) (hn : g.j.length ≤ 4194304) (h0 : 0 ≤ k) (h1 : k ≤ 1000000000000) :
    PI Try.prog 20 [(d, ⟨44, 3, g.j.map lineV, false, true⟩)] [.a (gmC g (.o d)), .c (.v (.int .i64 k))] (.s (.c (.v (.int .i64 (k + 3 * g.j.length))))) ⟨[], [(d, ⟨44, 3, marks (mkLine k) g.j.length, false, true⟩)]⟩ := by
  refine pi_of Try.func20 rfl (by kernel_rfl) _ Try.ntmps20 (by simp) ?_
  repeat' first
    | (first | simp -implicitDefEqProofs only [go_sem, Nat.reduceLT, Nat.reduceLeDiff, Nat.reduceEqDiff, Nat.reduceAdd, Nat.reduceSub, Nat.reduceMul, Int.reduceEq, Int.reduceLT, Int.reduceLE, Int.reduceNeg, Int.reduceAdd, Int.reduceSub, Int.reduceMul, Int.reduceToNat, reduceIte, reduceCtorEq, List.map_cons, List.map_nil] | (refine And.intro ?_ ?_; omega) | (refine And.intro (shr_bd ?_ ?_) ?_; omega; omega) | refine sl_list rfl ?_ | refine sd_list rfl ?_ | refine sl_str ?_ | refine sd_str ?_)
    | refine callI (markLineS_c d g.j k hn h0 h1) ⟨⟨by simp [fnd], rfl, rfl⟩, rfl, trivial⟩ (by simp [viewArgs, viewV1, viewC, memN]) (by simp [okV1, okC, memN]) (by simp [freshL, memN, nvPV, nvV1, nvC]) ?_
  exact fin_of (fun i => i) (fun i => i) ⟨by simp [boxesR, listsR, csR, renC, keyC, optK, fnd, envR, St.get, keyPV, keyV1, renPV, renV1, hasKey, made_zero] <;> omega, by simp [boxesR, listsR, csR, renC, keyC, optK, fnd, envR, St.get, keyPV, keyV1, renPV, renV1, hasKey, made_zero] <;> omega, by simp [boxesR, listsR, csR, renC, keyC, optK, fnd, envR, St.get, keyPV, keyV1, renPV, renV1, hasKey, made_zero] <;> omega, by simp [boxesR, listsR, csR, renC, keyC, optK, fnd, envR, St.get, keyPV, keyV1, renPV, renV1, hasKey, made_zero] <;> omega, by simp [boxesR, listsR, csR, renC, keyC, optK, fnd, envR, St.get, keyPV, keyV1, renPV, renV1, hasKey, made_zero] <;> omega⟩ (by simp [boxesR, listsR, csR, renC, keyC, optK, fnd, envR, St.get, keyPV, keyV1, renPV, renV1, hasKey, made_zero] <;> omega) rfl
theorem heldGame_c (g : Gm) (n : Nat) (k : Int) (hn : n ≤ 4194304) (h0 : 0 ≤ k) (h1 : k ≤ 1000000000000) :
    PC Try.prog 21 [] [.a (gmC g (.l 3 (marks (mkLine k) n))), .c (.v (.int .i64 k))] (.s (.c (.v (.int .i64 (k + 3 * n))))) ⟨[], []⟩ := by
  refine pc_of Try.func21 rfl (by kernel_rfl) _ Try.ntmps21 (by simp) ?_
  have e : (k + 3 * (n : Int) < 0) = False := by simp; omega
  repeat' first
    | (first | simp -implicitDefEqProofs only [e, go_sem, Nat.reduceLT, Nat.reduceLeDiff, Nat.reduceEqDiff, Nat.reduceAdd, Nat.reduceSub, Nat.reduceMul, Int.reduceEq, Int.reduceLT, Int.reduceLE, Int.reduceNeg, Int.reduceAdd, Int.reduceSub, Int.reduceMul, Int.reduceToNat, reduceIte, reduceCtorEq, List.map_cons, List.map_nil] | (refine And.intro ?_ ?_; omega) | (refine And.intro (shr_bd ?_ ?_) ?_; omega; omega) | refine sl_list rfl ?_ | refine sd_list rfl ?_ | refine sl_str ?_ | refine sd_str ?_)
    | refine callS (heldLineS_c n k hn h0 h1) rfl rfl rfl ?_
  exact fin_scal rfl rfl
end Go.Proofs.Ytncdcgaaeclhiaa
