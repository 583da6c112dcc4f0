/-
  What the functions of the laws compute that write a table's lists anew and read them again; the law on opening a table.
-/
import Derived.Test.YtengcnpmhncefaaZ1
import Derived.Test.YtengcnpmhncefaaN5
import Derived.Test.YtengcnpmhncefaaN6
import Derived.Test.YtengcnpmhncefaaM1
namespace Go.Proofs.Ytengcnpmhncefaa
open Go.PL
set_option linter.unusedSimpArgs false
theorem markTable_c (d e : Nat) (hde : d ≠ e) (t : Tb) (k : Int) (hn : t.g.j.length ≤ 1048576) (hr : t.r.length ≤ 1048576) (h0 : 0 ≤ k) (h1 : k ≤ 1000000) :
    PI Try.prog 50 [(d, ⟨44, 3, t.g.j.map lineV, false, true⟩), (e, ⟨135, 4, t.r.map recV, false, true⟩)] [.a (tbC t (.o d) (.o e)), .c (.v (.int .i64 k))] (.s (.c (.v (.int .i64 (k + 3 * t.g.j.length + 4 * t.r.length)))))
      ⟨[], [(d, ⟨44, 3, marks (mkLine k) t.g.j.length, false, true⟩), (e, ⟨135, 4, marks (mkRec (k + 3 * t.g.j.length)) t.r.length, false, true⟩)]⟩ := by
  have hed : e ≠ d := fun h => hde h.symm
  refine pi_of Try.func50 rfl (by kernel_rfl) _ Try.ntmps50 (by simp) ?_
  repeat' first
    | (first | simp -implicitDefEqProofs only [go_sem, Nat.reduceLT, Nat.reduceLeDiff, Nat.reduceEqDiff, Nat.reduceAdd, Nat.reduceSub, Nat.reduceMul, Int.reduceEq, Int.reduceLT, Int.reduceLE, Int.reduceNeg, Int.reduceAdd, Int.reduceSub, Int.reduceMul, Int.reduceToNat, reduceIte, reduceCtorEq, List.map_cons, List.map_nil] | (refine And.intro ?_ ?_; omega) | (refine And.intro (shr_bd ?_ ?_) ?_; omega; omega) | refine sl_list rfl ?_ | refine sd_list rfl ?_ | refine sl_str ?_ | refine sd_str ?_)
    | refine callI (markGame_c d t.g k (by omega) h0 (by omega)) ⟨⟨by simp [fnd], rfl, rfl⟩, rfl, trivial⟩ (by simp [viewArgs, viewV1, viewC, viewCs, memN]) (by simp [okV1, okC, memN]) (by simp [freshL, memN, nvPV, nvV1, nvC]) ?_
    | refine callI (markRecordS_c e t.r (k + 3 * t.g.j.length) hr (by omega) (by omega)) ⟨⟨by simp [fnd, hde, hed], rfl, rfl⟩, rfl, trivial⟩ (by simp [viewArgs, viewV1, viewC, memN]) (by simp [okV1, okC, memN]) (by simp [freshL, memN, nvPV, nvV1, nvC]) ?_
  exact fin_of (fun i => i) (fun i => i) ⟨by simp [boxesR, listsR, csR, renC, keyC, optK, fnd, envR, St.get, keyPV, keyV1, renPV, renV1, hasKey, made_zero, hde, hed] <;> omega, by simp [boxesR, listsR, csR, renC, keyC, optK, fnd, envR, St.get, keyPV, keyV1, renPV, renV1, hasKey, made_zero, hde, hed] <;> omega, by simp [boxesR, listsR, csR, renC, keyC, optK, fnd, envR, St.get, keyPV, keyV1, renPV, renV1, hasKey, made_zero, hde, hed] <;> omega, by simp [boxesR, listsR, csR, renC, keyC, optK, fnd, envR, St.get, keyPV, keyV1, renPV, renV1, hasKey, made_zero, hde, hed] <;> omega, by simp [boxesR, listsR, csR, renC, keyC, optK, fnd, envR, St.get, keyPV, keyV1, renPV, renV1, hasKey, made_zero, hde, hed] <;> omega⟩ (by simp [boxesR, listsR, csR, renC, keyC, optK, fnd, envR, St.get, keyPV, keyV1, renPV, renV1, hasKey, made_zero, hde, hed] <;> omega) (by first | rfl | (simp [renPV, renV1, renC, hde, hed]))
theorem heldTable_c (t : Tb) (n m : Nat) (k : Int) (hn : n ≤ 1048576) (hm : m ≤ 1048576) (h0 : 0 ≤ k) (h1 : k ≤ 1000000) :
    PC Try.prog 51 [] [.a (tbC t (.l 3 (marks (mkLine k) n)) (.l 4 (marks (mkRec (k + 3 * n)) m))), .c (.v (.int .i64 k))] (.s (.c (.v (.int .i64 (k + 3 * n + 4 * m))))) ⟨[], []⟩ := by
  refine pc_of Try.func51 rfl (by kernel_rfl) _ Try.ntmps51 (by simp) ?_
  have e : (k + 3 * (n : Int) < 0) = False := by simp; omega
  have e' : (k + 3 * (n : Int) + 4 * m < 0) = False := by simp; omega
  repeat' first
    | (first | simp -implicitDefEqProofs only [e, e', go_sem, Nat.reduceLT, Nat.reduceLeDiff, Nat.reduceEqDiff, Nat.reduceAdd, Nat.reduceSub, Nat.reduceMul, Int.reduceEq, Int.reduceLT, Int.reduceLE, Int.reduceNeg, Int.reduceAdd, Int.reduceSub, Int.reduceMul, Int.reduceToNat, reduceIte, reduceCtorEq, List.map_cons, List.map_nil] | (refine And.intro ?_ ?_; omega) | (refine And.intro (shr_bd ?_ ?_) ?_; omega; omega) | refine sl_list rfl ?_ | refine sd_list rfl ?_ | refine sl_str ?_ | refine sd_str ?_)
    | refine callS (heldGame_c t.g n k (by omega) h0 (by omega)) rfl rfl rfl ?_
    | refine callS (heldRecordS_c m (k + 3 * n) hm (by omega) (by omega)) rfl rfl rfl ?_
  exact fin_scal rfl rfl
set_option maxHeartbeats 4000000 in
theorem lawOpenTable_c (x : Pz) (n m : Int) (hx : pzIn x) : PC Try.prog 8 [] [.a (pzC x), .c (.v (.int .i64 n)), .c (.v (.int .i64 m))] (vB true) ⟨[], []⟩ := by
  have e0 : (openT x n m).g.j = [] := by unfold openT; split <;> rfl
  have e1 : (openT x n m).r = [] := by unfold openT; split <;> rfl
  have hj : (openT x n m).g.j.length = 0 := by rw [e0]; rfl
  have hr : (openT x n m).r.length = 0 := by rw [e1]; rfl
  have o1 := fun d e h => OpenTable_c d e h x n m hx
  have o2 := fun d e h => iOpenTable_c d e h x n m hx
  have mk := fun d e h => markTable_c d e h (openT x n m) 1 (by omega) (by omega) (by omega) (by omega)
  have eq := eqTable_c (openT x n m) (by omega) (by omega)
  have hd := heldTable_c (openT x n m) 0 0 1 (by omega) (by omega) (by omega) (by omega)
  simp only [tbL, e0, e1, List.map_nil, List.length_nil] at mk eq
  refine pc_of Try.func8 rfl (by kernel_rfl) _ Try.ntmps8 (by simp) ?_
  repeat' first
    | (first | simp -implicitDefEqProofs only [go_sem, Nat.reduceLT, Nat.reduceLeDiff, Nat.reduceEqDiff, Nat.reduceAdd, Nat.reduceSub, Nat.reduceMul, Int.reduceEq, Int.reduceLT, Int.reduceLE, Int.reduceNeg, Int.reduceAdd, Int.reduceSub, Int.reduceMul, Int.reduceToNat, reduceIte, reduceCtorEq, List.map_cons, List.map_nil] | (refine And.intro ?_ ?_; omega) | (refine And.intro (shr_bd ?_ ?_) ?_; omega; omega) | refine sl_list rfl ?_ | refine sd_list rfl ?_ | refine sl_str ?_ | refine sd_str ?_)
    | refine callS (toPuzzle_c x) rfl rfl rfl ?_
    | refine callL (o1 20 1020 (by omega)) rfl rfl rfl ?_
    | refine callL (o2 28 1028 (by omega)) rfl rfl rfl ?_
    | refine callL (o2 56 1056 (by omega)) rfl rfl rfl ?_
    | refine callS eq rfl rfl rfl ?_
    | refine callI (mk 28 1028 (by omega)) ⟨⟨rfl, rfl, rfl⟩, rfl, ⟨rfl, rfl, rfl⟩, rfl, trivial⟩ rfl rfl rfl ?_
    | refine callS hd rfl rfl rfl ?_
  all_goals exact fin_scal rfl rfl
theorem fnExactOpenTable.law_c {cs : List C} {c c' : C} (h : All2 TC [.z (.i .i64), .z (.i .i64), .z (.i .i64), .z (.i .i64), .z (.i .i64)] cs) (h1 : TC (.z (.i .i64)) c) (h2 : TC (.z (.i .i64)) c') : PC Try.prog 8 [] [.a cs, .c c, .c c'] (vB true) ⟨[], []⟩ := by
  obtain ⟨x, rfl, hx⟩ := pz_of h
  obtain ⟨n, rfl, _⟩ := tc_i h1
  obtain ⟨m, rfl, _⟩ := tc_i h2
  exact lawOpenTable_c x n m hx
end Go.Proofs.Ytengcnpmhncefaa
