/-
  What the functions compute that open a table.
  What the functions of the laws compute that write a table's lists anew and read them again; the law on opening a table.
-/
import Derived.Test.YtmgfndejfeconaaGreatDoorW1
import Derived.Test.YtmgfndejfeconaaGreatDoorN1
import Derived.Test.YtmgfndejfeconaaGreatDoorN4
import Derived.Test.YtmgfndejfeconaaGreatDoorL9
namespace Go.Proofs.YtmgfndejfeconaaGreatDoor
open Go.PL
set_option linter.unusedSimpArgs false
/-- the table that is laid for a puzzle, before it is judged -/
def layT (x : Pz) (n m : Int) : Tb := ⟨⟨newPz x, [], 0, 0⟩, ⟨m, 2, 0⟩, n, []⟩
def noT : Tb := ⟨⟨⟨⟨0, 0, 0⟩, 0, 0⟩, [], 0, 0⟩, ⟨0, 0, 0⟩, 0, []⟩
def openOk (x : Pz) (n m : Int) : Bool := puzzleOk x && tableOk (layT x n m)
def openT (x : Pz) (n m : Int) : Tb := if openOk x n m = true then layT x n m else noT
end Go.Proofs.YtmgfndejfeconaaGreatDoor
namespace Go.Proofs.YtmgfndejfeconaaGreatDoor
open Go.PL
set_option linter.unusedSimpArgs false
theorem markTable_c (d e : Nat) (hde : d ≠ e) (t : Tb) (k : Int) (hn : t.g.j.length ≤ 4194304) (hr : t.r.length ≤ 1048576) (h0 : 0 ≤ k) (h1 : k ≤ 1000000) :
    PI Tryz.prog 10 [(d, ⟨78, 3, t.g.j.map lineV, false, true⟩), (e, ⟨86, 4, t.r.map recV, false, true⟩)] [.a (tbC t (.o d) (.o e)), .c (.v (.int .i64 k))] (.s (.c (.v (.int .i64 (k + 3 * t.g.j.length + 4 * t.r.length)))))
      ⟨[], [(d, ⟨78, 3, marks (mkLine k) t.g.j.length, false, true⟩), (e, ⟨86, 4, marks (mkRec (k + 3 * t.g.j.length)) t.r.length, false, true⟩)]⟩ := by
  have hed : e ≠ d := fun h => hde h.symm
  refine pi_of Tryz.func10 rfl (by kernel_rfl) _ Tryz.ntmps10 (by simp) ?_
  repeat' first
    | (first | simp -implicitDefEqProofs only [go_sem] | (refine And.intro ?_ ?_; omega) | (refine And.intro (shr_bd ?_ ?_) ?_; omega; omega) | refine sl_list rfl ?_ | refine sd_list rfl ?_ | refine sl_str ?_ | refine sd_str ?_)
    | refine callI (markGame_c d t.g k (by omega) h0 (by omega)) ⟨⟨by simp [fnd], rfl, rfl⟩, rfl, trivial⟩ (by simp [viewArgs, viewV1, viewC, viewCs, memN]) (by simp [okV1, okC, memN]) (by simp [freshL, memN, nvPV, nvV1, nvC]) ?_
    | refine callI (markRecordS_c e t.r (k + 3 * t.g.j.length) hr (by omega) (by omega)) ⟨⟨by simp [fnd, hde, hed], rfl, rfl⟩, rfl, trivial⟩ (by simp [viewArgs, viewV1, viewC, memN]) (by simp [okV1, okC, memN]) (by simp [freshL, memN, nvPV, nvV1, nvC]) ?_
  exact fin_of (fun i => i) (fun i => i) ⟨by simp [boxesR, listsR, csR, renC, keyC, optK, fnd, envR, St.get, keyPV, keyV1, renPV, renV1, hasKey, made_zero, hde, hed] <;> omega, by simp [boxesR, listsR, csR, renC, keyC, optK, fnd, envR, St.get, keyPV, keyV1, renPV, renV1, hasKey, made_zero, hde, hed] <;> omega, by simp [boxesR, listsR, csR, renC, keyC, optK, fnd, envR, St.get, keyPV, keyV1, renPV, renV1, hasKey, made_zero, hde, hed] <;> omega, by simp [boxesR, listsR, csR, renC, keyC, optK, fnd, envR, St.get, keyPV, keyV1, renPV, renV1, hasKey, made_zero, hde, hed] <;> omega, by simp [boxesR, listsR, csR, renC, keyC, optK, fnd, envR, St.get, keyPV, keyV1, renPV, renV1, hasKey, made_zero, hde, hed] <;> omega⟩ (by simp [boxesR, listsR, csR, renC, keyC, optK, fnd, envR, St.get, keyPV, keyV1, renPV, renV1, hasKey, made_zero, hde, hed] <;> omega) (by first | rfl | (simp [renPV, renV1, renC, hde, hed]))
end Go.Proofs.YtmgfndejfeconaaGreatDoor
