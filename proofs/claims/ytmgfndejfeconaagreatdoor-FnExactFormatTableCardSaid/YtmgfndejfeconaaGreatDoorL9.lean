/-
  What the functions compute that write a list of records anew and read it again.
  What the functions compute that enter a record into a list.
  What the functions compute that enter a record into a list of valid records; the law on them.
  The law on the entering of a record.
-/
import Derived.Test.YtmgfndejfeconaaGreatDoorGa
import Derived.Test.YtmgfndejfeconaaGreatDoorL2
namespace Go.Proofs.YtmgfndejfeconaaGreatDoor
open Go.PL
set_option linter.unusedSimpArgs false
def mkRec (k : Int) (j : Nat) : Value := .agg #[.int .i64 (k + 4 * j), .int .i64 (k + 4 * j + 1), .int .i64 (k + 4 * j + 2), .int .i64 (k + 4 * j + 3)]
set_option maxHeartbeats 2000000 in
theorem markRecordS_c (d : Nat) (rs : List Rec) (k : Int) (hn : rs.length ≤ 1048576) (h0 : 0 ≤ k) (h1 : k ≤ 1000000000000) :
    PI Tryz.prog 34 [(d, ⟨86, 4, rs.map recV, false, true⟩)] [.c (.o d), .c (.v (.int .i64 k))] (.s (.c (.v (.int .i64 (k + 4 * rs.length))))) ⟨[], [(d, ⟨86, 4, marks (mkRec k) rs.length, false, true⟩)]⟩ := by
  refine pi_of Tryz.func34 rfl (by kernel_rfl) _ Tryz.ntmps34 (by simp) ?_
  simp -implicitDefEqProofs only [go_sem]
  refine loop_step (X := Nat) (fun i => ⟨41, [(0, vO d), (1, vN (k + 4 * i)), (5, vN i)], ⟨[], [(d, ⟨86, 4, mkd (mkRec k) (rs.map recV) i, false, true⟩)]⟩⟩)
    (fun i => i ≤ rs.length) (fun i => rs.length - i) 0 (by omega) (weak_of (fun i => i) (fun i => i) rfl ⟨by simp [boxesR, listsR, csR, renC, keyC, optK, fnd, envR, St.get, keyPV, keyV1, renPV, renV1, hasKey, made_zero, mkd_zero] <;> omega, by simp [boxesR, listsR, csR, renC, keyC, optK, fnd, envR, St.get, keyPV, keyV1, renPV, renV1, hasKey, made_zero, mkd_zero] <;> omega, by simp [boxesR, listsR, csR, renC, keyC, optK, fnd, envR, St.get, keyPV, keyV1, renPV, renV1, hasKey, made_zero, mkd_zero] <;> omega, by simp [boxesR, listsR, csR, renC, keyC, optK, fnd, envR, St.get, keyPV, keyV1, renPV, renV1, hasKey, made_zero, mkd_zero] <;> omega, by simp [boxesR, listsR, csR, renC, keyC, optK, fnd, envR, St.get, keyPV, keyV1, renPV, renV1, hasKey, made_zero, mkd_zero] <;> omega⟩ (by simp [boxesR, listsR, csR, renC, keyC, optK, fnd, envR, St.get, keyPV, keyV1, renPV, renV1, hasKey, made_zero, mkd_zero] <;> omega)) (fun i hi => ?_)
  have hml := mkd_len (f := mkRec k) (l := rs.map recV) (i := i) (by simpa using hi)
  have hml' : (mkd (mkRec k) (rs.map recV) i).length = rs.length := by simpa using hml
  simp -implicitDefEqProofs only [hml', go_sem]
  refine if_splitP (fun h => ?_) (fun h => ?_)
  · have hlt : i < rs.length := by omega
    have hg : (mkd (mkRec k) (rs.map recV) i)[i]? = some (recV rs[i]) := by rw [mkd_get, map_get hlt]
    repeat' first
      | simp -implicitDefEqProofs only [hml', hg, hlt, recV, go_sem]
      | refine And.intro (by omega) ?_
    have e : mkd (mkRec k) (rs.map recV) (i + 1) = (mkd (mkRec k) (rs.map recV) i).set i (.agg #[.int .i64 (k + 4 * i), .int .i64 (k + 4 * i + 1), .int .i64 (k + 4 * i + 1 + 1), .int .i64 (k + 4 * i + 1 + 1 + 1)]) := by
      rw [← mkd_set (by simpa using hlt)]
      simp only [mkRec, Int.add_assoc]
      rfl
    have e2 : k + 4 * ((i : Int) + 1) = k + 4 * i + 1 + 1 + 1 + 1 := by omega
    exact ⟨i + 1, by omega, by omega, weak_of (fun i => i) (fun i => i) rfl ⟨by simp [boxesR, listsR, csR, renC, keyC, optK, fnd, envR, St.get, keyPV, keyV1, renPV, renV1, hasKey, made_zero, e, e2] <;> omega, by simp [boxesR, listsR, csR, renC, keyC, optK, fnd, envR, St.get, keyPV, keyV1, renPV, renV1, hasKey, made_zero, e, e2] <;> omega, by simp [boxesR, listsR, csR, renC, keyC, optK, fnd, envR, St.get, keyPV, keyV1, renPV, renV1, hasKey, made_zero, e, e2] <;> omega, by simp [boxesR, listsR, csR, renC, keyC, optK, fnd, envR, St.get, keyPV, keyV1, renPV, renV1, hasKey, made_zero, e, e2] <;> omega, by simp [boxesR, listsR, csR, renC, keyC, optK, fnd, envR, St.get, keyPV, keyV1, renPV, renV1, hasKey, made_zero, e, e2] <;> omega⟩ (by simp [boxesR, listsR, csR, renC, keyC, optK, fnd, envR, St.get, keyPV, keyV1, renPV, renV1, hasKey, made_zero, e, e2] <;> omega)⟩
  · have hle : i = rs.length := by omega
    subst hle
    have e : mkd (mkRec k) (rs.map recV) rs.length = marks (mkRec k) rs.length := by
      have := mkd_end (f := mkRec k) (l := rs.map recV)
      simpa using this
    simp -implicitDefEqProofs only [e, go_sem]
    exact fin_of (fun i => i) (fun i => i) ⟨by simp [boxesR, listsR, csR, renC, keyC, optK, fnd, envR, St.get, keyPV, keyV1, renPV, renV1, hasKey, made_zero] <;> omega, by simp [boxesR, listsR, csR, renC, keyC, optK, fnd, envR, St.get, keyPV, keyV1, renPV, renV1, hasKey, made_zero] <;> omega, by simp [boxesR, listsR, csR, renC, keyC, optK, fnd, envR, St.get, keyPV, keyV1, renPV, renV1, hasKey, made_zero] <;> omega, by simp [boxesR, listsR, csR, renC, keyC, optK, fnd, envR, St.get, keyPV, keyV1, renPV, renV1, hasKey, made_zero] <;> omega, by simp [boxesR, listsR, csR, renC, keyC, optK, fnd, envR, St.get, keyPV, keyV1, renPV, renV1, hasKey, made_zero] <;> omega⟩ (by simp [boxesR, listsR, csR, renC, keyC, optK, fnd, envR, St.get, keyPV, keyV1, renPV, renV1, hasKey, made_zero] <;> omega) rfl
end Go.Proofs.YtmgfndejfeconaaGreatDoor
namespace Go.Proofs.YtmgfndejfeconaaGreatDoor
open Go.PL
set_option linter.unusedSimpArgs false
def posOf (rs : List Rec) (p : Int) : Nat := (rs.takeWhile fun x => decide (x.p < p)).length
/-- the list with the record entered, and whether it has been -/
def entered (rs : List Rec) (r : Rec) : List Rec × Bool :=
  match rs[posOf rs r.p]? with
  | some q => if q.p = r.p then (if q.s ≤ r.s then (rs, false) else (rs.set (posOf rs r.p) r, true)) else (rs.take (posOf rs r.p) ++ [r] ++ rs.drop (posOf rs r.p), true)
  | none => (rs.take (posOf rs r.p) ++ [r] ++ rs.drop (posOf rs r.p), true)
def enterRecord (rs : List Rec) (r : Rec) : List Rec × Bool :=
  if recordsOk rs = true then (if (entered rs r).2 = true ∧ recordsOk (entered rs r).1 = true then ((entered rs r).1, true) else (rs, false)) else (rs, false)
end Go.Proofs.YtmgfndejfeconaaGreatDoor
namespace Go.Proofs.YtmgfndejfeconaaGreatDoor
open Go.PL
set_option linter.unusedSimpArgs false
end Go.Proofs.YtmgfndejfeconaaGreatDoor
namespace Go.Proofs.YtmgfndejfeconaaGreatDoor
open Go.PL
set_option linter.unusedSimpArgs false
end Go.Proofs.YtmgfndejfeconaaGreatDoor
