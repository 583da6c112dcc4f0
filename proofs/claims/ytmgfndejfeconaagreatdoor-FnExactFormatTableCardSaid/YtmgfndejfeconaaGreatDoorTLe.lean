/-
  What the functions compute that copy a list of lines and measure it.
  What the functions compute that compare two equal lists of lines.
  What the functions compute that write a list of lines anew and read it again.
-/
import Derived.Test.YtmgfndejfeconaaGreatDoorGa
import Derived.Test.YtmgfndejfeconaaGreatDoorL6
namespace Go.Proofs.YtmgfndejfeconaaGreatDoor
open Go.PL
set_option linter.unusedSimpArgs false
theorem toLine_c (r : Ln) : PC Tryz.prog 71 [] [.a (lineC r)] (.s (.a (lineC r))) ⟨[], []⟩ := by
  refine pc_of Tryz.func71 rfl (by kernel_rfl) _ Tryz.ntmps71 (by simp) ?_
  simp -implicitDefEqProofs only [go_sem]
  exact fin_scal rfl rfl
theorem toLineS_c (d : Nat) (xs : List Ln) (hn : xs.length ≤ 1048576) : PC Tryz.prog 48 [] [.c (.l 3 (xs.map lineV))] (.s (.c (.o d))) ⟨[], [(d, ⟨78, 3, xs.map lineV, false, true⟩)]⟩ := by
  refine pc_of Tryz.func48 rfl (by kernel_rfl) _ Tryz.ntmps48 (by simp) ?_
  simp -implicitDefEqProofs only [go_sem]
  refine ⟨by omega, ?_⟩
  refine loop_step (X := Nat) (fun i => ⟨23, [(0, vL 3 (xs.map lineV)), (3, vO 7), (4, vN i)], ⟨[], [(7, ⟨78, 3, made lineV (.agg #[.int .i64 0, .int .i64 0, .int .i64 0]) xs i, false, true⟩)]⟩⟩)
    (fun i => i ≤ xs.length) (fun i => xs.length - i) 0 (by simp) (weak_of (fun i => i) (fun i => i) rfl ⟨by simp [boxesR, listsR, csR, renC, keyC, optK, fnd, envR, St.get, keyPV, keyV1, renPV, renV1, hasKey, made_zero] <;> omega, by simp [boxesR, listsR, csR, renC, keyC, optK, fnd, envR, St.get, keyPV, keyV1, renPV, renV1, hasKey, made_zero] <;> omega, by simp [boxesR, listsR, csR, renC, keyC, optK, fnd, envR, St.get, keyPV, keyV1, renPV, renV1, hasKey, made_zero] <;> omega, by simp [boxesR, listsR, csR, renC, keyC, optK, fnd, envR, St.get, keyPV, keyV1, renPV, renV1, hasKey, made_zero] <;> omega, by simp [boxesR, listsR, csR, renC, keyC, optK, fnd, envR, St.get, keyPV, keyV1, renPV, renV1, hasKey, made_zero] <;> omega⟩ (by simp [boxesR, listsR, csR, renC, keyC, optK, fnd, envR, St.get, keyPV, keyV1, renPV, renV1, hasKey, made_zero] <;> omega)) (fun i hi => ?_)
  simp -implicitDefEqProofs only [go_sem]
  refine if_split (fun h => ?_) (fun h => ?_)
  · have hlt : i < xs.length := by simpa using h
    simp -implicitDefEqProofs only [map_get hlt, lineV, go_sem]
    refine callS (toLine_c xs[i]) rfl rfl rfl ?_
    simp -implicitDefEqProofs only [made_len hi, hlt, go_sem]
    have hs : (made lineV (.agg #[.int .i64 0, .int .i64 0, .int .i64 0]) xs i).set i (.agg #[.int .i64 xs[i].f, .int .i64 xs[i].o, .int .i64 xs[i].t]) = made lineV _ xs (i + 1) := made_set hlt
    rw [hs]
    exact ⟨by omega, i + 1, by omega, by omega, weak_of (fun i => i) (fun i => i) rfl ⟨by simp [boxesR, listsR, csR, renC, keyC, optK, fnd, envR, St.get, keyPV, keyV1, renPV, renV1, hasKey, made_zero] <;> omega, by simp [boxesR, listsR, csR, renC, keyC, optK, fnd, envR, St.get, keyPV, keyV1, renPV, renV1, hasKey, made_zero] <;> omega, by simp [boxesR, listsR, csR, renC, keyC, optK, fnd, envR, St.get, keyPV, keyV1, renPV, renV1, hasKey, made_zero] <;> omega, by simp [boxesR, listsR, csR, renC, keyC, optK, fnd, envR, St.get, keyPV, keyV1, renPV, renV1, hasKey, made_zero] <;> omega, by simp [boxesR, listsR, csR, renC, keyC, optK, fnd, envR, St.get, keyPV, keyV1, renPV, renV1, hasKey, made_zero] <;> omega⟩ (by simp [boxesR, listsR, csR, renC, keyC, optK, fnd, envR, St.get, keyPV, keyV1, renPV, renV1, hasKey, made_zero] <;> omega)⟩
  · have hle : i = xs.length := by simp at h; omega
    subst hle
    simp -implicitDefEqProofs only [made_end, go_sem]
    exact fin_of (fun i => i) (fun i => 7) ⟨by simp [boxesR, listsR, csR, renC, keyC, optK, fnd, envR, St.get, keyPV, keyV1, renPV, renV1, hasKey, made_zero] <;> omega, by simp [boxesR, listsR, csR, renC, keyC, optK, fnd, envR, St.get, keyPV, keyV1, renPV, renV1, hasKey, made_zero] <;> omega, by simp [boxesR, listsR, csR, renC, keyC, optK, fnd, envR, St.get, keyPV, keyV1, renPV, renV1, hasKey, made_zero] <;> omega, by simp [boxesR, listsR, csR, renC, keyC, optK, fnd, envR, St.get, keyPV, keyV1, renPV, renV1, hasKey, made_zero] <;> omega, by simp [boxesR, listsR, csR, renC, keyC, optK, fnd, envR, St.get, keyPV, keyV1, renPV, renV1, hasKey, made_zero] <;> omega⟩ (by simp [boxesR, listsR, csR, renC, keyC, optK, fnd, envR, St.get, keyPV, keyV1, renPV, renV1, hasKey, made_zero] <;> omega) rfl
theorem szLineS_c (xs : List Ln) (left : Int) (h0 : 0 ≤ left) (h1 : left ≤ 1048576) (hn : xs.length ≤ maxLen) : PC Tryz.prog 36 [] [.c (.l 3 (xs.map lineV)), .c (.v (.int .i64 left))] (.s (.c (.v (.int .i64 (if (xs.length : Int) ≤ left then left - xs.length else -1))))) ⟨[], []⟩ := by
  refine pc_of Tryz.func36 rfl (by kernel_rfl) _ Tryz.ntmps36 (by simp) ?_
  simp only [maxLen] at hn
  repeat' first
    | simp -implicitDefEqProofs only [go_sem]
    | refine if_splitP (fun h => ?_) (fun h => ?_) | refine if_splitN (fun h => ?_) (fun h => ?_) | refine if_split (fun h => ?_) (fun h => ?_) | refine grd_splitP (fun h => ?_) (fun h => ?_) | refine grd_splitN (fun h => ?_) (fun h => ?_) | refine grd_split (fun h => ?_) (fun h => ?_) | refine grdX_splitP (fun h => ?_) (fun h => ?_) | refine grdX_splitN (fun h => ?_) (fun h => ?_) | refine grdX_split (fun h => ?_) (fun h => ?_) | refine grdY_splitP (fun h => ?_) (fun h => ?_) | refine grdY_splitN (fun h => ?_) (fun h => ?_) | refine grdY_split (fun h => ?_) (fun h => ?_)
    | (refine And.intro ?_ ?_; omega)
  · exact fin_scal rfl (by rw [if_neg (by omega)])
  · exact fin_scal rfl (by rw [if_pos (by omega)])
end Go.Proofs.YtmgfndejfeconaaGreatDoor
namespace Go.Proofs.YtmgfndejfeconaaGreatDoor
open Go.PL
set_option linter.unusedSimpArgs false
theorem eqLine_c (r : Ln) : PC Tryz.prog 79 [] [.a (lineC r), .a (lineC r)] (vB true) ⟨[], []⟩ := by
  refine pc_of Tryz.func79 rfl (by kernel_rfl) _ Tryz.ntmps79 (by simp) ?_
  simp -implicitDefEqProofs only [go_sem]
  exact fin_scal rfl rfl
theorem eqLineS_c (xs : List Ln) (hn : xs.length ≤ 4194304) : PC Tryz.prog 62 [] [.c (.l 3 (xs.map lineV)), .c (.l 3 (xs.map lineV))] (vB true) ⟨[], []⟩ := by
  refine pc_of Tryz.func62 rfl (by kernel_rfl) _ Tryz.ntmps62 (by simp) ?_
  simp -implicitDefEqProofs only [go_sem]
  refine loop_step (X := Nat) (fun i => ⟨27, [(0, vL 3 (xs.map lineV)), (1, vL 3 (xs.map lineV)), (5, vN i)], ⟨[], []⟩⟩)
    (fun i => i ≤ xs.length) (fun i => xs.length - i) 0 (by omega) (weak_of (fun i => i) (fun i => i) rfl ⟨by simp [boxesR, listsR, csR, renC, keyC, optK, fnd, envR, St.get, keyPV, keyV1, renPV, renV1, hasKey, made_zero] <;> omega, by simp [boxesR, listsR, csR, renC, keyC, optK, fnd, envR, St.get, keyPV, keyV1, renPV, renV1, hasKey, made_zero] <;> omega, by simp [boxesR, listsR, csR, renC, keyC, optK, fnd, envR, St.get, keyPV, keyV1, renPV, renV1, hasKey, made_zero] <;> omega, by simp [boxesR, listsR, csR, renC, keyC, optK, fnd, envR, St.get, keyPV, keyV1, renPV, renV1, hasKey, made_zero] <;> omega, by simp [boxesR, listsR, csR, renC, keyC, optK, fnd, envR, St.get, keyPV, keyV1, renPV, renV1, hasKey, made_zero] <;> omega⟩ (by simp [boxesR, listsR, csR, renC, keyC, optK, fnd, envR, St.get, keyPV, keyV1, renPV, renV1, hasKey, made_zero] <;> omega)) (fun i hi => ?_)
  simp -implicitDefEqProofs only [go_sem]
  refine if_splitP (fun h => ?_) (fun h => ?_)
  · have hlt : i < xs.length := by omega
    have h1 := map_get (f := lineV) hlt
    repeat' first
      | simp -implicitDefEqProofs only [*, lineV, go_sem]
      | refine draw_step Tryz.pl_follows (by kernel_rfl) ?_
      | refine callD (eqLine_c _) rfl rfl rfl ?_
      | (refine And.intro ?_ ?_; omega)
    exact ⟨i + 1, by omega, by omega, weak_of (fun i => i) (fun i => i) rfl ⟨by simp [boxesR, listsR, csR, renC, keyC, optK, fnd, envR, St.get, keyPV, keyV1, renPV, renV1, hasKey, made_zero] <;> omega, by simp [boxesR, listsR, csR, renC, keyC, optK, fnd, envR, St.get, keyPV, keyV1, renPV, renV1, hasKey, made_zero] <;> omega, by simp [boxesR, listsR, csR, renC, keyC, optK, fnd, envR, St.get, keyPV, keyV1, renPV, renV1, hasKey, made_zero] <;> omega, by simp [boxesR, listsR, csR, renC, keyC, optK, fnd, envR, St.get, keyPV, keyV1, renPV, renV1, hasKey, made_zero] <;> omega, by simp [boxesR, listsR, csR, renC, keyC, optK, fnd, envR, St.get, keyPV, keyV1, renPV, renV1, hasKey, made_zero] <;> omega⟩ (by simp [boxesR, listsR, csR, renC, keyC, optK, fnd, envR, St.get, keyPV, keyV1, renPV, renV1, hasKey, made_zero] <;> omega)⟩
  · simp -implicitDefEqProofs only [go_sem]
    exact fin_scal rfl rfl
end Go.Proofs.YtmgfndejfeconaaGreatDoor
namespace Go.Proofs.YtmgfndejfeconaaGreatDoor
open Go.PL
set_option linter.unusedSimpArgs false
def mkLine (k : Int) (j : Nat) : Value := .agg #[.int .i64 (k + 3 * j), .int .i64 (k + 3 * j + 1), .int .i64 (k + 3 * j + 2)]
set_option maxHeartbeats 2000000 in
theorem markLineS_c (d : Nat) (xs : List Ln) (k : Int) (hn : xs.length ≤ 4194304) (h0 : 0 ≤ k) (h1 : k ≤ 1000000000000) :
    PI Tryz.prog 64 [(d, ⟨78, 3, xs.map lineV, false, true⟩)] [.c (.o d), .c (.v (.int .i64 k))] (.s (.c (.v (.int .i64 (k + 3 * xs.length))))) ⟨[], [(d, ⟨78, 3, marks (mkLine k) xs.length, false, true⟩)]⟩ := by
  refine pi_of Tryz.func64 rfl (by kernel_rfl) _ Tryz.ntmps64 (by simp) ?_
  simp -implicitDefEqProofs only [go_sem]
  refine loop_step (X := Nat) (fun i => ⟨34, [(0, vO d), (1, vN (k + 3 * i)), (5, vN i)], ⟨[], [(d, ⟨78, 3, mkd (mkLine k) (xs.map lineV) i, false, true⟩)]⟩⟩)
    (fun i => i ≤ xs.length) (fun i => xs.length - i) 0 (by omega) (weak_of (fun i => i) (fun i => i) rfl ⟨by simp [boxesR, listsR, csR, renC, keyC, optK, fnd, envR, St.get, keyPV, keyV1, renPV, renV1, hasKey, made_zero, mkd_zero] <;> omega, by simp [boxesR, listsR, csR, renC, keyC, optK, fnd, envR, St.get, keyPV, keyV1, renPV, renV1, hasKey, made_zero, mkd_zero] <;> omega, by simp [boxesR, listsR, csR, renC, keyC, optK, fnd, envR, St.get, keyPV, keyV1, renPV, renV1, hasKey, made_zero, mkd_zero] <;> omega, by simp [boxesR, listsR, csR, renC, keyC, optK, fnd, envR, St.get, keyPV, keyV1, renPV, renV1, hasKey, made_zero, mkd_zero] <;> omega, by simp [boxesR, listsR, csR, renC, keyC, optK, fnd, envR, St.get, keyPV, keyV1, renPV, renV1, hasKey, made_zero, mkd_zero] <;> omega⟩ (by simp [boxesR, listsR, csR, renC, keyC, optK, fnd, envR, St.get, keyPV, keyV1, renPV, renV1, hasKey, made_zero, mkd_zero] <;> omega)) (fun i hi => ?_)
  have hml := mkd_len (f := mkLine k) (l := xs.map lineV) (i := i) (by simpa using hi)
  have hml' : (mkd (mkLine k) (xs.map lineV) i).length = xs.length := by simpa using hml
  simp -implicitDefEqProofs only [hml', go_sem]
  refine if_splitP (fun h => ?_) (fun h => ?_)
  · have hlt : i < xs.length := by omega
    have hg : (mkd (mkLine k) (xs.map lineV) i)[i]? = some (lineV xs[i]) := by rw [mkd_get, map_get hlt]
    repeat' first
      | simp -implicitDefEqProofs only [hml', hg, hlt, lineV, go_sem]
      | (refine And.intro ?_ ?_; omega)
    have e : mkd (mkLine k) (xs.map lineV) (i + 1) = (mkd (mkLine k) (xs.map lineV) i).set i (.agg #[.int .i64 (k + 3 * i), .int .i64 (k + 3 * i + 1), .int .i64 (k + 3 * i + 1 + 1)]) := by
      rw [← mkd_set (by simpa using hlt)]
      simp only [mkLine, Int.add_assoc]
      rfl
    have e2 : k + 3 * ((i : Int) + 1) = k + 3 * i + 1 + 1 + 1 := by omega
    exact ⟨i + 1, by omega, by omega, weak_of (fun i => i) (fun i => i) rfl ⟨by simp [boxesR, listsR, csR, renC, keyC, optK, fnd, envR, St.get, keyPV, keyV1, renPV, renV1, hasKey, made_zero, e, e2] <;> omega, by simp [boxesR, listsR, csR, renC, keyC, optK, fnd, envR, St.get, keyPV, keyV1, renPV, renV1, hasKey, made_zero, e, e2] <;> omega, by simp [boxesR, listsR, csR, renC, keyC, optK, fnd, envR, St.get, keyPV, keyV1, renPV, renV1, hasKey, made_zero, e, e2] <;> omega, by simp [boxesR, listsR, csR, renC, keyC, optK, fnd, envR, St.get, keyPV, keyV1, renPV, renV1, hasKey, made_zero, e, e2] <;> omega, by simp [boxesR, listsR, csR, renC, keyC, optK, fnd, envR, St.get, keyPV, keyV1, renPV, renV1, hasKey, made_zero, e, e2] <;> omega⟩ (by simp [boxesR, listsR, csR, renC, keyC, optK, fnd, envR, St.get, keyPV, keyV1, renPV, renV1, hasKey, made_zero, e, e2] <;> omega)⟩
  · have hle : i = xs.length := by omega
    subst hle
    have e : mkd (mkLine k) (xs.map lineV) xs.length = marks (mkLine k) xs.length := by
      have := mkd_end (f := mkLine k) (l := xs.map lineV)
      simpa using this
    simp -implicitDefEqProofs only [e, go_sem]
    exact fin_of (fun i => i) (fun i => i) ⟨by simp [boxesR, listsR, csR, renC, keyC, optK, fnd, envR, St.get, keyPV, keyV1, renPV, renV1, hasKey, made_zero] <;> omega, by simp [boxesR, listsR, csR, renC, keyC, optK, fnd, envR, St.get, keyPV, keyV1, renPV, renV1, hasKey, made_zero] <;> omega, by simp [boxesR, listsR, csR, renC, keyC, optK, fnd, envR, St.get, keyPV, keyV1, renPV, renV1, hasKey, made_zero] <;> omega, by simp [boxesR, listsR, csR, renC, keyC, optK, fnd, envR, St.get, keyPV, keyV1, renPV, renV1, hasKey, made_zero] <;> omega, by simp [boxesR, listsR, csR, renC, keyC, optK, fnd, envR, St.get, keyPV, keyV1, renPV, renV1, hasKey, made_zero] <;> omega⟩ (by simp [boxesR, listsR, csR, renC, keyC, optK, fnd, envR, St.get, keyPV, keyV1, renPV, renV1, hasKey, made_zero] <;> omega) rfl
end Go.Proofs.YtmgfndejfeconaaGreatDoor
