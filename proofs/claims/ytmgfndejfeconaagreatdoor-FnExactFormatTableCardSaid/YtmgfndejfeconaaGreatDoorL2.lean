/-
  What the functions of the laws on records compute.
  What the functions of the laws that look a record up compute.
-/
import Derived.Test.YtmgfndejfeconaaGreatDoorFa
import Derived.Test.YtmgfndejfeconaaGreatDoorGa
import Derived.Test.YtmgfndejfeconaaGreatDoorL1
import Derived.Test.YtmgfndejfeconaaGreatDoorEg
namespace Go.Proofs.YtmgfndejfeconaaGreatDoor
open Go.PL
set_option linter.unusedSimpArgs false
structure Rec where
  p : Int
  h : Int
  s : Int
  d : Int
def recV (r : Rec) : Value := .agg #[.int .i64 r.p, .int .i64 r.h, .int .i64 r.s, .int .i64 r.d]
abbrev recC (r : Rec) : List C := [.v (.int .i64 r.p), .v (.int .i64 r.h), .v (.int .i64 r.s), .v (.int .i64 r.d)]
theorem toRecord_c (r : Rec) : PC Tryz.prog 49 [] [.a (recC r)] (.s (.a (recC r))) ⟨[], []⟩ := by
  refine pc_of Tryz.func49 rfl (by kernel_rfl) _ Tryz.ntmps49 (by simp) ?_
  simp -implicitDefEqProofs only [go_sem]
  exact fin_scal rfl rfl
theorem toRecordS_c (d : Nat) (rs : List Rec) (hn : rs.length ≤ 1048576) : PC Tryz.prog 23 [] [.c (.l 4 (rs.map recV))] (.s (.c (.o d))) ⟨[], [(d, ⟨86, 4, rs.map recV, false, true⟩)]⟩ := by
  refine pc_of Tryz.func23 rfl (by kernel_rfl) _ Tryz.ntmps23 (by simp) ?_
  simp -implicitDefEqProofs only [go_sem]
  refine ⟨by omega, ?_⟩
  refine loop_step (X := Nat) (fun i => ⟨23, [(0, vL 4 (rs.map recV)), (3, vO 7), (4, vN i)], ⟨[], [(7, ⟨86, 4, made recV (.agg #[.int .i64 0, .int .i64 0, .int .i64 0, .int .i64 0]) rs i, false, true⟩)]⟩⟩)
    (fun i => i ≤ rs.length) (fun i => rs.length - i) 0 (by simp) (weak_of (fun i => i) (fun i => i) rfl ⟨by simp [boxesR, listsR, csR, renC, keyC, optK, fnd, envR, St.get, keyPV, keyV1, renPV, renV1, hasKey, made_zero] <;> omega, by simp [boxesR, listsR, csR, renC, keyC, optK, fnd, envR, St.get, keyPV, keyV1, renPV, renV1, hasKey, made_zero] <;> omega, by simp [boxesR, listsR, csR, renC, keyC, optK, fnd, envR, St.get, keyPV, keyV1, renPV, renV1, hasKey, made_zero] <;> omega, by simp [boxesR, listsR, csR, renC, keyC, optK, fnd, envR, St.get, keyPV, keyV1, renPV, renV1, hasKey, made_zero] <;> omega, by simp [boxesR, listsR, csR, renC, keyC, optK, fnd, envR, St.get, keyPV, keyV1, renPV, renV1, hasKey, made_zero] <;> omega⟩ (by simp [boxesR, listsR, csR, renC, keyC, optK, fnd, envR, St.get, keyPV, keyV1, renPV, renV1, hasKey, made_zero] <;> omega)) (fun i hi => ?_)
  simp -implicitDefEqProofs only [go_sem]
  refine if_split (fun h => ?_) (fun h => ?_)
  · have hlt : i < rs.length := by simpa using h
    simp -implicitDefEqProofs only [map_get hlt, recV, go_sem]
    refine callS (toRecord_c rs[i]) rfl rfl rfl ?_
    simp -implicitDefEqProofs only [made_len hi, hlt, go_sem]
    have hs : (made recV (.agg #[.int .i64 0, .int .i64 0, .int .i64 0, .int .i64 0]) rs i).set i (.agg #[.int .i64 rs[i].p, .int .i64 rs[i].h, .int .i64 rs[i].s, .int .i64 rs[i].d]) = made recV _ rs (i + 1) := made_set hlt
    rw [hs]
    exact ⟨by omega, i + 1, by omega, by omega, weak_of (fun i => i) (fun i => i) rfl ⟨by simp [boxesR, listsR, csR, renC, keyC, optK, fnd, envR, St.get, keyPV, keyV1, renPV, renV1, hasKey, made_zero] <;> omega, by simp [boxesR, listsR, csR, renC, keyC, optK, fnd, envR, St.get, keyPV, keyV1, renPV, renV1, hasKey, made_zero] <;> omega, by simp [boxesR, listsR, csR, renC, keyC, optK, fnd, envR, St.get, keyPV, keyV1, renPV, renV1, hasKey, made_zero] <;> omega, by simp [boxesR, listsR, csR, renC, keyC, optK, fnd, envR, St.get, keyPV, keyV1, renPV, renV1, hasKey, made_zero] <;> omega, by simp [boxesR, listsR, csR, renC, keyC, optK, fnd, envR, St.get, keyPV, keyV1, renPV, renV1, hasKey, made_zero] <;> omega⟩ (by simp [boxesR, listsR, csR, renC, keyC, optK, fnd, envR, St.get, keyPV, keyV1, renPV, renV1, hasKey, made_zero] <;> omega)⟩
  · have hle : i = rs.length := by simp at h; omega
    subst hle
    simp -implicitDefEqProofs only [made_end, go_sem]
    exact fin_of (fun i => i) (fun i => 7) ⟨by simp [boxesR, listsR, csR, renC, keyC, optK, fnd, envR, St.get, keyPV, keyV1, renPV, renV1, hasKey, made_zero] <;> omega, by simp [boxesR, listsR, csR, renC, keyC, optK, fnd, envR, St.get, keyPV, keyV1, renPV, renV1, hasKey, made_zero] <;> omega, by simp [boxesR, listsR, csR, renC, keyC, optK, fnd, envR, St.get, keyPV, keyV1, renPV, renV1, hasKey, made_zero] <;> omega, by simp [boxesR, listsR, csR, renC, keyC, optK, fnd, envR, St.get, keyPV, keyV1, renPV, renV1, hasKey, made_zero] <;> omega, by simp [boxesR, listsR, csR, renC, keyC, optK, fnd, envR, St.get, keyPV, keyV1, renPV, renV1, hasKey, made_zero] <;> omega⟩ (by simp [boxesR, listsR, csR, renC, keyC, optK, fnd, envR, St.get, keyPV, keyV1, renPV, renV1, hasKey, made_zero] <;> omega) rfl
def recOk (r : Rec) : Bool := within r.p 0 999 && within r.h 1 999 && within r.s 1 60 && within r.d 0 9999
def goodAt (rs : List Rec) (i : Nat) : Bool := match rs[i]? with
  | some r => recOk r && (decide (i = 0) || match rs[i - 1]? with | some q => decide (q.p < r.p) | none => false)
  | none => false
def recordsOk (rs : List Rec) : Bool := decide (rs.length ≤ 30) && (List.range rs.length).all (goodAt rs)
theorem recordsOk_bad {rs : List Rec} {i : Nat} (h : i < rs.length) (hb : goodAt rs i = false) : recordsOk rs = false := by
  cases hr : recordsOk rs with
  | false => rfl
  | true =>
    simp only [recordsOk, Bool.and_eq_true, List.all_eq_true, List.mem_range] at hr
    rw [hr.2 i h] at hb; cases hb
theorem recordsOk_end {rs : List Rec} (h : ∀ j, j < rs.length → goodAt rs j = true) : recordsOk rs = decide (rs.length ≤ 30) := by
  simp only [recordsOk]
  have : (List.range rs.length).all (goodAt rs) = true := by simpa [List.all_eq_true] using h
  rw [this, Bool.and_true]
theorem goodAt_eq {rs : List Rec} {i : Nat} (h : i < rs.length) : goodAt rs i = (recOk rs[i] && (decide (i = 0) || decide ((rs[i - 1]'(by omega)).p < rs[i].p))) := by
  have e1 : rs[i]? = some rs[i] := by simp [h]
  have e2 : rs[i - 1]? = some (rs[i - 1]'(by omega)) := List.getElem?_eq_getElem (by omega)
  unfold goodAt
  rw [e1, e2]
theorem good_step {G : Nat → Bool} {i : Nat} (h : ∀ j, j < i → G j = true) (hi : G i = true) : ∀ j, j < i + 1 → G j = true := fun j hj => by
  by_cases e : j = i
  · rw [e]; exact hi
  · exact h j (by omega)
theorem RecordsOk_c (rs : List Rec) (hn : rs.length ≤ 1048576) : PC Tryz.prog 39 [] [.c (.l 4 (rs.map recV))] (vB (recordsOk rs)) ⟨[], []⟩ := by
  refine pc_of Tryz.func39 rfl (by kernel_rfl) _ Tryz.ntmps39 (by simp) ?_
  simp -implicitDefEqProofs only [go_sem]
  refine loop_step (X := Nat) (fun i => ⟨55, [(0, vL 4 (rs.map recV)), (3, vN i)], ⟨[], []⟩⟩)
    (fun i => i ≤ rs.length ∧ ∀ j, j < i → goodAt rs j = true) (fun i => rs.length - i) 0 ⟨by omega, by omega⟩ (weak_of (fun i => i) (fun i => i) rfl ⟨by simp [boxesR, listsR, csR, renC, keyC, optK, fnd, envR, St.get, keyPV, keyV1, renPV, renV1, hasKey, made_zero] <;> omega, by simp [boxesR, listsR, csR, renC, keyC, optK, fnd, envR, St.get, keyPV, keyV1, renPV, renV1, hasKey, made_zero] <;> omega, by simp [boxesR, listsR, csR, renC, keyC, optK, fnd, envR, St.get, keyPV, keyV1, renPV, renV1, hasKey, made_zero] <;> omega, by simp [boxesR, listsR, csR, renC, keyC, optK, fnd, envR, St.get, keyPV, keyV1, renPV, renV1, hasKey, made_zero] <;> omega, by simp [boxesR, listsR, csR, renC, keyC, optK, fnd, envR, St.get, keyPV, keyV1, renPV, renV1, hasKey, made_zero] <;> omega⟩ (by simp [boxesR, listsR, csR, renC, keyC, optK, fnd, envR, St.get, keyPV, keyV1, renPV, renV1, hasKey, made_zero] <;> omega)) (fun i hi => ?_)
  simp -implicitDefEqProofs only [go_sem]
  refine if_split (fun h => ?_) (fun h => ?_)
  · have hlt : i < rs.length := by simpa using h
    have hlt' : i - 1 < rs.length := by omega
    have h1 := map_get (f := recV) hlt
    have h2 := map_get (f := recV) hlt'
    simp -implicitDefEqProofs only [h1, recV, go_sem]
    refine draw_step Tryz.pl_follows (by kernel_rfl) ?_
    obtain ⟨_, hi2⟩ := hi
    repeat' first
      | simp -implicitDefEqProofs only [*, recV, go_sem]
      | refine if_splitP (fun h => ?_) (fun h => ?_) | refine if_splitN (fun h => ?_) (fun h => ?_) | refine if_split (fun h => ?_) (fun h => ?_) | refine grd_splitP (fun h => ?_) (fun h => ?_) | refine grd_splitN (fun h => ?_) (fun h => ?_) | refine grd_split (fun h => ?_) (fun h => ?_) | refine grdX_splitP (fun h => ?_) (fun h => ?_) | refine grdX_splitN (fun h => ?_) (fun h => ?_) | refine grdX_split (fun h => ?_) (fun h => ?_) | refine grdY_splitP (fun h => ?_) (fun h => ?_) | refine grdY_splitN (fun h => ?_) (fun h => ?_) | refine grdY_split (fun h => ?_) (fun h => ?_)
      | refine callD (l01In_c _ _ _) rfl rfl rfl ?_
      | refine And.intro (by omega) ?_
    all_goals have hg := goodAt_eq hlt
    all_goals first
      | exact fin_scal rfl (by rw [recordsOk_bad hlt (by rw [hg]; clear hi2 hg; simp_all [recOk]; try omega)])
      | exact ⟨i + 1, ⟨by omega, good_step hi2 (by rw [hg]; clear hi2 hg; simp_all [recOk]; try omega)⟩, by omega, weak_of (fun i => i) (fun i => i) rfl ⟨by simp [boxesR, listsR, csR, renC, keyC, optK, fnd, envR, St.get, keyPV, keyV1, renPV, renV1, hasKey, made_zero] <;> omega, by simp [boxesR, listsR, csR, renC, keyC, optK, fnd, envR, St.get, keyPV, keyV1, renPV, renV1, hasKey, made_zero] <;> omega, by simp [boxesR, listsR, csR, renC, keyC, optK, fnd, envR, St.get, keyPV, keyV1, renPV, renV1, hasKey, made_zero] <;> omega, by simp [boxesR, listsR, csR, renC, keyC, optK, fnd, envR, St.get, keyPV, keyV1, renPV, renV1, hasKey, made_zero] <;> omega, by simp [boxesR, listsR, csR, renC, keyC, optK, fnd, envR, St.get, keyPV, keyV1, renPV, renV1, hasKey, made_zero] <;> omega⟩ (by simp [boxesR, listsR, csR, renC, keyC, optK, fnd, envR, St.get, keyPV, keyV1, renPV, renV1, hasKey, made_zero] <;> omega)⟩
  · have hle : i = rs.length := by simp at h; omega
    subst hle
    simp -implicitDefEqProofs only [recordsOk_end hi.2, go_sem]
    exact fin_scal rfl (by simp; omega)
theorem iRecordsOk_c (rs : List Rec) (hn : rs.length ≤ 1048576) : PC Tryz.prog 52 [] [.c (.l 4 (rs.map recV))] (vB (recordsOk rs)) ⟨[], []⟩ := by
  refine pc_of Tryz.func52 rfl (by kernel_rfl) _ Tryz.ntmps52 (by simp) ?_
  simp -implicitDefEqProofs only [go_sem]
  refine if_splitP (fun h => ?_) (fun h => ?_)
  · simp -implicitDefEqProofs only [go_sem]
    exact fin_scal rfl (by have : ¬ rs.length ≤ 30 := by omega
                           simp [recordsOk, this])
  simp -implicitDefEqProofs only [go_sem]
  refine loop_step (X := Nat) (fun i => ⟨51, [(0, vL 4 (rs.map recV)), (8, vL 4 (rs.map recV)), (9, vN rs.length), (10, vN i)], ⟨[], []⟩⟩)
    (fun i => i ≤ rs.length ∧ ∀ j, j < i → goodAt rs j = true) (fun i => rs.length - i) 0 ⟨by omega, by omega⟩ (weak_of (fun i => i) (fun i => i) rfl ⟨by simp [boxesR, listsR, csR, renC, keyC, optK, fnd, envR, St.get, keyPV, keyV1, renPV, renV1, hasKey, made_zero] <;> omega, by simp [boxesR, listsR, csR, renC, keyC, optK, fnd, envR, St.get, keyPV, keyV1, renPV, renV1, hasKey, made_zero] <;> omega, by simp [boxesR, listsR, csR, renC, keyC, optK, fnd, envR, St.get, keyPV, keyV1, renPV, renV1, hasKey, made_zero] <;> omega, by simp [boxesR, listsR, csR, renC, keyC, optK, fnd, envR, St.get, keyPV, keyV1, renPV, renV1, hasKey, made_zero] <;> omega, by simp [boxesR, listsR, csR, renC, keyC, optK, fnd, envR, St.get, keyPV, keyV1, renPV, renV1, hasKey, made_zero] <;> omega⟩ (by simp [boxesR, listsR, csR, renC, keyC, optK, fnd, envR, St.get, keyPV, keyV1, renPV, renV1, hasKey, made_zero] <;> omega)) (fun i hi => ?_)
  simp -implicitDefEqProofs only [go_sem]
  refine if_splitP (fun h => ?_) (fun h => ?_)
  · have hlt : i < rs.length := by omega
    have hlt' : i - 1 < rs.length := by omega
    have h1 := map_get (f := recV) hlt
    have h2 := map_get (f := recV) hlt'
    obtain ⟨_, hi2⟩ := hi
    repeat' first
      | simp -implicitDefEqProofs only [*, recV, go_sem]
      | refine if_splitP (fun h => ?_) (fun h => ?_) | refine if_splitN (fun h => ?_) (fun h => ?_) | refine if_split (fun h => ?_) (fun h => ?_) | refine grd_splitP (fun h => ?_) (fun h => ?_) | refine grd_splitN (fun h => ?_) (fun h => ?_) | refine grd_split (fun h => ?_) (fun h => ?_) | refine grdX_splitP (fun h => ?_) (fun h => ?_) | refine grdX_splitN (fun h => ?_) (fun h => ?_) | refine grdX_split (fun h => ?_) (fun h => ?_) | refine grdY_splitP (fun h => ?_) (fun h => ?_) | refine grdY_splitN (fun h => ?_) (fun h => ?_) | refine grdY_split (fun h => ?_) (fun h => ?_)
      | refine draw_step Tryz.pl_follows (by kernel_rfl) ?_
      | refine callS (within_c _ _ _) rfl rfl rfl ?_
      | refine And.intro (by omega) ?_
    all_goals have hg := goodAt_eq hlt
    all_goals first
      | exact fin_scal rfl (by rw [recordsOk_bad hlt (by rw [hg]; clear hi2 hg; simp_all [recOk]; try omega)])
      | exact ⟨i + 1, ⟨by omega, good_step hi2 (by rw [hg]; clear hi2 hg; simp_all [recOk]; try omega)⟩, by omega, weak_of (fun i => i) (fun i => i) rfl ⟨by simp [boxesR, listsR, csR, renC, keyC, optK, fnd, envR, St.get, keyPV, keyV1, renPV, renV1, hasKey, made_zero] <;> omega, by simp [boxesR, listsR, csR, renC, keyC, optK, fnd, envR, St.get, keyPV, keyV1, renPV, renV1, hasKey, made_zero] <;> omega, by simp [boxesR, listsR, csR, renC, keyC, optK, fnd, envR, St.get, keyPV, keyV1, renPV, renV1, hasKey, made_zero] <;> omega, by simp [boxesR, listsR, csR, renC, keyC, optK, fnd, envR, St.get, keyPV, keyV1, renPV, renV1, hasKey, made_zero] <;> omega, by simp [boxesR, listsR, csR, renC, keyC, optK, fnd, envR, St.get, keyPV, keyV1, renPV, renV1, hasKey, made_zero] <;> omega⟩ (by simp [boxesR, listsR, csR, renC, keyC, optK, fnd, envR, St.get, keyPV, keyV1, renPV, renV1, hasKey, made_zero] <;> omega)⟩
  · have hle : i = rs.length := by omega
    subst hle
    simp -implicitDefEqProofs only [recordsOk_end hi.2, go_sem]
    exact fin_scal rfl (by simp; omega)
theorem eqRecord_c (r : Rec) : PC Tryz.prog 63 [] [.a (recC r), .a (recC r)] (vB true) ⟨[], []⟩ := by
  refine pc_of Tryz.func63 rfl (by kernel_rfl) _ Tryz.ntmps63 (by simp) ?_
  simp -implicitDefEqProofs only [go_sem]
  exact fin_scal rfl rfl
theorem eqRecordS_c (rs : List Rec) (hn : rs.length ≤ 1048576) : PC Tryz.prog 32 [] [.c (.l 4 (rs.map recV)), .c (.l 4 (rs.map recV))] (vB true) ⟨[], []⟩ := by
  refine pc_of Tryz.func32 rfl (by kernel_rfl) _ Tryz.ntmps32 (by simp) ?_
  simp -implicitDefEqProofs only [go_sem]
  refine loop_step (X := Nat) (fun i => ⟨27, [(0, vL 4 (rs.map recV)), (1, vL 4 (rs.map recV)), (5, vN i)], ⟨[], []⟩⟩)
    (fun i => i ≤ rs.length) (fun i => rs.length - i) 0 (by omega) (weak_of (fun i => i) (fun i => i) rfl ⟨by simp [boxesR, listsR, csR, renC, keyC, optK, fnd, envR, St.get, keyPV, keyV1, renPV, renV1, hasKey, made_zero] <;> omega, by simp [boxesR, listsR, csR, renC, keyC, optK, fnd, envR, St.get, keyPV, keyV1, renPV, renV1, hasKey, made_zero] <;> omega, by simp [boxesR, listsR, csR, renC, keyC, optK, fnd, envR, St.get, keyPV, keyV1, renPV, renV1, hasKey, made_zero] <;> omega, by simp [boxesR, listsR, csR, renC, keyC, optK, fnd, envR, St.get, keyPV, keyV1, renPV, renV1, hasKey, made_zero] <;> omega, by simp [boxesR, listsR, csR, renC, keyC, optK, fnd, envR, St.get, keyPV, keyV1, renPV, renV1, hasKey, made_zero] <;> omega⟩ (by simp [boxesR, listsR, csR, renC, keyC, optK, fnd, envR, St.get, keyPV, keyV1, renPV, renV1, hasKey, made_zero] <;> omega)) (fun i hi => ?_)
  simp -implicitDefEqProofs only [go_sem]
  refine if_splitP (fun h => ?_) (fun h => ?_)
  · have hlt : i < rs.length := by omega
    have h1 := map_get (f := recV) hlt
    repeat' first
      | simp -implicitDefEqProofs only [*, recV, go_sem]
      | refine draw_step Tryz.pl_follows (by kernel_rfl) ?_
      | refine callD (eqRecord_c _) rfl rfl rfl ?_
      | refine And.intro (by omega) ?_
    exact ⟨i + 1, by omega, by omega, weak_of (fun i => i) (fun i => i) rfl ⟨by simp [boxesR, listsR, csR, renC, keyC, optK, fnd, envR, St.get, keyPV, keyV1, renPV, renV1, hasKey, made_zero] <;> omega, by simp [boxesR, listsR, csR, renC, keyC, optK, fnd, envR, St.get, keyPV, keyV1, renPV, renV1, hasKey, made_zero] <;> omega, by simp [boxesR, listsR, csR, renC, keyC, optK, fnd, envR, St.get, keyPV, keyV1, renPV, renV1, hasKey, made_zero] <;> omega, by simp [boxesR, listsR, csR, renC, keyC, optK, fnd, envR, St.get, keyPV, keyV1, renPV, renV1, hasKey, made_zero] <;> omega, by simp [boxesR, listsR, csR, renC, keyC, optK, fnd, envR, St.get, keyPV, keyV1, renPV, renV1, hasKey, made_zero] <;> omega⟩ (by simp [boxesR, listsR, csR, renC, keyC, optK, fnd, envR, St.get, keyPV, keyV1, renPV, renV1, hasKey, made_zero] <;> omega)⟩
  · simp -implicitDefEqProofs only [go_sem]
    exact fin_scal rfl rfl
abbrev recK : List K0 := [.i .i64, .i .i64, .i .i64, .i .i64]
def recIn (r : Rec) : Prop := inK .i64 r.p ∧ inK .i64 r.h ∧ inK .i64 r.s ∧ inK .i64 r.d
theorem rec_of {x : Value} (h : IsE true recK x) : ∃ r, x = recV r ∧ recIn r := by
  obtain ⟨cs, rfl, h⟩ := h
  obtain ⟨c1, r1, rfl, ⟨a, rfl, ha⟩, h1⟩ := all2_cons h
  obtain ⟨c2, r2, rfl, ⟨b, rfl, hb⟩, h2⟩ := all2_cons h1
  obtain ⟨c3, r3, rfl, ⟨c, rfl, hc⟩, h3⟩ := all2_cons h2
  obtain ⟨c4, r4, rfl, ⟨d, rfl, hd⟩, h4⟩ := all2_cons h3
  obtain rfl := all2_nil h4
  exact ⟨⟨a, b, c, d⟩, rfl, ha, hb, hc, hd⟩
theorem recs_of {c : C} (h : TC (.l 4 true recK) c) : ∃ rs : List Rec, c = .l 4 (rs.map recV) ∧ rs.length ≤ maxLen ∧ ∀ r ∈ rs, recIn r := by
  obtain ⟨xs, rfl, hl, hx⟩ := tc_l h
  obtain ⟨rs, rfl, hr⟩ := list_of recV recIn (xs := xs) (fun x hm => rec_of (hx x hm))
  exact ⟨rs, rfl, by simpa using hl, hr⟩
end Go.Proofs.YtmgfndejfeconaaGreatDoor
namespace Go.Proofs.YtmgfndejfeconaaGreatDoor
open Go.PL
set_option linter.unusedSimpArgs false
def zeroRec : Rec := ⟨0, 0, 0, 0⟩
def recordFound (rs : List Rec) (p : Int) : Option Rec := if recordsOk rs = true then rs.find? (fun r => decide (r.p = p)) else none
def recordPV : Option Rec → PV
  | some r => .t [.a (recC r), .c (.v (.bool true))]
  | none => .t [.a (recC zeroRec), .c (.v (.bool false))]
def cntRec (rs : List Rec) (h : Int) (i : Nat) : Nat := ((rs.take i).filter (fun r => decide (r.h = h))).length
def countRecords (rs : List Rec) (h : Int) : Nat := if recordsOk rs = true then cntRec rs h rs.length else 0
end Go.Proofs.YtmgfndejfeconaaGreatDoor
