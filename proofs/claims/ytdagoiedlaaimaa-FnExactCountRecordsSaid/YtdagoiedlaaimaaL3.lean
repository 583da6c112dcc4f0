/-
  What the functions of the laws that look a record up compute.
-/
import Derived.Test.YtdagoiedlaaimaaL2
namespace Go.Proofs.Ytdagoiedlaaimaa
open Go.PL
set_option linter.unusedSimpArgs false
def zeroRec : Rec := ⟨0, 0, 0, 0⟩
def recordFound (rs : List Rec) (p : Int) : Option Rec := if recordsOk rs = true then rs.find? (fun r => decide (r.p = p)) else none
def recordPV : Option Rec → PV
  | some r => .t [.a (recC r), .c (.v (.bool true))]
  | none => .t [.a (recC zeroRec), .c (.v (.bool false))]
theorem recordPV_scal {o : Option Rec} : scalPV (recordPV o) = true := by cases o <;> rfl
theorem find_at {rs : List Rec} {p : Int} {i : Nat} (h : i < rs.length) (hi : ∀ j, (hj : j < rs.length) → j < i → rs[j].p ≠ p) (he : rs[i].p = p) : rs.find? (fun r => decide (r.p = p)) = some rs[i] := by
  rw [List.find?_eq_some_iff_getElem]
  refine ⟨by simpa using he, i, h, rfl, fun j hj => ?_⟩
  simpa using hi j (by omega) hj
theorem find_end {rs : List Rec} {p : Int} (hi : ∀ j, (hj : j < rs.length) → j < rs.length → rs[j].p ≠ p) : rs.find? (fun r => decide (r.p = p)) = none := by
  rw [List.find?_eq_none]
  intro r hr
  obtain ⟨j, hj, rfl⟩ := List.mem_iff_getElem.1 hr
  simpa using hi j hj hj
theorem found_step {rs : List Rec} {p : Int} {i : Nat} (h : i < rs.length) (hi : ∀ j, (hj : j < rs.length) → j < i → rs[j].p ≠ p) (he : ¬ rs[i].p = p) : ∀ j, (hj : j < rs.length) → j < i + 1 → rs[j].p ≠ p := fun j hj hlt => by
  by_cases e : j = i
  · subst e; exact he
  · exact hi j hj (by omega)
theorem RecordOf_c (rs : List Rec) (p : Int) (hn : rs.length ≤ 1048576) : PC Try.prog 23 [] [.c (.l 4 (rs.map recV)), .c (.v (.int .i64 p))] (recordPV (recordFound rs p)) ⟨[], []⟩ := by
  refine pc_of Try.func23 rfl (by kernel_rfl) _ Try.ntmps23 (by simp) ?_
  simp -implicitDefEqProofs only [go_sem, Nat.reduceLT, Nat.reduceLeDiff, Nat.reduceEqDiff, Nat.reduceAdd, Nat.reduceSub, Nat.reduceMul, Int.reduceEq, Int.reduceLT, Int.reduceLE, Int.reduceNeg, Int.reduceAdd, Int.reduceSub, Int.reduceMul, Int.reduceToNat, reduceIte, reduceCtorEq, List.map_cons, List.map_nil]
  refine loop_step (X := Nat) (fun i => ⟨29, [(0, vL 4 (rs.map recV)), (1, vN p), (6, vN i), (4, .s (.c (.p 4 0))), (5, vB false)], ⟨[(4, recC zeroRec)], []⟩⟩)
    (fun i => i ≤ rs.length ∧ ∀ j, (hj : j < rs.length) → j < i → rs[j].p ≠ p) (fun i => rs.length - i) 0 ⟨by omega, by omega⟩ (weak_of (fun i => i) (fun i => i) rfl ⟨by simp [boxesR, listsR, csR, renC, keyC, optK, fnd, envR, St.get, keyPV, keyV1, renPV, renV1, hasKey, made_zero, zeroRec], by simp [boxesR, listsR, csR, renC, keyC, optK, fnd, envR, St.get, keyPV, keyV1, renPV, renV1, hasKey, made_zero, zeroRec], by simp [boxesR, listsR, csR, renC, keyC, optK, fnd, envR, St.get, keyPV, keyV1, renPV, renV1, hasKey, made_zero, zeroRec], by simp [boxesR, listsR, csR, renC, keyC, optK, fnd, envR, St.get, keyPV, keyV1, renPV, renV1, hasKey, made_zero, zeroRec], by simp [boxesR, listsR, csR, renC, keyC, optK, fnd, envR, St.get, keyPV, keyV1, renPV, renV1, hasKey, made_zero, zeroRec]⟩ (by simp [boxesR, listsR, csR, renC, keyC, optK, fnd, envR, St.get, keyPV, keyV1, renPV, renV1, hasKey, made_zero, zeroRec])) (fun i hi => ?_)
  obtain ⟨hi1, hi2⟩ := hi
  simp -implicitDefEqProofs only [go_sem, Nat.reduceLT, Nat.reduceLeDiff, Nat.reduceEqDiff, Nat.reduceAdd, Nat.reduceSub, Nat.reduceMul, Int.reduceEq, Int.reduceLT, Int.reduceLE, Int.reduceNeg, Int.reduceAdd, Int.reduceSub, Int.reduceMul, Int.reduceToNat, reduceIte, reduceCtorEq, List.map_cons, List.map_nil]
  refine grd_splitP (fun h => ?_) (fun h => ?_)
  · have hlt : i < rs.length := by omega
    have h1 := map_get (f := recV) hlt
    simp -implicitDefEqProofs only [h, go_sem, Nat.reduceLT, Nat.reduceLeDiff, Nat.reduceEqDiff, Nat.reduceAdd, Nat.reduceSub, Nat.reduceMul, Int.reduceEq, Int.reduceLT, Int.reduceLE, Int.reduceNeg, Int.reduceAdd, Int.reduceSub, Int.reduceMul, Int.reduceToNat, reduceIte, reduceCtorEq, List.map_cons, List.map_nil]
    refine callS (RecordsOk_c _ hn) rfl rfl rfl ?_
    simp -implicitDefEqProofs only [h, go_sem, Nat.reduceLT, Nat.reduceLeDiff, Nat.reduceEqDiff, Nat.reduceAdd, Nat.reduceSub, Nat.reduceMul, Int.reduceEq, Int.reduceLT, Int.reduceLE, Int.reduceNeg, Int.reduceAdd, Int.reduceSub, Int.reduceMul, Int.reduceToNat, reduceIte, reduceCtorEq, List.map_cons, List.map_nil]
    refine if_split (fun hk => ?_) (fun hk => ?_)
    · simp -implicitDefEqProofs only [h1, recV, go_sem, Nat.reduceLT, Nat.reduceLeDiff, Nat.reduceEqDiff, Nat.reduceAdd, Nat.reduceSub, Nat.reduceMul, Int.reduceEq, Int.reduceLT, Int.reduceLE, Int.reduceNeg, Int.reduceAdd, Int.reduceSub, Int.reduceMul, Int.reduceToNat, reduceIte, reduceCtorEq, List.map_cons, List.map_nil]
      refine if_splitP (fun he => ?_) (fun he => ?_)
      · simp -implicitDefEqProofs only [h1, recV, go_sem, Nat.reduceLT, Nat.reduceLeDiff, Nat.reduceEqDiff, Nat.reduceAdd, Nat.reduceSub, Nat.reduceMul, Int.reduceEq, Int.reduceLT, Int.reduceLE, Int.reduceNeg, Int.reduceAdd, Int.reduceSub, Int.reduceMul, Int.reduceToNat, reduceIte, reduceCtorEq, List.map_cons, List.map_nil]
        exact fin_scal recordPV_scal (by simp [recordFound, hk, find_at hlt hi2 he, recordPV])
      · simp -implicitDefEqProofs only [h1, recV, go_sem, Nat.reduceLT, Nat.reduceLeDiff, Nat.reduceEqDiff, Nat.reduceAdd, Nat.reduceSub, Nat.reduceMul, Int.reduceEq, Int.reduceLT, Int.reduceLE, Int.reduceNeg, Int.reduceAdd, Int.reduceSub, Int.reduceMul, Int.reduceToNat, reduceIte, reduceCtorEq, List.map_cons, List.map_nil]
        exact ⟨by omega, i + 1, ⟨by omega, found_step hlt hi2 he⟩, by omega, weak_of (fun i => i) (fun i => i) rfl ⟨by simp [boxesR, listsR, csR, renC, keyC, optK, fnd, envR, St.get, keyPV, keyV1, renPV, renV1, hasKey, made_zero], by simp [boxesR, listsR, csR, renC, keyC, optK, fnd, envR, St.get, keyPV, keyV1, renPV, renV1, hasKey, made_zero], by simp [boxesR, listsR, csR, renC, keyC, optK, fnd, envR, St.get, keyPV, keyV1, renPV, renV1, hasKey, made_zero], by simp [boxesR, listsR, csR, renC, keyC, optK, fnd, envR, St.get, keyPV, keyV1, renPV, renV1, hasKey, made_zero], by simp [boxesR, listsR, csR, renC, keyC, optK, fnd, envR, St.get, keyPV, keyV1, renPV, renV1, hasKey, made_zero]⟩ (by simp [boxesR, listsR, csR, renC, keyC, optK, fnd, envR, St.get, keyPV, keyV1, renPV, renV1, hasKey, made_zero])⟩
    · simp -implicitDefEqProofs only [go_sem, Nat.reduceLT, Nat.reduceLeDiff, Nat.reduceEqDiff, Nat.reduceAdd, Nat.reduceSub, Nat.reduceMul, Int.reduceEq, Int.reduceLT, Int.reduceLE, Int.reduceNeg, Int.reduceAdd, Int.reduceSub, Int.reduceMul, Int.reduceToNat, reduceIte, reduceCtorEq, List.map_cons, List.map_nil]
      exact fin_scal recordPV_scal (by simp [recordFound, hk, recordPV, zeroRec])
  · have hle : i = rs.length := by omega
    subst hle
    simp -implicitDefEqProofs only [h, go_sem, Nat.reduceLT, Nat.reduceLeDiff, Nat.reduceEqDiff, Nat.reduceAdd, Nat.reduceSub, Nat.reduceMul, Int.reduceEq, Int.reduceLT, Int.reduceLE, Int.reduceNeg, Int.reduceAdd, Int.reduceSub, Int.reduceMul, Int.reduceToNat, reduceIte, reduceCtorEq, List.map_cons, List.map_nil]
    exact fin_scal recordPV_scal (by simp [recordFound, find_end hi2, recordPV, zeroRec])
theorem iRecordOf_c (rs : List Rec) (p : Int) (hn : rs.length ≤ 1048576) : PC Try.prog 24 [] [.c (.l 4 (rs.map recV)), .c (.v (.int .i64 p))] (recordPV (recordFound rs p)) ⟨[], []⟩ := by
  refine pc_of Try.func24 rfl (by kernel_rfl) _ Try.ntmps24 (by simp) ?_
  simp -implicitDefEqProofs only [go_sem, Nat.reduceLT, Nat.reduceLeDiff, Nat.reduceEqDiff, Nat.reduceAdd, Nat.reduceSub, Nat.reduceMul, Int.reduceEq, Int.reduceLT, Int.reduceLE, Int.reduceNeg, Int.reduceAdd, Int.reduceSub, Int.reduceMul, Int.reduceToNat, reduceIte, reduceCtorEq, List.map_cons, List.map_nil]
  refine callS (iRecordsOk_c _ hn) rfl rfl rfl ?_
  simp -implicitDefEqProofs only [go_sem, Nat.reduceLT, Nat.reduceLeDiff, Nat.reduceEqDiff, Nat.reduceAdd, Nat.reduceSub, Nat.reduceMul, Int.reduceEq, Int.reduceLT, Int.reduceLE, Int.reduceNeg, Int.reduceAdd, Int.reduceSub, Int.reduceMul, Int.reduceToNat, reduceIte, reduceCtorEq, List.map_cons, List.map_nil]
  refine if_splitN (fun hk => ?_) (fun hk => ?_)
  · simp -implicitDefEqProofs only [go_sem, Nat.reduceLT, Nat.reduceLeDiff, Nat.reduceEqDiff, Nat.reduceAdd, Nat.reduceSub, Nat.reduceMul, Int.reduceEq, Int.reduceLT, Int.reduceLE, Int.reduceNeg, Int.reduceAdd, Int.reduceSub, Int.reduceMul, Int.reduceToNat, reduceIte, reduceCtorEq, List.map_cons, List.map_nil]
    exact fin_scal recordPV_scal (by simp [recordFound, hk, recordPV, zeroRec])
  simp -implicitDefEqProofs only [go_sem, Nat.reduceLT, Nat.reduceLeDiff, Nat.reduceEqDiff, Nat.reduceAdd, Nat.reduceSub, Nat.reduceMul, Int.reduceEq, Int.reduceLT, Int.reduceLE, Int.reduceNeg, Int.reduceAdd, Int.reduceSub, Int.reduceMul, Int.reduceToNat, reduceIte, reduceCtorEq, List.map_cons, List.map_nil]
  refine loop_step (X := Nat) (fun i => ⟨25, [(0, vL 4 (rs.map recV)), (12, vL 4 (rs.map recV)), (13, vN rs.length), (1, vN p), (14, vN i), (4, .s (.c (.p 4 0))), (5, vB false)], ⟨[(4, recC zeroRec)], []⟩⟩)
    (fun i => i ≤ rs.length ∧ ∀ j, (hj : j < rs.length) → j < i → rs[j].p ≠ p) (fun i => rs.length - i) 0 ⟨by omega, by omega⟩ (weak_of (fun i => i) (fun i => i) rfl ⟨by simp [boxesR, listsR, csR, renC, keyC, optK, fnd, envR, St.get, keyPV, keyV1, renPV, renV1, hasKey, made_zero, zeroRec], by simp [boxesR, listsR, csR, renC, keyC, optK, fnd, envR, St.get, keyPV, keyV1, renPV, renV1, hasKey, made_zero, zeroRec], by simp [boxesR, listsR, csR, renC, keyC, optK, fnd, envR, St.get, keyPV, keyV1, renPV, renV1, hasKey, made_zero, zeroRec], by simp [boxesR, listsR, csR, renC, keyC, optK, fnd, envR, St.get, keyPV, keyV1, renPV, renV1, hasKey, made_zero, zeroRec], by simp [boxesR, listsR, csR, renC, keyC, optK, fnd, envR, St.get, keyPV, keyV1, renPV, renV1, hasKey, made_zero, zeroRec]⟩ (by simp [boxesR, listsR, csR, renC, keyC, optK, fnd, envR, St.get, keyPV, keyV1, renPV, renV1, hasKey, made_zero, zeroRec])) (fun i hi => ?_)
  obtain ⟨hi1, hi2⟩ := hi
  simp -implicitDefEqProofs only [go_sem, Nat.reduceLT, Nat.reduceLeDiff, Nat.reduceEqDiff, Nat.reduceAdd, Nat.reduceSub, Nat.reduceMul, Int.reduceEq, Int.reduceLT, Int.reduceLE, Int.reduceNeg, Int.reduceAdd, Int.reduceSub, Int.reduceMul, Int.reduceToNat, reduceIte, reduceCtorEq, List.map_cons, List.map_nil]
  refine if_splitP (fun h => ?_) (fun h => ?_)
  · have hlt : i < rs.length := by omega
    have h1 := map_get (f := recV) hlt
    simp -implicitDefEqProofs only [h1, recV, go_sem, Nat.reduceLT, Nat.reduceLeDiff, Nat.reduceEqDiff, Nat.reduceAdd, Nat.reduceSub, Nat.reduceMul, Int.reduceEq, Int.reduceLT, Int.reduceLE, Int.reduceNeg, Int.reduceAdd, Int.reduceSub, Int.reduceMul, Int.reduceToNat, reduceIte, reduceCtorEq, List.map_cons, List.map_nil]
    refine if_splitP (fun he => ?_) (fun he => ?_)
    · simp -implicitDefEqProofs only [h1, recV, go_sem, Nat.reduceLT, Nat.reduceLeDiff, Nat.reduceEqDiff, Nat.reduceAdd, Nat.reduceSub, Nat.reduceMul, Int.reduceEq, Int.reduceLT, Int.reduceLE, Int.reduceNeg, Int.reduceAdd, Int.reduceSub, Int.reduceMul, Int.reduceToNat, reduceIte, reduceCtorEq, List.map_cons, List.map_nil]
      exact fin_scal recordPV_scal (by simp [recordFound, hk, find_at hlt hi2 he, recordPV])
    · simp -implicitDefEqProofs only [h1, recV, go_sem, Nat.reduceLT, Nat.reduceLeDiff, Nat.reduceEqDiff, Nat.reduceAdd, Nat.reduceSub, Nat.reduceMul, Int.reduceEq, Int.reduceLT, Int.reduceLE, Int.reduceNeg, Int.reduceAdd, Int.reduceSub, Int.reduceMul, Int.reduceToNat, reduceIte, reduceCtorEq, List.map_cons, List.map_nil]
      exact ⟨by omega, i + 1, ⟨by omega, found_step hlt hi2 he⟩, by omega, weak_of (fun i => i) (fun i => i) rfl ⟨by simp [boxesR, listsR, csR, renC, keyC, optK, fnd, envR, St.get, keyPV, keyV1, renPV, renV1, hasKey, made_zero], by simp [boxesR, listsR, csR, renC, keyC, optK, fnd, envR, St.get, keyPV, keyV1, renPV, renV1, hasKey, made_zero], by simp [boxesR, listsR, csR, renC, keyC, optK, fnd, envR, St.get, keyPV, keyV1, renPV, renV1, hasKey, made_zero], by simp [boxesR, listsR, csR, renC, keyC, optK, fnd, envR, St.get, keyPV, keyV1, renPV, renV1, hasKey, made_zero], by simp [boxesR, listsR, csR, renC, keyC, optK, fnd, envR, St.get, keyPV, keyV1, renPV, renV1, hasKey, made_zero]⟩ (by simp [boxesR, listsR, csR, renC, keyC, optK, fnd, envR, St.get, keyPV, keyV1, renPV, renV1, hasKey, made_zero])⟩
  · have hle : i = rs.length := by omega
    subst hle
    simp -implicitDefEqProofs only [go_sem, Nat.reduceLT, Nat.reduceLeDiff, Nat.reduceEqDiff, Nat.reduceAdd, Nat.reduceSub, Nat.reduceMul, Int.reduceEq, Int.reduceLT, Int.reduceLE, Int.reduceNeg, Int.reduceAdd, Int.reduceSub, Int.reduceMul, Int.reduceToNat, reduceIte, reduceCtorEq, List.map_cons, List.map_nil]
    exact fin_scal recordPV_scal (by simp [recordFound, find_end hi2, recordPV, zeroRec])
def cntRec (rs : List Rec) (h : Int) (i : Nat) : Nat := ((rs.take i).filter (fun r => decide (r.h = h))).length
theorem cnt_le {rs : List Rec} {h : Int} {i : Nat} : cntRec rs h i ≤ i := by
  have h1 := List.length_filter_le (fun r : Rec => decide (r.h = h)) (rs.take i)
  have h2 : (rs.take i).length ≤ i := List.length_take_le ..
  unfold cntRec; omega
theorem cnt_hit {rs : List Rec} {h : Int} {i : Nat} (hi : i < rs.length) (he : rs[i].h = h) : cntRec rs h (i + 1) = cntRec rs h i + 1 := by
  unfold cntRec
  rw [List.take_succ_eq_append_getElem hi, List.filter_append]
  simp [he]
theorem cnt_miss {rs : List Rec} {h : Int} {i : Nat} (hi : i < rs.length) (he : ¬ rs[i].h = h) : cntRec rs h (i + 1) = cntRec rs h i := by
  unfold cntRec
  rw [List.take_succ_eq_append_getElem hi, List.filter_append]
  simp [he]
theorem cnt_zero {rs : List Rec} {h : Int} : cntRec rs h 0 = 0 := by simp [cntRec]
def countRecords (rs : List Rec) (h : Int) : Nat := if recordsOk rs = true then cntRec rs h rs.length else 0
theorem CountRecords_c (rs : List Rec) (p : Int) (hn : rs.length ≤ 1048576) : PC Try.prog 26 [] [.c (.l 4 (rs.map recV)), .c (.v (.int .i64 p))] (vN (countRecords rs p)) ⟨[], []⟩ := by
  refine pc_of Try.func26 rfl (by kernel_rfl) _ Try.ntmps26 (by simp) ?_
  simp -implicitDefEqProofs only [go_sem, Nat.reduceLT, Nat.reduceLeDiff, Nat.reduceEqDiff, Nat.reduceAdd, Nat.reduceSub, Nat.reduceMul, Int.reduceEq, Int.reduceLT, Int.reduceLE, Int.reduceNeg, Int.reduceAdd, Int.reduceSub, Int.reduceMul, Int.reduceToNat, reduceIte, reduceCtorEq, List.map_cons, List.map_nil]
  refine loop_step (X := Nat) (fun i => ⟨27, [(0, vL 4 (rs.map recV)), (1, vN p), (6, vN i), (5, vN (cntRec rs p i))], ⟨[], []⟩⟩)
    (fun i => i ≤ rs.length ∧ (recordsOk rs = false → i = 0)) (fun i => rs.length - i) 0 ⟨by omega, fun _ => rfl⟩ (weak_of (fun i => i) (fun i => i) rfl ⟨by simp [boxesR, listsR, csR, renC, keyC, optK, fnd, envR, St.get, keyPV, keyV1, renPV, renV1, hasKey, made_zero, cnt_zero], by simp [boxesR, listsR, csR, renC, keyC, optK, fnd, envR, St.get, keyPV, keyV1, renPV, renV1, hasKey, made_zero, cnt_zero], by simp [boxesR, listsR, csR, renC, keyC, optK, fnd, envR, St.get, keyPV, keyV1, renPV, renV1, hasKey, made_zero, cnt_zero], by simp [boxesR, listsR, csR, renC, keyC, optK, fnd, envR, St.get, keyPV, keyV1, renPV, renV1, hasKey, made_zero, cnt_zero], by simp [boxesR, listsR, csR, renC, keyC, optK, fnd, envR, St.get, keyPV, keyV1, renPV, renV1, hasKey, made_zero, cnt_zero]⟩ (by simp [boxesR, listsR, csR, renC, keyC, optK, fnd, envR, St.get, keyPV, keyV1, renPV, renV1, hasKey, made_zero, cnt_zero])) (fun i hi => ?_)
  obtain ⟨hi1, hi2⟩ := hi
  simp -implicitDefEqProofs only [go_sem, Nat.reduceLT, Nat.reduceLeDiff, Nat.reduceEqDiff, Nat.reduceAdd, Nat.reduceSub, Nat.reduceMul, Int.reduceEq, Int.reduceLT, Int.reduceLE, Int.reduceNeg, Int.reduceAdd, Int.reduceSub, Int.reduceMul, Int.reduceToNat, reduceIte, reduceCtorEq, List.map_cons, List.map_nil]
  refine grd_splitP (fun h => ?_) (fun h => ?_)
  · have hlt : i < rs.length := by omega
    have h1 := map_get (f := recV) hlt
    simp -implicitDefEqProofs only [h, go_sem, Nat.reduceLT, Nat.reduceLeDiff, Nat.reduceEqDiff, Nat.reduceAdd, Nat.reduceSub, Nat.reduceMul, Int.reduceEq, Int.reduceLT, Int.reduceLE, Int.reduceNeg, Int.reduceAdd, Int.reduceSub, Int.reduceMul, Int.reduceToNat, reduceIte, reduceCtorEq, List.map_cons, List.map_nil]
    refine callS (RecordsOk_c _ hn) rfl rfl rfl ?_
    simp -implicitDefEqProofs only [h, go_sem, Nat.reduceLT, Nat.reduceLeDiff, Nat.reduceEqDiff, Nat.reduceAdd, Nat.reduceSub, Nat.reduceMul, Int.reduceEq, Int.reduceLT, Int.reduceLE, Int.reduceNeg, Int.reduceAdd, Int.reduceSub, Int.reduceMul, Int.reduceToNat, reduceIte, reduceCtorEq, List.map_cons, List.map_nil]
    refine if_split (fun hk => ?_) (fun hk => ?_)
    · simp -implicitDefEqProofs only [h1, recV, go_sem, Nat.reduceLT, Nat.reduceLeDiff, Nat.reduceEqDiff, Nat.reduceAdd, Nat.reduceSub, Nat.reduceMul, Int.reduceEq, Int.reduceLT, Int.reduceLE, Int.reduceNeg, Int.reduceAdd, Int.reduceSub, Int.reduceMul, Int.reduceToNat, reduceIte, reduceCtorEq, List.map_cons, List.map_nil]
      have hl := cnt_le (rs := rs) (h := p) (i := i)
      refine if_splitP (fun he => ?_) (fun he => ?_)
      · simp -implicitDefEqProofs only [go_sem, Nat.reduceLT, Nat.reduceLeDiff, Nat.reduceEqDiff, Nat.reduceAdd, Nat.reduceSub, Nat.reduceMul, Int.reduceEq, Int.reduceLT, Int.reduceLE, Int.reduceNeg, Int.reduceAdd, Int.reduceSub, Int.reduceMul, Int.reduceToNat, reduceIte, reduceCtorEq, List.map_cons, List.map_nil]
        exact ⟨by omega, by omega, i + 1, ⟨by omega, by simp [hk]⟩, by omega, weak_of (fun i => i) (fun i => i) rfl ⟨by simp [boxesR, listsR, csR, renC, keyC, optK, fnd, envR, St.get, keyPV, keyV1, renPV, renV1, hasKey, made_zero, cnt_hit hlt he], by simp [boxesR, listsR, csR, renC, keyC, optK, fnd, envR, St.get, keyPV, keyV1, renPV, renV1, hasKey, made_zero, cnt_hit hlt he], by simp [boxesR, listsR, csR, renC, keyC, optK, fnd, envR, St.get, keyPV, keyV1, renPV, renV1, hasKey, made_zero, cnt_hit hlt he], by simp [boxesR, listsR, csR, renC, keyC, optK, fnd, envR, St.get, keyPV, keyV1, renPV, renV1, hasKey, made_zero, cnt_hit hlt he], by simp [boxesR, listsR, csR, renC, keyC, optK, fnd, envR, St.get, keyPV, keyV1, renPV, renV1, hasKey, made_zero, cnt_hit hlt he]⟩ (by simp [boxesR, listsR, csR, renC, keyC, optK, fnd, envR, St.get, keyPV, keyV1, renPV, renV1, hasKey, made_zero, cnt_hit hlt he])⟩
      · simp -implicitDefEqProofs only [go_sem, Nat.reduceLT, Nat.reduceLeDiff, Nat.reduceEqDiff, Nat.reduceAdd, Nat.reduceSub, Nat.reduceMul, Int.reduceEq, Int.reduceLT, Int.reduceLE, Int.reduceNeg, Int.reduceAdd, Int.reduceSub, Int.reduceMul, Int.reduceToNat, reduceIte, reduceCtorEq, List.map_cons, List.map_nil]
        exact ⟨by omega, i + 1, ⟨by omega, by simp [hk]⟩, by omega, weak_of (fun i => i) (fun i => i) rfl ⟨by simp [boxesR, listsR, csR, renC, keyC, optK, fnd, envR, St.get, keyPV, keyV1, renPV, renV1, hasKey, made_zero, cnt_miss hlt he], by simp [boxesR, listsR, csR, renC, keyC, optK, fnd, envR, St.get, keyPV, keyV1, renPV, renV1, hasKey, made_zero, cnt_miss hlt he], by simp [boxesR, listsR, csR, renC, keyC, optK, fnd, envR, St.get, keyPV, keyV1, renPV, renV1, hasKey, made_zero, cnt_miss hlt he], by simp [boxesR, listsR, csR, renC, keyC, optK, fnd, envR, St.get, keyPV, keyV1, renPV, renV1, hasKey, made_zero, cnt_miss hlt he], by simp [boxesR, listsR, csR, renC, keyC, optK, fnd, envR, St.get, keyPV, keyV1, renPV, renV1, hasKey, made_zero, cnt_miss hlt he]⟩ (by simp [boxesR, listsR, csR, renC, keyC, optK, fnd, envR, St.get, keyPV, keyV1, renPV, renV1, hasKey, made_zero, cnt_miss hlt he])⟩
    · simp -implicitDefEqProofs only [go_sem, Nat.reduceLT, Nat.reduceLeDiff, Nat.reduceEqDiff, Nat.reduceAdd, Nat.reduceSub, Nat.reduceMul, Int.reduceEq, Int.reduceLT, Int.reduceLE, Int.reduceNeg, Int.reduceAdd, Int.reduceSub, Int.reduceMul, Int.reduceToNat, reduceIte, reduceCtorEq, List.map_cons, List.map_nil]
      exact fin_scal rfl (by simp [countRecords, hk, hi2 hk, cnt_zero])
  · have hle : i = rs.length := by omega
    subst hle
    simp -implicitDefEqProofs only [h, go_sem, Nat.reduceLT, Nat.reduceLeDiff, Nat.reduceEqDiff, Nat.reduceAdd, Nat.reduceSub, Nat.reduceMul, Int.reduceEq, Int.reduceLT, Int.reduceLE, Int.reduceNeg, Int.reduceAdd, Int.reduceSub, Int.reduceMul, Int.reduceToNat, reduceIte, reduceCtorEq, List.map_cons, List.map_nil]
    refine fin_scal rfl ?_
    unfold countRecords
    split
    · rfl
    · rename_i hk
      rw [hi2 (by simpa using hk), cnt_zero]
theorem iCountRecords_c (rs : List Rec) (p : Int) (hn : rs.length ≤ 1048576) : PC Try.prog 27 [] [.c (.l 4 (rs.map recV)), .c (.v (.int .i64 p))] (vN (countRecords rs p)) ⟨[], []⟩ := by
  refine pc_of Try.func27 rfl (by kernel_rfl) _ Try.ntmps27 (by simp) ?_
  simp -implicitDefEqProofs only [go_sem, Nat.reduceLT, Nat.reduceLeDiff, Nat.reduceEqDiff, Nat.reduceAdd, Nat.reduceSub, Nat.reduceMul, Int.reduceEq, Int.reduceLT, Int.reduceLE, Int.reduceNeg, Int.reduceAdd, Int.reduceSub, Int.reduceMul, Int.reduceToNat, reduceIte, reduceCtorEq, List.map_cons, List.map_nil]
  refine callS (iRecordsOk_c _ hn) rfl rfl rfl ?_
  simp -implicitDefEqProofs only [go_sem, Nat.reduceLT, Nat.reduceLeDiff, Nat.reduceEqDiff, Nat.reduceAdd, Nat.reduceSub, Nat.reduceMul, Int.reduceEq, Int.reduceLT, Int.reduceLE, Int.reduceNeg, Int.reduceAdd, Int.reduceSub, Int.reduceMul, Int.reduceToNat, reduceIte, reduceCtorEq, List.map_cons, List.map_nil]
  refine if_splitN (fun hk => ?_) (fun hk => ?_)
  · simp -implicitDefEqProofs only [go_sem, Nat.reduceLT, Nat.reduceLeDiff, Nat.reduceEqDiff, Nat.reduceAdd, Nat.reduceSub, Nat.reduceMul, Int.reduceEq, Int.reduceLT, Int.reduceLE, Int.reduceNeg, Int.reduceAdd, Int.reduceSub, Int.reduceMul, Int.reduceToNat, reduceIte, reduceCtorEq, List.map_cons, List.map_nil]
    exact fin_scal rfl (by simp [countRecords, hk])
  simp -implicitDefEqProofs only [go_sem, Nat.reduceLT, Nat.reduceLeDiff, Nat.reduceEqDiff, Nat.reduceAdd, Nat.reduceSub, Nat.reduceMul, Int.reduceEq, Int.reduceLT, Int.reduceLE, Int.reduceNeg, Int.reduceAdd, Int.reduceSub, Int.reduceMul, Int.reduceToNat, reduceIte, reduceCtorEq, List.map_cons, List.map_nil]
  refine loop_step (X := Nat) (fun i => ⟨25, [(0, vL 4 (rs.map recV)), (11, vL 4 (rs.map recV)), (12, vN rs.length), (1, vN p), (13, vN i), (5, vN (cntRec rs p i))], ⟨[], []⟩⟩)
    (fun i => i ≤ rs.length) (fun i => rs.length - i) 0 (by omega) (weak_of (fun i => i) (fun i => i) rfl ⟨by simp [boxesR, listsR, csR, renC, keyC, optK, fnd, envR, St.get, keyPV, keyV1, renPV, renV1, hasKey, made_zero, cnt_zero], by simp [boxesR, listsR, csR, renC, keyC, optK, fnd, envR, St.get, keyPV, keyV1, renPV, renV1, hasKey, made_zero, cnt_zero], by simp [boxesR, listsR, csR, renC, keyC, optK, fnd, envR, St.get, keyPV, keyV1, renPV, renV1, hasKey, made_zero, cnt_zero], by simp [boxesR, listsR, csR, renC, keyC, optK, fnd, envR, St.get, keyPV, keyV1, renPV, renV1, hasKey, made_zero, cnt_zero], by simp [boxesR, listsR, csR, renC, keyC, optK, fnd, envR, St.get, keyPV, keyV1, renPV, renV1, hasKey, made_zero, cnt_zero]⟩ (by simp [boxesR, listsR, csR, renC, keyC, optK, fnd, envR, St.get, keyPV, keyV1, renPV, renV1, hasKey, made_zero, cnt_zero])) (fun i hi => ?_)
  simp -implicitDefEqProofs only [go_sem, Nat.reduceLT, Nat.reduceLeDiff, Nat.reduceEqDiff, Nat.reduceAdd, Nat.reduceSub, Nat.reduceMul, Int.reduceEq, Int.reduceLT, Int.reduceLE, Int.reduceNeg, Int.reduceAdd, Int.reduceSub, Int.reduceMul, Int.reduceToNat, reduceIte, reduceCtorEq, List.map_cons, List.map_nil]
  refine if_splitP (fun h => ?_) (fun h => ?_)
  · have hlt : i < rs.length := by omega
    have h1 := map_get (f := recV) hlt
    have hl := cnt_le (rs := rs) (h := p) (i := i)
    simp -implicitDefEqProofs only [h1, recV, go_sem, Nat.reduceLT, Nat.reduceLeDiff, Nat.reduceEqDiff, Nat.reduceAdd, Nat.reduceSub, Nat.reduceMul, Int.reduceEq, Int.reduceLT, Int.reduceLE, Int.reduceNeg, Int.reduceAdd, Int.reduceSub, Int.reduceMul, Int.reduceToNat, reduceIte, reduceCtorEq, List.map_cons, List.map_nil]
    refine if_splitP (fun he => ?_) (fun he => ?_)
    · simp -implicitDefEqProofs only [go_sem, Nat.reduceLT, Nat.reduceLeDiff, Nat.reduceEqDiff, Nat.reduceAdd, Nat.reduceSub, Nat.reduceMul, Int.reduceEq, Int.reduceLT, Int.reduceLE, Int.reduceNeg, Int.reduceAdd, Int.reduceSub, Int.reduceMul, Int.reduceToNat, reduceIte, reduceCtorEq, List.map_cons, List.map_nil]
      exact ⟨by omega, by omega, i + 1, by omega, by omega, weak_of (fun i => i) (fun i => i) rfl ⟨by simp [boxesR, listsR, csR, renC, keyC, optK, fnd, envR, St.get, keyPV, keyV1, renPV, renV1, hasKey, made_zero, cnt_hit hlt he], by simp [boxesR, listsR, csR, renC, keyC, optK, fnd, envR, St.get, keyPV, keyV1, renPV, renV1, hasKey, made_zero, cnt_hit hlt he], by simp [boxesR, listsR, csR, renC, keyC, optK, fnd, envR, St.get, keyPV, keyV1, renPV, renV1, hasKey, made_zero, cnt_hit hlt he], by simp [boxesR, listsR, csR, renC, keyC, optK, fnd, envR, St.get, keyPV, keyV1, renPV, renV1, hasKey, made_zero, cnt_hit hlt he], by simp [boxesR, listsR, csR, renC, keyC, optK, fnd, envR, St.get, keyPV, keyV1, renPV, renV1, hasKey, made_zero, cnt_hit hlt he]⟩ (by simp [boxesR, listsR, csR, renC, keyC, optK, fnd, envR, St.get, keyPV, keyV1, renPV, renV1, hasKey, made_zero, cnt_hit hlt he])⟩
    · simp -implicitDefEqProofs only [go_sem, Nat.reduceLT, Nat.reduceLeDiff, Nat.reduceEqDiff, Nat.reduceAdd, Nat.reduceSub, Nat.reduceMul, Int.reduceEq, Int.reduceLT, Int.reduceLE, Int.reduceNeg, Int.reduceAdd, Int.reduceSub, Int.reduceMul, Int.reduceToNat, reduceIte, reduceCtorEq, List.map_cons, List.map_nil]
      exact ⟨by omega, i + 1, by omega, by omega, weak_of (fun i => i) (fun i => i) rfl ⟨by simp [boxesR, listsR, csR, renC, keyC, optK, fnd, envR, St.get, keyPV, keyV1, renPV, renV1, hasKey, made_zero, cnt_miss hlt he], by simp [boxesR, listsR, csR, renC, keyC, optK, fnd, envR, St.get, keyPV, keyV1, renPV, renV1, hasKey, made_zero, cnt_miss hlt he], by simp [boxesR, listsR, csR, renC, keyC, optK, fnd, envR, St.get, keyPV, keyV1, renPV, renV1, hasKey, made_zero, cnt_miss hlt he], by simp [boxesR, listsR, csR, renC, keyC, optK, fnd, envR, St.get, keyPV, keyV1, renPV, renV1, hasKey, made_zero, cnt_miss hlt he], by simp [boxesR, listsR, csR, renC, keyC, optK, fnd, envR, St.get, keyPV, keyV1, renPV, renV1, hasKey, made_zero, cnt_miss hlt he]⟩ (by simp [boxesR, listsR, csR, renC, keyC, optK, fnd, envR, St.get, keyPV, keyV1, renPV, renV1, hasKey, made_zero, cnt_miss hlt he])⟩
  · have hle : i = rs.length := by omega
    subst hle
    simp -implicitDefEqProofs only [go_sem, Nat.reduceLT, Nat.reduceLeDiff, Nat.reduceEqDiff, Nat.reduceAdd, Nat.reduceSub, Nat.reduceMul, Int.reduceEq, Int.reduceLT, Int.reduceLE, Int.reduceNeg, Int.reduceAdd, Int.reduceSub, Int.reduceMul, Int.reduceToNat, reduceIte, reduceCtorEq, List.map_cons, List.map_nil]
    exact fin_scal rfl (by simp [countRecords, hk])
theorem lawCountRecords_c (rs : List Rec) (p : Int) (hn : rs.length ≤ maxLen) : PC Try.prog 6 [] [.c (.l 4 (rs.map recV)), .c (.v (.int .i64 p))] (vB true) ⟨[], []⟩ := by
  refine pc_of Try.func6 rfl (by kernel_rfl) _ Try.ntmps6 (by simp) ?_
  by_cases hs : rs.length ≤ 1048576
  · have e : (1048576 - (rs.length : Int) < 0) = False := by simp; omega
    repeat' first
      | simp -implicitDefEqProofs only [hs, e, go_sem, Nat.reduceLT, Nat.reduceLeDiff, Nat.reduceEqDiff, Nat.reduceAdd, Nat.reduceSub, Nat.reduceMul, Int.reduceEq, Int.reduceLT, Int.reduceLE, Int.reduceNeg, Int.reduceAdd, Int.reduceSub, Int.reduceMul, Int.reduceToNat, reduceIte, reduceCtorEq, List.map_cons, List.map_nil]
      | refine if_splitP (fun h => ?_) (fun h => ?_) | refine if_splitN (fun h => ?_) (fun h => ?_) | refine if_split (fun h => ?_) (fun h => ?_) | refine grd_splitP (fun h => ?_) (fun h => ?_) | refine grd_splitN (fun h => ?_) (fun h => ?_) | refine grd_split (fun h => ?_) (fun h => ?_) | refine grdX_splitP (fun h => ?_) (fun h => ?_) | refine grdX_splitN (fun h => ?_) (fun h => ?_) | refine grdX_split (fun h => ?_) (fun h => ?_)
      | refine callS (szRecordS_c _ hn) rfl rfl rfl ?_
      | refine callL (toRecordS_c 15 _ hs) rfl rfl rfl ?_
      | refine callL (toRecordS_c 19 _ hs) rfl rfl rfl ?_
      | refine callL (toRecordS_c 28 _ hs) rfl rfl rfl ?_
      | refine callS (CountRecords_c _ _ hs) rfl rfl rfl ?_
      | refine callS (iCountRecords_c _ _ hs) rfl rfl rfl ?_
      | refine callS (eqRecordS_c _ hs) rfl rfl rfl ?_
    all_goals exact fin_scal rfl rfl
  · repeat' first
      | simp -implicitDefEqProofs only [hs, go_sem, Nat.reduceLT, Nat.reduceLeDiff, Nat.reduceEqDiff, Nat.reduceAdd, Nat.reduceSub, Nat.reduceMul, Int.reduceEq, Int.reduceLT, Int.reduceLE, Int.reduceNeg, Int.reduceAdd, Int.reduceSub, Int.reduceMul, Int.reduceToNat, reduceIte, reduceCtorEq, List.map_cons, List.map_nil]
      | refine callS (szRecordS_c _ hn) rfl rfl rfl ?_
    all_goals exact fin_scal rfl rfl
theorem lawRecordOf_c (rs : List Rec) (p : Int) (hn : rs.length ≤ maxLen) : PC Try.prog 5 [] [.c (.l 4 (rs.map recV)), .c (.v (.int .i64 p))] (vB true) ⟨[], []⟩ := by
  refine pc_of Try.func5 rfl (by kernel_rfl) _ Try.ntmps5 (by simp) ?_
  by_cases hs : rs.length ≤ 1048576
  · have e : (1048576 - (rs.length : Int) < 0) = False := by simp; omega
    have hf : ∃ r b, recordPV (recordFound rs p) = .t [.a (recC r), .c (.v (.bool b))] := by
      cases recordFound rs p with
      | none => exact ⟨_, _, rfl⟩
      | some r => exact ⟨_, _, rfl⟩
    obtain ⟨r, b, hf⟩ := hf
    have c1 := RecordOf_c rs p hs
    have c2 := iRecordOf_c rs p hs
    rw [hf] at c1 c2
    repeat' first
      | simp -implicitDefEqProofs only [hs, e, go_sem, Nat.reduceLT, Nat.reduceLeDiff, Nat.reduceEqDiff, Nat.reduceAdd, Nat.reduceSub, Nat.reduceMul, Int.reduceEq, Int.reduceLT, Int.reduceLE, Int.reduceNeg, Int.reduceAdd, Int.reduceSub, Int.reduceMul, Int.reduceToNat, reduceIte, reduceCtorEq, List.map_cons, List.map_nil]
      | refine if_splitP (fun h => ?_) (fun h => ?_) | refine if_splitN (fun h => ?_) (fun h => ?_) | refine if_split (fun h => ?_) (fun h => ?_) | refine grd_splitP (fun h => ?_) (fun h => ?_) | refine grd_splitN (fun h => ?_) (fun h => ?_) | refine grd_split (fun h => ?_) (fun h => ?_) | refine grdX_splitP (fun h => ?_) (fun h => ?_) | refine grdX_splitN (fun h => ?_) (fun h => ?_) | refine grdX_split (fun h => ?_) (fun h => ?_)
      | refine callS (szRecordS_c _ hn) rfl rfl rfl ?_
      | refine callL (toRecordS_c 18 _ hs) rfl rfl rfl ?_
      | refine callL (toRecordS_c 24 _ hs) rfl rfl rfl ?_
      | refine callL (toRecordS_c 42 _ hs) rfl rfl rfl ?_
      | refine callS c1 rfl rfl rfl ?_
      | refine callS c2 rfl rfl rfl ?_
      | refine callS (eqRecord_c _) rfl rfl rfl ?_
      | refine callS (eqRecordS_c _ hs) rfl rfl rfl ?_
    all_goals exact fin_scal rfl rfl
  · repeat' first
      | simp -implicitDefEqProofs only [hs, go_sem, Nat.reduceLT, Nat.reduceLeDiff, Nat.reduceEqDiff, Nat.reduceAdd, Nat.reduceSub, Nat.reduceMul, Int.reduceEq, Int.reduceLT, Int.reduceLE, Int.reduceNeg, Int.reduceAdd, Int.reduceSub, Int.reduceMul, Int.reduceToNat, reduceIte, reduceCtorEq, List.map_cons, List.map_nil]
      | refine callS (szRecordS_c _ hn) rfl rfl rfl ?_
    all_goals exact fin_scal rfl rfl
theorem fnExactCountRecords.law_c {c c' : C} (h : TC (.l 4 true recK) c) (h' : TC (.z (.i .i64)) c') : PC Try.prog 6 [] [.c c, .c c'] (vB true) ⟨[], []⟩ := by
  obtain ⟨rs, rfl, hl, _⟩ := recs_of h
  obtain ⟨n, rfl, _⟩ := tc_i h'
  exact lawCountRecords_c rs n hl
theorem fnExactRecordOf.law_c {c c' : C} (h : TC (.l 4 true recK) c) (h' : TC (.z (.i .i64)) c') : PC Try.prog 5 [] [.c c, .c c'] (vB true) ⟨[], []⟩ := by
  obtain ⟨rs, rfl, hl, _⟩ := recs_of h
  obtain ⟨n, rfl, _⟩ := tc_i h'
  exact lawRecordOf_c rs n hl
end Go.Proofs.Ytdagoiedlaaimaa
