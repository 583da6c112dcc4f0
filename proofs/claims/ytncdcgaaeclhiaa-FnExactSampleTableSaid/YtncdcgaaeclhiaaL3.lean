/-
  What the functions of the laws that look a record up compute.
-/
import Derived.Test.YtncdcgaaeclhiaaL2
namespace Go.Proofs.Ytncdcgaaeclhiaa
open Go.PL
set_option linter.unusedSimpArgs false
def zeroRec : Rec := ⟨0, 0, 0, 0⟩
def recordFound (rs : List Rec) (p : Int) : Option Rec := if recordsOk rs = true then rs.find? (fun r => decide (r.p = p)) else none
def recordPV : Option Rec → PV
  | some r => .t [.a (recC r), .c (.v (.bool true))]
  | none => .t [.a (recC zeroRec), .c (.v (.bool false))]
theorem recordPV_scal {o : Option Rec} : scalPV (recordPV o) = true := by cases o <;> rfl
theorem find_at {rs : List Rec} {p : Int} {i : Nat} (h : i < rs.length) (hi : ∀ j, (hj : j < rs.length) → j < i → rs[j].p ≠ p) (he : rs[i].p = p) : rs.find? (fun r => decide (r.p = p)) = some rs[i] := by
  rw [List.find?_eq_some_iff_getElem]
  refine ⟨by simpa using he, i, h, rfl, fun j hj => ?_⟩
  simpa using hi j (by omega) hj
theorem find_end {rs : List Rec} {p : Int} (hi : ∀ j, (hj : j < rs.length) → j < rs.length → rs[j].p ≠ p) : rs.find? (fun r => decide (r.p = p)) = none := by
  rw [List.find?_eq_none]
  intro r hr
  obtain ⟨j, hj, rfl⟩ := List.mem_iff_getElem.1 hr
  simpa using hi j hj hj
theorem found_step {rs : List Rec} {p : Int} {i : Nat} (h : i < rs.length) (hi : ∀ j, (hj : j < rs.length) → j < i → rs[j].p ≠ p) (he : ¬ rs[i].p = p) : ∀ j, (hj : j < rs.length) → j < i + 1 → rs[j].p ≠ p := fun j hj hlt => by
  by_cases e : j = i
  · subst e; exact he
  · exact hi j hj (by omega)
def cntRec (rs : List Rec) (h : Int) (i : Nat) : Nat := ((rs.take i).filter (fun r => decide (r.h = h))).length
theorem cnt_le {rs : List Rec} {h : Int} {i : Nat} : cntRec rs h i ≤ i := by
  have h1 := List.length_filter_le (fun r : Rec => decide (r.h = h)) (rs.take i)
  have h2 : (rs.take i).length ≤ i := List.length_take_le ..
  unfold cntRec; omega
theorem cnt_hit {rs : List Rec} {h : Int} {i : Nat} (hi : i < rs.length) (he : rs[i].h = h) : cntRec rs h (i + 1) = cntRec rs h i + 1 := by
  unfold cntRec
  rw [List.take_succ_eq_append_getElem hi, List.filter_append]
  simp [he]
theorem cnt_miss {rs : List Rec} {h : Int} {i : Nat} (hi : i < rs.length) (he : ¬ rs[i].h = h) : cntRec rs h (i + 1) = cntRec rs h i := by
  unfold cntRec
  rw [List.take_succ_eq_append_getElem hi, List.filter_append]
  simp [he]
theorem cnt_zero {rs : List Rec} {h : Int} : cntRec rs h 0 = 0 := by simp [cntRec]
def countRecords (rs : List Rec) (h : Int) : Nat := if recordsOk rs = true then cntRec rs h rs.length else 0
end Go.Proofs.Ytncdcgaaeclhiaa
