/-
  What the functions of the laws on records compute.
  What the functions of the laws that look a record up compute.
  What the functions compute that write a list of records anew and read it again.
  What the functions compute that enter a record into a list.
  What the functions compute that enter a record into a list of valid records; the law on them.
  The law on the entering of a record.
-/
import Derived.Test.YtahnbliabllflaaFa
import Derived.Test.YtahnbliabllflaaGa
import Derived.Test.YtahnbliabllflaaL1
import Derived.Test.YtahnbliabllflaaEg
namespace Go.Proofs.Ytahnbliabllflaa
open Go.PL
set_option linter.unusedSimpArgs false
structure Rec where
  p : Int
  h : Int
  s : Int
  d : Int
def recV (r : Rec) : Value := .agg #[.int .i64 r.p, .int .i64 r.h, .int .i64 r.s, .int .i64 r.d]
abbrev recC (r : Rec) : List C := [.v (.int .i64 r.p), .v (.int .i64 r.h), .v (.int .i64 r.s), .v (.int .i64 r.d)]
def recOk (r : Rec) : Bool := within r.p 0 999 && within r.h 1 999 && within r.s 1 60 && within r.d 0 9999
def goodAt (rs : List Rec) (i : Nat) : Bool := match rs[i]? with
  | some r => recOk r && (decide (i = 0) || match rs[i - 1]? with | some q => decide (q.p < r.p) | none => false)
  | none => false
def recordsOk (rs : List Rec) : Bool := decide (rs.length ≤ 30) && (List.range rs.length).all (goodAt rs)
theorem recordsOk_bad {rs : List Rec} {i : Nat} (h : i < rs.length) (hb : goodAt rs i = false) : recordsOk rs = false := by
  cases hr : recordsOk rs with
  | false => rfl
  | true =>
    simp only [recordsOk, Bool.and_eq_true, List.all_eq_true, List.mem_range] at hr
    rw [hr.2 i h] at hb; cases hb
theorem recordsOk_end {rs : List Rec} (h : ∀ j, j < rs.length → goodAt rs j = true) : recordsOk rs = decide (rs.length ≤ 30) := by
  simp only [recordsOk]
  have : (List.range rs.length).all (goodAt rs) = true := by simpa [List.all_eq_true] using h
  rw [this, Bool.and_true]
theorem goodAt_eq {rs : List Rec} {i : Nat} (h : i < rs.length) : goodAt rs i = (recOk rs[i] && (decide (i = 0) || decide ((rs[i - 1]'(by omega)).p < rs[i].p))) := by
  have e1 : rs[i]? = some rs[i] := by simp [h]
  have e2 : rs[i - 1]? = some (rs[i - 1]'(by omega)) := List.getElem?_eq_getElem (by omega)
  unfold goodAt
  rw [e1, e2]
theorem good_step {G : Nat → Bool} {i : Nat} (h : ∀ j, j < i → G j = true) (hi : G i = true) : ∀ j, j < i + 1 → G j = true := fun j hj => by
  by_cases e : j = i
  · rw [e]; exact hi
  · exact h j (by omega)
abbrev recK : List K0 := [.i .i64, .i .i64, .i .i64, .i .i64]
def recIn (r : Rec) : Prop := inK .i64 r.p ∧ inK .i64 r.h ∧ inK .i64 r.s ∧ inK .i64 r.d
theorem rec_of {x : Value} (h : IsE true recK x) : ∃ r, x = recV r ∧ recIn r := by
  obtain ⟨cs, rfl, h⟩ := h
  obtain ⟨c1, r1, rfl, ⟨a, rfl, ha⟩, h1⟩ := all2_cons h
  obtain ⟨c2, r2, rfl, ⟨b, rfl, hb⟩, h2⟩ := all2_cons h1
  obtain ⟨c3, r3, rfl, ⟨c, rfl, hc⟩, h3⟩ := all2_cons h2
  obtain ⟨c4, r4, rfl, ⟨d, rfl, hd⟩, h4⟩ := all2_cons h3
  obtain rfl := all2_nil h4
  exact ⟨⟨a, b, c, d⟩, rfl, ha, hb, hc, hd⟩
theorem recs_of {c : C} (h : TC (.l 4 true recK) c) : ∃ rs : List Rec, c = .l 4 (rs.map recV) ∧ rs.length ≤ maxLen ∧ ∀ r ∈ rs, recIn r := by
  obtain ⟨xs, rfl, hl, hx⟩ := tc_l h
  obtain ⟨rs, rfl, hr⟩ := list_of recV recIn (xs := xs) (fun x hm => rec_of (hx x hm))
  exact ⟨rs, rfl, by simpa using hl, hr⟩
end Go.Proofs.Ytahnbliabllflaa
namespace Go.Proofs.Ytahnbliabllflaa
open Go.PL
set_option linter.unusedSimpArgs false
def zeroRec : Rec := ⟨0, 0, 0, 0⟩
def recordFound (rs : List Rec) (p : Int) : Option Rec := if recordsOk rs = true then rs.find? (fun r => decide (r.p = p)) else none
def recordPV : Option Rec → PV
  | some r => .t [.a (recC r), .c (.v (.bool true))]
  | none => .t [.a (recC zeroRec), .c (.v (.bool false))]
theorem recordPV_scal {o : Option Rec} : scalPV (recordPV o) = true := by cases o <;> rfl
theorem find_at {rs : List Rec} {p : Int} {i : Nat} (h : i < rs.length) (hi : ∀ j, (hj : j < rs.length) → j < i → rs[j].p ≠ p) (he : rs[i].p = p) : rs.find? (fun r => decide (r.p = p)) = some rs[i] := by
  rw [List.find?_eq_some_iff_getElem]
  refine ⟨by simpa using he, i, h, rfl, fun j hj => ?_⟩
  simpa using hi j (by omega) hj
theorem find_end {rs : List Rec} {p : Int} (hi : ∀ j, (hj : j < rs.length) → j < rs.length → rs[j].p ≠ p) : rs.find? (fun r => decide (r.p = p)) = none := by
  rw [List.find?_eq_none]
  intro r hr
  obtain ⟨j, hj, rfl⟩ := List.mem_iff_getElem.1 hr
  simpa using hi j hj hj
theorem found_step {rs : List Rec} {p : Int} {i : Nat} (h : i < rs.length) (hi : ∀ j, (hj : j < rs.length) → j < i → rs[j].p ≠ p) (he : ¬ rs[i].p = p) : ∀ j, (hj : j < rs.length) → j < i + 1 → rs[j].p ≠ p := fun j hj hlt => by
  by_cases e : j = i
  · subst e; exact he
  · exact hi j hj (by omega)
def cntRec (rs : List Rec) (h : Int) (i : Nat) : Nat := ((rs.take i).filter (fun r => decide (r.h = h))).length
theorem cnt_le {rs : List Rec} {h : Int} {i : Nat} : cntRec rs h i ≤ i := by
  have h1 := List.length_filter_le (fun r : Rec => decide (r.h = h)) (rs.take i)
  have h2 : (rs.take i).length ≤ i := List.length_take_le ..
  unfold cntRec; omega
theorem cnt_hit {rs : List Rec} {h : Int} {i : Nat} (hi : i < rs.length) (he : rs[i].h = h) : cntRec rs h (i + 1) = cntRec rs h i + 1 := by
  unfold cntRec
  rw [List.take_succ_eq_append_getElem hi, List.filter_append]
  simp [he]
theorem cnt_miss {rs : List Rec} {h : Int} {i : Nat} (hi : i < rs.length) (he : ¬ rs[i].h = h) : cntRec rs h (i + 1) = cntRec rs h i := by
  unfold cntRec
  rw [List.take_succ_eq_append_getElem hi, List.filter_append]
  simp [he]
theorem cnt_zero {rs : List Rec} {h : Int} : cntRec rs h 0 = 0 := by simp [cntRec]
def countRecords (rs : List Rec) (h : Int) : Nat := if recordsOk rs = true then cntRec rs h rs.length else 0
end Go.Proofs.Ytahnbliabllflaa
namespace Go.Proofs.Ytahnbliabllflaa
open Go.PL
set_option linter.unusedSimpArgs false
def mkRec (k : Int) (j : Nat) : Value := .agg #[.int .i64 (k + 4 * j), .int .i64 (k + 4 * j + 1), .int .i64 (k + 4 * j + 2), .int .i64 (k + 4 * j + 3)]
end Go.Proofs.Ytahnbliabllflaa
namespace Go.Proofs.Ytahnbliabllflaa
open Go.PL
set_option linter.unusedSimpArgs false
def posOf (rs : List Rec) (p : Int) : Nat := (rs.takeWhile fun x => decide (x.p < p)).length
theorem posOf_eq {p : Int} : ∀ {rs : List Rec} {i : Nat}, i ≤ rs.length → (∀ j (h : j < rs.length), j < i → rs[j].p < p) → (∀ h : i < rs.length, ¬ rs[i].p < p) → posOf rs p = i
  | [], i, hi, _, _ => by simp at hi; subst hi; rfl
  | x :: rs, 0, _, _, h => by
    have h' : ¬ x.p < p := h (by simp)
    simp [posOf, List.takeWhile_cons, h']
  | x :: rs, i + 1, hi, h1, h2 => by
    have h0 := h1 0 (by simp) (by omega)
    simp only [List.getElem_cons_zero] at h0
    have ih := posOf_eq (rs := rs) (i := i) (p := p) (by simpa using hi) (fun j hj hji => by have := h1 (j + 1) (by simpa using hj) (by omega); rwa [List.getElem_cons_succ] at this) (fun h => by have := h2 (by simpa using h); rwa [List.getElem_cons_succ] at this)
    unfold posOf at ih ⊢
    simp [List.takeWhile_cons, h0, ih]
/-- the list with the record entered, and whether it has been -/
def entered (rs : List Rec) (r : Rec) : List Rec × Bool :=
  match rs[posOf rs r.p]? with
  | some q => if q.p = r.p then (if q.s ≤ r.s then (rs, false) else (rs.set (posOf rs r.p) r, true)) else (rs.take (posOf rs r.p) ++ [r] ++ rs.drop (posOf rs r.p), true)
  | none => (rs.take (posOf rs r.p) ++ [r] ++ rs.drop (posOf rs r.p), true)
def enterRecord (rs : List Rec) (r : Rec) : List Rec × Bool :=
  if recordsOk rs = true then (if (entered rs r).2 = true ∧ recordsOk (entered rs r).1 = true then ((entered rs r).1, true) else (rs, false)) else (rs, false)
theorem recordsOk_len {rs : List Rec} (h : recordsOk rs = true) : rs.length ≤ 30 := by
  simp only [recordsOk, Bool.and_eq_true, decide_eq_true_eq] at h
  exact h.1
theorem entered_len {rs : List Rec} {r : Rec} : (entered rs r).1.length ≤ rs.length + 1 := by
  unfold entered
  split
  · split
    · split <;> simp
    · simp; omega
  · simp; omega
theorem take_map' {α : Type} {f : α → Value} {l : List α} {i : Nat} : (l.map f).take i = (l.take i).map f := by simp
theorem drop_map' {α : Type} {f : α → Value} {l : List α} {i : Nat} : (l.map f).drop i = (l.drop i).map f := by simp
end Go.Proofs.Ytahnbliabllflaa
namespace Go.Proofs.Ytahnbliabllflaa
open Go.PL
set_option linter.unusedSimpArgs false
end Go.Proofs.Ytahnbliabllflaa
namespace Go.Proofs.Ytahnbliabllflaa
open Go.PL
set_option linter.unusedSimpArgs false
theorem enterRecord_len {rs : List Rec} {r : Rec} (hn : rs.length ≤ 1048576) : (enterRecord rs r).1.length ≤ 1048576 := by
  have h := entered_len (rs := rs) (r := r)
  unfold enterRecord
  split
  · rename_i hk
    have := recordsOk_len hk
    split <;> (simp only; omega)
  · exact hn
theorem recC_of {cs : List C} (h : All2 TC [.z (.i .i64), .z (.i .i64), .z (.i .i64), .z (.i .i64)] cs) : ∃ r : Rec, cs = recC r := by
  obtain ⟨c1, r1, rfl, h1, g1⟩ := all2_cons h
  obtain ⟨c2, r2, rfl, h2, g2⟩ := all2_cons g1
  obtain ⟨c3, r3, rfl, h3, g3⟩ := all2_cons g2
  obtain ⟨c4, r4, rfl, h4, g4⟩ := all2_cons g3
  obtain rfl := all2_nil g4
  obtain ⟨a, rfl, _⟩ := tc_i h1
  obtain ⟨b, rfl, _⟩ := tc_i h2
  obtain ⟨c, rfl, _⟩ := tc_i h3
  obtain ⟨d, rfl, _⟩ := tc_i h4
  exact ⟨⟨a, b, c, d⟩, rfl⟩
end Go.Proofs.Ytahnbliabllflaa
