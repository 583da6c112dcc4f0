/-
  What the functions of the laws on records compute.
  What the functions of the laws that look a record up compute.
  What the functions compute that write a list of records anew and read it again.
  What the functions compute that enter a record into a list.
  What the functions compute that enter a record into a list of valid records; the law on them.
  The law on the entering of a record.
-/
import Derived.Test.YtahnbliabllflaaGreatDoorFa
import Derived.Test.YtahnbliabllflaaGreatDoorGa
import Derived.Test.YtahnbliabllflaaGreatDoorL1
import Derived.Test.YtahnbliabllflaaGreatDoorEg
namespace Go.Proofs.YtahnbliabllflaaGreatDoor
open Go.PL
set_option linter.unusedSimpArgs false
structure Rec where
  p : Int
  h : Int
  s : Int
  d : Int
def recV (r : Rec) : Value := .agg #[.int .i64 r.p, .int .i64 r.h, .int .i64 r.s, .int .i64 r.d]
abbrev recC (r : Rec) : List C := [.v (.int .i64 r.p), .v (.int .i64 r.h), .v (.int .i64 r.s), .v (.int .i64 r.d)]
def recOk (r : Rec) : Bool := within r.p 0 999 && within r.h 1 999 && within r.s 1 60 && within r.d 0 9999
def goodAt (rs : List Rec) (i : Nat) : Bool := match rs[i]? with
  | some r => recOk r && (decide (i = 0) || match rs[i - 1]? with | some q => decide (q.p < r.p) | none => false)
  | none => false
def recordsOk (rs : List Rec) : Bool := decide (rs.length ≤ 30) && (List.range rs.length).all (goodAt rs)
theorem recordsOk_bad {rs : List Rec} {i : Nat} (h : i < rs.length) (hb : goodAt rs i = false) : recordsOk rs = false := by
  cases hr : recordsOk rs with
  | false => rfl
  | true =>
    simp only [recordsOk, Bool.and_eq_true, List.all_eq_true, List.mem_range] at hr
    rw [hr.2 i h] at hb; cases hb
theorem recordsOk_end {rs : List Rec} (h : ∀ j, j < rs.length → goodAt rs j = true) : recordsOk rs = decide (rs.length ≤ 30) := by
  simp only [recordsOk]
  have : (List.range rs.length).all (goodAt rs) = true := by simpa [List.all_eq_true] using h
  rw [this, Bool.and_true]
theorem goodAt_eq {rs : List Rec} {i : Nat} (h : i < rs.length) : goodAt rs i = (recOk rs[i] && (decide (i = 0) || decide ((rs[i - 1]'(by omega)).p < rs[i].p))) := by
  have e1 : rs[i]? = some rs[i] := by simp [h]
  have e2 : rs[i - 1]? = some (rs[i - 1]'(by omega)) := List.getElem?_eq_getElem (by omega)
  unfold goodAt
  rw [e1, e2]
theorem good_step {G : Nat → Bool} {i : Nat} (h : ∀ j, j < i → G j = true) (hi : G i = true) : ∀ j, j < i + 1 → G j = true := fun j hj => by
  by_cases e : j = i
  · rw [e]; exact hi
  · exact h j (by omega)
theorem RecordsOk_c (rs : List Rec) (hn : rs.length ≤ 1048576) : PC Tryz.prog 127 [] [.c (.l 4 (rs.map recV))] (vB (recordsOk rs)) ⟨[], []⟩ := by
  refine pc_of Tryz.func127 rfl (by kernel_rfl) _ Tryz.ntmps127 (by simp) ?_
  simp -implicitDefEqProofs only [go_sem]
  refine loop_step (X := Nat) (fun i => ⟨55, [(0, vL 4 (rs.map recV)), (3, vN i)], ⟨[], []⟩⟩)
    (fun i => i ≤ rs.length ∧ ∀ j, j < i → goodAt rs j = true) (fun i => rs.length - i) 0 ⟨by omega, by omega⟩ (weak_of (fun i => i) (fun i => i) rfl ⟨by simp <;> omega, by simp <;> omega, by simp <;> omega, by simp <;> omega, by simp <;> omega⟩ (by simp <;> omega)) (fun i hi => ?_)
  simp -implicitDefEqProofs only [go_sem]
  refine if_split (fun h => ?_) (fun h => ?_)
  · have hlt : i < rs.length := by simpa using h
    have hlt' : i - 1 < rs.length := by omega
    have h1 := map_get (f := recV) hlt
    have h2 := map_get (f := recV) hlt'
    simp -implicitDefEqProofs only [h1, recV, go_sem]
    refine draw_step Tryz.pl_follows (by kernel_rfl) ?_
    obtain ⟨_, hi2⟩ := hi
    repeat' first
      | simp -implicitDefEqProofs only [*, recV, go_sem]
      | refine if_splitP (fun h => ?_) (fun h => ?_) | refine if_splitN (fun h => ?_) (fun h => ?_) | refine if_split (fun h => ?_) (fun h => ?_) | refine grd_splitP (fun h => ?_) (fun h => ?_) | refine grd_splitN (fun h => ?_) (fun h => ?_) | refine grd_split (fun h => ?_) (fun h => ?_) | refine grdX_splitP (fun h => ?_) (fun h => ?_) | refine grdX_splitN (fun h => ?_) (fun h => ?_) | refine grdX_split (fun h => ?_) (fun h => ?_) | refine grdY_splitP (fun h => ?_) (fun h => ?_) | refine grdY_splitN (fun h => ?_) (fun h => ?_) | refine grdY_split (fun h => ?_) (fun h => ?_)
      | refine callD (l01In_c _ _ _) rfl rfl rfl ?_
      | refine And.intro (by omega) ?_
    all_goals have hg := goodAt_eq hlt
    all_goals first
      | exact fin_scal rfl (by rw [recordsOk_bad hlt (by rw [hg]; clear hi2 hg; simp_all [recOk]; try omega)])
      | exact ⟨i + 1, ⟨by omega, good_step hi2 (by rw [hg]; clear hi2 hg; simp_all [recOk]; try omega)⟩, by omega, weak_of (fun i => i) (fun i => i) rfl ⟨by simp <;> omega, by simp <;> omega, by simp <;> omega, by simp <;> omega, by simp <;> omega⟩ (by simp <;> omega)⟩
  · have hle : i = rs.length := by simp at h; omega
    subst hle
    simp -implicitDefEqProofs only [recordsOk_end hi.2, go_sem]
    exact fin_scal rfl (by simp; omega)
theorem iRecordsOk_c (rs : List Rec) (hn : rs.length ≤ 1048576) : PC Tryz.prog 76 [] [.c (.l 4 (rs.map recV))] (vB (recordsOk rs)) ⟨[], []⟩ := by
  refine pc_of Tryz.func76 rfl (by kernel_rfl) _ Tryz.ntmps76 (by simp) ?_
  simp -implicitDefEqProofs only [go_sem]
  refine if_splitP (fun h => ?_) (fun h => ?_)
  · simp -implicitDefEqProofs only [go_sem]
    exact fin_scal rfl (by have : ¬ rs.length ≤ 30 := by omega
                           simp [recordsOk, this])
  simp -implicitDefEqProofs only [go_sem]
  refine loop_step (X := Nat) (fun i => ⟨51, [(0, vL 4 (rs.map recV)), (8, vL 4 (rs.map recV)), (9, vN rs.length), (10, vN i)], ⟨[], []⟩⟩)
    (fun i => i ≤ rs.length ∧ ∀ j, j < i → goodAt rs j = true) (fun i => rs.length - i) 0 ⟨by omega, by omega⟩ (weak_of (fun i => i) (fun i => i) rfl ⟨by simp <;> omega, by simp <;> omega, by simp <;> omega, by simp <;> omega, by simp <;> omega⟩ (by simp <;> omega)) (fun i hi => ?_)
  simp -implicitDefEqProofs only [go_sem]
  refine if_splitP (fun h => ?_) (fun h => ?_)
  · have hlt : i < rs.length := by omega
    have hlt' : i - 1 < rs.length := by omega
    have h1 := map_get (f := recV) hlt
    have h2 := map_get (f := recV) hlt'
    obtain ⟨_, hi2⟩ := hi
    repeat' first
      | simp -implicitDefEqProofs only [*, recV, go_sem]
      | refine if_splitP (fun h => ?_) (fun h => ?_) | refine if_splitN (fun h => ?_) (fun h => ?_) | refine if_split (fun h => ?_) (fun h => ?_) | refine grd_splitP (fun h => ?_) (fun h => ?_) | refine grd_splitN (fun h => ?_) (fun h => ?_) | refine grd_split (fun h => ?_) (fun h => ?_) | refine grdX_splitP (fun h => ?_) (fun h => ?_) | refine grdX_splitN (fun h => ?_) (fun h => ?_) | refine grdX_split (fun h => ?_) (fun h => ?_) | refine grdY_splitP (fun h => ?_) (fun h => ?_) | refine grdY_splitN (fun h => ?_) (fun h => ?_) | refine grdY_split (fun h => ?_) (fun h => ?_)
      | refine draw_step Tryz.pl_follows (by kernel_rfl) ?_
      | refine callS (within_c _ _ _) rfl rfl rfl ?_
      | refine And.intro (by omega) ?_
    all_goals have hg := goodAt_eq hlt
    all_goals first
      | exact fin_scal rfl (by rw [recordsOk_bad hlt (by rw [hg]; clear hi2 hg; simp_all [recOk]; try omega)])
      | exact ⟨i + 1, ⟨by omega, good_step hi2 (by rw [hg]; clear hi2 hg; simp_all [recOk]; try omega)⟩, by omega, weak_of (fun i => i) (fun i => i) rfl ⟨by simp <;> omega, by simp <;> omega, by simp <;> omega, by simp <;> omega, by simp <;> omega⟩ (by simp <;> omega)⟩
  · have hle : i = rs.length := by omega
    subst hle
    simp -implicitDefEqProofs only [recordsOk_end hi.2, go_sem]
    exact fin_scal rfl (by simp; omega)
abbrev recK : List K0 := [.i .i64, .i .i64, .i .i64, .i .i64]
def recIn (r : Rec) : Prop := inK .i64 r.p ∧ inK .i64 r.h ∧ inK .i64 r.s ∧ inK .i64 r.d
end Go.Proofs.YtahnbliabllflaaGreatDoor
namespace Go.Proofs.YtahnbliabllflaaGreatDoor
open Go.PL
set_option linter.unusedSimpArgs false
def zeroRec : Rec := ⟨0, 0, 0, 0⟩
def recordFound (rs : List Rec) (p : Int) : Option Rec := if recordsOk rs = true then rs.find? (fun r => decide (r.p = p)) else none
def recordPV : Option Rec → PV
  | some r => .t [.a (recC r), .c (.v (.bool true))]
  | none => .t [.a (recC zeroRec), .c (.v (.bool false))]
def cntRec (rs : List Rec) (h : Int) (i : Nat) : Nat := ((rs.take i).filter (fun r => decide (r.h = h))).length
def countRecords (rs : List Rec) (h : Int) : Nat := if recordsOk rs = true then cntRec rs h rs.length else 0
end Go.Proofs.YtahnbliabllflaaGreatDoor
namespace Go.Proofs.YtahnbliabllflaaGreatDoor
open Go.PL
set_option linter.unusedSimpArgs false
def mkRec (k : Int) (j : Nat) : Value := .agg #[.int .i64 (k + 4 * j), .int .i64 (k + 4 * j + 1), .int .i64 (k + 4 * j + 2), .int .i64 (k + 4 * j + 3)]
end Go.Proofs.YtahnbliabllflaaGreatDoor
namespace Go.Proofs.YtahnbliabllflaaGreatDoor
open Go.PL
set_option linter.unusedSimpArgs false
def posOf (rs : List Rec) (p : Int) : Nat := (rs.takeWhile fun x => decide (x.p < p)).length
theorem posOf_eq {p : Int} : ∀ {rs : List Rec} {i : Nat}, i ≤ rs.length → (∀ j (h : j < rs.length), j < i → rs[j].p < p) → (∀ h : i < rs.length, ¬ rs[i].p < p) → posOf rs p = i
  | [], i, hi, _, _ => by simp at hi; subst hi; rfl
  | x :: rs, 0, _, _, h => by
    have h' : ¬ x.p < p := h (by simp)
    simp [posOf, List.takeWhile_cons, h']
  | x :: rs, i + 1, hi, h1, h2 => by
    have h0 := h1 0 (by simp) (by omega)
    simp only [List.getElem_cons_zero] at h0
    have ih := posOf_eq (rs := rs) (i := i) (p := p) (by simpa using hi) (fun j hj hji => by have := h1 (j + 1) (by simpa using hj) (by omega); rwa [List.getElem_cons_succ] at this) (fun h => by have := h2 (by simpa using h); rwa [List.getElem_cons_succ] at this)
    unfold posOf at ih ⊢
    simp [List.takeWhile_cons, h0, ih]
def entered (rs : List Rec) (r : Rec) : List Rec × Bool :=
  match rs[posOf rs r.p]? with
  | some q => if q.p = r.p then (if q.s ≤ r.s then (rs, false) else (rs.set (posOf rs r.p) r, true)) else (rs.take (posOf rs r.p) ++ [r] ++ rs.drop (posOf rs r.p), true)
  | none => (rs.take (posOf rs r.p) ++ [r] ++ rs.drop (posOf rs r.p), true)
def enterRecord (rs : List Rec) (r : Rec) : List Rec × Bool :=
  if recordsOk rs = true then (if (entered rs r).2 = true ∧ recordsOk (entered rs r).1 = true then ((entered rs r).1, true) else (rs, false)) else (rs, false)
theorem recordsOk_len {rs : List Rec} (h : recordsOk rs = true) : rs.length ≤ 30 := by
  simp only [recordsOk, Bool.and_eq_true, decide_eq_true_eq] at h
  exact h.1
theorem entered_len {rs : List Rec} {r : Rec} : (entered rs r).1.length ≤ rs.length + 1 := by
  unfold entered
  split
  · split
    · split <;> simp
    · simp; omega
  · simp; omega
theorem copyRecords_c (d : Nat) (rs : List Rec) (hn : rs.length ≤ 1048576) : PC Tryz.prog 108 [] [.c (.l 4 (rs.map recV))] (.s (.c (.o d))) ⟨[], [(d, ⟨140, 4, rs.map recV, false, true⟩)]⟩ := by
  refine pc_of Tryz.func108 rfl (by kernel_rfl) _ Tryz.ntmps108 (by simp) ?_
  repeat' first
    | simp -implicitDefEqProofs only [go_sem]
    | refine And.intro (by simp; omega) ?_
  exact fin_of (fun i => i) (fun i => 5) ⟨by simp <;> omega, by simp <;> omega, by simp <;> omega, by simp <;> omega, by simp <;> omega⟩ (by simp <;> omega) rfl
theorem take_map' {α : Type} {f : α → Value} {l : List α} {i : Nat} : (l.map f).take i = (l.take i).map f := by simp
theorem drop_map' {α : Type} {f : α → Value} {l : List α} {i : Nat} : (l.map f).drop i = (l.drop i).map f := by simp
set_option maxHeartbeats 2000000 in
theorem entered_c (d : Nat) (rs : List Rec) (r : Rec) (hn : rs.length ≤ 1048576) :
    PC Tryz.prog 166 [] [.c (.l 4 (rs.map recV)), .a (recC r)] (.t [.c (.o d), .c (.v (.bool (entered rs r).2))]) ⟨[], [(d, ⟨140, 4, (entered rs r).1.map recV, false, true⟩)]⟩ := by
  refine pc_of Tryz.func166 rfl (by kernel_rfl) _ Tryz.ntmps166 (by simp) ?_
  simp -implicitDefEqProofs only [go_sem]
  refine callL (copyRecords_c 9 rs hn) rfl rfl rfl ?_
  simp -implicitDefEqProofs only [go_sem]
  refine loop_step (X := Nat) (fun i => ⟨66, [(0, vL 4 (rs.map recV)), (3, .s (.c (.p 3 0))), (6, vO 9), (7, vN i)], ⟨[(3, recC r)], [(9, ⟨140, 4, rs.map recV, false, true⟩)]⟩⟩)
    (fun i => i ≤ rs.length ∧ ∀ j (h : j < rs.length), j < i → rs[j].p < r.p) (fun i => rs.length - i) 0 ⟨by omega, by omega⟩ (weak_of (fun i => i) (fun i => i) rfl ⟨by simp <;> omega, by simp <;> omega, by simp <;> omega, by simp <;> omega, by simp <;> omega⟩ (by simp <;> omega)) (fun i hi => ?_)
  obtain ⟨hi0, hi1⟩ := hi
  simp -implicitDefEqProofs only [go_sem]
  refine draw_step Tryz.pl_follows (by kernel_rfl) ?_
  simp -implicitDefEqProofs only [go_sem]
  have more : ∀ hlt : i < rs.length, rs[i].p < r.p → i + 1 ≤ rs.length ∧ ∀ j (h : j < rs.length), j < i + 1 → rs[j].p < r.p := fun hlt hp => ⟨by omega, fun j h hj => by
    by_cases e : j = i
    · subst e; exact hp
    · exact hi1 j h (by omega)⟩
  have out : (∀ h : i < rs.length, ¬ rs[i].p < r.p) → posOf rs r.p = i := posOf_eq hi0 hi1
  by_cases hlt : i < rs.length
  · have hg := map_get (f := recV) hlt
    have e0 : ((i : Int) < rs.length) = True := eq_true (by omega)
    (repeat' (first | simp -implicitDefEqProofs only [hg, hlt, e0, recV, go_sem] | (refine And.intro ?_ ?_; omega) | (refine And.intro (shr_bd ?_ ?_) ?_; omega; omega) | refine sl_list rfl ?_ | refine sd_list rfl ?_ | refine sl_str ?_ | refine sd_str ?_))
    refine if_splitP (fun hp => ?_) (fun hp => ?_)
    · simp -implicitDefEqProofs only [go_sem]
      exact ⟨by omega, i + 1, more hlt hp, by omega, weak_of (fun i => i) (fun i => i) rfl ⟨by simp <;> omega, by simp <;> omega, by simp <;> omega, by simp <;> omega, by simp <;> omega⟩ (by simp <;> omega)⟩
    · have hpos := out (fun _ => hp)
      have hq : rs[i]? = some rs[i] := by simp [hlt]
      simp -implicitDefEqProofs only [go_sem]
      refine draw_step Tryz.pl_follows (by kernel_rfl) ?_
      (repeat' (first | simp -implicitDefEqProofs only [hg, hlt, e0, recV, go_sem] | (refine And.intro ?_ ?_; omega) | (refine And.intro (shr_bd ?_ ?_) ?_; omega; omega) | refine sl_list rfl ?_ | refine sd_list rfl ?_ | refine sl_str ?_ | refine sd_str ?_))
      refine if_splitP (fun he => ?_) (fun he => ?_)
      · simp -implicitDefEqProofs only [go_sem]
        refine draw_step Tryz.pl_follows (by kernel_rfl) ?_
        (repeat' (first | simp -implicitDefEqProofs only [hg, hlt, recV, go_sem] | (refine And.intro ?_ ?_; omega) | (refine And.intro (shr_bd ?_ ?_) ?_; omega; omega) | refine sl_list rfl ?_ | refine sd_list rfl ?_ | refine sl_str ?_ | refine sd_str ?_))
        refine if_splitP (fun hs => ?_) (fun hs => ?_)
        · have e : entered rs r = (rs, false) := by unfold entered; rw [hpos, hq]; simp [he, hs]
          simp -implicitDefEqProofs only [e, go_sem]
          exact fin_of (fun i => i) (fun i => 9) ⟨by simp <;> omega, by simp <;> omega, by simp <;> omega, by simp <;> omega, by simp <;> omega⟩ (by simp <;> omega) rfl
        · have e : entered rs r = (rs.set i r, true) := by unfold entered; rw [hpos, hq]; simp [he, hs]
          repeat' first
            | simp -implicitDefEqProofs only [e, hlt, List.map_set, go_sem]
            | refine And.intro (by omega) ?_
          exact fin_of (fun i => i) (fun i => 9) ⟨by simp [List.map_set, recV] <;> omega, by simp [List.map_set, recV] <;> omega, by simp <;> omega, by simp <;> omega, by simp <;> omega⟩ (by simp <;> omega) rfl
      · have e : entered rs r = (rs.take i ++ [r] ++ rs.drop i, true) := by unfold entered; rw [hpos, hq]; simp [he]
        simp -implicitDefEqProofs only [go_sem]
        refine draw_stepY Tryz.pl_follows (by kernel_rfl) ?_
        have hl2 : (List.take i rs).length ≤ i := List.length_take_le _ _
        have e2 : (rs.take rs.length).drop i = rs.drop i := by simp
        have hl3 : (List.drop i rs).length ≤ rs.length := by simp
        (repeat' (first | simp -implicitDefEqProofs only [go_sem] | (refine And.intro ?_ ?_; omega) | (refine And.intro (shr_bd ?_ ?_) ?_; omega; omega) | refine sl_list rfl ?_ | refine sd_list rfl ?_ | refine sl_str ?_ | refine sd_str ?_))
        simp -implicitDefEqProofs only [take_map', go_sem]
        refine callL (copyRecords_c 57 _ (by simp; omega)) rfl rfl rfl ?_
        (repeat' (first | simp -implicitDefEqProofs only [recV, take_map', drop_map', e2, go_sem] | (refine And.intro ?_ ?_; omega) | (refine And.intro (shr_bd ?_ ?_) ?_; omega; omega) | refine sl_list rfl ?_ | refine sd_list rfl ?_ | refine sl_str ?_ | refine sd_str ?_))
        exact fin_of (fun i => i) (fun i => 65) ⟨by simp <;> omega, by simp [e, recV] <;> omega, by simp <;> omega, by simp <;> omega, by simp <;> omega⟩ (by simp <;> omega) (by simp [e, renPV, renV1, renC])
  · have hle : i = rs.length := by omega
    have e0 : ((i : Int) < rs.length) = False := eq_false (by omega)
    have hpos := out (fun h => absurd h hlt)
    have hq : rs[i]? = none := by simp [hle]
    have e : entered rs r = (rs.take i ++ [r] ++ rs.drop i, true) := by unfold entered; rw [hpos, hq]
    (repeat' (first | simp -implicitDefEqProofs only [e0, go_sem] | (refine And.intro ?_ ?_; omega) | (refine And.intro (shr_bd ?_ ?_) ?_; omega; omega) | refine sl_list rfl ?_ | refine sd_list rfl ?_ | refine sl_str ?_ | refine sd_str ?_))
    refine draw_step Tryz.pl_follows (by kernel_rfl) ?_
    (repeat' (first | simp -implicitDefEqProofs only [e0, go_sem] | (refine And.intro ?_ ?_; omega) | (refine And.intro (shr_bd ?_ ?_) ?_; omega; omega) | refine sl_list rfl ?_ | refine sd_list rfl ?_ | refine sl_str ?_ | refine sd_str ?_))
    refine draw_stepY Tryz.pl_follows (by kernel_rfl) ?_
    have hl2 : (List.take i rs).length ≤ i := List.length_take_le _ _
    have e2 : (rs.take rs.length).drop i = rs.drop i := by simp
    have hl3 : (List.drop i rs).length ≤ rs.length := by simp
    (repeat' (first | simp -implicitDefEqProofs only [go_sem] | (refine And.intro ?_ ?_; omega) | (refine And.intro (shr_bd ?_ ?_) ?_; omega; omega) | refine sl_list rfl ?_ | refine sd_list rfl ?_ | refine sl_str ?_ | refine sd_str ?_))
    simp -implicitDefEqProofs only [take_map', go_sem]
    refine callL (copyRecords_c 57 _ (by simp; omega)) rfl rfl rfl ?_
    (repeat' (first | simp -implicitDefEqProofs only [recV, take_map', drop_map', e2, go_sem] | (refine And.intro ?_ ?_; omega) | (refine And.intro (shr_bd ?_ ?_) ?_; omega; omega) | refine sl_list rfl ?_ | refine sd_list rfl ?_ | refine sl_str ?_ | refine sd_str ?_))
    exact fin_of (fun i => i) (fun i => 65) ⟨by simp <;> omega, by simp [e, recV] <;> omega, by simp <;> omega, by simp <;> omega, by simp <;> omega⟩ (by simp <;> omega) (by simp [e, renPV, renV1, renC])
end Go.Proofs.YtahnbliabllflaaGreatDoor
namespace Go.Proofs.YtahnbliabllflaaGreatDoor
open Go.PL
set_option linter.unusedSimpArgs false
theorem iEnterRecord_c (d : Nat) (rs : List Rec) (r : Rec) (hn : rs.length ≤ 1048576) :
    PC Tryz.prog 123 [] [.c (.l 4 (rs.map recV)), .a (recC r)] (.t [.c (.o d), .c (.v (.bool (enterRecord rs r).2))]) ⟨[], [(d, ⟨140, 4, (enterRecord rs r).1.map recV, false, true⟩)]⟩ := by
  refine pc_of Tryz.func123 rfl (by kernel_rfl) _ Tryz.ntmps123 (by simp) ?_
  simp -implicitDefEqProofs only [go_sem]
  refine callS (iRecordsOk_c rs hn) rfl rfl rfl ?_
  simp -implicitDefEqProofs only [go_sem]
  have hl := entered_len (rs := rs) (r := r)
  refine if_splitN (fun hk => ?_) (fun hk => ?_)
  · have e : enterRecord rs r = (rs, false) := by simp [enterRecord, hk]
    simp -implicitDefEqProofs only [go_sem]
    refine callL (copyRecords_c 12 rs hn) rfl rfl rfl ?_
    simp -implicitDefEqProofs only [e, go_sem]
    exact fin_of (fun i => i) (fun i => 12) ⟨by simp <;> omega, by simp <;> omega, by simp <;> omega, by simp <;> omega, by simp <;> omega⟩ (by simp <;> omega) rfl
  · have h30 := recordsOk_len hk
    simp -implicitDefEqProofs only [go_sem]
    refine callL (entered_c 16 rs r hn) rfl rfl rfl ?_
    simp -implicitDefEqProofs only [go_sem]
    refine grd_splitN (fun he => ?_) (fun he => ?_)
    · have e : enterRecord rs r = (rs, false) := by simp [enterRecord, hk, he]
      simp -implicitDefEqProofs only [he, go_sem]
      refine callL (copyRecords_c 27 rs hn) rfl rfl rfl ?_
      simp -implicitDefEqProofs only [e, go_sem]
      exact fin_of (fun i => i) (fun i => 27) ⟨by simp <;> omega, by simp <;> omega, by simp <;> omega, by simp <;> omega, by simp <;> omega⟩ (by simp <;> omega) rfl
    · simp -implicitDefEqProofs only [he, go_sem]
      refine callS (iRecordsOk_c _ (by omega)) rfl rfl rfl ?_
      simp -implicitDefEqProofs only [he, go_sem]
      refine if_splitN (fun ho => ?_) (fun ho => ?_)
      · have e : enterRecord rs r = (rs, false) := by simp [enterRecord, hk, he, ho]
        simp -implicitDefEqProofs only [go_sem]
        refine callL (copyRecords_c 27 rs hn) rfl rfl rfl ?_
        simp -implicitDefEqProofs only [e, go_sem]
        exact fin_of (fun i => i) (fun i => 27) ⟨by simp <;> omega, by simp <;> omega, by simp <;> omega, by simp <;> omega, by simp <;> omega⟩ (by simp <;> omega) rfl
      · have e : enterRecord rs r = ((entered rs r).1, true) := by simp [enterRecord, hk, he, ho]
        simp -implicitDefEqProofs only [e, go_sem]
        exact fin_of (fun i => i) (fun i => 16) ⟨by simp <;> omega, by simp <;> omega, by simp <;> omega, by simp <;> omega, by simp <;> omega⟩ (by simp <;> omega) rfl
set_option maxHeartbeats 4000000 in
theorem EnterRecord_c (d : Nat) (rs : List Rec) (r : Rec) (hn : rs.length ≤ 1048576) :
    PC Tryz.prog 134 [] [.c (.l 4 (rs.map recV)), .a (recC r)] (.t [.c (.o d), .c (.v (.bool (enterRecord rs r).2))]) ⟨[], [(d, ⟨140, 4, (enterRecord rs r).1.map recV, false, true⟩)]⟩ := by
  refine pc_of Tryz.func134 rfl (by kernel_rfl) _ Tryz.ntmps134 (by simp) ?_
  (repeat' (first | simp -implicitDefEqProofs only [go_sem] | (refine And.intro ?_ ?_; omega) | (refine And.intro (shr_bd ?_ ?_) ?_; omega; omega) | refine sl_list rfl ?_ | refine sd_list rfl ?_ | refine sl_str ?_ | refine sd_str ?_))
  refine callS (RecordsOk_c rs hn) rfl rfl rfl ?_
  (repeat' (first | simp -implicitDefEqProofs only [go_sem] | (refine And.intro ?_ ?_; omega) | (refine And.intro (shr_bd ?_ ?_) ?_; omega; omega) | refine sl_list rfl ?_ | refine sd_list rfl ?_ | refine sl_str ?_ | refine sd_str ?_))
  refine if_splitN (fun hk => ?_) (fun hk => ?_)
  · have e : enterRecord rs r = (rs, false) := by simp [enterRecord, hk]
    simp -implicitDefEqProofs only [e, go_sem]
    exact fin_of (fun i => i) (fun i => 11) ⟨by simp <;> omega, by simp <;> omega, by simp <;> omega, by simp <;> omega, by simp <;> omega⟩ (by simp <;> omega) rfl
  have h30 := recordsOk_len hk
  simp -implicitDefEqProofs only [go_sem]
  refine loop_step (X := Nat) (fun i => ⟨76, [(0, vL 4 (rs.map recV)), (3, .s (.c (.p 3 0))), (6, vO 11), (7, vN i)], ⟨[(3, recC r)], [(11, ⟨140, 4, rs.map recV, false, true⟩)]⟩⟩)
    (fun i => i ≤ rs.length ∧ ∀ j (h : j < rs.length), j < i → rs[j].p < r.p) (fun i => rs.length - i) 0 ⟨by omega, by omega⟩ (weak_of (fun i => i) (fun i => i) rfl ⟨by simp <;> omega, by simp <;> omega, by simp <;> omega, by simp <;> omega, by simp <;> omega⟩ (by simp <;> omega)) (fun i hi => ?_)
  obtain ⟨hi0, hi1⟩ := hi
  simp -implicitDefEqProofs only [go_sem]
  refine draw_step Tryz.pl_follows (by kernel_rfl) ?_
  simp -implicitDefEqProofs only [go_sem]
  have more : ∀ hlt : i < rs.length, rs[i].p < r.p → i + 1 ≤ rs.length ∧ ∀ j (h : j < rs.length), j < i + 1 → rs[j].p < r.p := fun hlt hp => ⟨by omega, fun j h hj => by
    by_cases e : j = i
    · subst e; exact hp
    · exact hi1 j h (by omega)⟩
  have out : (∀ h : i < rs.length, ¬ rs[i].p < r.p) → posOf rs r.p = i := posOf_eq hi0 hi1
  have hl2 : (List.take i rs).length ≤ i := List.length_take_le _ _
  have e2 : (rs.take rs.length).drop i = rs.drop i := by simp
  have e3 : (rs.take rs.length).drop (i + 1) = rs.drop (i + 1) := by simp
  have hl3 : (List.drop i rs).length ≤ rs.length := by simp
  by_cases hlt : i < rs.length
  · have hg := map_get (f := recV) hlt
    have e0 : ((i : Int) < rs.length) = True := eq_true (by omega)
    (repeat' (first | simp -implicitDefEqProofs only [hg, hlt, e0, recV, go_sem] | (refine And.intro ?_ ?_; omega) | (refine And.intro (shr_bd ?_ ?_) ?_; omega; omega) | refine sl_list rfl ?_ | refine sd_list rfl ?_ | refine sl_str ?_ | refine sd_str ?_))
    refine if_splitP (fun hp => ?_) (fun hp => ?_)
    · simp -implicitDefEqProofs only [go_sem]
      exact ⟨by omega, i + 1, more hlt hp, by omega, weak_of (fun i => i) (fun i => i) rfl ⟨by simp <;> omega, by simp <;> omega, by simp <;> omega, by simp <;> omega, by simp <;> omega⟩ (by simp <;> omega)⟩
    · have hpos := out (fun _ => hp)
      have hq : rs[i]? = some rs[i] := by simp [hlt]
      (repeat' (first | simp -implicitDefEqProofs only [recV, take_map', go_sem] | (refine And.intro ?_ ?_; omega) | (refine And.intro (shr_bd ?_ ?_) ?_; omega; omega) | refine sl_list rfl ?_ | refine sd_list rfl ?_ | refine sl_str ?_ | refine sd_str ?_))
      refine draw_step Tryz.pl_follows (by kernel_rfl) ?_
      (repeat' (first | simp -implicitDefEqProofs only [hg, hlt, e0, recV, go_sem] | (refine And.intro ?_ ?_; omega) | (refine And.intro (shr_bd ?_ ?_) ?_; omega; omega) | refine sl_list rfl ?_ | refine sd_list rfl ?_ | refine sl_str ?_ | refine sd_str ?_))
      refine if_splitP (fun he => ?_) (fun he => ?_)
      · simp -implicitDefEqProofs only [go_sem]
        refine draw_step Tryz.pl_follows (by kernel_rfl) ?_
        (repeat' (first | simp -implicitDefEqProofs only [hg, hlt, recV, go_sem] | (refine And.intro ?_ ?_; omega) | (refine And.intro (shr_bd ?_ ?_) ?_; omega; omega) | refine sl_list rfl ?_ | refine sd_list rfl ?_ | refine sl_str ?_ | refine sd_str ?_))
        refine if_splitP (fun hs => ?_) (fun hs => ?_)
        · have e : entered rs r = (rs, false) := by unfold entered; rw [hpos, hq]; simp [he, hs]
          have e' : enterRecord rs r = (rs, false) := by simp [enterRecord, hk, e]
          simp -implicitDefEqProofs only [e', go_sem]
          exact fin_of (fun i => i) (fun i => 11) ⟨by simp <;> omega, by simp <;> omega, by simp <;> omega, by simp <;> omega, by simp <;> omega⟩ (by simp <;> omega) rfl
        · have e : entered rs r = (rs.take i ++ [r] ++ rs.drop (i + 1), true) := by
            unfold entered; rw [hpos, hq]
            have : ¬ rs[i].s ≤ r.s := hs
            have h3 := List.set_eq_take_append_cons_drop (l := rs) (i := i) (a := r)
            rw [if_pos hlt] at h3
            simp [he, this, h3]
          (repeat' (first | simp -implicitDefEqProofs only [recV, take_map', drop_map', e3, go_sem] | (refine And.intro ?_ ?_; omega) | (refine And.intro (shr_bd ?_ ?_) ?_; omega; omega) | refine sl_list rfl ?_ | refine sd_list rfl ?_ | refine sl_str ?_ | refine sd_str ?_))
          have el : rs.take i ++ [r] ++ rs.drop (i + 1) = (entered rs r).1 := by rw [e]
          have em : List.map recV (List.take i rs) ++ [Value.agg #[.int .i64 r.p, .int .i64 r.h, .int .i64 r.s, .int .i64 r.d]] ++ List.map recV (List.drop (i + 1) rs) = (entered rs r).1.map recV := by rw [← el]; simp [recV]
          rw [em]
          refine callS (RecordsOk_c _ (by have := entered_len (rs := rs) (r := r); omega)) rfl rfl rfl ?_
          simp -implicitDefEqProofs only [go_sem]
          refine if_splitN (fun ho => ?_) (fun ho => ?_)
          · have e' : enterRecord rs r = (rs, false) := by simp only [enterRecord, hk, if_true, ho]; simp
            simp -implicitDefEqProofs only [e', go_sem]
            exact fin_of (fun i => i) (fun i => 11) ⟨by simp <;> omega, by simp <;> omega, by simp <;> omega, by simp <;> omega, by simp <;> omega⟩ (by simp <;> omega) rfl
          · have e' : enterRecord rs r = ((entered rs r).1, true) := by simp only [enterRecord, hk, if_true, ho]; simp [e]
            simp -implicitDefEqProofs only [e', go_sem]
            exact fin_of (fun i => i) (fun i => 70) ⟨by simp <;> omega, by simp <;> omega, by simp <;> omega, by simp <;> omega, by simp <;> omega⟩ (by simp <;> omega) rfl
      · have e : entered rs r = (rs.take i ++ [r] ++ rs.drop i, true) := by unfold entered; rw [hpos, hq]; simp [he]
        (repeat' (first | simp -implicitDefEqProofs only [recV, take_map', drop_map', e2, go_sem] | (refine And.intro ?_ ?_; omega) | (refine And.intro (shr_bd ?_ ?_) ?_; omega; omega) | refine sl_list rfl ?_ | refine sd_list rfl ?_ | refine sl_str ?_ | refine sd_str ?_))
        have el : rs.take i ++ [r] ++ rs.drop i = (entered rs r).1 := by rw [e]
        have em : List.map recV (List.take i rs) ++ [Value.agg #[.int .i64 r.p, .int .i64 r.h, .int .i64 r.s, .int .i64 r.d]] ++ List.map recV (List.drop i rs) = (entered rs r).1.map recV := by rw [← el]; simp [recV]
        rw [em]
        refine callS (RecordsOk_c _ (by have := entered_len (rs := rs) (r := r); omega)) rfl rfl rfl ?_
        simp -implicitDefEqProofs only [go_sem]
        refine if_splitN (fun ho => ?_) (fun ho => ?_)
        · have e' : enterRecord rs r = (rs, false) := by simp only [enterRecord, hk, if_true, ho]; simp
          simp -implicitDefEqProofs only [e', go_sem]
          exact fin_of (fun i => i) (fun i => 11) ⟨by simp <;> omega, by simp <;> omega, by simp <;> omega, by simp <;> omega, by simp <;> omega⟩ (by simp <;> omega) rfl
        · have e' : enterRecord rs r = ((entered rs r).1, true) := by simp only [enterRecord, hk, if_true, ho]; simp [e]
          simp -implicitDefEqProofs only [e', go_sem]
          exact fin_of (fun i => i) (fun i => 70) ⟨by simp <;> omega, by simp <;> omega, by simp <;> omega, by simp <;> omega, by simp <;> omega⟩ (by simp <;> omega) rfl
  · have hle : i = rs.length := by omega
    have e0 : ((i : Int) < rs.length) = False := eq_false (by omega)
    have hpos := out (fun h => absurd h hlt)
    have hq : rs[i]? = none := by simp [hle]
    have e : entered rs r = (rs.take i ++ [r] ++ rs.drop i, true) := by unfold entered; rw [hpos, hq]
    (repeat' (first | simp -implicitDefEqProofs only [e0, recV, take_map', go_sem] | (refine And.intro ?_ ?_; omega) | (refine And.intro (shr_bd ?_ ?_) ?_; omega; omega) | refine sl_list rfl ?_ | refine sd_list rfl ?_ | refine sl_str ?_ | refine sd_str ?_))
    refine draw_step Tryz.pl_follows (by kernel_rfl) ?_
    (repeat' (first | simp -implicitDefEqProofs only [e0, recV, take_map', drop_map', e2, go_sem] | (refine And.intro ?_ ?_; omega) | (refine And.intro (shr_bd ?_ ?_) ?_; omega; omega) | refine sl_list rfl ?_ | refine sd_list rfl ?_ | refine sl_str ?_ | refine sd_str ?_))
    have el : rs.take i ++ [r] ++ rs.drop i = (entered rs r).1 := by rw [e]
    have em : List.map recV (List.take i rs) ++ [Value.agg #[.int .i64 r.p, .int .i64 r.h, .int .i64 r.s, .int .i64 r.d]] ++ List.map recV (List.drop i rs) = (entered rs r).1.map recV := by rw [← el]; simp [recV]
    rw [em]
    refine callS (RecordsOk_c _ (by have := entered_len (rs := rs) (r := r); omega)) rfl rfl rfl ?_
    simp -implicitDefEqProofs only [go_sem]
    refine if_splitN (fun ho => ?_) (fun ho => ?_)
    · have e' : enterRecord rs r = (rs, false) := by simp only [enterRecord, hk, if_true, ho]; simp
      simp -implicitDefEqProofs only [e', go_sem]
      exact fin_of (fun i => i) (fun i => 11) ⟨by simp <;> omega, by simp <;> omega, by simp <;> omega, by simp <;> omega, by simp <;> omega⟩ (by simp <;> omega) rfl
    · have e' : enterRecord rs r = ((entered rs r).1, true) := by simp only [enterRecord, hk, if_true, ho]; simp [e]
      simp -implicitDefEqProofs only [e', go_sem]
      exact fin_of (fun i => i) (fun i => 70) ⟨by simp <;> omega, by simp <;> omega, by simp <;> omega, by simp <;> omega, by simp <;> omega⟩ (by simp <;> omega) rfl
end Go.Proofs.YtahnbliabllflaaGreatDoor
namespace Go.Proofs.YtahnbliabllflaaGreatDoor
open Go.PL
set_option linter.unusedSimpArgs false
end Go.Proofs.YtahnbliabllflaaGreatDoor
