/-
  What the functions compute that find a line between two holes and make a jump on a board.
  What the functions compute that play a list of jumps.
  What the functions compute that judge a game and find its position.
  What the functions of the laws compute that copy and measure a game; the laws on judging a game.
-/
import Derived.Test.YtahnbliabllflaaGreatDoorP2
import Derived.Test.YtahnbliabllflaaGreatDoorGa
import Derived.Test.YtahnbliabllflaaGreatDoorL6
import Derived.Test.YtahnbliabllflaaGreatDoorN4
namespace Go.Proofs.YtahnbliabllflaaGreatDoor
open Go.PL
set_option linter.unusedSimpArgs false
def between (f t : Int) (l : Ln) : Bool := decide (l.f = f) && decide (l.t = t)
def lineBetween (b : Brd) (f t : Int) : Option Ln := (linesOf b).find? (between f t)
def lineO : Option Ln → Ln
  | some l => l
  | none => ⟨0, 0, 0⟩
theorem find_at' {α : Type} {p : α → Bool} {l : List α} {i : Nat} (h : i < l.length) (hi : ∀ j (hj : j < l.length), j < i → p l[j] = false) (he : p l[i] = true) : l.find? p = some l[i] := by
  rw [List.find?_eq_some_iff_getElem]
  exact ⟨he, i, h, rfl, fun j hj => by simp [hi j (by omega) hj]⟩
theorem find_none' {α : Type} {p : α → Bool} {l : List α} (hi : ∀ j (hj : j < l.length), j < l.length → p l[j] = false) : l.find? p = none := by
  rw [List.find?_eq_none]
  intro x hx
  obtain ⟨j, hj, rfl⟩ := List.mem_iff_getElem.1 hx
  simp [hi j hj hj]
theorem no_step {α : Type} {p : α → Bool} {l : List α} {i : Nat} (h : i < l.length) (hi : ∀ j (hj : j < l.length), j < i → p l[j] = false) (he : p l[i] = false) : ∀ j (hj : j < l.length), j < i + 1 → p l[j] = false := fun j hj hlt => by
  by_cases e : j = i
  · subst e; exact he
  · exact hi j hj (by omega)
set_option maxHeartbeats 2000000 in
theorem LineBetween_c (b : Brd) (f t : Int) : PC Tryz.prog 67 [] [.a (brdC b), .c (.v (.int .i64 f)), .c (.v (.int .i64 t))] (.t [.a (lineC (lineO (lineBetween b f t))), .c (.v (.bool (lineBetween b f t).isSome))]) ⟨[], []⟩ := by
  refine pc_of Tryz.func67 rfl (by kernel_rfl) _ Tryz.ntmps67 (by simp) ?_
  simp -implicitDefEqProofs only [go_sem]
  refine callL (LinesOf_c 11 b) rfl rfl rfl ?_
  have hl := linesOf_len (b := b)
  simp -implicitDefEqProofs only [go_sem]
  refine loop_step (X := Nat) (fun i => ⟨39, [(1, vN f), (2, vN t), (6, .s (.c (.p 6 0))), (8, vO 11), (9, vN i)], ⟨[(6, [.v (.int .i64 0), .v (.int .i64 0), .v (.int .i64 0)])], [(11, ⟨86, 3, (linesOf b).map lineV, false, true⟩)]⟩⟩)
    (fun i => i ≤ (linesOf b).length ∧ ∀ j (hj : j < (linesOf b).length), j < i → between f t (linesOf b)[j] = false) (fun i => (linesOf b).length - i) 0 ⟨by omega, by omega⟩ (weak_of (fun i => i) (fun i => i) rfl ⟨by simp <;> omega, by simp <;> omega, by simp <;> omega, by simp <;> omega, by simp <;> omega⟩ (by simp <;> omega)) (fun i hi => ?_)
  obtain ⟨hi0, hi1⟩ := hi
  simp -implicitDefEqProofs only [go_sem]
  refine if_splitP (fun h => ?_) (fun h => ?_)
  · have hlt : i < (linesOf b).length := by omega
    have hg := map_get (f := lineV) hlt
    by_cases h1 : (linesOf b)[i].f = f
    · by_cases h2 : (linesOf b)[i].t = t
      · have e : lineBetween b f t = some (linesOf b)[i] := find_at' hlt hi1 (by simp [between, h1, h2])
        (repeat' (first | simp -implicitDefEqProofs only [hg, hlt, lineV, h1, h2, go_sem] | (refine And.intro ?_ ?_; omega) | (refine And.intro (shr_bd ?_ ?_) ?_; omega; omega) | refine sl_list rfl ?_ | refine sd_list rfl ?_ | refine sl_str ?_ | refine sd_str ?_))
        exact fin_scal rfl (by simp [e, lineO, retOf, h1, h2])
      · have e := no_step hlt hi1 (by simp [between, h2])
        (repeat' (first | simp -implicitDefEqProofs only [hg, hlt, lineV, h1, h2, go_sem] | (refine And.intro ?_ ?_; omega) | (refine And.intro (shr_bd ?_ ?_) ?_; omega; omega) | refine sl_list rfl ?_ | refine sd_list rfl ?_ | refine sl_str ?_ | refine sd_str ?_))
        exact ⟨i + 1, ⟨by omega, e⟩, by omega, weak_of (fun i => i) (fun i => i) rfl ⟨by simp <;> omega, by simp <;> omega, by simp <;> omega, by simp <;> omega, by simp <;> omega⟩ (by simp <;> omega)⟩
    · have e := no_step hlt hi1 (by simp [between, h1])
      (repeat' (first | simp -implicitDefEqProofs only [hg, hlt, lineV, h1, go_sem] | (refine And.intro ?_ ?_; omega) | (refine And.intro (shr_bd ?_ ?_) ?_; omega; omega) | refine sl_list rfl ?_ | refine sd_list rfl ?_ | refine sl_str ?_ | refine sd_str ?_))
      exact ⟨i + 1, ⟨by omega, e⟩, by omega, weak_of (fun i => i) (fun i => i) rfl ⟨by simp <;> omega, by simp <;> omega, by simp <;> omega, by simp <;> omega, by simp <;> omega⟩ (by simp <;> omega)⟩
  · have hle : i = (linesOf b).length := by omega
    subst hle
    have e : lineBetween b f t = none := find_none' hi1
    (repeat' (first | simp -implicitDefEqProofs only [go_sem] | (refine And.intro ?_ ?_; omega) | (refine And.intro (shr_bd ?_ ?_) ?_; omega; omega) | refine sl_list rfl ?_ | refine sd_list rfl ?_ | refine sl_str ?_ | refine sd_str ?_))
    exact fin_scal rfl (by simp [e, lineO, retOf])
set_option maxHeartbeats 2000000 in
theorem iLineBetween_c (b : Brd) (f t : Int) : PC Tryz.prog 58 [] [.a (brdC b), .c (.v (.int .i64 f)), .c (.v (.int .i64 t))] (.t [.a (lineC (lineO (lineBetween b f t))), .c (.v (.bool (lineBetween b f t).isSome))]) ⟨[], []⟩ := by
  refine pc_of Tryz.func58 rfl (by kernel_rfl) _ Tryz.ntmps58 (by simp) ?_
  simp -implicitDefEqProofs only [go_sem]
  refine callL (iLinesOf_c 11 b) rfl rfl rfl ?_
  have hl := linesOf_len (b := b)
  simp -implicitDefEqProofs only [go_sem]
  refine loop_step (X := Nat) (fun i => ⟨30, [(1, vN f), (2, vN t), (6, .s (.c (.p 6 0))), (11, vO 11), (12, vN (linesOf b).length), (13, vN i)], ⟨[(6, [.v (.int .i64 0), .v (.int .i64 0), .v (.int .i64 0)])], [(11, ⟨86, 3, (linesOf b).map lineV, false, true⟩)]⟩⟩)
    (fun i => i ≤ (linesOf b).length ∧ ∀ j (hj : j < (linesOf b).length), j < i → between f t (linesOf b)[j] = false) (fun i => (linesOf b).length - i) 0 ⟨by omega, by omega⟩ (weak_of (fun i => i) (fun i => i) rfl ⟨by simp <;> omega, by simp <;> omega, by simp <;> omega, by simp <;> omega, by simp <;> omega⟩ (by simp <;> omega)) (fun i hi => ?_)
  obtain ⟨hi0, hi1⟩ := hi
  simp -implicitDefEqProofs only [go_sem]
  refine if_splitP (fun h => ?_) (fun h => ?_)
  · have hlt : i < (linesOf b).length := by omega
    have hg := map_get (f := lineV) hlt
    by_cases h1 : (linesOf b)[i].f = f
    · by_cases h2 : (linesOf b)[i].t = t
      · have e : lineBetween b f t = some (linesOf b)[i] := find_at' hlt hi1 (by simp [between, h1, h2])
        (repeat' (first | simp -implicitDefEqProofs only [hg, hlt, lineV, h1, h2, go_sem] | (refine And.intro ?_ ?_; omega) | (refine And.intro (shr_bd ?_ ?_) ?_; omega; omega) | refine sl_list rfl ?_ | refine sd_list rfl ?_ | refine sl_str ?_ | refine sd_str ?_))
        exact fin_scal rfl (by simp [e, lineO, retOf, h1, h2])
      · have e := no_step hlt hi1 (by simp [between, h2])
        (repeat' (first | simp -implicitDefEqProofs only [hg, hlt, lineV, h1, h2, go_sem] | (refine And.intro ?_ ?_; omega) | (refine And.intro (shr_bd ?_ ?_) ?_; omega; omega) | refine sl_list rfl ?_ | refine sd_list rfl ?_ | refine sl_str ?_ | refine sd_str ?_))
        exact ⟨i + 1, ⟨by omega, e⟩, by omega, weak_of (fun i => i) (fun i => i) rfl ⟨by simp <;> omega, by simp <;> omega, by simp <;> omega, by simp <;> omega, by simp <;> omega⟩ (by simp <;> omega)⟩
    · have e := no_step hlt hi1 (by simp [between, h1])
      (repeat' (first | simp -implicitDefEqProofs only [hg, hlt, lineV, h1, go_sem] | (refine And.intro ?_ ?_; omega) | (refine And.intro (shr_bd ?_ ?_) ?_; omega; omega) | refine sl_list rfl ?_ | refine sd_list rfl ?_ | refine sl_str ?_ | refine sd_str ?_))
      exact ⟨i + 1, ⟨by omega, e⟩, by omega, weak_of (fun i => i) (fun i => i) rfl ⟨by simp <;> omega, by simp <;> omega, by simp <;> omega, by simp <;> omega, by simp <;> omega⟩ (by simp <;> omega)⟩
  · have hle : i = (linesOf b).length := by omega
    subst hle
    have e : lineBetween b f t = none := find_none' hi1
    (repeat' (first | simp -implicitDefEqProofs only [go_sem] | (refine And.intro ?_ ?_; omega) | (refine And.intro (shr_bd ?_ ?_) ?_; omega; omega) | refine sl_list rfl ?_ | refine sd_list rfl ?_ | refine sl_str ?_ | refine sd_str ?_))
    exact fin_scal rfl (by simp [e, lineO, retOf])
def sameLn (m l : Ln) : Bool := decide (m.f = l.f ∧ m.o = l.o ∧ m.t = l.t)
def isLine (b : Brd) (l : Ln) : Bool := (lineBetween b l.f l.t).isSome && sameLn (lineO (lineBetween b l.f l.t)) l
theorem isLine_mem {b : Brd} {l : Ln} (h : isLine b l = true) : l ∈ linesOf b := by
  simp only [isLine, sameLn, Bool.and_eq_true, decide_eq_true_eq] at h
  obtain ⟨h1, h2, h3, h4⟩ := h
  cases hf : lineBetween b l.f l.t with
  | none => rw [hf] at h1; cases h1
  | some m =>
    rw [hf] at h2 h3 h4
    have hm := List.mem_of_find?_eq_some hf
    have : m = l := by cases m; cases l; simp only [lineO] at h2 h3 h4; simp [h2, h3, h4]
    rw [← this]; exact hm
theorem l05Is_c (b : Brd) (l : Ln) : PC Tryz.prog 154 [] [.a (brdC b), .a (lineC l)] (vB (isLine b l)) ⟨[], []⟩ := by
  refine pc_of Tryz.func154 rfl (by kernel_rfl) _ Tryz.ntmps154 (by simp) ?_
  (repeat' (first | simp -implicitDefEqProofs only [go_sem] | (refine And.intro ?_ ?_; omega) | (refine And.intro (shr_bd ?_ ?_) ?_; omega; omega) | refine sl_list rfl ?_ | refine sd_list rfl ?_ | refine sl_str ?_ | refine sd_str ?_))
  refine callS (LineBetween_c b l.f l.t) rfl rfl rfl ?_
  by_cases h : (lineBetween b l.f l.t).isSome = true
  · (repeat' (first | simp -implicitDefEqProofs only [h, go_sem] | (refine And.intro ?_ ?_; omega) | (refine And.intro (shr_bd ?_ ?_) ?_; omega; omega) | refine sl_list rfl ?_ | refine sd_list rfl ?_ | refine sl_str ?_ | refine sd_str ?_))
    refine eq_ints3 (by kernel_rfl) ?_
    (repeat' (first | simp -implicitDefEqProofs only [h, go_sem] | (refine And.intro ?_ ?_; omega) | (refine And.intro (shr_bd ?_ ?_) ?_; omega; omega) | refine sl_list rfl ?_ | refine sd_list rfl ?_ | refine sl_str ?_ | refine sd_str ?_))
    exact fin_scal rfl (by simp [isLine, h, sameLn])
  · (repeat' (first | simp -implicitDefEqProofs only [h, go_sem] | (refine And.intro ?_ ?_; omega) | (refine And.intro (shr_bd ?_ ?_) ?_; omega; omega) | refine sl_list rfl ?_ | refine sd_list rfl ?_ | refine sl_str ?_ | refine sd_str ?_))
    exact fin_scal rfl (by simp [isLine, h])
theorem iisLine_c (b : Brd) (l : Ln) : PC Tryz.prog 112 [] [.a (brdC b), .a (lineC l)] (vB (isLine b l)) ⟨[], []⟩ := by
  refine pc_of Tryz.func112 rfl (by kernel_rfl) _ Tryz.ntmps112 (by simp) ?_
  (repeat' (first | simp -implicitDefEqProofs only [go_sem] | (refine And.intro ?_ ?_; omega) | (refine And.intro (shr_bd ?_ ?_) ?_; omega; omega) | refine sl_list rfl ?_ | refine sd_list rfl ?_ | refine sl_str ?_ | refine sd_str ?_))
  refine callS (iLineBetween_c b l.f l.t) rfl rfl rfl ?_
  by_cases h : (lineBetween b l.f l.t).isSome = true
  · (repeat' (first | simp -implicitDefEqProofs only [h, go_sem] | (refine And.intro ?_ ?_; omega) | (refine And.intro (shr_bd ?_ ?_) ?_; omega; omega) | refine sl_list rfl ?_ | refine sd_list rfl ?_ | refine sl_str ?_ | refine sd_str ?_))
    refine eq_ints3 (by kernel_rfl) ?_
    (repeat' (first | simp -implicitDefEqProofs only [h, go_sem] | (refine And.intro ?_ ?_; omega) | (refine And.intro (shr_bd ?_ ?_) ?_; omega; omega) | refine sl_list rfl ?_ | refine sd_list rfl ?_ | refine sl_str ?_ | refine sd_str ?_))
    exact fin_scal rfl (by simp [isLine, h, sameLn])
  · (repeat' (first | simp -implicitDefEqProofs only [h, go_sem] | (refine And.intro ?_ ?_; omega) | (refine And.intro (shr_bd ?_ ?_) ?_; omega; omega) | refine sl_list rfl ?_ | refine sd_list rfl ?_ | refine sl_str ?_ | refine sd_str ?_))
    exact fin_scal rfl (by simp [isLine, h])
def canDo (b : Brd) (p : Int) (l : Ln) : Bool := positionOk b p && (isLine b l && canJ p l)
theorem pos_le {b : Brd} {p : Int} (h : positionOk b p = true) : p ≤ 562949953421311 := by
  obtain ⟨hb, p0, hs⟩ := pos_sub h
  have n3 := (bok hb).n3
  have h2 : p.toNat &&& b.n.toNat ≤ b.n.toNat := Nat.and_le_right
  rw [sub_and hs] at h2
  omega
set_option maxHeartbeats 2000000 in
theorem CanJump_c (b : Brd) (p : Int) (l : Ln) (p2 : p ≤ 9223372036854775807) : PC Tryz.prog 173 [] [.a (brdC b), .c (.v (.int .i64 p)), .a (lineC l)] (vB (canDo b p l)) ⟨[], []⟩ := by
  refine pc_of Tryz.func173 rfl (by kernel_rfl) _ Tryz.ntmps173 (by simp) ?_
  simp -implicitDefEqProofs only [go_sem]
  refine draw_step Tryz.pl_follows (by kernel_rfl) ?_
  (repeat' (first | simp -implicitDefEqProofs only [go_sem] | (refine And.intro ?_ ?_; omega) | (refine And.intro (shr_bd ?_ ?_) ?_; omega; omega) | refine sl_list rfl ?_ | refine sd_list rfl ?_ | refine sl_str ?_ | refine sd_str ?_))
  refine callD (PositionOk_c b p p2) rfl rfl rfl ?_
  by_cases h1 : positionOk b p = true
  · (repeat' (first | simp -implicitDefEqProofs only [h1, go_sem] | (refine And.intro ?_ ?_; omega) | (refine And.intro (shr_bd ?_ ?_) ?_; omega; omega) | refine sl_list rfl ?_ | refine sd_list rfl ?_ | refine sl_str ?_ | refine sd_str ?_))
    refine callD (l05Is_c b l) rfl rfl rfl ?_
    by_cases h2 : isLine b l = true
    · have hm := isLine_mem h2
      have hln := lnIn hm
      obtain ⟨hne0, hne1, hne2⟩ := line_ne hm
      obtain ⟨hb, p0, hs⟩ := pos_sub h1
      have hbl := bitsL_le hln
      have q1 := pow48 hln.f0 hln.f1
      have q2 := pow48 hln.o0 hln.o1
      have q3 := or63 (a := 2 ^ l.f.toNat) (c := 2 ^ l.o.toNat) (by omega) (by omega)
      have hc := can_and p0 hln hne1 hne2
      have f0 := hln.f0
      have f1 := hln.f1
      have o0 := hln.o0
      have o1 := hln.o1
      (repeat' (first | simp -implicitDefEqProofs only [h1, h2, go_sem] | (refine And.intro ?_ ?_; omega) | (refine And.intro (shr_bd ?_ ?_) ?_; omega; omega) | refine sl_list rfl ?_ | refine sd_list rfl ?_ | refine sl_str ?_ | refine sd_str ?_))
      refine callD (l05Bits_c l hln) rfl rfl rfl ?_
      by_cases h3 : canJ p l = true
      · have e1 : (((p.toNat &&& bitsL l : Nat) : Int) = ((2 ^ l.f.toNat ||| 2 ^ l.o.toNat : Nat) : Int)) = True := eq_true (by rw [hc.2 h3])
        (repeat' (first | simp -implicitDefEqProofs only [h1, h2, e1, go_sem] | (refine And.intro ?_ ?_; omega) | (refine And.intro (shr_bd ?_ ?_) ?_; omega; omega) | refine sl_list rfl ?_ | refine sd_list rfl ?_ | refine sl_str ?_ | refine sd_str ?_))
        exact fin_scal rfl (by simp [canDo, h1, h2, h3])
      · have e1 : (((p.toNat &&& bitsL l : Nat) : Int) = ((2 ^ l.f.toNat ||| 2 ^ l.o.toNat : Nat) : Int)) = False := eq_false (fun h => h3 (hc.1 (by omega)))
        (repeat' (first | simp -implicitDefEqProofs only [h1, h2, e1, go_sem] | (refine And.intro ?_ ?_; omega) | (refine And.intro (shr_bd ?_ ?_) ?_; omega; omega) | refine sl_list rfl ?_ | refine sd_list rfl ?_ | refine sl_str ?_ | refine sd_str ?_))
        exact fin_scal rfl (by simp [canDo, h3])
    · (repeat' (first | simp -implicitDefEqProofs only [h1, h2, go_sem] | (refine And.intro ?_ ?_; omega) | (refine And.intro (shr_bd ?_ ?_) ?_; omega; omega) | refine sl_list rfl ?_ | refine sd_list rfl ?_ | refine sl_str ?_ | refine sd_str ?_))
      exact fin_scal rfl (by simp [canDo, h2])
  · (repeat' (first | simp -implicitDefEqProofs only [h1, go_sem] | (refine And.intro ?_ ?_; omega) | (refine And.intro (shr_bd ?_ ?_) ?_; omega; omega) | refine sl_list rfl ?_ | refine sd_list rfl ?_ | refine sl_str ?_ | refine sd_str ?_))
    exact fin_scal rfl (by simp [canDo, h1])
def doJ (b : Brd) (p : Int) (l : Ln) : Int := if canDo b p l = true then flip p l else p
theorem DoJump_c (b : Brd) (p : Int) (l : Ln) (p2 : p ≤ 9223372036854775807) : PC Tryz.prog 138 [] [.a (brdC b), .c (.v (.int .i64 p)), .a (lineC l)] (.t [.c (.v (.int .i64 (doJ b p l))), .c (.v (.bool (canDo b p l)))]) ⟨[], []⟩ := by
  refine pc_of Tryz.func138 rfl (by kernel_rfl) _ Tryz.ntmps138 (by simp) ?_
  (repeat' (first | simp -implicitDefEqProofs only [go_sem] | (refine And.intro ?_ ?_; omega) | (refine And.intro (shr_bd ?_ ?_) ?_; omega; omega) | refine sl_list rfl ?_ | refine sd_list rfl ?_ | refine sl_str ?_ | refine sd_str ?_))
  refine callS (CanJump_c b p l p2) rfl rfl rfl ?_
  by_cases h : canDo b p l = true
  · have h' := h
    simp only [canDo, Bool.and_eq_true] at h'
    have hln := lnIn (isLine_mem h'.2.1)
    obtain ⟨hb, p0, hs⟩ := pos_sub h'.1
    have hbl := bitsL_le hln
    have q5 := xor63 (a := p.toNat) (c := bitsL l) (by omega) (by omega)
    (repeat' (first | simp -implicitDefEqProofs only [h, go_sem] | (refine And.intro ?_ ?_; omega) | (refine And.intro (shr_bd ?_ ?_) ?_; omega; omega) | refine sl_list rfl ?_ | refine sd_list rfl ?_ | refine sl_str ?_ | refine sd_str ?_))
    refine callS (l05Bits_c l hln) rfl rfl rfl ?_
    (repeat' (first | simp -implicitDefEqProofs only [go_sem] | (refine And.intro ?_ ?_; omega) | (refine And.intro (shr_bd ?_ ?_) ?_; omega; omega) | refine sl_list rfl ?_ | refine sd_list rfl ?_ | refine sl_str ?_ | refine sd_str ?_))
    exact fin_scal rfl (by simp [doJ, h, flip])
  · (repeat' (first | simp -implicitDefEqProofs only [h, go_sem] | (refine And.intro ?_ ?_; omega) | (refine And.intro (shr_bd ?_ ?_) ?_; omega; omega) | refine sl_list rfl ?_ | refine sd_list rfl ?_ | refine sl_str ?_ | refine sd_str ?_))
    exact fin_scal rfl (by simp [doJ, h])
theorem iDoJump_c (b : Brd) (p : Int) (l : Ln) (p2 : p ≤ 9223372036854775807) : PC Tryz.prog 137 [] [.a (brdC b), .c (.v (.int .i64 p)), .a (lineC l)] (.t [.c (.v (.int .i64 (doJ b p l))), .c (.v (.bool (canDo b p l)))]) ⟨[], []⟩ := by
  refine pc_of Tryz.func137 rfl (by kernel_rfl) _ Tryz.ntmps137 (by simp) ?_
  (repeat' (first | simp -implicitDefEqProofs only [go_sem] | (refine And.intro ?_ ?_; omega) | (refine And.intro (shr_bd ?_ ?_) ?_; omega; omega) | refine sl_list rfl ?_ | refine sd_list rfl ?_ | refine sl_str ?_ | refine sd_str ?_))
  refine callS (iPositionOk_c b p p2) rfl rfl rfl ?_
  by_cases h1 : positionOk b p = true
  · (repeat' (first | simp -implicitDefEqProofs only [h1, go_sem] | (refine And.intro ?_ ?_; omega) | (refine And.intro (shr_bd ?_ ?_) ?_; omega; omega) | refine sl_list rfl ?_ | refine sd_list rfl ?_ | refine sl_str ?_ | refine sd_str ?_))
    refine callS (iisLine_c b l) rfl rfl rfl ?_
    by_cases h2 : isLine b l = true
    · have hm := isLine_mem h2
      have hln := lnIn hm
      obtain ⟨hne0, hne1, hne2⟩ := line_ne hm
      obtain ⟨hb, p0, hs⟩ := pos_sub h1
      (repeat' (first | simp -implicitDefEqProofs only [h1, h2, go_sem] | (refine And.intro ?_ ?_; omega) | (refine And.intro (shr_bd ?_ ?_) ?_; omega; omega) | refine sl_list rfl ?_ | refine sd_list rfl ?_ | refine sl_str ?_ | refine sd_str ?_))
      refine callS (jumpFrom_c p l p0 p2 hln) rfl rfl rfl ?_
      (repeat' (first | simp -implicitDefEqProofs only [go_sem] | (refine And.intro ?_ ?_; omega) | (refine And.intro (shr_bd ?_ ?_) ?_; omega; omega) | refine sl_list rfl ?_ | refine sd_list rfl ?_ | refine sl_str ?_ | refine sd_str ?_))
      refine fin_scal rfl ?_
      have e1 : canDo b p l = canJ p l := by simp [canDo, h1, h2]
      have e2 : doJ b p l = jumpI p l := by
        unfold doJ jumpI
        rw [e1]
        split
        · rename_i hc
          rw [jmp_flip p0 hln hne1 hne2 hc]; rfl
        · rfl
      rw [e1, e2]
    · have e : canDo b p l = false := by simp [canDo, h2]
      (repeat' (first | simp -implicitDefEqProofs only [h1, h2, go_sem] | (refine And.intro ?_ ?_; omega) | (refine And.intro (shr_bd ?_ ?_) ?_; omega; omega) | refine sl_list rfl ?_ | refine sd_list rfl ?_ | refine sl_str ?_ | refine sd_str ?_))
      exact fin_scal rfl (by simp [doJ, e])
  · have e : canDo b p l = false := by simp [canDo, h1]
    (repeat' (first | simp -implicitDefEqProofs only [h1, go_sem] | (refine And.intro ?_ ?_; omega) | (refine And.intro (shr_bd ?_ ?_) ?_; omega; omega) | refine sl_list rfl ?_ | refine sd_list rfl ?_ | refine sl_str ?_ | refine sd_str ?_))
    exact fin_scal rfl (by simp [doJ, e])
theorem do_pos {b : Brd} {p : Int} {l : Ln} (h : canDo b p l = true) : positionOk b (flip p l) = true := by
  have h' := h
  simp only [canDo, Bool.and_eq_true] at h'
  obtain ⟨hb, p0, hs⟩ := pos_sub h'.1
  have ha : able false p.toNat l = true := by simp only [able, Bool.false_eq_true, if_false]; rw [Int.toNat_of_nonneg p0]; exact h'.2.2
  exact sub_pos hb (rch_sub hs (.step _ l .refl (isLine_mem h'.2.1) ha))
end Go.Proofs.YtahnbliabllflaaGreatDoor
namespace Go.Proofs.YtahnbliabllflaaGreatDoor
open Go.PL
set_option linter.unusedSimpArgs false
def playF (b : Brd) : Int → List Ln → Option Int
  | q, [] => some q
  | q, l :: ls => if canDo b q l = true then playF b (flip q l) ls else none
def playAll (b : Brd) (p : Int) (ls : List Ln) : Option Int := if positionOk b p = true ∧ ls.length ≤ 60 then playF b p ls else none
def playI (b : Brd) (p : Int) (ls : List Ln) : Int := (playAll b p ls).getD p
theorem playF_step {b : Brd} {q : Int} {ls : List Ln} {i : Nat} (h : i < ls.length) (hc : canDo b q ls[i] = true) : playF b q (ls.drop i) = playF b (flip q ls[i]) (ls.drop (i + 1)) := by
  rw [List.drop_eq_getElem_cons h, playF, if_pos hc]
theorem playF_no {b : Brd} {q : Int} {ls : List Ln} {i : Nat} (h : i < ls.length) (hc : canDo b q ls[i] = false) : playF b q (ls.drop i) = none := by
  rw [List.drop_eq_getElem_cons h, playF, if_neg (by simp [hc])]
theorem playF_end {b : Brd} {q : Int} {ls : List Ln} : playF b q (ls.drop ls.length) = some q := by rw [List.drop_length]; rfl
theorem playF_pos {b : Brd} : ∀ {ls : List Ln} {p q : Int}, positionOk b p = true → playF b p ls = some q → positionOk b q = true
  | [], p, q, hp, h => by simp only [playF, Option.some.injEq] at h; rw [← h]; exact hp
  | l :: ls, p, q, hp, h => by
    simp only [playF] at h
    split at h
    · rename_i hc; exact playF_pos (do_pos hc) h
    · cases h
set_option maxHeartbeats 4000000 in
theorem PlayAll_c (b : Brd) (p : Int) (ls : List Ln) (p2 : p ≤ 9223372036854775807) (hn : ls.length ≤ 9223372036854775806) : PC Tryz.prog 79 [] [.a (brdC b), .c (.v (.int .i64 p)), .c (.l 3 (ls.map lineV))] (.t [.c (.v (.int .i64 (playI b p ls))), .c (.v (.bool (playAll b p ls).isSome))]) ⟨[], []⟩ := by
  refine pc_of Tryz.func79 rfl (by kernel_rfl) _ Tryz.ntmps79 (by simp) ?_
  (repeat' (first | simp -implicitDefEqProofs only [go_sem] | (refine And.intro ?_ ?_; omega) | (refine And.intro (shr_bd ?_ ?_) ?_; omega; omega) | refine sl_list rfl ?_ | refine sd_list rfl ?_ | refine sl_str ?_ | refine sd_str ?_))
  refine loop_step (X := Nat × Int) (fun x => ⟨44, [(1, vN p), (2, vL 3 (ls.map lineV)), (3, .s (.c (.p 3 0))), (8, vN x.2), (9, vN x.1)], ⟨[(3, brdC b)], []⟩⟩)
    (fun x => x.1 ≤ ls.length ∧ (x.1 = 0 → x.2 = p) ∧ (0 < x.1 → positionOk b p = true ∧ ls.length ≤ 60) ∧ x.2 ≤ 9223372036854775807 ∧ playF b p ls = playF b x.2 (ls.drop x.1)) (fun x => ls.length - x.1) (0, p) ⟨by simp, fun _ => rfl, by simp, p2, by simp⟩ (weak_of (fun i => i) (fun i => i) rfl ⟨by simp <;> omega, by simp <;> omega, by simp <;> omega, by simp <;> omega, by simp <;> omega⟩ (by simp <;> omega)) (fun x hx => ?_)
  obtain ⟨i, q⟩ := x
  obtain ⟨hi, hi0, hi1, hq, hpl⟩ := hx
  simp only at hi hi0 hi1 hq hpl
  simp -implicitDefEqProofs only [go_sem]
  refine if_splitP (fun h => ?_) (fun h => ?_)
  · have hlt : i < ls.length := by omega
    have hg := map_get (f := lineV) hlt
    simp -implicitDefEqProofs only [go_sem]
    refine draw_step Tryz.pl_follows (by kernel_rfl) ?_
    (repeat' (first | simp -implicitDefEqProofs only [hg, hlt, lineV, go_sem] | (refine And.intro ?_ ?_; omega) | (refine And.intro (shr_bd ?_ ?_) ?_; omega; omega) | refine sl_list rfl ?_ | refine sd_list rfl ?_ | refine sl_str ?_ | refine sd_str ?_))
    refine callD (DoJump_c b q ls[i] hq) rfl rfl rfl ?_
    by_cases hc : canDo b q ls[i] = true
    · have hd : doJ b q ls[i] = flip q ls[i] := by simp [doJ, hc]
      have hpq : positionOk b q = true := by simp only [canDo, Bool.and_eq_true] at hc; exact hc.1
      have hpp : positionOk b p = true := by
        by_cases e : i = 0
        · rw [← hi0 e]; exact hpq
        · exact (hi1 (by omega)).1
      have hst := playF_step hlt hc
      have hle := pos_le (do_pos hc)
      by_cases h60 : (60 : Int) < ls.length
      · have e : playAll b p ls = none := by
          have : ¬ ls.length ≤ 60 := by omega
          simp [playAll, this]
        (repeat' (first | simp -implicitDefEqProofs only [hc, h60, go_sem] | (refine And.intro ?_ ?_; omega) | (refine And.intro (shr_bd ?_ ?_) ?_; omega; omega) | refine sl_list rfl ?_ | refine sd_list rfl ?_ | refine sl_str ?_ | refine sd_str ?_))
        exact fin_scal rfl (by simp [playI, e])
      · (repeat' (first | simp -implicitDefEqProofs only [hc, h60, hd, go_sem] | (refine And.intro ?_ ?_; omega) | (refine And.intro (shr_bd ?_ ?_) ?_; omega; omega) | refine sl_list rfl ?_ | refine sd_list rfl ?_ | refine sl_str ?_ | refine sd_str ?_))
        exact ⟨(i + 1, flip q ls[i]), ⟨by simp only; omega, by simp, fun _ => ⟨hpp, by omega⟩, by simp only; omega, by simp only; rw [hpl, hst]⟩, by simp only; omega, weak_of (fun i => i) (fun i => i) rfl ⟨by simp <;> omega, by simp <;> omega, by simp <;> omega, by simp <;> omega, by simp <;> omega⟩ (by simp <;> omega)⟩
    · have e : playAll b p ls = none := by
        unfold playAll
        split
        · rw [hpl]; exact playF_no hlt (by simpa using hc)
        · rfl
      (repeat' (first | simp -implicitDefEqProofs only [hc, go_sem] | (refine And.intro ?_ ?_; omega) | (refine And.intro (shr_bd ?_ ?_) ?_; omega; omega) | refine sl_list rfl ?_ | refine sd_list rfl ?_ | refine sl_str ?_ | refine sd_str ?_))
      exact fin_scal rfl (by simp [playI, e])
  · have hle : i = ls.length := by omega
    subst hle
    (repeat' (first | simp -implicitDefEqProofs only [go_sem] | (refine And.intro ?_ ?_; omega) | (refine And.intro (shr_bd ?_ ?_) ?_; omega; omega) | refine sl_list rfl ?_ | refine sd_list rfl ?_ | refine sl_str ?_ | refine sd_str ?_))
    refine callS (PositionOk_c b p p2) rfl rfl rfl ?_
    rw [playF_end] at hpl
    by_cases hp : positionOk b p = true
    · have h60 : ls.length ≤ 60 := by
        by_cases e : ls.length = 0
        · omega
        · exact (hi1 (by omega)).2
      have e : playAll b p ls = some q := by simp [playAll, hp, h60, hpl]
      (repeat' (first | simp -implicitDefEqProofs only [hp, go_sem] | (refine And.intro ?_ ?_; omega) | (refine And.intro (shr_bd ?_ ?_) ?_; omega; omega) | refine sl_list rfl ?_ | refine sd_list rfl ?_ | refine sl_str ?_ | refine sd_str ?_))
      exact fin_scal rfl (by simp [playI, e])
    · have e : playAll b p ls = none := by simp [playAll, hp]
      (repeat' (first | simp -implicitDefEqProofs only [hp, go_sem] | (refine And.intro ?_ ?_; omega) | (refine And.intro (shr_bd ?_ ?_) ?_; omega; omega) | refine sl_list rfl ?_ | refine sd_list rfl ?_ | refine sl_str ?_ | refine sd_str ?_))
      exact fin_scal rfl (by simp [playI, e])
set_option maxHeartbeats 4000000 in
theorem iPlayAll_c (b : Brd) (p : Int) (ls : List Ln) (p2 : p ≤ 9223372036854775807) (hn : ls.length ≤ 9223372036854775806) : PC Tryz.prog 78 [] [.a (brdC b), .c (.v (.int .i64 p)), .c (.l 3 (ls.map lineV))] (.t [.c (.v (.int .i64 (playI b p ls))), .c (.v (.bool (playAll b p ls).isSome))]) ⟨[], []⟩ := by
  refine pc_of Tryz.func78 rfl (by kernel_rfl) _ Tryz.ntmps78 (by simp) ?_
  (repeat' (first | simp -implicitDefEqProofs only [go_sem] | (refine And.intro ?_ ?_; omega) | (refine And.intro (shr_bd ?_ ?_) ?_; omega; omega) | refine sl_list rfl ?_ | refine sd_list rfl ?_ | refine sl_str ?_ | refine sd_str ?_))
  refine callS (iPositionOk_c b p p2) rfl rfl rfl ?_
  by_cases hp : positionOk b p = true
  rotate_left
  · have e : playAll b p ls = none := by simp [playAll, hp]
    (repeat' (first | simp -implicitDefEqProofs only [hp, go_sem] | (refine And.intro ?_ ?_; omega) | (refine And.intro (shr_bd ?_ ?_) ?_; omega; omega) | refine sl_list rfl ?_ | refine sd_list rfl ?_ | refine sl_str ?_ | refine sd_str ?_))
    exact fin_scal rfl (by simp [playI, e])
  by_cases h60 : (60 : Int) < ls.length
  · have e : playAll b p ls = none := by
      have : ¬ ls.length ≤ 60 := by omega
      simp [playAll, this]
    (repeat' (first | simp -implicitDefEqProofs only [hp, h60, go_sem] | (refine And.intro ?_ ?_; omega) | (refine And.intro (shr_bd ?_ ?_) ?_; omega; omega) | refine sl_list rfl ?_ | refine sd_list rfl ?_ | refine sl_str ?_ | refine sd_str ?_))
    exact fin_scal rfl (by simp [playI, e])
  have h60' : ls.length ≤ 60 := by omega
  (repeat' (first | simp -implicitDefEqProofs only [hp, h60, go_sem] | (refine And.intro ?_ ?_; omega) | (refine And.intro (shr_bd ?_ ?_) ?_; omega; omega) | refine sl_list rfl ?_ | refine sd_list rfl ?_ | refine sl_str ?_ | refine sd_str ?_))
  refine loop_step (X := Nat × Int) (fun x => ⟨43, [(1, vN p), (3, .s (.c (.p 3 0))), (8, vN x.2), (24, vL 3 (ls.map lineV)), (25, vN ls.length), (26, vN x.1)], ⟨[(3, brdC b)], []⟩⟩)
    (fun x => x.1 ≤ ls.length ∧ x.2 ≤ 9223372036854775807 ∧ playF b p ls = playF b x.2 (ls.drop x.1)) (fun x => ls.length - x.1) (0, p) ⟨by simp, p2, by simp⟩ (weak_of (fun i => i) (fun i => i) rfl ⟨by simp <;> omega, by simp <;> omega, by simp <;> omega, by simp <;> omega, by simp <;> omega⟩ (by simp <;> omega)) (fun x hx => ?_)
  obtain ⟨i, q⟩ := x
  obtain ⟨hi, hq, hpl⟩ := hx
  simp only at hi hq hpl
  simp -implicitDefEqProofs only [go_sem]
  refine if_splitP (fun h => ?_) (fun h => ?_)
  · have hlt : i < ls.length := by omega
    have hg := map_get (f := lineV) hlt
    (repeat' (first | simp -implicitDefEqProofs only [hg, hlt, lineV, go_sem] | (refine And.intro ?_ ?_; omega) | (refine And.intro (shr_bd ?_ ?_) ?_; omega; omega) | refine sl_list rfl ?_ | refine sd_list rfl ?_ | refine sl_str ?_ | refine sd_str ?_))
    refine callS (iDoJump_c b q ls[i] hq) rfl rfl rfl ?_
    by_cases hc : canDo b q ls[i] = true
    · have hd : doJ b q ls[i] = flip q ls[i] := by simp [doJ, hc]
      have hst := playF_step hlt hc
      have hle := pos_le (do_pos hc)
      (repeat' (first | simp -implicitDefEqProofs only [hc, hd, go_sem] | (refine And.intro ?_ ?_; omega) | (refine And.intro (shr_bd ?_ ?_) ?_; omega; omega) | refine sl_list rfl ?_ | refine sd_list rfl ?_ | refine sl_str ?_ | refine sd_str ?_))
      exact ⟨(i + 1, flip q ls[i]), ⟨by simp only; omega, by simp only; omega, by simp only; rw [hpl, hst]⟩, by simp only; omega, weak_of (fun i => i) (fun i => i) rfl ⟨by simp <;> omega, by simp <;> omega, by simp <;> omega, by simp <;> omega, by simp <;> omega⟩ (by simp <;> omega)⟩
    · have e : playAll b p ls = none := by
        unfold playAll
        split
        · rw [hpl]; exact playF_no hlt (by simpa using hc)
        · rfl
      (repeat' (first | simp -implicitDefEqProofs only [hc, go_sem] | (refine And.intro ?_ ?_; omega) | (refine And.intro (shr_bd ?_ ?_) ?_; omega; omega) | refine sl_list rfl ?_ | refine sd_list rfl ?_ | refine sl_str ?_ | refine sd_str ?_))
      exact fin_scal rfl (by simp [playI, e])
  · have hle : i = ls.length := by omega
    subst hle
    rw [playF_end] at hpl
    have e : playAll b p ls = some q := by simp [playAll, hp, h60', hpl]
    (repeat' (first | simp -implicitDefEqProofs only [go_sem] | (refine And.intro ?_ ?_; omega) | (refine And.intro (shr_bd ?_ ?_) ?_; omega; omega) | refine sl_list rfl ?_ | refine sd_list rfl ?_ | refine sl_str ?_ | refine sd_str ?_))
    exact fin_scal rfl (by simp [playI, e])
end Go.Proofs.YtahnbliabllflaaGreatDoor
namespace Go.Proofs.YtahnbliabllflaaGreatDoor
open Go.PL
set_option linter.unusedSimpArgs false
structure GmIn (g : Gm) : Prop where
  x : pzIn g.x
  j : g.j.length ≤ 9223372036854775806
def gameOk (g : Gm) : Bool := puzzleOk g.x && (within g.h 0 1000 && (within g.u 0 1000 && (playAll g.x.b g.x.s g.j).isSome))
theorem GameOk_c (g : Gm) (hg : GmIn g) : PC Tryz.prog 125 [] [.a (gmL g)] (vB (gameOk g)) ⟨[], []⟩ := by
  refine pc_of Tryz.func125 rfl (by kernel_rfl) _ Tryz.ntmps125 (by simp) ?_
  (repeat' (first | simp -implicitDefEqProofs only [go_sem] | (refine And.intro ?_ ?_; omega) | (refine And.intro (shr_bd ?_ ?_) ?_; omega; omega) | refine sl_list rfl ?_ | refine sd_list rfl ?_ | refine sl_str ?_ | refine sd_str ?_))
  refine callS (PuzzleOk_c g.x hg.x) rfl rfl rfl ?_
  by_cases h1 : puzzleOk g.x = true
  · by_cases h2 : within g.h 0 1000 = true
    · by_cases h3 : within g.u 0 1000 = true
      · repeat' first
          | (first | simp -implicitDefEqProofs only [h1, h2, h3, go_sem] | (refine And.intro ?_ ?_; omega) | (refine And.intro (shr_bd ?_ ?_) ?_; omega; omega) | refine sl_list rfl ?_ | refine sd_list rfl ?_ | refine sl_str ?_ | refine sd_str ?_)
          | refine callS (l01In_c _ _ _) rfl rfl rfl ?_
          | refine callS (PlayAll_c g.x.b g.x.s g.j hg.x.1 hg.j) rfl rfl rfl ?_
        exact fin_scal rfl (by simp [gameOk, h1, h2, h3])
      · repeat' first
          | (first | simp -implicitDefEqProofs only [h1, h2, h3, go_sem] | (refine And.intro ?_ ?_; omega) | (refine And.intro (shr_bd ?_ ?_) ?_; omega; omega) | refine sl_list rfl ?_ | refine sd_list rfl ?_ | refine sl_str ?_ | refine sd_str ?_)
          | refine callS (l01In_c _ _ _) rfl rfl rfl ?_
        exact fin_scal rfl (by simp [gameOk, h3])
    · repeat' first
        | (first | simp -implicitDefEqProofs only [h1, h2, go_sem] | (refine And.intro ?_ ?_; omega) | (refine And.intro (shr_bd ?_ ?_) ?_; omega; omega) | refine sl_list rfl ?_ | refine sd_list rfl ?_ | refine sl_str ?_ | refine sd_str ?_)
        | refine callS (l01In_c _ _ _) rfl rfl rfl ?_
      exact fin_scal rfl (by simp [gameOk, h2])
  · (repeat' (first | simp -implicitDefEqProofs only [h1, go_sem] | (refine And.intro ?_ ?_; omega) | (refine And.intro (shr_bd ?_ ?_) ?_; omega; omega) | refine sl_list rfl ?_ | refine sd_list rfl ?_ | refine sl_str ?_ | refine sd_str ?_))
    exact fin_scal rfl (by simp [gameOk, h1])
theorem iGameOk_c (g : Gm) (hg : GmIn g) : PC Tryz.prog 74 [] [.a (gmL g)] (vB (gameOk g)) ⟨[], []⟩ := by
  refine pc_of Tryz.func74 rfl (by kernel_rfl) _ Tryz.ntmps74 (by simp) ?_
  (repeat' (first | simp -implicitDefEqProofs only [go_sem] | (refine And.intro ?_ ?_; omega) | (refine And.intro (shr_bd ?_ ?_) ?_; omega; omega) | refine sl_list rfl ?_ | refine sd_list rfl ?_ | refine sl_str ?_ | refine sd_str ?_))
  refine callS (iPuzzleOk_c g.x hg.x) rfl rfl rfl ?_
  by_cases h1 : puzzleOk g.x = true
  · by_cases h2 : within g.h 0 1000 = true
    · by_cases h3 : within g.u 0 1000 = true
      · repeat' first
          | (first | simp -implicitDefEqProofs only [h1, h2, h3, go_sem] | (refine And.intro ?_ ?_; omega) | (refine And.intro (shr_bd ?_ ?_) ?_; omega; omega) | refine sl_list rfl ?_ | refine sd_list rfl ?_ | refine sl_str ?_ | refine sd_str ?_)
          | refine callS (within_c _ _ _) rfl rfl rfl ?_
          | refine callS (iPlayAll_c g.x.b g.x.s g.j hg.x.1 hg.j) rfl rfl rfl ?_
        exact fin_scal rfl (by simp [gameOk, h1, h2, h3])
      · repeat' first
          | (first | simp -implicitDefEqProofs only [h1, h2, h3, go_sem] | (refine And.intro ?_ ?_; omega) | (refine And.intro (shr_bd ?_ ?_) ?_; omega; omega) | refine sl_list rfl ?_ | refine sd_list rfl ?_ | refine sl_str ?_ | refine sd_str ?_)
          | refine callS (within_c _ _ _) rfl rfl rfl ?_
        exact fin_scal rfl (by simp [gameOk, h3])
    · repeat' first
        | (first | simp -implicitDefEqProofs only [h1, h2, go_sem] | (refine And.intro ?_ ?_; omega) | (refine And.intro (shr_bd ?_ ?_) ?_; omega; omega) | refine sl_list rfl ?_ | refine sd_list rfl ?_ | refine sl_str ?_ | refine sd_str ?_)
        | refine callS (within_c _ _ _) rfl rfl rfl ?_
      exact fin_scal rfl (by simp [gameOk, h2])
  · (repeat' (first | simp -implicitDefEqProofs only [h1, go_sem] | (refine And.intro ?_ ?_; omega) | (refine And.intro (shr_bd ?_ ?_) ?_; omega; omega) | refine sl_list rfl ?_ | refine sd_list rfl ?_ | refine sl_str ?_ | refine sd_str ?_))
    exact fin_scal rfl (by simp [gameOk, h1])
def nowOf (g : Gm) : Int := if gameOk g = true then playI g.x.b g.x.s g.j else -1
theorem NowOf_c (g : Gm) (hg : GmIn g) : PC Tryz.prog 72 [] [.a (gmL g)] (vN (nowOf g)) ⟨[], []⟩ := by
  refine pc_of Tryz.func72 rfl (by kernel_rfl) _ Tryz.ntmps72 (by simp) ?_
  (repeat' (first | simp -implicitDefEqProofs only [go_sem] | (refine And.intro ?_ ?_; omega) | (refine And.intro (shr_bd ?_ ?_) ?_; omega; omega) | refine sl_list rfl ?_ | refine sd_list rfl ?_ | refine sl_str ?_ | refine sd_str ?_))
  refine callS (GameOk_c g hg) rfl rfl rfl ?_
  by_cases h : gameOk g = true
  · (repeat' (first | simp -implicitDefEqProofs only [h, go_sem] | (refine And.intro ?_ ?_; omega) | (refine And.intro (shr_bd ?_ ?_) ?_; omega; omega) | refine sl_list rfl ?_ | refine sd_list rfl ?_ | refine sl_str ?_ | refine sd_str ?_))
    refine callS (PlayAll_c g.x.b g.x.s g.j hg.x.1 hg.j) rfl rfl rfl ?_
    (repeat' (first | simp -implicitDefEqProofs only [go_sem] | (refine And.intro ?_ ?_; omega) | (refine And.intro (shr_bd ?_ ?_) ?_; omega; omega) | refine sl_list rfl ?_ | refine sd_list rfl ?_ | refine sl_str ?_ | refine sd_str ?_))
    exact fin_scal rfl (by simp [nowOf, h])
  · (repeat' (first | simp -implicitDefEqProofs only [h, go_sem] | (refine And.intro ?_ ?_; omega) | (refine And.intro (shr_bd ?_ ?_) ?_; omega; omega) | refine sl_list rfl ?_ | refine sd_list rfl ?_ | refine sl_str ?_ | refine sd_str ?_))
    exact fin_scal rfl (by simp [nowOf, h])
theorem iNowOf_c (g : Gm) (hg : GmIn g) : PC Tryz.prog 28 [] [.a (gmL g)] (vN (nowOf g)) ⟨[], []⟩ := by
  refine pc_of Tryz.func28 rfl (by kernel_rfl) _ Tryz.ntmps28 (by simp) ?_
  (repeat' (first | simp -implicitDefEqProofs only [go_sem] | (refine And.intro ?_ ?_; omega) | (refine And.intro (shr_bd ?_ ?_) ?_; omega; omega) | refine sl_list rfl ?_ | refine sd_list rfl ?_ | refine sl_str ?_ | refine sd_str ?_))
  refine callS (iGameOk_c g hg) rfl rfl rfl ?_
  by_cases h : gameOk g = true
  · (repeat' (first | simp -implicitDefEqProofs only [h, go_sem] | (refine And.intro ?_ ?_; omega) | (refine And.intro (shr_bd ?_ ?_) ?_; omega; omega) | refine sl_list rfl ?_ | refine sd_list rfl ?_ | refine sl_str ?_ | refine sd_str ?_))
    refine callS (iPlayAll_c g.x.b g.x.s g.j hg.x.1 hg.j) rfl rfl rfl ?_
    (repeat' (first | simp -implicitDefEqProofs only [go_sem] | (refine And.intro ?_ ?_; omega) | (refine And.intro (shr_bd ?_ ?_) ?_; omega; omega) | refine sl_list rfl ?_ | refine sd_list rfl ?_ | refine sl_str ?_ | refine sd_str ?_))
    exact fin_scal rfl (by simp [nowOf, h])
  · (repeat' (first | simp -implicitDefEqProofs only [h, go_sem] | (refine And.intro ?_ ?_; omega) | (refine And.intro (shr_bd ?_ ?_) ?_; omega; omega) | refine sl_list rfl ?_ | refine sd_list rfl ?_ | refine sl_str ?_ | refine sd_str ?_))
    exact fin_scal rfl (by simp [nowOf, h])
def isWon (g : Gm) : Bool := gameOk g && decide (nowOf g = g.x.g)
theorem IsWon_c (g : Gm) (hg : GmIn g) : PC Tryz.prog 133 [] [.a (gmL g)] (vB (isWon g)) ⟨[], []⟩ := by
  refine pc_of Tryz.func133 rfl (by kernel_rfl) _ Tryz.ntmps133 (by simp) ?_
  simp -implicitDefEqProofs only [go_sem]
  refine draw_step Tryz.pl_follows (by kernel_rfl) ?_
  (repeat' (first | simp -implicitDefEqProofs only [go_sem] | (refine And.intro ?_ ?_; omega) | (refine And.intro (shr_bd ?_ ?_) ?_; omega; omega) | refine sl_list rfl ?_ | refine sd_list rfl ?_ | refine sl_str ?_ | refine sd_str ?_))
  refine callD (GameOk_c g hg) rfl rfl rfl ?_
  by_cases h : gameOk g = true
  · (repeat' (first | simp -implicitDefEqProofs only [h, go_sem] | (refine And.intro ?_ ?_; omega) | (refine And.intro (shr_bd ?_ ?_) ?_; omega; omega) | refine sl_list rfl ?_ | refine sd_list rfl ?_ | refine sl_str ?_ | refine sd_str ?_))
    refine callD (NowOf_c g hg) rfl rfl rfl ?_
    (repeat' (first | simp -implicitDefEqProofs only [h, go_sem] | (refine And.intro ?_ ?_; omega) | (refine And.intro (shr_bd ?_ ?_) ?_; omega; omega) | refine sl_list rfl ?_ | refine sd_list rfl ?_ | refine sl_str ?_ | refine sd_str ?_))
    exact fin_scal rfl (by simp [isWon, h])
  · (repeat' (first | simp -implicitDefEqProofs only [h, go_sem] | (refine And.intro ?_ ?_; omega) | (refine And.intro (shr_bd ?_ ?_) ?_; omega; omega) | refine sl_list rfl ?_ | refine sd_list rfl ?_ | refine sl_str ?_ | refine sd_str ?_))
    exact fin_scal rfl (by simp [isWon, h])
theorem iIsWon_c (g : Gm) (hg : GmIn g) : PC Tryz.prog 121 [] [.a (gmL g)] (vB (isWon g)) ⟨[], []⟩ := by
  refine pc_of Tryz.func121 rfl (by kernel_rfl) _ Tryz.ntmps121 (by simp) ?_
  simp -implicitDefEqProofs only [go_sem]
  refine draw_step Tryz.pl_follows (by kernel_rfl) ?_
  (repeat' (first | simp -implicitDefEqProofs only [go_sem] | (refine And.intro ?_ ?_; omega) | (refine And.intro (shr_bd ?_ ?_) ?_; omega; omega) | refine sl_list rfl ?_ | refine sd_list rfl ?_ | refine sl_str ?_ | refine sd_str ?_))
  refine callD (iGameOk_c g hg) rfl rfl rfl ?_
  by_cases h : gameOk g = true
  · (repeat' (first | simp -implicitDefEqProofs only [h, go_sem] | (refine And.intro ?_ ?_; omega) | (refine And.intro (shr_bd ?_ ?_) ?_; omega; omega) | refine sl_list rfl ?_ | refine sd_list rfl ?_ | refine sl_str ?_ | refine sd_str ?_))
    refine callD (iNowOf_c g hg) rfl rfl rfl ?_
    (repeat' (first | simp -implicitDefEqProofs only [h, go_sem] | (refine And.intro ?_ ?_; omega) | (refine And.intro (shr_bd ?_ ?_) ?_; omega; omega) | refine sl_list rfl ?_ | refine sd_list rfl ?_ | refine sl_str ?_ | refine sd_str ?_))
    exact fin_scal rfl (by simp [isWon, h])
  · (repeat' (first | simp -implicitDefEqProofs only [h, go_sem] | (refine And.intro ?_ ?_; omega) | (refine And.intro (shr_bd ?_ ?_) ?_; omega; omega) | refine sl_list rfl ?_ | refine sd_list rfl ?_ | refine sl_str ?_ | refine sd_str ?_))
    exact fin_scal rfl (by simp [isWon, h])
end Go.Proofs.YtahnbliabllflaaGreatDoor
namespace Go.Proofs.YtahnbliabllflaaGreatDoor
open Go.PL
set_option linter.unusedSimpArgs false
end Go.Proofs.YtahnbliabllflaaGreatDoor
