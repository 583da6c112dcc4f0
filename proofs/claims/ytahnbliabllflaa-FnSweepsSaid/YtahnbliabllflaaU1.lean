/-
  What the functions compute that find a line between two holes and make a jump on a board.
  What the functions compute that play a list of jumps.
  What the functions compute that judge a game and find its position.
  What the functions of the laws compute that copy and measure a game; the laws on judging a game.
-/
import Derived.Test.YtahnbliabllflaaP2
import Derived.Test.YtahnbliabllflaaGa
import Derived.Test.YtahnbliabllflaaL6
import Derived.Test.YtahnbliabllflaaN4
namespace Go.Proofs.Ytahnbliabllflaa
open Go.PL
set_option linter.unusedSimpArgs false
def between (f t : Int) (l : Ln) : Bool := decide (l.f = f) && decide (l.t = t)
def lineBetween (b : Brd) (f t : Int) : Option Ln := (linesOf b).find? (between f t)
def lineO : Option Ln → Ln
  | some l => l
  | none => ⟨0, 0, 0⟩
theorem find_at' {α : Type} {p : α → Bool} {l : List α} {i : Nat} (h : i < l.length) (hi : ∀ j (hj : j < l.length), j < i → p l[j] = false) (he : p l[i] = true) : l.find? p = some l[i] := by
  rw [List.find?_eq_some_iff_getElem]
  exact ⟨he, i, h, rfl, fun j hj => by simp [hi j (by omega) hj]⟩
theorem find_none' {α : Type} {p : α → Bool} {l : List α} (hi : ∀ j (hj : j < l.length), j < l.length → p l[j] = false) : l.find? p = none := by
  rw [List.find?_eq_none]
  intro x hx
  obtain ⟨j, hj, rfl⟩ := List.mem_iff_getElem.1 hx
  simp [hi j hj hj]
theorem no_step {α : Type} {p : α → Bool} {l : List α} {i : Nat} (h : i < l.length) (hi : ∀ j (hj : j < l.length), j < i → p l[j] = false) (he : p l[i] = false) : ∀ j (hj : j < l.length), j < i + 1 → p l[j] = false := fun j hj hlt => by
  by_cases e : j = i
  · subst e; exact he
  · exact hi j hj (by omega)
set_option maxHeartbeats 2000000 in
theorem LineBetween_c (b : Brd) (f t : Int) : PC Try.prog 64 [] [.a (brdC b), .c (.v (.int .i64 f)), .c (.v (.int .i64 t))] (.t [.a (lineC (lineO (lineBetween b f t))), .c (.v (.bool (lineBetween b f t).isSome))]) ⟨[], []⟩ := by
  refine pc_of Try.func64 rfl (by kernel_rfl) _ Try.ntmps64 (by simp) ?_
  simp -implicitDefEqProofs only [go_sem]
  refine callL (LinesOf_c 11 b) rfl rfl rfl ?_
  have hl := linesOf_len (b := b)
  simp -implicitDefEqProofs only [go_sem]
  refine loop_step (X := Nat) (fun i => ⟨39, [(1, vN f), (2, vN t), (6, .s (.c (.p 6 0))), (8, vO 11), (9, vN i)], ⟨[(6, [.v (.int .i64 0), .v (.int .i64 0), .v (.int .i64 0)])], [(11, ⟨35, 3, (linesOf b).map lineV, false, true⟩)]⟩⟩)
    (fun i => i ≤ (linesOf b).length ∧ ∀ j (hj : j < (linesOf b).length), j < i → between f t (linesOf b)[j] = false) (fun i => (linesOf b).length - i) 0 ⟨by omega, by omega⟩ (weak_of (fun i => i) (fun i => i) rfl ⟨by simp <;> omega, by simp <;> omega, by simp <;> omega, by simp <;> omega, by simp <;> omega⟩ (by simp <;> omega)) (fun i hi => ?_)
  obtain ⟨hi0, hi1⟩ := hi
  simp -implicitDefEqProofs only [go_sem]
  refine if_splitP (fun h => ?_) (fun h => ?_)
  · have hlt : i < (linesOf b).length := by omega
    have hg := map_get (f := lineV) hlt
    by_cases h1 : (linesOf b)[i].f = f
    · by_cases h2 : (linesOf b)[i].t = t
      · have e : lineBetween b f t = some (linesOf b)[i] := find_at' hlt hi1 (by simp [between, h1, h2])
        (repeat' (first | simp -implicitDefEqProofs only [hg, hlt, lineV, h1, h2, go_sem] | (refine And.intro ?_ ?_; omega) | (refine And.intro (shr_bd ?_ ?_) ?_; omega; omega) | refine sl_list rfl ?_ | refine sd_list rfl ?_ | refine sl_str ?_ | refine sd_str ?_))
        exact fin_scal rfl (by simp [e, lineO, retOf, h1, h2])
      · have e := no_step hlt hi1 (by simp [between, h2])
        (repeat' (first | simp -implicitDefEqProofs only [hg, hlt, lineV, h1, h2, go_sem] | (refine And.intro ?_ ?_; omega) | (refine And.intro (shr_bd ?_ ?_) ?_; omega; omega) | refine sl_list rfl ?_ | refine sd_list rfl ?_ | refine sl_str ?_ | refine sd_str ?_))
        exact ⟨i + 1, ⟨by omega, e⟩, by omega, weak_of (fun i => i) (fun i => i) rfl ⟨by simp <;> omega, by simp <;> omega, by simp <;> omega, by simp <;> omega, by simp <;> omega⟩ (by simp <;> omega)⟩
    · have e := no_step hlt hi1 (by simp [between, h1])
      (repeat' (first | simp -implicitDefEqProofs only [hg, hlt, lineV, h1, go_sem] | (refine And.intro ?_ ?_; omega) | (refine And.intro (shr_bd ?_ ?_) ?_; omega; omega) | refine sl_list rfl ?_ | refine sd_list rfl ?_ | refine sl_str ?_ | refine sd_str ?_))
      exact ⟨i + 1, ⟨by omega, e⟩, by omega, weak_of (fun i => i) (fun i => i) rfl ⟨by simp <;> omega, by simp <;> omega, by simp <;> omega, by simp <;> omega, by simp <;> omega⟩ (by simp <;> omega)⟩
  · have hle : i = (linesOf b).length := by omega
    subst hle
    have e : lineBetween b f t = none := find_none' hi1
    (repeat' (first | simp -implicitDefEqProofs only [go_sem] | (refine And.intro ?_ ?_; omega) | (refine And.intro (shr_bd ?_ ?_) ?_; omega; omega) | refine sl_list rfl ?_ | refine sd_list rfl ?_ | refine sl_str ?_ | refine sd_str ?_))
    exact fin_scal rfl (by simp [e, lineO, retOf])
def sameLn (m l : Ln) : Bool := decide (m.f = l.f ∧ m.o = l.o ∧ m.t = l.t)
def isLine (b : Brd) (l : Ln) : Bool := (lineBetween b l.f l.t).isSome && sameLn (lineO (lineBetween b l.f l.t)) l
theorem isLine_mem {b : Brd} {l : Ln} (h : isLine b l = true) : l ∈ linesOf b := by
  simp only [isLine, sameLn, Bool.and_eq_true, decide_eq_true_eq] at h
  obtain ⟨h1, h2, h3, h4⟩ := h
  cases hf : lineBetween b l.f l.t with
  | none => rw [hf] at h1; cases h1
  | some m =>
    rw [hf] at h2 h3 h4
    have hm := List.mem_of_find?_eq_some hf
    have : m = l := by cases m; cases l; simp only [lineO] at h2 h3 h4; simp [h2, h3, h4]
    rw [← this]; exact hm
theorem l05Is_c (b : Brd) (l : Ln) : PC Try.prog 63 [] [.a (brdC b), .a (lineC l)] (vB (isLine b l)) ⟨[], []⟩ := by
  refine pc_of Try.func63 rfl (by kernel_rfl) _ Try.ntmps63 (by simp) ?_
  (repeat' (first | simp -implicitDefEqProofs only [go_sem] | (refine And.intro ?_ ?_; omega) | (refine And.intro (shr_bd ?_ ?_) ?_; omega; omega) | refine sl_list rfl ?_ | refine sd_list rfl ?_ | refine sl_str ?_ | refine sd_str ?_))
  refine callS (LineBetween_c b l.f l.t) rfl rfl rfl ?_
  by_cases h : (lineBetween b l.f l.t).isSome = true
  · (repeat' (first | simp -implicitDefEqProofs only [h, go_sem] | (refine And.intro ?_ ?_; omega) | (refine And.intro (shr_bd ?_ ?_) ?_; omega; omega) | refine sl_list rfl ?_ | refine sd_list rfl ?_ | refine sl_str ?_ | refine sd_str ?_))
    refine eq_ints3 (by kernel_rfl) ?_
    (repeat' (first | simp -implicitDefEqProofs only [h, go_sem] | (refine And.intro ?_ ?_; omega) | (refine And.intro (shr_bd ?_ ?_) ?_; omega; omega) | refine sl_list rfl ?_ | refine sd_list rfl ?_ | refine sl_str ?_ | refine sd_str ?_))
    exact fin_scal rfl (by simp [isLine, h, sameLn])
  · (repeat' (first | simp -implicitDefEqProofs only [h, go_sem] | (refine And.intro ?_ ?_; omega) | (refine And.intro (shr_bd ?_ ?_) ?_; omega; omega) | refine sl_list rfl ?_ | refine sd_list rfl ?_ | refine sl_str ?_ | refine sd_str ?_))
    exact fin_scal rfl (by simp [isLine, h])
def canDo (b : Brd) (p : Int) (l : Ln) : Bool := positionOk b p && (isLine b l && canJ p l)
theorem pos_le {b : Brd} {p : Int} (h : positionOk b p = true) : p ≤ 562949953421311 := by
  obtain ⟨hb, p0, hs⟩ := pos_sub h
  have n3 := (bok hb).n3
  have h2 : p.toNat &&& b.n.toNat ≤ b.n.toNat := Nat.and_le_right
  rw [sub_and hs] at h2
  omega
set_option maxHeartbeats 2000000 in
theorem CanJump_c (b : Brd) (p : Int) (l : Ln) (p2 : p ≤ 9223372036854775807) : PC Try.prog 57 [] [.a (brdC b), .c (.v (.int .i64 p)), .a (lineC l)] (vB (canDo b p l)) ⟨[], []⟩ := by
  refine pc_of Try.func57 rfl (by kernel_rfl) _ Try.ntmps57 (by simp) ?_
  simp -implicitDefEqProofs only [go_sem]
  refine draw_step Try.pl_follows (by kernel_rfl) ?_
  (repeat' (first | simp -implicitDefEqProofs only [go_sem] | (refine And.intro ?_ ?_; omega) | (refine And.intro (shr_bd ?_ ?_) ?_; omega; omega) | refine sl_list rfl ?_ | refine sd_list rfl ?_ | refine sl_str ?_ | refine sd_str ?_))
  refine callD (PositionOk_c b p p2) rfl rfl rfl ?_
  by_cases h1 : positionOk b p = true
  · (repeat' (first | simp -implicitDefEqProofs only [h1, go_sem] | (refine And.intro ?_ ?_; omega) | (refine And.intro (shr_bd ?_ ?_) ?_; omega; omega) | refine sl_list rfl ?_ | refine sd_list rfl ?_ | refine sl_str ?_ | refine sd_str ?_))
    refine callD (l05Is_c b l) rfl rfl rfl ?_
    by_cases h2 : isLine b l = true
    · have hm := isLine_mem h2
      have hln := lnIn hm
      obtain ⟨hne0, hne1, hne2⟩ := line_ne hm
      obtain ⟨hb, p0, hs⟩ := pos_sub h1
      have hbl := bitsL_le hln
      have q1 := pow48 hln.f0 hln.f1
      have q2 := pow48 hln.o0 hln.o1
      have q3 := or63 (a := 2 ^ l.f.toNat) (c := 2 ^ l.o.toNat) (by omega) (by omega)
      have hc := can_and p0 hln hne1 hne2
      have f0 := hln.f0
      have f1 := hln.f1
      have o0 := hln.o0
      have o1 := hln.o1
      (repeat' (first | simp -implicitDefEqProofs only [h1, h2, go_sem] | (refine And.intro ?_ ?_; omega) | (refine And.intro (shr_bd ?_ ?_) ?_; omega; omega) | refine sl_list rfl ?_ | refine sd_list rfl ?_ | refine sl_str ?_ | refine sd_str ?_))
      refine callD (l05Bits_c l hln) rfl rfl rfl ?_
      by_cases h3 : canJ p l = true
      · have e1 : (((p.toNat &&& bitsL l : Nat) : Int) = ((2 ^ l.f.toNat ||| 2 ^ l.o.toNat : Nat) : Int)) = True := eq_true (by rw [hc.2 h3])
        (repeat' (first | simp -implicitDefEqProofs only [h1, h2, e1, go_sem] | (refine And.intro ?_ ?_; omega) | (refine And.intro (shr_bd ?_ ?_) ?_; omega; omega) | refine sl_list rfl ?_ | refine sd_list rfl ?_ | refine sl_str ?_ | refine sd_str ?_))
        exact fin_scal rfl (by simp [canDo, h1, h2, h3])
      · have e1 : (((p.toNat &&& bitsL l : Nat) : Int) = ((2 ^ l.f.toNat ||| 2 ^ l.o.toNat : Nat) : Int)) = False := eq_false (fun h => h3 (hc.1 (by omega)))
        (repeat' (first | simp -implicitDefEqProofs only [h1, h2, e1, go_sem] | (refine And.intro ?_ ?_; omega) | (refine And.intro (shr_bd ?_ ?_) ?_; omega; omega) | refine sl_list rfl ?_ | refine sd_list rfl ?_ | refine sl_str ?_ | refine sd_str ?_))
        exact fin_scal rfl (by simp [canDo, h3])
    · (repeat' (first | simp -implicitDefEqProofs only [h1, h2, go_sem] | (refine And.intro ?_ ?_; omega) | (refine And.intro (shr_bd ?_ ?_) ?_; omega; omega) | refine sl_list rfl ?_ | refine sd_list rfl ?_ | refine sl_str ?_ | refine sd_str ?_))
      exact fin_scal rfl (by simp [canDo, h2])
  · (repeat' (first | simp -implicitDefEqProofs only [h1, go_sem] | (refine And.intro ?_ ?_; omega) | (refine And.intro (shr_bd ?_ ?_) ?_; omega; omega) | refine sl_list rfl ?_ | refine sd_list rfl ?_ | refine sl_str ?_ | refine sd_str ?_))
    exact fin_scal rfl (by simp [canDo, h1])
def doJ (b : Brd) (p : Int) (l : Ln) : Int := if canDo b p l = true then flip p l else p
theorem DoJump_c (b : Brd) (p : Int) (l : Ln) (p2 : p ≤ 9223372036854775807) : PC Try.prog 43 [] [.a (brdC b), .c (.v (.int .i64 p)), .a (lineC l)] (.t [.c (.v (.int .i64 (doJ b p l))), .c (.v (.bool (canDo b p l)))]) ⟨[], []⟩ := by
  refine pc_of Try.func43 rfl (by kernel_rfl) _ Try.ntmps43 (by simp) ?_
  (repeat' (first | simp -implicitDefEqProofs only [go_sem] | (refine And.intro ?_ ?_; omega) | (refine And.intro (shr_bd ?_ ?_) ?_; omega; omega) | refine sl_list rfl ?_ | refine sd_list rfl ?_ | refine sl_str ?_ | refine sd_str ?_))
  refine callS (CanJump_c b p l p2) rfl rfl rfl ?_
  by_cases h : canDo b p l = true
  · have h' := h
    simp only [canDo, Bool.and_eq_true] at h'
    have hln := lnIn (isLine_mem h'.2.1)
    obtain ⟨hb, p0, hs⟩ := pos_sub h'.1
    have hbl := bitsL_le hln
    have q5 := xor63 (a := p.toNat) (c := bitsL l) (by omega) (by omega)
    (repeat' (first | simp -implicitDefEqProofs only [h, go_sem] | (refine And.intro ?_ ?_; omega) | (refine And.intro (shr_bd ?_ ?_) ?_; omega; omega) | refine sl_list rfl ?_ | refine sd_list rfl ?_ | refine sl_str ?_ | refine sd_str ?_))
    refine callS (l05Bits_c l hln) rfl rfl rfl ?_
    (repeat' (first | simp -implicitDefEqProofs only [go_sem] | (refine And.intro ?_ ?_; omega) | (refine And.intro (shr_bd ?_ ?_) ?_; omega; omega) | refine sl_list rfl ?_ | refine sd_list rfl ?_ | refine sl_str ?_ | refine sd_str ?_))
    exact fin_scal rfl (by simp [doJ, h, flip])
  · (repeat' (first | simp -implicitDefEqProofs only [h, go_sem] | (refine And.intro ?_ ?_; omega) | (refine And.intro (shr_bd ?_ ?_) ?_; omega; omega) | refine sl_list rfl ?_ | refine sd_list rfl ?_ | refine sl_str ?_ | refine sd_str ?_))
    exact fin_scal rfl (by simp [doJ, h])
theorem do_pos {b : Brd} {p : Int} {l : Ln} (h : canDo b p l = true) : positionOk b (flip p l) = true := by
  have h' := h
  simp only [canDo, Bool.and_eq_true] at h'
  obtain ⟨hb, p0, hs⟩ := pos_sub h'.1
  have ha : able false p.toNat l = true := by simp only [able, Bool.false_eq_true, if_false]; rw [Int.toNat_of_nonneg p0]; exact h'.2.2
  exact sub_pos hb (rch_sub hs (.step _ l .refl (isLine_mem h'.2.1) ha))
end Go.Proofs.Ytahnbliabllflaa
namespace Go.Proofs.Ytahnbliabllflaa
open Go.PL
set_option linter.unusedSimpArgs false
def playF (b : Brd) : Int → List Ln → Option Int
  | q, [] => some q
  | q, l :: ls => if canDo b q l = true then playF b (flip q l) ls else none
def playAll (b : Brd) (p : Int) (ls : List Ln) : Option Int := if positionOk b p = true ∧ ls.length ≤ 60 then playF b p ls else none
def playI (b : Brd) (p : Int) (ls : List Ln) : Int := (playAll b p ls).getD p
theorem playF_step {b : Brd} {q : Int} {ls : List Ln} {i : Nat} (h : i < ls.length) (hc : canDo b q ls[i] = true) : playF b q (ls.drop i) = playF b (flip q ls[i]) (ls.drop (i + 1)) := by
  rw [List.drop_eq_getElem_cons h, playF, if_pos hc]
theorem playF_no {b : Brd} {q : Int} {ls : List Ln} {i : Nat} (h : i < ls.length) (hc : canDo b q ls[i] = false) : playF b q (ls.drop i) = none := by
  rw [List.drop_eq_getElem_cons h, playF, if_neg (by simp [hc])]
theorem playF_end {b : Brd} {q : Int} {ls : List Ln} : playF b q (ls.drop ls.length) = some q := by rw [List.drop_length]; rfl
theorem playF_pos {b : Brd} : ∀ {ls : List Ln} {p q : Int}, positionOk b p = true → playF b p ls = some q → positionOk b q = true
  | [], p, q, hp, h => by simp only [playF, Option.some.injEq] at h; rw [← h]; exact hp
  | l :: ls, p, q, hp, h => by
    simp only [playF] at h
    split at h
    · rename_i hc; exact playF_pos (do_pos hc) h
    · cases h
set_option maxHeartbeats 4000000 in
theorem PlayAll_c (b : Brd) (p : Int) (ls : List Ln) (p2 : p ≤ 9223372036854775807) (hn : ls.length ≤ 9223372036854775806) : PC Try.prog 26 [] [.a (brdC b), .c (.v (.int .i64 p)), .c (.l 3 (ls.map lineV))] (.t [.c (.v (.int .i64 (playI b p ls))), .c (.v (.bool (playAll b p ls).isSome))]) ⟨[], []⟩ := by
  refine pc_of Try.func26 rfl (by kernel_rfl) _ Try.ntmps26 (by simp) ?_
  (repeat' (first | simp -implicitDefEqProofs only [go_sem] | (refine And.intro ?_ ?_; omega) | (refine And.intro (shr_bd ?_ ?_) ?_; omega; omega) | refine sl_list rfl ?_ | refine sd_list rfl ?_ | refine sl_str ?_ | refine sd_str ?_))
  refine loop_step (X := Nat × Int) (fun x => ⟨44, [(1, vN p), (2, vL 3 (ls.map lineV)), (3, .s (.c (.p 3 0))), (8, vN x.2), (9, vN x.1)], ⟨[(3, brdC b)], []⟩⟩)
    (fun x => x.1 ≤ ls.length ∧ (x.1 = 0 → x.2 = p) ∧ (0 < x.1 → positionOk b p = true ∧ ls.length ≤ 60) ∧ x.2 ≤ 9223372036854775807 ∧ playF b p ls = playF b x.2 (ls.drop x.1)) (fun x => ls.length - x.1) (0, p) ⟨by simp, fun _ => rfl, by simp, p2, by simp⟩ (weak_of (fun i => i) (fun i => i) rfl ⟨by simp <;> omega, by simp <;> omega, by simp <;> omega, by simp <;> omega, by simp <;> omega⟩ (by simp <;> omega)) (fun x hx => ?_)
  obtain ⟨i, q⟩ := x
  obtain ⟨hi, hi0, hi1, hq, hpl⟩ := hx
  simp only at hi hi0 hi1 hq hpl
  simp -implicitDefEqProofs only [go_sem]
  refine if_splitP (fun h => ?_) (fun h => ?_)
  · have hlt : i < ls.length := by omega
    have hg := map_get (f := lineV) hlt
    simp -implicitDefEqProofs only [go_sem]
    refine draw_step Try.pl_follows (by kernel_rfl) ?_
    (repeat' (first | simp -implicitDefEqProofs only [hg, hlt, lineV, go_sem] | (refine And.intro ?_ ?_; omega) | (refine And.intro (shr_bd ?_ ?_) ?_; omega; omega) | refine sl_list rfl ?_ | refine sd_list rfl ?_ | refine sl_str ?_ | refine sd_str ?_))
    refine callD (DoJump_c b q ls[i] hq) rfl rfl rfl ?_
    by_cases hc : canDo b q ls[i] = true
    · have hd : doJ b q ls[i] = flip q ls[i] := by simp [doJ, hc]
      have hpq : positionOk b q = true := by simp only [canDo, Bool.and_eq_true] at hc; exact hc.1
      have hpp : positionOk b p = true := by
        by_cases e : i = 0
        · rw [← hi0 e]; exact hpq
        · exact (hi1 (by omega)).1
      have hst := playF_step hlt hc
      have hle := pos_le (do_pos hc)
      by_cases h60 : (60 : Int) < ls.length
      · have e : playAll b p ls = none := by
          have : ¬ ls.length ≤ 60 := by omega
          simp [playAll, this]
        (repeat' (first | simp -implicitDefEqProofs only [hc, h60, go_sem] | (refine And.intro ?_ ?_; omega) | (refine And.intro (shr_bd ?_ ?_) ?_; omega; omega) | refine sl_list rfl ?_ | refine sd_list rfl ?_ | refine sl_str ?_ | refine sd_str ?_))
        exact fin_scal rfl (by simp [playI, e])
      · (repeat' (first | simp -implicitDefEqProofs only [hc, h60, hd, go_sem] | (refine And.intro ?_ ?_; omega) | (refine And.intro (shr_bd ?_ ?_) ?_; omega; omega) | refine sl_list rfl ?_ | refine sd_list rfl ?_ | refine sl_str ?_ | refine sd_str ?_))
        exact ⟨(i + 1, flip q ls[i]), ⟨by simp only; omega, by simp, fun _ => ⟨hpp, by omega⟩, by simp only; omega, by simp only; rw [hpl, hst]⟩, by simp only; omega, weak_of (fun i => i) (fun i => i) rfl ⟨by simp <;> omega, by simp <;> omega, by simp <;> omega, by simp <;> omega, by simp <;> omega⟩ (by simp <;> omega)⟩
    · have e : playAll b p ls = none := by
        unfold playAll
        split
        · rw [hpl]; exact playF_no hlt (by simpa using hc)
        · rfl
      (repeat' (first | simp -implicitDefEqProofs only [hc, go_sem] | (refine And.intro ?_ ?_; omega) | (refine And.intro (shr_bd ?_ ?_) ?_; omega; omega) | refine sl_list rfl ?_ | refine sd_list rfl ?_ | refine sl_str ?_ | refine sd_str ?_))
      exact fin_scal rfl (by simp [playI, e])
  · have hle : i = ls.length := by omega
    subst hle
    (repeat' (first | simp -implicitDefEqProofs only [go_sem] | (refine And.intro ?_ ?_; omega) | (refine And.intro (shr_bd ?_ ?_) ?_; omega; omega) | refine sl_list rfl ?_ | refine sd_list rfl ?_ | refine sl_str ?_ | refine sd_str ?_))
    refine callS (PositionOk_c b p p2) rfl rfl rfl ?_
    rw [playF_end] at hpl
    by_cases hp : positionOk b p = true
    · have h60 : ls.length ≤ 60 := by
        by_cases e : ls.length = 0
        · omega
        · exact (hi1 (by omega)).2
      have e : playAll b p ls = some q := by simp [playAll, hp, h60, hpl]
      (repeat' (first | simp -implicitDefEqProofs only [hp, go_sem] | (refine And.intro ?_ ?_; omega) | (refine And.intro (shr_bd ?_ ?_) ?_; omega; omega) | refine sl_list rfl ?_ | refine sd_list rfl ?_ | refine sl_str ?_ | refine sd_str ?_))
      exact fin_scal rfl (by simp [playI, e])
    · have e : playAll b p ls = none := by simp [playAll, hp]
      (repeat' (first | simp -implicitDefEqProofs only [hp, go_sem] | (refine And.intro ?_ ?_; omega) | (refine And.intro (shr_bd ?_ ?_) ?_; omega; omega) | refine sl_list rfl ?_ | refine sd_list rfl ?_ | refine sl_str ?_ | refine sd_str ?_))
      exact fin_scal rfl (by simp [playI, e])
end Go.Proofs.Ytahnbliabllflaa
namespace Go.Proofs.Ytahnbliabllflaa
open Go.PL
set_option linter.unusedSimpArgs false
structure GmIn (g : Gm) : Prop where
  x : pzIn g.x
  j : g.j.length ≤ 9223372036854775806
def gameOk (g : Gm) : Bool := puzzleOk g.x && (within g.h 0 1000 && (within g.u 0 1000 && (playAll g.x.b g.x.s g.j).isSome))
def nowOf (g : Gm) : Int := if gameOk g = true then playI g.x.b g.x.s g.j else -1
def isWon (g : Gm) : Bool := gameOk g && decide (nowOf g = g.x.g)
/-! ### the laws' own functions -/
end Go.Proofs.Ytahnbliabllflaa
namespace Go.Proofs.Ytahnbliabllflaa
open Go.PL
set_option linter.unusedSimpArgs false
theorem gm_of {cs : List C} (h : All2 TC [.z (.i .i64), .z (.i .i64), .z (.i .i64), .z (.i .i64), .z (.i .i64), .l 3 true [.i .i64, .i .i64, .i .i64], .z (.i .i64), .z (.i .i64)] cs) : ∃ g : Gm, cs = gmL g ∧ pzIn g.x ∧ g.j.length ≤ maxLen := by
  obtain ⟨c1, r1, rfl, h1, g1⟩ := all2_cons h
  obtain ⟨c2, r2, rfl, h2, g2⟩ := all2_cons g1
  obtain ⟨c3, r3, rfl, h3, g3⟩ := all2_cons g2
  obtain ⟨c4, r4, rfl, h4, g4⟩ := all2_cons g3
  obtain ⟨c5, r5, rfl, h5, g5⟩ := all2_cons g4
  obtain ⟨c6, r6, rfl, h6, g6⟩ := all2_cons g5
  obtain ⟨c7, r7, rfl, h7, g7⟩ := all2_cons g6
  obtain ⟨c8, r8, rfl, h8, g8⟩ := all2_cons g7
  obtain rfl := all2_nil g8
  obtain ⟨a, rfl, _⟩ := tc_i h1
  obtain ⟨b, rfl, _⟩ := tc_i h2
  obtain ⟨c, rfl, _⟩ := tc_i h3
  obtain ⟨s, rfl, i4⟩ := tc_i h4
  obtain ⟨g, rfl, i5⟩ := tc_i h5
  obtain ⟨hh, rfl, i7⟩ := tc_i h7
  obtain ⟨uu, rfl, i8⟩ := tc_i h8
  obtain ⟨xs, rfl, hl, hx⟩ := tc_l h6
  have lin : ∀ x ∈ xs, ∃ l : Ln, x = lineV l := fun x hm => by
    obtain ⟨cs, rfl, h⟩ := hx x hm
    obtain ⟨c1, r1, rfl, ⟨a, rfl, ha⟩, h1⟩ := all2_cons h
    obtain ⟨c2, r2, rfl, ⟨b, rfl, hb⟩, h2⟩ := all2_cons h1
    obtain ⟨c3, r3, rfl, ⟨c, rfl, hc⟩, h3⟩ := all2_cons h2
    obtain rfl := all2_nil h3
    exact ⟨⟨a, b, c⟩, rfl⟩
  obtain ⟨ls, rfl, _⟩ := list_of lineV (fun _ => True) (xs := xs) (fun x hm => by obtain ⟨l, e⟩ := lin x hm; exact ⟨l, e, trivial⟩)
  rw [inK_i64] at i4 i5
  exact ⟨⟨⟨⟨a, b, c⟩, s, g⟩, ls, hh, uu⟩, rfl, ⟨i4.2, i5.2⟩, by simpa using hl⟩
end Go.Proofs.Ytahnbliabllflaa
