/-
  Draws of starts, of jumps played, of puzzles.
-/
import Derived.Test.YtahnbliabllflaaD3
import Derived.Test.YtahnbliabllflaaR1
namespace Go.Proofs.Ytahnbliabllflaa
open Go.PL
set_option linter.unusedSimpArgs false
theorem small_ok {b : Brd} (hs : isSmall b = true) : boardOk b = true := by
  simp only [isSmall, Bool.and_eq_true] at hs
  exact hs.1
theorem line_uniq {b : Brd} {l m : Ln} (h : l ∈ linesOf b) (h' : m ∈ linesOf b) (ef : l.f = m.f) (et : l.t = m.t) : l.o = m.o := by
  obtain ⟨way, h0, h3, hf, ho, ht, eo, et1⟩ := line_at h
  obtain ⟨way', h0', h3', hf', ho', ht', eo', et1'⟩ := line_at h'
  have hb := (hole_bd hf).1
  obtain ⟨c1, c2, _, _⟩ := step_coord hb (k := l.f) (way := way) (by omega)
  obtain ⟨e1, e2, _, _⟩ := step_coord hb (k := l.o) (way := way) (by omega)
  obtain ⟨c1', c2', _, _⟩ := step_coord hb (k := m.f) (way := way') (by omega)
  obtain ⟨e1', e2', _, _⟩ := step_coord hb (k := m.o) (way := way') (by omega)
  rw [← eo] at c1 c2
  rw [← et1] at e1 e2
  rw [← eo'] at c1' c2'
  rw [← et1'] at e1' e2'
  rw [← ef] at c1' c2'
  rw [← et] at e1' e2'
  exact eq_of_coord (w := b.w) (by omega) (by omega)
theorem mem_isLine {b : Brd} {l : Ln} (h : l ∈ linesOf b) : isLine b l = true := by
  have hs : (lineBetween b l.f l.t).isSome = true := by
    simp only [lineBetween, List.find?_isSome]
    exact ⟨l, h, by simp [between]⟩
  obtain ⟨m, hm⟩ := Option.isSome_iff_exists.1 hs
  have hmem : m ∈ linesOf b := List.mem_of_find?_eq_some hm
  have hb : between l.f l.t m = true := List.find?_some hm
  simp only [between, Bool.and_eq_true, decide_eq_true_eq] at hb
  have ho := line_uniq hmem h hb.1 hb.2
  simp [isLine, hs, hm, lineO, sameLn, hb.1, hb.2, ho]
theorem jumps_can {b : Brd} {p : Int} {l : Ln} (h : l ∈ jumpsOf b p) : canDo b p l = true := by
  obtain ⟨h1, h2, h3⟩ := jumps_mem h
  simp [canDo, h1, h3, mem_isLine h2]
theorem playF_snoc {b : Brd} {l : Ln} : ∀ {ls : List Ln} {p q : Int}, playF b p ls = some q → canDo b q l = true → playF b p (ls ++ [l]) = some (flip q l)
  | [], p, q, h, hc => by simp only [playF, Option.some.injEq] at h; subst h; simp [playF, hc]
  | m :: ls, p, q, h, hc => by
    simp only [playF, List.cons_append] at h ⊢
    split at h
    · rename_i hm
      rw [if_pos hm]
      exact playF_snoc h hc
    · cases h
theorem l14Start_ex {B : Bs} (c : Cr B) : ∃ (b : Brd) (q : Nat), isSmall b = true ∧ Sub b q ∧ Drw 29 c [] (.t [.a (brdC b), .c (.v (.int .i64 q))]) := by
  obtain ⟨b0, hs, c1, p1⟩ := l02Small_ex c
  by_cases h13 : 13 < (holesOf b0).length
  · have g0 : (13 : Int) < ((holesOf b0).length : Int) := by omega
    have hr := rect_small (w := 4) (h := 3) (by omega) (by omega) (by omega) (by omega) (by omega)
    obtain ⟨q, hq, c2, p2⟩ := l06Start_ex c1 (small_ok hr)
    refine ⟨rect 4 3, q, hr, hq, c2, ?_⟩
    refine pc_of Try.func29 rfl (by kernel_rfl) _ Try.ntmps29 (by simp) ?_
    repeat' first
      | (first | simp -implicitDefEqProofs only [g0, go_sem] | (refine And.intro ?_ ?_; omega) | (refine And.intro (shr_bd ?_ ?_) ?_; omega; omega) | refine sl_list rfl ?_ | refine sd_list rfl ?_ | refine sl_str ?_ | refine sd_str ?_)
      | refine callC p1 rfl rfl rfl rfl rfl ?_
      | refine callS (dCount_c b0) rfl rfl rfl ?_
      | refine callS (Rect_c (w := 4) (h := 3) (by omega) (by omega) (by omega) (by omega)) rfl rfl rfl ?_
      | refine callC p2 rfl rfl rfl rfl rfl ?_
      | refine draw_stepY Try.pl_follows (by kernel_rfl) ?_
    exact fin_of (fun i => i) (fun i => i) ⟨by simp <;> omega, by simp <;> omega, by simp <;> omega, by simp <;> omega, by simp <;> omega⟩ (by simp <;> omega) rfl
  · have g0 : ¬ (13 : Int) < ((holesOf b0).length : Int) := by omega
    obtain ⟨q, hq, c2, p2⟩ := l06Start_ex c1 (small_ok hs)
    refine ⟨b0, q, hs, hq, c2, ?_⟩
    refine pc_of Try.func29 rfl (by kernel_rfl) _ Try.ntmps29 (by simp) ?_
    repeat' first
      | (first | simp -implicitDefEqProofs only [g0, go_sem] | (refine And.intro ?_ ?_; omega) | (refine And.intro (shr_bd ?_ ?_) ?_; omega; omega) | refine sl_list rfl ?_ | refine sd_list rfl ?_ | refine sl_str ?_ | refine sd_str ?_)
      | refine callC p1 rfl rfl rfl rfl rfl ?_
      | refine callS (dCount_c b0) rfl rfl rfl ?_
      | refine callC p2 rfl rfl rfl rfl rfl ?_
      | refine draw_stepY Try.pl_follows (by kernel_rfl) ?_
    exact fin_of (fun i => i) (fun i => i) ⟨by simp <;> omega, by simp <;> omega, by simp <;> omega, by simp <;> omega, by simp <;> omega⟩ (by simp <;> omega) rfl
/-- jumps played one after another -/
noncomputable def playL {B : Bs} (b : Brd) : Nat → Int × List Ln × Cr B → Int × List Ln × Cr B
  | 0, s => s
  | k + 1, s => if (jumpsOf b s.1).length = 0 then s else
      playL b k (doJ b s.1 ((jumpsOf b s.1)[(belN s.2.2 (jumpsOf b s.1).length).toNat]?.getD ⟨0, 0, 0⟩), s.2.1 ++ [(jumpsOf b s.1)[(belN s.2.2 (jumpsOf b s.1).length).toNat]?.getD ⟨0, 0, 0⟩], belC s.2.2 (jumpsOf b s.1).length)
structure PlOk (b : Brd) (p0 : Int) {B : Bs} (i : Nat) (s : Int × List Ln × Cr B) : Prop where
  pos : positionOk b s.1 = true
  ply : playF b p0 s.2.1 = some s.1
  len : s.2.1.length ≤ i
theorem pl_step {B : Bs} {b : Brd} {p0 : Int} {i : Nat} {s : Int × List Ln × Cr B} (h : PlOk b p0 i s) {l : Ln} (hl : l ∈ jumpsOf b s.1) (c' : Cr B) : PlOk b p0 (i + 1) (doJ b s.1 l, s.2.1 ++ [l], c') := by
  have hc := jumps_can hl
  have e : doJ b s.1 l = flip s.1 l := by simp [doJ, hc]
  exact ⟨by simp only [e]; exact do_pos hc, by simp only [e]; exact playF_snoc h.ply hc, by simp; exact h.len⟩
theorem playL_ok {B : Bs} {b : Brd} {p0 : Int} : ∀ (k i : Nat) (s : Int × List Ln × Cr B), PlOk b p0 i s → PlOk b p0 (i + k) (playL b k s)
  | 0, _, _, h => h
  | k + 1, i, s, h => by
    simp only [playL]
    split
    · exact ⟨h.pos, h.ply, by have := h.len; omega⟩
    · rename_i h0
      have b1 := bel_rg s.2.2 (n := (jumpsOf b s.1).length) (by omega)
      have hi : (belN s.2.2 (jumpsOf b s.1).length).toNat < (jumpsOf b s.1).length := by omega
      have e : (jumpsOf b s.1)[(belN s.2.2 (jumpsOf b s.1).length).toNat]?.getD ⟨0, 0, 0⟩ = (jumpsOf b s.1)[(belN s.2.2 (jumpsOf b s.1).length).toNat] := by rw [List.getElem?_eq_getElem hi]; rfl
      rw [e]
      have := playL_ok k (i + 1) _ (pl_step h (List.getElem_mem hi) (belC s.2.2 (jumpsOf b s.1).length))
      have e2 : i + (k + 1) = i + 1 + k := by omega
      rw [e2]; exact this
set_option maxHeartbeats 8000000 in
theorem l06Play_ex {B : Bs} (c : Cr B) {b : Brd} {p : Int} (hp : positionOk b p = true) (n : Int) (hn : n ≤ 9000) :
    ∃ (ls : List Ln) (q : Int), playF b p ls = some q ∧ ls.length ≤ n.toNat ∧ Drw 33 c [.a (brdC b), .c (.v (.int .i64 p)), .c (.v (.int .i64 n))] (.s (.c (.l 3 (ls.map lineV)))) := by
  obtain ⟨F, eF⟩ : ∃ F, F = playL b n.toNat (p, [], c) := ⟨_, rfl⟩
  have hF : PlOk b p (0 + n.toNat) F := by rw [eF]; exact playL_ok _ 0 _ ⟨hp, rfl, by simp⟩
  refine ⟨F.2.1, F.1, hF.ply, by have := hF.len; omega, F.2.2, ?_⟩
  refine pc_of Try.func33 rfl (by kernel_rfl) _ Try.ntmps33 (by simp) ?_
  (repeat' (first | simp -implicitDefEqProofs only [go_sem] | (refine And.intro ?_ ?_; omega) | (refine And.intro (shr_bd ?_ ?_) ?_; omega; omega) | refine sl_list rfl ?_ | refine sd_list rfl ?_ | refine sl_str ?_ | refine sd_str ?_))
  refine loop_step (X := Nat × Int × List Ln × Cr B) (fun x => ⟨44, [(0, .s (.c (.p 9000 0))), (5, .s (.c (.p 5 0))), (2, vN x.2.1), (3, vN n), (9, vO 13), (10, vN x.1)], ⟨[(9000, crC x.2.2.2), (5, brdC b)], [(13, ⟨35, 3, x.2.2.1.map lineV, true, true⟩)]⟩⟩)
    (fun x => x.1 ≤ n.toNat ∧ PlOk b p x.1 x.2 ∧ playL b (n.toNat - x.1) x.2 = F) (fun x => n.toNat - x.1) (0, p, [], c) ⟨by simp, ⟨hp, rfl, by simp⟩, by simp [eF]⟩ (weak_pub (by simp -implicitDefEqProofs only [go_sem]; exact weak_of (fun i => i) (fun i => i) rfl ⟨by simp <;> omega, by simp <;> omega, by simp <;> omega, by simp <;> omega, by simp <;> omega⟩ (by simp <;> omega))) (fun x hx => ?_)
  obtain ⟨i, q, ls, d⟩ := x
  obtain ⟨hx1, hx2, hx3⟩ := hx
  have hq := pos_le hx2.pos
  have hjl := jumps_len (b := b) (p := q)
  have hll := hx2.len
  simp only at hx1 hx3 hq hll
  by_cases hlt : (i : Int) < n
  · have hk : n.toNat - i = (n.toNat - (i + 1)) + 1 := by omega
    rw [hk] at hx3
    by_cases h0 : (jumpsOf b q).length = 0
    · have g0 : ((jumpsOf b q).length : Int) = 0 := by omega
      simp only [playL, if_pos h0] at hx3
      repeat' first
        | (first | simp -implicitDefEqProofs only [hlt, g0, go_sem] | (refine And.intro ?_ ?_; omega) | (refine And.intro (shr_bd ?_ ?_) ?_; omega; omega) | refine sl_list rfl ?_ | refine sd_list rfl ?_ | refine sl_str ?_ | refine sd_str ?_)
        | refine callL1 (fun d => JumpsOf_c d b q (by omega)) rfl rfl rfl ?_
      subst hx3
      refine fin_see ?_
      simp -implicitDefEqProofs only [go_sem]
      exact fin_of (fun i => i) (fun i => i) ⟨by simp <;> omega, by simp <;> omega, by simp <;> omega, by simp <;> omega, by simp <;> omega⟩ (by simp <;> omega) rfl
    · have g0 : ¬ ((jumpsOf b q).length : Int) = 0 := by omega
      have b1 := bel_rg d (n := (jumpsOf b q).length) (by omega)
      obtain ⟨j, ej⟩ : ∃ j : Nat, belN d (jumpsOf b q).length = j := ⟨(belN d (jumpsOf b q).length).toNat, by omega⟩
      have hj : j < (jumpsOf b q).length := by omega
      have e : (jumpsOf b q)[(belN d (jumpsOf b q).length).toNat]?.getD ⟨0, 0, 0⟩ = (jumpsOf b q)[j] := by rw [ej, Int.toNat_natCast, List.getElem?_eq_getElem hj]; rfl
      simp only [playL, if_neg h0, e] at hx3
      have hst := pl_step hx2 (List.getElem_mem hj) (belC d (jumpsOf b q).length)
      have h1 := map_get (f := lineV) hj
      generalize (jumpsOf b q)[j] = l at h1 hx3 hst
      simp only at hst
      repeat' first
        | (first | simp -implicitDefEqProofs only [hlt, g0, ej, h1, lineV, go_sem] | (refine And.intro ?_ ?_; omega) | (refine And.intro (shr_bd ?_ ?_) ?_; omega; omega) | refine sl_list rfl ?_ | refine sd_list rfl ?_ | refine sl_str ?_ | refine sd_str ?_)
        | refine callL1 (fun d => JumpsOf_c d b q (by omega)) rfl rfl rfl ?_
        | refine callC (bel_c d _) rfl rfl rfl rfl rfl ?_
        | refine callS (DoJump_c b q l (by omega)) rfl rfl rfl ?_
      exact ⟨(i + 1, doJ b q l, ls ++ [l], belC d (jumpsOf b q).length), ⟨by simp only; omega, hst, hx3⟩, by simp only; omega, weak_of (fun i => i) (fun i => if i = 13 then 42 else i) rfl ⟨by simp [lineV] <;> omega, by simp [lineV] <;> omega, by simp [lineV] <;> omega, by simp [lineV] <;> omega, by simp [lineV] <;> omega⟩ (by simp [lineV] <;> omega)⟩
  · have hk : n.toNat - i = 0 := by omega
    rw [hk] at hx3
    simp only [playL] at hx3
    (repeat' (first | simp -implicitDefEqProofs only [hlt, go_sem] | (refine And.intro ?_ ?_; omega) | (refine And.intro (shr_bd ?_ ?_) ?_; omega; omega) | refine sl_list rfl ?_ | refine sd_list rfl ?_ | refine sl_str ?_ | refine sd_str ?_))
    subst hx3
    refine fin_see ?_
    simp -implicitDefEqProofs only [go_sem]
    exact fin_of (fun i => i) (fun i => i) ⟨by simp <;> omega, by simp <;> omega, by simp <;> omega, by simp <;> omega, by simp <;> omega⟩ (by simp <;> omega) rfl
/-- what is said of a drawn board with two positions -/
structure AimOk (b : Brd) (p q : Int) : Prop where
  s : isSmall b = true
  p : positionOk b p = true
  q : positionOk b q = true
theorem play_pos {b : Brd} {p : Int} {ls : List Ln} (hp : positionOk b p = true) : positionOk b (playI b p ls) = true := by
  unfold playI playAll
  split
  · cases h : playF b p ls with
    | none => exact hp
    | some q => exact playF_pos hp h
  · exact hp
set_option maxHeartbeats 8000000 in
theorem l21Start_ex {B : Bs} (c : Cr B) : ∃ (b : Brd) (p q : Int), AimOk b p q ∧ Drw 15 c [] (.t [.a (brdC b), .c (.v (.int .i64 p)), .c (.v (.int .i64 q))]) := by
  obtain ⟨b0, q0, hs0, hq0, c1, p1⟩ := l14Start_ex c
  by_cases h10 : 10 < (holesOf b0).length
  · have g0 : (10 : Int) < ((holesOf b0).length : Int) := by omega
    have hr := rect_small (w := 3) (h := 3) (by omega) (by omega) (by omega) (by omega) (by omega)
    obtain ⟨p, hp, c2, p2⟩ := l06Start_ex c1 (small_ok hr)
    have hpo := sub_pos (small_ok hr) hp
    have bp := sub_le (small_ok hr) hp
    have bn := bel_rg c2 (n := 10) (by omega)
    obtain ⟨ls, z, hz, hzl, c3, p3⟩ := l06Play_ex (belC c2 10) hpo (belN c2 10) (by omega)
    by_cases h8 : belN c3 8 = 0
    · obtain ⟨q, hq, c4, p4⟩ := l04Some_ex (belC c3 8) (small_ok hr)
      refine ⟨rect 3 3, p, q, ⟨hr, hpo, sub_pos (small_ok hr) hq⟩, c4, ?_⟩
      refine pc_of Try.func15 rfl (by kernel_rfl) _ Try.ntmps15 (by simp) ?_
      repeat' first
        | (first | simp -implicitDefEqProofs only [g0, h8, go_sem] | (refine And.intro ?_ ?_; omega) | (refine And.intro (shr_bd ?_ ?_) ?_; omega; omega) | refine sl_list rfl ?_ | refine sd_list rfl ?_ | refine sl_str ?_ | refine sd_str ?_)
        | refine callC p1 rfl rfl rfl rfl rfl ?_
        | refine callS (dCount_c b0) rfl rfl rfl ?_
        | refine callS (Rect_c (w := 3) (h := 3) (by omega) (by omega) (by omega) (by omega)) rfl rfl rfl ?_
        | refine callC p2 rfl rfl rfl rfl rfl ?_
        | refine callC (bel_c c2 10) rfl rfl rfl rfl rfl ?_
        | refine callC p3 rfl rfl rfl rfl rfl ?_
        | refine callS (PlayAll_c (rect 3 3) p ls (by omega) (by omega)) rfl rfl rfl ?_
        | refine callC (once_c c3 8) rfl rfl rfl rfl rfl ?_
        | refine callC p4 rfl rfl rfl rfl rfl ?_
        | refine draw_stepY Try.pl_follows (by kernel_rfl) ?_
      exact fin_of (fun i => i) (fun i => i) ⟨by simp <;> omega, by simp <;> omega, by simp <;> omega, by simp <;> omega, by simp <;> omega⟩ (by simp <;> omega) rfl
    · refine ⟨rect 3 3, p, playI (rect 3 3) p ls, ⟨hr, hpo, play_pos hpo⟩, belC c3 8, ?_⟩
      refine pc_of Try.func15 rfl (by kernel_rfl) _ Try.ntmps15 (by simp) ?_
      repeat' first
        | (first | simp -implicitDefEqProofs only [g0, h8, go_sem] | (refine And.intro ?_ ?_; omega) | (refine And.intro (shr_bd ?_ ?_) ?_; omega; omega) | refine sl_list rfl ?_ | refine sd_list rfl ?_ | refine sl_str ?_ | refine sd_str ?_)
        | refine callC p1 rfl rfl rfl rfl rfl ?_
        | refine callS (dCount_c b0) rfl rfl rfl ?_
        | refine callS (Rect_c (w := 3) (h := 3) (by omega) (by omega) (by omega) (by omega)) rfl rfl rfl ?_
        | refine callC p2 rfl rfl rfl rfl rfl ?_
        | refine callC (bel_c c2 10) rfl rfl rfl rfl rfl ?_
        | refine callC p3 rfl rfl rfl rfl rfl ?_
        | refine callS (PlayAll_c (rect 3 3) p ls (by omega) (by omega)) rfl rfl rfl ?_
        | refine callC (once_c c3 8) rfl rfl rfl rfl rfl ?_
        | refine draw_stepY Try.pl_follows (by kernel_rfl) ?_
      exact fin_of (fun i => i) (fun i => i) ⟨by simp <;> omega, by simp <;> omega, by simp <;> omega, by simp <;> omega, by simp <;> omega⟩ (by simp <;> omega) rfl
  · have g0 : ¬ (10 : Int) < ((holesOf b0).length : Int) := by omega
    have hpo := sub_pos (small_ok hs0) hq0
    have bp := sub_le (small_ok hs0) hq0
    have bn := bel_rg c1 (n := 10) (by omega)
    obtain ⟨ls, z, hz, hzl, c3, p3⟩ := l06Play_ex (belC c1 10) hpo (belN c1 10) (by omega)
    by_cases h8 : belN c3 8 = 0
    · obtain ⟨q, hq, c4, p4⟩ := l04Some_ex (belC c3 8) (small_ok hs0)
      refine ⟨b0, q0, q, ⟨hs0, hpo, sub_pos (small_ok hs0) hq⟩, c4, ?_⟩
      refine pc_of Try.func15 rfl (by kernel_rfl) _ Try.ntmps15 (by simp) ?_
      repeat' first
        | (first | simp -implicitDefEqProofs only [g0, h8, go_sem] | (refine And.intro ?_ ?_; omega) | (refine And.intro (shr_bd ?_ ?_) ?_; omega; omega) | refine sl_list rfl ?_ | refine sd_list rfl ?_ | refine sl_str ?_ | refine sd_str ?_)
        | refine callC p1 rfl rfl rfl rfl rfl ?_
        | refine callS (dCount_c b0) rfl rfl rfl ?_
        | refine callC (bel_c c1 10) rfl rfl rfl rfl rfl ?_
        | refine callC p3 rfl rfl rfl rfl rfl ?_
        | refine callS (PlayAll_c b0 q0 ls (by omega) (by omega)) rfl rfl rfl ?_
        | refine callC (once_c c3 8) rfl rfl rfl rfl rfl ?_
        | refine callC p4 rfl rfl rfl rfl rfl ?_
        | refine draw_stepY Try.pl_follows (by kernel_rfl) ?_
      exact fin_of (fun i => i) (fun i => i) ⟨by simp <;> omega, by simp <;> omega, by simp <;> omega, by simp <;> omega, by simp <;> omega⟩ (by simp <;> omega) rfl
    · refine ⟨b0, q0, playI b0 q0 ls, ⟨hs0, hpo, play_pos hpo⟩, belC c3 8, ?_⟩
      refine pc_of Try.func15 rfl (by kernel_rfl) _ Try.ntmps15 (by simp) ?_
      repeat' first
        | (first | simp -implicitDefEqProofs only [g0, h8, go_sem] | (refine And.intro ?_ ?_; omega) | (refine And.intro (shr_bd ?_ ?_) ?_; omega; omega) | refine sl_list rfl ?_ | refine sd_list rfl ?_ | refine sl_str ?_ | refine sd_str ?_)
        | refine callC p1 rfl rfl rfl rfl rfl ?_
        | refine callS (dCount_c b0) rfl rfl rfl ?_
        | refine callC (bel_c c1 10) rfl rfl rfl rfl rfl ?_
        | refine callC p3 rfl rfl rfl rfl rfl ?_
        | refine callS (PlayAll_c b0 q0 ls (by omega) (by omega)) rfl rfl rfl ?_
        | refine callC (once_c c3 8) rfl rfl rfl rfl rfl ?_
        | refine draw_stepY Try.pl_follows (by kernel_rfl) ?_
      exact fin_of (fun i => i) (fun i => i) ⟨by simp <;> omega, by simp <;> omega, by simp <;> omega, by simp <;> omega, by simp <;> omega⟩ (by simp <;> omega) rfl
theorem drawAim_ex (B : Bs) : ∃ (b : Brd) (p q : Int), AimOk b p q ∧ PC Try.prog 5 [] [.c (.l 1 (B.l.map bV))] (.t [.a (brdC b), .c (.v (.int .i64 p)), .c (.v (.int .i64 q))]) ⟨[], []⟩ := by
  obtain ⟨b, p, q, h, c1, p1⟩ := l21Start_ex (newCr B)
  refine ⟨b, p, q, h, ?_⟩
  refine pc_of Try.func5 rfl (by kernel_rfl) _ Try.ntmps5 (by simp) ?_
  repeat' first
    | (first | simp -implicitDefEqProofs only [go_sem] | (refine And.intro ?_ ?_; omega) | (refine And.intro (shr_bd ?_ ?_) ?_; omega; omega) | refine sl_list rfl ?_ | refine sd_list rfl ?_ | refine sl_str ?_ | refine sd_str ?_)
    | refine callN (new_c B 9000) rfl rfl rfl rfl ?_
    | refine callC p1 rfl rfl rfl rfl rfl ?_
  exact fin_scal rfl rfl
end Go.Proofs.Ytahnbliabllflaa
