/-
  What the functions compute that list the jumps, the good jumps, and give a hint.
-/
import Derived.Test.YtggejdgohkfmmaaGreatP4
import Derived.Test.YtggejdgohkfmmaaGreatU3
namespace Go.Proofs.YtggejdgohkfmmaaGreat
open Go.PL
set_option linter.unusedSimpArgs false
def jumpsOf (b : Brd) (p : Int) : List Ln := if positionOk b p = true then (linesOf b).filter (canJ p) else []
theorem jumps_mem {b : Brd} {p : Int} {l : Ln} (h : l ∈ jumpsOf b p) : positionOk b p = true ∧ l ∈ linesOf b ∧ canJ p l = true := by
  unfold jumpsOf at h
  split at h
  · rename_i hp
    have := List.mem_filter.1 h
    exact ⟨hp, this.1, this.2⟩
  · simp at h
theorem jumps_len {b : Brd} {p : Int} : (jumpsOf b p).length ≤ 196 := by
  have h1 := linesOf_len (b := b)
  unfold jumpsOf
  split
  · have := List.length_filter_le (canJ p) (linesOf b)
    omega
  · simp
theorem flip_pos {b : Brd} {p : Int} {l : Ln} (hp : positionOk b p = true) (hm : l ∈ linesOf b) (hc : canJ p l = true) : positionOk b (flip p l) = true := by
  obtain ⟨hb, p0, hs⟩ := pos_sub hp
  have ha : able false p.toNat l = true := by simp only [able, Bool.false_eq_true, if_false]; rw [Int.toNat_of_nonneg p0]; exact hc
  exact sub_pos hb (rch_sub hs (.step _ l .refl hm ha))
theorem jumpI_flip {b : Brd} {p : Int} {l : Ln} (hp : positionOk b p = true) (hm : l ∈ linesOf b) (hc : canJ p l = true) : jumpI p l = flip p l := by
  obtain ⟨hb, p0, hs⟩ := pos_sub hp
  obtain ⟨hne0, hne1, hne2⟩ := line_ne hm
  rw [jumpI, if_pos hc, jmp_flip p0 (lnIn hm) hne1 hne2 hc]; rfl
set_option maxHeartbeats 4000000 in
theorem JumpsOf_c (d : Nat) (b : Brd) (p : Int) (p2 : p ≤ 9223372036854775807) : PC Tryz.prog 57 [] [.a (brdC b), .c (.v (.int .i64 p))] (.s (.c (.o d))) ⟨[], [(d, ⟨58, 3, (jumpsOf b p).map lineV, false, true⟩)]⟩ := by
  refine pc_of Tryz.func57 rfl (by kernel_rfl) _ Tryz.ntmps57 (by simp) ?_
  have hl := linesOf_len (b := b)
  repeat' first
    | (first | simp -implicitDefEqProofs only [go_sem] | (refine And.intro ?_ ?_; omega) | (refine And.intro (shr_bd ?_ ?_) ?_; omega; omega) | refine sl_list rfl ?_ | refine sd_list rfl ?_ | refine sl_str ?_ | refine sd_str ?_)
    | refine callL1 (fun d => LinesOf_c d b) rfl rfl rfl ?_
  by_cases hp : positionOk b p = true
  · have e : jumpsOf b p = (linesOf b).filter (canJ p) := by simp [jumpsOf, hp]
    obtain ⟨hb, p0, hs⟩ := pos_sub hp
    refine loop_step (X := Nat) (fun i => ⟨51, [(1, vN p), (2, .s (.c (.p 2 0))), (5, vO 8), (6, vO 10), (7, vN i)], ⟨[(2, brdC b)], [(8, ⟨58, 3, (filN (canJ p) (linesOf b) i).map lineV, false, true⟩), (10, ⟨58, 3, (linesOf b).map lineV, false, true⟩)]⟩⟩)
      (fun i => i ≤ (linesOf b).length) (fun i => (linesOf b).length - i) 0 (by omega) (weak_of (fun i => i) (fun i => i) rfl ⟨by simp [boxesR, listsR, csR, renC, keyC, optK, fnd, envR, St.get, keyPV, keyV1, renPV, renV1, hasKey, made_zero, filN_zero] <;> omega, by simp [boxesR, listsR, csR, renC, keyC, optK, fnd, envR, St.get, keyPV, keyV1, renPV, renV1, hasKey, made_zero, filN_zero] <;> omega, by simp [boxesR, listsR, csR, renC, keyC, optK, fnd, envR, St.get, keyPV, keyV1, renPV, renV1, hasKey, made_zero, filN_zero] <;> omega, by simp [boxesR, listsR, csR, renC, keyC, optK, fnd, envR, St.get, keyPV, keyV1, renPV, renV1, hasKey, made_zero, filN_zero] <;> omega, by simp [boxesR, listsR, csR, renC, keyC, optK, fnd, envR, St.get, keyPV, keyV1, renPV, renV1, hasKey, made_zero, filN_zero] <;> omega⟩ (by simp [boxesR, listsR, csR, renC, keyC, optK, fnd, envR, St.get, keyPV, keyV1, renPV, renV1, hasKey, made_zero, filN_zero] <;> omega)) (fun i hi => ?_)
    have hf := filN_len (p := canJ p) (l := linesOf b) (i := i)
    by_cases hlt : i < (linesOf b).length
    · have e0 : ((i : Int) < (linesOf b).length) = True := eq_true (by omega)
      have hg := map_get (f := lineV) hlt
      have hm := List.getElem_mem hlt
      have hln := lnIn hm
      obtain ⟨hne0, hne1, hne2⟩ := line_ne hm
      have hbl := bitsL_le hln
      have q1 := pow48 hln.f0 hln.f1
      have q2 := pow48 hln.o0 hln.o1
      have q3 := or63 (a := 2 ^ (linesOf b)[i].f.toNat) (c := 2 ^ (linesOf b)[i].o.toNat) (by omega) (by omega)
      have hc := can_and p0 hln hne1 hne2
      have f0 := hln.f0
      have f1 := hln.f1
      have o0 := hln.o0
      have o1 := hln.o1
      (repeat' (first | simp -implicitDefEqProofs only [e0, go_sem] | (refine And.intro ?_ ?_; omega) | (refine And.intro (shr_bd ?_ ?_) ?_; omega; omega) | refine sl_list rfl ?_ | refine sd_list rfl ?_ | refine sl_str ?_ | refine sd_str ?_))
      refine callS (PositionOk_c b p p2) rfl rfl rfl ?_
      (repeat' (first | simp -implicitDefEqProofs only [hp, go_sem] | (refine And.intro ?_ ?_; omega) | (refine And.intro (shr_bd ?_ ?_) ?_; omega; omega) | refine sl_list rfl ?_ | refine sd_list rfl ?_ | refine sl_str ?_ | refine sd_str ?_))
      refine draw_step Tryz.pl_follows (by kernel_rfl) ?_
      (repeat' (first | simp -implicitDefEqProofs only [hg, hlt, lineV, go_sem] | (refine And.intro ?_ ?_; omega) | (refine And.intro (shr_bd ?_ ?_) ?_; omega; omega) | refine sl_list rfl ?_ | refine sd_list rfl ?_ | refine sl_str ?_ | refine sd_str ?_))
      refine callD (l05Bits_c (linesOf b)[i] hln) rfl rfl rfl ?_
      by_cases h3 : canJ p (linesOf b)[i] = true
      · have e1 : (((p.toNat &&& bitsL (linesOf b)[i] : Nat) : Int) = ((2 ^ (linesOf b)[i].f.toNat ||| 2 ^ (linesOf b)[i].o.toNat : Nat) : Int)) = True := eq_true (by rw [hc.2 h3])
        have e2 := filN_hit (p := canJ p) hlt h3
        (repeat' (first | simp -implicitDefEqProofs only [hg, hlt, lineV, e1, go_sem] | (refine And.intro ?_ ?_; omega) | (refine And.intro (shr_bd ?_ ?_) ?_; omega; omega) | refine sl_list rfl ?_ | refine sd_list rfl ?_ | refine sl_str ?_ | refine sd_str ?_))
        exact ⟨i + 1, by omega, by omega, weak_of (fun i => i) (fun i => if i = 8 then 49 else i) rfl ⟨by simp [boxesR, listsR, csR, renC, keyC, optK, fnd, envR, St.get, keyPV, keyV1, renPV, renV1, hasKey, made_zero, e2, lineV] <;> omega, by simp [boxesR, listsR, csR, renC, keyC, optK, fnd, envR, St.get, keyPV, keyV1, renPV, renV1, hasKey, made_zero, e2, lineV] <;> omega, by simp [boxesR, listsR, csR, renC, keyC, optK, fnd, envR, St.get, keyPV, keyV1, renPV, renV1, hasKey, made_zero, e2, lineV] <;> omega, by simp [boxesR, listsR, csR, renC, keyC, optK, fnd, envR, St.get, keyPV, keyV1, renPV, renV1, hasKey, made_zero, e2, lineV] <;> omega, by simp [boxesR, listsR, csR, renC, keyC, optK, fnd, envR, St.get, keyPV, keyV1, renPV, renV1, hasKey, made_zero, e2, lineV] <;> omega⟩ (by simp [boxesR, listsR, csR, renC, keyC, optK, fnd, envR, St.get, keyPV, keyV1, renPV, renV1, hasKey, made_zero, e2, lineV] <;> omega)⟩
      · have e1 : (((p.toNat &&& bitsL (linesOf b)[i] : Nat) : Int) = ((2 ^ (linesOf b)[i].f.toNat ||| 2 ^ (linesOf b)[i].o.toNat : Nat) : Int)) = False := eq_false (fun h => h3 (hc.1 (by omega)))
        have e2 := filN_miss (p := canJ p) hlt (by simpa using h3)
        (repeat' (first | simp -implicitDefEqProofs only [hg, hlt, lineV, e1, go_sem] | (refine And.intro ?_ ?_; omega) | (refine And.intro (shr_bd ?_ ?_) ?_; omega; omega) | refine sl_list rfl ?_ | refine sd_list rfl ?_ | refine sl_str ?_ | refine sd_str ?_))
        exact ⟨i + 1, by omega, by omega, weak_of (fun i => i) (fun i => i) rfl ⟨by simp [boxesR, listsR, csR, renC, keyC, optK, fnd, envR, St.get, keyPV, keyV1, renPV, renV1, hasKey, made_zero, e2] <;> omega, by simp [boxesR, listsR, csR, renC, keyC, optK, fnd, envR, St.get, keyPV, keyV1, renPV, renV1, hasKey, made_zero, e2] <;> omega, by simp [boxesR, listsR, csR, renC, keyC, optK, fnd, envR, St.get, keyPV, keyV1, renPV, renV1, hasKey, made_zero, e2] <;> omega, by simp [boxesR, listsR, csR, renC, keyC, optK, fnd, envR, St.get, keyPV, keyV1, renPV, renV1, hasKey, made_zero, e2] <;> omega, by simp [boxesR, listsR, csR, renC, keyC, optK, fnd, envR, St.get, keyPV, keyV1, renPV, renV1, hasKey, made_zero, e2] <;> omega⟩ (by simp [boxesR, listsR, csR, renC, keyC, optK, fnd, envR, St.get, keyPV, keyV1, renPV, renV1, hasKey, made_zero, e2] <;> omega)⟩
    · have e0 : ((i : Int) < (linesOf b).length) = False := eq_false (by omega)
      have hle : i = (linesOf b).length := by omega
      subst hle
      (repeat' (first | simp -implicitDefEqProofs only [e0, go_sem] | (refine And.intro ?_ ?_; omega) | (refine And.intro (shr_bd ?_ ?_) ?_; omega; omega) | refine sl_list rfl ?_ | refine sd_list rfl ?_ | refine sl_str ?_ | refine sd_str ?_))
      exact fin_of (fun i => i) (fun i => 8) ⟨by simp [boxesR, listsR, csR, renC, keyC, optK, fnd, envR, St.get, keyPV, keyV1, renPV, renV1, hasKey, made_zero, e, filN_end] <;> omega, by simp [boxesR, listsR, csR, renC, keyC, optK, fnd, envR, St.get, keyPV, keyV1, renPV, renV1, hasKey, made_zero, e, filN_end] <;> omega, by simp [boxesR, listsR, csR, renC, keyC, optK, fnd, envR, St.get, keyPV, keyV1, renPV, renV1, hasKey, made_zero, e, filN_end] <;> omega, by simp [boxesR, listsR, csR, renC, keyC, optK, fnd, envR, St.get, keyPV, keyV1, renPV, renV1, hasKey, made_zero, e, filN_end] <;> omega, by simp [boxesR, listsR, csR, renC, keyC, optK, fnd, envR, St.get, keyPV, keyV1, renPV, renV1, hasKey, made_zero, e, filN_end] <;> omega⟩ (by simp [boxesR, listsR, csR, renC, keyC, optK, fnd, envR, St.get, keyPV, keyV1, renPV, renV1, hasKey, made_zero, e, filN_end] <;> omega) (by first | rfl | (simp [renPV, renV1, renC, e, filN_end]))
  · have e : jumpsOf b p = [] := by simp [jumpsOf, hp]
    refine loop_step (X := Nat) (fun i => ⟨51, [(1, vN p), (2, .s (.c (.p 2 0))), (5, vO 8), (6, vO 10), (7, vN 0)], ⟨[(2, brdC b)], [(8, ⟨58, 3, [], false, true⟩), (10, ⟨58, 3, (linesOf b).map lineV, false, true⟩)]⟩⟩)
      (fun i => True) (fun i => 0) 0 trivial (weak_of (fun i => i) (fun i => i) rfl ⟨by simp [boxesR, listsR, csR, renC, keyC, optK, fnd, envR, St.get, keyPV, keyV1, renPV, renV1, hasKey, made_zero] <;> omega, by simp [boxesR, listsR, csR, renC, keyC, optK, fnd, envR, St.get, keyPV, keyV1, renPV, renV1, hasKey, made_zero] <;> omega, by simp [boxesR, listsR, csR, renC, keyC, optK, fnd, envR, St.get, keyPV, keyV1, renPV, renV1, hasKey, made_zero] <;> omega, by simp [boxesR, listsR, csR, renC, keyC, optK, fnd, envR, St.get, keyPV, keyV1, renPV, renV1, hasKey, made_zero] <;> omega, by simp [boxesR, listsR, csR, renC, keyC, optK, fnd, envR, St.get, keyPV, keyV1, renPV, renV1, hasKey, made_zero] <;> omega⟩ (by simp [boxesR, listsR, csR, renC, keyC, optK, fnd, envR, St.get, keyPV, keyV1, renPV, renV1, hasKey, made_zero] <;> omega)) (fun i hi => ?_)
    by_cases hlt : (0 : Int) < (linesOf b).length
    · (repeat' (first | simp -implicitDefEqProofs only [hlt, go_sem] | (refine And.intro ?_ ?_; omega) | (refine And.intro (shr_bd ?_ ?_) ?_; omega; omega) | refine sl_list rfl ?_ | refine sd_list rfl ?_ | refine sl_str ?_ | refine sd_str ?_))
      refine callS (PositionOk_c b p p2) rfl rfl rfl ?_
      (repeat' (first | simp -implicitDefEqProofs only [hp, go_sem] | (refine And.intro ?_ ?_; omega) | (refine And.intro (shr_bd ?_ ?_) ?_; omega; omega) | refine sl_list rfl ?_ | refine sd_list rfl ?_ | refine sl_str ?_ | refine sd_str ?_))
      exact fin_of (fun i => i) (fun i => 8) ⟨by simp [boxesR, listsR, csR, renC, keyC, optK, fnd, envR, St.get, keyPV, keyV1, renPV, renV1, hasKey, made_zero, e] <;> omega, by simp [boxesR, listsR, csR, renC, keyC, optK, fnd, envR, St.get, keyPV, keyV1, renPV, renV1, hasKey, made_zero, e] <;> omega, by simp [boxesR, listsR, csR, renC, keyC, optK, fnd, envR, St.get, keyPV, keyV1, renPV, renV1, hasKey, made_zero, e] <;> omega, by simp [boxesR, listsR, csR, renC, keyC, optK, fnd, envR, St.get, keyPV, keyV1, renPV, renV1, hasKey, made_zero, e] <;> omega, by simp [boxesR, listsR, csR, renC, keyC, optK, fnd, envR, St.get, keyPV, keyV1, renPV, renV1, hasKey, made_zero, e] <;> omega⟩ (by simp [boxesR, listsR, csR, renC, keyC, optK, fnd, envR, St.get, keyPV, keyV1, renPV, renV1, hasKey, made_zero, e] <;> omega) (by first | rfl | (simp [renPV, renV1, renC, e]))
    · (repeat' (first | simp -implicitDefEqProofs only [hlt, go_sem] | (refine And.intro ?_ ?_; omega) | (refine And.intro (shr_bd ?_ ?_) ?_; omega; omega) | refine sl_list rfl ?_ | refine sd_list rfl ?_ | refine sl_str ?_ | refine sd_str ?_))
      exact fin_of (fun i => i) (fun i => 8) ⟨by simp [boxesR, listsR, csR, renC, keyC, optK, fnd, envR, St.get, keyPV, keyV1, renPV, renV1, hasKey, made_zero, e] <;> omega, by simp [boxesR, listsR, csR, renC, keyC, optK, fnd, envR, St.get, keyPV, keyV1, renPV, renV1, hasKey, made_zero, e] <;> omega, by simp [boxesR, listsR, csR, renC, keyC, optK, fnd, envR, St.get, keyPV, keyV1, renPV, renV1, hasKey, made_zero, e] <;> omega, by simp [boxesR, listsR, csR, renC, keyC, optK, fnd, envR, St.get, keyPV, keyV1, renPV, renV1, hasKey, made_zero, e] <;> omega, by simp [boxesR, listsR, csR, renC, keyC, optK, fnd, envR, St.get, keyPV, keyV1, renPV, renV1, hasKey, made_zero, e] <;> omega⟩ (by simp [boxesR, listsR, csR, renC, keyC, optK, fnd, envR, St.get, keyPV, keyV1, renPV, renV1, hasKey, made_zero, e] <;> omega) (by first | rfl | (simp [renPV, renV1, renC, e]))
set_option maxHeartbeats 4000000 in
theorem iJumpsOf_c (d : Nat) (b : Brd) (p : Int) (p2 : p ≤ 9223372036854775807) : PC Tryz.prog 122 [] [.a (brdC b), .c (.v (.int .i64 p))] (.s (.c (.o d))) ⟨[], [(d, ⟨58, 3, (jumpsOf b p).map lineV, false, true⟩)]⟩ := by
  refine pc_of Tryz.func122 rfl (by kernel_rfl) _ Tryz.ntmps122 (by simp) ?_
  have hl := linesOf_len (b := b)
  (repeat' (first | simp -implicitDefEqProofs only [go_sem] | (refine And.intro ?_ ?_; omega) | (refine And.intro (shr_bd ?_ ?_) ?_; omega; omega) | refine sl_list rfl ?_ | refine sd_list rfl ?_ | refine sl_str ?_ | refine sd_str ?_))
  refine callS (iPositionOk_c b p p2) rfl rfl rfl ?_
  by_cases hp : positionOk b p = true
  · have e : jumpsOf b p = (linesOf b).filter (canJ p) := by simp [jumpsOf, hp]
    obtain ⟨hb, p0, hs⟩ := pos_sub hp
    repeat' first
      | (first | simp -implicitDefEqProofs only [hp, go_sem] | (refine And.intro ?_ ?_; omega) | (refine And.intro (shr_bd ?_ ?_) ?_; omega; omega) | refine sl_list rfl ?_ | refine sd_list rfl ?_ | refine sl_str ?_ | refine sd_str ?_)
      | refine callL1 (fun d => iLinesOf_c d b) rfl rfl rfl ?_
    refine loop_step (X := Nat) (fun i => ⟨36, [(1, vN p), (5, vO 10), (17, vO 17), (18, vN (linesOf b).length), (19, vN i)], ⟨[], [(10, ⟨58, 3, (filN (canJ p) (linesOf b) i).map lineV, false, true⟩), (17, ⟨58, 3, (linesOf b).map lineV, false, true⟩)]⟩⟩)
      (fun i => i ≤ (linesOf b).length) (fun i => (linesOf b).length - i) 0 (by omega) (weak_of (fun i => i) (fun i => i) rfl ⟨by simp [boxesR, listsR, csR, renC, keyC, optK, fnd, envR, St.get, keyPV, keyV1, renPV, renV1, hasKey, made_zero, filN_zero] <;> omega, by simp [boxesR, listsR, csR, renC, keyC, optK, fnd, envR, St.get, keyPV, keyV1, renPV, renV1, hasKey, made_zero, filN_zero] <;> omega, by simp [boxesR, listsR, csR, renC, keyC, optK, fnd, envR, St.get, keyPV, keyV1, renPV, renV1, hasKey, made_zero, filN_zero] <;> omega, by simp [boxesR, listsR, csR, renC, keyC, optK, fnd, envR, St.get, keyPV, keyV1, renPV, renV1, hasKey, made_zero, filN_zero] <;> omega, by simp [boxesR, listsR, csR, renC, keyC, optK, fnd, envR, St.get, keyPV, keyV1, renPV, renV1, hasKey, made_zero, filN_zero] <;> omega⟩ (by simp [boxesR, listsR, csR, renC, keyC, optK, fnd, envR, St.get, keyPV, keyV1, renPV, renV1, hasKey, made_zero, filN_zero] <;> omega)) (fun i hi => ?_)
    have hf := filN_len (p := canJ p) (l := linesOf b) (i := i)
    simp -implicitDefEqProofs only [go_sem]
    refine if_splitP (fun h => ?_) (fun h => ?_)
    · have hlt : i < (linesOf b).length := by omega
      have hg := map_get (f := lineV) hlt
      have hm := List.getElem_mem hlt
      have hln := lnIn hm
      (repeat' (first | simp -implicitDefEqProofs only [hg, hlt, lineV, go_sem] | (refine And.intro ?_ ?_; omega) | (refine And.intro (shr_bd ?_ ?_) ?_; omega; omega) | refine sl_list rfl ?_ | refine sd_list rfl ?_ | refine sl_str ?_ | refine sd_str ?_))
      refine callS (jumpFrom_c p (linesOf b)[i] p0 p2 hln) rfl rfl rfl ?_
      by_cases h3 : canJ p (linesOf b)[i] = true
      · have e2 := filN_hit (p := canJ p) hlt h3
        (repeat' (first | simp -implicitDefEqProofs only [h3, go_sem] | (refine And.intro ?_ ?_; omega) | (refine And.intro (shr_bd ?_ ?_) ?_; omega; omega) | refine sl_list rfl ?_ | refine sd_list rfl ?_ | refine sl_str ?_ | refine sd_str ?_))
        exact ⟨i + 1, by omega, by omega, weak_of (fun i => i) (fun i => if i = 10 then 33 else i) rfl ⟨by simp [boxesR, listsR, csR, renC, keyC, optK, fnd, envR, St.get, keyPV, keyV1, renPV, renV1, hasKey, made_zero, e2, lineV] <;> omega, by simp [boxesR, listsR, csR, renC, keyC, optK, fnd, envR, St.get, keyPV, keyV1, renPV, renV1, hasKey, made_zero, e2, lineV] <;> omega, by simp [boxesR, listsR, csR, renC, keyC, optK, fnd, envR, St.get, keyPV, keyV1, renPV, renV1, hasKey, made_zero, e2, lineV] <;> omega, by simp [boxesR, listsR, csR, renC, keyC, optK, fnd, envR, St.get, keyPV, keyV1, renPV, renV1, hasKey, made_zero, e2, lineV] <;> omega, by simp [boxesR, listsR, csR, renC, keyC, optK, fnd, envR, St.get, keyPV, keyV1, renPV, renV1, hasKey, made_zero, e2, lineV] <;> omega⟩ (by simp [boxesR, listsR, csR, renC, keyC, optK, fnd, envR, St.get, keyPV, keyV1, renPV, renV1, hasKey, made_zero, e2, lineV] <;> omega)⟩
      · have e2 := filN_miss (p := canJ p) hlt (by simpa using h3)
        (repeat' (first | simp -implicitDefEqProofs only [h3, go_sem] | (refine And.intro ?_ ?_; omega) | (refine And.intro (shr_bd ?_ ?_) ?_; omega; omega) | refine sl_list rfl ?_ | refine sd_list rfl ?_ | refine sl_str ?_ | refine sd_str ?_))
        exact ⟨i + 1, by omega, by omega, weak_of (fun i => i) (fun i => i) rfl ⟨by simp [boxesR, listsR, csR, renC, keyC, optK, fnd, envR, St.get, keyPV, keyV1, renPV, renV1, hasKey, made_zero, e2] <;> omega, by simp [boxesR, listsR, csR, renC, keyC, optK, fnd, envR, St.get, keyPV, keyV1, renPV, renV1, hasKey, made_zero, e2] <;> omega, by simp [boxesR, listsR, csR, renC, keyC, optK, fnd, envR, St.get, keyPV, keyV1, renPV, renV1, hasKey, made_zero, e2] <;> omega, by simp [boxesR, listsR, csR, renC, keyC, optK, fnd, envR, St.get, keyPV, keyV1, renPV, renV1, hasKey, made_zero, e2] <;> omega, by simp [boxesR, listsR, csR, renC, keyC, optK, fnd, envR, St.get, keyPV, keyV1, renPV, renV1, hasKey, made_zero, e2] <;> omega⟩ (by simp [boxesR, listsR, csR, renC, keyC, optK, fnd, envR, St.get, keyPV, keyV1, renPV, renV1, hasKey, made_zero, e2] <;> omega)⟩
    · have hle : i = (linesOf b).length := by omega
      subst hle
      (repeat' (first | simp -implicitDefEqProofs only [go_sem] | (refine And.intro ?_ ?_; omega) | (refine And.intro (shr_bd ?_ ?_) ?_; omega; omega) | refine sl_list rfl ?_ | refine sd_list rfl ?_ | refine sl_str ?_ | refine sd_str ?_))
      exact fin_of (fun i => i) (fun i => 10) ⟨by simp [boxesR, listsR, csR, renC, keyC, optK, fnd, envR, St.get, keyPV, keyV1, renPV, renV1, hasKey, made_zero, e, filN_end] <;> omega, by simp [boxesR, listsR, csR, renC, keyC, optK, fnd, envR, St.get, keyPV, keyV1, renPV, renV1, hasKey, made_zero, e, filN_end] <;> omega, by simp [boxesR, listsR, csR, renC, keyC, optK, fnd, envR, St.get, keyPV, keyV1, renPV, renV1, hasKey, made_zero, e, filN_end] <;> omega, by simp [boxesR, listsR, csR, renC, keyC, optK, fnd, envR, St.get, keyPV, keyV1, renPV, renV1, hasKey, made_zero, e, filN_end] <;> omega, by simp [boxesR, listsR, csR, renC, keyC, optK, fnd, envR, St.get, keyPV, keyV1, renPV, renV1, hasKey, made_zero, e, filN_end] <;> omega⟩ (by simp [boxesR, listsR, csR, renC, keyC, optK, fnd, envR, St.get, keyPV, keyV1, renPV, renV1, hasKey, made_zero, e, filN_end] <;> omega) (by first | rfl | (simp [renPV, renV1, renC, e, filN_end]))
  · have e : jumpsOf b p = [] := by simp [jumpsOf, hp]
    (repeat' (first | simp -implicitDefEqProofs only [hp, go_sem] | (refine And.intro ?_ ?_; omega) | (refine And.intro (shr_bd ?_ ?_) ?_; omega; omega) | refine sl_list rfl ?_ | refine sd_list rfl ?_ | refine sl_str ?_ | refine sd_str ?_))
    exact fin_of (fun i => i) (fun i => 10) ⟨by simp [boxesR, listsR, csR, renC, keyC, optK, fnd, envR, St.get, keyPV, keyV1, renPV, renV1, hasKey, made_zero, e] <;> omega, by simp [boxesR, listsR, csR, renC, keyC, optK, fnd, envR, St.get, keyPV, keyV1, renPV, renV1, hasKey, made_zero, e] <;> omega, by simp [boxesR, listsR, csR, renC, keyC, optK, fnd, envR, St.get, keyPV, keyV1, renPV, renV1, hasKey, made_zero, e] <;> omega, by simp [boxesR, listsR, csR, renC, keyC, optK, fnd, envR, St.get, keyPV, keyV1, renPV, renV1, hasKey, made_zero, e] <;> omega, by simp [boxesR, listsR, csR, renC, keyC, optK, fnd, envR, St.get, keyPV, keyV1, renPV, renV1, hasKey, made_zero, e] <;> omega⟩ (by simp [boxesR, listsR, csR, renC, keyC, optK, fnd, envR, St.get, keyPV, keyV1, renPV, renV1, hasKey, made_zero, e] <;> omega) (by first | rfl | (simp [renPV, renV1, renC, e]))
noncomputable def goodAt' (b : Brd) (p g : Int) (l : Ln) : Bool := hasS (spreadL b true g) (flip p l)
noncomputable def goodJ (b : Brd) (p g : Int) : List Ln := (jumpsOf b p).filter (goodAt' b p g)
theorem goodJ_no {b : Brd} {p g : Int} (h : puzzleOk ⟨b, p, g⟩ = false) : goodJ b p g = [] := by
  unfold goodJ
  rw [List.filter_eq_nil_iff]
  intro l hl hg
  obtain ⟨hp, _, _⟩ := jumps_mem hl
  have := has_spread.1 (show hasS (spreadL b true g) (flip p l) = true from hg)
  simp [puzzleOk, this.1, this.2.1, hp] at h
theorem goodJ_len {b : Brd} {p g : Int} : (goodJ b p g).length ≤ 196 := by
  have h1 := jumps_len (b := b) (p := p)
  have := List.length_filter_le (goodAt' b p g) (jumpsOf b p)
  unfold goodJ
  omega
set_option maxHeartbeats 4000000 in
theorem GoodJumps_c (d : Nat) (b : Brd) (p g : Int) (p2 : p ≤ 9223372036854775807) (g2 : g ≤ 9223372036854775807) : PC Tryz.prog 117 [] [.a (brdC b), .c (.v (.int .i64 p)), .c (.v (.int .i64 g))] (.s (.c (.o d))) ⟨[], [(d, ⟨58, 3, (goodJ b p g).map lineV, false, true⟩)]⟩ := by
  refine pc_of Tryz.func117 rfl (by kernel_rfl) _ Tryz.ntmps117 (by simp) ?_
  (repeat' (first | simp -implicitDefEqProofs only [go_sem] | (refine And.intro ?_ ?_; omega) | (refine And.intro (shr_bd ?_ ?_) ?_; omega; omega) | refine sl_list rfl ?_ | refine sd_list rfl ?_ | refine sl_str ?_ | refine sd_str ?_))
  refine callS (l15Ok_c ⟨b, p, g⟩ ⟨p2, g2⟩) rfl rfl rfl ?_
  by_cases hk : puzzleOk ⟨b, p, g⟩ = true
  · have hk' := hk
    simp only [puzzleOk, Bool.and_eq_true] at hk'
    obtain ⟨hs, hp, hgo⟩ := hk'
    obtain ⟨hb, p0, hsub⟩ := pos_sub hp
    have espr : spreadL b true g = seenL b true g.toNat := by simp [spreadL, hs, hgo]
    have hsl : (spreadL b true g).length = boardN b := by rw [espr]; exact seenL_len
    have hjl := jumps_len (b := b) (p := p)
    repeat' first
      | (first | simp -implicitDefEqProofs only [hk, go_sem] | (refine And.intro ?_ ?_; omega) | (refine And.intro (shr_bd ?_ ?_) ?_; omega; omega) | refine sl_list rfl ?_ | refine sd_list rfl ?_ | refine sl_str ?_ | refine sd_str ?_)
      | refine callL1 (fun d => l15Back_c d b g hs hgo) rfl rfl rfl ?_
      | refine callL1 (fun d => JumpsOf_c d b p p2) rfl rfl rfl ?_
    refine loop_step (X := Nat) (fun i => ⟨48, [(1, vN p), (7, vO 11), (8, vO 20), (9, vO 23), (10, vN i)], ⟨[], [(11, ⟨58, 3, (filN (goodAt' b p g) (jumpsOf b p) i).map lineV, false, true⟩), (20, ⟨4, 1, (spreadL b true g).map Value.bool, false, true⟩), (23, ⟨58, 3, (jumpsOf b p).map lineV, false, true⟩)]⟩⟩)
      (fun i => i ≤ (jumpsOf b p).length) (fun i => (jumpsOf b p).length - i) 0 (by omega) (weak_of (fun i => i) (fun i => i) rfl ⟨by simp [boxesR, listsR, csR, renC, keyC, optK, fnd, envR, St.get, keyPV, keyV1, renPV, renV1, hasKey, made_zero, filN_zero] <;> omega, by simp [boxesR, listsR, csR, renC, keyC, optK, fnd, envR, St.get, keyPV, keyV1, renPV, renV1, hasKey, made_zero, filN_zero] <;> omega, by simp [boxesR, listsR, csR, renC, keyC, optK, fnd, envR, St.get, keyPV, keyV1, renPV, renV1, hasKey, made_zero, filN_zero] <;> omega, by simp [boxesR, listsR, csR, renC, keyC, optK, fnd, envR, St.get, keyPV, keyV1, renPV, renV1, hasKey, made_zero, filN_zero] <;> omega, by simp [boxesR, listsR, csR, renC, keyC, optK, fnd, envR, St.get, keyPV, keyV1, renPV, renV1, hasKey, made_zero, filN_zero] <;> omega⟩ (by simp [boxesR, listsR, csR, renC, keyC, optK, fnd, envR, St.get, keyPV, keyV1, renPV, renV1, hasKey, made_zero, filN_zero] <;> omega)) (fun i hi => ?_)
    have hf := filN_len (p := goodAt' b p g) (l := jumpsOf b p) (i := i)
    simp -implicitDefEqProofs only [go_sem]
    refine if_splitP (fun h => ?_) (fun h => ?_)
    · have hlt : i < (jumpsOf b p).length := by omega
      have hg := map_get (f := lineV) hlt
      obtain ⟨_, hm, hcj⟩ := jumps_mem (List.getElem_mem hlt)
      have hln := lnIn hm
      have hbl := bitsL_le hln
      have q5 := xor63 (a := p.toNat) (c := bitsL (jumpsOf b p)[i]) (by omega) (by omega)
      obtain ⟨_, fl0, fls⟩ := pos_sub (flip_pos hp hm hcj)
      have hflt : p.toNat ^^^ bitsL (jumpsOf b p)[i] < (spreadL b true g).length := by rw [hsl]; exact sub_lt hb fls
      have hgg : ((spreadL b true g).map Value.bool)[p.toNat ^^^ bitsL (jumpsOf b p)[i]]? = some (.bool (spreadL b true g)[p.toNat ^^^ bitsL (jumpsOf b p)[i]]) := by simp [hflt]
      have eg : goodAt' b p g (jumpsOf b p)[i] = (spreadL b true g)[p.toNat ^^^ bitsL (jumpsOf b p)[i]] := by
        have : (flip p (jumpsOf b p)[i]).toNat = p.toNat ^^^ bitsL (jumpsOf b p)[i] := by simp [flip]
        simp [goodAt', hasS, fl0, this, hflt]
      (repeat' (first | simp -implicitDefEqProofs only [hg, hlt, lineV, go_sem] | (refine And.intro ?_ ?_; omega) | (refine And.intro (shr_bd ?_ ?_) ?_; omega; omega) | refine sl_list rfl ?_ | refine sd_list rfl ?_ | refine sl_str ?_ | refine sd_str ?_))
      refine callS (l05Bits_c (jumpsOf b p)[i] hln) rfl rfl rfl ?_
      (repeat' (first | simp -implicitDefEqProofs only [hgg, hflt, go_sem] | (refine And.intro ?_ ?_; omega) | (refine And.intro (shr_bd ?_ ?_) ?_; omega; omega) | refine sl_list rfl ?_ | refine sd_list rfl ?_ | refine sl_str ?_ | refine sd_str ?_))
      refine if_split (fun h3 => ?_) (fun h3 => ?_)
      · have e2 := filN_hit (p := goodAt' b p g) hlt (by rw [eg]; exact h3)
        (repeat' (first | simp -implicitDefEqProofs only [hg, hlt, lineV, go_sem] | (refine And.intro ?_ ?_; omega) | (refine And.intro (shr_bd ?_ ?_) ?_; omega; omega) | refine sl_list rfl ?_ | refine sd_list rfl ?_ | refine sl_str ?_ | refine sd_str ?_))
        exact ⟨i + 1, by omega, by omega, weak_of (fun i => i) (fun i => if i = 11 then 46 else i) rfl ⟨by simp [boxesR, listsR, csR, renC, keyC, optK, fnd, envR, St.get, keyPV, keyV1, renPV, renV1, hasKey, made_zero, e2, lineV] <;> omega, by simp [boxesR, listsR, csR, renC, keyC, optK, fnd, envR, St.get, keyPV, keyV1, renPV, renV1, hasKey, made_zero, e2, lineV] <;> omega, by simp [boxesR, listsR, csR, renC, keyC, optK, fnd, envR, St.get, keyPV, keyV1, renPV, renV1, hasKey, made_zero, e2, lineV] <;> omega, by simp [boxesR, listsR, csR, renC, keyC, optK, fnd, envR, St.get, keyPV, keyV1, renPV, renV1, hasKey, made_zero, e2, lineV] <;> omega, by simp [boxesR, listsR, csR, renC, keyC, optK, fnd, envR, St.get, keyPV, keyV1, renPV, renV1, hasKey, made_zero, e2, lineV] <;> omega⟩ (by simp [boxesR, listsR, csR, renC, keyC, optK, fnd, envR, St.get, keyPV, keyV1, renPV, renV1, hasKey, made_zero, e2, lineV] <;> omega)⟩
      · have e2 := filN_miss (p := goodAt' b p g) hlt (by rw [eg]; exact h3)
        (repeat' (first | simp -implicitDefEqProofs only [go_sem] | (refine And.intro ?_ ?_; omega) | (refine And.intro (shr_bd ?_ ?_) ?_; omega; omega) | refine sl_list rfl ?_ | refine sd_list rfl ?_ | refine sl_str ?_ | refine sd_str ?_))
        exact ⟨i + 1, by omega, by omega, weak_of (fun i => i) (fun i => i) rfl ⟨by simp [boxesR, listsR, csR, renC, keyC, optK, fnd, envR, St.get, keyPV, keyV1, renPV, renV1, hasKey, made_zero, e2] <;> omega, by simp [boxesR, listsR, csR, renC, keyC, optK, fnd, envR, St.get, keyPV, keyV1, renPV, renV1, hasKey, made_zero, e2] <;> omega, by simp [boxesR, listsR, csR, renC, keyC, optK, fnd, envR, St.get, keyPV, keyV1, renPV, renV1, hasKey, made_zero, e2] <;> omega, by simp [boxesR, listsR, csR, renC, keyC, optK, fnd, envR, St.get, keyPV, keyV1, renPV, renV1, hasKey, made_zero, e2] <;> omega, by simp [boxesR, listsR, csR, renC, keyC, optK, fnd, envR, St.get, keyPV, keyV1, renPV, renV1, hasKey, made_zero, e2] <;> omega⟩ (by simp [boxesR, listsR, csR, renC, keyC, optK, fnd, envR, St.get, keyPV, keyV1, renPV, renV1, hasKey, made_zero, e2] <;> omega)⟩
    · have hle : i = (jumpsOf b p).length := by omega
      subst hle
      (repeat' (first | simp -implicitDefEqProofs only [go_sem] | (refine And.intro ?_ ?_; omega) | (refine And.intro (shr_bd ?_ ?_) ?_; omega; omega) | refine sl_list rfl ?_ | refine sd_list rfl ?_ | refine sl_str ?_ | refine sd_str ?_))
      exact fin_of (fun i => i) (fun i => 11) ⟨by simp [boxesR, listsR, csR, renC, keyC, optK, fnd, envR, St.get, keyPV, keyV1, renPV, renV1, hasKey, made_zero, goodJ, filN_end] <;> omega, by simp [boxesR, listsR, csR, renC, keyC, optK, fnd, envR, St.get, keyPV, keyV1, renPV, renV1, hasKey, made_zero, goodJ, filN_end] <;> omega, by simp [boxesR, listsR, csR, renC, keyC, optK, fnd, envR, St.get, keyPV, keyV1, renPV, renV1, hasKey, made_zero, goodJ, filN_end] <;> omega, by simp [boxesR, listsR, csR, renC, keyC, optK, fnd, envR, St.get, keyPV, keyV1, renPV, renV1, hasKey, made_zero, goodJ, filN_end] <;> omega, by simp [boxesR, listsR, csR, renC, keyC, optK, fnd, envR, St.get, keyPV, keyV1, renPV, renV1, hasKey, made_zero, goodJ, filN_end] <;> omega⟩ (by simp [boxesR, listsR, csR, renC, keyC, optK, fnd, envR, St.get, keyPV, keyV1, renPV, renV1, hasKey, made_zero, goodJ, filN_end] <;> omega) (by first | rfl | (simp [renPV, renV1, renC, goodJ, filN_end]))
  · have e : goodJ b p g = [] := goodJ_no (by simpa using hk)
    (repeat' (first | simp -implicitDefEqProofs only [hk, go_sem] | (refine And.intro ?_ ?_; omega) | (refine And.intro (shr_bd ?_ ?_) ?_; omega; omega) | refine sl_list rfl ?_ | refine sd_list rfl ?_ | refine sl_str ?_ | refine sd_str ?_))
    exact fin_of (fun i => i) (fun i => 11) ⟨by simp [boxesR, listsR, csR, renC, keyC, optK, fnd, envR, St.get, keyPV, keyV1, renPV, renV1, hasKey, made_zero, e] <;> omega, by simp [boxesR, listsR, csR, renC, keyC, optK, fnd, envR, St.get, keyPV, keyV1, renPV, renV1, hasKey, made_zero, e] <;> omega, by simp [boxesR, listsR, csR, renC, keyC, optK, fnd, envR, St.get, keyPV, keyV1, renPV, renV1, hasKey, made_zero, e] <;> omega, by simp [boxesR, listsR, csR, renC, keyC, optK, fnd, envR, St.get, keyPV, keyV1, renPV, renV1, hasKey, made_zero, e] <;> omega, by simp [boxesR, listsR, csR, renC, keyC, optK, fnd, envR, St.get, keyPV, keyV1, renPV, renV1, hasKey, made_zero, e] <;> omega⟩ (by simp [boxesR, listsR, csR, renC, keyC, optK, fnd, envR, St.get, keyPV, keyV1, renPV, renV1, hasKey, made_zero, e] <;> omega) (by first | rfl | (simp [renPV, renV1, renC, e]))
set_option maxHeartbeats 4000000 in
theorem iGoodJumps_c (d : Nat) (b : Brd) (p g : Int) (p2 : p ≤ 9223372036854775807) (g2 : g ≤ 9223372036854775807) : PC Tryz.prog 115 [] [.a (brdC b), .c (.v (.int .i64 p)), .c (.v (.int .i64 g))] (.s (.c (.o d))) ⟨[], [(d, ⟨58, 3, (goodJ b p g).map lineV, false, true⟩)]⟩ := by
  refine pc_of Tryz.func115 rfl (by kernel_rfl) _ Tryz.ntmps115 (by simp) ?_
  have hjl := jumps_len (b := b) (p := p)
  repeat' first
    | (first | simp -implicitDefEqProofs only [go_sem] | (refine And.intro ?_ ?_; omega) | (refine And.intro (shr_bd ?_ ?_) ?_; omega; omega) | refine sl_list rfl ?_ | refine sd_list rfl ?_ | refine sl_str ?_ | refine sd_str ?_)
    | refine callL1 (fun d => spreadOf_c d b g true g2) rfl rfl rfl ?_
    | refine callL1 (fun d => iJumpsOf_c d b p p2) rfl rfl rfl ?_
  refine loop_step (X := Nat) (fun i => ⟨40, [(1, vN p), (7, vO 15), (8, vO 16), (19, vO 19), (20, vN (jumpsOf b p).length), (21, vN i)], ⟨[], [(16, ⟨58, 3, (filN (goodAt' b p g) (jumpsOf b p) i).map lineV, false, true⟩), (15, ⟨4, 1, (spreadL b true g).map Value.bool, false, true⟩), (19, ⟨58, 3, (jumpsOf b p).map lineV, false, true⟩)]⟩⟩)
    (fun i => i ≤ (jumpsOf b p).length) (fun i => (jumpsOf b p).length - i) 0 (by omega) (weak_of (fun i => i) (fun i => i) rfl ⟨by simp [boxesR, listsR, csR, renC, keyC, optK, fnd, envR, St.get, keyPV, keyV1, renPV, renV1, hasKey, made_zero, filN_zero] <;> omega, by simp [boxesR, listsR, csR, renC, keyC, optK, fnd, envR, St.get, keyPV, keyV1, renPV, renV1, hasKey, made_zero, filN_zero] <;> omega, by simp [boxesR, listsR, csR, renC, keyC, optK, fnd, envR, St.get, keyPV, keyV1, renPV, renV1, hasKey, made_zero, filN_zero] <;> omega, by simp [boxesR, listsR, csR, renC, keyC, optK, fnd, envR, St.get, keyPV, keyV1, renPV, renV1, hasKey, made_zero, filN_zero] <;> omega, by simp [boxesR, listsR, csR, renC, keyC, optK, fnd, envR, St.get, keyPV, keyV1, renPV, renV1, hasKey, made_zero, filN_zero] <;> omega⟩ (by simp [boxesR, listsR, csR, renC, keyC, optK, fnd, envR, St.get, keyPV, keyV1, renPV, renV1, hasKey, made_zero, filN_zero] <;> omega)) (fun i hi => ?_)
  have hf := filN_len (p := goodAt' b p g) (l := jumpsOf b p) (i := i)
  simp -implicitDefEqProofs only [go_sem]
  refine if_splitP (fun h => ?_) (fun h => ?_)
  · have hlt : i < (jumpsOf b p).length := by omega
    have hg := map_get (f := lineV) hlt
    obtain ⟨hp, hm, hcj⟩ := jumps_mem (List.getElem_mem hlt)
    obtain ⟨hb, p0, hsub⟩ := pos_sub hp
    have hln := lnIn hm
    have ej := jumpI_flip hp hm hcj
    (repeat' (first | simp -implicitDefEqProofs only [hg, hlt, lineV, go_sem] | (refine And.intro ?_ ?_; omega) | (refine And.intro (shr_bd ?_ ?_) ?_; omega; omega) | refine sl_list rfl ?_ | refine sd_list rfl ?_ | refine sl_str ?_ | refine sd_str ?_))
    refine callS (jumpFrom_c p (jumpsOf b p)[i] p0 p2 hln) rfl rfl rfl ?_
    (repeat' (first | simp -implicitDefEqProofs only [ej, go_sem] | (refine And.intro ?_ ?_; omega) | (refine And.intro (shr_bd ?_ ?_) ?_; omega; omega) | refine sl_list rfl ?_ | refine sd_list rfl ?_ | refine sl_str ?_ | refine sd_str ?_))
    refine callS (has_c (spreadL b true g) _) rfl rfl rfl ?_
    by_cases h3 : hasS (spreadL b true g) (flip p (jumpsOf b p)[i]) = true
    · have e2 := filN_hit (p := goodAt' b p g) hlt h3
      (repeat' (first | simp -implicitDefEqProofs only [h3, go_sem] | (refine And.intro ?_ ?_; omega) | (refine And.intro (shr_bd ?_ ?_) ?_; omega; omega) | refine sl_list rfl ?_ | refine sd_list rfl ?_ | refine sl_str ?_ | refine sd_str ?_))
      exact ⟨i + 1, by omega, by omega, weak_of (fun i => i) (fun i => if i = 16 then 37 else i) rfl ⟨by simp [boxesR, listsR, csR, renC, keyC, optK, fnd, envR, St.get, keyPV, keyV1, renPV, renV1, hasKey, made_zero, e2, lineV] <;> omega, by simp [boxesR, listsR, csR, renC, keyC, optK, fnd, envR, St.get, keyPV, keyV1, renPV, renV1, hasKey, made_zero, e2, lineV] <;> omega, by simp [boxesR, listsR, csR, renC, keyC, optK, fnd, envR, St.get, keyPV, keyV1, renPV, renV1, hasKey, made_zero, e2, lineV] <;> omega, by simp [boxesR, listsR, csR, renC, keyC, optK, fnd, envR, St.get, keyPV, keyV1, renPV, renV1, hasKey, made_zero, e2, lineV] <;> omega, by simp [boxesR, listsR, csR, renC, keyC, optK, fnd, envR, St.get, keyPV, keyV1, renPV, renV1, hasKey, made_zero, e2, lineV] <;> omega⟩ (by simp [boxesR, listsR, csR, renC, keyC, optK, fnd, envR, St.get, keyPV, keyV1, renPV, renV1, hasKey, made_zero, e2, lineV] <;> omega)⟩
    · have e2 := filN_miss (p := goodAt' b p g) hlt (by simpa [goodAt'] using h3)
      (repeat' (first | simp -implicitDefEqProofs only [h3, go_sem] | (refine And.intro ?_ ?_; omega) | (refine And.intro (shr_bd ?_ ?_) ?_; omega; omega) | refine sl_list rfl ?_ | refine sd_list rfl ?_ | refine sl_str ?_ | refine sd_str ?_))
      exact ⟨i + 1, by omega, by omega, weak_of (fun i => i) (fun i => i) rfl ⟨by simp [boxesR, listsR, csR, renC, keyC, optK, fnd, envR, St.get, keyPV, keyV1, renPV, renV1, hasKey, made_zero, e2] <;> omega, by simp [boxesR, listsR, csR, renC, keyC, optK, fnd, envR, St.get, keyPV, keyV1, renPV, renV1, hasKey, made_zero, e2] <;> omega, by simp [boxesR, listsR, csR, renC, keyC, optK, fnd, envR, St.get, keyPV, keyV1, renPV, renV1, hasKey, made_zero, e2] <;> omega, by simp [boxesR, listsR, csR, renC, keyC, optK, fnd, envR, St.get, keyPV, keyV1, renPV, renV1, hasKey, made_zero, e2] <;> omega, by simp [boxesR, listsR, csR, renC, keyC, optK, fnd, envR, St.get, keyPV, keyV1, renPV, renV1, hasKey, made_zero, e2] <;> omega⟩ (by simp [boxesR, listsR, csR, renC, keyC, optK, fnd, envR, St.get, keyPV, keyV1, renPV, renV1, hasKey, made_zero, e2] <;> omega)⟩
  · have hle : i = (jumpsOf b p).length := by omega
    subst hle
    (repeat' (first | simp -implicitDefEqProofs only [go_sem] | (refine And.intro ?_ ?_; omega) | (refine And.intro (shr_bd ?_ ?_) ?_; omega; omega) | refine sl_list rfl ?_ | refine sd_list rfl ?_ | refine sl_str ?_ | refine sd_str ?_))
    exact fin_of (fun i => i) (fun i => 16) ⟨by simp [boxesR, listsR, csR, renC, keyC, optK, fnd, envR, St.get, keyPV, keyV1, renPV, renV1, hasKey, made_zero, goodJ, filN_end] <;> omega, by simp [boxesR, listsR, csR, renC, keyC, optK, fnd, envR, St.get, keyPV, keyV1, renPV, renV1, hasKey, made_zero, goodJ, filN_end] <;> omega, by simp [boxesR, listsR, csR, renC, keyC, optK, fnd, envR, St.get, keyPV, keyV1, renPV, renV1, hasKey, made_zero, goodJ, filN_end] <;> omega, by simp [boxesR, listsR, csR, renC, keyC, optK, fnd, envR, St.get, keyPV, keyV1, renPV, renV1, hasKey, made_zero, goodJ, filN_end] <;> omega, by simp [boxesR, listsR, csR, renC, keyC, optK, fnd, envR, St.get, keyPV, keyV1, renPV, renV1, hasKey, made_zero, goodJ, filN_end] <;> omega⟩ (by simp [boxesR, listsR, csR, renC, keyC, optK, fnd, envR, St.get, keyPV, keyV1, renPV, renV1, hasKey, made_zero, goodJ, filN_end] <;> omega) (by first | rfl | (simp [renPV, renV1, renC, goodJ, filN_end]))
noncomputable def hintFor (x : Pz) (now : Int) : Option Ln := if puzzleOk x = true ∧ positionOk x.b now = true then (goodJ x.b now x.g).head? else none
theorem head_cons {l : List Ln} (h : 0 < l.length) : l.head? = some l[0] := by
  cases l with
  | nil => simp at h
  | cons a r => rfl
set_option maxHeartbeats 2000000 in
theorem HintFor_c (x : Pz) (now : Int) (hx : pzIn x) (n2 : now ≤ 9223372036854775807) : PC Tryz.prog 105 [] [.a (pzC x), .c (.v (.int .i64 now))] (.t [.a (lineC (lineO (hintFor x now))), .c (.v (.bool (hintFor x now).isSome))]) ⟨[], []⟩ := by
  refine pc_of Tryz.func105 rfl (by kernel_rfl) _ Tryz.ntmps105 (by simp) ?_
  (repeat' (first | simp -implicitDefEqProofs only [go_sem] | (refine And.intro ?_ ?_; omega) | (refine And.intro (shr_bd ?_ ?_) ?_; omega; omega) | refine sl_list rfl ?_ | refine sd_list rfl ?_ | refine sl_str ?_ | refine sd_str ?_))
  refine callS (PuzzleOk_c x hx) rfl rfl rfl ?_
  by_cases h1 : puzzleOk x = true
  · (repeat' (first | simp -implicitDefEqProofs only [h1, go_sem] | (refine And.intro ?_ ?_; omega) | (refine And.intro (shr_bd ?_ ?_) ?_; omega; omega) | refine sl_list rfl ?_ | refine sd_list rfl ?_ | refine sl_str ?_ | refine sd_str ?_))
    refine callS (PositionOk_c x.b now n2) rfl rfl rfl ?_
    by_cases h2 : positionOk x.b now = true
    · have hl := goodJ_len (b := x.b) (p := now) (g := x.g)
      repeat' first
        | (first | simp -implicitDefEqProofs only [h2, go_sem] | (refine And.intro ?_ ?_; omega) | (refine And.intro (shr_bd ?_ ?_) ?_; omega; omega) | refine sl_list rfl ?_ | refine sd_list rfl ?_ | refine sl_str ?_ | refine sd_str ?_)
        | refine callL1 (fun d => GoodJumps_c d x.b now x.g n2 hx.2) rfl rfl rfl ?_
      by_cases h0 : ((goodJ x.b now x.g).length : Int) = 0
      · have e : hintFor x now = none := by
          have : goodJ x.b now x.g = [] := List.eq_nil_of_length_eq_zero (by omega)
          simp [hintFor, h1, h2, this]
        (repeat' (first | simp -implicitDefEqProofs only [h0, go_sem] | (refine And.intro ?_ ?_; omega) | (refine And.intro (shr_bd ?_ ?_) ?_; omega; omega) | refine sl_list rfl ?_ | refine sd_list rfl ?_ | refine sl_str ?_ | refine sd_str ?_))
        exact fin_scal rfl (by simp [e, lineO, retOf])
      · have hlt : 0 < (goodJ x.b now x.g).length := by omega
        have e : hintFor x now = some (goodJ x.b now x.g)[0] := by simp only [hintFor, h1, h2, and_self, if_true]; exact head_cons hlt
        have hg := map_get (f := lineV) hlt
        (repeat' (first | simp -implicitDefEqProofs only [h0, hg, hlt, lineV, go_sem] | (refine And.intro ?_ ?_; omega) | (refine And.intro (shr_bd ?_ ?_) ?_; omega; omega) | refine sl_list rfl ?_ | refine sd_list rfl ?_ | refine sl_str ?_ | refine sd_str ?_))
        exact fin_scal rfl (by simp [e, lineO, retOf])
    · have e : hintFor x now = none := by simp [hintFor, h2]
      (repeat' (first | simp -implicitDefEqProofs only [h2, go_sem] | (refine And.intro ?_ ?_; omega) | (refine And.intro (shr_bd ?_ ?_) ?_; omega; omega) | refine sl_list rfl ?_ | refine sd_list rfl ?_ | refine sl_str ?_ | refine sd_str ?_))
      exact fin_scal rfl (by simp [e, lineO, retOf])
  · have e : hintFor x now = none := by simp [hintFor, h1]
    (repeat' (first | simp -implicitDefEqProofs only [h1, go_sem] | (refine And.intro ?_ ?_; omega) | (refine And.intro (shr_bd ?_ ?_) ?_; omega; omega) | refine sl_list rfl ?_ | refine sd_list rfl ?_ | refine sl_str ?_ | refine sd_str ?_))
    exact fin_scal rfl (by simp [e, lineO, retOf])
set_option maxHeartbeats 2000000 in
theorem iHintFor_c (x : Pz) (now : Int) (hx : pzIn x) (n2 : now ≤ 9223372036854775807) : PC Tryz.prog 100 [] [.a (pzC x), .c (.v (.int .i64 now))] (.t [.a (lineC (lineO (hintFor x now))), .c (.v (.bool (hintFor x now).isSome))]) ⟨[], []⟩ := by
  refine pc_of Tryz.func100 rfl (by kernel_rfl) _ Tryz.ntmps100 (by simp) ?_
  (repeat' (first | simp -implicitDefEqProofs only [go_sem] | (refine And.intro ?_ ?_; omega) | (refine And.intro (shr_bd ?_ ?_) ?_; omega; omega) | refine sl_list rfl ?_ | refine sd_list rfl ?_ | refine sl_str ?_ | refine sd_str ?_))
  refine callS (iPuzzleOk_c x hx) rfl rfl rfl ?_
  by_cases h1 : puzzleOk x = true
  · (repeat' (first | simp -implicitDefEqProofs only [h1, go_sem] | (refine And.intro ?_ ?_; omega) | (refine And.intro (shr_bd ?_ ?_) ?_; omega; omega) | refine sl_list rfl ?_ | refine sd_list rfl ?_ | refine sl_str ?_ | refine sd_str ?_))
    refine callS (iPositionOk_c x.b now n2) rfl rfl rfl ?_
    by_cases h2 : positionOk x.b now = true
    · have hl := goodJ_len (b := x.b) (p := now) (g := x.g)
      repeat' first
        | (first | simp -implicitDefEqProofs only [h2, go_sem] | (refine And.intro ?_ ?_; omega) | (refine And.intro (shr_bd ?_ ?_) ?_; omega; omega) | refine sl_list rfl ?_ | refine sd_list rfl ?_ | refine sl_str ?_ | refine sd_str ?_)
        | refine callL1 (fun d => iGoodJumps_c d x.b now x.g n2 hx.2) rfl rfl rfl ?_
      by_cases h0 : ((goodJ x.b now x.g).length : Int) = 0
      · have e : hintFor x now = none := by
          have : goodJ x.b now x.g = [] := List.eq_nil_of_length_eq_zero (by omega)
          simp [hintFor, h1, h2, this]
        (repeat' (first | simp -implicitDefEqProofs only [h0, go_sem] | (refine And.intro ?_ ?_; omega) | (refine And.intro (shr_bd ?_ ?_) ?_; omega; omega) | refine sl_list rfl ?_ | refine sd_list rfl ?_ | refine sl_str ?_ | refine sd_str ?_))
        exact fin_scal rfl (by simp [e, lineO, retOf])
      · have hlt : 0 < (goodJ x.b now x.g).length := by omega
        have e : hintFor x now = some (goodJ x.b now x.g)[0] := by simp only [hintFor, h1, h2, and_self, if_true]; exact head_cons hlt
        have hg := map_get (f := lineV) hlt
        (repeat' (first | simp -implicitDefEqProofs only [h0, hg, hlt, lineV, go_sem] | (refine And.intro ?_ ?_; omega) | (refine And.intro (shr_bd ?_ ?_) ?_; omega; omega) | refine sl_list rfl ?_ | refine sd_list rfl ?_ | refine sl_str ?_ | refine sd_str ?_))
        exact fin_scal rfl (by simp [e, lineO, retOf])
    · have e : hintFor x now = none := by simp [hintFor, h2]
      (repeat' (first | simp -implicitDefEqProofs only [h2, go_sem] | (refine And.intro ?_ ?_; omega) | (refine And.intro (shr_bd ?_ ?_) ?_; omega; omega) | refine sl_list rfl ?_ | refine sd_list rfl ?_ | refine sl_str ?_ | refine sd_str ?_))
      exact fin_scal rfl (by simp [e, lineO, retOf])
  · have e : hintFor x now = none := by simp [hintFor, h1]
    (repeat' (first | simp -implicitDefEqProofs only [h1, go_sem] | (refine And.intro ?_ ?_; omega) | (refine And.intro (shr_bd ?_ ?_) ?_; omega; omega) | refine sl_list rfl ?_ | refine sd_list rfl ?_ | refine sl_str ?_ | refine sd_str ?_))
    exact fin_scal rfl (by simp [e, lineO, retOf])
end Go.Proofs.YtggejdgohkfmmaaGreat
