/-
  Searches there and back; pegs that can be spared.
-/
import Derived.Test.YtmckpdackhlgbaaP5
namespace Go.Proofs.Ytmckpdackhlgbaa
open Go.PL
set_option linter.unusedSimpArgs false
theorem xor_xor (a c : Nat) : (a ^^^ c) ^^^ c = a := by rw [Nat.xor_assoc, Nat.xor_self, Nat.xor_zero]
theorem able_turn {b : Brd} {q : Nat} {l : Ln} (hl : l ∈ linesOf b) (bk : Bool) (h : able bk q l = true) : able (!bk) (q ^^^ bitsL l) l = true := by
  obtain ⟨f0, f1, o0, o1, t0, t1⟩ := lnIn hl
  cases bk with
  | false =>
    simp only [able_f, canJ, bitAt_int f0, bitAt_int o0, bitAt_int t0, Bool.and_eq_true, Bool.not_eq_true'] at h
    simp only [Bool.not_false, able_t, canU, bitAt_int f0, bitAt_int o0, bitAt_int t0, Nat.testBit_xor, bitsL, Nat.testBit_or, Nat.testBit_two_pow]
    simp [h.1, h.2.1, h.2.2]
  | true =>
    simp only [able_t, canU, bitAt_int f0, bitAt_int o0, bitAt_int t0, Bool.and_eq_true, Bool.not_eq_true'] at h
    simp only [Bool.not_true, able_f, canJ, bitAt_int f0, bitAt_int o0, bitAt_int t0, Nat.testBit_xor, bitsL, Nat.testBit_or, Nat.testBit_two_pow]
    simp [h.1, h.2.1, h.2.2]
theorem rch_front {b : Brd} {bk : Bool} {a x : Nat} {l : Ln} (hl : l ∈ linesOf b) (ha : able bk a l = true) (h : Rch b bk (a ^^^ bitsL l) x) : Rch b bk a x := by
  induction h with
  | refl => exact .step a l .refl hl ha
  | step q l' _ hl' ha' ih => exact .step q l' ih hl' ha'
theorem rch_turn {b : Brd} {bk : Bool} {a x : Nat} (h : Rch b bk a x) : Rch b (!bk) x a := by
  induction h with
  | refl => exact .refl
  | step q l _ hl ha ih =>
    have h1 := able_turn hl bk ha
    refine rch_front hl h1 ?_
    rw [xor_xor]
    exact ih
theorem rch_both {b : Brd} {a x : Nat} : Rch b false a x ↔ Rch b true x a := ⟨rch_turn (bk := false), rch_turn (bk := true)⟩
theorem has_spread {b : Brd} {bk : Bool} {g p : Int} : hasS (spreadL b bk g) p = true ↔ isSmall b = true ∧ positionOk b g = true ∧ positionOk b p = true ∧ Rch b bk g.toNat p.toNat := by
  unfold hasS spreadL
  constructor
  · intro h
    simp only [Bool.and_eq_true, decide_eq_true_eq] at h
    obtain ⟨p0, h⟩ := h
    split at h
    · rename_i hh
      have hg : (seenL b bk g.toNat)[p.toNat]? = some true := by
        cases hx : (seenL b bk g.toNat)[p.toNat]? with
        | none => rw [hx] at h; cases h
        | some x => rw [hx] at h; simp at h; rw [h]
      obtain ⟨h1, h2⟩ := seenL_get.1 hg
      obtain ⟨hb, g0, hsub⟩ := pos_sub hh.2
      have := sub_pos hb (rch_sub hsub h2)
      rw [Int.toNat_of_nonneg p0] at this
      exact ⟨hh.1, hh.2, this, h2⟩
    · simp at h
  · rintro ⟨hs, hg, hp, hr⟩
    obtain ⟨hb, p0, hsub⟩ := pos_sub hp
    rw [if_pos ⟨hs, hg⟩, (seenL_get (b := b) (bk := bk) (p := g.toNat) (q := p.toNat)).2 ⟨sub_lt hb hsub, hr⟩]
    simp [p0]
noncomputable def canReach (b : Brd) (p g : Int) : Bool := hasS (spreadL b false p) g
theorem canReach_back {b : Brd} {p g : Int} : canReach b p g = hasS (spreadL b true g) p := by
  rw [Bool.eq_iff_iff]
  unfold canReach
  rw [has_spread, has_spread, rch_both]
  constructor
  · rintro ⟨a, c, d, e⟩; exact ⟨a, d, c, e⟩
  · rintro ⟨a, c, d, e⟩; exact ⟨a, d, c, e⟩
theorem CanReach_c (b : Brd) (p g : Int) (hp2 : p ≤ 9223372036854775807) (hg2 : g ≤ 9223372036854775807) : PC Try.prog 67 [] [.a (brdC b), .c (.v (.int .i64 p)), .c (.v (.int .i64 g))] (vB (canReach b p g)) ⟨[], []⟩ := by
  refine pc_of Try.func67 rfl (by kernel_rfl) _ Try.ntmps67 (by simp) ?_
  simp -implicitDefEqProofs only [go_sem, Nat.reduceLT, Nat.reduceLeDiff, Nat.reduceEqDiff, Nat.reduceAdd, Nat.reduceSub, Nat.reduceMul, Int.reduceEq, Int.reduceLT, Int.reduceLE, Int.reduceNeg, Int.reduceAdd, Int.reduceSub, Int.reduceMul, Int.reduceToNat, reduceIte, reduceCtorEq, List.map_cons, List.map_nil]
  refine callS (IsSmall_c b) rfl rfl rfl ?_
  have no : (isSmall b = true → positionOk b p = true → positionOk b g = true → False) → canReach b p g = false := fun h => by
    cases hc : canReach b p g with
    | false => rfl
    | true => have := has_spread.1 (show hasS _ _ = true from hc); exact (h this.1 this.2.1 this.2.2.1).elim
  by_cases hs : isSmall b = true
  · simp -implicitDefEqProofs only [hs, go_sem, Nat.reduceLT, Nat.reduceLeDiff, Nat.reduceEqDiff, Nat.reduceAdd, Nat.reduceSub, Nat.reduceMul, Int.reduceEq, Int.reduceLT, Int.reduceLE, Int.reduceNeg, Int.reduceAdd, Int.reduceSub, Int.reduceMul, Int.reduceToNat, reduceIte, reduceCtorEq, List.map_cons, List.map_nil]
    refine callS (PositionOk_c b p hp2) rfl rfl rfl ?_
    by_cases hp : positionOk b p = true
    · simp -implicitDefEqProofs only [hs, hp, go_sem, Nat.reduceLT, Nat.reduceLeDiff, Nat.reduceEqDiff, Nat.reduceAdd, Nat.reduceSub, Nat.reduceMul, Int.reduceEq, Int.reduceLT, Int.reduceLE, Int.reduceNeg, Int.reduceAdd, Int.reduceSub, Int.reduceMul, Int.reduceToNat, reduceIte, reduceCtorEq, List.map_cons, List.map_nil]
      refine callS (PositionOk_c b g hg2) rfl rfl rfl ?_
      by_cases hg : positionOk b g = true
      · simp -implicitDefEqProofs only [hs, hp, hg, go_sem, Nat.reduceLT, Nat.reduceLeDiff, Nat.reduceEqDiff, Nat.reduceAdd, Nat.reduceSub, Nat.reduceMul, Int.reduceEq, Int.reduceLT, Int.reduceLE, Int.reduceNeg, Int.reduceAdd, Int.reduceSub, Int.reduceMul, Int.reduceToNat, reduceIte, reduceCtorEq, List.map_cons, List.map_nil]
        refine callL (l14Seen_c 22 b p false hs hp) rfl rfl rfl ?_
        obtain ⟨hb, g0, hsub⟩ := pos_sub hg
        have hlt := sub_lt hb hsub
        have hsl : (seenL b false p.toNat).length = boardN b := seenL_len
        have hgl : g.toNat < (seenL b false p.toNat).length := by rw [hsl]; exact hlt
        have hgg : ((seenL b false p.toNat).map Value.bool)[g.toNat]? = some (.bool (seenL b false p.toNat)[g.toNat]) := by simp [hgl]
        have e : canReach b p g = (seenL b false p.toNat)[g.toNat] := by simp [canReach, spreadL, hs, hp, hasS, g0, hgl]
        (repeat' (first | simp -implicitDefEqProofs only [hs, hp, hg, hgg, hgl, go_sem, Nat.reduceLT, Nat.reduceLeDiff, Nat.reduceEqDiff, Nat.reduceAdd, Nat.reduceSub, Nat.reduceMul, Int.reduceEq, Int.reduceLT, Int.reduceLE, Int.reduceNeg, Int.reduceAdd, Int.reduceSub, Int.reduceMul, Int.reduceToNat, reduceIte, reduceCtorEq, List.map_cons, List.map_nil] | (refine And.intro ?_ ?_; omega) | (refine And.intro (shr_bd ?_ ?_) ?_; omega; omega) | refine sl_list rfl ?_ | refine sd_list rfl ?_ | refine sl_str ?_ | refine sd_str ?_))
        exact fin_scal rfl (by rw [e])
      · simp -implicitDefEqProofs only [hs, hp, hg, go_sem, Nat.reduceLT, Nat.reduceLeDiff, Nat.reduceEqDiff, Nat.reduceAdd, Nat.reduceSub, Nat.reduceMul, Int.reduceEq, Int.reduceLT, Int.reduceLE, Int.reduceNeg, Int.reduceAdd, Int.reduceSub, Int.reduceMul, Int.reduceToNat, reduceIte, reduceCtorEq, List.map_cons, List.map_nil]
        exact fin_scal rfl (by rw [no fun _ _ h => hg h])
    · simp -implicitDefEqProofs only [hs, hp, go_sem, Nat.reduceLT, Nat.reduceLeDiff, Nat.reduceEqDiff, Nat.reduceAdd, Nat.reduceSub, Nat.reduceMul, Int.reduceEq, Int.reduceLT, Int.reduceLE, Int.reduceNeg, Int.reduceAdd, Int.reduceSub, Int.reduceMul, Int.reduceToNat, reduceIte, reduceCtorEq, List.map_cons, List.map_nil]
      exact fin_scal rfl (by rw [no fun _ h _ => hp h])
  · simp -implicitDefEqProofs only [hs, go_sem, Nat.reduceLT, Nat.reduceLeDiff, Nat.reduceEqDiff, Nat.reduceAdd, Nat.reduceSub, Nat.reduceMul, Int.reduceEq, Int.reduceLT, Int.reduceLE, Int.reduceNeg, Int.reduceAdd, Int.reduceSub, Int.reduceMul, Int.reduceToNat, reduceIte, reduceCtorEq, List.map_cons, List.map_nil]
    exact fin_scal rfl (by rw [no fun h _ _ => hs h])
theorem l15Back_c (d : Nat) (b : Brd) (g : Int) (hs : isSmall b = true) (hg : positionOk b g = true) : PC Try.prog 68 [] [.a (brdC b), .c (.v (.int .i64 g))] (.s (.c (.o d))) ⟨[], [(d, ⟨4, 1, (spreadL b true g).map Value.bool, false, true⟩)]⟩ := by
  refine pc_of Try.func68 rfl (by kernel_rfl) _ Try.ntmps68 (by simp) ?_
  have e : spreadL b true g = seenL b true g.toNat := by simp [spreadL, hs, hg]
  simp -implicitDefEqProofs only [go_sem, Nat.reduceLT, Nat.reduceLeDiff, Nat.reduceEqDiff, Nat.reduceAdd, Nat.reduceSub, Nat.reduceMul, Int.reduceEq, Int.reduceLT, Int.reduceLE, Int.reduceNeg, Int.reduceAdd, Int.reduceSub, Int.reduceMul, Int.reduceToNat, reduceIte, reduceCtorEq, List.map_cons, List.map_nil]
  refine callL (l14Seen_c 7 b g true hs hg) rfl rfl rfl ?_
  simp -implicitDefEqProofs only [go_sem, Nat.reduceLT, Nat.reduceLeDiff, Nat.reduceEqDiff, Nat.reduceAdd, Nat.reduceSub, Nat.reduceMul, Int.reduceEq, Int.reduceLT, Int.reduceLE, Int.reduceNeg, Int.reduceAdd, Int.reduceSub, Int.reduceMul, Int.reduceToNat, reduceIte, reduceCtorEq, List.map_cons, List.map_nil]
  exact fin_of (fun i => i) (fun i => 7) ⟨by simp [boxesR, listsR, csR, renC, keyC, optK, fnd, envR, St.get, keyPV, keyV1, renPV, renV1, hasKey, made_zero, e] <;> omega, by simp [boxesR, listsR, csR, renC, keyC, optK, fnd, envR, St.get, keyPV, keyV1, renPV, renV1, hasKey, made_zero, e] <;> omega, by simp [boxesR, listsR, csR, renC, keyC, optK, fnd, envR, St.get, keyPV, keyV1, renPV, renV1, hasKey, made_zero, e] <;> omega, by simp [boxesR, listsR, csR, renC, keyC, optK, fnd, envR, St.get, keyPV, keyV1, renPV, renV1, hasKey, made_zero, e] <;> omega, by simp [boxesR, listsR, csR, renC, keyC, optK, fnd, envR, St.get, keyPV, keyV1, renPV, renV1, hasKey, made_zero, e] <;> omega⟩ (by simp [boxesR, listsR, csR, renC, keyC, optK, fnd, envR, St.get, keyPV, keyV1, renPV, renV1, hasKey, made_zero, e] <;> omega) (by first | rfl | (simp [renPV, renV1, renC, e]))
/-! ### spared pegs -/
def spAt (S : List Bool) (p k : Int) : Bool := bitAt p k && hasS S ((ndiff p.toNat (2 ^ k.toNat) : Nat) : Int)
def spares (b : Brd) (S : List Bool) (p : Int) : List Int := (holesOf b).filter (spAt S p)
theorem spares_len {b : Brd} {S : List Bool} {p : Int} : (spares b S p).length ≤ 49 := by
  have h1 := List.length_filter_le (spAt S p) (holesOf b)
  have h2 := holes_len (b := b)
  unfold spares; omega
set_option maxHeartbeats 2000000 in
theorem sparesIn_c (d : Nat) (b : Brd) (S : List Bool) (p : Int) (p0 : 0 ≤ p) (p2 : p ≤ 9223372036854775807) : PC Try.prog 83 [] [.c (.l 1 (S.map Value.bool)), .a (brdC b), .c (.v (.int .i64 p))] (.s (.c (.o d))) ⟨[], [(d, ⟨3, 1, (spares b S p).map iV, false, true⟩)]⟩ := by
  refine pc_of Try.func83 rfl (by kernel_rfl) _ Try.ntmps83 (by simp) ?_
  simp -implicitDefEqProofs only [go_sem, Nat.reduceLT, Nat.reduceLeDiff, Nat.reduceEqDiff, Nat.reduceAdd, Nat.reduceSub, Nat.reduceMul, Int.reduceEq, Int.reduceLT, Int.reduceLE, Int.reduceNeg, Int.reduceAdd, Int.reduceSub, Int.reduceMul, Int.reduceToNat, reduceIte, reduceCtorEq, List.map_cons, List.map_nil]
  refine callL (iHolesOf_c 12 b) rfl rfl rfl ?_
  have hl := holes_len (b := b)
  simp -implicitDefEqProofs only [go_sem, Nat.reduceLT, Nat.reduceLeDiff, Nat.reduceEqDiff, Nat.reduceAdd, Nat.reduceSub, Nat.reduceMul, Int.reduceEq, Int.reduceLT, Int.reduceLE, Int.reduceNeg, Int.reduceAdd, Int.reduceSub, Int.reduceMul, Int.reduceToNat, reduceIte, reduceCtorEq, List.map_cons, List.map_nil]
  refine loop_step (X := Nat) (fun i => ⟨35, [(0, vL 1 (S.map Value.bool)), (2, vN p), (7, vO 10), (12, vO 12), (13, vN (holesOf b).length), (14, vN i)], ⟨[], [(10, ⟨3, 1, (filN (spAt S p) (holesOf b) i).map iV, false, true⟩), (12, ⟨3, 1, (holesOf b).map iV, false, true⟩)]⟩⟩)
    (fun i => i ≤ (holesOf b).length) (fun i => (holesOf b).length - i) 0 (by omega) (weak_of (fun i => i) (fun i => i) rfl ⟨by simp [boxesR, listsR, csR, renC, keyC, optK, fnd, envR, St.get, keyPV, keyV1, renPV, renV1, hasKey, made_zero, filN_zero] <;> omega, by simp [boxesR, listsR, csR, renC, keyC, optK, fnd, envR, St.get, keyPV, keyV1, renPV, renV1, hasKey, made_zero, filN_zero] <;> omega, by simp [boxesR, listsR, csR, renC, keyC, optK, fnd, envR, St.get, keyPV, keyV1, renPV, renV1, hasKey, made_zero, filN_zero] <;> omega, by simp [boxesR, listsR, csR, renC, keyC, optK, fnd, envR, St.get, keyPV, keyV1, renPV, renV1, hasKey, made_zero, filN_zero] <;> omega, by simp [boxesR, listsR, csR, renC, keyC, optK, fnd, envR, St.get, keyPV, keyV1, renPV, renV1, hasKey, made_zero, filN_zero] <;> omega⟩ (by simp [boxesR, listsR, csR, renC, keyC, optK, fnd, envR, St.get, keyPV, keyV1, renPV, renV1, hasKey, made_zero, filN_zero] <;> omega)) (fun i hi => ?_)
  have hf := filN_len (p := spAt S p) (l := holesOf b) (i := i)
  simp -implicitDefEqProofs only [go_sem, Nat.reduceLT, Nat.reduceLeDiff, Nat.reduceEqDiff, Nat.reduceAdd, Nat.reduceSub, Nat.reduceMul, Int.reduceEq, Int.reduceLT, Int.reduceLE, Int.reduceNeg, Int.reduceAdd, Int.reduceSub, Int.reduceMul, Int.reduceToNat, reduceIte, reduceCtorEq, List.map_cons, List.map_nil]
  refine if_splitP (fun h => ?_) (fun h => ?_)
  · have hlt : i < (holesOf b).length := by omega
    have hg := map_get (f := iV) hlt
    obtain ⟨hb, hh, k0, k1⟩ := mem_holes (List.getElem_mem hlt)
    have hpw := pow48 k0 k1
    have miss : spAt S p (holesOf b)[i] = false → filN (spAt S p) (holesOf b) (i + 1) = filN (spAt S p) (holesOf b) i := filN_miss hlt
    have hit : spAt S p (holesOf b)[i] = true → filN (spAt S p) (holesOf b) (i + 1) = filN (spAt S p) (holesOf b) i ++ [(holesOf b)[i]] := filN_hit hlt
    (repeat' (first | simp -implicitDefEqProofs only [hg, hlt, go_sem, Nat.reduceLT, Nat.reduceLeDiff, Nat.reduceEqDiff, Nat.reduceAdd, Nat.reduceSub, Nat.reduceMul, Int.reduceEq, Int.reduceLT, Int.reduceLE, Int.reduceNeg, Int.reduceAdd, Int.reduceSub, Int.reduceMul, Int.reduceToNat, reduceIte, reduceCtorEq, List.map_cons, List.map_nil] | (refine And.intro ?_ ?_; omega) | (refine And.intro (shr_bd ?_ ?_) ?_; omega; omega) | refine sl_list rfl ?_ | refine sd_list rfl ?_ | refine sl_str ?_ | refine sd_str ?_))
    refine callS (hasBit_c p _ p0 p2 k0 (by omega)) rfl rfl rfl ?_
    by_cases t1 : bitAt p (holesOf b)[i] = true
    · (repeat' (first | simp -implicitDefEqProofs only [t1, go_sem, Nat.reduceLT, Nat.reduceLeDiff, Nat.reduceEqDiff, Nat.reduceAdd, Nat.reduceSub, Nat.reduceMul, Int.reduceEq, Int.reduceLT, Int.reduceLE, Int.reduceNeg, Int.reduceAdd, Int.reduceSub, Int.reduceMul, Int.reduceToNat, reduceIte, reduceCtorEq, List.map_cons, List.map_nil] | (refine And.intro ?_ ?_; omega) | (refine And.intro (shr_bd ?_ ?_) ?_; omega; omega) | refine sl_list rfl ?_ | refine sd_list rfl ?_ | refine sl_str ?_ | refine sd_str ?_))
      refine callS (has_c S _) rfl rfl rfl ?_
      by_cases t2 : hasS S ((ndiff p.toNat (2 ^ (holesOf b)[i].toNat) : Nat) : Int) = true
      · have e := hit (by simp [spAt, t1, t2])
        (repeat' (first | simp -implicitDefEqProofs only [t1, t2, go_sem, Nat.reduceLT, Nat.reduceLeDiff, Nat.reduceEqDiff, Nat.reduceAdd, Nat.reduceSub, Nat.reduceMul, Int.reduceEq, Int.reduceLT, Int.reduceLE, Int.reduceNeg, Int.reduceAdd, Int.reduceSub, Int.reduceMul, Int.reduceToNat, reduceIte, reduceCtorEq, List.map_cons, List.map_nil] | (refine And.intro ?_ ?_; omega) | (refine And.intro (shr_bd ?_ ?_) ?_; omega; omega) | refine sl_list rfl ?_ | refine sd_list rfl ?_ | refine sl_str ?_ | refine sd_str ?_))
        exact ⟨i + 1, by omega, by omega, weak_of (fun i => i) (fun i => if i = 10 then 32 else i) rfl ⟨by simp [boxesR, listsR, csR, renC, keyC, optK, fnd, envR, St.get, keyPV, keyV1, renPV, renV1, hasKey, made_zero, e] <;> omega, by simp [boxesR, listsR, csR, renC, keyC, optK, fnd, envR, St.get, keyPV, keyV1, renPV, renV1, hasKey, made_zero, e] <;> omega, by simp [boxesR, listsR, csR, renC, keyC, optK, fnd, envR, St.get, keyPV, keyV1, renPV, renV1, hasKey, made_zero, e] <;> omega, by simp [boxesR, listsR, csR, renC, keyC, optK, fnd, envR, St.get, keyPV, keyV1, renPV, renV1, hasKey, made_zero, e] <;> omega, by simp [boxesR, listsR, csR, renC, keyC, optK, fnd, envR, St.get, keyPV, keyV1, renPV, renV1, hasKey, made_zero, e] <;> omega⟩ (by simp [boxesR, listsR, csR, renC, keyC, optK, fnd, envR, St.get, keyPV, keyV1, renPV, renV1, hasKey, made_zero, e] <;> omega)⟩
      · have e := miss (by simp [spAt, t2])
        (repeat' (first | simp -implicitDefEqProofs only [t1, t2, go_sem, Nat.reduceLT, Nat.reduceLeDiff, Nat.reduceEqDiff, Nat.reduceAdd, Nat.reduceSub, Nat.reduceMul, Int.reduceEq, Int.reduceLT, Int.reduceLE, Int.reduceNeg, Int.reduceAdd, Int.reduceSub, Int.reduceMul, Int.reduceToNat, reduceIte, reduceCtorEq, List.map_cons, List.map_nil] | (refine And.intro ?_ ?_; omega) | (refine And.intro (shr_bd ?_ ?_) ?_; omega; omega) | refine sl_list rfl ?_ | refine sd_list rfl ?_ | refine sl_str ?_ | refine sd_str ?_))
        exact ⟨i + 1, by omega, by omega, weak_of (fun i => i) (fun i => i) rfl ⟨by simp [boxesR, listsR, csR, renC, keyC, optK, fnd, envR, St.get, keyPV, keyV1, renPV, renV1, hasKey, made_zero, e] <;> omega, by simp [boxesR, listsR, csR, renC, keyC, optK, fnd, envR, St.get, keyPV, keyV1, renPV, renV1, hasKey, made_zero, e] <;> omega, by simp [boxesR, listsR, csR, renC, keyC, optK, fnd, envR, St.get, keyPV, keyV1, renPV, renV1, hasKey, made_zero, e] <;> omega, by simp [boxesR, listsR, csR, renC, keyC, optK, fnd, envR, St.get, keyPV, keyV1, renPV, renV1, hasKey, made_zero, e] <;> omega, by simp [boxesR, listsR, csR, renC, keyC, optK, fnd, envR, St.get, keyPV, keyV1, renPV, renV1, hasKey, made_zero, e] <;> omega⟩ (by simp [boxesR, listsR, csR, renC, keyC, optK, fnd, envR, St.get, keyPV, keyV1, renPV, renV1, hasKey, made_zero, e] <;> omega)⟩
    · have e := miss (by simp [spAt, t1])
      (repeat' (first | simp -implicitDefEqProofs only [t1, go_sem, Nat.reduceLT, Nat.reduceLeDiff, Nat.reduceEqDiff, Nat.reduceAdd, Nat.reduceSub, Nat.reduceMul, Int.reduceEq, Int.reduceLT, Int.reduceLE, Int.reduceNeg, Int.reduceAdd, Int.reduceSub, Int.reduceMul, Int.reduceToNat, reduceIte, reduceCtorEq, List.map_cons, List.map_nil] | (refine And.intro ?_ ?_; omega) | (refine And.intro (shr_bd ?_ ?_) ?_; omega; omega) | refine sl_list rfl ?_ | refine sd_list rfl ?_ | refine sl_str ?_ | refine sd_str ?_))
      exact ⟨i + 1, by omega, by omega, weak_of (fun i => i) (fun i => i) rfl ⟨by simp [boxesR, listsR, csR, renC, keyC, optK, fnd, envR, St.get, keyPV, keyV1, renPV, renV1, hasKey, made_zero, e] <;> omega, by simp [boxesR, listsR, csR, renC, keyC, optK, fnd, envR, St.get, keyPV, keyV1, renPV, renV1, hasKey, made_zero, e] <;> omega, by simp [boxesR, listsR, csR, renC, keyC, optK, fnd, envR, St.get, keyPV, keyV1, renPV, renV1, hasKey, made_zero, e] <;> omega, by simp [boxesR, listsR, csR, renC, keyC, optK, fnd, envR, St.get, keyPV, keyV1, renPV, renV1, hasKey, made_zero, e] <;> omega, by simp [boxesR, listsR, csR, renC, keyC, optK, fnd, envR, St.get, keyPV, keyV1, renPV, renV1, hasKey, made_zero, e] <;> omega⟩ (by simp [boxesR, listsR, csR, renC, keyC, optK, fnd, envR, St.get, keyPV, keyV1, renPV, renV1, hasKey, made_zero, e] <;> omega)⟩
  · have hle : i = (holesOf b).length := by omega
    subst hle
    simp -implicitDefEqProofs only [filN_end, go_sem, Nat.reduceLT, Nat.reduceLeDiff, Nat.reduceEqDiff, Nat.reduceAdd, Nat.reduceSub, Nat.reduceMul, Int.reduceEq, Int.reduceLT, Int.reduceLE, Int.reduceNeg, Int.reduceAdd, Int.reduceSub, Int.reduceMul, Int.reduceToNat, reduceIte, reduceCtorEq, List.map_cons, List.map_nil]
    exact fin_of (fun i => i) (fun i => 10) ⟨by simp [boxesR, listsR, csR, renC, keyC, optK, fnd, envR, St.get, keyPV, keyV1, renPV, renV1, hasKey, made_zero, spares] <;> omega, by simp [boxesR, listsR, csR, renC, keyC, optK, fnd, envR, St.get, keyPV, keyV1, renPV, renV1, hasKey, made_zero, spares] <;> omega, by simp [boxesR, listsR, csR, renC, keyC, optK, fnd, envR, St.get, keyPV, keyV1, renPV, renV1, hasKey, made_zero, spares] <;> omega, by simp [boxesR, listsR, csR, renC, keyC, optK, fnd, envR, St.get, keyPV, keyV1, renPV, renV1, hasKey, made_zero, spares] <;> omega, by simp [boxesR, listsR, csR, renC, keyC, optK, fnd, envR, St.get, keyPV, keyV1, renPV, renV1, hasKey, made_zero, spares] <;> omega⟩ (by simp [boxesR, listsR, csR, renC, keyC, optK, fnd, envR, St.get, keyPV, keyV1, renPV, renV1, hasKey, made_zero, spares] <;> omega) (by first | rfl | (simp [renPV, renV1, renC, spares]))
theorem add_or : ∀ (n a b : Nat), a < 2 ^ n → a &&& b = 0 → a + b = a ||| b
  | 0, a, b, h, _ => by
    have : a = 0 := by simpa using h
    subst this; simp
  | n + 1, a, b, h, hab => by
    have h2 : a / 2 &&& b / 2 = 0 := by rw [← Nat.and_div_two, hab]
    have ih := add_or n (a / 2) (b / 2) (by rw [Nat.pow_succ] at h; omega) h2
    rw [← Nat.or_div_two] at ih
    have h3 : ¬ (a % 2 = 1 ∧ b % 2 = 1) := by rw [← Nat.and_mod_two_eq_one, hab]; simp
    have h4 := Nat.or_mod_two_eq_one (a := a) (b := b)
    have h5 : (a ||| b) % 2 = 0 ∨ (a ||| b) % 2 = 1 := by omega
    by_cases h6 : (a ||| b) % 2 = 1
    · have := h4.1 h6; omega
    · have h7 : ¬ (a % 2 = 1 ∨ b % 2 = 1) := fun h => h6 (h4.2 h)
      omega
theorem ndiff_sub {p k : Nat} (h : p.testBit k = true) : ndiff p (2 ^ k) = p - 2 ^ k := by
  have e : p &&& 2 ^ k = 2 ^ k := by
    apply Nat.eq_of_testBit_eq
    intro j
    rw [Nat.testBit_and, Nat.testBit_two_pow]
    by_cases hj : k = j
    · subst hj; simp [h]
    · simp [hj]
  have h1 : ndiff p (2 ^ k) &&& 2 ^ k = 0 := by
    apply Nat.eq_of_testBit_eq
    intro j
    rw [Nat.testBit_and, tb_ndiff, Nat.zero_testBit]
    cases p.testBit j <;> cases (2 ^ k).testBit j <;> rfl
  have h2 : ndiff p (2 ^ k) ||| 2 ^ k = p := by
    apply Nat.eq_of_testBit_eq
    intro j
    rw [Nat.testBit_or, tb_ndiff, Nat.testBit_two_pow]
    by_cases hj : k = j
    · subst hj; simp [h]
    · simp [hj]
  have h3 : ndiff p (2 ^ k) + 2 ^ k = p := by
    rw [add_or (ndiff p (2 ^ k)) _ _ Nat.lt_two_pow_self h1, h2]
  omega
end Go.Proofs.Ytmckpdackhlgbaa
