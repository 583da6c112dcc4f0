/-
  What the functions compute that find the pegs that can be spared and tight positions; the laws on them.
-/
import Derived.Test.YtmckpdackhlgbaaP6
import Derived.Test.YtmckpdackhlgbaaL7
namespace Go.Proofs.Ytmckpdackhlgbaa
open Go.PL
set_option linter.unusedSimpArgs false
theorem bitsN_sub {b : Brd} {p : Nat} (hb : boardOk b = true) (h : Sub b p) : bitsN (p : Int) 49 = (holesOf b).filter (bitAt (p : Int)) := by
  have n1 := (bok hb).n1
  rw [← holes_49 hb]
  unfold bitsN
  rw [List.filter_map, List.filter_filter]
  congr 1
  apply List.filter_congr
  intro k _
  simp only [Function.comp]
  cases hk : bitAt (p : Int) (k : Int) with
  | false => rfl
  | true =>
    rw [bitAt_nat] at hk
    have := h k hk
    have e : bitAt b.n (k : Int) = b.n.toNat.testBit k := by
      have := bitAt_toNat (p := b.n) (k := (k : Int)) (by omega) (by omega)
      rw [Int.toNat_natCast] at this
      exact this
    rw [e, this]; rfl
theorem spares_eq {b : Brd} {S : List Bool} {p : Nat} (hb : boardOk b = true) (h : Sub b p) : spares b S (p : Int) = (bitsN (p : Int) 49).filter fun k => hasS S ((p : Int) - 2 ^ k.toNat) := by
  rw [bitsN_sub hb h, List.filter_filter]
  unfold spares
  apply List.filter_congr
  intro k hk
  obtain ⟨_, _, k0, _⟩ := mem_holes hk
  simp only [spAt]
  cases hb : bitAt (p : Int) k with
  | false => simp
  | true =>
    rw [bitAt_int k0] at hb
    have e := ndiff_sub hb
    have hle : 2 ^ k.toNat ≤ p := Nat.ge_two_pow_of_testBit hb
    have e2 : ((ndiff p (2 ^ k.toNat) : Nat) : Int) = (p : Int) - 2 ^ k.toNat := by
      rw [e, Int.ofNat_sub hle]; simp
    rw [Int.toNat_natCast, e2]
    simp
set_option maxHeartbeats 2000000 in
theorem l36Spare_c (d : Nat) (b : Brd) (S : List Bool) (p : Nat) (hb : boardOk b = true) (hp : Sub b p) (hS : p < S.length) (hN : p ≤ 9223372036854775807) : PC Try.prog 90 [] [.a (brdC b), .c (.v (.int .i64 (p : Int))), .c (.l 1 (S.map Value.bool))] (.s (.c (.o d))) ⟨[], [(d, ⟨3, 1, (spares b S (p : Int)).map iV, false, true⟩)]⟩ := by
  refine pc_of Try.func90 rfl (by kernel_rfl) _ Try.ntmps90 (by simp) ?_
  (repeat' (first | simp -implicitDefEqProofs only [go_sem, Nat.reduceLT, Nat.reduceLeDiff, Nat.reduceEqDiff, Nat.reduceAdd, Nat.reduceSub, Nat.reduceMul, Int.reduceEq, Int.reduceLT, Int.reduceLE, Int.reduceNeg, Int.reduceAdd, Int.reduceSub, Int.reduceMul, Int.reduceToNat, reduceIte, reduceCtorEq, List.map_cons, List.map_nil] | (refine And.intro ?_ ?_; omega) | (refine And.intro (shr_bd ?_ ?_) ?_; omega; omega) | refine sl_list rfl ?_ | refine sd_list rfl ?_ | refine sl_str ?_ | refine sd_str ?_))
  refine callL (l02List_c 12 (p : Int) (by omega) (by omega)) rfl rfl rfl ?_
  have hl := bitsN_len (n := (p : Int)) (m := 49)
  simp -implicitDefEqProofs only [go_sem, Nat.reduceLT, Nat.reduceLeDiff, Nat.reduceEqDiff, Nat.reduceAdd, Nat.reduceSub, Nat.reduceMul, Int.reduceEq, Int.reduceLT, Int.reduceLE, Int.reduceNeg, Int.reduceAdd, Int.reduceSub, Int.reduceMul, Int.reduceToNat, reduceIte, reduceCtorEq, List.map_cons, List.map_nil]
  refine loop_step (X := Nat) (fun i => ⟨37, [(1, vN (p : Int)), (2, vL 1 (S.map Value.bool)), (7, vO 10), (8, vO 12), (9, vN i)], ⟨[], [(10, ⟨3, 1, (filN (fun k => hasS S ((p : Int) - 2 ^ k.toNat)) (bitsN (p : Int) 49) i).map iV, false, true⟩), (12, ⟨3, 1, (bitsN (p : Int) 49).map iV, false, true⟩)]⟩⟩)
    (fun i => i ≤ (bitsN (p : Int) 49).length) (fun i => (bitsN (p : Int) 49).length - i) 0 (by omega) (weak_of (fun i => i) (fun i => i) rfl ⟨by simp [boxesR, listsR, csR, renC, keyC, optK, fnd, envR, St.get, keyPV, keyV1, renPV, renV1, hasKey, made_zero, filN_zero] <;> omega, by simp [boxesR, listsR, csR, renC, keyC, optK, fnd, envR, St.get, keyPV, keyV1, renPV, renV1, hasKey, made_zero, filN_zero] <;> omega, by simp [boxesR, listsR, csR, renC, keyC, optK, fnd, envR, St.get, keyPV, keyV1, renPV, renV1, hasKey, made_zero, filN_zero] <;> omega, by simp [boxesR, listsR, csR, renC, keyC, optK, fnd, envR, St.get, keyPV, keyV1, renPV, renV1, hasKey, made_zero, filN_zero] <;> omega, by simp [boxesR, listsR, csR, renC, keyC, optK, fnd, envR, St.get, keyPV, keyV1, renPV, renV1, hasKey, made_zero, filN_zero] <;> omega⟩ (by simp [boxesR, listsR, csR, renC, keyC, optK, fnd, envR, St.get, keyPV, keyV1, renPV, renV1, hasKey, made_zero, filN_zero] <;> omega)) (fun i hi => ?_)
  have hf := filN_len (p := fun k => hasS S ((p : Int) - 2 ^ k.toNat)) (l := bitsN (p : Int) 49) (i := i)
  simp -implicitDefEqProofs only [go_sem, Nat.reduceLT, Nat.reduceLeDiff, Nat.reduceEqDiff, Nat.reduceAdd, Nat.reduceSub, Nat.reduceMul, Int.reduceEq, Int.reduceLT, Int.reduceLE, Int.reduceNeg, Int.reduceAdd, Int.reduceSub, Int.reduceMul, Int.reduceToNat, reduceIte, reduceCtorEq, List.map_cons, List.map_nil]
  refine if_splitP (fun h => ?_) (fun h => ?_)
  · have hlt : i < (bitsN (p : Int) 49).length := by omega
    have hg := map_get (f := iV) hlt
    obtain ⟨k0, k1, hbit⟩ := mem_bitsN (List.getElem_mem hlt)
    have hpw := pow48 k0 (by omega)
    have hbit' := hbit
    rw [bitAt_int k0] at hbit'
    have hle : 2 ^ (bitsN (p : Int) 49)[i].toNat ≤ p := Nat.ge_two_pow_of_testBit hbit'
    have ec : ((2 ^ (bitsN (p : Int) 49)[i].toNat : Nat) : Int) = (2 : Int) ^ (bitsN (p : Int) 49)[i].toNat := by simp
    have en : ((p : Int) - ((2 ^ (bitsN (p : Int) 49)[i].toNat : Nat) : Int)).toNat = p - 2 ^ (bitsN (p : Int) 49)[i].toNat := by omega
    have hxl : p - 2 ^ (bitsN (p : Int) 49)[i].toNat < S.length := by omega
    have hgx : (S.map Value.bool)[p - 2 ^ (bitsN (p : Int) 49)[i].toNat]? = some (.bool S[p - 2 ^ (bitsN (p : Int) 49)[i].toNat]) := by simp [hxl]
    have eh : hasS S ((p : Int) - 2 ^ (bitsN (p : Int) 49)[i].toNat) = S[p - 2 ^ (bitsN (p : Int) 49)[i].toNat] := by
      rw [← ec]
      unfold hasS
      rw [en]
      have : (0 : Int) ≤ (p : Int) - ((2 ^ (bitsN (p : Int) 49)[i].toNat : Nat) : Int) := by omega
      simp only [this, decide_true, Bool.true_and, List.getElem?_eq_getElem hxl, Option.getD_some]
    (repeat' (first | simp -implicitDefEqProofs only [hg, hlt, en, hgx, go_sem, Nat.reduceLT, Nat.reduceLeDiff, Nat.reduceEqDiff, Nat.reduceAdd, Nat.reduceSub, Nat.reduceMul, Int.reduceEq, Int.reduceLT, Int.reduceLE, Int.reduceNeg, Int.reduceAdd, Int.reduceSub, Int.reduceMul, Int.reduceToNat, reduceIte, reduceCtorEq, List.map_cons, List.map_nil] | (refine And.intro ?_ ?_; omega) | (refine And.intro (shr_bd ?_ ?_) ?_; omega; omega) | refine sl_list rfl ?_ | refine sd_list rfl ?_ | refine sl_str ?_ | refine sd_str ?_))
    refine if_split (fun ht => ?_) (fun ht => ?_)
    · have e := filN_hit (p := fun k => hasS S ((p : Int) - 2 ^ k.toNat)) hlt (by simp only [eh]; exact ht)
      (repeat' (first | simp -implicitDefEqProofs only [hg, hlt, go_sem, Nat.reduceLT, Nat.reduceLeDiff, Nat.reduceEqDiff, Nat.reduceAdd, Nat.reduceSub, Nat.reduceMul, Int.reduceEq, Int.reduceLT, Int.reduceLE, Int.reduceNeg, Int.reduceAdd, Int.reduceSub, Int.reduceMul, Int.reduceToNat, reduceIte, reduceCtorEq, List.map_cons, List.map_nil] | (refine And.intro ?_ ?_; omega) | (refine And.intro (shr_bd ?_ ?_) ?_; omega; omega) | refine sl_list rfl ?_ | refine sd_list rfl ?_ | refine sl_str ?_ | refine sd_str ?_))
      exact ⟨i + 1, by omega, by omega, weak_of (fun i => i) (fun i => if i = 10 then 35 else i) rfl ⟨by simp [boxesR, listsR, csR, renC, keyC, optK, fnd, envR, St.get, keyPV, keyV1, renPV, renV1, hasKey, made_zero, e] <;> omega, by simp [boxesR, listsR, csR, renC, keyC, optK, fnd, envR, St.get, keyPV, keyV1, renPV, renV1, hasKey, made_zero, e] <;> omega, by simp [boxesR, listsR, csR, renC, keyC, optK, fnd, envR, St.get, keyPV, keyV1, renPV, renV1, hasKey, made_zero, e] <;> omega, by simp [boxesR, listsR, csR, renC, keyC, optK, fnd, envR, St.get, keyPV, keyV1, renPV, renV1, hasKey, made_zero, e] <;> omega, by simp [boxesR, listsR, csR, renC, keyC, optK, fnd, envR, St.get, keyPV, keyV1, renPV, renV1, hasKey, made_zero, e] <;> omega⟩ (by simp [boxesR, listsR, csR, renC, keyC, optK, fnd, envR, St.get, keyPV, keyV1, renPV, renV1, hasKey, made_zero, e] <;> omega)⟩
    · have e := filN_miss (p := fun k => hasS S ((p : Int) - 2 ^ k.toNat)) hlt (by simp only [eh]; exact ht)
      (repeat' (first | simp -implicitDefEqProofs only [go_sem, Nat.reduceLT, Nat.reduceLeDiff, Nat.reduceEqDiff, Nat.reduceAdd, Nat.reduceSub, Nat.reduceMul, Int.reduceEq, Int.reduceLT, Int.reduceLE, Int.reduceNeg, Int.reduceAdd, Int.reduceSub, Int.reduceMul, Int.reduceToNat, reduceIte, reduceCtorEq, List.map_cons, List.map_nil] | (refine And.intro ?_ ?_; omega) | (refine And.intro (shr_bd ?_ ?_) ?_; omega; omega) | refine sl_list rfl ?_ | refine sd_list rfl ?_ | refine sl_str ?_ | refine sd_str ?_))
      exact ⟨i + 1, by omega, by omega, weak_of (fun i => i) (fun i => i) rfl ⟨by simp [boxesR, listsR, csR, renC, keyC, optK, fnd, envR, St.get, keyPV, keyV1, renPV, renV1, hasKey, made_zero, e] <;> omega, by simp [boxesR, listsR, csR, renC, keyC, optK, fnd, envR, St.get, keyPV, keyV1, renPV, renV1, hasKey, made_zero, e] <;> omega, by simp [boxesR, listsR, csR, renC, keyC, optK, fnd, envR, St.get, keyPV, keyV1, renPV, renV1, hasKey, made_zero, e] <;> omega, by simp [boxesR, listsR, csR, renC, keyC, optK, fnd, envR, St.get, keyPV, keyV1, renPV, renV1, hasKey, made_zero, e] <;> omega, by simp [boxesR, listsR, csR, renC, keyC, optK, fnd, envR, St.get, keyPV, keyV1, renPV, renV1, hasKey, made_zero, e] <;> omega⟩ (by simp [boxesR, listsR, csR, renC, keyC, optK, fnd, envR, St.get, keyPV, keyV1, renPV, renV1, hasKey, made_zero, e] <;> omega)⟩
  · have hle : i = (bitsN (p : Int) 49).length := by omega
    subst hle
    simp -implicitDefEqProofs only [filN_end, go_sem, Nat.reduceLT, Nat.reduceLeDiff, Nat.reduceEqDiff, Nat.reduceAdd, Nat.reduceSub, Nat.reduceMul, Int.reduceEq, Int.reduceLT, Int.reduceLE, Int.reduceNeg, Int.reduceAdd, Int.reduceSub, Int.reduceMul, Int.reduceToNat, reduceIte, reduceCtorEq, List.map_cons, List.map_nil]
    have e := spares_eq (S := S) hb hp
    exact fin_of (fun i => i) (fun i => 10) ⟨by simp [boxesR, listsR, csR, renC, keyC, optK, fnd, envR, St.get, keyPV, keyV1, renPV, renV1, hasKey, made_zero, e] <;> omega, by simp [boxesR, listsR, csR, renC, keyC, optK, fnd, envR, St.get, keyPV, keyV1, renPV, renV1, hasKey, made_zero, e] <;> omega, by simp [boxesR, listsR, csR, renC, keyC, optK, fnd, envR, St.get, keyPV, keyV1, renPV, renV1, hasKey, made_zero, e] <;> omega, by simp [boxesR, listsR, csR, renC, keyC, optK, fnd, envR, St.get, keyPV, keyV1, renPV, renV1, hasKey, made_zero, e] <;> omega, by simp [boxesR, listsR, csR, renC, keyC, optK, fnd, envR, St.get, keyPV, keyV1, renPV, renV1, hasKey, made_zero, e] <;> omega⟩ (by simp [boxesR, listsR, csR, renC, keyC, optK, fnd, envR, St.get, keyPV, keyV1, renPV, renV1, hasKey, made_zero, e] <;> omega) (by first | rfl | (simp [renPV, renV1, renC, e]))
noncomputable def isTight (b : Brd) (p g : Int) : Bool := hasS (spreadL b true g) p && decide ((spares b (spreadL b true g) p).length = 0)
theorem len0_cast {n : Nat} : decide ((n : Int) = 0) = decide (n = 0) := by simp
theorem spread_at {b : Brd} {bk : Bool} {g p : Int} (h : hasS (spreadL b bk g) p = true) : isSmall b = true ∧ positionOk b g = true ∧ positionOk b p = true ∧ boardOk b = true ∧ 0 ≤ p ∧ Sub b p.toNat ∧ p.toNat < (spreadL b bk g).length ∧ p ≤ 65536 := by
  obtain ⟨h1, h2, h3, h4⟩ := has_spread.1 h
  obtain ⟨hb, p0, hsub⟩ := pos_sub h3
  have hlt := sub_lt hb hsub
  have hN := board_le h1
  refine ⟨h1, h2, h3, hb, p0, hsub, ?_, by omega⟩
  simp only [spreadL, h1, h2, and_self, if_true, seenL_len]
  exact hlt
theorem iIsTight_c (b : Brd) (p g : Int) (p2 : p ≤ 9223372036854775807) (g2 : g ≤ 9223372036854775807) : PC Try.prog 39 [] [.a (brdC b), .c (.v (.int .i64 p)), .c (.v (.int .i64 g))] (vB (isTight b p g)) ⟨[], []⟩ := by
  refine pc_of Try.func39 rfl (by kernel_rfl) _ Try.ntmps39 (by simp) ?_
  simp -implicitDefEqProofs only [go_sem, Nat.reduceLT, Nat.reduceLeDiff, Nat.reduceEqDiff, Nat.reduceAdd, Nat.reduceSub, Nat.reduceMul, Int.reduceEq, Int.reduceLT, Int.reduceLE, Int.reduceNeg, Int.reduceAdd, Int.reduceSub, Int.reduceMul, Int.reduceToNat, reduceIte, reduceCtorEq, List.map_cons, List.map_nil]
  refine callL (spreadOf_c 10 b g true g2) rfl rfl rfl ?_
  simp -implicitDefEqProofs only [go_sem, Nat.reduceLT, Nat.reduceLeDiff, Nat.reduceEqDiff, Nat.reduceAdd, Nat.reduceSub, Nat.reduceMul, Int.reduceEq, Int.reduceLT, Int.reduceLE, Int.reduceNeg, Int.reduceAdd, Int.reduceSub, Int.reduceMul, Int.reduceToNat, reduceIte, reduceCtorEq, List.map_cons, List.map_nil]
  refine callS (has_c _ p) rfl rfl rfl ?_
  by_cases h : hasS (spreadL b true g) p = true
  · obtain ⟨_, _, _, _, p0, _, _, _⟩ := spread_at h
    simp -implicitDefEqProofs only [h, go_sem, Nat.reduceLT, Nat.reduceLeDiff, Nat.reduceEqDiff, Nat.reduceAdd, Nat.reduceSub, Nat.reduceMul, Int.reduceEq, Int.reduceLT, Int.reduceLE, Int.reduceNeg, Int.reduceAdd, Int.reduceSub, Int.reduceMul, Int.reduceToNat, reduceIte, reduceCtorEq, List.map_cons, List.map_nil]
    refine callL (sparesIn_c 18 b _ p p0 p2) rfl rfl rfl ?_
    simp -implicitDefEqProofs only [h, len0_cast, go_sem, Nat.reduceLT, Nat.reduceLeDiff, Nat.reduceEqDiff, Nat.reduceAdd, Nat.reduceSub, Nat.reduceMul, Int.reduceEq, Int.reduceLT, Int.reduceLE, Int.reduceNeg, Int.reduceAdd, Int.reduceSub, Int.reduceMul, Int.reduceToNat, reduceIte, reduceCtorEq, List.map_cons, List.map_nil]
    exact fin_scal rfl (by simp [isTight, h])
  · simp -implicitDefEqProofs only [h, go_sem, Nat.reduceLT, Nat.reduceLeDiff, Nat.reduceEqDiff, Nat.reduceAdd, Nat.reduceSub, Nat.reduceMul, Int.reduceEq, Int.reduceLT, Int.reduceLE, Int.reduceNeg, Int.reduceAdd, Int.reduceSub, Int.reduceMul, Int.reduceToNat, reduceIte, reduceCtorEq, List.map_cons, List.map_nil]
    exact fin_scal rfl (by simp [isTight, h])
noncomputable def sparePegs (b : Brd) (p g : Int) : List Int := if canReach b p g = true then spares b (spreadL b true g) p else []
set_option maxHeartbeats 2000000 in
theorem SparePegs_c (d : Nat) (b : Brd) (p g : Int) (p2 : p ≤ 9223372036854775807) (g2 : g ≤ 9223372036854775807) : PC Try.prog 81 [] [.a (brdC b), .c (.v (.int .i64 p)), .c (.v (.int .i64 g))] (.s (.c (.o d))) ⟨[], [(d, ⟨3, 1, (sparePegs b p g).map iV, false, true⟩)]⟩ := by
  refine pc_of Try.func81 rfl (by kernel_rfl) _ Try.ntmps81 (by simp) ?_
  simp -implicitDefEqProofs only [go_sem, Nat.reduceLT, Nat.reduceLeDiff, Nat.reduceEqDiff, Nat.reduceAdd, Nat.reduceSub, Nat.reduceMul, Int.reduceEq, Int.reduceLT, Int.reduceLE, Int.reduceNeg, Int.reduceAdd, Int.reduceSub, Int.reduceMul, Int.reduceToNat, reduceIte, reduceCtorEq, List.map_cons, List.map_nil]
  refine callS (CanReach_c b p g p2 g2) rfl rfl rfl ?_
  by_cases h : canReach b p g = true
  · have e : sparePegs b p g = spares b (spreadL b true g) p := by simp [sparePegs, h]
    have h' := h
    rw [canReach_back] at h'
    obtain ⟨h1, h2, h3, hb, p0, hsub, hlt, _⟩ := spread_at h'
    have ep : (p.toNat : Int) = p := Int.toNat_of_nonneg p0
    have hc := fun d => l36Spare_c d b (spreadL b true g) p.toNat hb hsub hlt (by omega)
    rw [ep] at hc
    simp -implicitDefEqProofs only [h, go_sem, Nat.reduceLT, Nat.reduceLeDiff, Nat.reduceEqDiff, Nat.reduceAdd, Nat.reduceSub, Nat.reduceMul, Int.reduceEq, Int.reduceLT, Int.reduceLE, Int.reduceNeg, Int.reduceAdd, Int.reduceSub, Int.reduceMul, Int.reduceToNat, reduceIte, reduceCtorEq, List.map_cons, List.map_nil]
    refine draw_stepY Try.pl_follows (by kernel_rfl) ?_
    (repeat' (first | simp -implicitDefEqProofs only [go_sem, Nat.reduceLT, Nat.reduceLeDiff, Nat.reduceEqDiff, Nat.reduceAdd, Nat.reduceSub, Nat.reduceMul, Int.reduceEq, Int.reduceLT, Int.reduceLE, Int.reduceNeg, Int.reduceAdd, Int.reduceSub, Int.reduceMul, Int.reduceToNat, reduceIte, reduceCtorEq, List.map_cons, List.map_nil] | (refine And.intro ?_ ?_; omega) | (refine And.intro (shr_bd ?_ ?_) ?_; omega; omega) | refine sl_list rfl ?_ | refine sd_list rfl ?_ | refine sl_str ?_ | refine sd_str ?_))
    refine callL (l15Back_c 17 b g h1 h2) rfl rfl rfl ?_
    (repeat' (first | simp -implicitDefEqProofs only [go_sem, Nat.reduceLT, Nat.reduceLeDiff, Nat.reduceEqDiff, Nat.reduceAdd, Nat.reduceSub, Nat.reduceMul, Int.reduceEq, Int.reduceLT, Int.reduceLE, Int.reduceNeg, Int.reduceAdd, Int.reduceSub, Int.reduceMul, Int.reduceToNat, reduceIte, reduceCtorEq, List.map_cons, List.map_nil] | (refine And.intro ?_ ?_; omega) | (refine And.intro (shr_bd ?_ ?_) ?_; omega; omega) | refine sl_list rfl ?_ | refine sd_list rfl ?_ | refine sl_str ?_ | refine sd_str ?_))
    refine callL (hc 18) rfl rfl rfl ?_
    (repeat' (first | simp -implicitDefEqProofs only [go_sem, Nat.reduceLT, Nat.reduceLeDiff, Nat.reduceEqDiff, Nat.reduceAdd, Nat.reduceSub, Nat.reduceMul, Int.reduceEq, Int.reduceLT, Int.reduceLE, Int.reduceNeg, Int.reduceAdd, Int.reduceSub, Int.reduceMul, Int.reduceToNat, reduceIte, reduceCtorEq, List.map_cons, List.map_nil] | (refine And.intro ?_ ?_; omega) | (refine And.intro (shr_bd ?_ ?_) ?_; omega; omega) | refine sl_list rfl ?_ | refine sd_list rfl ?_ | refine sl_str ?_ | refine sd_str ?_))
    exact fin_of (fun i => i) (fun i => 18) ⟨by simp [boxesR, listsR, csR, renC, keyC, optK, fnd, envR, St.get, keyPV, keyV1, renPV, renV1, hasKey, made_zero, e] <;> omega, by simp [boxesR, listsR, csR, renC, keyC, optK, fnd, envR, St.get, keyPV, keyV1, renPV, renV1, hasKey, made_zero, e] <;> omega, by simp [boxesR, listsR, csR, renC, keyC, optK, fnd, envR, St.get, keyPV, keyV1, renPV, renV1, hasKey, made_zero, e] <;> omega, by simp [boxesR, listsR, csR, renC, keyC, optK, fnd, envR, St.get, keyPV, keyV1, renPV, renV1, hasKey, made_zero, e] <;> omega, by simp [boxesR, listsR, csR, renC, keyC, optK, fnd, envR, St.get, keyPV, keyV1, renPV, renV1, hasKey, made_zero, e] <;> omega⟩ (by simp [boxesR, listsR, csR, renC, keyC, optK, fnd, envR, St.get, keyPV, keyV1, renPV, renV1, hasKey, made_zero, e] <;> omega) (by first | rfl | (simp [renPV, renV1, renC, e]))
  · have e : sparePegs b p g = [] := by simp [sparePegs, h]
    (repeat' (first | simp -implicitDefEqProofs only [h, go_sem, Nat.reduceLT, Nat.reduceLeDiff, Nat.reduceEqDiff, Nat.reduceAdd, Nat.reduceSub, Nat.reduceMul, Int.reduceEq, Int.reduceLT, Int.reduceLE, Int.reduceNeg, Int.reduceAdd, Int.reduceSub, Int.reduceMul, Int.reduceToNat, reduceIte, reduceCtorEq, List.map_cons, List.map_nil] | (refine And.intro ?_ ?_; omega) | (refine And.intro (shr_bd ?_ ?_) ?_; omega; omega) | refine sl_list rfl ?_ | refine sd_list rfl ?_ | refine sl_str ?_ | refine sd_str ?_))
    exact fin_of (fun i => i) (fun i => 12) ⟨by simp [boxesR, listsR, csR, renC, keyC, optK, fnd, envR, St.get, keyPV, keyV1, renPV, renV1, hasKey, made_zero, e] <;> omega, by simp [boxesR, listsR, csR, renC, keyC, optK, fnd, envR, St.get, keyPV, keyV1, renPV, renV1, hasKey, made_zero, e] <;> omega, by simp [boxesR, listsR, csR, renC, keyC, optK, fnd, envR, St.get, keyPV, keyV1, renPV, renV1, hasKey, made_zero, e] <;> omega, by simp [boxesR, listsR, csR, renC, keyC, optK, fnd, envR, St.get, keyPV, keyV1, renPV, renV1, hasKey, made_zero, e] <;> omega, by simp [boxesR, listsR, csR, renC, keyC, optK, fnd, envR, St.get, keyPV, keyV1, renPV, renV1, hasKey, made_zero, e] <;> omega⟩ (by simp [boxesR, listsR, csR, renC, keyC, optK, fnd, envR, St.get, keyPV, keyV1, renPV, renV1, hasKey, made_zero, e] <;> omega) (by first | rfl | (simp [renPV, renV1, renC, e]))
theorem IsTight_c (b : Brd) (p g : Int) (p2 : p ≤ 9223372036854775807) (g2 : g ≤ 9223372036854775807) : PC Try.prog 38 [] [.a (brdC b), .c (.v (.int .i64 p)), .c (.v (.int .i64 g))] (vB (isTight b p g)) ⟨[], []⟩ := by
  refine pc_of Try.func38 rfl (by kernel_rfl) _ Try.ntmps38 (by simp) ?_
  simp -implicitDefEqProofs only [go_sem, Nat.reduceLT, Nat.reduceLeDiff, Nat.reduceEqDiff, Nat.reduceAdd, Nat.reduceSub, Nat.reduceMul, Int.reduceEq, Int.reduceLT, Int.reduceLE, Int.reduceNeg, Int.reduceAdd, Int.reduceSub, Int.reduceMul, Int.reduceToNat, reduceIte, reduceCtorEq, List.map_cons, List.map_nil]
  refine callS (CanReach_c b p g p2 g2) rfl rfl rfl ?_
  by_cases h : canReach b p g = true
  · have h' := h
    rw [canReach_back] at h'
    simp -implicitDefEqProofs only [h, go_sem, Nat.reduceLT, Nat.reduceLeDiff, Nat.reduceEqDiff, Nat.reduceAdd, Nat.reduceSub, Nat.reduceMul, Int.reduceEq, Int.reduceLT, Int.reduceLE, Int.reduceNeg, Int.reduceAdd, Int.reduceSub, Int.reduceMul, Int.reduceToNat, reduceIte, reduceCtorEq, List.map_cons, List.map_nil]
    refine callL (SparePegs_c 15 b p g p2 g2) rfl rfl rfl ?_
    simp -implicitDefEqProofs only [h, len0_cast, go_sem, Nat.reduceLT, Nat.reduceLeDiff, Nat.reduceEqDiff, Nat.reduceAdd, Nat.reduceSub, Nat.reduceMul, Int.reduceEq, Int.reduceLT, Int.reduceLE, Int.reduceNeg, Int.reduceAdd, Int.reduceSub, Int.reduceMul, Int.reduceToNat, reduceIte, reduceCtorEq, List.map_cons, List.map_nil]
    exact fin_scal rfl (by simp [isTight, h', sparePegs, h])
  · have h' := h
    rw [canReach_back] at h'
    simp -implicitDefEqProofs only [h, go_sem, Nat.reduceLT, Nat.reduceLeDiff, Nat.reduceEqDiff, Nat.reduceAdd, Nat.reduceSub, Nat.reduceMul, Int.reduceEq, Int.reduceLT, Int.reduceLE, Int.reduceNeg, Int.reduceAdd, Int.reduceSub, Int.reduceMul, Int.reduceToNat, reduceIte, reduceCtorEq, List.map_cons, List.map_nil]
    exact fin_scal rfl (by simp [isTight, h'])
theorem lawIsTight_c (b : Brd) (p g : Int) (p2 : p ≤ 9223372036854775807) (g2 : g ≤ 9223372036854775807) : PC Try.prog 6 [] [.a (brdC b), .c (.v (.int .i64 p)), .c (.v (.int .i64 g))] (vB true) ⟨[], []⟩ := by
  refine pc_of Try.func6 rfl (by kernel_rfl) _ Try.ntmps6 (by simp) ?_
  repeat' first
    | simp -implicitDefEqProofs only [go_sem, Nat.reduceLT, Nat.reduceLeDiff, Nat.reduceEqDiff, Nat.reduceAdd, Nat.reduceSub, Nat.reduceMul, Int.reduceEq, Int.reduceLT, Int.reduceLE, Int.reduceNeg, Int.reduceAdd, Int.reduceSub, Int.reduceMul, Int.reduceToNat, reduceIte, reduceCtorEq, List.map_cons, List.map_nil]
    | refine callS (toBoard_c b) rfl rfl rfl ?_
    | refine callS (IsTight_c b p g p2 g2) rfl rfl rfl ?_
    | refine callS (iIsTight_c b p g p2 g2) rfl rfl rfl ?_
  all_goals exact fin_scal rfl rfl
theorem fnExactIsTight.law_c {cs : List C} {c c' : C} (h : All2 TC [.z (.i .i64), .z (.i .i64), .z (.i .i64)] cs) (h1 : TC (.z (.i .i64)) c) (h2 : TC (.z (.i .i64)) c') : PC Try.prog 6 [] [.a cs, .c c, .c c'] (vB true) ⟨[], []⟩ := by
  obtain ⟨b, rfl⟩ := brd_of h
  obtain ⟨p, rfl, hp⟩ := tc_i h1
  obtain ⟨q, rfl, hq⟩ := tc_i h2
  rw [inK_i64] at hp hq
  exact lawIsTight_c b p q hp.2 hq.2
end Go.Proofs.Ytmckpdackhlgbaa
