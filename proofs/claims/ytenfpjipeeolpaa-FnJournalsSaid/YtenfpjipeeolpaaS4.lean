/-
  The law on spared pegs.
-/
import Derived.Test.YtenfpjipeeolpaaS3
namespace Go.Proofs.Ytenfpjipeeolpaa
open Go.PL
set_option linter.unusedSimpArgs false
theorem iRect_c {w h : Int} (h1 : 1 ≤ w) (h2 : w ≤ 7) (h3 : 1 ≤ h) (h4 : h ≤ 7) : PC Try.prog 24 [] [.c (.v (.int .i64 w)), .c (.v (.int .i64 h))] (.s (.a (brdC (rect w h)))) ⟨[], []⟩ := by
  have m := mul_bd h1 h2 h3 h4
  have p := pow_bd (m := w * h) (by omega) m.2
  have e1 : within w 1 7 = true := within_iff.2 ⟨h1, h2⟩
  have e2 : within h 1 7 = true := within_iff.2 ⟨h3, h4⟩
  have ep : ((2 ^ (w * h).toNat : Nat) : Int) = (2 : Int) ^ (w * h).toNat := by simp
  refine pc_of Try.func24 rfl (by kernel_rfl) _ Try.ntmps24 (by simp) ?_
  repeat' first
    | (first | simp -implicitDefEqProofs only [e1, e2, Int.one_mul, ep, go_sem, Nat.reduceLT, Nat.reduceLeDiff, Nat.reduceEqDiff, Nat.reduceAdd, Nat.reduceSub, Nat.reduceMul, Int.reduceEq, Int.reduceLT, Int.reduceLE, Int.reduceNeg, Int.reduceAdd, Int.reduceSub, Int.reduceMul, Int.reduceToNat, reduceIte, reduceCtorEq, List.map_cons, List.map_nil] | (refine And.intro ?_ ?_; omega) | (refine And.intro (shr_bd ?_ ?_) ?_; omega; omega) | refine sl_list rfl ?_ | refine sd_list rfl ?_ | refine sl_str ?_ | refine sd_str ?_)
    | refine callS (within_c _ _ _) rfl rfl rfl ?_
  exact fin_scal rfl (by simp [rect])
theorem lawBig_c (bs : List Nat) : PC Try.prog 9 [] [.c (.l 1 (bs.map bV))] (vB (decide ((1048576 : Int) < bs.length))) ⟨[], []⟩ := by
  refine pc_of Try.func9 rfl (by kernel_rfl) _ Try.ntmps9 (by simp) ?_
  (repeat' (first | simp -implicitDefEqProofs only [go_sem, Nat.reduceLT, Nat.reduceLeDiff, Nat.reduceEqDiff, Nat.reduceAdd, Nat.reduceSub, Nat.reduceMul, Int.reduceEq, Int.reduceLT, Int.reduceLE, Int.reduceNeg, Int.reduceAdd, Int.reduceSub, Int.reduceMul, Int.reduceToNat, reduceIte, reduceCtorEq, List.map_cons, List.map_nil] | (refine And.intro ?_ ?_; omega) | (refine And.intro (shr_bd ?_ ?_) ?_; omega; omega) | refine sl_list rfl ?_ | refine sd_list rfl ?_ | refine sl_str ?_ | refine sd_str ?_))
  exact fin_scal rfl rfl
theorem lawBytes_of {c : C} (h : TC (.l 1 false [.i .u8]) c) : ∃ l : List Nat, c = .l 1 (l.map bV) ∧ ∀ b ∈ l, b ≤ 255 := by
  obtain ⟨xs, rfl, hl, hx⟩ := tc_l h
  obtain ⟨rs, rfl, hr⟩ := list_of bV (fun b => b ≤ 255) (xs := xs) (fun x hm => by
    obtain ⟨k, hk, h⟩ := hx x hm
    obtain rfl := (List.cons.inj hk).1.symm
    obtain ⟨a, rfl, ha⟩ := h
    have h1 : (0 : Int) ≤ a := ha.1
    have h2 : a ≤ 255 := ha.2
    exact ⟨a.toNat, by simp only [bV, Int.toNat_of_nonneg h1], by omega⟩)
  exact ⟨rs, rfl, hr⟩
theorem CountBack_c (b : Brd) (g : Int) (g2 : g ≤ 9223372036854775807) : PC Try.prog 27 [] [.a (brdC b), .c (.v (.int .i64 g))] (vN (backOf b g).length) ⟨[], []⟩ := by
  refine pc_of Try.func27 rfl (by kernel_rfl) _ Try.ntmps27 (by simp) ?_
  repeat' first
    | (first | simp -implicitDefEqProofs only [go_sem, Nat.reduceLT, Nat.reduceLeDiff, Nat.reduceEqDiff, Nat.reduceAdd, Nat.reduceSub, Nat.reduceMul, Int.reduceEq, Int.reduceLT, Int.reduceLE, Int.reduceNeg, Int.reduceAdd, Int.reduceSub, Int.reduceMul, Int.reduceToNat, reduceIte, reduceCtorEq, List.map_cons, List.map_nil] | (refine And.intro ?_ ?_; omega) | (refine And.intro (shr_bd ?_ ?_) ?_; omega; omega) | refine sl_list rfl ?_ | refine sd_list rfl ?_ | refine sl_str ?_ | refine sd_str ?_)
    | refine callL1 (fun d => BackOf_c d b g g2) rfl rfl rfl ?_
  exact fin_scal rfl rfl
theorem HasPeg_c (b : Brd) (p k : Int) (p2 : p ≤ 9223372036854775807) : PC Try.prog 20 [] [.a (brdC b), .c (.v (.int .i64 p)), .c (.v (.int .i64 k))] (vB (hasPeg b p k)) ⟨[], []⟩ := by
  refine pc_of Try.func20 rfl (by kernel_rfl) _ Try.ntmps20 (by simp) ?_
  by_cases hp : positionOk b p = true
  · obtain ⟨hb, p0, _⟩ := pos_sub hp
    by_cases hh : hasHole b k = true
    · obtain ⟨_, k0, k1⟩ := hole_bd hh
      have hq := shr_bd (j := k.toNat) p0 p2
      have ek : ((k.toNat : Nat) : Int) = k := Int.toNat_of_nonneg k0
      repeat' first
        | (first | simp -implicitDefEqProofs only [hp, hh, ek, go_sem, Nat.reduceLT, Nat.reduceLeDiff, Nat.reduceEqDiff, Nat.reduceAdd, Nat.reduceSub, Nat.reduceMul, Int.reduceEq, Int.reduceLT, Int.reduceLE, Int.reduceNeg, Int.reduceAdd, Int.reduceSub, Int.reduceMul, Int.reduceToNat, reduceIte, reduceCtorEq, List.map_cons, List.map_nil] | (refine And.intro ?_ ?_; omega) | (refine And.intro (shr_bd ?_ ?_) ?_; omega; omega) | refine sl_list rfl ?_ | refine sd_list rfl ?_ | refine sl_str ?_ | refine sd_str ?_)
        | refine callS (PositionOk_c b p p2) rfl rfl rfl ?_
        | refine callS (HasHole_c b k) rfl rfl rfl ?_
      exact fin_scal rfl (by simp [hasPeg, hp, hh])
    · repeat' first
        | (first | simp -implicitDefEqProofs only [hp, hh, go_sem, Nat.reduceLT, Nat.reduceLeDiff, Nat.reduceEqDiff, Nat.reduceAdd, Nat.reduceSub, Nat.reduceMul, Int.reduceEq, Int.reduceLT, Int.reduceLE, Int.reduceNeg, Int.reduceAdd, Int.reduceSub, Int.reduceMul, Int.reduceToNat, reduceIte, reduceCtorEq, List.map_cons, List.map_nil] | (refine And.intro ?_ ?_; omega) | (refine And.intro (shr_bd ?_ ?_) ?_; omega; omega) | refine sl_list rfl ?_ | refine sd_list rfl ?_ | refine sl_str ?_ | refine sd_str ?_)
        | refine callS (PositionOk_c b p p2) rfl rfl rfl ?_
        | refine callS (HasHole_c b k) rfl rfl rfl ?_
      exact fin_scal rfl (by simp [hasPeg, hp, hh])
  · repeat' first
      | (first | simp -implicitDefEqProofs only [hp, go_sem, Nat.reduceLT, Nat.reduceLeDiff, Nat.reduceEqDiff, Nat.reduceAdd, Nat.reduceSub, Nat.reduceMul, Int.reduceEq, Int.reduceLT, Int.reduceLE, Int.reduceNeg, Int.reduceAdd, Int.reduceSub, Int.reduceMul, Int.reduceToNat, reduceIte, reduceCtorEq, List.map_cons, List.map_nil] | (refine And.intro ?_ ?_; omega) | (refine And.intro (shr_bd ?_ ?_) ?_; omega; omega) | refine sl_list rfl ?_ | refine sd_list rfl ?_ | refine sl_str ?_ | refine sd_str ?_)
      | refine callS (PositionOk_c b p p2) rfl rfl rfl ?_
    exact fin_scal rfl (by simp [hasPeg, hp])
set_option maxHeartbeats 4000000 in
theorem UndosOf_c (d : Nat) (b : Brd) (p : Int) (p2 : p ≤ 9223372036854775807) : PC Try.prog 26 [] [.a (brdC b), .c (.v (.int .i64 p))] (.s (.c (.o d))) ⟨[], [(d, ⟨55, 3, (undosOf b p).map lineV, false, true⟩)]⟩ := by
  refine pc_of Try.func26 rfl (by kernel_rfl) _ Try.ntmps26 (by simp) ?_
  have hl := linesOf_len (b := b)
  repeat' first
    | (first | simp -implicitDefEqProofs only [go_sem, Nat.reduceLT, Nat.reduceLeDiff, Nat.reduceEqDiff, Nat.reduceAdd, Nat.reduceSub, Nat.reduceMul, Int.reduceEq, Int.reduceLT, Int.reduceLE, Int.reduceNeg, Int.reduceAdd, Int.reduceSub, Int.reduceMul, Int.reduceToNat, reduceIte, reduceCtorEq, List.map_cons, List.map_nil] | (refine And.intro ?_ ?_; omega) | (refine And.intro (shr_bd ?_ ?_) ?_; omega; omega) | refine sl_list rfl ?_ | refine sd_list rfl ?_ | refine sl_str ?_ | refine sd_str ?_)
    | refine callL1 (fun d => LinesOf_c d b) rfl rfl rfl ?_
  by_cases hp : positionOk b p = true
  · have e : undosOf b p = (linesOf b).filter (canU p) := by simp [undosOf, hp]
    obtain ⟨hb, p0, hs⟩ := pos_sub hp
    refine loop_step (X := Nat) (fun i => ⟨44, [(1, vN p), (2, .s (.c (.p 2 0))), (5, vO 8), (6, vO 10), (7, vN i)], ⟨[(2, brdC b)], [(8, ⟨55, 3, (filN (canU p) (linesOf b) i).map lineV, false, true⟩), (10, ⟨55, 3, (linesOf b).map lineV, false, true⟩)]⟩⟩)
      (fun i => i ≤ (linesOf b).length) (fun i => (linesOf b).length - i) 0 (by omega) (weak_of (fun i => i) (fun i => i) rfl ⟨by simp [boxesR, listsR, csR, renC, keyC, optK, fnd, envR, St.get, keyPV, keyV1, renPV, renV1, hasKey, made_zero, filN_zero] <;> omega, by simp [boxesR, listsR, csR, renC, keyC, optK, fnd, envR, St.get, keyPV, keyV1, renPV, renV1, hasKey, made_zero, filN_zero] <;> omega, by simp [boxesR, listsR, csR, renC, keyC, optK, fnd, envR, St.get, keyPV, keyV1, renPV, renV1, hasKey, made_zero, filN_zero] <;> omega, by simp [boxesR, listsR, csR, renC, keyC, optK, fnd, envR, St.get, keyPV, keyV1, renPV, renV1, hasKey, made_zero, filN_zero] <;> omega, by simp [boxesR, listsR, csR, renC, keyC, optK, fnd, envR, St.get, keyPV, keyV1, renPV, renV1, hasKey, made_zero, filN_zero] <;> omega⟩ (by simp [boxesR, listsR, csR, renC, keyC, optK, fnd, envR, St.get, keyPV, keyV1, renPV, renV1, hasKey, made_zero, filN_zero] <;> omega)) (fun i hi => ?_)
    have hf := filN_len (p := canU p) (l := linesOf b) (i := i)
    by_cases hlt : i < (linesOf b).length
    · have e0 : ((i : Int) < (linesOf b).length) = True := eq_true (by omega)
      have hg := map_get (f := lineV) hlt
      have hm := List.getElem_mem hlt
      have hln := lnIn hm
      obtain ⟨hne0, hne1, hne2⟩ := line_ne hm
      have hbl := bitsL_le hln
      have q1 := pow48 hln.t0 hln.t1
      have hc := canU_and p0 hln hne1 hne2
      have f0 := hln.t0
      have f1 := hln.t1
      (repeat' (first | simp -implicitDefEqProofs only [e0, go_sem, Nat.reduceLT, Nat.reduceLeDiff, Nat.reduceEqDiff, Nat.reduceAdd, Nat.reduceSub, Nat.reduceMul, Int.reduceEq, Int.reduceLT, Int.reduceLE, Int.reduceNeg, Int.reduceAdd, Int.reduceSub, Int.reduceMul, Int.reduceToNat, reduceIte, reduceCtorEq, List.map_cons, List.map_nil] | (refine And.intro ?_ ?_; omega) | (refine And.intro (shr_bd ?_ ?_) ?_; omega; omega) | refine sl_list rfl ?_ | refine sd_list rfl ?_ | refine sl_str ?_ | refine sd_str ?_))
      refine callS (PositionOk_c b p p2) rfl rfl rfl ?_
      (repeat' (first | simp -implicitDefEqProofs only [hp, go_sem, Nat.reduceLT, Nat.reduceLeDiff, Nat.reduceEqDiff, Nat.reduceAdd, Nat.reduceSub, Nat.reduceMul, Int.reduceEq, Int.reduceLT, Int.reduceLE, Int.reduceNeg, Int.reduceAdd, Int.reduceSub, Int.reduceMul, Int.reduceToNat, reduceIte, reduceCtorEq, List.map_cons, List.map_nil] | (refine And.intro ?_ ?_; omega) | (refine And.intro (shr_bd ?_ ?_) ?_; omega; omega) | refine sl_list rfl ?_ | refine sd_list rfl ?_ | refine sl_str ?_ | refine sd_str ?_))
      refine draw_step Try.pl_follows (by kernel_rfl) ?_
      (repeat' (first | simp -implicitDefEqProofs only [hg, hlt, lineV, go_sem, Nat.reduceLT, Nat.reduceLeDiff, Nat.reduceEqDiff, Nat.reduceAdd, Nat.reduceSub, Nat.reduceMul, Int.reduceEq, Int.reduceLT, Int.reduceLE, Int.reduceNeg, Int.reduceAdd, Int.reduceSub, Int.reduceMul, Int.reduceToNat, reduceIte, reduceCtorEq, List.map_cons, List.map_nil] | (refine And.intro ?_ ?_; omega) | (refine And.intro (shr_bd ?_ ?_) ?_; omega; omega) | refine sl_list rfl ?_ | refine sd_list rfl ?_ | refine sl_str ?_ | refine sd_str ?_))
      refine callD (l05Bits_c (linesOf b)[i] hln) rfl rfl rfl ?_
      by_cases h3 : canU p (linesOf b)[i] = true
      · have e1 : (((p.toNat &&& bitsL (linesOf b)[i] : Nat) : Int) = ((2 ^ (linesOf b)[i].t.toNat : Nat) : Int)) = True := eq_true (by rw [hc.2 h3])
        have e2 := filN_hit (p := canU p) hlt h3
        (repeat' (first | simp -implicitDefEqProofs only [hg, hlt, lineV, e1, go_sem, Nat.reduceLT, Nat.reduceLeDiff, Nat.reduceEqDiff, Nat.reduceAdd, Nat.reduceSub, Nat.reduceMul, Int.reduceEq, Int.reduceLT, Int.reduceLE, Int.reduceNeg, Int.reduceAdd, Int.reduceSub, Int.reduceMul, Int.reduceToNat, reduceIte, reduceCtorEq, List.map_cons, List.map_nil] | (refine And.intro ?_ ?_; omega) | (refine And.intro (shr_bd ?_ ?_) ?_; omega; omega) | refine sl_list rfl ?_ | refine sd_list rfl ?_ | refine sl_str ?_ | refine sd_str ?_))
        exact ⟨i + 1, by omega, by omega, weak_of (fun i => i) (fun i => if i = 8 then 42 else i) rfl ⟨by simp [boxesR, listsR, csR, renC, keyC, optK, fnd, envR, St.get, keyPV, keyV1, renPV, renV1, hasKey, made_zero, e2, lineV] <;> omega, by simp [boxesR, listsR, csR, renC, keyC, optK, fnd, envR, St.get, keyPV, keyV1, renPV, renV1, hasKey, made_zero, e2, lineV] <;> omega, by simp [boxesR, listsR, csR, renC, keyC, optK, fnd, envR, St.get, keyPV, keyV1, renPV, renV1, hasKey, made_zero, e2, lineV] <;> omega, by simp [boxesR, listsR, csR, renC, keyC, optK, fnd, envR, St.get, keyPV, keyV1, renPV, renV1, hasKey, made_zero, e2, lineV] <;> omega, by simp [boxesR, listsR, csR, renC, keyC, optK, fnd, envR, St.get, keyPV, keyV1, renPV, renV1, hasKey, made_zero, e2, lineV] <;> omega⟩ (by simp [boxesR, listsR, csR, renC, keyC, optK, fnd, envR, St.get, keyPV, keyV1, renPV, renV1, hasKey, made_zero, e2, lineV] <;> omega)⟩
      · have e1 : (((p.toNat &&& bitsL (linesOf b)[i] : Nat) : Int) = ((2 ^ (linesOf b)[i].t.toNat : Nat) : Int)) = False := eq_false (fun h => h3 (hc.1 (by omega)))
        have e2 := filN_miss (p := canU p) hlt (by simpa using h3)
        (repeat' (first | simp -implicitDefEqProofs only [hg, hlt, lineV, e1, go_sem, Nat.reduceLT, Nat.reduceLeDiff, Nat.reduceEqDiff, Nat.reduceAdd, Nat.reduceSub, Nat.reduceMul, Int.reduceEq, Int.reduceLT, Int.reduceLE, Int.reduceNeg, Int.reduceAdd, Int.reduceSub, Int.reduceMul, Int.reduceToNat, reduceIte, reduceCtorEq, List.map_cons, List.map_nil] | (refine And.intro ?_ ?_; omega) | (refine And.intro (shr_bd ?_ ?_) ?_; omega; omega) | refine sl_list rfl ?_ | refine sd_list rfl ?_ | refine sl_str ?_ | refine sd_str ?_))
        exact ⟨i + 1, by omega, by omega, weak_of (fun i => i) (fun i => i) rfl ⟨by simp [boxesR, listsR, csR, renC, keyC, optK, fnd, envR, St.get, keyPV, keyV1, renPV, renV1, hasKey, made_zero, e2] <;> omega, by simp [boxesR, listsR, csR, renC, keyC, optK, fnd, envR, St.get, keyPV, keyV1, renPV, renV1, hasKey, made_zero, e2] <;> omega, by simp [boxesR, listsR, csR, renC, keyC, optK, fnd, envR, St.get, keyPV, keyV1, renPV, renV1, hasKey, made_zero, e2] <;> omega, by simp [boxesR, listsR, csR, renC, keyC, optK, fnd, envR, St.get, keyPV, keyV1, renPV, renV1, hasKey, made_zero, e2] <;> omega, by simp [boxesR, listsR, csR, renC, keyC, optK, fnd, envR, St.get, keyPV, keyV1, renPV, renV1, hasKey, made_zero, e2] <;> omega⟩ (by simp [boxesR, listsR, csR, renC, keyC, optK, fnd, envR, St.get, keyPV, keyV1, renPV, renV1, hasKey, made_zero, e2] <;> omega)⟩
    · have e0 : ((i : Int) < (linesOf b).length) = False := eq_false (by omega)
      have hle : i = (linesOf b).length := by omega
      subst hle
      (repeat' (first | simp -implicitDefEqProofs only [e0, go_sem, Nat.reduceLT, Nat.reduceLeDiff, Nat.reduceEqDiff, Nat.reduceAdd, Nat.reduceSub, Nat.reduceMul, Int.reduceEq, Int.reduceLT, Int.reduceLE, Int.reduceNeg, Int.reduceAdd, Int.reduceSub, Int.reduceMul, Int.reduceToNat, reduceIte, reduceCtorEq, List.map_cons, List.map_nil] | (refine And.intro ?_ ?_; omega) | (refine And.intro (shr_bd ?_ ?_) ?_; omega; omega) | refine sl_list rfl ?_ | refine sd_list rfl ?_ | refine sl_str ?_ | refine sd_str ?_))
      exact fin_of (fun i => i) (fun i => 8) ⟨by simp [boxesR, listsR, csR, renC, keyC, optK, fnd, envR, St.get, keyPV, keyV1, renPV, renV1, hasKey, made_zero, e, filN_end] <;> omega, by simp [boxesR, listsR, csR, renC, keyC, optK, fnd, envR, St.get, keyPV, keyV1, renPV, renV1, hasKey, made_zero, e, filN_end] <;> omega, by simp [boxesR, listsR, csR, renC, keyC, optK, fnd, envR, St.get, keyPV, keyV1, renPV, renV1, hasKey, made_zero, e, filN_end] <;> omega, by simp [boxesR, listsR, csR, renC, keyC, optK, fnd, envR, St.get, keyPV, keyV1, renPV, renV1, hasKey, made_zero, e, filN_end] <;> omega, by simp [boxesR, listsR, csR, renC, keyC, optK, fnd, envR, St.get, keyPV, keyV1, renPV, renV1, hasKey, made_zero, e, filN_end] <;> omega⟩ (by simp [boxesR, listsR, csR, renC, keyC, optK, fnd, envR, St.get, keyPV, keyV1, renPV, renV1, hasKey, made_zero, e, filN_end] <;> omega) (by first | rfl | (simp [renPV, renV1, renC, e, filN_end]))
  · have e : undosOf b p = [] := by simp [undosOf, hp]
    refine loop_step (X := Nat) (fun i => ⟨44, [(1, vN p), (2, .s (.c (.p 2 0))), (5, vO 8), (6, vO 10), (7, vN 0)], ⟨[(2, brdC b)], [(8, ⟨55, 3, [], false, true⟩), (10, ⟨55, 3, (linesOf b).map lineV, false, true⟩)]⟩⟩)
      (fun i => True) (fun i => 0) 0 trivial (weak_of (fun i => i) (fun i => i) rfl ⟨by simp [boxesR, listsR, csR, renC, keyC, optK, fnd, envR, St.get, keyPV, keyV1, renPV, renV1, hasKey, made_zero] <;> omega, by simp [boxesR, listsR, csR, renC, keyC, optK, fnd, envR, St.get, keyPV, keyV1, renPV, renV1, hasKey, made_zero] <;> omega, by simp [boxesR, listsR, csR, renC, keyC, optK, fnd, envR, St.get, keyPV, keyV1, renPV, renV1, hasKey, made_zero] <;> omega, by simp [boxesR, listsR, csR, renC, keyC, optK, fnd, envR, St.get, keyPV, keyV1, renPV, renV1, hasKey, made_zero] <;> omega, by simp [boxesR, listsR, csR, renC, keyC, optK, fnd, envR, St.get, keyPV, keyV1, renPV, renV1, hasKey, made_zero] <;> omega⟩ (by simp [boxesR, listsR, csR, renC, keyC, optK, fnd, envR, St.get, keyPV, keyV1, renPV, renV1, hasKey, made_zero] <;> omega)) (fun i hi => ?_)
    by_cases hlt : (0 : Int) < (linesOf b).length
    · (repeat' (first | simp -implicitDefEqProofs only [hlt, go_sem, Nat.reduceLT, Nat.reduceLeDiff, Nat.reduceEqDiff, Nat.reduceAdd, Nat.reduceSub, Nat.reduceMul, Int.reduceEq, Int.reduceLT, Int.reduceLE, Int.reduceNeg, Int.reduceAdd, Int.reduceSub, Int.reduceMul, Int.reduceToNat, reduceIte, reduceCtorEq, List.map_cons, List.map_nil] | (refine And.intro ?_ ?_; omega) | (refine And.intro (shr_bd ?_ ?_) ?_; omega; omega) | refine sl_list rfl ?_ | refine sd_list rfl ?_ | refine sl_str ?_ | refine sd_str ?_))
      refine callS (PositionOk_c b p p2) rfl rfl rfl ?_
      (repeat' (first | simp -implicitDefEqProofs only [hp, go_sem, Nat.reduceLT, Nat.reduceLeDiff, Nat.reduceEqDiff, Nat.reduceAdd, Nat.reduceSub, Nat.reduceMul, Int.reduceEq, Int.reduceLT, Int.reduceLE, Int.reduceNeg, Int.reduceAdd, Int.reduceSub, Int.reduceMul, Int.reduceToNat, reduceIte, reduceCtorEq, List.map_cons, List.map_nil] | (refine And.intro ?_ ?_; omega) | (refine And.intro (shr_bd ?_ ?_) ?_; omega; omega) | refine sl_list rfl ?_ | refine sd_list rfl ?_ | refine sl_str ?_ | refine sd_str ?_))
      exact fin_of (fun i => i) (fun i => 8) ⟨by simp [boxesR, listsR, csR, renC, keyC, optK, fnd, envR, St.get, keyPV, keyV1, renPV, renV1, hasKey, made_zero, e] <;> omega, by simp [boxesR, listsR, csR, renC, keyC, optK, fnd, envR, St.get, keyPV, keyV1, renPV, renV1, hasKey, made_zero, e] <;> omega, by simp [boxesR, listsR, csR, renC, keyC, optK, fnd, envR, St.get, keyPV, keyV1, renPV, renV1, hasKey, made_zero, e] <;> omega, by simp [boxesR, listsR, csR, renC, keyC, optK, fnd, envR, St.get, keyPV, keyV1, renPV, renV1, hasKey, made_zero, e] <;> omega, by simp [boxesR, listsR, csR, renC, keyC, optK, fnd, envR, St.get, keyPV, keyV1, renPV, renV1, hasKey, made_zero, e] <;> omega⟩ (by simp [boxesR, listsR, csR, renC, keyC, optK, fnd, envR, St.get, keyPV, keyV1, renPV, renV1, hasKey, made_zero, e] <;> omega) (by first | rfl | (simp [renPV, renV1, renC, e]))
    · (repeat' (first | simp -implicitDefEqProofs only [hlt, go_sem, Nat.reduceLT, Nat.reduceLeDiff, Nat.reduceEqDiff, Nat.reduceAdd, Nat.reduceSub, Nat.reduceMul, Int.reduceEq, Int.reduceLT, Int.reduceLE, Int.reduceNeg, Int.reduceAdd, Int.reduceSub, Int.reduceMul, Int.reduceToNat, reduceIte, reduceCtorEq, List.map_cons, List.map_nil] | (refine And.intro ?_ ?_; omega) | (refine And.intro (shr_bd ?_ ?_) ?_; omega; omega) | refine sl_list rfl ?_ | refine sd_list rfl ?_ | refine sl_str ?_ | refine sd_str ?_))
      exact fin_of (fun i => i) (fun i => 8) ⟨by simp [boxesR, listsR, csR, renC, keyC, optK, fnd, envR, St.get, keyPV, keyV1, renPV, renV1, hasKey, made_zero, e] <;> omega, by simp [boxesR, listsR, csR, renC, keyC, optK, fnd, envR, St.get, keyPV, keyV1, renPV, renV1, hasKey, made_zero, e] <;> omega, by simp [boxesR, listsR, csR, renC, keyC, optK, fnd, envR, St.get, keyPV, keyV1, renPV, renV1, hasKey, made_zero, e] <;> omega, by simp [boxesR, listsR, csR, renC, keyC, optK, fnd, envR, St.get, keyPV, keyV1, renPV, renV1, hasKey, made_zero, e] <;> omega, by simp [boxesR, listsR, csR, renC, keyC, optK, fnd, envR, St.get, keyPV, keyV1, renPV, renV1, hasKey, made_zero, e] <;> omega⟩ (by simp [boxesR, listsR, csR, renC, keyC, optK, fnd, envR, St.get, keyPV, keyV1, renPV, renV1, hasKey, made_zero, e] <;> omega) (by first | rfl | (simp [renPV, renV1, renC, e]))
theorem iSpare_yes (d : Nat) (b : Brd) (p g : Int) (p2 : p ≤ 9223372036854775807) (g2 : g ≤ 9223372036854775807) (h : canReach b p g = true) : PC Try.prog 18 [] [.a (brdC b), .c (.v (.int .i64 p)), .c (.v (.int .i64 g))] (.s (.c (.o d))) ⟨[], [(d, ⟨3, 1, (sparePegs b p g).map iV, false, true⟩)]⟩ := by
  have e : sparePegs b p g = spares b (spreadL b true g) p := by simp [sparePegs, h]
  rw [canReach_back] at h
  obtain ⟨_, _, _, _, p0, _, _, _⟩ := spread_at h
  refine pc_of Try.func18 rfl (by kernel_rfl) _ Try.ntmps18 (by simp) ?_
  repeat' first
    | (first | simp -implicitDefEqProofs only [h, go_sem, Nat.reduceLT, Nat.reduceLeDiff, Nat.reduceEqDiff, Nat.reduceAdd, Nat.reduceSub, Nat.reduceMul, Int.reduceEq, Int.reduceLT, Int.reduceLE, Int.reduceNeg, Int.reduceAdd, Int.reduceSub, Int.reduceMul, Int.reduceToNat, reduceIte, reduceCtorEq, List.map_cons, List.map_nil] | (refine And.intro ?_ ?_; omega) | (refine And.intro (shr_bd ?_ ?_) ?_; omega; omega) | refine sl_list rfl ?_ | refine sd_list rfl ?_ | refine sl_str ?_ | refine sd_str ?_)
    | refine callL1 (fun d => spreadOf_c d b g true g2) rfl rfl rfl ?_
    | refine callS (has_c _ p) rfl rfl rfl ?_
    | refine callL1 (fun d => sparesIn_c d b _ p p0 p2) rfl rfl rfl ?_
  exact fin_of (fun i => i) (fun i => 18) ⟨by simp [boxesR, listsR, csR, renC, keyC, optK, fnd, envR, St.get, keyPV, keyV1, renPV, renV1, hasKey, made_zero, e] <;> omega, by simp [boxesR, listsR, csR, renC, keyC, optK, fnd, envR, St.get, keyPV, keyV1, renPV, renV1, hasKey, made_zero, e] <;> omega, by simp [boxesR, listsR, csR, renC, keyC, optK, fnd, envR, St.get, keyPV, keyV1, renPV, renV1, hasKey, made_zero, e] <;> omega, by simp [boxesR, listsR, csR, renC, keyC, optK, fnd, envR, St.get, keyPV, keyV1, renPV, renV1, hasKey, made_zero, e] <;> omega, by simp [boxesR, listsR, csR, renC, keyC, optK, fnd, envR, St.get, keyPV, keyV1, renPV, renV1, hasKey, made_zero, e] <;> omega⟩ (by simp [boxesR, listsR, csR, renC, keyC, optK, fnd, envR, St.get, keyPV, keyV1, renPV, renV1, hasKey, made_zero, e] <;> omega) (by first | rfl | (simp [renPV, renV1, renC, e]))
theorem iSpare_no (b : Brd) (p g : Int) (g2 : g ≤ 9223372036854775807) (h : canReach b p g = false) : PC Try.prog 18 [] [.a (brdC b), .c (.v (.int .i64 p)), .c (.v (.int .i64 g))] (.s (.c (.v (.slice none 0 0)))) ⟨[], []⟩ := by
  rw [canReach_back] at h
  refine pc_of Try.func18 rfl (by kernel_rfl) _ Try.ntmps18 (by simp) ?_
  repeat' first
    | (first | simp -implicitDefEqProofs only [h, go_sem, Nat.reduceLT, Nat.reduceLeDiff, Nat.reduceEqDiff, Nat.reduceAdd, Nat.reduceSub, Nat.reduceMul, Int.reduceEq, Int.reduceLT, Int.reduceLE, Int.reduceNeg, Int.reduceAdd, Int.reduceSub, Int.reduceMul, Int.reduceToNat, reduceIte, reduceCtorEq, List.map_cons, List.map_nil] | (refine And.intro ?_ ?_; omega) | (refine And.intro (shr_bd ?_ ?_) ?_; omega; omega) | refine sl_list rfl ?_ | refine sd_list rfl ?_ | refine sl_str ?_ | refine sd_str ?_)
    | refine callL1 (fun d => spreadOf_c d b g true g2) rfl rfl rfl ?_
    | refine callS (has_c _ p) rfl rfl rfl ?_
  exact fin_scal rfl rfl
set_option maxHeartbeats 16000000 in
theorem lawSpare_c (bs : List Nat) (hbs : ∀ b ∈ bs, b ≤ 255) : PC Try.prog 4 [] [.c (.l 1 (bs.map bV))] (vB true) ⟨[], []⟩ := by
  by_cases hn : (1048576 : Int) < bs.length
  · refine pc_of Try.func4 rfl (by kernel_rfl) _ Try.ntmps4 (by simp) ?_
    repeat' first
      | (first | simp -implicitDefEqProofs only [hn, go_sem, Nat.reduceLT, Nat.reduceLeDiff, Nat.reduceEqDiff, Nat.reduceAdd, Nat.reduceSub, Nat.reduceMul, Int.reduceEq, Int.reduceLT, Int.reduceLE, Int.reduceNeg, Int.reduceAdd, Int.reduceSub, Int.reduceMul, Int.reduceToNat, reduceIte, reduceCtorEq, List.map_cons, List.map_nil] | (refine And.intro ?_ ?_; omega) | (refine And.intro (shr_bd ?_ ?_) ?_; omega; omega) | refine sl_list rfl ?_ | refine sd_list rfl ?_ | refine sl_str ?_ | refine sd_str ?_)
      | refine callS (lawBig_c bs) rfl rfl rfl ?_
    exact fin_scal rfl rfl
  obtain ⟨b, p', g', ha, pd⟩ := drawAim_ex ⟨bs, hbs, by omega⟩
  obtain ⟨hs, hp, hg⟩ := ha
  have hb := small_ok hs
  have SP := spare_ok (g := g') hp
  have LL := least_law hs hg
  obtain ⟨_, p0, _⟩ := pos_sub hp
  obtain ⟨_, g0, _⟩ := pos_sub hg
  have p1 := pos_le hp
  have g1 := pos_le hg
  obtain ⟨p, rfl⟩ : ∃ p : Nat, p' = p := ⟨p'.toNat, by omega⟩
  obtain ⟨g, rfl⟩ : ∃ g : Nat, g' = g := ⟨g'.toNat, by omega⟩
  rw [Int.toNat_natCast] at LL
  have T5 := SP.t5
  have RT := rect32_tight
  have R1 : (1 ≤ countTight (rect 3 2) 1) = True := eq_true RT.1
  have R2 : (countTight (rect 3 2) 1 ≤ ((backOf (rect 3 2) 1).length : Int)) = True := eq_true RT.2
  have pg : pegs g ≤ 49 := cardN_le
  have lu := undos_len (b := b) (p := (g : Int))
  have lend : ∀ (Q : Prop), ((leastStart b g = -1 ∧ ((undosOf b g).length : Int) = 0) → Q) → ((leastStart b g = (pegs g : Int) + 1 ∧ ¬ ((undosOf b g).length : Int) = 0 ∧ ¬ ((pegs g : Int) + 1 = -1)) → Q) → Q := fun Q h1 h2 => by
    rcases LL with ⟨x, y⟩ | ⟨x, y⟩
    · exact h1 ⟨x, by omega⟩
    · exact h2 ⟨x, by omega, by omega⟩
  have hb0 : ((1048576 : Int) < bs.length) = False := eq_false hn
  by_cases hc : canReach b p g = true
  · have T1 := SP.t1 hc
    have T2 := SP.t2 hc
    have T3 := SP.t3 hc
    have T4 := SP.t4 hc
    simp only [Int.toNat_natCast] at T2
    have sl : (sparePegs b p g).length ≤ 49 := by
      simp only [sparePegs, hc, if_true]
      exact spares_len
    refine pc_of Try.func4 rfl (by kernel_rfl) _ Try.ntmps4 (by simp) ?_
    repeat' first
      | (first | simp -implicitDefEqProofs only [hb0, hc, go_sem, Nat.reduceLT, Nat.reduceLeDiff, Nat.reduceEqDiff, Nat.reduceAdd, Nat.reduceSub, Nat.reduceMul, Int.reduceEq, Int.reduceLT, Int.reduceLE, Int.reduceNeg, Int.reduceAdd, Int.reduceSub, Int.reduceMul, Int.reduceToNat, reduceIte, reduceCtorEq, List.map_cons, List.map_nil] | (refine And.intro ?_ ?_; omega) | (refine And.intro (shr_bd ?_ ?_) ?_; omega; omega) | refine sl_list rfl ?_ | refine sd_list rfl ?_ | refine sl_str ?_ | refine sd_str ?_)
      | refine callS (lawBig_c bs) rfl rfl rfl ?_
      | refine callS pd rfl rfl rfl ?_
      | refine callS (CanReach_c b p g (by omega) (by omega)) rfl rfl rfl ?_
      | refine callL1 (fun d => iSpare_yes d b p g (by omega) (by omega) hc) rfl rfl rfl ?_
      | refine callS (iTighten_c b p g (by omega) (by omega)) rfl rfl rfl ?_
    refine loop_step (X := Nat) (fun i => ⟨142, [(3, .s (.c (.p 3 0))), (4, vN p), (5, vN g), (6, vB true), (7, vO 28), (8, vN (tightI b p g)), (9, vB true), (10, vN i)], ⟨[(3, brdC b)], [(28, ⟨3, 1, (sparePegs b p g).map iV, false, true⟩)]⟩⟩)
      (fun i => i ≤ (sparePegs b p g).length) (fun i => (sparePegs b p g).length - i) 0 (by omega) (weak_of (fun i => i) (fun i => i) rfl ⟨by simp [boxesR, listsR, csR, renC, keyC, optK, fnd, envR, St.get, keyPV, keyV1, renPV, renV1, hasKey, made_zero] <;> omega, by simp [boxesR, listsR, csR, renC, keyC, optK, fnd, envR, St.get, keyPV, keyV1, renPV, renV1, hasKey, made_zero] <;> omega, by simp [boxesR, listsR, csR, renC, keyC, optK, fnd, envR, St.get, keyPV, keyV1, renPV, renV1, hasKey, made_zero] <;> omega, by simp [boxesR, listsR, csR, renC, keyC, optK, fnd, envR, St.get, keyPV, keyV1, renPV, renV1, hasKey, made_zero] <;> omega, by simp [boxesR, listsR, csR, renC, keyC, optK, fnd, envR, St.get, keyPV, keyV1, renPV, renV1, hasKey, made_zero] <;> omega⟩ (by simp [boxesR, listsR, csR, renC, keyC, optK, fnd, envR, St.get, keyPV, keyV1, renPV, renV1, hasKey, made_zero] <;> omega)) (fun i hi => ?_)
    by_cases hlt : i < (sparePegs b p g).length
    · have e0 : ((i : Int) < (sparePegs b p g).length) = True := eq_true (by omega)
      have h1 := map_get (f := iV) hlt
      obtain ⟨k0, k1, hpk, hle, hcr⟩ := SP.peg _ (List.getElem_mem hlt)
      generalize (sparePegs b p g)[i] = k at h1 k0 k1 hpk hle hcr
      have pk := pow48 k0 k1
      have ep : (2 : Int) ^ k.toNat = ((2 ^ k.toNat : Nat) : Int) := by simp
      rw [ep] at hle hcr
      repeat' first
        | (first | simp -implicitDefEqProofs only [e0, h1, hlt, hpk, hcr, go_sem, Nat.reduceLT, Nat.reduceLeDiff, Nat.reduceEqDiff, Nat.reduceAdd, Nat.reduceSub, Nat.reduceMul, Int.reduceEq, Int.reduceLT, Int.reduceLE, Int.reduceNeg, Int.reduceAdd, Int.reduceSub, Int.reduceMul, Int.reduceToNat, reduceIte, reduceCtorEq, List.map_cons, List.map_nil] | (refine And.intro ?_ ?_; omega) | (refine And.intro (shr_bd ?_ ?_) ?_; omega; omega) | refine sl_list rfl ?_ | refine sd_list rfl ?_ | refine sl_str ?_ | refine sd_str ?_)
        | refine draw_step Try.pl_follows (by kernel_rfl) ?_
        | refine callD (HasPeg_c b p k (by omega)) rfl rfl rfl ?_
        | refine callD (CanReach_c b _ g (by omega) (by omega)) rfl rfl rfl ?_
      exact ⟨i + 1, by omega, by omega, weak_of (fun i => i) (fun i => i) rfl ⟨by simp [boxesR, listsR, csR, renC, keyC, optK, fnd, envR, St.get, keyPV, keyV1, renPV, renV1, hasKey, made_zero] <;> omega, by simp [boxesR, listsR, csR, renC, keyC, optK, fnd, envR, St.get, keyPV, keyV1, renPV, renV1, hasKey, made_zero] <;> omega, by simp [boxesR, listsR, csR, renC, keyC, optK, fnd, envR, St.get, keyPV, keyV1, renPV, renV1, hasKey, made_zero] <;> omega, by simp [boxesR, listsR, csR, renC, keyC, optK, fnd, envR, St.get, keyPV, keyV1, renPV, renV1, hasKey, made_zero] <;> omega, by simp [boxesR, listsR, csR, renC, keyC, optK, fnd, envR, St.get, keyPV, keyV1, renPV, renV1, hasKey, made_zero] <;> omega⟩ (by simp [boxesR, listsR, csR, renC, keyC, optK, fnd, envR, St.get, keyPV, keyV1, renPV, renV1, hasKey, made_zero] <;> omega)⟩
    · have e0 : ((i : Int) < (sparePegs b p g).length) = False := eq_false (by omega)
      have e1 : ((i : Int) < 0) = False := eq_false (by omega)
      by_cases hz : (sparePegs b p g).length = 0
      · have hz' : ((sparePegs b p g).length : Int) = 0 := by omega
        have T4 : isTight b p g = true := by rw [T4, hz]; rfl
        apply lend
        · rintro ⟨x1, x2⟩
          repeat' first
            | (first | simp -implicitDefEqProofs only [e0, e1, T1, T2, T3, T4, hz', x1, x2, R1, R2, Int.toNat_natCast, go_sem, Nat.reduceLT, Nat.reduceLeDiff, Nat.reduceEqDiff, Nat.reduceAdd, Nat.reduceSub, Nat.reduceMul, Int.reduceEq, Int.reduceLT, Int.reduceLE, Int.reduceNeg, Int.reduceAdd, Int.reduceSub, Int.reduceMul, Int.reduceToNat, reduceIte, reduceCtorEq, List.map_cons, List.map_nil] | (refine And.intro ?_ ?_; omega) | (refine And.intro (shr_bd ?_ ?_) ?_; omega; omega) | refine sl_list rfl ?_ | refine sd_list rfl ?_ | refine sl_str ?_ | refine sd_str ?_)
            | refine callS (iIsTight_c b _ g (by omega) (by omega)) rfl rfl rfl ?_
            | refine callS (CanReach_c b _ g (by omega) (by omega)) rfl rfl rfl ?_
            | refine callS (iLeastStart_c b g (by omega)) rfl rfl rfl ?_
            | refine callS (iRect_c (w := 3) (h := 2) (by omega) (by omega) (by omega) (by omega)) rfl rfl rfl ?_
            | refine callS (iCountTight_c (rect 3 2) 1 (by omega)) rfl rfl rfl ?_
            | refine callS (CountBack_c (rect 3 2) 1 (by omega)) rfl rfl rfl ?_
            | refine callS (CountPegs_c b g hg (by omega)) rfl rfl rfl ?_
            | refine callL1 (fun d => UndosOf_c d b g (by omega)) rfl rfl rfl ?_
          all_goals exact fin_scal rfl rfl
        · rintro ⟨x1, x2, x3⟩
          repeat' first
            | (first | simp -implicitDefEqProofs only [e0, e1, T1, T2, T3, T4, hz', x1, x2, x3, R1, R2, Int.toNat_natCast, go_sem, Nat.reduceLT, Nat.reduceLeDiff, Nat.reduceEqDiff, Nat.reduceAdd, Nat.reduceSub, Nat.reduceMul, Int.reduceEq, Int.reduceLT, Int.reduceLE, Int.reduceNeg, Int.reduceAdd, Int.reduceSub, Int.reduceMul, Int.reduceToNat, reduceIte, reduceCtorEq, List.map_cons, List.map_nil] | (refine And.intro ?_ ?_; omega) | (refine And.intro (shr_bd ?_ ?_) ?_; omega; omega) | refine sl_list rfl ?_ | refine sd_list rfl ?_ | refine sl_str ?_ | refine sd_str ?_)
            | refine callS (iIsTight_c b _ g (by omega) (by omega)) rfl rfl rfl ?_
            | refine callS (CanReach_c b _ g (by omega) (by omega)) rfl rfl rfl ?_
            | refine callS (iLeastStart_c b g (by omega)) rfl rfl rfl ?_
            | refine callS (iRect_c (w := 3) (h := 2) (by omega) (by omega) (by omega) (by omega)) rfl rfl rfl ?_
            | refine callS (iCountTight_c (rect 3 2) 1 (by omega)) rfl rfl rfl ?_
            | refine callS (CountBack_c (rect 3 2) 1 (by omega)) rfl rfl rfl ?_
            | refine callS (CountPegs_c b g hg (by omega)) rfl rfl rfl ?_
            | refine callL1 (fun d => UndosOf_c d b g (by omega)) rfl rfl rfl ?_
          all_goals exact fin_scal rfl rfl
      · have hz' : ¬ ((sparePegs b p g).length : Int) = 0 := by omega
        rw [decide_eq_false hz] at T4
        apply lend
        · rintro ⟨x1, x2⟩
          repeat' first
            | (first | simp -implicitDefEqProofs only [e0, e1, T1, T2, T3, T4, hz', x1, x2, R1, R2, Int.toNat_natCast, go_sem, Nat.reduceLT, Nat.reduceLeDiff, Nat.reduceEqDiff, Nat.reduceAdd, Nat.reduceSub, Nat.reduceMul, Int.reduceEq, Int.reduceLT, Int.reduceLE, Int.reduceNeg, Int.reduceAdd, Int.reduceSub, Int.reduceMul, Int.reduceToNat, reduceIte, reduceCtorEq, List.map_cons, List.map_nil] | (refine And.intro ?_ ?_; omega) | (refine And.intro (shr_bd ?_ ?_) ?_; omega; omega) | refine sl_list rfl ?_ | refine sd_list rfl ?_ | refine sl_str ?_ | refine sd_str ?_)
            | refine callS (iIsTight_c b _ g (by omega) (by omega)) rfl rfl rfl ?_
            | refine callS (CanReach_c b _ g (by omega) (by omega)) rfl rfl rfl ?_
            | refine callS (iLeastStart_c b g (by omega)) rfl rfl rfl ?_
            | refine callS (iRect_c (w := 3) (h := 2) (by omega) (by omega) (by omega) (by omega)) rfl rfl rfl ?_
            | refine callS (iCountTight_c (rect 3 2) 1 (by omega)) rfl rfl rfl ?_
            | refine callS (CountBack_c (rect 3 2) 1 (by omega)) rfl rfl rfl ?_
            | refine callS (CountPegs_c b g hg (by omega)) rfl rfl rfl ?_
            | refine callL1 (fun d => UndosOf_c d b g (by omega)) rfl rfl rfl ?_
          all_goals exact fin_scal rfl rfl
        · rintro ⟨x1, x2, x3⟩
          repeat' first
            | (first | simp -implicitDefEqProofs only [e0, e1, T1, T2, T3, T4, hz', x1, x2, x3, R1, R2, Int.toNat_natCast, go_sem, Nat.reduceLT, Nat.reduceLeDiff, Nat.reduceEqDiff, Nat.reduceAdd, Nat.reduceSub, Nat.reduceMul, Int.reduceEq, Int.reduceLT, Int.reduceLE, Int.reduceNeg, Int.reduceAdd, Int.reduceSub, Int.reduceMul, Int.reduceToNat, reduceIte, reduceCtorEq, List.map_cons, List.map_nil] | (refine And.intro ?_ ?_; omega) | (refine And.intro (shr_bd ?_ ?_) ?_; omega; omega) | refine sl_list rfl ?_ | refine sd_list rfl ?_ | refine sl_str ?_ | refine sd_str ?_)
            | refine callS (iIsTight_c b _ g (by omega) (by omega)) rfl rfl rfl ?_
            | refine callS (CanReach_c b _ g (by omega) (by omega)) rfl rfl rfl ?_
            | refine callS (iLeastStart_c b g (by omega)) rfl rfl rfl ?_
            | refine callS (iRect_c (w := 3) (h := 2) (by omega) (by omega) (by omega) (by omega)) rfl rfl rfl ?_
            | refine callS (iCountTight_c (rect 3 2) 1 (by omega)) rfl rfl rfl ?_
            | refine callS (CountBack_c (rect 3 2) 1 (by omega)) rfl rfl rfl ?_
            | refine callS (CountPegs_c b g hg (by omega)) rfl rfl rfl ?_
            | refine callL1 (fun d => UndosOf_c d b g (by omega)) rfl rfl rfl ?_
          all_goals exact fin_scal rfl rfl
  · have hc' : canReach b p g = false := by simpa using hc
    refine pc_of Try.func4 rfl (by kernel_rfl) _ Try.ntmps4 (by simp) ?_
    repeat' first
      | (first | simp -implicitDefEqProofs only [hb0, hc', go_sem, Nat.reduceLT, Nat.reduceLeDiff, Nat.reduceEqDiff, Nat.reduceAdd, Nat.reduceSub, Nat.reduceMul, Int.reduceEq, Int.reduceLT, Int.reduceLE, Int.reduceNeg, Int.reduceAdd, Int.reduceSub, Int.reduceMul, Int.reduceToNat, reduceIte, reduceCtorEq, List.map_cons, List.map_nil] | (refine And.intro ?_ ?_; omega) | (refine And.intro (shr_bd ?_ ?_) ?_; omega; omega) | refine sl_list rfl ?_ | refine sd_list rfl ?_ | refine sl_str ?_ | refine sd_str ?_)
      | refine callS (lawBig_c bs) rfl rfl rfl ?_
      | refine callS pd rfl rfl rfl ?_
      | refine callS (CanReach_c b p g (by omega) (by omega)) rfl rfl rfl ?_
      | refine callS (iSpare_no b p g (by omega) hc') rfl rfl rfl ?_
      | refine callS (iTighten_c b p g (by omega) (by omega)) rfl rfl rfl ?_
    refine loop_step (X := Nat) (fun i => ⟨142, [(3, .s (.c (.p 3 0))), (4, vN p), (5, vN g), (6, vB false), (7, .s (.c (.v (.slice none 0 0)))), (8, vN (tightI b p g)), (9, vB false), (10, vN 0)], ⟨[(3, brdC b)], []⟩⟩)
      (fun i => True) (fun i => 0) 0 trivial (weak_of (fun i => i) (fun i => i) rfl ⟨by simp [boxesR, listsR, csR, renC, keyC, optK, fnd, envR, St.get, keyPV, keyV1, renPV, renV1, hasKey, made_zero] <;> omega, by simp [boxesR, listsR, csR, renC, keyC, optK, fnd, envR, St.get, keyPV, keyV1, renPV, renV1, hasKey, made_zero] <;> omega, by simp [boxesR, listsR, csR, renC, keyC, optK, fnd, envR, St.get, keyPV, keyV1, renPV, renV1, hasKey, made_zero] <;> omega, by simp [boxesR, listsR, csR, renC, keyC, optK, fnd, envR, St.get, keyPV, keyV1, renPV, renV1, hasKey, made_zero] <;> omega, by simp [boxesR, listsR, csR, renC, keyC, optK, fnd, envR, St.get, keyPV, keyV1, renPV, renV1, hasKey, made_zero] <;> omega⟩ (by simp [boxesR, listsR, csR, renC, keyC, optK, fnd, envR, St.get, keyPV, keyV1, renPV, renV1, hasKey, made_zero] <;> omega)) (fun i hi => ?_)
    apply lend
    · rintro ⟨x1, x2⟩
      repeat' first
        | (first | simp -implicitDefEqProofs only [x1, x2, R1, R2, go_sem, Nat.reduceLT, Nat.reduceLeDiff, Nat.reduceEqDiff, Nat.reduceAdd, Nat.reduceSub, Nat.reduceMul, Int.reduceEq, Int.reduceLT, Int.reduceLE, Int.reduceNeg, Int.reduceAdd, Int.reduceSub, Int.reduceMul, Int.reduceToNat, reduceIte, reduceCtorEq, List.map_cons, List.map_nil] | (refine And.intro ?_ ?_; omega) | (refine And.intro (shr_bd ?_ ?_) ?_; omega; omega) | refine sl_list rfl ?_ | refine sd_list rfl ?_ | refine sl_str ?_ | refine sd_str ?_)
        | refine callS (iLeastStart_c b g (by omega)) rfl rfl rfl ?_
        | refine callS (iRect_c (w := 3) (h := 2) (by omega) (by omega) (by omega) (by omega)) rfl rfl rfl ?_
        | refine callS (iCountTight_c (rect 3 2) 1 (by omega)) rfl rfl rfl ?_
        | refine callS (CountBack_c (rect 3 2) 1 (by omega)) rfl rfl rfl ?_
        | refine callS (CountPegs_c b g hg (by omega)) rfl rfl rfl ?_
        | refine callL1 (fun d => UndosOf_c d b g (by omega)) rfl rfl rfl ?_
      all_goals exact fin_scal rfl rfl
    · rintro ⟨x1, x2, x3⟩
      repeat' first
        | (first | simp -implicitDefEqProofs only [x1, x2, x3, R1, R2, go_sem, Nat.reduceLT, Nat.reduceLeDiff, Nat.reduceEqDiff, Nat.reduceAdd, Nat.reduceSub, Nat.reduceMul, Int.reduceEq, Int.reduceLT, Int.reduceLE, Int.reduceNeg, Int.reduceAdd, Int.reduceSub, Int.reduceMul, Int.reduceToNat, reduceIte, reduceCtorEq, List.map_cons, List.map_nil] | (refine And.intro ?_ ?_; omega) | (refine And.intro (shr_bd ?_ ?_) ?_; omega; omega) | refine sl_list rfl ?_ | refine sd_list rfl ?_ | refine sl_str ?_ | refine sd_str ?_)
        | refine callS (iLeastStart_c b g (by omega)) rfl rfl rfl ?_
        | refine callS (iRect_c (w := 3) (h := 2) (by omega) (by omega) (by omega) (by omega)) rfl rfl rfl ?_
        | refine callS (iCountTight_c (rect 3 2) 1 (by omega)) rfl rfl rfl ?_
        | refine callS (CountBack_c (rect 3 2) 1 (by omega)) rfl rfl rfl ?_
        | refine callS (CountPegs_c b g hg (by omega)) rfl rfl rfl ?_
        | refine callL1 (fun d => UndosOf_c d b g (by omega)) rfl rfl rfl ?_
      all_goals exact fin_scal rfl rfl
theorem fnSpare.law_c {c : C} (h : TC (.l 1 false [.i .u8]) c) : PC Try.prog 4 [] [.c c] (vB true) ⟨[], []⟩ := by
  obtain ⟨bs, rfl, hb⟩ := lawBytes_of h
  exact lawSpare_c bs hb
end Go.Proofs.Ytenfpjipeeolpaa
