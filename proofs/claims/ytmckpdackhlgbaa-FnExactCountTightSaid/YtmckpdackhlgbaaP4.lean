/-
  What the functions compute that search the positions that jumps lead to.
-/
import Derived.Test.YtmckpdackhlgbaaP3
namespace Go.Proofs.Ytmckpdackhlgbaa
open Go.PL
set_option linter.unusedSimpArgs false
abbrev nV (q : Nat) : Value := .int .i64 (q : Int)
theorem map_set' {S : List Bool} {i : Nat} {x : Bool} : (S.map Value.bool).set i (.bool x) = (S.set i x).map Value.bool := by simp [List.map_set]
theorem map_repl {n : Nat} : List.replicate n (Value.bool false) = (List.replicate n false).map Value.bool := by simp
theorem bool_get {S : List Bool} {i : Nat} {x : Bool} (h : S[i]? = some x) : (S.map Value.bool)[i]? = some (.bool x) := by simp [h]
theorem map_getN {l : List Nat} {i : Nat} (h : i < l.length) : (l.map nV)[i]? = some (nV l[i]) := by simp [h]
@[go_sem] theorem n_toNat {n : Nat} : ((n : Int)).toNat = n := Int.toNat_natCast n
theorem able_t {q : Nat} {l : Ln} : able true q l = canU (q : Int) l := rfl
theorem able_f {q : Nat} {l : Ln} : able false q l = canJ (q : Int) l := rfl
set_option maxHeartbeats 8000000 in
theorem l14Seen_c (d : Nat) (b : Brd) (p : Int) (bk : Bool) (hs : isSmall b = true) (hp : positionOk b p = true) : PC Try.prog 126 [] [.a (brdC b), .c (.v (.int .i64 p)), .c (.v (.bool bk))] (.s (.c (.o d))) ⟨[], [(d, ⟨4, 1, (seenL b bk p.toNat).map Value.bool, false, true⟩)]⟩ := by
  refine pc_of Try.func126 rfl (by kernel_rfl) _ Try.ntmps126 (by simp) ?_
  obtain ⟨hb, p0, hsub⟩ := pos_sub hp
  have hbN := board_le hs
  have hplt := sub_lt hb hsub
  obtain ⟨w1, w2, h1, h2, m1, m2, n1, n2, n3⟩ := bok hb
  have hpw := pow_bd (by omega) m2
  have hbe : (2 : Int) ^ (b.w * b.h).toNat = (boardN b : Int) := by simp [boardN]
  have hll := linesOf_len (b := b)
  have ep : (p.toNat : Int) = p := Int.toNat_of_nonneg p0
  (repeat' (first | simp -implicitDefEqProofs only [Int.one_mul, hbe, go_sem, Nat.reduceLT, Nat.reduceLeDiff, Nat.reduceEqDiff, Nat.reduceAdd, Nat.reduceSub, Nat.reduceMul, Int.reduceEq, Int.reduceLT, Int.reduceLE, Int.reduceNeg, Int.reduceAdd, Int.reduceSub, Int.reduceMul, Int.reduceToNat, reduceIte, reduceCtorEq, List.map_cons, List.map_nil] | (refine And.intro ?_ ?_; omega) | (refine And.intro (shr_bd ?_ ?_) ?_; omega; omega) | refine sl_list rfl ?_ | refine sd_list rfl ?_ | refine sl_str ?_ | refine sd_str ?_))
  refine callL (LinesOf_c 23 b) rfl rfl rfl ?_
  (repeat' (first | simp -implicitDefEqProofs only [map_repl, map_set', go_sem, Nat.reduceLT, Nat.reduceLeDiff, Nat.reduceEqDiff, Nat.reduceAdd, Nat.reduceSub, Nat.reduceMul, Int.reduceEq, Int.reduceLT, Int.reduceLE, Int.reduceNeg, Int.reduceAdd, Int.reduceSub, Int.reduceMul, Int.reduceToNat, reduceIte, reduceCtorEq, List.map_cons, List.map_nil] | (refine And.intro ?_ ?_; omega) | (refine And.intro (shr_bd ?_ ?_) ?_; omega; omega) | refine sl_list rfl ?_ | refine sd_list rfl ?_ | refine sl_str ?_ | refine sd_str ?_))
  refine loop_step (X := Nat × List Bool × List Nat) (fun x => ⟨95, [(2, vB bk), (7, vO 21), (8, vO 23), (9, vO 28), (10, vN x.1)], ⟨[], [(28, ⟨3, 1, x.2.2.map nV, false, true⟩), (23, ⟨42, 3, (linesOf b).map lineV, false, true⟩), (21, ⟨4, 1, x.2.1.map Value.bool, false, true⟩)]⟩⟩)
    (fun x => Spr b bk p.toNat x.2.1 x.2.2 x.1) (fun x => boardN b - x.1) (0, (List.replicate (boardN b) false).set p.toNat true, [p.toNat]) (spr_start hb hsub) (weak_of (fun i => i) (fun i => i) rfl ⟨by simp [boxesR, listsR, csR, renC, keyC, optK, fnd, envR, St.get, keyPV, keyV1, renPV, renV1, hasKey, made_zero, ep] <;> omega, by simp [boxesR, listsR, csR, renC, keyC, optK, fnd, envR, St.get, keyPV, keyV1, renPV, renV1, hasKey, made_zero, ep] <;> omega, by simp [boxesR, listsR, csR, renC, keyC, optK, fnd, envR, St.get, keyPV, keyV1, renPV, renV1, hasKey, made_zero, ep] <;> omega, by simp [boxesR, listsR, csR, renC, keyC, optK, fnd, envR, St.get, keyPV, keyV1, renPV, renV1, hasKey, made_zero, ep] <;> omega, by simp [boxesR, listsR, csR, renC, keyC, optK, fnd, envR, St.get, keyPV, keyV1, renPV, renV1, hasKey, made_zero, ep] <;> omega⟩ (by simp [boxesR, listsR, csR, renC, keyC, optK, fnd, envR, St.get, keyPV, keyV1, renPV, renV1, hasKey, made_zero, ep] <;> omega)) (fun x hx => ?_)
  obtain ⟨k, S, td⟩ := x
  simp only at hx
  have hk1 := hx.le
  have hk2 := spr_len hx
  simp -implicitDefEqProofs only [go_sem, Nat.reduceLT, Nat.reduceLeDiff, Nat.reduceEqDiff, Nat.reduceAdd, Nat.reduceSub, Nat.reduceMul, Int.reduceEq, Int.reduceLT, Int.reduceLE, Int.reduceNeg, Int.reduceAdd, Int.reduceSub, Int.reduceMul, Int.reduceToNat, reduceIte, reduceCtorEq, List.map_cons, List.map_nil]
  refine if_splitP (fun h => ?_) (fun h => ?_)
  · have hklt : k < td.length := by omega
    have hgk := map_getN hklt
    simp -implicitDefEqProofs only [go_sem, Nat.reduceLT, Nat.reduceLeDiff, Nat.reduceEqDiff, Nat.reduceAdd, Nat.reduceSub, Nat.reduceMul, Int.reduceEq, Int.reduceLT, Int.reduceLE, Int.reduceNeg, Int.reduceAdd, Int.reduceSub, Int.reduceMul, Int.reduceToNat, reduceIte, reduceCtorEq, List.map_cons, List.map_nil]
    refine loop_step (X := Nat × List Bool × List Nat) (fun y => ⟨95, [(2, vB bk), (7, vO 21), (8, vO 23), (9, vO 28), (10, vN k), (11, vN y.1)], ⟨[], [(28, ⟨3, 1, y.2.2.map nV, false, true⟩), (23, ⟨42, 3, (linesOf b).map lineV, false, true⟩), (21, ⟨4, 1, y.2.1.map Value.bool, false, true⟩)]⟩⟩)
      (fun y => y.1 ≤ (linesOf b).length ∧ Spr b bk p.toNat y.2.1 y.2.2 k ∧ y.2.2[k]? = some td[k] ∧ ∀ j (hj : j < (linesOf b).length), j < y.1 → able bk td[k] (linesOf b)[j] = true → y.2.1[td[k] ^^^ bitsL (linesOf b)[j]]? = some true)
      (fun y => (linesOf b).length - y.1) (0, S, td) ⟨by simp, hx, by simp [hklt], by simp⟩ (weak_of (fun i => i) (fun i => i) rfl ⟨by simp [boxesR, listsR, csR, renC, keyC, optK, fnd, envR, St.get, keyPV, keyV1, renPV, renV1, hasKey, made_zero] <;> omega, by simp [boxesR, listsR, csR, renC, keyC, optK, fnd, envR, St.get, keyPV, keyV1, renPV, renV1, hasKey, made_zero] <;> omega, by simp [boxesR, listsR, csR, renC, keyC, optK, fnd, envR, St.get, keyPV, keyV1, renPV, renV1, hasKey, made_zero] <;> omega, by simp [boxesR, listsR, csR, renC, keyC, optK, fnd, envR, St.get, keyPV, keyV1, renPV, renV1, hasKey, made_zero] <;> omega, by simp [boxesR, listsR, csR, renC, keyC, optK, fnd, envR, St.get, keyPV, keyV1, renPV, renV1, hasKey, made_zero] <;> omega⟩ (by simp [boxesR, listsR, csR, renC, keyC, optK, fnd, envR, St.get, keyPV, keyV1, renPV, renV1, hasKey, made_zero] <;> omega)) (fun y hy => ?_)
    obtain ⟨j, S', td'⟩ := y
    obtain ⟨hj, hsp, htk, hdn⟩ := hy
    simp only at hj hsp htk hdn
    have hd1 := spr_len hsp
    have hkl' : k < td'.length := (List.getElem?_eq_some_iff.1 htk).1
    have hgk' : (td'.map nV)[k]? = some (nV td[k]) := by rw [List.getElem?_map, htk]; rfl
    have hmem : td[k] ∈ td' := List.mem_of_getElem? htk
    have hq := (hsp.mem _ hmem).1
    simp -implicitDefEqProofs only [go_sem, Nat.reduceLT, Nat.reduceLeDiff, Nat.reduceEqDiff, Nat.reduceAdd, Nat.reduceSub, Nat.reduceMul, Int.reduceEq, Int.reduceLT, Int.reduceLE, Int.reduceNeg, Int.reduceAdd, Int.reduceSub, Int.reduceMul, Int.reduceToNat, reduceIte, reduceCtorEq, List.map_cons, List.map_nil]
    refine if_splitP (fun h => ?_) (fun h => ?_)
    · have hlt : j < (linesOf b).length := by omega
      have hg := map_get (f := lineV) hlt
      have hm := List.getElem_mem hlt
      have hln := lnIn hm
      obtain ⟨hne0, hne1, hne2⟩ := line_ne hm
      have hbl := bitsL_le hln
      obtain ⟨f0, f1, o0, o1, t0, t1⟩ := hln
      have q1 := pow48 f0 f1
      have q2 := pow48 o0 o1
      have q3 := pow48 t0 t1
      have q4 := or63 (a := 2 ^ (linesOf b)[j].f.toNat) (c := 2 ^ (linesOf b)[j].o.toNat) (by omega) (by omega)
      have q5 := xor63 (a := td[k]) (c := bitsL (linesOf b)[j]) (by omega) (by omega)
      have hcan := can_and (p := (td[k] : Int)) (l := (linesOf b)[j]) (by omega) (lnIn hm) hne1 hne2
      have hcanU := canU_and (p := (td[k] : Int)) (l := (linesOf b)[j]) (by omega) (lnIn hm) hne1 hne2
      rw [Int.toNat_natCast] at hcan hcanU
      (repeat' (first | simp -implicitDefEqProofs only [hg, hlt, lineV, go_sem, Nat.reduceLT, Nat.reduceLeDiff, Nat.reduceEqDiff, Nat.reduceAdd, Nat.reduceSub, Nat.reduceMul, Int.reduceEq, Int.reduceLT, Int.reduceLE, Int.reduceNeg, Int.reduceAdd, Int.reduceSub, Int.reduceMul, Int.reduceToNat, reduceIte, reduceCtorEq, List.map_cons, List.map_nil] | (refine And.intro ?_ ?_; omega) | (refine And.intro (shr_bd ?_ ?_) ?_; omega; omega) | refine sl_list rfl ?_ | refine sd_list rfl ?_ | refine sl_str ?_ | refine sd_str ?_))
      refine callS (l05Bits_c _ (lnIn hm)) rfl rfl rfl ?_
      simp -implicitDefEqProofs only [go_sem, Nat.reduceLT, Nat.reduceLeDiff, Nat.reduceEqDiff, Nat.reduceAdd, Nat.reduceSub, Nat.reduceMul, Int.reduceEq, Int.reduceLT, Int.reduceLE, Int.reduceNeg, Int.reduceAdd, Int.reduceSub, Int.reduceMul, Int.reduceToNat, reduceIte, reduceCtorEq, List.map_cons, List.map_nil]
      refine draw_step Try.pl_follows (by kernel_rfl) ?_
      (repeat' (first | simp -implicitDefEqProofs only [hg, hlt, lineV, go_sem, Nat.reduceLT, Nat.reduceLeDiff, Nat.reduceEqDiff, Nat.reduceAdd, Nat.reduceSub, Nat.reduceMul, Int.reduceEq, Int.reduceLT, Int.reduceLE, Int.reduceNeg, Int.reduceAdd, Int.reduceSub, Int.reduceMul, Int.reduceToNat, reduceIte, reduceCtorEq, List.map_cons, List.map_nil] | (refine And.intro ?_ ?_; omega) | (refine And.intro (shr_bd ?_ ?_) ?_; omega; omega) | refine sl_list rfl ?_ | refine sd_list rfl ?_ | refine sl_str ?_ | refine sd_str ?_))
      have step : ∀ (S2 : List Bool) (td2 : List Nat), Spr b bk p.toNat S2 td2 k → td2[k]? = some td[k] → (∀ q : Nat, S'[q]? = some true → S2[q]? = some true) → (able bk td[k] (linesOf b)[j] = true → S2[td[k] ^^^ bitsL (linesOf b)[j]]? = some true) →
          j + 1 ≤ (linesOf b).length ∧ Spr b bk p.toNat S2 td2 k ∧ td2[k]? = some td[k] ∧ ∀ j' (hj' : j' < (linesOf b).length), j' < j + 1 → able bk td[k] (linesOf b)[j'] = true → S2[td[k] ^^^ bitsL (linesOf b)[j']]? = some true := by
        intro S2 td2 a1 a2 a3 a4
        refine ⟨by omega, a1, a2, fun j' hj' hjj ha => ?_⟩
        by_cases e : j' = j
        · subst e; exact a4 ha
        · exact a3 _ (hdn j' hj' (by omega) ha)
      have fin : ∀ (c : Bool), able bk td[k] (linesOf b)[j] = c → (c = false ∨ (c = true ∧ ∃ x, S'[td[k] ^^^ bitsL (linesOf b)[j]]? = some x)) := by
        intro c hc
        cases c with
        | false => exact .inl rfl
        | true => exact .inr ⟨rfl, (spr_bd hb hsub hsp hmem hm hc).2⟩
      cases hbk : bk with
      | false =>
        subst hbk
        by_cases ha : canJ (td[k] : Int) (linesOf b)[j] = true
        · have hx := spr_bd hb hsub hsp hmem hm (bk := false) ha
          obtain ⟨hxl, x, hgx⟩ := hx
          have hgx' := bool_get hgx
          have hxl' : td[k] ^^^ bitsL (linesOf b)[j] < S'.length := by rw [hsp.len]; exact hxl
          have e1 : ((((td[k] &&& bitsL (linesOf b)[j] : Nat) : Int) = ((2 ^ (linesOf b)[j].f.toNat ||| 2 ^ (linesOf b)[j].o.toNat : Nat) : Int))) = True := eq_true (by rw [hcan.2 ha])
          cases x with
          | true =>
            (repeat' (first | simp -implicitDefEqProofs only [hgk', hkl', e1, hgx', hxl', go_sem, Nat.reduceLT, Nat.reduceLeDiff, Nat.reduceEqDiff, Nat.reduceAdd, Nat.reduceSub, Nat.reduceMul, Int.reduceEq, Int.reduceLT, Int.reduceLE, Int.reduceNeg, Int.reduceAdd, Int.reduceSub, Int.reduceMul, Int.reduceToNat, reduceIte, reduceCtorEq, List.map_cons, List.map_nil] | (refine And.intro ?_ ?_; omega) | (refine And.intro (shr_bd ?_ ?_) ?_; omega; omega) | refine sl_list rfl ?_ | refine sd_list rfl ?_ | refine sl_str ?_ | refine sd_str ?_))
            exact ⟨(j + 1, S', td'), step S' td' hsp htk (fun _ h => h) (fun _ => hgx), by simp only; omega, weak_of (fun i => i) (fun i => i) rfl ⟨by simp [boxesR, listsR, csR, renC, keyC, optK, fnd, envR, St.get, keyPV, keyV1, renPV, renV1, hasKey, made_zero] <;> omega, by simp [boxesR, listsR, csR, renC, keyC, optK, fnd, envR, St.get, keyPV, keyV1, renPV, renV1, hasKey, made_zero] <;> omega, by simp [boxesR, listsR, csR, renC, keyC, optK, fnd, envR, St.get, keyPV, keyV1, renPV, renV1, hasKey, made_zero] <;> omega, by simp [boxesR, listsR, csR, renC, keyC, optK, fnd, envR, St.get, keyPV, keyV1, renPV, renV1, hasKey, made_zero] <;> omega, by simp [boxesR, listsR, csR, renC, keyC, optK, fnd, envR, St.get, keyPV, keyV1, renPV, renV1, hasKey, made_zero] <;> omega⟩ (by simp [boxesR, listsR, csR, renC, keyC, optK, fnd, envR, St.get, keyPV, keyV1, renPV, renV1, hasKey, made_zero] <;> omega)⟩
          | false =>
            (repeat' (first | simp -implicitDefEqProofs only [hgk', hkl', e1, hgx', hxl', map_set', go_sem, Nat.reduceLT, Nat.reduceLeDiff, Nat.reduceEqDiff, Nat.reduceAdd, Nat.reduceSub, Nat.reduceMul, Int.reduceEq, Int.reduceLT, Int.reduceLE, Int.reduceNeg, Int.reduceAdd, Int.reduceSub, Int.reduceMul, Int.reduceToNat, reduceIte, reduceCtorEq, List.map_cons, List.map_nil] | (refine And.intro ?_ ?_; omega) | (refine And.intro (shr_bd ?_ ?_) ?_; omega; omega) | refine sl_list rfl ?_ | refine sd_list rfl ?_ | refine sl_str ?_ | refine sd_str ?_))
            exact ⟨(j + 1, _, _), step _ _ (spr_add hb hsub hsp hmem hm (bk := false) ha hgx) (by rw [List.getElem?_append_left hkl', htk]) (fun q h => (set_true hxl').2 (.inr h)) (fun _ => (set_true hxl').2 (.inl rfl)), by simp only; omega, weak_of (fun i => i) (fun i => if i = 28 then 93 else i) rfl ⟨by simp [boxesR, listsR, csR, renC, keyC, optK, fnd, envR, St.get, keyPV, keyV1, renPV, renV1, hasKey, made_zero] <;> omega, by simp [boxesR, listsR, csR, renC, keyC, optK, fnd, envR, St.get, keyPV, keyV1, renPV, renV1, hasKey, made_zero] <;> omega, by simp [boxesR, listsR, csR, renC, keyC, optK, fnd, envR, St.get, keyPV, keyV1, renPV, renV1, hasKey, made_zero] <;> omega, by simp [boxesR, listsR, csR, renC, keyC, optK, fnd, envR, St.get, keyPV, keyV1, renPV, renV1, hasKey, made_zero] <;> omega, by simp [boxesR, listsR, csR, renC, keyC, optK, fnd, envR, St.get, keyPV, keyV1, renPV, renV1, hasKey, made_zero] <;> omega⟩ (by simp [boxesR, listsR, csR, renC, keyC, optK, fnd, envR, St.get, keyPV, keyV1, renPV, renV1, hasKey, made_zero] <;> omega)⟩
        · have e1 : ((((td[k] &&& bitsL (linesOf b)[j] : Nat) : Int) = ((2 ^ (linesOf b)[j].f.toNat ||| 2 ^ (linesOf b)[j].o.toNat : Nat) : Int))) = False := eq_false (fun h => ha (hcan.1 (by omega)))
          (repeat' (first | simp -implicitDefEqProofs only [hgk', hkl', e1, go_sem, Nat.reduceLT, Nat.reduceLeDiff, Nat.reduceEqDiff, Nat.reduceAdd, Nat.reduceSub, Nat.reduceMul, Int.reduceEq, Int.reduceLT, Int.reduceLE, Int.reduceNeg, Int.reduceAdd, Int.reduceSub, Int.reduceMul, Int.reduceToNat, reduceIte, reduceCtorEq, List.map_cons, List.map_nil] | (refine And.intro ?_ ?_; omega) | (refine And.intro (shr_bd ?_ ?_) ?_; omega; omega) | refine sl_list rfl ?_ | refine sd_list rfl ?_ | refine sl_str ?_ | refine sd_str ?_))
          exact ⟨(j + 1, S', td'), step S' td' hsp htk (fun _ h => h) (fun h => absurd h ha), by simp only; omega, weak_of (fun i => i) (fun i => i) rfl ⟨by simp [boxesR, listsR, csR, renC, keyC, optK, fnd, envR, St.get, keyPV, keyV1, renPV, renV1, hasKey, made_zero] <;> omega, by simp [boxesR, listsR, csR, renC, keyC, optK, fnd, envR, St.get, keyPV, keyV1, renPV, renV1, hasKey, made_zero] <;> omega, by simp [boxesR, listsR, csR, renC, keyC, optK, fnd, envR, St.get, keyPV, keyV1, renPV, renV1, hasKey, made_zero] <;> omega, by simp [boxesR, listsR, csR, renC, keyC, optK, fnd, envR, St.get, keyPV, keyV1, renPV, renV1, hasKey, made_zero] <;> omega, by simp [boxesR, listsR, csR, renC, keyC, optK, fnd, envR, St.get, keyPV, keyV1, renPV, renV1, hasKey, made_zero] <;> omega⟩ (by simp [boxesR, listsR, csR, renC, keyC, optK, fnd, envR, St.get, keyPV, keyV1, renPV, renV1, hasKey, made_zero] <;> omega)⟩
      | true =>
        subst hbk
        by_cases ha : canU (td[k] : Int) (linesOf b)[j] = true
        · have hx := spr_bd hb hsub hsp hmem hm (bk := true) ha
          obtain ⟨hxl, x, hgx⟩ := hx
          have hgx' := bool_get hgx
          have hxl' : td[k] ^^^ bitsL (linesOf b)[j] < S'.length := by rw [hsp.len]; exact hxl
          have e1 : ((((td[k] &&& bitsL (linesOf b)[j] : Nat) : Int) = ((2 ^ (linesOf b)[j].t.toNat : Nat) : Int))) = True := eq_true (by rw [hcanU.2 ha])
          cases x with
          | true =>
            (repeat' (first | simp -implicitDefEqProofs only [hg, hlt, lineV, hgk', hkl', e1, hgx', hxl', go_sem, Nat.reduceLT, Nat.reduceLeDiff, Nat.reduceEqDiff, Nat.reduceAdd, Nat.reduceSub, Nat.reduceMul, Int.reduceEq, Int.reduceLT, Int.reduceLE, Int.reduceNeg, Int.reduceAdd, Int.reduceSub, Int.reduceMul, Int.reduceToNat, reduceIte, reduceCtorEq, List.map_cons, List.map_nil] | (refine And.intro ?_ ?_; omega) | (refine And.intro (shr_bd ?_ ?_) ?_; omega; omega) | refine sl_list rfl ?_ | refine sd_list rfl ?_ | refine sl_str ?_ | refine sd_str ?_))
            exact ⟨(j + 1, S', td'), step S' td' hsp htk (fun _ h => h) (fun _ => hgx), by simp only; omega, weak_of (fun i => i) (fun i => i) rfl ⟨by simp [boxesR, listsR, csR, renC, keyC, optK, fnd, envR, St.get, keyPV, keyV1, renPV, renV1, hasKey, made_zero] <;> omega, by simp [boxesR, listsR, csR, renC, keyC, optK, fnd, envR, St.get, keyPV, keyV1, renPV, renV1, hasKey, made_zero] <;> omega, by simp [boxesR, listsR, csR, renC, keyC, optK, fnd, envR, St.get, keyPV, keyV1, renPV, renV1, hasKey, made_zero] <;> omega, by simp [boxesR, listsR, csR, renC, keyC, optK, fnd, envR, St.get, keyPV, keyV1, renPV, renV1, hasKey, made_zero] <;> omega, by simp [boxesR, listsR, csR, renC, keyC, optK, fnd, envR, St.get, keyPV, keyV1, renPV, renV1, hasKey, made_zero] <;> omega⟩ (by simp [boxesR, listsR, csR, renC, keyC, optK, fnd, envR, St.get, keyPV, keyV1, renPV, renV1, hasKey, made_zero] <;> omega)⟩
          | false =>
            (repeat' (first | simp -implicitDefEqProofs only [hg, hlt, lineV, hgk', hkl', e1, hgx', hxl', map_set', go_sem, Nat.reduceLT, Nat.reduceLeDiff, Nat.reduceEqDiff, Nat.reduceAdd, Nat.reduceSub, Nat.reduceMul, Int.reduceEq, Int.reduceLT, Int.reduceLE, Int.reduceNeg, Int.reduceAdd, Int.reduceSub, Int.reduceMul, Int.reduceToNat, reduceIte, reduceCtorEq, List.map_cons, List.map_nil] | (refine And.intro ?_ ?_; omega) | (refine And.intro (shr_bd ?_ ?_) ?_; omega; omega) | refine sl_list rfl ?_ | refine sd_list rfl ?_ | refine sl_str ?_ | refine sd_str ?_))
            exact ⟨(j + 1, _, _), step _ _ (spr_add hb hsub hsp hmem hm (bk := true) ha hgx) (by rw [List.getElem?_append_left hkl', htk]) (fun q h => (set_true hxl').2 (.inr h)) (fun _ => (set_true hxl').2 (.inl rfl)), by simp only; omega, weak_of (fun i => i) (fun i => if i = 28 then 93 else i) rfl ⟨by simp [boxesR, listsR, csR, renC, keyC, optK, fnd, envR, St.get, keyPV, keyV1, renPV, renV1, hasKey, made_zero] <;> omega, by simp [boxesR, listsR, csR, renC, keyC, optK, fnd, envR, St.get, keyPV, keyV1, renPV, renV1, hasKey, made_zero] <;> omega, by simp [boxesR, listsR, csR, renC, keyC, optK, fnd, envR, St.get, keyPV, keyV1, renPV, renV1, hasKey, made_zero] <;> omega, by simp [boxesR, listsR, csR, renC, keyC, optK, fnd, envR, St.get, keyPV, keyV1, renPV, renV1, hasKey, made_zero] <;> omega, by simp [boxesR, listsR, csR, renC, keyC, optK, fnd, envR, St.get, keyPV, keyV1, renPV, renV1, hasKey, made_zero] <;> omega⟩ (by simp [boxesR, listsR, csR, renC, keyC, optK, fnd, envR, St.get, keyPV, keyV1, renPV, renV1, hasKey, made_zero] <;> omega)⟩
        · have e1 : ((((td[k] &&& bitsL (linesOf b)[j] : Nat) : Int) = ((2 ^ (linesOf b)[j].t.toNat : Nat) : Int))) = False := eq_false (fun h => ha (hcanU.1 (by omega)))
          (repeat' (first | simp -implicitDefEqProofs only [hg, hlt, lineV, hgk', hkl', e1, go_sem, Nat.reduceLT, Nat.reduceLeDiff, Nat.reduceEqDiff, Nat.reduceAdd, Nat.reduceSub, Nat.reduceMul, Int.reduceEq, Int.reduceLT, Int.reduceLE, Int.reduceNeg, Int.reduceAdd, Int.reduceSub, Int.reduceMul, Int.reduceToNat, reduceIte, reduceCtorEq, List.map_cons, List.map_nil] | (refine And.intro ?_ ?_; omega) | (refine And.intro (shr_bd ?_ ?_) ?_; omega; omega) | refine sl_list rfl ?_ | refine sd_list rfl ?_ | refine sl_str ?_ | refine sd_str ?_))
          exact ⟨(j + 1, S', td'), step S' td' hsp htk (fun _ h => h) (fun h => absurd h ha), by simp only; omega, weak_of (fun i => i) (fun i => i) rfl ⟨by simp [boxesR, listsR, csR, renC, keyC, optK, fnd, envR, St.get, keyPV, keyV1, renPV, renV1, hasKey, made_zero] <;> omega, by simp [boxesR, listsR, csR, renC, keyC, optK, fnd, envR, St.get, keyPV, keyV1, renPV, renV1, hasKey, made_zero] <;> omega, by simp [boxesR, listsR, csR, renC, keyC, optK, fnd, envR, St.get, keyPV, keyV1, renPV, renV1, hasKey, made_zero] <;> omega, by simp [boxesR, listsR, csR, renC, keyC, optK, fnd, envR, St.get, keyPV, keyV1, renPV, renV1, hasKey, made_zero] <;> omega, by simp [boxesR, listsR, csR, renC, keyC, optK, fnd, envR, St.get, keyPV, keyV1, renPV, renV1, hasKey, made_zero] <;> omega⟩ (by simp [boxesR, listsR, csR, renC, keyC, optK, fnd, envR, St.get, keyPV, keyV1, renPV, renV1, hasKey, made_zero] <;> omega)⟩
    · have e : j = (linesOf b).length := by omega
      subst e
      simp -implicitDefEqProofs only [go_sem, Nat.reduceLT, Nat.reduceLeDiff, Nat.reduceEqDiff, Nat.reduceAdd, Nat.reduceSub, Nat.reduceMul, Int.reduceEq, Int.reduceLT, Int.reduceLE, Int.reduceNeg, Int.reduceAdd, Int.reduceSub, Int.reduceMul, Int.reduceToNat, reduceIte, reduceCtorEq, List.map_cons, List.map_nil]
      have hlie : td'[k] = td[k] := by
        rw [List.getElem?_eq_getElem hkl'] at htk
        exact Option.some.inj htk
      refine ⟨by omega, (k + 1, S', td'), spr_next hsp hkl' (fun l hl ha => ?_), by simp only; omega, weak_of (fun i => i) (fun i => i) rfl ⟨by simp [boxesR, listsR, csR, renC, keyC, optK, fnd, envR, St.get, keyPV, keyV1, renPV, renV1, hasKey, made_zero] <;> omega, by simp [boxesR, listsR, csR, renC, keyC, optK, fnd, envR, St.get, keyPV, keyV1, renPV, renV1, hasKey, made_zero] <;> omega, by simp [boxesR, listsR, csR, renC, keyC, optK, fnd, envR, St.get, keyPV, keyV1, renPV, renV1, hasKey, made_zero] <;> omega, by simp [boxesR, listsR, csR, renC, keyC, optK, fnd, envR, St.get, keyPV, keyV1, renPV, renV1, hasKey, made_zero] <;> omega, by simp [boxesR, listsR, csR, renC, keyC, optK, fnd, envR, St.get, keyPV, keyV1, renPV, renV1, hasKey, made_zero] <;> omega⟩ (by simp [boxesR, listsR, csR, renC, keyC, optK, fnd, envR, St.get, keyPV, keyV1, renPV, renV1, hasKey, made_zero] <;> omega)⟩
      obtain ⟨j, hj, rfl⟩ := List.mem_iff_getElem.1 hl
      rw [hlie] at ha ⊢
      exact hdn j hj hj ha
  · have e : k = td.length := by omega
    subst e
    have he := spr_end hx
    simp -implicitDefEqProofs only [go_sem, Nat.reduceLT, Nat.reduceLeDiff, Nat.reduceEqDiff, Nat.reduceAdd, Nat.reduceSub, Nat.reduceMul, Int.reduceEq, Int.reduceLT, Int.reduceLE, Int.reduceNeg, Int.reduceAdd, Int.reduceSub, Int.reduceMul, Int.reduceToNat, reduceIte, reduceCtorEq, List.map_cons, List.map_nil]
    exact fin_of (fun i => i) (fun i => 21) ⟨by simp [boxesR, listsR, csR, renC, keyC, optK, fnd, envR, St.get, keyPV, keyV1, renPV, renV1, hasKey, made_zero, he] <;> omega, by simp [boxesR, listsR, csR, renC, keyC, optK, fnd, envR, St.get, keyPV, keyV1, renPV, renV1, hasKey, made_zero, he] <;> omega, by simp [boxesR, listsR, csR, renC, keyC, optK, fnd, envR, St.get, keyPV, keyV1, renPV, renV1, hasKey, made_zero, he] <;> omega, by simp [boxesR, listsR, csR, renC, keyC, optK, fnd, envR, St.get, keyPV, keyV1, renPV, renV1, hasKey, made_zero, he] <;> omega, by simp [boxesR, listsR, csR, renC, keyC, optK, fnd, envR, St.get, keyPV, keyV1, renPV, renV1, hasKey, made_zero, he] <;> omega⟩ (by simp [boxesR, listsR, csR, renC, keyC, optK, fnd, envR, St.get, keyPV, keyV1, renPV, renV1, hasKey, made_zero, he] <;> omega) (by first | rfl | (simp [renPV, renV1, renC, he]))
end Go.Proofs.Ytmckpdackhlgbaa
