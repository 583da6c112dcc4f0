/-
  What the functions compute that search the positions that jumps lead to.
  What the program's own search computes, and the functions on its result.
  Searches there and back; pegs that can be spared.
-/
import Derived.Test.YtggejdgohkfmmaaGreatP2
namespace Go.Proofs.YtggejdgohkfmmaaGreat
open Go.PL
set_option linter.unusedSimpArgs false
abbrev nV (q : Nat) : Value := .int .i64 (q : Int)
theorem map_set' {S : List Bool} {i : Nat} {x : Bool} : (S.map Value.bool).set i (.bool x) = (S.set i x).map Value.bool := by simp [List.map_set]
theorem map_repl {n : Nat} : List.replicate n (Value.bool false) = (List.replicate n false).map Value.bool := by simp
theorem bool_get {S : List Bool} {i : Nat} {x : Bool} (h : S[i]? = some x) : (S.map Value.bool)[i]? = some (.bool x) := by simp [h]
theorem map_getN {l : List Nat} {i : Nat} (h : i < l.length) : (l.map nV)[i]? = some (nV l[i]) := by simp [h]
@[go_sem] theorem n_toNat {n : Nat} : ((n : Int)).toNat = n := Int.toNat_natCast n
theorem able_t {q : Nat} {l : Ln} : able true q l = canU (q : Int) l := rfl
theorem able_f {q : Nat} {l : Ln} : able false q l = canJ (q : Int) l := rfl
set_option maxHeartbeats 8000000 in
theorem l14Seen_c (d : Nat) (b : Brd) (p : Int) (bk : Bool) (hs : isSmall b = true) (hp : positionOk b p = true) : PC Tryz.prog 50 [] [.a (brdC b), .c (.v (.int .i64 p)), .c (.v (.bool bk))] (.s (.c (.o d))) ⟨[], [(d, ⟨4, 1, (seenL b bk p.toNat).map Value.bool, false, true⟩)]⟩ := by
  refine pc_of Tryz.func50 rfl (by kernel_rfl) _ Tryz.ntmps50 (by simp) ?_
  obtain ⟨hb, p0, hsub⟩ := pos_sub hp
  have hbN := board_le hs
  have hplt := sub_lt hb hsub
  obtain ⟨w1, w2, h1, h2, m1, m2, n1, n2, n3⟩ := bok hb
  have hpw := pow_bd (by omega) m2
  have hbe : (2 : Int) ^ (b.w * b.h).toNat = (boardN b : Int) := by simp [boardN]
  have hll := linesOf_len (b := b)
  have ep : (p.toNat : Int) = p := Int.toNat_of_nonneg p0
  (repeat' (first | simp -implicitDefEqProofs only [Int.one_mul, hbe, go_sem] | (refine And.intro ?_ ?_; omega) | (refine And.intro (shr_bd ?_ ?_) ?_; omega; omega) | refine sl_list rfl ?_ | refine sd_list rfl ?_ | refine sl_str ?_ | refine sd_str ?_))
  refine callL (LinesOf_c 23 b) rfl rfl rfl ?_
  (repeat' (first | simp -implicitDefEqProofs only [map_repl, map_set', go_sem] | (refine And.intro ?_ ?_; omega) | (refine And.intro (shr_bd ?_ ?_) ?_; omega; omega) | refine sl_list rfl ?_ | refine sd_list rfl ?_ | refine sl_str ?_ | refine sd_str ?_))
  refine loop_step (X := Nat × List Bool × List Nat) (fun x => ⟨95, [(2, vB bk), (7, vO 21), (8, vO 23), (9, vO 28), (10, vN x.1)], ⟨[], [(28, ⟨3, 1, x.2.2.map nV, false, true⟩), (23, ⟨58, 3, (linesOf b).map lineV, false, true⟩), (21, ⟨4, 1, x.2.1.map Value.bool, false, true⟩)]⟩⟩)
    (fun x => Spr b bk p.toNat x.2.1 x.2.2 x.1) (fun x => boardN b - x.1) (0, (List.replicate (boardN b) false).set p.toNat true, [p.toNat]) (spr_start hb hsub) (weak_of (fun i => i) (fun i => i) rfl ⟨by simp [boxesR, listsR, csR, renC, keyC, optK, fnd, envR, St.get, keyPV, keyV1, renPV, renV1, hasKey, made_zero, ep] <;> omega, by simp [boxesR, listsR, csR, renC, keyC, optK, fnd, envR, St.get, keyPV, keyV1, renPV, renV1, hasKey, made_zero, ep] <;> omega, by simp [boxesR, listsR, csR, renC, keyC, optK, fnd, envR, St.get, keyPV, keyV1, renPV, renV1, hasKey, made_zero, ep] <;> omega, by simp [boxesR, listsR, csR, renC, keyC, optK, fnd, envR, St.get, keyPV, keyV1, renPV, renV1, hasKey, made_zero, ep] <;> omega, by simp [boxesR, listsR, csR, renC, keyC, optK, fnd, envR, St.get, keyPV, keyV1, renPV, renV1, hasKey, made_zero, ep] <;> omega⟩ (by simp [boxesR, listsR, csR, renC, keyC, optK, fnd, envR, St.get, keyPV, keyV1, renPV, renV1, hasKey, made_zero, ep] <;> omega)) (fun x hx => ?_)
  obtain ⟨k, S, td⟩ := x
  simp only at hx
  have hk1 := hx.le
  have hk2 := spr_len hx
  simp -implicitDefEqProofs only [go_sem]
  refine if_splitP (fun h => ?_) (fun h => ?_)
  · have hklt : k < td.length := by omega
    have hgk := map_getN hklt
    simp -implicitDefEqProofs only [go_sem]
    refine loop_step (X := Nat × List Bool × List Nat) (fun y => ⟨95, [(2, vB bk), (7, vO 21), (8, vO 23), (9, vO 28), (10, vN k), (11, vN y.1)], ⟨[], [(28, ⟨3, 1, y.2.2.map nV, false, true⟩), (23, ⟨58, 3, (linesOf b).map lineV, false, true⟩), (21, ⟨4, 1, y.2.1.map Value.bool, false, true⟩)]⟩⟩)
      (fun y => y.1 ≤ (linesOf b).length ∧ Spr b bk p.toNat y.2.1 y.2.2 k ∧ y.2.2[k]? = some td[k] ∧ ∀ j (hj : j < (linesOf b).length), j < y.1 → able bk td[k] (linesOf b)[j] = true → y.2.1[td[k] ^^^ bitsL (linesOf b)[j]]? = some true)
      (fun y => (linesOf b).length - y.1) (0, S, td) ⟨by simp, hx, by simp [hklt], by simp⟩ (weak_of (fun i => i) (fun i => i) rfl ⟨by simp [boxesR, listsR, csR, renC, keyC, optK, fnd, envR, St.get, keyPV, keyV1, renPV, renV1, hasKey, made_zero] <;> omega, by simp [boxesR, listsR, csR, renC, keyC, optK, fnd, envR, St.get, keyPV, keyV1, renPV, renV1, hasKey, made_zero] <;> omega, by simp [boxesR, listsR, csR, renC, keyC, optK, fnd, envR, St.get, keyPV, keyV1, renPV, renV1, hasKey, made_zero] <;> omega, by simp [boxesR, listsR, csR, renC, keyC, optK, fnd, envR, St.get, keyPV, keyV1, renPV, renV1, hasKey, made_zero] <;> omega, by simp [boxesR, listsR, csR, renC, keyC, optK, fnd, envR, St.get, keyPV, keyV1, renPV, renV1, hasKey, made_zero] <;> omega⟩ (by simp [boxesR, listsR, csR, renC, keyC, optK, fnd, envR, St.get, keyPV, keyV1, renPV, renV1, hasKey, made_zero] <;> omega)) (fun y hy => ?_)
    obtain ⟨j, S', td'⟩ := y
    obtain ⟨hj, hsp, htk, hdn⟩ := hy
    simp only at hj hsp htk hdn
    have hd1 := spr_len hsp
    have hkl' : k < td'.length := (List.getElem?_eq_some_iff.1 htk).1
    have hgk' : (td'.map nV)[k]? = some (nV td[k]) := by rw [List.getElem?_map, htk]; rfl
    have hmem : td[k] ∈ td' := List.mem_of_getElem? htk
    have hq := (hsp.mem _ hmem).1
    simp -implicitDefEqProofs only [go_sem]
    refine if_splitP (fun h => ?_) (fun h => ?_)
    · have hlt : j < (linesOf b).length := by omega
      have hg := map_get (f := lineV) hlt
      have hm := List.getElem_mem hlt
      have hln := lnIn hm
      obtain ⟨hne0, hne1, hne2⟩ := line_ne hm
      have hbl := bitsL_le hln
      obtain ⟨f0, f1, o0, o1, t0, t1⟩ := hln
      have q1 := pow48 f0 f1
      have q2 := pow48 o0 o1
      have q3 := pow48 t0 t1
      have q4 := or63 (a := 2 ^ (linesOf b)[j].f.toNat) (c := 2 ^ (linesOf b)[j].o.toNat) (by omega) (by omega)
      have q5 := xor63 (a := td[k]) (c := bitsL (linesOf b)[j]) (by omega) (by omega)
      have hcan := can_and (p := (td[k] : Int)) (l := (linesOf b)[j]) (by omega) (lnIn hm) hne1 hne2
      have hcanU := canU_and (p := (td[k] : Int)) (l := (linesOf b)[j]) (by omega) (lnIn hm) hne1 hne2
      rw [Int.toNat_natCast] at hcan hcanU
      (repeat' (first | simp -implicitDefEqProofs only [hg, hlt, lineV, go_sem] | (refine And.intro ?_ ?_; omega) | (refine And.intro (shr_bd ?_ ?_) ?_; omega; omega) | refine sl_list rfl ?_ | refine sd_list rfl ?_ | refine sl_str ?_ | refine sd_str ?_))
      refine callS (l05Bits_c _ (lnIn hm)) rfl rfl rfl ?_
      simp -implicitDefEqProofs only [go_sem]
      refine draw_step Tryz.pl_follows (by kernel_rfl) ?_
      (repeat' (first | simp -implicitDefEqProofs only [hg, hlt, lineV, go_sem] | (refine And.intro ?_ ?_; omega) | (refine And.intro (shr_bd ?_ ?_) ?_; omega; omega) | refine sl_list rfl ?_ | refine sd_list rfl ?_ | refine sl_str ?_ | refine sd_str ?_))
      have step : ∀ (S2 : List Bool) (td2 : List Nat), Spr b bk p.toNat S2 td2 k → td2[k]? = some td[k] → (∀ q : Nat, S'[q]? = some true → S2[q]? = some true) → (able bk td[k] (linesOf b)[j] = true → S2[td[k] ^^^ bitsL (linesOf b)[j]]? = some true) →
          j + 1 ≤ (linesOf b).length ∧ Spr b bk p.toNat S2 td2 k ∧ td2[k]? = some td[k] ∧ ∀ j' (hj' : j' < (linesOf b).length), j' < j + 1 → able bk td[k] (linesOf b)[j'] = true → S2[td[k] ^^^ bitsL (linesOf b)[j']]? = some true := by
        intro S2 td2 a1 a2 a3 a4
        refine ⟨by omega, a1, a2, fun j' hj' hjj ha => ?_⟩
        by_cases e : j' = j
        · subst e; exact a4 ha
        · exact a3 _ (hdn j' hj' (by omega) ha)
      have fin : ∀ (c : Bool), able bk td[k] (linesOf b)[j] = c → (c = false ∨ (c = true ∧ ∃ x, S'[td[k] ^^^ bitsL (linesOf b)[j]]? = some x)) := by
        intro c hc
        cases c with
        | false => exact .inl rfl
        | true => exact .inr ⟨rfl, (spr_bd hb hsub hsp hmem hm hc).2⟩
      cases hbk : bk with
      | false =>
        subst hbk
        by_cases ha : canJ (td[k] : Int) (linesOf b)[j] = true
        · have hx := spr_bd hb hsub hsp hmem hm (bk := false) ha
          obtain ⟨hxl, x, hgx⟩ := hx
          have hgx' := bool_get hgx
          have hxl' : td[k] ^^^ bitsL (linesOf b)[j] < S'.length := by rw [hsp.len]; exact hxl
          have e1 : ((((td[k] &&& bitsL (linesOf b)[j] : Nat) : Int) = ((2 ^ (linesOf b)[j].f.toNat ||| 2 ^ (linesOf b)[j].o.toNat : Nat) : Int))) = True := eq_true (by rw [hcan.2 ha])
          cases x with
          | true =>
            (repeat' (first | simp -implicitDefEqProofs only [hgk', hkl', e1, hgx', hxl', go_sem] | (refine And.intro ?_ ?_; omega) | (refine And.intro (shr_bd ?_ ?_) ?_; omega; omega) | refine sl_list rfl ?_ | refine sd_list rfl ?_ | refine sl_str ?_ | refine sd_str ?_))
            exact ⟨(j + 1, S', td'), step S' td' hsp htk (fun _ h => h) (fun _ => hgx), by simp only; omega, weak_of (fun i => i) (fun i => i) rfl ⟨by simp [boxesR, listsR, csR, renC, keyC, optK, fnd, envR, St.get, keyPV, keyV1, renPV, renV1, hasKey, made_zero] <;> omega, by simp [boxesR, listsR, csR, renC, keyC, optK, fnd, envR, St.get, keyPV, keyV1, renPV, renV1, hasKey, made_zero] <;> omega, by simp [boxesR, listsR, csR, renC, keyC, optK, fnd, envR, St.get, keyPV, keyV1, renPV, renV1, hasKey, made_zero] <;> omega, by simp [boxesR, listsR, csR, renC, keyC, optK, fnd, envR, St.get, keyPV, keyV1, renPV, renV1, hasKey, made_zero] <;> omega, by simp [boxesR, listsR, csR, renC, keyC, optK, fnd, envR, St.get, keyPV, keyV1, renPV, renV1, hasKey, made_zero] <;> omega⟩ (by simp [boxesR, listsR, csR, renC, keyC, optK, fnd, envR, St.get, keyPV, keyV1, renPV, renV1, hasKey, made_zero] <;> omega)⟩
          | false =>
            (repeat' (first | simp -implicitDefEqProofs only [hgk', hkl', e1, hgx', hxl', map_set', go_sem] | (refine And.intro ?_ ?_; omega) | (refine And.intro (shr_bd ?_ ?_) ?_; omega; omega) | refine sl_list rfl ?_ | refine sd_list rfl ?_ | refine sl_str ?_ | refine sd_str ?_))
            exact ⟨(j + 1, _, _), step _ _ (spr_add hb hsub hsp hmem hm (bk := false) ha hgx) (by rw [List.getElem?_append_left hkl', htk]) (fun q h => (set_true hxl').2 (.inr h)) (fun _ => (set_true hxl').2 (.inl rfl)), by simp only; omega, weak_of (fun i => i) (fun i => if i = 28 then 93 else i) rfl ⟨by simp [boxesR, listsR, csR, renC, keyC, optK, fnd, envR, St.get, keyPV, keyV1, renPV, renV1, hasKey, made_zero] <;> omega, by simp [boxesR, listsR, csR, renC, keyC, optK, fnd, envR, St.get, keyPV, keyV1, renPV, renV1, hasKey, made_zero] <;> omega, by simp [boxesR, listsR, csR, renC, keyC, optK, fnd, envR, St.get, keyPV, keyV1, renPV, renV1, hasKey, made_zero] <;> omega, by simp [boxesR, listsR, csR, renC, keyC, optK, fnd, envR, St.get, keyPV, keyV1, renPV, renV1, hasKey, made_zero] <;> omega, by simp [boxesR, listsR, csR, renC, keyC, optK, fnd, envR, St.get, keyPV, keyV1, renPV, renV1, hasKey, made_zero] <;> omega⟩ (by simp [boxesR, listsR, csR, renC, keyC, optK, fnd, envR, St.get, keyPV, keyV1, renPV, renV1, hasKey, made_zero] <;> omega)⟩
        · have e1 : ((((td[k] &&& bitsL (linesOf b)[j] : Nat) : Int) = ((2 ^ (linesOf b)[j].f.toNat ||| 2 ^ (linesOf b)[j].o.toNat : Nat) : Int))) = False := eq_false (fun h => ha (hcan.1 (by omega)))
          (repeat' (first | simp -implicitDefEqProofs only [hgk', hkl', e1, go_sem] | (refine And.intro ?_ ?_; omega) | (refine And.intro (shr_bd ?_ ?_) ?_; omega; omega) | refine sl_list rfl ?_ | refine sd_list rfl ?_ | refine sl_str ?_ | refine sd_str ?_))
          exact ⟨(j + 1, S', td'), step S' td' hsp htk (fun _ h => h) (fun h => absurd h ha), by simp only; omega, weak_of (fun i => i) (fun i => i) rfl ⟨by simp [boxesR, listsR, csR, renC, keyC, optK, fnd, envR, St.get, keyPV, keyV1, renPV, renV1, hasKey, made_zero] <;> omega, by simp [boxesR, listsR, csR, renC, keyC, optK, fnd, envR, St.get, keyPV, keyV1, renPV, renV1, hasKey, made_zero] <;> omega, by simp [boxesR, listsR, csR, renC, keyC, optK, fnd, envR, St.get, keyPV, keyV1, renPV, renV1, hasKey, made_zero] <;> omega, by simp [boxesR, listsR, csR, renC, keyC, optK, fnd, envR, St.get, keyPV, keyV1, renPV, renV1, hasKey, made_zero] <;> omega, by simp [boxesR, listsR, csR, renC, keyC, optK, fnd, envR, St.get, keyPV, keyV1, renPV, renV1, hasKey, made_zero] <;> omega⟩ (by simp [boxesR, listsR, csR, renC, keyC, optK, fnd, envR, St.get, keyPV, keyV1, renPV, renV1, hasKey, made_zero] <;> omega)⟩
      | true =>
        subst hbk
        by_cases ha : canU (td[k] : Int) (linesOf b)[j] = true
        · have hx := spr_bd hb hsub hsp hmem hm (bk := true) ha
          obtain ⟨hxl, x, hgx⟩ := hx
          have hgx' := bool_get hgx
          have hxl' : td[k] ^^^ bitsL (linesOf b)[j] < S'.length := by rw [hsp.len]; exact hxl
          have e1 : ((((td[k] &&& bitsL (linesOf b)[j] : Nat) : Int) = ((2 ^ (linesOf b)[j].t.toNat : Nat) : Int))) = True := eq_true (by rw [hcanU.2 ha])
          cases x with
          | true =>
            (repeat' (first | simp -implicitDefEqProofs only [hg, hlt, lineV, hgk', hkl', e1, hgx', hxl', go_sem] | (refine And.intro ?_ ?_; omega) | (refine And.intro (shr_bd ?_ ?_) ?_; omega; omega) | refine sl_list rfl ?_ | refine sd_list rfl ?_ | refine sl_str ?_ | refine sd_str ?_))
            exact ⟨(j + 1, S', td'), step S' td' hsp htk (fun _ h => h) (fun _ => hgx), by simp only; omega, weak_of (fun i => i) (fun i => i) rfl ⟨by simp [boxesR, listsR, csR, renC, keyC, optK, fnd, envR, St.get, keyPV, keyV1, renPV, renV1, hasKey, made_zero] <;> omega, by simp [boxesR, listsR, csR, renC, keyC, optK, fnd, envR, St.get, keyPV, keyV1, renPV, renV1, hasKey, made_zero] <;> omega, by simp [boxesR, listsR, csR, renC, keyC, optK, fnd, envR, St.get, keyPV, keyV1, renPV, renV1, hasKey, made_zero] <;> omega, by simp [boxesR, listsR, csR, renC, keyC, optK, fnd, envR, St.get, keyPV, keyV1, renPV, renV1, hasKey, made_zero] <;> omega, by simp [boxesR, listsR, csR, renC, keyC, optK, fnd, envR, St.get, keyPV, keyV1, renPV, renV1, hasKey, made_zero] <;> omega⟩ (by simp [boxesR, listsR, csR, renC, keyC, optK, fnd, envR, St.get, keyPV, keyV1, renPV, renV1, hasKey, made_zero] <;> omega)⟩
          | false =>
            (repeat' (first | simp -implicitDefEqProofs only [hg, hlt, lineV, hgk', hkl', e1, hgx', hxl', map_set', go_sem] | (refine And.intro ?_ ?_; omega) | (refine And.intro (shr_bd ?_ ?_) ?_; omega; omega) | refine sl_list rfl ?_ | refine sd_list rfl ?_ | refine sl_str ?_ | refine sd_str ?_))
            exact ⟨(j + 1, _, _), step _ _ (spr_add hb hsub hsp hmem hm (bk := true) ha hgx) (by rw [List.getElem?_append_left hkl', htk]) (fun q h => (set_true hxl').2 (.inr h)) (fun _ => (set_true hxl').2 (.inl rfl)), by simp only; omega, weak_of (fun i => i) (fun i => if i = 28 then 93 else i) rfl ⟨by simp [boxesR, listsR, csR, renC, keyC, optK, fnd, envR, St.get, keyPV, keyV1, renPV, renV1, hasKey, made_zero] <;> omega, by simp [boxesR, listsR, csR, renC, keyC, optK, fnd, envR, St.get, keyPV, keyV1, renPV, renV1, hasKey, made_zero] <;> omega, by simp [boxesR, listsR, csR, renC, keyC, optK, fnd, envR, St.get, keyPV, keyV1, renPV, renV1, hasKey, made_zero] <;> omega, by simp [boxesR, listsR, csR, renC, keyC, optK, fnd, envR, St.get, keyPV, keyV1, renPV, renV1, hasKey, made_zero] <;> omega, by simp [boxesR, listsR, csR, renC, keyC, optK, fnd, envR, St.get, keyPV, keyV1, renPV, renV1, hasKey, made_zero] <;> omega⟩ (by simp [boxesR, listsR, csR, renC, keyC, optK, fnd, envR, St.get, keyPV, keyV1, renPV, renV1, hasKey, made_zero] <;> omega)⟩
        · have e1 : ((((td[k] &&& bitsL (linesOf b)[j] : Nat) : Int) = ((2 ^ (linesOf b)[j].t.toNat : Nat) : Int))) = False := eq_false (fun h => ha (hcanU.1 (by omega)))
          (repeat' (first | simp -implicitDefEqProofs only [hg, hlt, lineV, hgk', hkl', e1, go_sem] | (refine And.intro ?_ ?_; omega) | (refine And.intro (shr_bd ?_ ?_) ?_; omega; omega) | refine sl_list rfl ?_ | refine sd_list rfl ?_ | refine sl_str ?_ | refine sd_str ?_))
          exact ⟨(j + 1, S', td'), step S' td' hsp htk (fun _ h => h) (fun h => absurd h ha), by simp only; omega, weak_of (fun i => i) (fun i => i) rfl ⟨by simp [boxesR, listsR, csR, renC, keyC, optK, fnd, envR, St.get, keyPV, keyV1, renPV, renV1, hasKey, made_zero] <;> omega, by simp [boxesR, listsR, csR, renC, keyC, optK, fnd, envR, St.get, keyPV, keyV1, renPV, renV1, hasKey, made_zero] <;> omega, by simp [boxesR, listsR, csR, renC, keyC, optK, fnd, envR, St.get, keyPV, keyV1, renPV, renV1, hasKey, made_zero] <;> omega, by simp [boxesR, listsR, csR, renC, keyC, optK, fnd, envR, St.get, keyPV, keyV1, renPV, renV1, hasKey, made_zero] <;> omega, by simp [boxesR, listsR, csR, renC, keyC, optK, fnd, envR, St.get, keyPV, keyV1, renPV, renV1, hasKey, made_zero] <;> omega⟩ (by simp [boxesR, listsR, csR, renC, keyC, optK, fnd, envR, St.get, keyPV, keyV1, renPV, renV1, hasKey, made_zero] <;> omega)⟩
    · have e : j = (linesOf b).length := by omega
      subst e
      simp -implicitDefEqProofs only [go_sem]
      have hlie : td'[k] = td[k] := by
        rw [List.getElem?_eq_getElem hkl'] at htk
        exact Option.some.inj htk
      refine ⟨by omega, (k + 1, S', td'), spr_next hsp hkl' (fun l hl ha => ?_), by simp only; omega, weak_of (fun i => i) (fun i => i) rfl ⟨by simp [boxesR, listsR, csR, renC, keyC, optK, fnd, envR, St.get, keyPV, keyV1, renPV, renV1, hasKey, made_zero] <;> omega, by simp [boxesR, listsR, csR, renC, keyC, optK, fnd, envR, St.get, keyPV, keyV1, renPV, renV1, hasKey, made_zero] <;> omega, by simp [boxesR, listsR, csR, renC, keyC, optK, fnd, envR, St.get, keyPV, keyV1, renPV, renV1, hasKey, made_zero] <;> omega, by simp [boxesR, listsR, csR, renC, keyC, optK, fnd, envR, St.get, keyPV, keyV1, renPV, renV1, hasKey, made_zero] <;> omega, by simp [boxesR, listsR, csR, renC, keyC, optK, fnd, envR, St.get, keyPV, keyV1, renPV, renV1, hasKey, made_zero] <;> omega⟩ (by simp [boxesR, listsR, csR, renC, keyC, optK, fnd, envR, St.get, keyPV, keyV1, renPV, renV1, hasKey, made_zero] <;> omega)⟩
      obtain ⟨j, hj, rfl⟩ := List.mem_iff_getElem.1 hl
      rw [hlie] at ha ⊢
      exact hdn j hj hj ha
  · have e : k = td.length := by omega
    subst e
    have he := spr_end hx
    simp -implicitDefEqProofs only [go_sem]
    exact fin_of (fun i => i) (fun i => 21) ⟨by simp [boxesR, listsR, csR, renC, keyC, optK, fnd, envR, St.get, keyPV, keyV1, renPV, renV1, hasKey, made_zero, he] <;> omega, by simp [boxesR, listsR, csR, renC, keyC, optK, fnd, envR, St.get, keyPV, keyV1, renPV, renV1, hasKey, made_zero, he] <;> omega, by simp [boxesR, listsR, csR, renC, keyC, optK, fnd, envR, St.get, keyPV, keyV1, renPV, renV1, hasKey, made_zero, he] <;> omega, by simp [boxesR, listsR, csR, renC, keyC, optK, fnd, envR, St.get, keyPV, keyV1, renPV, renV1, hasKey, made_zero, he] <;> omega, by simp [boxesR, listsR, csR, renC, keyC, optK, fnd, envR, St.get, keyPV, keyV1, renPV, renV1, hasKey, made_zero, he] <;> omega⟩ (by simp [boxesR, listsR, csR, renC, keyC, optK, fnd, envR, St.get, keyPV, keyV1, renPV, renV1, hasKey, made_zero, he] <;> omega) (by first | rfl | (simp [renPV, renV1, renC, he]))
end Go.Proofs.YtggejdgohkfmmaaGreat
namespace Go.Proofs.YtggejdgohkfmmaaGreat
open Go.PL
set_option linter.unusedSimpArgs false
noncomputable def spreadL (b : Brd) (bk : Bool) (p : Int) : List Bool := if isSmall b = true ∧ positionOk b p = true then seenL b bk p.toNat else []
theorem spreadL_len {b : Brd} {bk : Bool} {p : Int} : (spreadL b bk p).length ≤ 65536 := by
  unfold spreadL
  split
  · rename_i h
    rw [seenL_len]
    exact (board_le h.1).1
  · simp
set_option maxHeartbeats 8000000 in
theorem spreadOf_c (d : Nat) (b : Brd) (p : Int) (bk : Bool) (hp2 : p ≤ 9223372036854775807) : PC Tryz.prog 121 [] [.a (brdC b), .c (.v (.int .i64 p)), .c (.v (.bool bk))] (.s (.c (.o d))) ⟨[], [(d, ⟨4, 1, (spreadL b bk p).map Value.bool, false, true⟩)]⟩ := by
  refine pc_of Tryz.func121 rfl (by kernel_rfl) _ Tryz.ntmps121 (by simp) ?_
  simp -implicitDefEqProofs only [go_sem]
  refine callS (iIsSmall_c b) rfl rfl rfl ?_
  by_cases hs : isSmall b = true
  rotate_left
  · have e : spreadL b bk p = [] := by simp [spreadL, hs]
    (repeat' (first | simp -implicitDefEqProofs only [hs, go_sem] | (refine And.intro ?_ ?_; omega) | (refine And.intro (shr_bd ?_ ?_) ?_; omega; omega) | refine sl_list rfl ?_ | refine sd_list rfl ?_ | refine sl_str ?_ | refine sd_str ?_))
    refine fin_adopt (pv' := .s (.c (.o 999))) 999 4 1 rfl (by omega) (by simp [adPV, adVs, adV1, adCs, adC]) ?_
    exact fin_of (fun i => i) (fun i => 999) ⟨by simp [boxesR, listsR, csR, renC, keyC, optK, fnd, envR, St.get, keyPV, keyV1, renPV, renV1, hasKey, made_zero, e] <;> omega, by simp [boxesR, listsR, csR, renC, keyC, optK, fnd, envR, St.get, keyPV, keyV1, renPV, renV1, hasKey, made_zero, e] <;> omega, by simp [boxesR, listsR, csR, renC, keyC, optK, fnd, envR, St.get, keyPV, keyV1, renPV, renV1, hasKey, made_zero, e] <;> omega, by simp [boxesR, listsR, csR, renC, keyC, optK, fnd, envR, St.get, keyPV, keyV1, renPV, renV1, hasKey, made_zero, e] <;> omega, by simp [boxesR, listsR, csR, renC, keyC, optK, fnd, envR, St.get, keyPV, keyV1, renPV, renV1, hasKey, made_zero, e] <;> omega⟩ (by simp [boxesR, listsR, csR, renC, keyC, optK, fnd, envR, St.get, keyPV, keyV1, renPV, renV1, hasKey, made_zero, e] <;> omega) (by first | rfl | (simp [renPV, renV1, renC, e]))
  simp -implicitDefEqProofs only [hs, go_sem]
  refine callS (iPositionOk_c b p hp2) rfl rfl rfl ?_
  by_cases hp : positionOk b p = true
  rotate_left
  · have e : spreadL b bk p = [] := by simp [spreadL, hp]
    (repeat' (first | simp -implicitDefEqProofs only [hs, hp, go_sem] | (refine And.intro ?_ ?_; omega) | (refine And.intro (shr_bd ?_ ?_) ?_; omega; omega) | refine sl_list rfl ?_ | refine sd_list rfl ?_ | refine sl_str ?_ | refine sd_str ?_))
    refine fin_adopt (pv' := .s (.c (.o 999))) 999 4 1 rfl (by omega) (by simp [adPV, adVs, adV1, adCs, adC]) ?_
    exact fin_of (fun i => i) (fun i => 999) ⟨by simp [boxesR, listsR, csR, renC, keyC, optK, fnd, envR, St.get, keyPV, keyV1, renPV, renV1, hasKey, made_zero, e] <;> omega, by simp [boxesR, listsR, csR, renC, keyC, optK, fnd, envR, St.get, keyPV, keyV1, renPV, renV1, hasKey, made_zero, e] <;> omega, by simp [boxesR, listsR, csR, renC, keyC, optK, fnd, envR, St.get, keyPV, keyV1, renPV, renV1, hasKey, made_zero, e] <;> omega, by simp [boxesR, listsR, csR, renC, keyC, optK, fnd, envR, St.get, keyPV, keyV1, renPV, renV1, hasKey, made_zero, e] <;> omega, by simp [boxesR, listsR, csR, renC, keyC, optK, fnd, envR, St.get, keyPV, keyV1, renPV, renV1, hasKey, made_zero, e] <;> omega⟩ (by simp [boxesR, listsR, csR, renC, keyC, optK, fnd, envR, St.get, keyPV, keyV1, renPV, renV1, hasKey, made_zero, e] <;> omega) (by first | rfl | (simp [renPV, renV1, renC, e]))
  have espr : spreadL b bk p = seenL b bk p.toNat := by simp [spreadL, hs, hp]
  obtain ⟨hb, p0, hsub⟩ := pos_sub hp
  have hbN := board_le hs
  have hplt := sub_lt hb hsub
  obtain ⟨w1, w2, h1, h2, m1, m2, n1, n2, n3⟩ := bok hb
  have hpw := pow_bd (by omega) m2
  have hbe : (2 : Int) ^ (b.w * b.h).toNat = (boardN b : Int) := by simp [boardN]
  have hll := linesOf_len (b := b)
  have ep : (p.toNat : Int) = p := Int.toNat_of_nonneg p0
  simp -implicitDefEqProofs only [hs, hp, go_sem]
  refine callL (iLinesOf_c 25 b) rfl rfl rfl ?_
  (repeat' (first | simp -implicitDefEqProofs only [Int.one_mul, hbe, map_repl, map_set', go_sem] | (refine And.intro ?_ ?_; omega) | (refine And.intro (shr_bd ?_ ?_) ?_; omega; omega) | refine sl_list rfl ?_ | refine sd_list rfl ?_ | refine sl_str ?_ | refine sd_str ?_))
  refine loop_step (X := Nat × List Bool × List Nat) (fun x => ⟨86, [(2, vB bk), (7, vO 25), (8, vO 32), (9, vO 37), (10, vN x.1)], ⟨[], [(37, ⟨3, 1, x.2.2.map nV, false, true⟩), (25, ⟨58, 3, (linesOf b).map lineV, false, true⟩), (32, ⟨4, 1, x.2.1.map Value.bool, false, true⟩)]⟩⟩)
    (fun x => Spr b bk p.toNat x.2.1 x.2.2 x.1) (fun x => boardN b - x.1) (0, (List.replicate (boardN b) false).set p.toNat true, [p.toNat]) (spr_start hb hsub) (weak_of (fun i => i) (fun i => i) rfl ⟨by simp [boxesR, listsR, csR, renC, keyC, optK, fnd, envR, St.get, keyPV, keyV1, renPV, renV1, hasKey, made_zero, ep] <;> omega, by simp [boxesR, listsR, csR, renC, keyC, optK, fnd, envR, St.get, keyPV, keyV1, renPV, renV1, hasKey, made_zero, ep] <;> omega, by simp [boxesR, listsR, csR, renC, keyC, optK, fnd, envR, St.get, keyPV, keyV1, renPV, renV1, hasKey, made_zero, ep] <;> omega, by simp [boxesR, listsR, csR, renC, keyC, optK, fnd, envR, St.get, keyPV, keyV1, renPV, renV1, hasKey, made_zero, ep] <;> omega, by simp [boxesR, listsR, csR, renC, keyC, optK, fnd, envR, St.get, keyPV, keyV1, renPV, renV1, hasKey, made_zero, ep] <;> omega⟩ (by simp [boxesR, listsR, csR, renC, keyC, optK, fnd, envR, St.get, keyPV, keyV1, renPV, renV1, hasKey, made_zero, ep] <;> omega)) (fun x hx => ?_)
  obtain ⟨k, S, td⟩ := x
  simp only at hx
  have hk1 := hx.le
  have hk2 := spr_len hx
  simp -implicitDefEqProofs only [go_sem]
  refine if_splitP (fun h => ?_) (fun h => ?_)
  · have hklt : k < td.length := by omega
    have hgk := map_getN hklt
    simp -implicitDefEqProofs only [go_sem]
    refine loop_step (X := Nat × List Bool × List Nat) (fun y => ⟨86, [(2, vB bk), (7, vO 25), (8, vO 32), (9, vO 37), (10, vN k), (44, vO 25), (45, vN (linesOf b).length), (46, vN y.1)], ⟨[], [(37, ⟨3, 1, y.2.2.map nV, false, true⟩), (25, ⟨58, 3, (linesOf b).map lineV, false, true⟩), (32, ⟨4, 1, y.2.1.map Value.bool, false, true⟩)]⟩⟩)
      (fun y => y.1 ≤ (linesOf b).length ∧ Spr b bk p.toNat y.2.1 y.2.2 k ∧ y.2.2[k]? = some td[k] ∧ ∀ j (hj : j < (linesOf b).length), j < y.1 → able bk td[k] (linesOf b)[j] = true → y.2.1[td[k] ^^^ bitsL (linesOf b)[j]]? = some true)
      (fun y => (linesOf b).length - y.1) (0, S, td) ⟨by simp, hx, by simp [hklt], by simp⟩ (weak_of (fun i => i) (fun i => i) rfl ⟨by simp [boxesR, listsR, csR, renC, keyC, optK, fnd, envR, St.get, keyPV, keyV1, renPV, renV1, hasKey, made_zero] <;> omega, by simp [boxesR, listsR, csR, renC, keyC, optK, fnd, envR, St.get, keyPV, keyV1, renPV, renV1, hasKey, made_zero] <;> omega, by simp [boxesR, listsR, csR, renC, keyC, optK, fnd, envR, St.get, keyPV, keyV1, renPV, renV1, hasKey, made_zero] <;> omega, by simp [boxesR, listsR, csR, renC, keyC, optK, fnd, envR, St.get, keyPV, keyV1, renPV, renV1, hasKey, made_zero] <;> omega, by simp [boxesR, listsR, csR, renC, keyC, optK, fnd, envR, St.get, keyPV, keyV1, renPV, renV1, hasKey, made_zero] <;> omega⟩ (by simp [boxesR, listsR, csR, renC, keyC, optK, fnd, envR, St.get, keyPV, keyV1, renPV, renV1, hasKey, made_zero] <;> omega)) (fun y hy => ?_)
    obtain ⟨j, S', td'⟩ := y
    obtain ⟨hj, hsp, htk, hdn⟩ := hy
    simp only at hj hsp htk hdn
    have hd1 := spr_len hsp
    have hkl' : k < td'.length := (List.getElem?_eq_some_iff.1 htk).1
    have hgk' : (td'.map nV)[k]? = some (nV td[k]) := by rw [List.getElem?_map, htk]; rfl
    have hmem : td[k] ∈ td' := List.mem_of_getElem? htk
    have hq := (hsp.mem _ hmem).1
    simp -implicitDefEqProofs only [go_sem]
    refine if_splitP (fun h => ?_) (fun h => ?_)
    · have hlt : j < (linesOf b).length := by omega
      have hg := map_get (f := lineV) hlt
      have hm := List.getElem_mem hlt
      have hln := lnIn hm
      obtain ⟨hne0, hne1, hne2⟩ := line_ne hm
      have step : ∀ (S2 : List Bool) (td2 : List Nat), Spr b bk p.toNat S2 td2 k → td2[k]? = some td[k] → (∀ q : Nat, S'[q]? = some true → S2[q]? = some true) → (able bk td[k] (linesOf b)[j] = true → S2[td[k] ^^^ bitsL (linesOf b)[j]]? = some true) →
          j + 1 ≤ (linesOf b).length ∧ Spr b bk p.toNat S2 td2 k ∧ td2[k]? = some td[k] ∧ ∀ j' (hj' : j' < (linesOf b).length), j' < j + 1 → able bk td[k] (linesOf b)[j'] = true → S2[td[k] ^^^ bitsL (linesOf b)[j']]? = some true := by
        intro S2 td2 a1 a2 a3 a4
        refine ⟨by omega, a1, a2, fun j' hj' hjj ha => ?_⟩
        by_cases e : j' = j
        · subst e; exact a4 ha
        · exact a3 _ (hdn j' hj' (by omega) ha)
      (repeat' (first | simp -implicitDefEqProofs only [hg, hlt, lineV, go_sem] | (refine And.intro ?_ ?_; omega) | (refine And.intro (shr_bd ?_ ?_) ?_; omega; omega) | refine sl_list rfl ?_ | refine sd_list rfl ?_ | refine sl_str ?_ | refine sd_str ?_))
      refine draw_step Tryz.pl_follows (by kernel_rfl) ?_
      (repeat' (first | simp -implicitDefEqProofs only [hgk', hkl', go_sem] | (refine And.intro ?_ ?_; omega) | (refine And.intro (shr_bd ?_ ?_) ?_; omega; omega) | refine sl_list rfl ?_ | refine sd_list rfl ?_ | refine sl_str ?_ | refine sd_str ?_))
      refine callD (jumpFrom_c (td[k] : Int) (linesOf b)[j] (by omega) (by omega) hln) rfl rfl rfl ?_
      cases hbk : bk with
      | false =>
        subst hbk
        by_cases ha : canJ (td[k] : Int) (linesOf b)[j] = true
        · have hx := spr_bd hb hsub hsp hmem hm (bk := false) ha
          obtain ⟨hxl, x, hgx⟩ := hx
          have hgx' := bool_get hgx
          have hxl' : td[k] ^^^ bitsL (linesOf b)[j] < S'.length := by rw [hsp.len]; exact hxl
          have ej : jumpI (td[k] : Int) (linesOf b)[j] = ((td[k] ^^^ bitsL (linesOf b)[j] : Nat) : Int) := by
            rw [jumpI, if_pos ha, jmp_flip (by omega) hln hne1 hne2 ha, Int.toNat_natCast]
          cases x with
          | true =>
            (repeat' (first | simp -implicitDefEqProofs only [ej, ha, hgx', hxl', go_sem] | (refine And.intro ?_ ?_; omega) | (refine And.intro (shr_bd ?_ ?_) ?_; omega; omega) | refine sl_list rfl ?_ | refine sd_list rfl ?_ | refine sl_str ?_ | refine sd_str ?_))
            exact ⟨(j + 1, S', td'), step S' td' hsp htk (fun _ h => h) (fun _ => hgx), by simp only; omega, weak_of (fun i => i) (fun i => i) rfl ⟨by simp [boxesR, listsR, csR, renC, keyC, optK, fnd, envR, St.get, keyPV, keyV1, renPV, renV1, hasKey, made_zero] <;> omega, by simp [boxesR, listsR, csR, renC, keyC, optK, fnd, envR, St.get, keyPV, keyV1, renPV, renV1, hasKey, made_zero] <;> omega, by simp [boxesR, listsR, csR, renC, keyC, optK, fnd, envR, St.get, keyPV, keyV1, renPV, renV1, hasKey, made_zero] <;> omega, by simp [boxesR, listsR, csR, renC, keyC, optK, fnd, envR, St.get, keyPV, keyV1, renPV, renV1, hasKey, made_zero] <;> omega, by simp [boxesR, listsR, csR, renC, keyC, optK, fnd, envR, St.get, keyPV, keyV1, renPV, renV1, hasKey, made_zero] <;> omega⟩ (by simp [boxesR, listsR, csR, renC, keyC, optK, fnd, envR, St.get, keyPV, keyV1, renPV, renV1, hasKey, made_zero] <;> omega)⟩
          | false =>
            (repeat' (first | simp -implicitDefEqProofs only [ej, ha, hgx', hxl', map_set', go_sem] | (refine And.intro ?_ ?_; omega) | (refine And.intro (shr_bd ?_ ?_) ?_; omega; omega) | refine sl_list rfl ?_ | refine sd_list rfl ?_ | refine sl_str ?_ | refine sd_str ?_))
            exact ⟨(j + 1, _, _), step _ _ (spr_add hb hsub hsp hmem hm (bk := false) ha hgx) (by rw [List.getElem?_append_left hkl', htk]) (fun q h => (set_true hxl').2 (.inr h)) (fun _ => (set_true hxl').2 (.inl rfl)), by simp only; omega, weak_of (fun i => i) (fun i => if i = 37 then 83 else i) rfl ⟨by simp [boxesR, listsR, csR, renC, keyC, optK, fnd, envR, St.get, keyPV, keyV1, renPV, renV1, hasKey, made_zero] <;> omega, by simp [boxesR, listsR, csR, renC, keyC, optK, fnd, envR, St.get, keyPV, keyV1, renPV, renV1, hasKey, made_zero] <;> omega, by simp [boxesR, listsR, csR, renC, keyC, optK, fnd, envR, St.get, keyPV, keyV1, renPV, renV1, hasKey, made_zero] <;> omega, by simp [boxesR, listsR, csR, renC, keyC, optK, fnd, envR, St.get, keyPV, keyV1, renPV, renV1, hasKey, made_zero] <;> omega, by simp [boxesR, listsR, csR, renC, keyC, optK, fnd, envR, St.get, keyPV, keyV1, renPV, renV1, hasKey, made_zero] <;> omega⟩ (by simp [boxesR, listsR, csR, renC, keyC, optK, fnd, envR, St.get, keyPV, keyV1, renPV, renV1, hasKey, made_zero] <;> omega)⟩
        · (repeat' (first | simp -implicitDefEqProofs only [ha, go_sem] | (refine And.intro ?_ ?_; omega) | (refine And.intro (shr_bd ?_ ?_) ?_; omega; omega) | refine sl_list rfl ?_ | refine sd_list rfl ?_ | refine sl_str ?_ | refine sd_str ?_))
          exact ⟨(j + 1, S', td'), step S' td' hsp htk (fun _ h => h) (fun h => absurd h ha), by simp only; omega, weak_of (fun i => i) (fun i => i) rfl ⟨by simp [boxesR, listsR, csR, renC, keyC, optK, fnd, envR, St.get, keyPV, keyV1, renPV, renV1, hasKey, made_zero] <;> omega, by simp [boxesR, listsR, csR, renC, keyC, optK, fnd, envR, St.get, keyPV, keyV1, renPV, renV1, hasKey, made_zero] <;> omega, by simp [boxesR, listsR, csR, renC, keyC, optK, fnd, envR, St.get, keyPV, keyV1, renPV, renV1, hasKey, made_zero] <;> omega, by simp [boxesR, listsR, csR, renC, keyC, optK, fnd, envR, St.get, keyPV, keyV1, renPV, renV1, hasKey, made_zero] <;> omega, by simp [boxesR, listsR, csR, renC, keyC, optK, fnd, envR, St.get, keyPV, keyV1, renPV, renV1, hasKey, made_zero] <;> omega⟩ (by simp [boxesR, listsR, csR, renC, keyC, optK, fnd, envR, St.get, keyPV, keyV1, renPV, renV1, hasKey, made_zero] <;> omega)⟩
      | true =>
        subst hbk
        (repeat' (first | simp -implicitDefEqProofs only [go_sem] | (refine And.intro ?_ ?_; omega) | (refine And.intro (shr_bd ?_ ?_) ?_; omega; omega) | refine sl_list rfl ?_ | refine sd_list rfl ?_ | refine sl_str ?_ | refine sd_str ?_))
        refine draw_step Tryz.pl_follows (by kernel_rfl) ?_
        (repeat' (first | simp -implicitDefEqProofs only [hgk', hkl', go_sem] | (refine And.intro ?_ ?_; omega) | (refine And.intro (shr_bd ?_ ?_) ?_; omega; omega) | refine sl_list rfl ?_ | refine sd_list rfl ?_ | refine sl_str ?_ | refine sd_str ?_))
        refine callD (undoFrom_c (td[k] : Int) (linesOf b)[j] (by omega) (by omega) hln) rfl rfl rfl ?_
        by_cases ha : canU (td[k] : Int) (linesOf b)[j] = true
        · have hx := spr_bd hb hsub hsp hmem hm (bk := true) ha
          obtain ⟨hxl, x, hgx⟩ := hx
          have hgx' := bool_get hgx
          have hxl' : td[k] ^^^ bitsL (linesOf b)[j] < S'.length := by rw [hsp.len]; exact hxl
          have ej : undoI (td[k] : Int) (linesOf b)[j] = ((td[k] ^^^ bitsL (linesOf b)[j] : Nat) : Int) := by
            rw [undoI, if_pos ha, und_flip (by omega) hln hne1 hne2 ha, Int.toNat_natCast]
          cases x with
          | true =>
            (repeat' (first | simp -implicitDefEqProofs only [ej, ha, hgx', hxl', go_sem] | (refine And.intro ?_ ?_; omega) | (refine And.intro (shr_bd ?_ ?_) ?_; omega; omega) | refine sl_list rfl ?_ | refine sd_list rfl ?_ | refine sl_str ?_ | refine sd_str ?_))
            exact ⟨(j + 1, S', td'), step S' td' hsp htk (fun _ h => h) (fun _ => hgx), by simp only; omega, weak_of (fun i => i) (fun i => i) rfl ⟨by simp [boxesR, listsR, csR, renC, keyC, optK, fnd, envR, St.get, keyPV, keyV1, renPV, renV1, hasKey, made_zero] <;> omega, by simp [boxesR, listsR, csR, renC, keyC, optK, fnd, envR, St.get, keyPV, keyV1, renPV, renV1, hasKey, made_zero] <;> omega, by simp [boxesR, listsR, csR, renC, keyC, optK, fnd, envR, St.get, keyPV, keyV1, renPV, renV1, hasKey, made_zero] <;> omega, by simp [boxesR, listsR, csR, renC, keyC, optK, fnd, envR, St.get, keyPV, keyV1, renPV, renV1, hasKey, made_zero] <;> omega, by simp [boxesR, listsR, csR, renC, keyC, optK, fnd, envR, St.get, keyPV, keyV1, renPV, renV1, hasKey, made_zero] <;> omega⟩ (by simp [boxesR, listsR, csR, renC, keyC, optK, fnd, envR, St.get, keyPV, keyV1, renPV, renV1, hasKey, made_zero] <;> omega)⟩
          | false =>
            (repeat' (first | simp -implicitDefEqProofs only [ej, ha, hgx', hxl', map_set', go_sem] | (refine And.intro ?_ ?_; omega) | (refine And.intro (shr_bd ?_ ?_) ?_; omega; omega) | refine sl_list rfl ?_ | refine sd_list rfl ?_ | refine sl_str ?_ | refine sd_str ?_))
            exact ⟨(j + 1, _, _), step _ _ (spr_add hb hsub hsp hmem hm (bk := true) ha hgx) (by rw [List.getElem?_append_left hkl', htk]) (fun q h => (set_true hxl').2 (.inr h)) (fun _ => (set_true hxl').2 (.inl rfl)), by simp only; omega, weak_of (fun i => i) (fun i => if i = 37 then 83 else i) rfl ⟨by simp [boxesR, listsR, csR, renC, keyC, optK, fnd, envR, St.get, keyPV, keyV1, renPV, renV1, hasKey, made_zero] <;> omega, by simp [boxesR, listsR, csR, renC, keyC, optK, fnd, envR, St.get, keyPV, keyV1, renPV, renV1, hasKey, made_zero] <;> omega, by simp [boxesR, listsR, csR, renC, keyC, optK, fnd, envR, St.get, keyPV, keyV1, renPV, renV1, hasKey, made_zero] <;> omega, by simp [boxesR, listsR, csR, renC, keyC, optK, fnd, envR, St.get, keyPV, keyV1, renPV, renV1, hasKey, made_zero] <;> omega, by simp [boxesR, listsR, csR, renC, keyC, optK, fnd, envR, St.get, keyPV, keyV1, renPV, renV1, hasKey, made_zero] <;> omega⟩ (by simp [boxesR, listsR, csR, renC, keyC, optK, fnd, envR, St.get, keyPV, keyV1, renPV, renV1, hasKey, made_zero] <;> omega)⟩
        · (repeat' (first | simp -implicitDefEqProofs only [ha, go_sem] | (refine And.intro ?_ ?_; omega) | (refine And.intro (shr_bd ?_ ?_) ?_; omega; omega) | refine sl_list rfl ?_ | refine sd_list rfl ?_ | refine sl_str ?_ | refine sd_str ?_))
          exact ⟨(j + 1, S', td'), step S' td' hsp htk (fun _ h => h) (fun h => absurd h ha), by simp only; omega, weak_of (fun i => i) (fun i => i) rfl ⟨by simp [boxesR, listsR, csR, renC, keyC, optK, fnd, envR, St.get, keyPV, keyV1, renPV, renV1, hasKey, made_zero] <;> omega, by simp [boxesR, listsR, csR, renC, keyC, optK, fnd, envR, St.get, keyPV, keyV1, renPV, renV1, hasKey, made_zero] <;> omega, by simp [boxesR, listsR, csR, renC, keyC, optK, fnd, envR, St.get, keyPV, keyV1, renPV, renV1, hasKey, made_zero] <;> omega, by simp [boxesR, listsR, csR, renC, keyC, optK, fnd, envR, St.get, keyPV, keyV1, renPV, renV1, hasKey, made_zero] <;> omega, by simp [boxesR, listsR, csR, renC, keyC, optK, fnd, envR, St.get, keyPV, keyV1, renPV, renV1, hasKey, made_zero] <;> omega⟩ (by simp [boxesR, listsR, csR, renC, keyC, optK, fnd, envR, St.get, keyPV, keyV1, renPV, renV1, hasKey, made_zero] <;> omega)⟩
    · have e : j = (linesOf b).length := by omega
      subst e
      simp -implicitDefEqProofs only [go_sem]
      have hlie : td'[k] = td[k] := by
        rw [List.getElem?_eq_getElem hkl'] at htk
        exact Option.some.inj htk
      refine ⟨by omega, (k + 1, S', td'), spr_next hsp hkl' (fun l hl ha => ?_), by simp only; omega, weak_of (fun i => i) (fun i => i) rfl ⟨by simp [boxesR, listsR, csR, renC, keyC, optK, fnd, envR, St.get, keyPV, keyV1, renPV, renV1, hasKey, made_zero] <;> omega, by simp [boxesR, listsR, csR, renC, keyC, optK, fnd, envR, St.get, keyPV, keyV1, renPV, renV1, hasKey, made_zero] <;> omega, by simp [boxesR, listsR, csR, renC, keyC, optK, fnd, envR, St.get, keyPV, keyV1, renPV, renV1, hasKey, made_zero] <;> omega, by simp [boxesR, listsR, csR, renC, keyC, optK, fnd, envR, St.get, keyPV, keyV1, renPV, renV1, hasKey, made_zero] <;> omega, by simp [boxesR, listsR, csR, renC, keyC, optK, fnd, envR, St.get, keyPV, keyV1, renPV, renV1, hasKey, made_zero] <;> omega⟩ (by simp [boxesR, listsR, csR, renC, keyC, optK, fnd, envR, St.get, keyPV, keyV1, renPV, renV1, hasKey, made_zero] <;> omega)⟩
      obtain ⟨j, hj, rfl⟩ := List.mem_iff_getElem.1 hl
      rw [hlie] at ha ⊢
      exact hdn j hj hj ha
  · have e : k = td.length := by omega
    subst e
    have he := spr_end hx
    simp -implicitDefEqProofs only [go_sem]
    exact fin_of (fun i => i) (fun i => 32) ⟨by simp [boxesR, listsR, csR, renC, keyC, optK, fnd, envR, St.get, keyPV, keyV1, renPV, renV1, hasKey, made_zero, he, espr] <;> omega, by simp [boxesR, listsR, csR, renC, keyC, optK, fnd, envR, St.get, keyPV, keyV1, renPV, renV1, hasKey, made_zero, he, espr] <;> omega, by simp [boxesR, listsR, csR, renC, keyC, optK, fnd, envR, St.get, keyPV, keyV1, renPV, renV1, hasKey, made_zero, he, espr] <;> omega, by simp [boxesR, listsR, csR, renC, keyC, optK, fnd, envR, St.get, keyPV, keyV1, renPV, renV1, hasKey, made_zero, he, espr] <;> omega, by simp [boxesR, listsR, csR, renC, keyC, optK, fnd, envR, St.get, keyPV, keyV1, renPV, renV1, hasKey, made_zero, he, espr] <;> omega⟩ (by simp [boxesR, listsR, csR, renC, keyC, optK, fnd, envR, St.get, keyPV, keyV1, renPV, renV1, hasKey, made_zero, he, espr] <;> omega) (by first | rfl | (simp [renPV, renV1, renC, he, espr]))
/-- is the position marked -/
def hasS (S : List Bool) (p : Int) : Bool := decide (0 ≤ p) && ((S[p.toNat]?).getD false)
theorem has_c (S : List Bool) (p : Int) : PC Tryz.prog 123 [] [.c (.l 1 (S.map Value.bool)), .c (.v (.int .i64 p))] (vB (hasS S p)) ⟨[], []⟩ := by
  refine pc_of Tryz.func123 rfl (by kernel_rfl) _ Tryz.ntmps123 (by simp) ?_
  simp -implicitDefEqProofs only [go_sem]
  refine grd_splitP (fun h0 => ?_) (fun h0 => ?_)
  · by_cases hl : p < S.length
    · have hlt : p.toNat < S.length := by omega
      have hg : (S.map Value.bool)[p.toNat]? = some (.bool S[p.toNat]) := by simp [hlt]
      have e : hasS S p = S[p.toNat] := by simp [hasS, h0, hlt]
      (repeat' (first | simp -implicitDefEqProofs only [h0, hl, hg, go_sem] | (refine And.intro ?_ ?_; omega) | (refine And.intro (shr_bd ?_ ?_) ?_; omega; omega) | refine sl_list rfl ?_ | refine sd_list rfl ?_ | refine sl_str ?_ | refine sd_str ?_))
      exact fin_scal rfl (by rw [e])
    · have e : hasS S p = false := by
        have : S[p.toNat]? = none := List.getElem?_eq_none (by omega)
        simp [hasS, this]
      (repeat' (first | simp -implicitDefEqProofs only [h0, hl, go_sem] | (refine And.intro ?_ ?_; omega) | (refine And.intro (shr_bd ?_ ?_) ?_; omega; omega) | refine sl_list rfl ?_ | refine sd_list rfl ?_ | refine sl_str ?_ | refine sd_str ?_))
      exact fin_scal rfl (by rw [e])
  · have e : hasS S p = false := by simp [hasS, h0]
    (repeat' (first | simp -implicitDefEqProofs only [h0, go_sem] | (refine And.intro ?_ ?_; omega) | (refine And.intro (shr_bd ?_ ?_) ?_; omega; omega) | refine sl_list rfl ?_ | refine sd_list rfl ?_ | refine sl_str ?_ | refine sd_str ?_))
    exact fin_scal rfl (by rw [e])
def markedS (S : List Bool) (q : Nat) : Bool := (S[q]?).getD false
/-- the marked positions -/
def listN (S : List Bool) (i : Nat) : List Nat := (List.range i).filter (markedS S)
def listS (S : List Bool) : List Nat := listN S S.length
theorem listN_zero {S : List Bool} : listN S 0 = [] := rfl
theorem listN_hit {S : List Bool} {i : Nat} (h : markedS S i = true) : listN S (i + 1) = listN S i ++ [i] := by simp [listN, List.range_succ, List.filter_append, h]
theorem listN_miss {S : List Bool} {i : Nat} (h : markedS S i = false) : listN S (i + 1) = listN S i := by simp [listN, List.range_succ, List.filter_append, h]
theorem listN_len {S : List Bool} {i : Nat} : (listN S i).length ≤ i := by
  have := List.length_filter_le (markedS S) (List.range i)
  unfold listN; simpa using this
end Go.Proofs.YtggejdgohkfmmaaGreat
namespace Go.Proofs.YtggejdgohkfmmaaGreat
open Go.PL
set_option linter.unusedSimpArgs false
theorem xor_xor (a c : Nat) : (a ^^^ c) ^^^ c = a := by rw [Nat.xor_assoc, Nat.xor_self, Nat.xor_zero]
theorem able_turn {b : Brd} {q : Nat} {l : Ln} (hl : l ∈ linesOf b) (bk : Bool) (h : able bk q l = true) : able (!bk) (q ^^^ bitsL l) l = true := by
  obtain ⟨f0, f1, o0, o1, t0, t1⟩ := lnIn hl
  cases bk with
  | false =>
    simp only [able_f, canJ, bitAt_int f0, bitAt_int o0, bitAt_int t0, Bool.and_eq_true, Bool.not_eq_true'] at h
    simp only [Bool.not_false, able_t, canU, bitAt_int f0, bitAt_int o0, bitAt_int t0, Nat.testBit_xor, bitsL, Nat.testBit_or, Nat.testBit_two_pow]
    simp [h.1, h.2.1, h.2.2]
  | true =>
    simp only [able_t, canU, bitAt_int f0, bitAt_int o0, bitAt_int t0, Bool.and_eq_true, Bool.not_eq_true'] at h
    simp only [Bool.not_true, able_f, canJ, bitAt_int f0, bitAt_int o0, bitAt_int t0, Nat.testBit_xor, bitsL, Nat.testBit_or, Nat.testBit_two_pow]
    simp [h.1, h.2.1, h.2.2]
theorem rch_front {b : Brd} {bk : Bool} {a x : Nat} {l : Ln} (hl : l ∈ linesOf b) (ha : able bk a l = true) (h : Rch b bk (a ^^^ bitsL l) x) : Rch b bk a x := by
  induction h with
  | refl => exact .step a l .refl hl ha
  | step q l' _ hl' ha' ih => exact .step q l' ih hl' ha'
theorem rch_turn {b : Brd} {bk : Bool} {a x : Nat} (h : Rch b bk a x) : Rch b (!bk) x a := by
  induction h with
  | refl => exact .refl
  | step q l _ hl ha ih =>
    have h1 := able_turn hl bk ha
    refine rch_front hl h1 ?_
    rw [xor_xor]
    exact ih
theorem rch_both {b : Brd} {a x : Nat} : Rch b false a x ↔ Rch b true x a := ⟨rch_turn (bk := false), rch_turn (bk := true)⟩
theorem has_spread {b : Brd} {bk : Bool} {g p : Int} : hasS (spreadL b bk g) p = true ↔ isSmall b = true ∧ positionOk b g = true ∧ positionOk b p = true ∧ Rch b bk g.toNat p.toNat := by
  unfold hasS spreadL
  constructor
  · intro h
    simp only [Bool.and_eq_true, decide_eq_true_eq] at h
    obtain ⟨p0, h⟩ := h
    split at h
    · rename_i hh
      have hg : (seenL b bk g.toNat)[p.toNat]? = some true := by
        cases hx : (seenL b bk g.toNat)[p.toNat]? with
        | none => rw [hx] at h; cases h
        | some x => rw [hx] at h; simp at h; rw [h]
      obtain ⟨h1, h2⟩ := seenL_get.1 hg
      obtain ⟨hb, g0, hsub⟩ := pos_sub hh.2
      have := sub_pos hb (rch_sub hsub h2)
      rw [Int.toNat_of_nonneg p0] at this
      exact ⟨hh.1, hh.2, this, h2⟩
    · simp at h
  · rintro ⟨hs, hg, hp, hr⟩
    obtain ⟨hb, p0, hsub⟩ := pos_sub hp
    rw [if_pos ⟨hs, hg⟩, (seenL_get (b := b) (bk := bk) (p := g.toNat) (q := p.toNat)).2 ⟨sub_lt hb hsub, hr⟩]
    simp [p0]
noncomputable def canReach (b : Brd) (p g : Int) : Bool := hasS (spreadL b false p) g
theorem canReach_back {b : Brd} {p g : Int} : canReach b p g = hasS (spreadL b true g) p := by
  rw [Bool.eq_iff_iff]
  unfold canReach
  rw [has_spread, has_spread, rch_both]
  constructor
  · rintro ⟨a, c, d, e⟩; exact ⟨a, d, c, e⟩
  · rintro ⟨a, c, d, e⟩; exact ⟨a, d, c, e⟩
theorem CanReach_c (b : Brd) (p g : Int) (hp2 : p ≤ 9223372036854775807) (hg2 : g ≤ 9223372036854775807) : PC Tryz.prog 15 [] [.a (brdC b), .c (.v (.int .i64 p)), .c (.v (.int .i64 g))] (vB (canReach b p g)) ⟨[], []⟩ := by
  refine pc_of Tryz.func15 rfl (by kernel_rfl) _ Tryz.ntmps15 (by simp) ?_
  simp -implicitDefEqProofs only [go_sem]
  refine callS (IsSmall_c b) rfl rfl rfl ?_
  have no : (isSmall b = true → positionOk b p = true → positionOk b g = true → False) → canReach b p g = false := fun h => by
    cases hc : canReach b p g with
    | false => rfl
    | true => have := has_spread.1 (show hasS _ _ = true from hc); exact (h this.1 this.2.1 this.2.2.1).elim
  by_cases hs : isSmall b = true
  · simp -implicitDefEqProofs only [hs, go_sem]
    refine callS (PositionOk_c b p hp2) rfl rfl rfl ?_
    by_cases hp : positionOk b p = true
    · simp -implicitDefEqProofs only [hs, hp, go_sem]
      refine callS (PositionOk_c b g hg2) rfl rfl rfl ?_
      by_cases hg : positionOk b g = true
      · simp -implicitDefEqProofs only [hs, hp, hg, go_sem]
        refine callL (l14Seen_c 22 b p false hs hp) rfl rfl rfl ?_
        obtain ⟨hb, g0, hsub⟩ := pos_sub hg
        have hlt := sub_lt hb hsub
        have hsl : (seenL b false p.toNat).length = boardN b := seenL_len
        have hgl : g.toNat < (seenL b false p.toNat).length := by rw [hsl]; exact hlt
        have hgg : ((seenL b false p.toNat).map Value.bool)[g.toNat]? = some (.bool (seenL b false p.toNat)[g.toNat]) := by simp [hgl]
        have e : canReach b p g = (seenL b false p.toNat)[g.toNat] := by simp [canReach, spreadL, hs, hp, hasS, g0, hgl]
        (repeat' (first | simp -implicitDefEqProofs only [hs, hp, hg, hgg, hgl, go_sem] | (refine And.intro ?_ ?_; omega) | (refine And.intro (shr_bd ?_ ?_) ?_; omega; omega) | refine sl_list rfl ?_ | refine sd_list rfl ?_ | refine sl_str ?_ | refine sd_str ?_))
        exact fin_scal rfl (by rw [e])
      · simp -implicitDefEqProofs only [hs, hp, hg, go_sem]
        exact fin_scal rfl (by rw [no fun _ _ h => hg h])
    · simp -implicitDefEqProofs only [hs, hp, go_sem]
      exact fin_scal rfl (by rw [no fun _ h _ => hp h])
  · simp -implicitDefEqProofs only [hs, go_sem]
    exact fin_scal rfl (by rw [no fun h _ _ => hs h])
theorem l15Back_c (d : Nat) (b : Brd) (g : Int) (hs : isSmall b = true) (hg : positionOk b g = true) : PC Tryz.prog 120 [] [.a (brdC b), .c (.v (.int .i64 g))] (.s (.c (.o d))) ⟨[], [(d, ⟨4, 1, (spreadL b true g).map Value.bool, false, true⟩)]⟩ := by
  refine pc_of Tryz.func120 rfl (by kernel_rfl) _ Tryz.ntmps120 (by simp) ?_
  have e : spreadL b true g = seenL b true g.toNat := by simp [spreadL, hs, hg]
  simp -implicitDefEqProofs only [go_sem]
  refine callL (l14Seen_c 7 b g true hs hg) rfl rfl rfl ?_
  simp -implicitDefEqProofs only [go_sem]
  exact fin_of (fun i => i) (fun i => 7) ⟨by simp [boxesR, listsR, csR, renC, keyC, optK, fnd, envR, St.get, keyPV, keyV1, renPV, renV1, hasKey, made_zero, e] <;> omega, by simp [boxesR, listsR, csR, renC, keyC, optK, fnd, envR, St.get, keyPV, keyV1, renPV, renV1, hasKey, made_zero, e] <;> omega, by simp [boxesR, listsR, csR, renC, keyC, optK, fnd, envR, St.get, keyPV, keyV1, renPV, renV1, hasKey, made_zero, e] <;> omega, by simp [boxesR, listsR, csR, renC, keyC, optK, fnd, envR, St.get, keyPV, keyV1, renPV, renV1, hasKey, made_zero, e] <;> omega, by simp [boxesR, listsR, csR, renC, keyC, optK, fnd, envR, St.get, keyPV, keyV1, renPV, renV1, hasKey, made_zero, e] <;> omega⟩ (by simp [boxesR, listsR, csR, renC, keyC, optK, fnd, envR, St.get, keyPV, keyV1, renPV, renV1, hasKey, made_zero, e] <;> omega) (by first | rfl | (simp [renPV, renV1, renC, e]))
/-! ### spared pegs -/
def spAt (S : List Bool) (p k : Int) : Bool := bitAt p k && hasS S ((ndiff p.toNat (2 ^ k.toNat) : Nat) : Int)
def spares (b : Brd) (S : List Bool) (p : Int) : List Int := (holesOf b).filter (spAt S p)
theorem spares_len {b : Brd} {S : List Bool} {p : Int} : (spares b S p).length ≤ 49 := by
  have h1 := List.length_filter_le (spAt S p) (holesOf b)
  have h2 := holes_len (b := b)
  unfold spares; omega
theorem add_or : ∀ (n a b : Nat), a < 2 ^ n → a &&& b = 0 → a + b = a ||| b
  | 0, a, b, h, _ => by
    have : a = 0 := by simpa using h
    subst this; simp
  | n + 1, a, b, h, hab => by
    have h2 : a / 2 &&& b / 2 = 0 := by rw [← Nat.and_div_two, hab]
    have ih := add_or n (a / 2) (b / 2) (by rw [Nat.pow_succ] at h; omega) h2
    rw [← Nat.or_div_two] at ih
    have h3 : ¬ (a % 2 = 1 ∧ b % 2 = 1) := by rw [← Nat.and_mod_two_eq_one, hab]; simp
    have h4 := Nat.or_mod_two_eq_one (a := a) (b := b)
    have h5 : (a ||| b) % 2 = 0 ∨ (a ||| b) % 2 = 1 := by omega
    by_cases h6 : (a ||| b) % 2 = 1
    · have := h4.1 h6; omega
    · have h7 : ¬ (a % 2 = 1 ∨ b % 2 = 1) := fun h => h6 (h4.2 h)
      omega
theorem ndiff_sub {p k : Nat} (h : p.testBit k = true) : ndiff p (2 ^ k) = p - 2 ^ k := by
  have e : p &&& 2 ^ k = 2 ^ k := by
    apply Nat.eq_of_testBit_eq
    intro j
    rw [Nat.testBit_and, Nat.testBit_two_pow]
    by_cases hj : k = j
    · subst hj; simp [h]
    · simp [hj]
  have h1 : ndiff p (2 ^ k) &&& 2 ^ k = 0 := by
    apply Nat.eq_of_testBit_eq
    intro j
    rw [Nat.testBit_and, tb_ndiff, Nat.zero_testBit]
    cases p.testBit j <;> cases (2 ^ k).testBit j <;> rfl
  have h2 : ndiff p (2 ^ k) ||| 2 ^ k = p := by
    apply Nat.eq_of_testBit_eq
    intro j
    rw [Nat.testBit_or, tb_ndiff, Nat.testBit_two_pow]
    by_cases hj : k = j
    · subst hj; simp [h]
    · simp [hj]
  have h3 : ndiff p (2 ^ k) + 2 ^ k = p := by
    rw [add_or (ndiff p (2 ^ k)) _ _ Nat.lt_two_pow_self h1, h2]
  omega
end Go.Proofs.YtggejdgohkfmmaaGreat
