/-
  The law on holes of drawn games.
-/
import Derived.Test.YtenfpjipeeolpaaSB
import Derived.Test.YtenfpjipeeolpaaD9
import Derived.Test.YtenfpjipeeolpaaSZ
namespace Go.Proofs.Ytenfpjipeeolpaa
open Go.PL
set_option linter.unusedSimpArgs false
theorem lawHas_c (xs : List Int) (n : Int) (hn : xs.length ≤ 4194304) : PC Try.prog 45 [] [.c (.l 1 (xs.map iV)), .c (.v (.int .i64 n))] (vB (decide (n ∈ xs))) ⟨[], []⟩ := by
  refine pc_of Try.func45 rfl (by kernel_rfl) _ Try.ntmps45 (by simp) ?_
  (repeat' (first | simp -implicitDefEqProofs only [go_sem, Nat.reduceLT, Nat.reduceLeDiff, Nat.reduceEqDiff, Nat.reduceAdd, Nat.reduceSub, Nat.reduceMul, Int.reduceEq, Int.reduceLT, Int.reduceLE, Int.reduceNeg, Int.reduceAdd, Int.reduceSub, Int.reduceMul, Int.reduceToNat, reduceIte, reduceCtorEq, List.map_cons, List.map_nil] | (refine And.intro ?_ ?_; omega) | (refine And.intro (shr_bd ?_ ?_) ?_; omega; omega) | refine sl_list rfl ?_ | refine sd_list rfl ?_ | refine sl_str ?_ | refine sd_str ?_))
  refine loop_step (X := Nat) (fun i => ⟨18, [(0, vL 1 (xs.map iV)), (1, vN n), (5, vN i)], ⟨[], []⟩⟩)
    (fun i => i ≤ xs.length ∧ ∀ j (h : j < xs.length), j < i → xs[j] ≠ n) (fun i => xs.length - i) 0 ⟨by omega, by omega⟩ (weak_of (fun i => i) (fun i => i) rfl ⟨by simp [boxesR, listsR, csR, renC, keyC, optK, fnd, envR, St.get, keyPV, keyV1, renPV, renV1, hasKey, made_zero] <;> omega, by simp [boxesR, listsR, csR, renC, keyC, optK, fnd, envR, St.get, keyPV, keyV1, renPV, renV1, hasKey, made_zero] <;> omega, by simp [boxesR, listsR, csR, renC, keyC, optK, fnd, envR, St.get, keyPV, keyV1, renPV, renV1, hasKey, made_zero] <;> omega, by simp [boxesR, listsR, csR, renC, keyC, optK, fnd, envR, St.get, keyPV, keyV1, renPV, renV1, hasKey, made_zero] <;> omega, by simp [boxesR, listsR, csR, renC, keyC, optK, fnd, envR, St.get, keyPV, keyV1, renPV, renV1, hasKey, made_zero] <;> omega⟩ (by simp [boxesR, listsR, csR, renC, keyC, optK, fnd, envR, St.get, keyPV, keyV1, renPV, renV1, hasKey, made_zero] <;> omega)) (fun i hi => ?_)
  obtain ⟨hi0, hi1⟩ := hi
  by_cases hlt : i < xs.length
  · have e0 : ((i : Int) < xs.length) = True := eq_true (by omega)
    have hg := map_get (f := iV) hlt
    by_cases he : xs[i] = n
    · (repeat' (first | simp -implicitDefEqProofs only [e0, hg, hlt, he, go_sem, Nat.reduceLT, Nat.reduceLeDiff, Nat.reduceEqDiff, Nat.reduceAdd, Nat.reduceSub, Nat.reduceMul, Int.reduceEq, Int.reduceLT, Int.reduceLE, Int.reduceNeg, Int.reduceAdd, Int.reduceSub, Int.reduceMul, Int.reduceToNat, reduceIte, reduceCtorEq, List.map_cons, List.map_nil] | (refine And.intro ?_ ?_; omega) | (refine And.intro (shr_bd ?_ ?_) ?_; omega; omega) | refine sl_list rfl ?_ | refine sd_list rfl ?_ | refine sl_str ?_ | refine sd_str ?_))
      exact fin_scal rfl (by have : n ∈ xs := by rw [← he]; exact List.getElem_mem hlt
                             simp [this, retOf])
    · (repeat' (first | simp -implicitDefEqProofs only [e0, hg, hlt, he, go_sem, Nat.reduceLT, Nat.reduceLeDiff, Nat.reduceEqDiff, Nat.reduceAdd, Nat.reduceSub, Nat.reduceMul, Int.reduceEq, Int.reduceLT, Int.reduceLE, Int.reduceNeg, Int.reduceAdd, Int.reduceSub, Int.reduceMul, Int.reduceToNat, reduceIte, reduceCtorEq, List.map_cons, List.map_nil] | (refine And.intro ?_ ?_; omega) | (refine And.intro (shr_bd ?_ ?_) ?_; omega; omega) | refine sl_list rfl ?_ | refine sd_list rfl ?_ | refine sl_str ?_ | refine sd_str ?_))
      exact ⟨i + 1, ⟨by omega, fun j hj hji => by
        by_cases e : j = i
        · subst e; exact he
        · exact hi1 j hj (by omega)⟩, by omega, weak_of (fun i => i) (fun i => i) rfl ⟨by simp [boxesR, listsR, csR, renC, keyC, optK, fnd, envR, St.get, keyPV, keyV1, renPV, renV1, hasKey, made_zero] <;> omega, by simp [boxesR, listsR, csR, renC, keyC, optK, fnd, envR, St.get, keyPV, keyV1, renPV, renV1, hasKey, made_zero] <;> omega, by simp [boxesR, listsR, csR, renC, keyC, optK, fnd, envR, St.get, keyPV, keyV1, renPV, renV1, hasKey, made_zero] <;> omega, by simp [boxesR, listsR, csR, renC, keyC, optK, fnd, envR, St.get, keyPV, keyV1, renPV, renV1, hasKey, made_zero] <;> omega, by simp [boxesR, listsR, csR, renC, keyC, optK, fnd, envR, St.get, keyPV, keyV1, renPV, renV1, hasKey, made_zero] <;> omega⟩ (by simp [boxesR, listsR, csR, renC, keyC, optK, fnd, envR, St.get, keyPV, keyV1, renPV, renV1, hasKey, made_zero] <;> omega)⟩
  · have e0 : ((i : Int) < xs.length) = False := eq_false (by omega)
    (repeat' (first | simp -implicitDefEqProofs only [e0, go_sem, Nat.reduceLT, Nat.reduceLeDiff, Nat.reduceEqDiff, Nat.reduceAdd, Nat.reduceSub, Nat.reduceMul, Int.reduceEq, Int.reduceLT, Int.reduceLE, Int.reduceNeg, Int.reduceAdd, Int.reduceSub, Int.reduceMul, Int.reduceToNat, reduceIte, reduceCtorEq, List.map_cons, List.map_nil] | (refine And.intro ?_ ?_; omega) | (refine And.intro (shr_bd ?_ ?_) ?_; omega; omega) | refine sl_list rfl ?_ | refine sd_list rfl ?_ | refine sl_str ?_ | refine sd_str ?_))
    exact fin_scal rfl (by have : n ∉ xs := fun hm => by
                             obtain ⟨j, hj, e⟩ := List.mem_iff_getElem.1 hm
                             exact hi1 j hj (by omega) e
                           simp [this, retOf])
theorem lawBtoi_c (b : Bool) : PC Try.prog 47 [] [.c (.v (.bool b))] (vN (if b = true then 1 else 0)) ⟨[], []⟩ := by
  refine pc_of Try.func47 rfl (by kernel_rfl) _ Try.ntmps47 (by simp) ?_
  cases b <;> ((repeat' (first | simp -implicitDefEqProofs only [go_sem, Nat.reduceLT, Nat.reduceLeDiff, Nat.reduceEqDiff, Nat.reduceAdd, Nat.reduceSub, Nat.reduceMul, Int.reduceEq, Int.reduceLT, Int.reduceLE, Int.reduceNeg, Int.reduceAdd, Int.reduceSub, Int.reduceMul, Int.reduceToNat, reduceIte, reduceCtorEq, List.map_cons, List.map_nil] | (refine And.intro ?_ ?_; omega) | (refine And.intro (shr_bd ?_ ?_) ?_; omega; omega) | refine sl_list rfl ?_ | refine sd_list rfl ?_ | refine sl_str ?_ | refine sd_str ?_)); exact fin_scal rfl rfl)
theorem CountLines_c (b : Brd) : PC Try.prog 49 [] [.a (brdC b)] (vN (linesOf b).length) ⟨[], []⟩ := by
  refine pc_of Try.func49 rfl (by kernel_rfl) _ Try.ntmps49 (by simp) ?_
  have hl := linesOf_len (b := b)
  repeat' first
    | (first | simp -implicitDefEqProofs only [go_sem, Nat.reduceLT, Nat.reduceLeDiff, Nat.reduceEqDiff, Nat.reduceAdd, Nat.reduceSub, Nat.reduceMul, Int.reduceEq, Int.reduceLT, Int.reduceLE, Int.reduceNeg, Int.reduceAdd, Int.reduceSub, Int.reduceMul, Int.reduceToNat, reduceIte, reduceCtorEq, List.map_cons, List.map_nil] | (refine And.intro ?_ ?_; omega) | (refine And.intro (shr_bd ?_ ?_) ?_; omega; omega) | refine sl_list rfl ?_ | refine sd_list rfl ?_ | refine sl_str ?_ | refine sd_str ?_)
    | refine callL1 (fun d => LinesOf_c d b) rfl rfl rfl ?_
  exact fin_scal rfl rfl
open Classical in
noncomputable def firstN (b : Brd) (i j : Nat) : Bool := decide (∀ x, x < j → partAt b x ≠ partAt b i)
theorem firstN_zero {b : Brd} {i : Nat} : firstN b i 0 = true := by simp [firstN]
theorem firstN_step {b : Brd} {i j : Nat} (h : firstN b i j = true) : firstN b i (j + 1) = !decide (partAt b j = partAt b i) := by
  have h' : ∀ x, x < j → partAt b x ≠ partAt b i := by simpa [firstN] using h
  rw [Bool.eq_iff_iff]
  simp only [firstN, decide_eq_true_eq, Bool.not_eq_true', decide_eq_false_iff_not]
  constructor
  · intro h2; exact h2 j (by omega)
  · intro h2 x hx
    by_cases e : x = j
    · subst e; exact h2
    · exact h' x (by omega)
theorem firstN_stay {b : Brd} {i j : Nat} (h : firstN b i j = false) : firstN b i (j + 1) = false := by
  cases h2 : firstN b i (j + 1) with
  | false => rfl
  | true =>
    have h' : ∀ x, x < j + 1 → partAt b x ≠ partAt b i := by simpa [firstN] using h2
    have : firstN b i j = true := by simpa [firstN] using fun x hx => h' x (by omega)
    rw [h] at this; cases this
theorem firstN_new {b : Brd} {i : Nat} : firstN b i i = newP b i := rfl
/-- what the law says of one hole -/
structure HoleAt (b : Brd) (i : Nat) (k : Int) (nd no s : Nat) : Prop where
  k0 : 0 ≤ k ∧ k ≤ 48
  d : degreeOf b k = nd
  o : overCount b k = no
  dl : nd ≤ 196 ∧ no ≤ 196
  p : partOf b k = s
  sl : s ≤ 562949953421311
  bit : bitAt (s : Int) k = true
  c : k ∈ cornersOf b ↔ no = 0 ∧ 0 < nd
  l : k ∈ loneHoles b ↔ isLone b k = true
  pa : partAt b i = s
  sd : sumK (·.f) (linesOf b) (holesOf b) (i + 1) = sumK (·.f) (linesOf b) (holesOf b) i + nd
  so : sumK (·.o) (linesOf b) (holesOf b) (i + 1) = sumK (·.o) (linesOf b) (holesOf b) i + no
  un : unionN b (i + 1) = unionN b i ||| s
theorem holeAt {b : Brd} {i : Nat} (h : i < (holesOf b).length) : ∃ nd no s : Nat, HoleAt b i (holesOf b)[i] nd no s := by
  have hh := hole_at h
  have hm := List.getElem_mem h
  obtain ⟨_, k0, k1⟩ := hole_bd hh
  obtain ⟨s, hs, es, hp⟩ := part_ex hh
  have hd := degree_at h
  have ho := over_at h
  have h1 := List.length_filter_le (fun l => decide (l.f = (holesOf b)[i])) (linesOf b)
  have h2 := List.length_filter_le (fun l => decide (l.o = (holesOf b)[i])) (linesOf b)
  have h3 := linesOf_len (b := b)
  have ep : partAt b i = s := by rw [partAt_eq h, es]
  refine ⟨_, _, s, ⟨k0, k1⟩, hd, ho, ⟨by omega, by omega⟩, es, by omega, ?_, ?_, ?_, ep, sumK_step h, sumK_step h, ?_⟩
  · rw [bitAt_int k0, hp, Int.toNat_of_nonneg k0]; exact .refl
  · simp only [cornersOf, List.mem_filter, hm, true_and, isCorner, Bool.and_eq_true, decide_eq_true_eq, hd, ho]
    omega
  · simp only [loneHoles, List.mem_filter, hm, true_and]
  · rw [unionN, ep, Int.toNat_natCast]
set_option maxRecDepth 20000 in
set_option maxHeartbeats 64000000 in
theorem lawHoles_c (bs : List Nat) (hbs : ∀ b ∈ bs, b ≤ 255) : PC Try.prog 6 [] [.c (.l 1 (bs.map bV))] (vB true) ⟨[], []⟩ := by
  by_cases hn : (1048576 : Int) < bs.length
  · refine pc_of Try.func6 rfl (by kernel_rfl) _ Try.ntmps6 (by simp) ?_
    repeat' first
      | (first | simp -implicitDefEqProofs only [hn, go_sem, Nat.reduceLT, Nat.reduceLeDiff, Nat.reduceEqDiff, Nat.reduceAdd, Nat.reduceSub, Nat.reduceMul, Int.reduceEq, Int.reduceLT, Int.reduceLE, Int.reduceNeg, Int.reduceAdd, Int.reduceSub, Int.reduceMul, Int.reduceToNat, reduceIte, reduceCtorEq, List.map_cons, List.map_nil] | (refine And.intro ?_ ?_; omega) | (refine And.intro (shr_bd ?_ ?_) ?_; omega; omega) | refine sl_list rfl ?_ | refine sd_list rfl ?_ | refine sl_str ?_ | refine sd_str ?_)
      | refine callS (lawBig_c bs) rfl rfl rfl ?_
    exact fin_scal rfl rfl
  obtain ⟨b, p, ls, q, ⟨hs, hp, hpl, hll⟩, pd⟩ := drawGame_ex ⟨bs, hbs, by omega⟩
  have hb0 : ((1048576 : Int) < bs.length) = False := eq_false hn
  have hb := small_ok hs
  have p1 := pos_le hp
  have q1 := pos_le (playF_pos hp hpl)
  have epl : playI b p ls = q := by
    have : playAll b p ls = some q := by
      unfold playAll
      rw [if_pos ⟨hp, by omega⟩]; exact hpl
    simp [playI, this]
  have hl := holes_len (b := b)
  have hcl := corners_len (b := b)
  have hlo := lone_len (b := b)
  have hln := linesOf_len (b := b)
  have sdl : ∀ {g : Ln → Int} {i : Nat}, i ≤ (holesOf b).length → sumK g (linesOf b) (holesOf b) i ≤ 9604 := fun {g i} hi => by
    have h1 := sumK_le (g := g) (ls := linesOf b) (ks := holesOf b) i
    have h2 : i * (linesOf b).length ≤ 49 * 196 := Nat.mul_le_mul (by omega) hln
    omega
  have sd := sum_deg (b := b)
  have so := sum_over (b := b)
  have un := union_all hb
  have bs1 := bound_sweeps hp hpl
  have bs2 : sweeps ls ≤ ls.length := sw_le
  have B1 : (cornerBound b p q ≤ (ls.length : Int)) = True := eq_true (by omega)
  have B2 : (cornerBound b p q ≤ (sweeps ls : Int)) = True := eq_true bs1
  have B3 : (0 ≤ cornerBound b p q) = True := eq_true bound_0
  have c33 := corners_33
  refine pc_of Try.func6 rfl (by kernel_rfl) _ Try.ntmps6 (by simp) ?_
  repeat' first
    | (first | simp -implicitDefEqProofs only [hb0, epl, go_sem, Nat.reduceLT, Nat.reduceLeDiff, Nat.reduceEqDiff, Nat.reduceAdd, Nat.reduceSub, Nat.reduceMul, Int.reduceEq, Int.reduceLT, Int.reduceLE, Int.reduceNeg, Int.reduceAdd, Int.reduceSub, Int.reduceMul, Int.reduceToNat, reduceIte, reduceCtorEq, List.map_cons, List.map_nil] | (refine And.intro ?_ ?_; omega) | (refine And.intro (shr_bd ?_ ?_) ?_; omega; omega) | refine sl_list rfl ?_ | refine sd_list rfl ?_ | refine sl_str ?_ | refine sd_str ?_)
    | refine callS (lawBig_c bs) rfl rfl rfl ?_
    | refine callV pd rfl rfl rfl ?_
    | refine callS (PlayAll_c b p ls (by omega) (by omega)) rfl rfl rfl ?_
    | refine callL1 (fun d => HolesOf_c d b) rfl rfl rfl ?_
    | refine callL1 (fun d => iCornersOf_c d b) rfl rfl rfl ?_
    | refine callL1 (fun d => iLoneHoles_c d b) rfl rfl rfl ?_
  refine loop_step (X := Nat) (fun i => ⟨218, [(3, .s (.c (.p 3 0))), (4, vN p), (5, vL 3 (ls.map lineV)), (6, vN q), (8, vO 37), (9, vO 39), (10, vO 41), (11, vN (sumK (·.f) (linesOf b) (holesOf b) i)), (12, vN (sumK (·.o) (linesOf b) (holesOf b) i)), (13, vN (unionN b i)), (14, vN (cntN b i)), (15, vN i)],
      ⟨[(3, brdC b)], [(37, ⟨3, 1, (holesOf b).map iV, false, true⟩), (39, ⟨3, 1, (cornersOf b).map iV, false, true⟩), (41, ⟨3, 1, (loneHoles b).map iV, false, true⟩)]⟩⟩)
    (fun i => i ≤ (holesOf b).length) (fun i => (holesOf b).length - i) 0 (by omega) (weak_of (fun i => i) (fun i => i) rfl ⟨by simp [boxesR, listsR, csR, renC, keyC, optK, fnd, envR, St.get, keyPV, keyV1, renPV, renV1, hasKey, made_zero, sumK_zero, unionN, cntN] <;> omega, by simp [boxesR, listsR, csR, renC, keyC, optK, fnd, envR, St.get, keyPV, keyV1, renPV, renV1, hasKey, made_zero, sumK_zero, unionN, cntN] <;> omega, by simp [boxesR, listsR, csR, renC, keyC, optK, fnd, envR, St.get, keyPV, keyV1, renPV, renV1, hasKey, made_zero, sumK_zero, unionN, cntN] <;> omega, by simp [boxesR, listsR, csR, renC, keyC, optK, fnd, envR, St.get, keyPV, keyV1, renPV, renV1, hasKey, made_zero, sumK_zero, unionN, cntN] <;> omega, by simp [boxesR, listsR, csR, renC, keyC, optK, fnd, envR, St.get, keyPV, keyV1, renPV, renV1, hasKey, made_zero, sumK_zero, unionN, cntN] <;> omega⟩ (by simp [boxesR, listsR, csR, renC, keyC, optK, fnd, envR, St.get, keyPV, keyV1, renPV, renV1, hasKey, made_zero, sumK_zero, unionN, cntN] <;> omega)) (fun i hi => ?_)
  have s1 := sdl (g := (·.f)) hi
  have s2 := sdl (g := (·.o)) hi
  have cn := cntP_le (b := b) (i := i)
  have ul := union_lt i hi
  by_cases hlt : i < (holesOf b).length
  · have e0 : ((i : Int) < (holesOf b).length) = True := eq_true (by omega)
    have h1 := map_get (f := iV) hlt
    obtain ⟨nd, no, s, H⟩ := holeAt hlt
    generalize (holesOf b)[i] = k at h1 H
    obtain ⟨⟨k0, k1⟩, hd, ho, ⟨hd2, ho2⟩, hpt, hsl, hbit, hc, hlon, hpa, hsd, hso, hun⟩ := H
    have hlon : (k ∈ loneHoles b) = (isLone b k = true) := propext hlon
    have hbit : bitAt (s : Int) ((k.toNat : Nat) : Int) = true := by rw [Int.toNat_of_nonneg k0]; exact hbit
    have hor := Nat.or_lt_two_pow ul (show s < 2 ^ 49 by omega)
    have two : ∀ Q : Prop, ((((no : Int) = 0) = True → (k ∈ cornersOf b) = ((0 : Int) < (nd : Int)) → Q)) → ((((no : Int) = 0) = False → (k ∈ cornersOf b) = False → Q)) → Q := fun Q x y => by
      by_cases hz : no = 0
      · exact x (eq_true (by omega)) (propext ⟨fun h => by have := hc.1 h; omega, fun h => hc.2 ⟨hz, by omega⟩⟩)
      · exact y (eq_false (by omega)) (eq_false fun h => hz (hc.1 h).1)
    apply two
    all_goals
      intro hz hco
      repeat' first
        | (first | simp -implicitDefEqProofs only [e0, h1, hlt, hd, ho, hpt, hbit, hz, hco, hlon, Bool.decide_eq_true, go_sem, Nat.reduceLT, Nat.reduceLeDiff, Nat.reduceEqDiff, Nat.reduceAdd, Nat.reduceSub, Nat.reduceMul, Int.reduceEq, Int.reduceLT, Int.reduceLE, Int.reduceNeg, Int.reduceAdd, Int.reduceSub, Int.reduceMul, Int.reduceToNat, reduceIte, reduceCtorEq, List.map_cons, List.map_nil] | (refine And.intro ?_ ?_; omega) | (refine And.intro (shr_bd ?_ ?_) ?_; omega; omega) | refine sl_list rfl ?_ | refine sd_list rfl ?_ | refine sl_str ?_ | refine sd_str ?_)
        | refine draw_step Try.pl_follows (by kernel_rfl) ?_
        | refine callD (iDegreeOf_c b k) rfl rfl rfl ?_
        | refine callD (iOverCount_c b k) rfl rfl rfl ?_
        | refine callD (iPartOf_c b k) rfl rfl rfl ?_
        | refine callD (lawHas_c (cornersOf b) k (by omega)) rfl rfl rfl ?_
        | refine callD (lawHas_c (loneHoles b) k (by omega)) rfl rfl rfl ?_
        | refine callD (IsLoneHole_c b k) rfl rfl rfl ?_
      refine loop_step (X := Nat) (fun j => ⟨218, [(3, .s (.c (.p 3 0))), (4, vN p), (5, vL 3 (ls.map lineV)), (6, vN q), (8, vO 37), (9, vO 39), (10, vO 41), (11, vN (sumK (·.f) (linesOf b) (holesOf b) (i + 1))), (12, vN (sumK (·.o) (linesOf b) (holesOf b) (i + 1))), (13, vN (unionN b (i + 1))), (14, vN (cntN b i)), (15, vN i), (16, vN s), (17, vB (firstN b i j)), (18, vN j)],
          ⟨[(3, brdC b)], [(37, ⟨3, 1, (holesOf b).map iV, false, true⟩), (39, ⟨3, 1, (cornersOf b).map iV, false, true⟩), (41, ⟨3, 1, (loneHoles b).map iV, false, true⟩)]⟩⟩)
        (fun j => j ≤ i) (fun j => i - j) 0 (by omega) (weak_of (fun i => i) (fun i => i) rfl ⟨by simp [boxesR, listsR, csR, renC, keyC, optK, fnd, envR, St.get, keyPV, keyV1, renPV, renV1, hasKey, made_zero, hsd, hso, hun, firstN_zero] <;> omega, by simp [boxesR, listsR, csR, renC, keyC, optK, fnd, envR, St.get, keyPV, keyV1, renPV, renV1, hasKey, made_zero, hsd, hso, hun, firstN_zero] <;> omega, by simp [boxesR, listsR, csR, renC, keyC, optK, fnd, envR, St.get, keyPV, keyV1, renPV, renV1, hasKey, made_zero, hsd, hso, hun, firstN_zero] <;> omega, by simp [boxesR, listsR, csR, renC, keyC, optK, fnd, envR, St.get, keyPV, keyV1, renPV, renV1, hasKey, made_zero, hsd, hso, hun, firstN_zero] <;> omega, by simp [boxesR, listsR, csR, renC, keyC, optK, fnd, envR, St.get, keyPV, keyV1, renPV, renV1, hasKey, made_zero, hsd, hso, hun, firstN_zero] <;> omega⟩ (by simp [boxesR, listsR, csR, renC, keyC, optK, fnd, envR, St.get, keyPV, keyV1, renPV, renV1, hasKey, made_zero, hsd, hso, hun, firstN_zero] <;> omega)) (fun j hj => ?_)
      by_cases hjl : j < i
      · have f0 : ((j : Int) < (i : Int)) = True := eq_true (by omega)
        have hjh : j < (holesOf b).length := by omega
        have g1 := map_get (f := iV) hjh
        obtain ⟨s', hs', es', _⟩ := part_ex (hole_at hjh)
        have ea := partAt_eq hjh
        rw [es'] at ea
        generalize (holesOf b)[j] = k' at g1 es'
        cases hf : firstN b i j with
        | true =>
          have st := firstN_step hf
          rw [ea, hpa] at st
          repeat' first
            | (first | simp -implicitDefEqProofs only [f0, g1, hjh, es', hf, go_sem, Nat.reduceLT, Nat.reduceLeDiff, Nat.reduceEqDiff, Nat.reduceAdd, Nat.reduceSub, Nat.reduceMul, Int.reduceEq, Int.reduceLT, Int.reduceLE, Int.reduceNeg, Int.reduceAdd, Int.reduceSub, Int.reduceMul, Int.reduceToNat, reduceIte, reduceCtorEq, List.map_cons, List.map_nil] | (refine And.intro ?_ ?_; omega) | (refine And.intro (shr_bd ?_ ?_) ?_; omega; omega) | refine sl_list rfl ?_ | refine sd_list rfl ?_ | refine sl_str ?_ | refine sd_str ?_)
            | refine draw_step Try.pl_follows (by kernel_rfl) ?_
            | refine callD (iPartOf_c b k') rfl rfl rfl ?_
          exact ⟨j + 1, by omega, by omega, weak_of (fun i => i) (fun i => i) rfl ⟨by simp [boxesR, listsR, csR, renC, keyC, optK, fnd, envR, St.get, keyPV, keyV1, renPV, renV1, hasKey, made_zero, st] <;> omega, by simp [boxesR, listsR, csR, renC, keyC, optK, fnd, envR, St.get, keyPV, keyV1, renPV, renV1, hasKey, made_zero, st] <;> omega, by simp [boxesR, listsR, csR, renC, keyC, optK, fnd, envR, St.get, keyPV, keyV1, renPV, renV1, hasKey, made_zero, st] <;> omega, by simp [boxesR, listsR, csR, renC, keyC, optK, fnd, envR, St.get, keyPV, keyV1, renPV, renV1, hasKey, made_zero, st] <;> omega, by simp [boxesR, listsR, csR, renC, keyC, optK, fnd, envR, St.get, keyPV, keyV1, renPV, renV1, hasKey, made_zero, st] <;> omega⟩ (by simp [boxesR, listsR, csR, renC, keyC, optK, fnd, envR, St.get, keyPV, keyV1, renPV, renV1, hasKey, made_zero, st] <;> omega)⟩
        | false =>
          have st := firstN_stay hf
          repeat' first
            | (first | simp -implicitDefEqProofs only [f0, g1, hjh, es', hf, go_sem, Nat.reduceLT, Nat.reduceLeDiff, Nat.reduceEqDiff, Nat.reduceAdd, Nat.reduceSub, Nat.reduceMul, Int.reduceEq, Int.reduceLT, Int.reduceLE, Int.reduceNeg, Int.reduceAdd, Int.reduceSub, Int.reduceMul, Int.reduceToNat, reduceIte, reduceCtorEq, List.map_cons, List.map_nil] | (refine And.intro ?_ ?_; omega) | (refine And.intro (shr_bd ?_ ?_) ?_; omega; omega) | refine sl_list rfl ?_ | refine sd_list rfl ?_ | refine sl_str ?_ | refine sd_str ?_)
            | refine draw_step Try.pl_follows (by kernel_rfl) ?_
          exact ⟨j + 1, by omega, by omega, weak_of (fun i => i) (fun i => i) rfl ⟨by simp [boxesR, listsR, csR, renC, keyC, optK, fnd, envR, St.get, keyPV, keyV1, renPV, renV1, hasKey, made_zero, st] <;> omega, by simp [boxesR, listsR, csR, renC, keyC, optK, fnd, envR, St.get, keyPV, keyV1, renPV, renV1, hasKey, made_zero, st] <;> omega, by simp [boxesR, listsR, csR, renC, keyC, optK, fnd, envR, St.get, keyPV, keyV1, renPV, renV1, hasKey, made_zero, st] <;> omega, by simp [boxesR, listsR, csR, renC, keyC, optK, fnd, envR, St.get, keyPV, keyV1, renPV, renV1, hasKey, made_zero, st] <;> omega, by simp [boxesR, listsR, csR, renC, keyC, optK, fnd, envR, St.get, keyPV, keyV1, renPV, renV1, hasKey, made_zero, st] <;> omega⟩ (by simp [boxesR, listsR, csR, renC, keyC, optK, fnd, envR, St.get, keyPV, keyV1, renPV, renV1, hasKey, made_zero, st] <;> omega)⟩
      · have f0 : ((j : Int) < (i : Int)) = False := eq_false (by omega)
        obtain rfl : j = i := by omega
        have fn := firstN_new (b := b) (i := j)
        cases hw : newP b j with
        | true =>
          have c1 := cntP_hit hw
          repeat' first
            | (first | simp -implicitDefEqProofs only [f0, fn, hw, go_sem, Nat.reduceLT, Nat.reduceLeDiff, Nat.reduceEqDiff, Nat.reduceAdd, Nat.reduceSub, Nat.reduceMul, Int.reduceEq, Int.reduceLT, Int.reduceLE, Int.reduceNeg, Int.reduceAdd, Int.reduceSub, Int.reduceMul, Int.reduceToNat, reduceIte, reduceCtorEq, List.map_cons, List.map_nil] | (refine And.intro ?_ ?_; omega) | (refine And.intro (shr_bd ?_ ?_) ?_; omega; omega) | refine sl_list rfl ?_ | refine sd_list rfl ?_ | refine sl_str ?_ | refine sd_str ?_)
            | refine callS (lawBtoi_c _) rfl rfl rfl ?_
          exact ⟨j + 1, by omega, by omega, weak_of (fun i => i) (fun i => i) rfl ⟨by simp [boxesR, listsR, csR, renC, keyC, optK, fnd, envR, St.get, keyPV, keyV1, renPV, renV1, hasKey, made_zero, c1] <;> omega, by simp [boxesR, listsR, csR, renC, keyC, optK, fnd, envR, St.get, keyPV, keyV1, renPV, renV1, hasKey, made_zero, c1] <;> omega, by simp [boxesR, listsR, csR, renC, keyC, optK, fnd, envR, St.get, keyPV, keyV1, renPV, renV1, hasKey, made_zero, c1] <;> omega, by simp [boxesR, listsR, csR, renC, keyC, optK, fnd, envR, St.get, keyPV, keyV1, renPV, renV1, hasKey, made_zero, c1] <;> omega, by simp [boxesR, listsR, csR, renC, keyC, optK, fnd, envR, St.get, keyPV, keyV1, renPV, renV1, hasKey, made_zero, c1] <;> omega⟩ (by simp [boxesR, listsR, csR, renC, keyC, optK, fnd, envR, St.get, keyPV, keyV1, renPV, renV1, hasKey, made_zero, c1] <;> omega)⟩
        | false =>
          have c1 := cntP_miss hw
          repeat' first
            | (first | simp -implicitDefEqProofs only [f0, fn, hw, go_sem, Nat.reduceLT, Nat.reduceLeDiff, Nat.reduceEqDiff, Nat.reduceAdd, Nat.reduceSub, Nat.reduceMul, Int.reduceEq, Int.reduceLT, Int.reduceLE, Int.reduceNeg, Int.reduceAdd, Int.reduceSub, Int.reduceMul, Int.reduceToNat, reduceIte, reduceCtorEq, List.map_cons, List.map_nil] | (refine And.intro ?_ ?_; omega) | (refine And.intro (shr_bd ?_ ?_) ?_; omega; omega) | refine sl_list rfl ?_ | refine sd_list rfl ?_ | refine sl_str ?_ | refine sd_str ?_)
            | refine callS (lawBtoi_c _) rfl rfl rfl ?_
          exact ⟨j + 1, by omega, by omega, weak_of (fun i => i) (fun i => i) rfl ⟨by simp [boxesR, listsR, csR, renC, keyC, optK, fnd, envR, St.get, keyPV, keyV1, renPV, renV1, hasKey, made_zero, c1] <;> omega, by simp [boxesR, listsR, csR, renC, keyC, optK, fnd, envR, St.get, keyPV, keyV1, renPV, renV1, hasKey, made_zero, c1] <;> omega, by simp [boxesR, listsR, csR, renC, keyC, optK, fnd, envR, St.get, keyPV, keyV1, renPV, renV1, hasKey, made_zero, c1] <;> omega, by simp [boxesR, listsR, csR, renC, keyC, optK, fnd, envR, St.get, keyPV, keyV1, renPV, renV1, hasKey, made_zero, c1] <;> omega, by simp [boxesR, listsR, csR, renC, keyC, optK, fnd, envR, St.get, keyPV, keyV1, renPV, renV1, hasKey, made_zero, c1] <;> omega⟩ (by simp [boxesR, listsR, csR, renC, keyC, optK, fnd, envR, St.get, keyPV, keyV1, renPV, renV1, hasKey, made_zero, c1] <;> omega)⟩
  · have e0 : ((i : Int) < (holesOf b).length) = False := eq_false (by omega)
    obtain rfl : i = (holesOf b).length := by omega
    (repeat' (first | simp -implicitDefEqProofs only [e0, go_sem, Nat.reduceLT, Nat.reduceLeDiff, Nat.reduceEqDiff, Nat.reduceAdd, Nat.reduceSub, Nat.reduceMul, Int.reduceEq, Int.reduceLT, Int.reduceLE, Int.reduceNeg, Int.reduceAdd, Int.reduceSub, Int.reduceMul, Int.reduceToNat, reduceIte, reduceCtorEq, List.map_cons, List.map_nil] | (refine And.intro ?_ ?_; omega) | (refine And.intro (shr_bd ?_ ?_) ?_; omega; omega) | refine sl_list rfl ?_ | refine sd_list rfl ?_ | refine sl_str ?_ | refine sd_str ?_))
    refine loop_step (X := Nat) (fun i => ⟨218, [(3, .s (.c (.p 3 0))), (4, vN p), (5, vL 3 (ls.map lineV)), (6, vN q), (9, vO 39), (11, vN (linesOf b).length), (12, vN (linesOf b).length), (13, vN b.n), (14, vN (countParts b)), (19, vN i)],
        ⟨[(3, brdC b)], [(39, ⟨3, 1, (cornersOf b).map iV, false, true⟩)]⟩⟩)
      (fun i => i ≤ ls.length) (fun i => ls.length - i) 0 (by omega) (weak_of (fun i => i) (fun i => i) rfl ⟨by simp [boxesR, listsR, csR, renC, keyC, optK, fnd, envR, St.get, keyPV, keyV1, renPV, renV1, hasKey, made_zero, sd, so, un, countParts] <;> omega, by simp [boxesR, listsR, csR, renC, keyC, optK, fnd, envR, St.get, keyPV, keyV1, renPV, renV1, hasKey, made_zero, sd, so, un, countParts] <;> omega, by simp [boxesR, listsR, csR, renC, keyC, optK, fnd, envR, St.get, keyPV, keyV1, renPV, renV1, hasKey, made_zero, sd, so, un, countParts] <;> omega, by simp [boxesR, listsR, csR, renC, keyC, optK, fnd, envR, St.get, keyPV, keyV1, renPV, renV1, hasKey, made_zero, sd, so, un, countParts] <;> omega, by simp [boxesR, listsR, csR, renC, keyC, optK, fnd, envR, St.get, keyPV, keyV1, renPV, renV1, hasKey, made_zero, sd, so, un, countParts] <;> omega⟩ (by simp [boxesR, listsR, csR, renC, keyC, optK, fnd, envR, St.get, keyPV, keyV1, renPV, renV1, hasKey, made_zero, sd, so, un, countParts] <;> omega)) (fun i hi => ?_)
    by_cases hlt : i < ls.length
    · have f0 : ((i : Int) < ls.length) = True := eq_true (by omega)
      have g1 := map_get (f := lineV) hlt
      have hm := play_lines hpl _ (List.getElem_mem hlt)
      have n1 : (ls[i].o ∈ cornersOf b) = False := eq_false (corner_not_over hm)
      have n2 := part_line hm
      obtain ⟨_, h2, _, h3⟩ := mem_lines hm
      obtain ⟨s, _, es, _⟩ := part_ex h2
      have es' := es
      rw [n2] at es'
      generalize ls[i] = l at g1 n1 es es'
      repeat' first
        | (first | simp -implicitDefEqProofs only [f0, g1, hlt, lineV, n1, es, es', go_sem, Nat.reduceLT, Nat.reduceLeDiff, Nat.reduceEqDiff, Nat.reduceAdd, Nat.reduceSub, Nat.reduceMul, Int.reduceEq, Int.reduceLT, Int.reduceLE, Int.reduceNeg, Int.reduceAdd, Int.reduceSub, Int.reduceMul, Int.reduceToNat, reduceIte, reduceCtorEq, List.map_cons, List.map_nil] | (refine And.intro ?_ ?_; omega) | (refine And.intro (shr_bd ?_ ?_) ?_; omega; omega) | refine sl_list rfl ?_ | refine sd_list rfl ?_ | refine sl_str ?_ | refine sd_str ?_)
        | refine draw_step Try.pl_follows (by kernel_rfl) ?_
        | refine callD (lawHas_c (cornersOf b) l.o (by omega)) rfl rfl rfl ?_
        | refine callD (iPartOf_c b l.f) rfl rfl rfl ?_
        | refine callD (iPartOf_c b l.t) rfl rfl rfl ?_
      exact ⟨i + 1, by omega, by omega, weak_of (fun i => i) (fun i => i) rfl ⟨by simp [boxesR, listsR, csR, renC, keyC, optK, fnd, envR, St.get, keyPV, keyV1, renPV, renV1, hasKey, made_zero] <;> omega, by simp [boxesR, listsR, csR, renC, keyC, optK, fnd, envR, St.get, keyPV, keyV1, renPV, renV1, hasKey, made_zero] <;> omega, by simp [boxesR, listsR, csR, renC, keyC, optK, fnd, envR, St.get, keyPV, keyV1, renPV, renV1, hasKey, made_zero] <;> omega, by simp [boxesR, listsR, csR, renC, keyC, optK, fnd, envR, St.get, keyPV, keyV1, renPV, renV1, hasKey, made_zero] <;> omega, by simp [boxesR, listsR, csR, renC, keyC, optK, fnd, envR, St.get, keyPV, keyV1, renPV, renV1, hasKey, made_zero] <;> omega⟩ (by simp [boxesR, listsR, csR, renC, keyC, optK, fnd, envR, St.get, keyPV, keyV1, renPV, renV1, hasKey, made_zero] <;> omega)⟩
    · have f0 : ((i : Int) < ls.length) = False := eq_false (by omega)
      repeat' first
        | (first | simp -implicitDefEqProofs only [f0, B1, B2, B3, c33, go_sem, Nat.reduceLT, Nat.reduceLeDiff, Nat.reduceEqDiff, Nat.reduceAdd, Nat.reduceSub, Nat.reduceMul, Int.reduceEq, Int.reduceLT, Int.reduceLE, Int.reduceNeg, Int.reduceAdd, Int.reduceSub, Int.reduceMul, Int.reduceToNat, reduceIte, reduceCtorEq, List.map_cons, List.map_nil] | (refine And.intro ?_ ?_; omega) | (refine And.intro (shr_bd ?_ ?_) ?_; omega; omega) | refine sl_list rfl ?_ | refine sd_list rfl ?_ | refine sl_str ?_ | refine sd_str ?_)
        | refine callS (iCornerBound_c b p q (by omega) (by omega)) rfl rfl rfl ?_
        | refine callS (CountLines_c b) rfl rfl rfl ?_
        | refine callS (iCountParts_c b) rfl rfl rfl ?_
        | refine callS (CountSweeps_c ls (by omega)) rfl rfl rfl ?_
        | refine callS (iRect_c (w := 3) (h := 3) (by omega) (by omega) (by omega) (by omega)) rfl rfl rfl ?_
        | refine callL1 (fun d => iCornersOf_c d (rect 3 3)) rfl rfl rfl ?_
      all_goals exact fin_scal rfl rfl
theorem fnHoles.law_c {c : C} (h : TC (.l 1 false [.i .u8]) c) : PC Try.prog 6 [] [.c c] (vB true) ⟨[], []⟩ := by
  obtain ⟨bs, rfl, hb⟩ := lawBytes_of h
  exact lawHoles_c bs hb
end Go.Proofs.Ytenfpjipeeolpaa
