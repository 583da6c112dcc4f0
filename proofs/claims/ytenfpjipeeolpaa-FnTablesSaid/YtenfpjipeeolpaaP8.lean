/-
  What the functions compute that take spared pegs away; the law on them.
-/
import Derived.Test.YtenfpjipeeolpaaP7
namespace Go.Proofs.Ytenfpjipeeolpaa
open Go.PL
set_option linter.unusedSimpArgs false
/-- spared pegs are taken away, the first one first -/
def tight (b : Brd) (S : List Bool) (p : Nat) : Nat :=
  match spares b S (p : Int) with
  | [] => p
  | k :: _ => if h : p - 2 ^ k.toNat < p then tight b S (p - 2 ^ k.toNat) else p
  termination_by p
theorem tight_nil {b : Brd} {S : List Bool} {p : Nat} (h : spares b S (p : Int) = []) : tight b S p = p := by
  rw [tight, h]
theorem tight_cons {b : Brd} {S : List Bool} {p : Nat} {k : Int} {r : List Int} (h : spares b S (p : Int) = k :: r) (hlt : p - 2 ^ k.toNat < p) : tight b S p = tight b S (p - 2 ^ k.toNat) := by
  conv => lhs; rw [tight, h]
  simp only [hlt, dite_true]
theorem spare_at {b : Brd} {S : List Bool} {p : Nat} {k : Int} (h : k ∈ spares b S (p : Int)) : 0 ≤ k ∧ k ≤ 48 ∧ p.testBit k.toNat = true ∧ 2 ^ k.toNat ≤ p ∧ p - 2 ^ k.toNat < p ∧ ndiff p (2 ^ k.toNat) = p - 2 ^ k.toNat ∧ hasS S ((p - 2 ^ k.toNat : Nat) : Int) = true := by
  unfold spares at h
  obtain ⟨h1, h2⟩ := List.mem_filter.1 h
  obtain ⟨_, _, k0, k1⟩ := mem_holes h1
  simp only [spAt, Bool.and_eq_true] at h2
  obtain ⟨h3, h4⟩ := h2
  rw [bitAt_int k0] at h3
  have e := ndiff_sub h3
  have hle : 2 ^ k.toNat ≤ p := Nat.ge_two_pow_of_testBit h3
  have hpos : 0 < 2 ^ k.toNat := Nat.pow_pos (by omega)
  rw [Int.toNat_natCast, e] at h4
  exact ⟨k0, k1, h3, hle, by omega, e, h4⟩
noncomputable def tightI (b : Brd) (p g : Int) : Int := if canReach b p g = true then (tight b (spreadL b true g) p.toNat : Nat) else p
set_option maxHeartbeats 4000000 in
theorem iTighten_c (b : Brd) (p g : Int) (p2 : p ≤ 9223372036854775807) (g2 : g ≤ 9223372036854775807) : PC Try.prog 19 [] [.a (brdC b), .c (.v (.int .i64 p)), .c (.v (.int .i64 g))] (.t [.c (.v (.int .i64 (tightI b p g))), .c (.v (.bool (canReach b p g)))]) ⟨[], []⟩ := by
  refine pc_of Try.func19 rfl (by kernel_rfl) _ Try.ntmps19 (by simp) ?_
  simp -implicitDefEqProofs only [go_sem, Nat.reduceLT, Nat.reduceLeDiff, Nat.reduceEqDiff, Nat.reduceAdd, Nat.reduceSub, Nat.reduceMul, Int.reduceEq, Int.reduceLT, Int.reduceLE, Int.reduceNeg, Int.reduceAdd, Int.reduceSub, Int.reduceMul, Int.reduceToNat, reduceIte, reduceCtorEq, List.map_cons, List.map_nil]
  refine callL (spreadOf_c 13 b g true g2) rfl rfl rfl ?_
  simp -implicitDefEqProofs only [go_sem, Nat.reduceLT, Nat.reduceLeDiff, Nat.reduceEqDiff, Nat.reduceAdd, Nat.reduceSub, Nat.reduceMul, Int.reduceEq, Int.reduceLT, Int.reduceLE, Int.reduceNeg, Int.reduceAdd, Int.reduceSub, Int.reduceMul, Int.reduceToNat, reduceIte, reduceCtorEq, List.map_cons, List.map_nil]
  refine callS (has_c _ p) rfl rfl rfl ?_
  have ec := canReach_back (b := b) (p := p) (g := g)
  by_cases h : hasS (spreadL b true g) p = true
  · obtain ⟨_, _, _, _, p0, _, _, p3⟩ := spread_at h
    have ep : (p.toNat : Int) = p := Int.toNat_of_nonneg p0
    simp -implicitDefEqProofs only [h, go_sem, Nat.reduceLT, Nat.reduceLeDiff, Nat.reduceEqDiff, Nat.reduceAdd, Nat.reduceSub, Nat.reduceMul, Int.reduceEq, Int.reduceLT, Int.reduceLE, Int.reduceNeg, Int.reduceAdd, Int.reduceSub, Int.reduceMul, Int.reduceToNat, reduceIte, reduceCtorEq, List.map_cons, List.map_nil]
    refine loop_step (X := Nat) (fun q => ⟨34, [(3, .s (.c (.p 3 0))), (8, vO 13), (9, vN (q : Int))], ⟨[(3, brdC b)], [(13, ⟨4, 1, (spreadL b true g).map Value.bool, false, true⟩)]⟩⟩)
      (fun q => q ≤ 65536 ∧ tight b (spreadL b true g) q = tight b (spreadL b true g) p.toNat) (fun q => q) p.toNat ⟨by omega, rfl⟩ (weak_of (fun i => i) (fun i => i) rfl ⟨by simp [boxesR, listsR, csR, renC, keyC, optK, fnd, envR, St.get, keyPV, keyV1, renPV, renV1, hasKey, made_zero, ep] <;> omega, by simp [boxesR, listsR, csR, renC, keyC, optK, fnd, envR, St.get, keyPV, keyV1, renPV, renV1, hasKey, made_zero, ep] <;> omega, by simp [boxesR, listsR, csR, renC, keyC, optK, fnd, envR, St.get, keyPV, keyV1, renPV, renV1, hasKey, made_zero, ep] <;> omega, by simp [boxesR, listsR, csR, renC, keyC, optK, fnd, envR, St.get, keyPV, keyV1, renPV, renV1, hasKey, made_zero, ep] <;> omega, by simp [boxesR, listsR, csR, renC, keyC, optK, fnd, envR, St.get, keyPV, keyV1, renPV, renV1, hasKey, made_zero, ep] <;> omega⟩ (by simp [boxesR, listsR, csR, renC, keyC, optK, fnd, envR, St.get, keyPV, keyV1, renPV, renV1, hasKey, made_zero, ep] <;> omega)) (fun q hq => ?_)
    obtain ⟨hq0, hq1⟩ := hq
    simp -implicitDefEqProofs only [go_sem, Nat.reduceLT, Nat.reduceLeDiff, Nat.reduceEqDiff, Nat.reduceAdd, Nat.reduceSub, Nat.reduceMul, Int.reduceEq, Int.reduceLT, Int.reduceLE, Int.reduceNeg, Int.reduceAdd, Int.reduceSub, Int.reduceMul, Int.reduceToNat, reduceIte, reduceCtorEq, List.map_cons, List.map_nil]
    refine callL (sparesIn_c 23 b _ (q : Int) (by omega) (by omega)) rfl rfl rfl ?_
    simp -implicitDefEqProofs only [len0_cast, go_sem, Nat.reduceLT, Nat.reduceLeDiff, Nat.reduceEqDiff, Nat.reduceAdd, Nat.reduceSub, Nat.reduceMul, Int.reduceEq, Int.reduceLT, Int.reduceLE, Int.reduceNeg, Int.reduceAdd, Int.reduceSub, Int.reduceMul, Int.reduceToNat, reduceIte, reduceCtorEq, List.map_cons, List.map_nil]
    cases hsp : spares b (spreadL b true g) (q : Int) with
    | nil =>
      simp -implicitDefEqProofs only [go_sem, Nat.reduceLT, Nat.reduceLeDiff, Nat.reduceEqDiff, Nat.reduceAdd, Nat.reduceSub, Nat.reduceMul, Int.reduceEq, Int.reduceLT, Int.reduceLE, Int.reduceNeg, Int.reduceAdd, Int.reduceSub, Int.reduceMul, Int.reduceToNat, reduceIte, reduceCtorEq, List.map_cons, List.map_nil]
      exact fin_scal rfl (by simp [tightI, ec, h, ← hq1, tight_nil hsp])
    | cons k r =>
      obtain ⟨k0, k1, hb, hle, hlt, e, _⟩ := spare_at (b := b) (S := spreadL b true g) (p := q) (k := k) (by rw [hsp]; simp)
      have hpw := pow48 k0 k1
      have hq2 := tight_cons hsp hlt
      (repeat' (first | simp -implicitDefEqProofs only [e, go_sem, Nat.reduceLT, Nat.reduceLeDiff, Nat.reduceEqDiff, Nat.reduceAdd, Nat.reduceSub, Nat.reduceMul, Int.reduceEq, Int.reduceLT, Int.reduceLE, Int.reduceNeg, Int.reduceAdd, Int.reduceSub, Int.reduceMul, Int.reduceToNat, reduceIte, reduceCtorEq, List.map_cons, List.map_nil] | (refine And.intro ?_ ?_; omega) | (refine And.intro (shr_bd ?_ ?_) ?_; omega; omega) | refine sl_list rfl ?_ | refine sd_list rfl ?_ | refine sl_str ?_ | refine sd_str ?_))
      exact ⟨q - 2 ^ k.toNat, ⟨by omega, by rw [← hq2, hq1]⟩, by omega, weak_of (fun i => i) (fun i => i) rfl ⟨by simp [boxesR, listsR, csR, renC, keyC, optK, fnd, envR, St.get, keyPV, keyV1, renPV, renV1, hasKey, made_zero] <;> omega, by simp [boxesR, listsR, csR, renC, keyC, optK, fnd, envR, St.get, keyPV, keyV1, renPV, renV1, hasKey, made_zero] <;> omega, by simp [boxesR, listsR, csR, renC, keyC, optK, fnd, envR, St.get, keyPV, keyV1, renPV, renV1, hasKey, made_zero] <;> omega, by simp [boxesR, listsR, csR, renC, keyC, optK, fnd, envR, St.get, keyPV, keyV1, renPV, renV1, hasKey, made_zero] <;> omega, by simp [boxesR, listsR, csR, renC, keyC, optK, fnd, envR, St.get, keyPV, keyV1, renPV, renV1, hasKey, made_zero] <;> omega⟩ (by simp [boxesR, listsR, csR, renC, keyC, optK, fnd, envR, St.get, keyPV, keyV1, renPV, renV1, hasKey, made_zero] <;> omega)⟩
  · simp -implicitDefEqProofs only [h, go_sem, Nat.reduceLT, Nat.reduceLeDiff, Nat.reduceEqDiff, Nat.reduceAdd, Nat.reduceSub, Nat.reduceMul, Int.reduceEq, Int.reduceLT, Int.reduceLE, Int.reduceNeg, Int.reduceAdd, Int.reduceSub, Int.reduceMul, Int.reduceToNat, reduceIte, reduceCtorEq, List.map_cons, List.map_nil]
    exact fin_scal rfl (by simp [tightI, ec, h])
end Go.Proofs.Ytenfpjipeeolpaa
