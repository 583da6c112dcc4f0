/-
  The law on drawn tables where a jump is in time.
-/
import Derived.Test.YtenfpjipeeolpaaS9
import Derived.Test.YtenfpjipeeolpaaSZ
namespace Go.Proofs.Ytenfpjipeeolpaa
open Go.PL
set_option linter.unusedSimpArgs false
set_option maxRecDepth 20000 in
set_option maxHeartbeats 64000000 in
theorem lawTables_2 (bs : List Nat) (hbs : ∀ b ∈ bs, b ≤ 255) (hn : ¬ (1048576 : Int) < bs.length) (t : Tb) (D : DrawnT t) (pd : PC Try.prog 63 [] [.c (.l 1 (bs.map bV))] (.s (.a (tbL t))) ⟨[], []⟩) (a0 : Nat) (pa : PC Try.prog 57 [] [.c (.l 1 (bs.map bV)), .c (.v (.int .i64 ((0 : Nat) : Int)))] (vN a0) ⟨[], []⟩) (h0 : ¬ (jumpsOf t.g.x.b (nowOf t.g)).length = 0) (hle : (a0 : Int) % 30 ≤ t.c.a) : PC Try.prog 8 [] [.c (.l 1 (bs.map bV))] (vB true) ⟨[], []⟩ := by
  obtain ⟨a1, ha1, pb⟩ := at_ex bs hbs (by omega) 1 (by omega)
  have DG := drawnT_g D
  obtain ⟨r, P⟩ := game_pl DG
  obtain ⟨ok, _⟩ := drawnT_ok D
  have au := audit_all ok
  have hx' := P.px
  simp only [puzzleOk, Bool.and_eq_true] at hx'
  obtain ⟨hs, hps, hpg⟩ := hx'
  have s1 := pos_le hps
  have g1 := pos_le hpg
  have hlen := P.len
  have hh := DG.h
  have hr := D.r.len
  obtain ⟨k0, k1, k2, k3, k4, k5⟩ := D.c
  have ts : TbS t := ⟨⟨by omega, by omega⟩, by omega, by omega⟩
  have gi : GmIn t.g := ⟨ts.x, by omega⟩
  have gl := nowOf_le (g := t.g)
  have hb0 : ((1048576 : Int) < bs.length) = False := eq_false hn
  have jl := jumps_len (b := t.g.x.b) (p := nowOf t.g)
  obtain ⟨s, es⟩ : ∃ s : Nat, (a0 : Int) % 30 = s := ⟨a0 % 30, by omega⟩
  have hs2 : s ≤ 29 := by omega
  have ST := drawnT_step D
  have so : stepOk t = decide ((0 : Int) < (t.g.j.length : Int)) := by rw [ST.1]; simp
  have st := ST.2
  obtain ⟨C1, C2⟩ := drawnT_claim D
  have ask : ∀ Q : Prop, ((askOk t (s : Int) = true ∧ ((askT t (s : Int)).c.a = t.c.a - s - 10 + t.c.b) = True ∧ ((askT t (s : Int)).g.h = t.g.h + 1) = True) → Q) → (askOk t (s : Int) = false → Q) → Q := fun Q h1 h2 => by
    by_cases h : askOk t (s : Int) = true
    · obtain ⟨x, y⟩ := drawnT_ask h
      exact h1 ⟨h, eq_true x, eq_true y⟩
    · exact h2 (by simpa using h)
  have e0 : ((0 : Int) < ((jumpsOf t.g.x.b (nowOf t.g)).length : Int)) = True := eq_true (by omega)
  have hlt : a1 % (jumpsOf t.g.x.b (nowOf t.g)).length < (jumpsOf t.g.x.b (nowOf t.g)).length := Nat.mod_lt _ (by omega)
  have em : (a1 : Int) % ((jumpsOf t.g.x.b (nowOf t.g)).length : Int) = ((a1 % (jumpsOf t.g.x.b (nowOf t.g)).length : Nat) : Int) := (Int.natCast_emod _ _).symm
  have h1 := map_get (f := lineV) hlt
  have J := drawnT_play D (List.getElem_mem hlt) (s := (s : Int)) (by omega)
  generalize (jumpsOf t.g.x.b (nowOf t.g))[a1 % (jumpsOf t.g.x.b (nowOf t.g)).length] = l at h1 J
  have pl := playT_len (l := l) (s := (s : Int)) ts
  have px : (playT t l (s : Int)).g.x = t.g.x := by
    unfold playT
    split
    · exact makeG_x.1
    · rfl
  have ti : TbIn (playT t l (s : Int)) := ⟨⟨by rw [px]; exact ts.x, by omega⟩, by omega⟩
  rw [es] at hle
  have u0 : ((s : Int) ≤ t.c.a) = True := eq_true hle
  have u1 : playOk t l (s : Int) = true := by rw [J.1]; simpa using hle
  obtain ⟨u2, u3, u4⟩ := J.2 u1
  have u2 : ((playT t l (s : Int)).c.a = t.c.a - s + t.c.b) = True := eq_true u2
  apply ask
  · rintro ⟨q1, q2, q3⟩
    refine pc_of Try.func8 rfl (by kernel_rfl) _ Try.ntmps8 (by simp) ?_
    repeat' first
      | (first | simp -implicitDefEqProofs only [hb0, ok, au, es, so, st, e0, em, h1, hlt, lineV, u0, u1, u2, u3, u4, q1, q2, q3, Int.natCast_add, Int.natCast_one, go_sem, Nat.reduceLT, Nat.reduceLeDiff, Nat.reduceEqDiff, Nat.reduceAdd, Nat.reduceSub, Nat.reduceMul, Int.reduceEq, Int.reduceLT, Int.reduceLE, Int.reduceNeg, Int.reduceAdd, Int.reduceSub, Int.reduceMul, Int.reduceToNat, reduceIte, reduceCtorEq, List.map_cons, List.map_nil] | (refine And.intro ?_ ?_; omega) | (refine And.intro (shr_bd ?_ ?_) ?_; omega; omega) | refine sl_list rfl ?_ | refine sd_list rfl ?_ | refine sl_str ?_ | refine sd_str ?_)
      | refine callS (lawBig_c bs) rfl rfl rfl ?_
      | refine callV pd rfl rfl rfl ?_
      | refine callS (NowOf_c t.g gi) rfl rfl rfl ?_
      | refine callL1 (fun d => JumpsOf_c d t.g.x.b (nowOf t.g) gl) rfl rfl rfl ?_
      | refine callS (iTableOk_c t ts.tb) rfl rfl rfl ?_
      | refine callS (iAuditTable_c t ts.tb) rfl rfl rfl ?_
      | refine callS pa rfl rfl rfl ?_
      | refine callS pb rfl rfl rfl ?_
      | refine callL2 (fun d e h => iPlayJump_c d e h t l s ts) rfl rfl rfl ?_
      | refine callS (iAuditTable_c _ ti) rfl rfl rfl ?_
      | refine callL2 (fun d e h => iAskHint_c d e h t s ts) rfl rfl rfl ?_
      | refine callL2 (fun d e h => iStepBack_c d e h t ts) rfl rfl rfl ?_
      | refine ne_ckF (x := t.c) (by kernel_rfl) ?_
      | refine callL2 (fun d e h => iClaimRecord_c d e h t 900 5 ts) rfl rfl rfl ?_
      | refine callS (IsWon_c t.g gi) rfl rfl rfl ?_
    by_cases w : isWon t.g = true
    · by_cases z : t.g.h = 0
      · have z' : (t.g.h = 0) = True := eq_true z
        by_cases p : 0 < t.g.j.length
        · have k : claimOk t 900 5 = true := by rw [C1, w]; simp [z, p]
          have kl := C2 k
          have p' : ((0 : Int) < (t.g.j.length : Int)) = True := eq_true (by omega)
          repeat' first
            | (first | simp -implicitDefEqProofs only [w, z', p', k, kl, Int.natCast_add, Int.natCast_one, go_sem, Nat.reduceLT, Nat.reduceLeDiff, Nat.reduceEqDiff, Nat.reduceAdd, Nat.reduceSub, Nat.reduceMul, Int.reduceEq, Int.reduceLT, Int.reduceLE, Int.reduceNeg, Int.reduceAdd, Int.reduceSub, Int.reduceMul, Int.reduceToNat, reduceIte, reduceCtorEq, List.map_cons, List.map_nil] | (refine And.intro ?_ ?_; omega) | (refine And.intro (shr_bd ?_ ?_) ?_; omega; omega) | refine sl_list rfl ?_ | refine sd_list rfl ?_ | refine sl_str ?_ | refine sd_str ?_)
          exact fin_scal rfl rfl
        · have k : claimOk t 900 5 = false := by rw [C1, w]; simp [z, p]
          have p' : ((0 : Int) < (t.g.j.length : Int)) = False := eq_false (by omega)
          repeat' first
            | (first | simp -implicitDefEqProofs only [w, z', p', k, go_sem, Nat.reduceLT, Nat.reduceLeDiff, Nat.reduceEqDiff, Nat.reduceAdd, Nat.reduceSub, Nat.reduceMul, Int.reduceEq, Int.reduceLT, Int.reduceLE, Int.reduceNeg, Int.reduceAdd, Int.reduceSub, Int.reduceMul, Int.reduceToNat, reduceIte, reduceCtorEq, List.map_cons, List.map_nil] | (refine And.intro ?_ ?_; omega) | (refine And.intro (shr_bd ?_ ?_) ?_; omega; omega) | refine sl_list rfl ?_ | refine sd_list rfl ?_ | refine sl_str ?_ | refine sd_str ?_)
          exact fin_scal rfl rfl
      · have z' : (t.g.h = 0) = False := eq_false z
        have k : claimOk t 900 5 = false := by rw [C1, w]; simp [z]
        repeat' first
          | (first | simp -implicitDefEqProofs only [w, z', k, go_sem, Nat.reduceLT, Nat.reduceLeDiff, Nat.reduceEqDiff, Nat.reduceAdd, Nat.reduceSub, Nat.reduceMul, Int.reduceEq, Int.reduceLT, Int.reduceLE, Int.reduceNeg, Int.reduceAdd, Int.reduceSub, Int.reduceMul, Int.reduceToNat, reduceIte, reduceCtorEq, List.map_cons, List.map_nil] | (refine And.intro ?_ ?_; omega) | (refine And.intro (shr_bd ?_ ?_) ?_; omega; omega) | refine sl_list rfl ?_ | refine sd_list rfl ?_ | refine sl_str ?_ | refine sd_str ?_)
        exact fin_scal rfl rfl
    · have w : isWon t.g = false := by simpa using w
      have k : claimOk t 900 5 = false := by rw [C1, w]; rfl
      repeat' first
        | (first | simp -implicitDefEqProofs only [w, k, go_sem, Nat.reduceLT, Nat.reduceLeDiff, Nat.reduceEqDiff, Nat.reduceAdd, Nat.reduceSub, Nat.reduceMul, Int.reduceEq, Int.reduceLT, Int.reduceLE, Int.reduceNeg, Int.reduceAdd, Int.reduceSub, Int.reduceMul, Int.reduceToNat, reduceIte, reduceCtorEq, List.map_cons, List.map_nil] | (refine And.intro ?_ ?_; omega) | (refine And.intro (shr_bd ?_ ?_) ?_; omega; omega) | refine sl_list rfl ?_ | refine sd_list rfl ?_ | refine sl_str ?_ | refine sd_str ?_)
      exact fin_scal rfl rfl
  · intro q1
    refine pc_of Try.func8 rfl (by kernel_rfl) _ Try.ntmps8 (by simp) ?_
    repeat' first
      | (first | simp -implicitDefEqProofs only [hb0, ok, au, es, so, st, e0, em, h1, hlt, lineV, u0, u1, u2, u3, u4, q1, Int.natCast_add, Int.natCast_one, go_sem, Nat.reduceLT, Nat.reduceLeDiff, Nat.reduceEqDiff, Nat.reduceAdd, Nat.reduceSub, Nat.reduceMul, Int.reduceEq, Int.reduceLT, Int.reduceLE, Int.reduceNeg, Int.reduceAdd, Int.reduceSub, Int.reduceMul, Int.reduceToNat, reduceIte, reduceCtorEq, List.map_cons, List.map_nil] | (refine And.intro ?_ ?_; omega) | (refine And.intro (shr_bd ?_ ?_) ?_; omega; omega) | refine sl_list rfl ?_ | refine sd_list rfl ?_ | refine sl_str ?_ | refine sd_str ?_)
      | refine callS (lawBig_c bs) rfl rfl rfl ?_
      | refine callV pd rfl rfl rfl ?_
      | refine callS (NowOf_c t.g gi) rfl rfl rfl ?_
      | refine callL1 (fun d => JumpsOf_c d t.g.x.b (nowOf t.g) gl) rfl rfl rfl ?_
      | refine callS (iTableOk_c t ts.tb) rfl rfl rfl ?_
      | refine callS (iAuditTable_c t ts.tb) rfl rfl rfl ?_
      | refine callS pa rfl rfl rfl ?_
      | refine callS pb rfl rfl rfl ?_
      | refine callL2 (fun d e h => iPlayJump_c d e h t l s ts) rfl rfl rfl ?_
      | refine callS (iAuditTable_c _ ti) rfl rfl rfl ?_
      | refine callL2 (fun d e h => iAskHint_c d e h t s ts) rfl rfl rfl ?_
      | refine callL2 (fun d e h => iStepBack_c d e h t ts) rfl rfl rfl ?_
      | refine ne_ckF (x := t.c) (by kernel_rfl) ?_
      | refine callL2 (fun d e h => iClaimRecord_c d e h t 900 5 ts) rfl rfl rfl ?_
      | refine callS (IsWon_c t.g gi) rfl rfl rfl ?_
    by_cases w : isWon t.g = true
    · by_cases z : t.g.h = 0
      · have z' : (t.g.h = 0) = True := eq_true z
        by_cases p : 0 < t.g.j.length
        · have k : claimOk t 900 5 = true := by rw [C1, w]; simp [z, p]
          have kl := C2 k
          have p' : ((0 : Int) < (t.g.j.length : Int)) = True := eq_true (by omega)
          repeat' first
            | (first | simp -implicitDefEqProofs only [w, z', p', k, kl, Int.natCast_add, Int.natCast_one, go_sem, Nat.reduceLT, Nat.reduceLeDiff, Nat.reduceEqDiff, Nat.reduceAdd, Nat.reduceSub, Nat.reduceMul, Int.reduceEq, Int.reduceLT, Int.reduceLE, Int.reduceNeg, Int.reduceAdd, Int.reduceSub, Int.reduceMul, Int.reduceToNat, reduceIte, reduceCtorEq, List.map_cons, List.map_nil] | (refine And.intro ?_ ?_; omega) | (refine And.intro (shr_bd ?_ ?_) ?_; omega; omega) | refine sl_list rfl ?_ | refine sd_list rfl ?_ | refine sl_str ?_ | refine sd_str ?_)
          exact fin_scal rfl rfl
        · have k : claimOk t 900 5 = false := by rw [C1, w]; simp [z, p]
          have p' : ((0 : Int) < (t.g.j.length : Int)) = False := eq_false (by omega)
          repeat' first
            | (first | simp -implicitDefEqProofs only [w, z', p', k, go_sem, Nat.reduceLT, Nat.reduceLeDiff, Nat.reduceEqDiff, Nat.reduceAdd, Nat.reduceSub, Nat.reduceMul, Int.reduceEq, Int.reduceLT, Int.reduceLE, Int.reduceNeg, Int.reduceAdd, Int.reduceSub, Int.reduceMul, Int.reduceToNat, reduceIte, reduceCtorEq, List.map_cons, List.map_nil] | (refine And.intro ?_ ?_; omega) | (refine And.intro (shr_bd ?_ ?_) ?_; omega; omega) | refine sl_list rfl ?_ | refine sd_list rfl ?_ | refine sl_str ?_ | refine sd_str ?_)
          exact fin_scal rfl rfl
      · have z' : (t.g.h = 0) = False := eq_false z
        have k : claimOk t 900 5 = false := by rw [C1, w]; simp [z]
        repeat' first
          | (first | simp -implicitDefEqProofs only [w, z', k, go_sem, Nat.reduceLT, Nat.reduceLeDiff, Nat.reduceEqDiff, Nat.reduceAdd, Nat.reduceSub, Nat.reduceMul, Int.reduceEq, Int.reduceLT, Int.reduceLE, Int.reduceNeg, Int.reduceAdd, Int.reduceSub, Int.reduceMul, Int.reduceToNat, reduceIte, reduceCtorEq, List.map_cons, List.map_nil] | (refine And.intro ?_ ?_; omega) | (refine And.intro (shr_bd ?_ ?_) ?_; omega; omega) | refine sl_list rfl ?_ | refine sd_list rfl ?_ | refine sl_str ?_ | refine sd_str ?_)
        exact fin_scal rfl rfl
    · have w : isWon t.g = false := by simpa using w
      have k : claimOk t 900 5 = false := by rw [C1, w]; rfl
      repeat' first
        | (first | simp -implicitDefEqProofs only [w, k, go_sem, Nat.reduceLT, Nat.reduceLeDiff, Nat.reduceEqDiff, Nat.reduceAdd, Nat.reduceSub, Nat.reduceMul, Int.reduceEq, Int.reduceLT, Int.reduceLE, Int.reduceNeg, Int.reduceAdd, Int.reduceSub, Int.reduceMul, Int.reduceToNat, reduceIte, reduceCtorEq, List.map_cons, List.map_nil] | (refine And.intro ?_ ?_; omega) | (refine And.intro (shr_bd ?_ ?_) ?_; omega; omega) | refine sl_list rfl ?_ | refine sd_list rfl ?_ | refine sl_str ?_ | refine sd_str ?_)
      exact fin_scal rfl rfl
end Go.Proofs.Ytenfpjipeeolpaa
