/-
  The law on games drawn and played.
-/
import Derived.Test.YtenfpjipeeolpaaS5
import Derived.Test.YtenfpjipeeolpaaS4
namespace Go.Proofs.Ytenfpjipeeolpaa
open Go.PL
set_option linter.unusedSimpArgs false
set_option maxRecDepth 20000 in
set_option maxHeartbeats 32000000 in
theorem lawJournals_c (bs : List Nat) (hbs : ∀ b ∈ bs, b ≤ 255) : PC Try.prog 7 [] [.c (.l 1 (bs.map bV))] (vB true) ⟨[], []⟩ := by
  by_cases hn : (1048576 : Int) < bs.length
  · refine pc_of Try.func7 rfl (by kernel_rfl) _ Try.ntmps7 (by simp) ?_
    repeat' first
      | (first | simp -implicitDefEqProofs only [hn, go_sem, Nat.reduceLT, Nat.reduceLeDiff, Nat.reduceEqDiff, Nat.reduceAdd, Nat.reduceSub, Nat.reduceMul, Int.reduceEq, Int.reduceLT, Int.reduceLE, Int.reduceNeg, Int.reduceAdd, Int.reduceSub, Int.reduceMul, Int.reduceToNat, reduceIte, reduceCtorEq, List.map_cons, List.map_nil] | (refine And.intro ?_ ?_; omega) | (refine And.intro (shr_bd ?_ ?_) ?_; omega; omega) | refine sl_list rfl ?_ | refine sd_list rfl ?_ | refine sl_str ?_ | refine sd_str ?_)
      | refine callS (lawBig_c bs) rfl rfl rfl ?_
    exact fin_scal rfl rfl
  obtain ⟨g, D, pd⟩ := drawPlayed_ex ⟨bs, hbs, by omega⟩
  obtain ⟨r, P⟩ := game_pl D
  obtain ⟨a0, ha0, pa⟩ := at_ex bs hbs (by omega) 0 (by omega)
  have hx' := P.px
  simp only [puzzleOk, Bool.and_eq_true] at hx'
  obtain ⟨hs, hps, hpg⟩ := hx'
  have s1 := pos_le hps
  have g1 := pos_le hpg
  have r1 := pos_le P.pos
  have hlen := P.len
  have hh := D.h
  have hu := D.u
  have gi : GmIn g := ⟨⟨by omega, by omega⟩, by omega⟩
  have gl := nowOf_le (g := g)
  have hl := hintR_len (g := g) (by omega)
  have hb0 : ((1048576 : Int) < bs.length) = False := eq_false hn
  have ok := D.ok
  have nn : (nowOf g < 0) = False := eq_false (by rw [P.now]; omega)
  have won : isWon g = decide (nowOf g = g.x.g) := by simp [isWon, ok]
  have jl := jumps_len (b := g.x.b) (p := nowOf g)
  have ng : ∀ d, PC Try.prog 62 [] [.a (pzC g.x)] (.t [.a (gmC ⟨g.x, [], 0, 0⟩ (.o d)), .c (.v (.bool true))]) ⟨[], [(d, ⟨55, 3, [], false, true⟩)]⟩ := fun d => by
    have := iNewGame_c d g.x gi.x
    rw [show newPz g.x = g.x by simp [newPz, P.px], P.px] at this
    exact this
  have ni : GmIn (⟨g.x, [], 0, 0⟩ : Gm) := ⟨gi.x, by simp⟩
  have nw := new_now P.px
  have hl2 := nowOf_le (g := hintR g)
  have hin : (hintR g).x = g.x → GmIn (hintR g) := fun e => ⟨by rw [e]; exact gi.x, by omega⟩
  by_cases h0 : (jumpsOf g.x.b (nowOf g)).length = 0
  · have e0 : ((0 : Int) < ((jumpsOf g.x.b (nowOf g)).length : Int)) = False := eq_false (by omega)
    refine pc_of Try.func7 rfl (by kernel_rfl) _ Try.ntmps7 (by simp) ?_
    rcases hint_law D with H | ⟨H, H2⟩
    · have Hok := H.ok
      have Hr := H.rch
      have He := H.ne
      have Hh : ((hintR g).h = g.h + 1) = True := eq_true H.h
      have Hn := H.now
      have Hl := H.len
      repeat' first
        | (first | simp -implicitDefEqProofs only [hb0, ok, nn, won, nw, e0, Hok, Hr, He, Hh, Hn, Hl, Int.natCast_add, Int.natCast_one, go_sem, Nat.reduceLT, Nat.reduceLeDiff, Nat.reduceEqDiff, Nat.reduceAdd, Nat.reduceSub, Nat.reduceMul, Int.reduceEq, Int.reduceLT, Int.reduceLE, Int.reduceNeg, Int.reduceAdd, Int.reduceSub, Int.reduceMul, Int.reduceToNat, reduceIte, reduceCtorEq, List.map_cons, List.map_nil] | (refine And.intro ?_ ?_; omega) | (refine And.intro (shr_bd ?_ ?_) ?_; omega; omega) | refine sl_list rfl ?_ | refine sd_list rfl ?_ | refine sl_str ?_ | refine sd_str ?_)
        | refine callS (lawBig_c bs) rfl rfl rfl ?_
        | refine callV pd rfl rfl rfl ?_
        | refine callS (iNowOf_c g gi) rfl rfl rfl ?_
        | refine callL1 (fun d => JumpsOf_c d g.x.b (nowOf g) gl) rfl rfl rfl ?_
        | refine draw_step Try.pl_follows (by kernel_rfl) ?_
        | refine callD (iGameOk_c g gi) rfl rfl rfl ?_
        | refine callD (iIsWon_c g gi) rfl rfl rfl ?_
        | refine callL1 (fun d => iUseHint_c d g gi (by omega)) rfl rfl rfl ?_
        | refine callS (CanReach_c g.x.b (nowOf g) g.x.g gl (by omega)) rfl rfl rfl ?_
        | refine callL1 ng rfl rfl rfl ?_
        | refine callD (iNowOf_c ⟨g.x, [], 0, 0⟩ ni) rfl rfl rfl ?_
        | refine callD (iNowOf_c (hintR g) (hin H.x)) rfl rfl rfl ?_
        | refine callD (CanReach_c g.x.b (nowOf (hintR g)) g.x.g hl2 (by omega)) rfl rfl rfl ?_
      all_goals exact fin_scal rfl rfl
    · by_cases hc : canReach g.x.b (nowOf g) g.x.g = true
      · have he : nowOf g = g.x.g := Classical.byContradiction fun h => H2 ⟨hc, h⟩
        have he : (nowOf g = g.x.g) = True := eq_true he
        repeat' first
          | (first | simp -implicitDefEqProofs only [hb0, ok, nn, won, nw, e0, H, hc, he, Int.natCast_add, Int.natCast_one, go_sem, Nat.reduceLT, Nat.reduceLeDiff, Nat.reduceEqDiff, Nat.reduceAdd, Nat.reduceSub, Nat.reduceMul, Int.reduceEq, Int.reduceLT, Int.reduceLE, Int.reduceNeg, Int.reduceAdd, Int.reduceSub, Int.reduceMul, Int.reduceToNat, reduceIte, reduceCtorEq, List.map_cons, List.map_nil] | (refine And.intro ?_ ?_; omega) | (refine And.intro (shr_bd ?_ ?_) ?_; omega; omega) | refine sl_list rfl ?_ | refine sd_list rfl ?_ | refine sl_str ?_ | refine sd_str ?_)
          | refine callS (lawBig_c bs) rfl rfl rfl ?_
          | refine callV pd rfl rfl rfl ?_
          | refine callS (iNowOf_c g gi) rfl rfl rfl ?_
          | refine callL1 (fun d => JumpsOf_c d g.x.b (nowOf g) gl) rfl rfl rfl ?_
          | refine draw_step Try.pl_follows (by kernel_rfl) ?_
          | refine callD (iGameOk_c g gi) rfl rfl rfl ?_
          | refine callD (iIsWon_c g gi) rfl rfl rfl ?_
          | refine callL1 (fun d => iUseHint_c d g gi (by omega)) rfl rfl rfl ?_
          | refine callS (CanReach_c g.x.b (nowOf g) g.x.g gl (by omega)) rfl rfl rfl ?_
          | refine callL1 ng rfl rfl rfl ?_
          | refine callD (iNowOf_c ⟨g.x, [], 0, 0⟩ ni) rfl rfl rfl ?_
        all_goals exact fin_scal rfl rfl
      · have hc : canReach g.x.b (nowOf g) g.x.g = false := by simpa using hc
        repeat' first
          | (first | simp -implicitDefEqProofs only [hb0, ok, nn, won, nw, e0, H, hc, Int.natCast_add, Int.natCast_one, go_sem, Nat.reduceLT, Nat.reduceLeDiff, Nat.reduceEqDiff, Nat.reduceAdd, Nat.reduceSub, Nat.reduceMul, Int.reduceEq, Int.reduceLT, Int.reduceLE, Int.reduceNeg, Int.reduceAdd, Int.reduceSub, Int.reduceMul, Int.reduceToNat, reduceIte, reduceCtorEq, List.map_cons, List.map_nil] | (refine And.intro ?_ ?_; omega) | (refine And.intro (shr_bd ?_ ?_) ?_; omega; omega) | refine sl_list rfl ?_ | refine sd_list rfl ?_ | refine sl_str ?_ | refine sd_str ?_)
          | refine callS (lawBig_c bs) rfl rfl rfl ?_
          | refine callV pd rfl rfl rfl ?_
          | refine callS (iNowOf_c g gi) rfl rfl rfl ?_
          | refine callL1 (fun d => JumpsOf_c d g.x.b (nowOf g) gl) rfl rfl rfl ?_
          | refine draw_step Try.pl_follows (by kernel_rfl) ?_
          | refine callD (iGameOk_c g gi) rfl rfl rfl ?_
          | refine callD (iIsWon_c g gi) rfl rfl rfl ?_
          | refine callL1 (fun d => iUseHint_c d g gi (by omega)) rfl rfl rfl ?_
          | refine callS (CanReach_c g.x.b (nowOf g) g.x.g gl (by omega)) rfl rfl rfl ?_
          | refine callL1 ng rfl rfl rfl ?_
          | refine callD (iNowOf_c ⟨g.x, [], 0, 0⟩ ni) rfl rfl rfl ?_
        all_goals exact fin_scal rfl rfl
  · have e0 : ((0 : Int) < ((jumpsOf g.x.b (nowOf g)).length : Int)) = True := eq_true (by omega)
    have hlt : a0 % (jumpsOf g.x.b (nowOf g)).length < (jumpsOf g.x.b (nowOf g)).length := Nat.mod_lt _ (by omega)
    have em : (a0 : Int) % ((jumpsOf g.x.b (nowOf g)).length : Int) = ((a0 % (jumpsOf g.x.b (nowOf g)).length : Nat) : Int) := (Int.natCast_emod _ _).symm
    have h1 := map_get (f := lineV) hlt
    have J := jumped D (List.getElem_mem hlt)
    generalize (jumpsOf g.x.b (nowOf g))[a0 % (jumpsOf g.x.b (nowOf g)).length] = l at h1 J
    have ai : GmIn (addG g l) := addG_in gi (by omega)
    have al : (addG g l).j.length = g.j.length + 1 := by simp [addG]
    have bi : GmIn (⟨g.x, g.j, g.h, g.u + 1⟩ : Gm) := ⟨gi.x, gi.j⟩
    have m1 : ∀ d, PC Try.prog 58 [] [.a (gmL g), .a (lineC l)] (.t [.a (gmC (addG g l) (.o d)), .c (.v (.bool true))]) ⟨[], [(d, ⟨55, 3, (addG g l).j.map lineV, false, true⟩)]⟩ := fun d => by
      have := iMakeJump_c d g l gi (by omega)
      rwa [J.m2, J.m1] at this
    have m2 : ∀ d, PC Try.prog 59 [] [.a (gmL (addG g l))] (.t [.a (gmC ⟨g.x, g.j, g.h, g.u + 1⟩ (.o d)), .c (.v (.bool true))]) ⟨[], [(d, ⟨55, 3, g.j.map lineV, false, true⟩)]⟩ := fun d => by
      have := iTakeBack_c d (addG g l) ai (by omega)
      rwa [J.b2, J.b1] at this
    have jn := J.n1
    refine pc_of Try.func7 rfl (by kernel_rfl) _ Try.ntmps7 (by simp) ?_
    rcases hint_law D with H | ⟨H, H2⟩
    · have Hok := H.ok
      have Hr := H.rch
      have He := H.ne
      have Hh : ((hintR g).h = g.h + 1) = True := eq_true H.h
      have Hn := H.now
      have Hl := H.len
      repeat' first
        | (first | simp -implicitDefEqProofs only [hb0, ok, nn, won, nw, e0, em, h1, hlt, lineV, jn, al, Hok, Hr, He, Hh, Hn, Hl, Int.natCast_add, Int.natCast_one, go_sem, Nat.reduceLT, Nat.reduceLeDiff, Nat.reduceEqDiff, Nat.reduceAdd, Nat.reduceSub, Nat.reduceMul, Int.reduceEq, Int.reduceLT, Int.reduceLE, Int.reduceNeg, Int.reduceAdd, Int.reduceSub, Int.reduceMul, Int.reduceToNat, reduceIte, reduceCtorEq, List.map_cons, List.map_nil] | (refine And.intro ?_ ?_; omega) | (refine And.intro (shr_bd ?_ ?_) ?_; omega; omega) | refine sl_list rfl ?_ | refine sd_list rfl ?_ | refine sl_str ?_ | refine sd_str ?_)
        | refine callS (lawBig_c bs) rfl rfl rfl ?_
        | refine callV pd rfl rfl rfl ?_
        | refine callS (iNowOf_c g gi) rfl rfl rfl ?_
        | refine callL1 (fun d => JumpsOf_c d g.x.b (nowOf g) gl) rfl rfl rfl ?_
        | refine draw_step Try.pl_follows (by kernel_rfl) ?_
        | refine callD (iGameOk_c g gi) rfl rfl rfl ?_
        | refine callD (iIsWon_c g gi) rfl rfl rfl ?_
        | refine callS pa rfl rfl rfl ?_
        | refine callL1 m1 rfl rfl rfl ?_
        | refine callL1 m2 rfl rfl rfl ?_
        | refine callS (iNowOf_c ⟨g.x, g.j, g.h, g.u + 1⟩ bi) rfl rfl rfl ?_
        | refine callS (SameJumps_c g.j (by omega)) rfl rfl rfl ?_
        | refine callL1 (fun d => iUseHint_c d g gi (by omega)) rfl rfl rfl ?_
        | refine callS (CanReach_c g.x.b (nowOf g) g.x.g gl (by omega)) rfl rfl rfl ?_
        | refine callL1 ng rfl rfl rfl ?_
        | refine callD (iNowOf_c ⟨g.x, [], 0, 0⟩ ni) rfl rfl rfl ?_
        | refine callD (iNowOf_c (hintR g) (hin H.x)) rfl rfl rfl ?_
        | refine callD (CanReach_c g.x.b (nowOf (hintR g)) g.x.g hl2 (by omega)) rfl rfl rfl ?_
      all_goals exact fin_scal rfl rfl
    · by_cases hc : canReach g.x.b (nowOf g) g.x.g = true
      · have he : nowOf g = g.x.g := Classical.byContradiction fun h => H2 ⟨hc, h⟩
        have he : (nowOf g = g.x.g) = True := eq_true he
        repeat' first
          | (first | simp -implicitDefEqProofs only [hb0, ok, nn, won, nw, e0, em, h1, hlt, lineV, jn, al, H, hc, he, Int.natCast_add, Int.natCast_one, go_sem, Nat.reduceLT, Nat.reduceLeDiff, Nat.reduceEqDiff, Nat.reduceAdd, Nat.reduceSub, Nat.reduceMul, Int.reduceEq, Int.reduceLT, Int.reduceLE, Int.reduceNeg, Int.reduceAdd, Int.reduceSub, Int.reduceMul, Int.reduceToNat, reduceIte, reduceCtorEq, List.map_cons, List.map_nil] | (refine And.intro ?_ ?_; omega) | (refine And.intro (shr_bd ?_ ?_) ?_; omega; omega) | refine sl_list rfl ?_ | refine sd_list rfl ?_ | refine sl_str ?_ | refine sd_str ?_)
          | refine callS (lawBig_c bs) rfl rfl rfl ?_
          | refine callV pd rfl rfl rfl ?_
          | refine callS (iNowOf_c g gi) rfl rfl rfl ?_
          | refine callL1 (fun d => JumpsOf_c d g.x.b (nowOf g) gl) rfl rfl rfl ?_
          | refine draw_step Try.pl_follows (by kernel_rfl) ?_
          | refine callD (iGameOk_c g gi) rfl rfl rfl ?_
          | refine callD (iIsWon_c g gi) rfl rfl rfl ?_
          | refine callS pa rfl rfl rfl ?_
          | refine callL1 m1 rfl rfl rfl ?_
          | refine callL1 m2 rfl rfl rfl ?_
          | refine callS (iNowOf_c ⟨g.x, g.j, g.h, g.u + 1⟩ bi) rfl rfl rfl ?_
          | refine callS (SameJumps_c g.j (by omega)) rfl rfl rfl ?_
          | refine callL1 (fun d => iUseHint_c d g gi (by omega)) rfl rfl rfl ?_
          | refine callS (CanReach_c g.x.b (nowOf g) g.x.g gl (by omega)) rfl rfl rfl ?_
          | refine callL1 ng rfl rfl rfl ?_
          | refine callD (iNowOf_c ⟨g.x, [], 0, 0⟩ ni) rfl rfl rfl ?_
        all_goals exact fin_scal rfl rfl
      · have hc : canReach g.x.b (nowOf g) g.x.g = false := by simpa using hc
        repeat' first
          | (first | simp -implicitDefEqProofs only [hb0, ok, nn, won, nw, e0, em, h1, hlt, lineV, jn, al, H, hc, Int.natCast_add, Int.natCast_one, go_sem, Nat.reduceLT, Nat.reduceLeDiff, Nat.reduceEqDiff, Nat.reduceAdd, Nat.reduceSub, Nat.reduceMul, Int.reduceEq, Int.reduceLT, Int.reduceLE, Int.reduceNeg, Int.reduceAdd, Int.reduceSub, Int.reduceMul, Int.reduceToNat, reduceIte, reduceCtorEq, List.map_cons, List.map_nil] | (refine And.intro ?_ ?_; omega) | (refine And.intro (shr_bd ?_ ?_) ?_; omega; omega) | refine sl_list rfl ?_ | refine sd_list rfl ?_ | refine sl_str ?_ | refine sd_str ?_)
          | refine callS (lawBig_c bs) rfl rfl rfl ?_
          | refine callV pd rfl rfl rfl ?_
          | refine callS (iNowOf_c g gi) rfl rfl rfl ?_
          | refine callL1 (fun d => JumpsOf_c d g.x.b (nowOf g) gl) rfl rfl rfl ?_
          | refine draw_step Try.pl_follows (by kernel_rfl) ?_
          | refine callD (iGameOk_c g gi) rfl rfl rfl ?_
          | refine callD (iIsWon_c g gi) rfl rfl rfl ?_
          | refine callS pa rfl rfl rfl ?_
          | refine callL1 m1 rfl rfl rfl ?_
          | refine callL1 m2 rfl rfl rfl ?_
          | refine callS (iNowOf_c ⟨g.x, g.j, g.h, g.u + 1⟩ bi) rfl rfl rfl ?_
          | refine callS (SameJumps_c g.j (by omega)) rfl rfl rfl ?_
          | refine callL1 (fun d => iUseHint_c d g gi (by omega)) rfl rfl rfl ?_
          | refine callS (CanReach_c g.x.b (nowOf g) g.x.g gl (by omega)) rfl rfl rfl ?_
          | refine callL1 ng rfl rfl rfl ?_
          | refine callD (iNowOf_c ⟨g.x, [], 0, 0⟩ ni) rfl rfl rfl ?_
        all_goals exact fin_scal rfl rfl
theorem fnJournals.law_c {c : C} (h : TC (.l 1 false [.i .u8]) c) : PC Try.prog 7 [] [.c c] (vB true) ⟨[], []⟩ := by
  obtain ⟨bs, rfl, hb⟩ := lawBytes_of h
  exact lawJournals_c bs hb
end Go.Proofs.Ytenfpjipeeolpaa
