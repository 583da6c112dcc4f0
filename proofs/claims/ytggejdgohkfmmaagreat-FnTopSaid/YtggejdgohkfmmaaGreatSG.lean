/-
  The law on histories: the game is what its jumps make of the start, its key never changes, everything can be undone.
-/
import Derived.Test.YtggejdgohkfmmaaGreatSH
import Derived.Test.YtggejdgohkfmmaaGreatDA
import Derived.Test.YtggejdgohkfmmaaGreatSZ
import Derived.Test.YtggejdgohkfmmaaGreatP7
import Derived.Test.YtggejdgohkfmmaaGreatSY
namespace Go.Proofs.YtggejdgohkfmmaaGreat
open Go.PL
set_option linter.unusedSimpArgs false
set_option linter.unusedVariables false
theorem IsSol_c (b : Brd) (p q : Int) (ls : List Ln) (p2 : p ≤ 9223372036854775807) (hn : ls.length ≤ 1048576) : PC Tryz.prog 12 [] [.a (brdC b), .c (.v (.int .i64 p)), .c (.v (.int .i64 q)), .c (.l 3 (ls.map lineV))] (vB (isSol b p q ls)) ⟨[], []⟩ := by
  refine pc_of Tryz.func12 rfl (by kernel_rfl) _ Tryz.ntmps12 (by simp) ?_
  cases h : (playAll b p ls).isSome with
  | true =>
    repeat' first
      | (first | simp -implicitDefEqProofs only [h, go_sem] | (refine And.intro ?_ ?_; omega) | (refine And.intro (shr_bd ?_ ?_) ?_; omega; omega) | refine sl_list rfl ?_ | refine sd_list rfl ?_ | refine sl_str ?_ | refine sd_str ?_)
      | refine callS (PlayAll_c b p ls (by omega) (by omega)) rfl rfl rfl ?_
    exact fin_scal rfl (by simp [isSol, h])
  | false =>
    repeat' first
      | (first | simp -implicitDefEqProofs only [h, go_sem] | (refine And.intro ?_ ?_; omega) | (refine And.intro (shr_bd ?_ ?_) ?_; omega; omega) | refine sl_list rfl ?_ | refine sd_list rfl ?_ | refine sl_str ?_ | refine sd_str ?_)
      | refine callS (PlayAll_c b p ls (by omega) (by omega)) rfl rfl rfl ?_
    exact fin_scal rfl (by simp [isSol, h])
/-- what the law needs of a valid table, with positions acs natural numbers -/
structure TopN (t : Tb) (s p : Nat) : Prop where
  st : t.g.x.s = s
  now : nowOf t.g = p
  ps : positionOk t.g.x.b (s : Int) = true
  pos : positionOk t.g.x.b (p : Int) = true
  sol : isSol t.g.x.b (s : Int) (p : Int) t.g.j = true
  key : sameKey t.g.x.b (s : Int) (p : Int) = true
  cnt : (pegs p : Int) = (pegs s : Int) - (t.g.j.length : Int)
  aud : auditOk t = true
  und : undoAll t.g.x.b (p : Int) t.g.j = some (s : Int)
  len : t.g.j.length ≤ 60
  h : 0 ≤ t.g.h ∧ t.g.h ≤ 1000
theorem topN {t : Tb} (ht : tableOk t = true) : ∃ s p : Nat, TopN t s p := by
  obtain ⟨p, P⟩ := gameT ht
  have Q := topAt ht P
  obtain ⟨_, s0, _⟩ := pos_sub P.ps
  obtain ⟨_, p0, _⟩ := pos_sub P.pos
  obtain ⟨sn, es⟩ : ∃ n : Nat, t.g.x.s = n := ⟨t.g.x.s.toNat, by omega⟩
  obtain ⟨pn, ep⟩ : ∃ n : Nat, p = n := ⟨p.toNat, by omega⟩
  subst ep
  have a1 := P.ps
  have a2 := Q.sol
  have a3 := Q.key
  have a4 := Q.cnt
  have a5 := Q.und
  rw [es] at a1 a2 a3 a4 a5
  rw [Int.toNat_natCast, Int.toNat_natCast] at a4
  exact ⟨sn, pn, es, P.now, a1, P.pos, a2, a3, a4, Q.aud, a5, P.len, P.h⟩
theorem runT_x {t : Tb} {l : List Ac} : (runT t l).g.x = t.g.x := by
  induction l generalizing t with
  | nil => rfl
  | cons a l ih => simp only [runT]; rw [ih, doT_x]
set_option maxRecDepth 20000 in
set_option maxHeartbeats 64000000 in
theorem lawTop_c (bs : List Nat) (hbs : ∀ b ∈ bs, b ≤ 255) : PC Tryz.prog 3 [] [.c (.l 1 (bs.map bV))] (vB true) ⟨[], []⟩ := by
  by_cases hn : (1048576 : Int) < bs.length
  · refine pc_of Tryz.func3 rfl (by kernel_rfl) _ Tryz.ntmps3 (by simp) ?_
    repeat' first
      | (first | simp -implicitDefEqProofs only [hn, go_sem] | (refine And.intro ?_ ?_; omega) | (refine And.intro (shr_bd ?_ ?_) ?_; omega; omega) | refine sl_list rfl ?_ | refine sd_list rfl ?_ | refine sl_str ?_ | refine sd_str ?_)
      | refine callS (lawBig_c bs) rfl rfl rfl ?_
    exact fin_scal rfl rfl
  obtain ⟨t, acs, ⟨ht, hl, _⟩, pd⟩ := drawActs_ex ⟨bs, hbs, by omega⟩
  have hb0 : ((1048576 : Int) < bs.length) = False := eq_false hn
  obtain ⟨s, p0, N0⟩ := topN ht
  have s1 := pos_le N0.ps
  have hg1 := (tbS_of ht).x.2
  refine pc_of Tryz.func3 rfl (by kernel_rfl) _ Tryz.ntmps3 (by simp) ?_
  repeat' first
    | (first | simp -implicitDefEqProofs only [hb0, go_sem] | (refine And.intro ?_ ?_; omega) | (refine And.intro (shr_bd ?_ ?_) ?_; omega; omega) | refine sl_list rfl ?_ | refine sd_list rfl ?_ | refine sl_str ?_ | refine sd_str ?_)
    | refine callS (lawBig_c bs) rfl rfl rfl ?_
    | refine callV pd rfl rfl rfl ?_
  refine loop_step (X := Nat) (fun i => ⟨217, [(3, .s (.c (.p 3 0))), (4, vL 3 (acs.map actV)), (5, vN t.g.x.s), (6, .s (.c (.p 6 0))), (7, vN (runT t (acs.take i)).g.h), (8, vN i)], ⟨[(3, tbL (runT t (acs.take i))), (6, brdC t.g.x.b)], []⟩⟩)
    (fun i => i ≤ acs.length) (fun i => acs.length - i) 0 (by omega) (weak_of (fun i => i) (fun i => i) rfl ⟨by simp [boxesR, listsR, csR, renC, keyC, optK, fnd, envR, St.get, keyPV, keyV1, renPV, renV1, hasKey, made_zero, runT] <;> omega, by simp [boxesR, listsR, csR, renC, keyC, optK, fnd, envR, St.get, keyPV, keyV1, renPV, renV1, hasKey, made_zero, runT] <;> omega, by simp [boxesR, listsR, csR, renC, keyC, optK, fnd, envR, St.get, keyPV, keyV1, renPV, renV1, hasKey, made_zero, runT] <;> omega, by simp [boxesR, listsR, csR, renC, keyC, optK, fnd, envR, St.get, keyPV, keyV1, renPV, renV1, hasKey, made_zero, runT] <;> omega, by simp [boxesR, listsR, csR, renC, keyC, optK, fnd, envR, St.get, keyPV, keyV1, renPV, renV1, hasKey, made_zero, runT] <;> omega⟩ (by simp [boxesR, listsR, csR, renC, keyC, optK, fnd, envR, St.get, keyPV, keyV1, renPV, renV1, hasKey, made_zero, runT] <;> omega)) (fun i hi => ?_)
  have hT := runT_ok (l := acs.take i) ht
  have tS := tbS_of hT
  have ex := runT_x (t := t) (l := acs.take i)
  obtain ⟨s', p, N⟩ := topN hT
  have es : s' = s := by have := N.st; rw [ex, N0.st] at this; omega
  subst es
  have xb : (runT t (acs.take i)).g.x.b = t.g.x.b := by rw [ex]
  have xg : (runT t (acs.take i)).g.x.g = t.g.x.g := by rw [ex]
  have xs : t.g.x.s = (s' : Int) := N0.st
  by_cases hlt : i < acs.length
  · have e0 : ((i : Int) < acs.length) = True := eq_true (by omega)
    have g1 := map_get (f := actV) hlt
    have n1 := runT_next (t := t) hlt
    have hT' := doT_ok (a := acs[i]) hT
    have tS' := tbS_of hT'
    have ex' := doT_x (t := runT t (acs.take i)) (a := acs[i])
    rw [ex] at ex'
    have dh := doT_h (t := runT t (acs.take i)) (a := acs[i])
    have hr := hint_reach (t := runT t (acs.take i)) (a := acs[i]) hT
    rw [xb] at hr
    have hg2 := tS.x.2
    obtain ⟨s2, q, M⟩ := topN hT'
    have es2 : s2 = s' := by have := M.st; rw [ex', N0.st] at this; omega
    subst es2
    have xb' : (doT (runT t (acs.take i)) acs[i]).g.x.b = t.g.x.b := by rw [ex']
    have hNh := N.h
    have hMlen := M.len
    have q1 := pos_le M.pos
    have m1 := M.now
    have m2 := M.ps
    have m3 := M.pos
    have m4 := M.sol
    have m5 := M.key
    have m6 := M.cnt
    have m7 := M.aud
    rw [xb'] at m2 m3 m4 m5
    rw [m1] at hr
    have m6' : ((pegs q : Int) = (pegs s2 : Int) - ((doT (runT t (acs.take i)) acs[i]).g.j.length : Int)) = True := eq_true m6
    have pq : pegs q ≤ 49 := cardN_le
    have ps : pegs s2 ≤ 49 := cardN_le
    have gT' : GmIn (doT (runT t (acs.take i)) acs[i]).g := tS'.tb.g
    have four : ∀ Q : Prop, ((acs[i].k = 2) = True → (doN (runT t (acs.take i)) acs[i] = 1) = True → (doT (runT t (acs.take i)) acs[i]).g.h = (runT t (acs.take i)).g.h + 1 → canReach t.g.x.b (q : Int) (runT t (acs.take i)).g.x.g = true → Q) →
        ((acs[i].k = 2) = True → (doN (runT t (acs.take i)) acs[i] = 1) = False → (doT (runT t (acs.take i)) acs[i]).g.h = (runT t (acs.take i)).g.h → True → Q) →
        ((acs[i].k = 2) = False → True → (doT (runT t (acs.take i)) acs[i]).g.h = (runT t (acs.take i)).g.h → True → Q) → Q := fun Q x y z => by
      by_cases k2 : acs[i].k = 2
      · by_cases n2 : doN (runT t (acs.take i)) acs[i] = 1
        · exact x (eq_true k2) (eq_true n2) (by rw [dh, if_pos ⟨k2, n2⟩]) (hr k2 n2)
        · exact y (eq_true k2) (eq_false n2) (by rw [dh, if_neg (fun h => n2 h.2)]) trivial
      · exact z (eq_false k2) trivial (by rw [dh, if_neg (fun h => k2 h.1)]) trivial
    have dI := fun d e h => iDoAct_c d e h (runT t (acs.take i)) acs[i] tS
    have dS := fun d e h => DoAct_c d e h (runT t (acs.take i)) acs[i] tS
    generalize doN (runT t (acs.take i)) acs[i] = nn at *
    generalize doT (runT t (acs.take i)) acs[i] = T' at *
    generalize acs[i] = a at *
    generalize runT t (acs.take i) = T at *
    apply four
    · intro kk nn hh rr
      repeat' first
        | (first | simp -implicitDefEqProofs only [e0, g1, hlt, actV, kk, nn, rr, hT', m1, m4, m5, m6', m7, xs, go_sem] | (refine And.intro ?_ ?_; omega) | (refine And.intro (shr_bd ?_ ?_) ?_; omega; omega) | refine sl_list rfl ?_ | refine sd_list rfl ?_ | refine sl_str ?_ | refine sd_str ?_)
        | refine draw_stepY Tryz.pl_follows (by kernel_rfl) ?_
        | refine callL2 dI rfl rfl rfl ?_
        | refine callL2 dS rfl rfl rfl ?_
        | refine callS (iTableOk_c T' tS'.tb) rfl rfl rfl ?_
        | refine callS (iAuditTable_c T' tS'.tb) rfl rfl rfl ?_
        | refine callS (SameJumps_c T'.g.j (by omega)) rfl rfl rfl ?_
        | refine ne_ckF (x := T'.c) (by kernel_rfl) ?_
        | refine callS (iNowOf_c T'.g gT') rfl rfl rfl ?_
        | refine callS (IsSol_c t.g.x.b (s2 : Int) (q : Int) T'.g.j (by omega) (by omega)) rfl rfl rfl ?_
        | refine callS (iSameKey_c t.g.x.b (s2 : Int) (q : Int) m2 m3) rfl rfl rfl ?_
        | refine callS (CountPegs_c t.g.x.b q m3 (by omega)) rfl rfl rfl ?_
        | refine callS (CountPegs_c t.g.x.b s2 m2 (by omega)) rfl rfl rfl ?_
        | refine callS (CanReach_c t.g.x.b (s2 : Int) T.g.x.g (by omega) (by omega)) rfl rfl rfl ?_
        | refine callS (CanReach_c t.g.x.b (q : Int) T.g.x.g (by omega) (by omega)) rfl rfl rfl ?_
      cases hcr : canReach t.g.x.b (s2 : Int) T.g.x.g
      all_goals
        repeat' first
          | (first | simp -implicitDefEqProofs only [e0, g1, hlt, actV, kk, nn, rr, hT', m1, m4, m5, m6', m7, xs, go_sem] | (refine And.intro ?_ ?_; omega) | (refine And.intro (shr_bd ?_ ?_) ?_; omega; omega) | refine sl_list rfl ?_ | refine sd_list rfl ?_ | refine sl_str ?_ | refine sd_str ?_)
          | refine draw_stepY Tryz.pl_follows (by kernel_rfl) ?_
          | refine callL2 dI rfl rfl rfl ?_
          | refine callL2 dS rfl rfl rfl ?_
          | refine callS (iTableOk_c T' tS'.tb) rfl rfl rfl ?_
          | refine callS (iAuditTable_c T' tS'.tb) rfl rfl rfl ?_
          | refine callS (SameJumps_c T'.g.j (by omega)) rfl rfl rfl ?_
          | refine ne_ckF (x := T'.c) (by kernel_rfl) ?_
          | refine callS (iNowOf_c T'.g gT') rfl rfl rfl ?_
          | refine callS (IsSol_c t.g.x.b (s2 : Int) (q : Int) T'.g.j (by omega) (by omega)) rfl rfl rfl ?_
          | refine callS (iSameKey_c t.g.x.b (s2 : Int) (q : Int) m2 m3) rfl rfl rfl ?_
          | refine callS (CountPegs_c t.g.x.b q m3 (by omega)) rfl rfl rfl ?_
          | refine callS (CountPegs_c t.g.x.b s2 m2 (by omega)) rfl rfl rfl ?_
          | refine callS (CanReach_c t.g.x.b (s2 : Int) T.g.x.g (by omega) (by omega)) rfl rfl rfl ?_
          | refine callS (CanReach_c t.g.x.b (q : Int) T.g.x.g (by omega) (by omega)) rfl rfl rfl ?_
      all_goals exact ⟨i + 1, by omega, by omega, weak_see [55, 1055] (by simp -implicitDefEqProofs only [go_sem]; exact weak_of (fun i => i) (fun i => i) rfl ⟨by simp [boxesR, listsR, csR, renC, keyC, optK, fnd, envR, St.get, keyPV, keyV1, renPV, renV1, hasKey, made_zero, n1, hh, xs] <;> omega, by simp [boxesR, listsR, csR, renC, keyC, optK, fnd, envR, St.get, keyPV, keyV1, renPV, renV1, hasKey, made_zero, n1, hh, xs] <;> omega, by simp [boxesR, listsR, csR, renC, keyC, optK, fnd, envR, St.get, keyPV, keyV1, renPV, renV1, hasKey, made_zero, n1, hh, xs] <;> omega, by simp [boxesR, listsR, csR, renC, keyC, optK, fnd, envR, St.get, keyPV, keyV1, renPV, renV1, hasKey, made_zero, n1, hh, xs] <;> omega, by simp [boxesR, listsR, csR, renC, keyC, optK, fnd, envR, St.get, keyPV, keyV1, renPV, renV1, hasKey, made_zero, n1, hh, xs] <;> omega⟩ (by simp [boxesR, listsR, csR, renC, keyC, optK, fnd, envR, St.get, keyPV, keyV1, renPV, renV1, hasKey, made_zero, n1, hh, xs] <;> omega))⟩
    · intro kk nn hh _
      repeat' first
        | (first | simp -implicitDefEqProofs only [e0, g1, hlt, actV, kk, nn, hT', m1, m4, m5, m6', m7, xs, go_sem] | (refine And.intro ?_ ?_; omega) | (refine And.intro (shr_bd ?_ ?_) ?_; omega; omega) | refine sl_list rfl ?_ | refine sd_list rfl ?_ | refine sl_str ?_ | refine sd_str ?_)
        | refine draw_stepY Tryz.pl_follows (by kernel_rfl) ?_
        | refine callL2 dI rfl rfl rfl ?_
        | refine callL2 dS rfl rfl rfl ?_
        | refine callS (iTableOk_c T' tS'.tb) rfl rfl rfl ?_
        | refine callS (iAuditTable_c T' tS'.tb) rfl rfl rfl ?_
        | refine callS (SameJumps_c T'.g.j (by omega)) rfl rfl rfl ?_
        | refine ne_ckF (x := T'.c) (by kernel_rfl) ?_
        | refine callS (iNowOf_c T'.g gT') rfl rfl rfl ?_
        | refine callS (IsSol_c t.g.x.b (s2 : Int) (q : Int) T'.g.j (by omega) (by omega)) rfl rfl rfl ?_
        | refine callS (iSameKey_c t.g.x.b (s2 : Int) (q : Int) m2 m3) rfl rfl rfl ?_
        | refine callS (CountPegs_c t.g.x.b q m3 (by omega)) rfl rfl rfl ?_
        | refine callS (CountPegs_c t.g.x.b s2 m2 (by omega)) rfl rfl rfl ?_
        | refine callS (CanReach_c t.g.x.b (s2 : Int) T.g.x.g (by omega) (by omega)) rfl rfl rfl ?_
      cases hcr : canReach t.g.x.b (s2 : Int) T.g.x.g
      all_goals
        repeat' first
          | (first | simp -implicitDefEqProofs only [e0, g1, hlt, actV, kk, nn, hT', m1, m4, m5, m6', m7, xs, go_sem] | (refine And.intro ?_ ?_; omega) | (refine And.intro (shr_bd ?_ ?_) ?_; omega; omega) | refine sl_list rfl ?_ | refine sd_list rfl ?_ | refine sl_str ?_ | refine sd_str ?_)
          | refine draw_stepY Tryz.pl_follows (by kernel_rfl) ?_
          | refine callL2 dI rfl rfl rfl ?_
          | refine callL2 dS rfl rfl rfl ?_
          | refine callS (iTableOk_c T' tS'.tb) rfl rfl rfl ?_
          | refine callS (iAuditTable_c T' tS'.tb) rfl rfl rfl ?_
          | refine callS (SameJumps_c T'.g.j (by omega)) rfl rfl rfl ?_
          | refine ne_ckF (x := T'.c) (by kernel_rfl) ?_
          | refine callS (iNowOf_c T'.g gT') rfl rfl rfl ?_
          | refine callS (IsSol_c t.g.x.b (s2 : Int) (q : Int) T'.g.j (by omega) (by omega)) rfl rfl rfl ?_
          | refine callS (iSameKey_c t.g.x.b (s2 : Int) (q : Int) m2 m3) rfl rfl rfl ?_
          | refine callS (CountPegs_c t.g.x.b q m3 (by omega)) rfl rfl rfl ?_
          | refine callS (CountPegs_c t.g.x.b s2 m2 (by omega)) rfl rfl rfl ?_
          | refine callS (CanReach_c t.g.x.b (s2 : Int) T.g.x.g (by omega) (by omega)) rfl rfl rfl ?_
      all_goals exact ⟨i + 1, by omega, by omega, weak_see [55, 1055] (by simp -implicitDefEqProofs only [go_sem]; exact weak_of (fun i => i) (fun i => i) rfl ⟨by simp [boxesR, listsR, csR, renC, keyC, optK, fnd, envR, St.get, keyPV, keyV1, renPV, renV1, hasKey, made_zero, n1, hh, xs] <;> omega, by simp [boxesR, listsR, csR, renC, keyC, optK, fnd, envR, St.get, keyPV, keyV1, renPV, renV1, hasKey, made_zero, n1, hh, xs] <;> omega, by simp [boxesR, listsR, csR, renC, keyC, optK, fnd, envR, St.get, keyPV, keyV1, renPV, renV1, hasKey, made_zero, n1, hh, xs] <;> omega, by simp [boxesR, listsR, csR, renC, keyC, optK, fnd, envR, St.get, keyPV, keyV1, renPV, renV1, hasKey, made_zero, n1, hh, xs] <;> omega, by simp [boxesR, listsR, csR, renC, keyC, optK, fnd, envR, St.get, keyPV, keyV1, renPV, renV1, hasKey, made_zero, n1, hh, xs] <;> omega⟩ (by simp [boxesR, listsR, csR, renC, keyC, optK, fnd, envR, St.get, keyPV, keyV1, renPV, renV1, hasKey, made_zero, n1, hh, xs] <;> omega))⟩
    · intro kk _ hh _
      repeat' first
        | (first | simp -implicitDefEqProofs only [e0, g1, hlt, actV, kk, hT', m1, m4, m5, m6', m7, xs, go_sem] | (refine And.intro ?_ ?_; omega) | (refine And.intro (shr_bd ?_ ?_) ?_; omega; omega) | refine sl_list rfl ?_ | refine sd_list rfl ?_ | refine sl_str ?_ | refine sd_str ?_)
        | refine draw_stepY Tryz.pl_follows (by kernel_rfl) ?_
        | refine callL2 dI rfl rfl rfl ?_
        | refine callL2 dS rfl rfl rfl ?_
        | refine callS (iTableOk_c T' tS'.tb) rfl rfl rfl ?_
        | refine callS (iAuditTable_c T' tS'.tb) rfl rfl rfl ?_
        | refine callS (SameJumps_c T'.g.j (by omega)) rfl rfl rfl ?_
        | refine ne_ckF (x := T'.c) (by kernel_rfl) ?_
        | refine callS (iNowOf_c T'.g gT') rfl rfl rfl ?_
        | refine callS (IsSol_c t.g.x.b (s2 : Int) (q : Int) T'.g.j (by omega) (by omega)) rfl rfl rfl ?_
        | refine callS (iSameKey_c t.g.x.b (s2 : Int) (q : Int) m2 m3) rfl rfl rfl ?_
        | refine callS (CountPegs_c t.g.x.b q m3 (by omega)) rfl rfl rfl ?_
        | refine callS (CountPegs_c t.g.x.b s2 m2 (by omega)) rfl rfl rfl ?_
        | refine callS (CanReach_c t.g.x.b (s2 : Int) T.g.x.g (by omega) (by omega)) rfl rfl rfl ?_
      cases hcr : canReach t.g.x.b (s2 : Int) T.g.x.g
      all_goals
        repeat' first
          | (first | simp -implicitDefEqProofs only [e0, g1, hlt, actV, kk, hT', m1, m4, m5, m6', m7, xs, go_sem] | (refine And.intro ?_ ?_; omega) | (refine And.intro (shr_bd ?_ ?_) ?_; omega; omega) | refine sl_list rfl ?_ | refine sd_list rfl ?_ | refine sl_str ?_ | refine sd_str ?_)
          | refine draw_stepY Tryz.pl_follows (by kernel_rfl) ?_
          | refine callL2 dI rfl rfl rfl ?_
          | refine callL2 dS rfl rfl rfl ?_
          | refine callS (iTableOk_c T' tS'.tb) rfl rfl rfl ?_
          | refine callS (iAuditTable_c T' tS'.tb) rfl rfl rfl ?_
          | refine callS (SameJumps_c T'.g.j (by omega)) rfl rfl rfl ?_
          | refine ne_ckF (x := T'.c) (by kernel_rfl) ?_
          | refine callS (iNowOf_c T'.g gT') rfl rfl rfl ?_
          | refine callS (IsSol_c t.g.x.b (s2 : Int) (q : Int) T'.g.j (by omega) (by omega)) rfl rfl rfl ?_
          | refine callS (iSameKey_c t.g.x.b (s2 : Int) (q : Int) m2 m3) rfl rfl rfl ?_
          | refine callS (CountPegs_c t.g.x.b q m3 (by omega)) rfl rfl rfl ?_
          | refine callS (CountPegs_c t.g.x.b s2 m2 (by omega)) rfl rfl rfl ?_
          | refine callS (CanReach_c t.g.x.b (s2 : Int) T.g.x.g (by omega) (by omega)) rfl rfl rfl ?_
      all_goals exact ⟨i + 1, by omega, by omega, weak_see [55, 1055] (by simp -implicitDefEqProofs only [go_sem]; exact weak_of (fun i => i) (fun i => i) rfl ⟨by simp [boxesR, listsR, csR, renC, keyC, optK, fnd, envR, St.get, keyPV, keyV1, renPV, renV1, hasKey, made_zero, n1, hh, xs] <;> omega, by simp [boxesR, listsR, csR, renC, keyC, optK, fnd, envR, St.get, keyPV, keyV1, renPV, renV1, hasKey, made_zero, n1, hh, xs] <;> omega, by simp [boxesR, listsR, csR, renC, keyC, optK, fnd, envR, St.get, keyPV, keyV1, renPV, renV1, hasKey, made_zero, n1, hh, xs] <;> omega, by simp [boxesR, listsR, csR, renC, keyC, optK, fnd, envR, St.get, keyPV, keyV1, renPV, renV1, hasKey, made_zero, n1, hh, xs] <;> omega, by simp [boxesR, listsR, csR, renC, keyC, optK, fnd, envR, St.get, keyPV, keyV1, renPV, renV1, hasKey, made_zero, n1, hh, xs] <;> omega⟩ (by simp [boxesR, listsR, csR, renC, keyC, optK, fnd, envR, St.get, keyPV, keyV1, renPV, renV1, hasKey, made_zero, n1, hh, xs] <;> omega))⟩
  · have e0 : ((i : Int) < acs.length) = False := eq_false (by omega)
    have m1 := N.now
    have m2 := N.und
    have m7 := N.aud
    rw [xb] at m2
    have u1 : (undoAll t.g.x.b (p : Int) (runT t (acs.take i)).g.j).isSome = true := by rw [m2]; rfl
    have u2 : undoAI t.g.x.b (p : Int) (runT t (acs.take i)).g.j = (s' : Int) := by simp [undoAI, m2]
    have q1 := pos_le N.pos
    have hlen := N.len
    have gT : GmIn (runT t (acs.take i)).g := tS.tb.g
    repeat' first
      | (first | simp -implicitDefEqProofs only [e0, m1, m7, u1, u2, xs, go_sem] | (refine And.intro ?_ ?_; omega) | (refine And.intro (shr_bd ?_ ?_) ?_; omega; omega) | refine sl_list rfl ?_ | refine sd_list rfl ?_ | refine sl_str ?_ | refine sd_str ?_)
      | refine draw_stepY Tryz.pl_follows (by kernel_rfl) ?_
      | refine callS (iNowOf_c (runT t (acs.take i)).g gT) rfl rfl rfl ?_
      | refine callS (iUndoAll_c t.g.x.b (p : Int) (runT t (acs.take i)).g.j (by omega) (by omega)) rfl rfl rfl ?_
      | refine callS (iAuditTable_c (runT t (acs.take i)) tS.tb) rfl rfl rfl ?_
    all_goals exact fin_scal rfl rfl
theorem fnTop.law_c {c : C} (h : TC (.l 1 false [.i .u8]) c) : PC Tryz.prog 3 [] [.c c] (vB true) ⟨[], []⟩ := by
  obtain ⟨bs, rfl, hb⟩ := lawBytes_of h
  exact lawTop_c bs hb
end Go.Proofs.YtggejdgohkfmmaaGreat
