/-
  The law of sweeps.
-/
import Derived.Test.YtahnbliabllflaaWb
import Derived.Test.YtahnbliabllflaaWc
import Derived.Test.YtahnbliabllflaaSZ
namespace Go.Proofs.Ytahnbliabllflaa
open Go.PL
set_option linter.unusedSimpArgs false
set_option linter.unusedVariables false
theorem wIsSol_c (b : Brd) (p q : Int) (ls : List Ln) (p2 : p ≤ 9223372036854775807) (hn : ls.length ≤ 1048576) : PC Try.prog 12 [] [.a (brdC b), .c (.v (.int .i64 p)), .c (.v (.int .i64 q)), .c (.l 3 (ls.map lineV))] (vB ((playAll b p ls).isSome && decide (playI b p ls = q))) ⟨[], []⟩ := by
  refine pc_of Try.func12 rfl (by kernel_rfl) _ Try.ntmps12 (by simp) ?_
  cases h : (playAll b p ls).isSome with
  | true =>
    repeat' first
      | (first | simp -implicitDefEqProofs only [h, go_sem] | (refine And.intro ?_ ?_; omega) | (refine And.intro (shr_bd ?_ ?_) ?_; omega; omega) | refine sl_list rfl ?_ | refine sd_list rfl ?_ | refine sl_str ?_ | refine sd_str ?_)
      | refine callS (PlayAll_c b p ls (by omega) (by omega)) rfl rfl rfl ?_
    exact fin_scal rfl (by simp [h])
  | false =>
    repeat' first
      | (first | simp -implicitDefEqProofs only [h, go_sem] | (refine And.intro ?_ ?_; omega) | (refine And.intro (shr_bd ?_ ?_) ?_; omega; omega) | refine sl_list rfl ?_ | refine sd_list rfl ?_ | refine sl_str ?_ | refine sd_str ?_)
      | refine callS (PlayAll_c b p ls (by omega) (by omega)) rfl rfl rfl ?_
    exact fin_scal rfl (by simp [h])
def zeroL : Ln := ⟨0, 0, 0⟩
theorem one_c : PC Try.prog 10 [] [.c (.l 3 ([zeroL].map lineV))] (vB true) ⟨[], []⟩ := IsOneSweep_c [zeroL] (by simp)
theorem few_self {b : Brd} {p : Nat} (hs : isSmall b = true) (hp : positionOk b (p : Int) = true) : hasS (spreadL b true (p : Int)) (p : Int) = true := has_spread.2 ⟨hs, hp, hp, .refl⟩
def sumN (xs : List (List Ln)) (k : Nat) : Nat := ((xs.take k).map List.length).sum
theorem sumN_next {xs : List (List Ln)} {k : Nat} (h : k < xs.length) : sumN xs (k + 1) = sumN xs k + xs[k].length := by
  unfold sumN
  rw [List.take_succ_eq_append_getElem h, List.map_append, List.sum_append]; simp
theorem sumN_le {xs : List (List Ln)} {k : Nat} : sumN xs k ≤ (xs.map List.length).sum := by
  unfold sumN
  have h := List.take_append_drop k xs
  have : (xs.map List.length).sum = ((xs.take k).map List.length).sum + ((xs.drop k).map List.length).sum := by
    conv => lhs; rw [← h]
    rw [List.map_append, List.sum_append]
  omega
theorem len_le_sum : ∀ {xs : List (List Ln)} {g : List Ln}, g ∈ xs → g.length ≤ (xs.map List.length).sum
  | [], g, h => by simp at h
  | x :: xs, g, h => by
    rw [List.map_cons, List.sum_cons]
    rcases List.mem_cons.1 h with rfl | h
    · omega
    · have := len_le_sum h
      omega
set_option maxRecDepth 20000 in
set_option maxHeartbeats 16000000 in
theorem lawSweeps_c (bs : List Nat) (hbs : ∀ b ∈ bs, b ≤ 255) : PC Try.prog 3 [] [.c (.l 1 (bs.map bV))] (vB true) ⟨[], []⟩ := by
  by_cases hn : (1048576 : Int) < bs.length
  · refine pc_of Try.func3 rfl (by kernel_rfl) _ Try.ntmps3 (by simp) ?_
    repeat' first
      | (first | simp -implicitDefEqProofs only [hn, go_sem] | (refine And.intro ?_ ?_; omega) | (refine And.intro (shr_bd ?_ ?_) ?_; omega; omega) | refine sl_list rfl ?_ | refine sd_list rfl ?_ | refine sl_str ?_ | refine sd_str ?_)
      | refine callS (lawBig_c bs) rfl rfl rfl ?_
    exact fin_scal rfl rfl
  have hb0 : ((1048576 : Int) < bs.length) = False := eq_false hn
  obtain ⟨b, p, q, ⟨hs, hp, hg⟩, pd⟩ := drawAim_ex ⟨bs, hbs, by omega⟩
  obtain ⟨_, p0, _⟩ := pos_sub hp
  obtain ⟨_, q0, _⟩ := pos_sub hg
  obtain ⟨p, rfl⟩ := Int.eq_ofNat_of_zero_le p0
  obtain ⟨g, rfl⟩ := Int.eq_ofNat_of_zero_le q0
  have p2 := pos_le hp
  have g2 := pos_le hg
  have f1 := FewestSweeps_c hg hs p hp
  have l1 := one_c
  by_cases h : hasS (spreadL b true (g : Int)) (p : Int) = true
  · rw [if_pos h] at f1
    have hr : canReach b (p : Int) (g : Int) = true := by rw [canReach_back]; exact h
    obtain ⟨w, hw, pw⟩ := wayTo_ex b p g hg hr
    have sg := fun d => SweepGame_c d hg hs p h
    have w0 : SwOk b p g (p, []) := ⟨h, rfl, hp, by simp [swp, lastOf]⟩
    obtain ⟨wF, wG⟩ := swG_ok hg hs (pegs p) _ w0 rfl
    generalize swG b (spreadL b true (g : Int)) g (pegs p) (p, []) = F at *
    obtain ⟨F1, G⟩ := F
    simp only at wG
    subst wG
    have hG := wF.ply
    simp only at hG
    have lG := playF_len (by omega) hG
    have lw := playF_len (by omega) hw
    simp only [Int.toNat_natCast] at lG lw
    have pg : pegs p ≤ 49 := cardN_le
    have fG : ∀ l ∈ G, l.f ≠ -1 := fun l hl => line_f (play_lines hG l hl)
    have fw : ∀ l ∈ w, l.f ≠ -1 := fun l hl => line_f (play_lines hw l hl)
    have en : few b (spreadL b true (F1 : Int)) F1 (pegs p) p (-1) = (sweeps G : Int) := by
      have ht := wF.tot
      simp only [few_goal] at ht
      rw [sweeps_swp fG]; omega
    rw [en] at f1
    have c1 : ((sweeps G : Int) ≤ (sweeps w : Int)) = True := eq_true (by
      have := few_le hg hs (pegs p) p (-1) w rfl hw
      rw [en] at this
      rw [sweeps_swp fw]; exact this)
    have cb := bound_sweeps hp hG
    have cb1 : (cornerBound b (p : Int) (F1 : Int) ≤ (sweeps G : Int)) = True := eq_true cb
    have is := wIsSol_c b (p : Int) (F1 : Int) G (by omega) (by omega)
    have es : ((playAll b (p : Int) G).isSome && decide (playI b (p : Int) G = (F1 : Int))) = true := by
      have e : playAll b (p : Int) G = some (F1 : Int) := by rw [playAll, if_pos ⟨hp, by omega⟩]; exact hG
      simp [playI, e]
    rw [es] at is
    have ss := SplitSweeps_c G (by omega)
    have ls := LongestSweep_c G (by omega)
    have e1 := spl_len (js := G)
    have e2 := spl_sum (js := G)
    have e3 := fun g hg => spl_one fG (g := g) hg
    have i1 := iCountSweeps_c G (by omega)
    have i2 := iCountSweeps_c w (by omega)
    have cc := CornerBound_c b (p : Int) (F1 : Int) (by omega) (by omega)
    have sl := sw_le (js := G) (i := G.length)
    have snn : ((0 : Int) ≤ (sweeps G : Int)) = True := eq_true (by omega)
    generalize hSP : splS G = SP at *
    have spl : SP.length ≤ G.length := by rw [e1]; exact sl
    have each : ∀ g ∈ SP, g.length ≤ G.length := fun g hg => by
      rw [← e2]
      exact len_le_sum hg
    generalize cornerBound b (p : Int) (F1 : Int) = CB at *
    refine pc_of Try.func3 rfl (by kernel_rfl) _ Try.ntmps3 (by simp) ?_
    repeat' first
      | (first | simp -implicitDefEqProofs only [hb0, snn, go_sem] | (refine And.intro ?_ ?_; omega) | (refine And.intro (shr_bd ?_ ?_) ?_; omega; omega) | refine sl_list rfl ?_ | refine sd_list rfl ?_ | refine sl_str ?_ | refine sd_str ?_)
      | refine callS (lawBig_c bs) rfl rfl rfl ?_
      | refine callV pd rfl rfl rfl ?_
      | refine callS f1 rfl rfl rfl ?_
      | refine callL1 sg rfl rfl rfl ?_
      | refine callV pw rfl rfl rfl ?_
      | refine callV ss rfl rfl rfl ?_
    have st : sumN SP SP.length = G.length := by rw [sumN, List.take_length]; exact e2
    refine loop_step (X := Nat) (fun k => ⟨142, [(3, .s (.c (.p 3 0))), (4, vN p), (5, vN F1), (6, vN (sweeps G)), (7, vO 31), (9, vL 3 (w.map lineV)), (11, .s (.c (.ll 3 (SP.map fun g => g.map lineV)))), (12, vN (sumN SP k)), (13, vI (lngN SP k)), (14, vN k)],
        ⟨[(3, brdC b)], [(31, ⟨35, 3, G.map lineV, true, true⟩)]⟩⟩)
      (fun k => k ≤ SP.length) (fun k => SP.length - k) 0 (by omega) (weak_of (fun i => i) (fun i => i) rfl ⟨by simp [sumN, lngN] <;> omega, by simp [sumN, lngN] <;> omega, by simp [sumN, lngN] <;> omega, by simp [sumN, lngN] <;> omega, by simp [sumN, lngN] <;> omega⟩ (by simp [sumN, lngN] <;> omega)) (fun k hk => ?_)
    by_cases hlt : k < SP.length
    · have e0 : ((k : Int) < (SP.length : Int)) = True := eq_true (by omega)
      have g1 := map_lists hlt
      have nx1 := sumN_next hlt
      have nx2 := lngN_next hlt
      have sl2 := sumN_le (xs := SP) (k := k + 1)
      have eh := each _ (List.getElem_mem hlt)
      have one : PC Try.prog 10 [] [.c (.l 3 (SP[k].map lineV))] (vB true) ⟨[], []⟩ := by
        have h1 := IsOneSweep_c SP[k] (by omega)
        rw [e3 _ (List.getElem_mem hlt)] at h1
        exact h1
      generalize SP[k] = s at *
      repeat' first
        | (first | simp -implicitDefEqProofs only [e0, g1, List.length_map, go_sem] | (refine And.intro ?_ ?_; omega) | (refine And.intro (shr_bd ?_ ?_) ?_; omega; omega) | refine sl_list rfl ?_ | refine sd_list rfl ?_ | refine sl_str ?_ | refine sd_str ?_)
        | refine callS one rfl rfl rfl ?_
      exact ⟨k + 1, by omega, by omega, weak_of (fun i => i) (fun i => i) rfl ⟨by simp [nx1, nx2] <;> omega, by simp [nx1, nx2] <;> omega, by simp [nx1, nx2] <;> omega, by simp [nx1, nx2] <;> omega, by simp [nx1, nx2] <;> omega⟩ (by simp [nx1, nx2] <;> omega)⟩
    · have e0 : ((k : Int) < (SP.length : Int)) = False := eq_false (by omega)
      obtain rfl : k = SP.length := by omega
      have e1' : ((SP.length : Int) = (sweeps G : Int)) = True := eq_true (by omega)
      repeat' first
        | (first | simp -implicitDefEqProofs only [e0, st, e1', c1, cb1, List.length_map, go_sem] | (refine And.intro ?_ ?_; omega) | (refine And.intro (shr_bd ?_ ?_) ?_; omega; omega) | refine sl_list rfl ?_ | refine sd_list rfl ?_ | refine sl_str ?_ | refine sd_str ?_)
        | refine callS is rfl rfl rfl ?_
        | refine callS i1 rfl rfl rfl ?_
        | refine callS i2 rfl rfl rfl ?_
        | refine callS ls rfl rfl rfl ?_
        | refine callV ls rfl rfl rfl ?_
        | refine callS cc rfl rfl rfl ?_
        | refine callS l1 rfl rfl rfl ?_
      exact fin_scal rfl rfl
  · have h' : hasS (spreadL b true (g : Int)) (p : Int) = false := by simpa using h
    rw [if_neg h] at f1
    have hr : canReach b (p : Int) (g : Int) = false := by rw [canReach_back]; exact h'
    have pw := wayTo_no b (p : Int) (g : Int) (by omega) (by omega) hr
    have sg := SweepGame_no hg (p : Int) h'
    have f2 := FewestSweeps_c (g := p) hp hs p hp
    rw [if_pos (few_self hs hp), few_goal] at f2
    have c0 : PC Try.prog 9 [] [.c (.l 3 (([] : List Ln).map lineV))] (vI 0) ⟨[], []⟩ := iCountSweeps_c [] (by simp)
    refine pc_of Try.func3 rfl (by kernel_rfl) _ Try.ntmps3 (by simp) ?_
    repeat' first
      | (first | simp -implicitDefEqProofs only [hb0, go_sem] | (refine And.intro ?_ ?_; omega) | (refine And.intro (shr_bd ?_ ?_) ?_; omega; omega) | refine sl_list rfl ?_ | refine sd_list rfl ?_ | refine sl_str ?_ | refine sd_str ?_)
      | refine callS (lawBig_c bs) rfl rfl rfl ?_
      | refine callV pd rfl rfl rfl ?_
      | refine callS f1 rfl rfl rfl ?_
      | refine callS f2 rfl rfl rfl ?_
      | refine callS sg rfl rfl rfl ?_
      | refine callV pw rfl rfl rfl ?_
      | refine callS c0 rfl rfl rfl ?_
      | refine callS l1 rfl rfl rfl ?_
    exact fin_scal rfl (by rfl)
theorem fnSweeps.law_c {c : C} (h : TC (.l 1 false [.i .u8]) c) : PC Try.prog 3 [] [.c c] (vB true) ⟨[], []⟩ := by
  obtain ⟨bs, rfl, hb⟩ := lawBytes_of h
  exact lawSweeps_c bs hb
end Go.Proofs.Ytahnbliabllflaa
