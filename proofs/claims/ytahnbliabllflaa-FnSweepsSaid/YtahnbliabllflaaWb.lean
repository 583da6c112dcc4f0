/-
  The program's search for the fewest sweeps: what is known already lies in a map that all calls share.
-/
import Derived.Test.YtahnbliabllflaaWa
import Derived.Test.YtahnbliabllflaaP2
namespace Go.Proofs.Ytahnbliabllflaa
open Go.PL
set_option linter.unusedSimpArgs false
set_option linter.unusedVariables false
theorem map_law : MapT Try.prog 44 := ⟨73, 3, 3, by kernel_rfl, ⟨by kernel_rfl, by kernel_rfl, by kernel_rfl, by kernel_rfl⟩, by kernel_rfl, by kernel_rfl, by kernel_rfl⟩
/-- what the map says: the least number of sweeps from a position on, after a jump into a hole -/
def swR (b : Brd) (S : List Bool) (g : Nat) (a c v : Int) : Prop := ∃ q : Nat, a = q ∧ v = few b S g (pegs q) q c
def swC (b : Brd) (S : List Bool) (g : Nat) (x y : C) : List C := [x, y, .v (.int .i64 (g : Int)), .mk (swR b S g)]
theorem jumpI_can {b : Brd} {q : Nat} {l : Ln} (hl : l ∈ linesOf b) (h : canJ (q : Int) l = true) : jumpI (q : Int) l = ((q ^^^ bitsL l : Nat) : Int) := by
  obtain ⟨_, h1, h2⟩ := line_ne hl
  rw [jumpI, if_pos h, jmp_flip (by omega) (lnIn hl) h1 h2 h, Int.toNat_natCast]
theorem few_bd {b : Brd} {S : List Bool} {g : Nat} : ∀ (k q : Nat) (last : Int), -1 ≤ few b S g k q last ∧ few b S g k q last ≤ k
  | 0, q, last => by
    simp only [few]
    split <;> omega
  | k + 1, q, last => by
    by_cases e : q = g
    · rw [e, few_goal]; omega
    · rw [few_eq e]
      rcases best_of ((linesOf b).map (costV b S g k q last)) with ⟨h1, _⟩ | ⟨h1, h2, _⟩
      · omega
      · obtain ⟨l, _, el⟩ := List.mem_map.1 h2
        have ih := few_bd (b := b) (S := S) (g := g) k (q ^^^ bitsL l) l.t
        have cb : -1 ≤ costV b S g k q last l ∧ costV b S g k q last l ≤ k + 1 := by
          unfold costV
          split
          · split <;> omega
          · omega
        rw [el] at cb
        omega
theorem cost_bd {b : Brd} {S : List Bool} {g k q : Nat} {last : Int} {l : Ln} : -1 ≤ costV b S g k q last l ∧ costV b S g k q last l ≤ k + 1 := by
  have ih := few_bd (b := b) (S := S) (g := g) k (q ^^^ bitsL l) l.t
  unfold costV
  split
  · split <;> omega
  · omega
section
variable {b : Brd} {g : Nat}
theorem sweeperOf_c (d e : Nat) (hde : d ≠ e) (hg : (g : Int) ≤ 9223372036854775807) : PC Try.prog 17 [] [.a (brdC b), .c (.v (.int .i64 (g : Int)))] (.s (.a (swC b (spreadL b true (g : Int)) g (.o d) (.o e))))
    ⟨[], [(d, ⟨35, 3, (linesOf b).map lineV, false, true⟩), (e, ⟨4, 1, (spreadL b true (g : Int)).map Value.bool, false, true⟩)]⟩ := by
  have hed : e ≠ d := fun h => hde h.symm
  refine pc_of Try.func17 rfl (by kernel_rfl) _ Try.ntmps17 (by simp) ?_
  repeat' first
    | (first | simp -implicitDefEqProofs only [go_sem] | (refine And.intro ?_ ?_; omega) | (refine And.intro (shr_bd ?_ ?_) ?_; omega; omega) | refine sl_list rfl ?_ | refine sd_list rfl ?_ | refine sl_str ?_ | refine sd_str ?_)
    | refine draw_stepY Try.pl_follows (by kernel_rfl) ?_
    | refine callL1 (fun d => iLinesOf_c d b) rfl rfl rfl ?_
    | refine callL1 (fun d => spreadOf_c d b (g : Int) true hg) rfl rfl rfl ?_
    | refine map_step (swR b (spreadL b true (g : Int)) g) ?_
    | refine And.intro (map_step (swR b (spreadL b true (g : Int)) g) rfl) ?_
  exact fin_of (fun i => i) (fun i => if i = d then 6 else 9) ⟨by simp [hde, hed, swC] <;> omega, by simp [hde, hed, swC] <;> omega, by simp [hde, hed, swC] <;> omega, by simp [hde, hed, swC] <;> omega, by simp [hde, hed, swC] <;> omega⟩ (by simp [hde, hed, swC] <;> omega) (by first | rfl | (simp [renPV, renV1, renC, hde, hed, swC]))
set_option maxHeartbeats 4000000 in
theorem cost_c {k : Nat} (ih : ∀ (q : Nat) (last : Int), pegs q = k → (q : Int) ≤ 562949953421311 → hasS (spreadL b true (g : Int)) (q : Int) = true → -1 ≤ last → last ≤ 48 → PC Try.prog 19 [] [.a (swC b (spreadL b true (g : Int)) g (.l 3 ((linesOf b).map lineV)) (.l 1 ((spreadL b true (g : Int)).map Value.bool))), .c (.v (.int .i64 (q : Int))), .c (.v (.int .i64 last))] (vI (few b (spreadL b true (g : Int)) g k q last)) ⟨[], []⟩)
    (q : Nat) (last : Int) (l : Ln) (hk : pegs q = k + 1) (hq : (q : Int) ≤ 562949953421311) (hl : l ∈ linesOf b) :
    PC Try.prog 20 [] [.a (swC b (spreadL b true (g : Int)) g (.l 3 ((linesOf b).map lineV)) (.l 1 ((spreadL b true (g : Int)).map Value.bool))), .c (.v (.int .i64 (q : Int))), .c (.v (.int .i64 last)), .a (lineC l)] (vI (costV b (spreadL b true (g : Int)) g k q last l)) ⟨[], []⟩ := by
  have hln := lnIn hl
  have k49 : pegs q ≤ 49 := cardN_le
  have jf := jumpFrom_c (q : Int) l (by omega) (by omega) hln
  by_cases hc : canJ (q : Int) l = true
  · have ej := jumpI_can hl hc
    rw [hc, ej] at jf
    have hh := has_c (spreadL b true (g : Int)) ((q ^^^ bitsL l : Nat) : Int)
    by_cases hs2 : hasS (spreadL b true (g : Int)) ((q ^^^ bitsL l : Nat) : Int) = true
    · rw [hs2] at hh
      obtain ⟨_, _, hpp, _⟩ := has_spread.1 hs2
      have hp2 := pos_le hpp
      have hpj := pegs_jump hl hc
      obtain ⟨_, _, t0, t1⟩ := mem_line_bd hl
      have pf := ih (q ^^^ bitsL l) l.t (by omega) hp2 hs2 (by omega) t1
      have ec : costV b (spreadL b true (g : Int)) g k q last l = few b (spreadL b true (g : Int)) g k (q ^^^ bitsL l) l.t + (if l.f = last then 0 else 1) := by unfold costV; rw [if_pos ⟨hc, hs2⟩]
      rw [ec]
      obtain ⟨u1, u2⟩ := few_bd (b := b) (S := spreadL b true (g : Int)) (g := g) k (q ^^^ bitsL l) l.t
      generalize few b (spreadL b true (g : Int)) g k (q ^^^ bitsL l) l.t = F at *
      generalize q ^^^ bitsL l = r at *
      by_cases hf : l.f = last
      · have hf2 : (l.f = last) = True := eq_true hf
        refine pc_of Try.func20 rfl (by kernel_rfl) _ Try.ntmps20 (by simp) ?_
        repeat' first
          | (first | simp -implicitDefEqProofs only [swC, lineC, hf2, go_sem] | (refine And.intro ?_ ?_; omega) | (refine And.intro (shr_bd ?_ ?_) ?_; omega; omega) | refine sl_list rfl ?_ | refine sd_list rfl ?_ | refine sl_str ?_ | refine sd_str ?_)
          | refine callS jf rfl rfl rfl ?_
          | refine callS hh rfl rfl rfl ?_
          | refine callS pf rfl rfl rfl ?_
        exact fin_scal rfl (by simp [hf])
      · refine pc_of Try.func20 rfl (by kernel_rfl) _ Try.ntmps20 (by simp) ?_
        repeat' first
          | (first | simp -implicitDefEqProofs only [swC, lineC, hf, go_sem] | (refine And.intro ?_ ?_; omega) | (refine And.intro (shr_bd ?_ ?_) ?_; omega; omega) | refine sl_list rfl ?_ | refine sd_list rfl ?_ | refine sl_str ?_ | refine sd_str ?_)
          | refine callS jf rfl rfl rfl ?_
          | refine callS hh rfl rfl rfl ?_
          | refine callS pf rfl rfl rfl ?_
        exact fin_scal rfl (by simp [hf])
    · have hs3 : hasS (spreadL b true (g : Int)) ((q ^^^ bitsL l : Nat) : Int) = false := by simpa using hs2
      rw [hs3] at hh
      have ec : costV b (spreadL b true (g : Int)) g k q last l = -1 := by unfold costV; rw [if_neg (fun x => hs2 x.2)]
      rw [ec]
      generalize q ^^^ bitsL l = r at *
      refine pc_of Try.func20 rfl (by kernel_rfl) _ Try.ntmps20 (by simp) ?_
      repeat' first
        | (first | simp -implicitDefEqProofs only [swC, lineC, go_sem] | (refine And.intro ?_ ?_; omega) | (refine And.intro (shr_bd ?_ ?_) ?_; omega; omega) | refine sl_list rfl ?_ | refine sd_list rfl ?_ | refine sl_str ?_ | refine sd_str ?_)
        | refine callS jf rfl rfl rfl ?_
        | refine callS hh rfl rfl rfl ?_
      exact fin_scal rfl rfl
  · have hc2 : canJ (q : Int) l = false := by simpa using hc
    rw [hc2] at jf
    have ec : costV b (spreadL b true (g : Int)) g k q last l = -1 := by unfold costV; rw [if_neg (fun x => hc x.1)]
    rw [ec]
    generalize jumpI (q : Int) l = r at *
    refine pc_of Try.func20 rfl (by kernel_rfl) _ Try.ntmps20 (by simp) ?_
    repeat' first
      | (first | simp -implicitDefEqProofs only [swC, lineC, go_sem] | (refine And.intro ?_ ?_; omega) | (refine And.intro (shr_bd ?_ ?_) ?_; omega; omega) | refine sl_list rfl ?_ | refine sd_list rfl ?_ | refine sl_str ?_ | refine sd_str ?_)
      | refine callS jf rfl rfl rfl ?_
    exact fin_scal rfl rfl
noncomputable def bestN (b : Brd) (S : List Bool) (g k q : Nat) (last : Int) (i : Nat) : Int := (((linesOf b).take i).map (costV b S g k q last)).foldl better (-1)
theorem bestN_next {S : List Bool} {k q : Nat} {last : Int} {i : Nat} (h : i < (linesOf b).length) : bestN b S g k q last (i + 1) = better (bestN b S g k q last i) (costV b S g k q last (linesOf b)[i]) := by
  unfold bestN
  rw [List.take_succ_eq_append_getElem h, List.map_append, List.foldl_append]; rfl
set_option maxHeartbeats 8000000 in
theorem fewest_c (hg : positionOk b (g : Int) = true) (hs : isSmall b = true) : ∀ (k q : Nat) (last : Int), pegs q = k → (q : Int) ≤ 562949953421311 → hasS (spreadL b true (g : Int)) (q : Int) = true → -1 ≤ last → last ≤ 48 →
    PC Try.prog 19 [] [.a (swC b (spreadL b true (g : Int)) g (.l 3 ((linesOf b).map lineV)) (.l 1 ((spreadL b true (g : Int)).map Value.bool))), .c (.v (.int .i64 (q : Int))), .c (.v (.int .i64 last))] (vI (few b (spreadL b true (g : Int)) g k q last)) ⟨[], []⟩ := by
  intro k
  induction k with
  | zero =>
    intro q last hk hq2 hq l1 l2
    have e : q = g := by
      apply Classical.byContradiction
      intro hne
      obtain ⟨l, hl, _⟩ := way_more hg hs hq hne
      obtain ⟨_, hm, hc⟩ := jumps_mem hl
      have := pegs_jump hm hc
      omega
    subst e
    rw [few_goal]
    refine pc_of Try.func19 rfl (by kernel_rfl) _ Try.ntmps19 (by simp) ?_
    (repeat' (first | simp -implicitDefEqProofs only [swC, go_sem] | (refine And.intro ?_ ?_; omega) | (refine And.intro (shr_bd ?_ ?_) ?_; omega; omega) | refine sl_list rfl ?_ | refine sd_list rfl ?_ | refine sl_str ?_ | refine sd_str ?_))
    exact fin_scal rfl rfl
  | succ k ih =>
    intro q last hk hq2 hq l1 l2
    by_cases e : q = g
    · subst e
      rw [few_goal]
      refine pc_of Try.func19 rfl (by kernel_rfl) _ Try.ntmps19 (by simp) ?_
      (repeat' (first | simp -implicitDefEqProofs only [swC, go_sem] | (refine And.intro ?_ ?_; omega) | (refine And.intro (shr_bd ?_ ?_) ?_; omega; omega) | refine sl_list rfl ?_ | refine sd_list rfl ?_ | refine sl_str ?_ | refine sd_str ?_))
      exact fin_scal rfl rfl
    have e' : ((q : Int) = (g : Int)) = False := eq_false (by omega)
    have pc := fun l hl => cost_c ih q last l hk hq2 hl
    have hll := linesOf_len (b := b)
    refine pc_of Try.func19 rfl (by kernel_rfl) _ Try.ntmps19 (by simp) ?_
    (repeat' (first | simp -implicitDefEqProofs only [swC, e', go_sem] | (refine And.intro ?_ ?_; omega) | (refine And.intro (shr_bd ?_ ?_) ?_; omega; omega) | refine sl_list rfl ?_ | refine sd_list rfl ?_ | refine sl_str ?_ | refine sd_str ?_))
    refine look_step map_law ((inK_i64 _).2 (by omega)) ((inK_i64 _).2 (by omega)) (fun v ok h1 h2 => ?_)
    cases ok with
    | true =>
      obtain ⟨q', e1, e2⟩ := h1 rfl
      obtain rfl : q = q' := by omega
      rw [hk] at e2
      (repeat' (first | simp -implicitDefEqProofs only [go_sem] | (refine And.intro ?_ ?_; omega) | (refine And.intro (shr_bd ?_ ?_) ?_; omega; omega) | refine sl_list rfl ?_ | refine sd_list rfl ?_ | refine sl_str ?_ | refine sd_str ?_))
      exact fin_scal rfl (by rw [e2])
    | false =>
      (repeat' (first | simp -implicitDefEqProofs only [go_sem] | (refine And.intro ?_ ?_; omega) | (refine And.intro (shr_bd ?_ ?_) ?_; omega; omega) | refine sl_list rfl ?_ | refine sd_list rfl ?_ | refine sl_str ?_ | refine sd_str ?_))
      refine loop_step (X := Nat) (fun i => ⟨60, [(1, vN q), (2, vI last), (3, .s (.c (.p 3 0))), (7, .s (.c (.p 7 0))), (10, vI (bestN b (spreadL b true (g : Int)) g k q last i)), (31, vL 3 ((linesOf b).map lineV)), (32, vN (linesOf b).length), (33, vN i)],
          ⟨[(3, swC b (spreadL b true (g : Int)) g (.l 3 ((linesOf b).map lineV)) (.l 1 ((spreadL b true (g : Int)).map Value.bool))), (7, [.v (.int .i64 (q : Int)), .v (.int .i64 last)])], []⟩⟩)
        (fun i => i ≤ (linesOf b).length) (fun i => (linesOf b).length - i) 0 (by omega) (weak_of (fun i => i) (fun i => i) rfl ⟨by simp [swC, bestN] <;> omega, by simp [swC, bestN] <;> omega, by simp [swC, bestN] <;> omega, by simp [swC, bestN] <;> omega, by simp [swC, bestN] <;> omega⟩ (by simp [swC, bestN] <;> omega)) (fun i hi => ?_)
      by_cases hlt : i < (linesOf b).length
      · have e0 : ((i : Int) < ((linesOf b).length : Int)) = True := eq_true (by omega)
        have g1 := map_get (f := lineV) hlt
        have p1 := pc _ (List.getElem_mem hlt)
        have nx := bestN_next (g := g) (S := spreadL b true (g : Int)) (k := k) (q := q) (last := last) hlt
        generalize (linesOf b)[i] = l at *
        generalize costV b (spreadL b true (g : Int)) g k q last l = c at *
        generalize bestN b (spreadL b true (g : Int)) g k q last i = B at *
        repeat' first
          | (first | simp -implicitDefEqProofs only [e0, g1, hlt, lineV, swC, go_sem] | (refine And.intro ?_ ?_; omega) | (refine And.intro (shr_bd ?_ ?_) ?_; omega; omega) | refine sl_list rfl ?_ | refine sd_list rfl ?_ | refine sl_str ?_ | refine sd_str ?_)
          | refine callS p1 rfl rfl rfl ?_
        by_cases c1 : 0 ≤ c
        · by_cases c2 : B < 0
          · have eb : bestN b (spreadL b true (g : Int)) g k q last (i + 1) = c := by rw [nx, better, if_pos ⟨c1, .inl c2⟩]
            (repeat' (first | simp -implicitDefEqProofs only [c1, c2, go_sem] | (refine And.intro ?_ ?_; omega) | (refine And.intro (shr_bd ?_ ?_) ?_; omega; omega) | refine sl_list rfl ?_ | refine sd_list rfl ?_ | refine sl_str ?_ | refine sd_str ?_))
            exact ⟨i + 1, by omega, by omega, weak_of (fun i => i) (fun i => i) rfl ⟨by simp [swC, eb] <;> omega, by simp [swC, eb] <;> omega, by simp [swC, eb] <;> omega, by simp [swC, eb] <;> omega, by simp [swC, eb] <;> omega⟩ (by simp [swC, eb] <;> omega)⟩
          · by_cases c3 : c < B
            · have eb : bestN b (spreadL b true (g : Int)) g k q last (i + 1) = c := by rw [nx, better, if_pos ⟨c1, .inr c3⟩]
              (repeat' (first | simp -implicitDefEqProofs only [c1, c2, c3, go_sem] | (refine And.intro ?_ ?_; omega) | (refine And.intro (shr_bd ?_ ?_) ?_; omega; omega) | refine sl_list rfl ?_ | refine sd_list rfl ?_ | refine sl_str ?_ | refine sd_str ?_))
              exact ⟨i + 1, by omega, by omega, weak_of (fun i => i) (fun i => i) rfl ⟨by simp [swC, eb] <;> omega, by simp [swC, eb] <;> omega, by simp [swC, eb] <;> omega, by simp [swC, eb] <;> omega, by simp [swC, eb] <;> omega⟩ (by simp [swC, eb] <;> omega)⟩
            · have eb : bestN b (spreadL b true (g : Int)) g k q last (i + 1) = B := by rw [nx, better, if_neg (fun x => by rcases x.2 with y | y; exact c2 y; exact c3 y)]
              (repeat' (first | simp -implicitDefEqProofs only [c1, c2, c3, go_sem] | (refine And.intro ?_ ?_; omega) | (refine And.intro (shr_bd ?_ ?_) ?_; omega; omega) | refine sl_list rfl ?_ | refine sd_list rfl ?_ | refine sl_str ?_ | refine sd_str ?_))
              exact ⟨i + 1, by omega, by omega, weak_of (fun i => i) (fun i => i) rfl ⟨by simp [swC, eb] <;> omega, by simp [swC, eb] <;> omega, by simp [swC, eb] <;> omega, by simp [swC, eb] <;> omega, by simp [swC, eb] <;> omega⟩ (by simp [swC, eb] <;> omega)⟩
        · have eb : bestN b (spreadL b true (g : Int)) g k q last (i + 1) = B := by rw [nx, better, if_neg (fun x => c1 x.1)]
          (repeat' (first | simp -implicitDefEqProofs only [c1, go_sem] | (refine And.intro ?_ ?_; omega) | (refine And.intro (shr_bd ?_ ?_) ?_; omega; omega) | refine sl_list rfl ?_ | refine sd_list rfl ?_ | refine sl_str ?_ | refine sd_str ?_))
          exact ⟨i + 1, by omega, by omega, weak_of (fun i => i) (fun i => i) rfl ⟨by simp [swC, eb] <;> omega, by simp [swC, eb] <;> omega, by simp [swC, eb] <;> omega, by simp [swC, eb] <;> omega, by simp [swC, eb] <;> omega⟩ (by simp [swC, eb] <;> omega)⟩
      · have e0 : ((i : Int) < ((linesOf b).length : Int)) = False := eq_false (by omega)
        obtain rfl : i = (linesOf b).length := by omega
        have eb : bestN b (spreadL b true (g : Int)) g k q last (linesOf b).length = few b (spreadL b true (g : Int)) g (k + 1) q last := by rw [few_eq e, bestN, List.take_length]
        rw [eb]
        (repeat' (first | simp -implicitDefEqProofs only [e0, swC, go_sem] | (refine And.intro ?_ ?_; omega) | (refine And.intro (shr_bd ?_ ?_) ?_; omega; omega) | refine sl_list rfl ?_ | refine sd_list rfl ?_ | refine sl_str ?_ | refine sd_str ?_))
        refine upd_step map_law ((inK_i64 _).2 (by omega)) ((inK_i64 _).2 (by omega)) ⟨q, rfl, by rw [hk]⟩ ?_
        (repeat' (first | simp -implicitDefEqProofs only [go_sem] | (refine And.intro ?_ ?_; omega) | (refine And.intro (shr_bd ?_ ?_) ?_; omega; omega) | refine sl_list rfl ?_ | refine sd_list rfl ?_ | refine sl_str ?_ | refine sd_str ?_))
        exact fin_scal rfl rfl
set_option maxHeartbeats 4000000 in
theorem FewestSweeps_c (hg : positionOk b (g : Int) = true) (hs : isSmall b = true) (p : Nat) (hp : positionOk b (p : Int) = true) : PC Try.prog 6 [] [.a (brdC b), .c (.v (.int .i64 (p : Int))), .c (.v (.int .i64 (g : Int)))]
    (vI (if hasS (spreadL b true (g : Int)) (p : Int) = true then few b (spreadL b true (g : Int)) g (pegs p) p (-1) else -1)) ⟨[], []⟩ := by
  have g2 := pos_le hg
  have p2 := pos_le hp
  have so := fun d e h => sweeperOf_c (b := b) (g := g) d e h (by omega)
  have hh := has_c (spreadL b true (g : Int)) (p : Int)
  by_cases h : hasS (spreadL b true (g : Int)) (p : Int) = true
  · rw [h] at hh
    have pf := fewest_c hg hs (pegs p) p (-1) rfl p2 h (by omega) (by omega)
    rw [if_pos h]
    refine pc_of Try.func6 rfl (by kernel_rfl) _ Try.ntmps6 (by simp) ?_
    repeat' first
      | (first | simp -implicitDefEqProofs only [swC, go_sem] | (refine And.intro ?_ ?_; omega) | (refine And.intro (shr_bd ?_ ?_) ?_; omega; omega) | refine sl_list rfl ?_ | refine sd_list rfl ?_ | refine sl_str ?_ | refine sd_str ?_)
      | refine callL2 so rfl rfl rfl ?_
      | refine callS hh rfl rfl rfl ?_
      | refine callS pf rfl rfl rfl ?_
    exact fin_scal rfl rfl
  · have h' : hasS (spreadL b true (g : Int)) (p : Int) = false := by simpa using h
    rw [h'] at hh
    rw [if_neg h]
    refine pc_of Try.func6 rfl (by kernel_rfl) _ Try.ntmps6 (by simp) ?_
    repeat' first
      | (first | simp -implicitDefEqProofs only [swC, go_sem] | (refine And.intro ?_ ?_; omega) | (refine And.intro (shr_bd ?_ ?_) ?_; omega; omega) | refine sl_list rfl ?_ | refine sd_list rfl ?_ | refine sl_str ?_ | refine sd_str ?_)
      | refine callL2 so rfl rfl rfl ?_
      | refine callS hh rfl rfl rfl ?_
    exact fin_scal rfl rfl
theorem SweepGame_no (hg : positionOk b (g : Int) = true) (p : Int) (h : hasS (spreadL b true (g : Int)) p = false) : PC Try.prog 7 [] [.a (brdC b), .c (.v (.int .i64 p)), .c (.v (.int .i64 (g : Int)))]
    (.t [.c (.v (.slice none 0 0)), .c (.v (.bool false))]) ⟨[], []⟩ := by
  have g2 := pos_le hg
  have so := fun d e h => sweeperOf_c (b := b) (g := g) d e h (by omega)
  have hh := has_c (spreadL b true (g : Int)) p
  rw [h] at hh
  refine pc_of Try.func7 rfl (by kernel_rfl) _ Try.ntmps7 (by simp) ?_
  repeat' first
    | (first | simp -implicitDefEqProofs only [swC, go_sem] | (refine And.intro ?_ ?_; omega) | (refine And.intro (shr_bd ?_ ?_) ?_; omega; omega) | refine sl_list rfl ?_ | refine sd_list rfl ?_ | refine sl_str ?_ | refine sd_str ?_)
    | refine callL2 so rfl rfl rfl ?_
    | refine callS hh rfl rfl rfl ?_
  exact fin_scal rfl rfl
set_option maxHeartbeats 16000000 in
theorem SweepGame_c (d : Nat) (hg : positionOk b (g : Int) = true) (hs : isSmall b = true) (p : Nat) (h : hasS (spreadL b true (g : Int)) (p : Int) = true) : PC Try.prog 7 [] [.a (brdC b), .c (.v (.int .i64 (p : Int))), .c (.v (.int .i64 (g : Int)))]
    (.t [.c (.o d), .c (.v (.bool true))]) ⟨[], [(d, ⟨35, 3, (swG b (spreadL b true (g : Int)) g (pegs p) (p, [])).2.map lineV, false, true⟩)]⟩ := by
  have g2 := pos_le hg
  obtain ⟨_, _, hp, _⟩ := has_spread.1 h
  have so := fun d e h => sweeperOf_c (b := b) (g := g) d e h (by omega)
  have hh := has_c (spreadL b true (g : Int)) (p : Int)
  rw [h] at hh
  have hll := linesOf_len (b := b)
  have pg : pegs p ≤ 49 := cardN_le
  obtain ⟨F, eF⟩ : ∃ F, F = swG b (spreadL b true (g : Int)) g (pegs p) (p, []) := ⟨_, rfl⟩
  have w0 : SwOk b p g (p, []) := ⟨h, rfl, hp, by simp [swp, lastOf]⟩
  rw [← eF]
  refine pc_of Try.func7 rfl (by kernel_rfl) _ Try.ntmps7 (by simp) ?_
  repeat' first
    | (first | simp -implicitDefEqProofs only [swC, go_sem] | (refine And.intro ?_ ?_; omega) | (refine And.intro (shr_bd ?_ ?_) ?_; omega; omega) | refine sl_list rfl ?_ | refine sd_list rfl ?_ | refine sl_str ?_ | refine sd_str ?_)
    | refine callL2 so rfl rfl rfl ?_
    | refine callS hh rfl rfl rfl ?_
  refine loop_step (X := Nat × List Ln) (fun x => ⟨58, [(1, vN x.1), (2, vN g), (8, .s (.c (.p 8 0))), (9, vO 22), (10, vI (lastOf (-1) x.2))],
      ⟨[(8, swC b (spreadL b true (g : Int)) g (.o 16) (.o 1016))], [(22, ⟨35, 3, x.2.map lineV, false, true⟩), (16, ⟨35, 3, (linesOf b).map lineV, false, true⟩), (1016, ⟨4, 1, (spreadL b true (g : Int)).map Value.bool, false, true⟩)]⟩⟩)
    (fun x => SwOk b p g x ∧ (-1 ≤ lastOf (-1) x.2 ∧ lastOf (-1) x.2 ≤ 48) ∧ swG b (spreadL b true (g : Int)) g (pegs x.1) x = F) (fun x => pegs x.1) (p, []) ⟨w0, by simp [lastOf], eF.symm⟩ (weak_of (fun i => i) (fun i => i) rfl ⟨by simp [swC, lastOf] <;> omega, by simp [swC, lastOf] <;> omega, by simp [swC, lastOf] <;> omega, by simp [swC, lastOf] <;> omega, by simp [swC, lastOf] <;> omega⟩ (by simp [swC, lastOf] <;> omega)) (fun x hx => ?_)
  obtain ⟨q, ls⟩ := x
  obtain ⟨hx1, hx2, hx3⟩ := hx
  simp only at hx2 hx3
  have hq := pos_le hx1.pos
  have hpl := hx1.ply
  simp only at hq hpl
  have hll2 := playF_len (by omega) hpl
  simp only [Int.toNat_natCast] at hll2
  by_cases e : q = g
  · have e1 : swG b (spreadL b true (g : Int)) g (pegs q) (q, ls) = (q, ls) := by
      cases pegs q with
      | zero => rfl
      | succ k => simp [swG, e]
    rw [e1] at hx3
    subst hx3
    subst e
    (repeat' (first | simp -implicitDefEqProofs only [swC, go_sem] | (refine And.intro ?_ ?_; omega) | (refine And.intro (shr_bd ?_ ?_) ?_; omega; omega) | refine sl_list rfl ?_ | refine sd_list rfl ?_ | refine sl_str ?_ | refine sd_str ?_))
    exact fin_of (fun i => i) (fun i => 22) ⟨by simp <;> omega, by simp <;> omega, by simp <;> omega, by simp <;> omega, by simp <;> omega⟩ (by simp <;> omega) rfl
  have e' : ((q : Int) = (g : Int)) = False := eq_false (by omega)
  have hh1 : hasS (spreadL b true (g : Int)) (q : Int) = true := hx1.has
  obtain ⟨l0, hl0, hh0⟩ := way_more hg hs hh1 e
  have hpq : 0 < pegs q := by
    obtain ⟨_, hm, hc⟩ := jumps_mem hl0
    have := pegs_jump hm hc
    omega
  obtain ⟨k, ek⟩ : ∃ k, pegs q = k + 1 := ⟨pegs q - 1, by omega⟩
  obtain ⟨l1, hm1, hc1⟩ := few_jump hg hs (last := lastOf (-1) ls) ek hh1 e
  have f0 := few_nn hg hs (k + 1) q (lastOf (-1) ls) ek hh1
  have pf := fewest_c hg hs (k + 1) q (lastOf (-1) ls) ek hq hh1 hx2.1 hx2.2
  have pc := fun l hl => cost_c (fewest_c hg hs k) q (lastOf (-1) ls) l ek hq hl
  rw [ek] at hx3
  simp only [swG, if_neg e] at hx3
  obtain ⟨la, ela⟩ : ∃ la, la = lastOf (-1) ls := ⟨_, rfl⟩
  obtain ⟨n, en⟩ : ∃ n, n = few b (spreadL b true (g : Int)) g (k + 1) q la := ⟨_, rfl⟩
  rw [← ela, ← en] at pf f0 hc1
  simp only [← ela, ← en] at hx3 pc
  rw [← ela]
  repeat' first
    | (first | simp -implicitDefEqProofs only [e', swC, go_sem] | (refine And.intro ?_ ?_; omega) | (refine And.intro (shr_bd ?_ ?_) ?_; omega; omega) | refine sl_list rfl ?_ | refine sd_list rfl ?_ | refine sl_str ?_ | refine sd_str ?_)
    | refine callS pf rfl rfl rfl ?_
  refine loop_step (X := Nat) (fun j => ⟨58, [(1, vN q), (2, vN g), (8, .s (.c (.p 8 0))), (9, vO 22), (10, vI la), (11, vI n), (31, vO 16), (32, vN (linesOf b).length), (33, vN j)],
      ⟨[(8, swC b (spreadL b true (g : Int)) g (.o 16) (.o 1016))], [(22, ⟨35, 3, ls.map lineV, false, true⟩), (16, ⟨35, 3, (linesOf b).map lineV, false, true⟩), (1016, ⟨4, 1, (spreadL b true (g : Int)).map Value.bool, false, true⟩)]⟩⟩)
    (fun j => j ≤ (linesOf b).length ∧ ∀ j' (hj : j' < (linesOf b).length), j' < j → decide (costV b (spreadL b true (g : Int)) g k q la (linesOf b)[j'] = n) = false) (fun j => (linesOf b).length - j) 0 ⟨by omega, fun _ _ h => by omega⟩ (weak_of (fun i => i) (fun i => i) rfl ⟨by simp [swC] <;> omega, by simp [swC] <;> omega, by simp [swC] <;> omega, by simp [swC] <;> omega, by simp [swC] <;> omega⟩ (by simp [swC] <;> omega)) (fun j hj => ?_)
  obtain ⟨hj1, hj2⟩ := hj
  by_cases hlt : j < (linesOf b).length
  · have e0 : ((j : Int) < ((linesOf b).length : Int)) = True := eq_true (by omega)
    have g1 := map_get (f := lineV) hlt
    have hml := List.getElem_mem hlt
    have p1 := pc _ hml
    by_cases hc : costV b (spreadL b true (g : Int)) g k q la (linesOf b)[j] = n
    · have hfind := find_at' (p := fun l => decide (costV b (spreadL b true (g : Int)) g k q la l = n)) hlt hj2 (decide_eq_true hc)
      rw [hfind] at hx3
      simp only at hx3
      have hst := sw_step hg hs hx1 ek hml (by rw [← ela, hc, en])
      obtain ⟨hcan0, hst2⟩ := hst
      have hcan : canJ (q : Int) (linesOf b)[j] = true := hcan0
      have hpj := pegs_jump hml hcan
      have ej := jumpI_can hml hcan
      have jf := jumpFrom_c (q : Int) (linesOf b)[j] (by omega) (by omega) (lnIn hml)
      rw [hcan, ej] at jf
      obtain ⟨_, _, t0, t1⟩ := mem_line_bd hml
      have elo : lastOf (-1) (ls ++ [(linesOf b)[j]]) = (linesOf b)[j].t := lastOf_snoc
      generalize (linesOf b)[j] = l at *
      generalize costV b (spreadL b true (g : Int)) g k q la l = c at *
      subst hc
      generalize q ^^^ bitsL l = r at *
      repeat' first
        | (first | simp -implicitDefEqProofs only [e0, g1, hlt, lineV, swC, lineC, List.length_map, List.length_append, List.length_cons, List.length_nil, go_sem] | (refine And.intro ?_ ?_; omega) | (refine And.intro (shr_bd ?_ ?_) ?_; omega; omega) | refine sl_list rfl ?_ | refine sd_list rfl ?_ | refine sl_str ?_ | refine sd_str ?_)
        | refine callS p1 rfl rfl rfl ?_
        | refine callS jf rfl rfl rfl ?_
      exact ⟨(r, ls ++ [l]), ⟨hst2, by simp only [elo]; omega, by
        have : pegs r = k := by omega
        simp only [this]; exact hx3⟩, by simp only; omega, weak_of (fun i => i) (fun i => if i = 22 then 47 else i) rfl ⟨by simp [lineV, swC, elo] <;> omega, by simp [lineV, swC, elo] <;> omega, by simp [lineV, swC, elo] <;> omega, by simp [lineV, swC, elo] <;> omega, by simp [lineV, swC, elo] <;> omega⟩ (by simp [lineV, swC, elo] <;> omega)⟩
    · have hd : decide (costV b (spreadL b true (g : Int)) g k q la (linesOf b)[j] = n) = false := decide_eq_false hc
      have hj3 : ∀ j' (hj : j' < (linesOf b).length), j' < j + 1 → decide (costV b (spreadL b true (g : Int)) g k q la (linesOf b)[j'] = n) = false := fun j' hj' hlt' => by
        by_cases ej : j' = j
        · subst ej; exact hd
        · exact hj2 j' hj' (by omega)
      clear hj2 hx3
      generalize (linesOf b)[j] = l at *
      generalize costV b (spreadL b true (g : Int)) g k q la l = c at *
      repeat' first
        | (first | simp -implicitDefEqProofs only [e0, g1, hlt, lineV, swC, lineC, hc, go_sem] | (refine And.intro ?_ ?_; omega) | (refine And.intro (shr_bd ?_ ?_) ?_; omega; omega) | refine sl_list rfl ?_ | refine sd_list rfl ?_ | refine sl_str ?_ | refine sd_str ?_)
        | refine callS p1 rfl rfl rfl ?_
      exact ⟨j + 1, ⟨by omega, hj3⟩, by omega, weak_of (fun i => i) (fun i => i) rfl ⟨by simp [swC] <;> omega, by simp [swC] <;> omega, by simp [swC] <;> omega, by simp [swC] <;> omega, by simp [swC] <;> omega⟩ (by simp [swC] <;> omega)⟩
  · exfalso
    obtain ⟨j', hj', rfl⟩ := List.mem_iff_getElem.1 hm1
    have := hj2 j' hj' (by omega)
    rw [hc1] at this
    simp at this
end
end Go.Proofs.Ytahnbliabllflaa
