/-
  Draws of puzzles and of games.
  Draws of puzzles and of games.
  Draws of tables.
-/
import Derived.Test.YtahnbliabllflaaS3
import Derived.Test.YtahnbliabllflaaU1
import Derived.Test.YtahnbliabllflaaD1
import Derived.Test.YtahnbliabllflaaV1
namespace Go.Proofs.Ytahnbliabllflaa
open Go.PL
set_option linter.unusedSimpArgs false
theorem pegs_jump {b : Brd} {q : Nat} {l : Ln} (hl : l ∈ linesOf b) (hc : canJ (q : Int) l = true) : pegs (q ^^^ bitsL l) + 1 = pegs q := by
  have ha : able false q l = true := by simpa [able] using hc
  have hu := able_turn hl false ha
  obtain ⟨h0, h1, h2⟩ := line_ne hl
  have := pegs_und (q := q ^^^ bitsL l) (lnIn hl) h0 h1 h2 (by simpa [able] using hu)
  rw [xor_xor] at this
  omega
theorem playF_len {b : Brd} : ∀ {ls : List Ln} {p q : Int}, 0 ≤ p → playF b p ls = some q → ls.length + pegs q.toNat = pegs p.toNat
  | [], p, q, _, h => by simp only [playF, Option.some.injEq] at h; subst h; simp
  | l :: ls, p, q, p0, h => by
    simp only [playF] at h
    split at h
    · rename_i hc
      have ih := playF_len (by simp [flip]) h
      simp only [canDo, Bool.and_eq_true] at hc
      have := pegs_jump (q := p.toNat) (isLine_mem hc.2.1) (by rw [Int.toNat_of_nonneg p0]; exact hc.2.2)
      have e : (flip p l).toNat = p.toNat ^^^ bitsL l := by simp [flip]
      rw [e] at ih
      simp only [List.length_cons]; omega
    · cases h
theorem playF_take {b : Brd} : ∀ (k : Nat) {ls : List Ln} {p q : Int}, playF b p ls = some q → ∃ q', playF b p (ls.take k) = some q'
  | 0, _, p, _, _ => ⟨p, rfl⟩
  | k + 1, [], p, q, h => ⟨q, h⟩
  | k + 1, l :: ls, p, q, h => by
    simp only [playF, List.take_succ_cons] at h ⊢
    split at h
    · rename_i hc
      obtain ⟨q', hq⟩ := playF_take k h
      exact ⟨q', by rw [if_pos hc]; exact hq⟩
    · cases h
/-- a way to the aim, the first good jump each time -/
def wayN (b : Brd) (S : List Bool) (g : Nat) : Nat → Nat × List Ln → Nat × List Ln
  | 0, s => s
  | k + 1, s => if s.1 = g then s else match (jumpsOf b (s.1 : Int)).find? (fun l => hasS S ((s.1 ^^^ bitsL l : Nat) : Int)) with
    | some l => wayN b S g k (s.1 ^^^ bitsL l, s.2 ++ [l])
    | none => s
theorem way_more {b : Brd} {g q : Nat} (hg : positionOk b (g : Int) = true) (hs : isSmall b = true) (h : hasS (spreadL b true (g : Int)) (q : Int) = true) (hne : q ≠ g) : ∃ l ∈ jumpsOf b (q : Int), hasS (spreadL b true (g : Int)) ((q ^^^ bitsL l : Nat) : Int) = true := by
  obtain ⟨_, _, hq, hr⟩ := has_spread.1 h
  rw [Int.toNat_natCast, Int.toNat_natCast] at hr
  obtain ⟨hb, _, hsub⟩ := pos_sub hg
  rw [Int.toNat_natCast] at hsub
  cases hr with
  | refl => exact absurd rfl hne
  | step r l hr hl ha =>
    have ht := able_turn hl true ha
    refine ⟨l, ?_, ?_⟩
    · simp only [jumpsOf, hq, if_true]
      exact List.mem_filter.2 ⟨hl, by simpa [able] using ht⟩
    · rw [xor_xor]
      exact has_spread.2 ⟨hs, hg, sub_pos hb (rch_sub hsub hr), by rw [Int.toNat_natCast, Int.toNat_natCast]; exact hr⟩
structure WayOk (b : Brd) (p g : Nat) (s : Nat × List Ln) : Prop where
  has : hasS (spreadL b true (g : Int)) (s.1 : Int) = true
  ply : playF b (p : Int) s.2 = some (s.1 : Int)
  pos : positionOk b (s.1 : Int) = true
theorem way_step {b : Brd} {p g : Nat} {s : Nat × List Ln} (h : WayOk b p g s) {l : Ln} (hl : l ∈ jumpsOf b (s.1 : Int)) (hh : hasS (spreadL b true (g : Int)) ((s.1 ^^^ bitsL l : Nat) : Int) = true) : WayOk b p g (s.1 ^^^ bitsL l, s.2 ++ [l]) := by
  have hc := jumps_can hl
  have e : flip (s.1 : Int) l = ((s.1 ^^^ bitsL l : Nat) : Int) := by simp [flip]
  exact ⟨hh, by rw [← e]; exact playF_snoc h.ply hc, by rw [← e]; exact do_pos hc⟩
theorem wayN_ok {b : Brd} {p g : Nat} (hg : positionOk b (g : Int) = true) (hs : isSmall b = true) : ∀ (k : Nat) (s : Nat × List Ln), WayOk b p g s → pegs s.1 ≤ k → WayOk b p g (wayN b (spreadL b true (g : Int)) g k s) ∧ (wayN b (spreadL b true (g : Int)) g k s).1 = g
  | 0, s, h, hk => by
    refine ⟨h, ?_⟩
    simp only [wayN]
    apply Classical.byContradiction
    intro hne
    obtain ⟨l, hl, _⟩ := way_more hg hs h.has hne
    obtain ⟨_, hm, hc⟩ := jumps_mem hl
    have := pegs_jump hm hc
    omega
  | k + 1, s, h, hk => by
    simp only [wayN]
    split
    · rename_i e; exact ⟨h, e⟩
    · rename_i hne
      cases hf : (jumpsOf b (s.1 : Int)).find? (fun l => hasS (spreadL b true (g : Int)) ((s.1 ^^^ bitsL l : Nat) : Int)) with
      | none =>
        obtain ⟨l, hl, hh⟩ := way_more hg hs h.has hne
        exact absurd hh (by simpa using List.find?_eq_none.1 hf l hl)
      | some l =>
        have hl := List.mem_of_find?_eq_some hf
        have hh := List.find?_some hf
        obtain ⟨_, hm, hc⟩ := jumps_mem hl
        have := pegs_jump hm hc
        exact wayN_ok hg hs k _ (way_step h hl hh) (by simp only; omega)
theorem wayTo_no (b : Brd) (p g : Int) (p2 : p ≤ 9223372036854775807) (g2 : g ≤ 9223372036854775807) (h : canReach b p g = false) : PC Try.prog 8 [] [.a (brdC b), .c (.v (.int .i64 p)), .c (.v (.int .i64 g))] (.t [.c (.l 3 []), .c (.v (.bool false))]) ⟨[], []⟩ := by
  refine pc_of Try.func8 rfl (by kernel_rfl) _ Try.ntmps8 (by simp) ?_
  repeat' first
    | (first | simp -implicitDefEqProofs only [h, go_sem] | (refine And.intro ?_ ?_; omega) | (refine And.intro (shr_bd ?_ ?_) ?_; omega; omega) | refine sl_list rfl ?_ | refine sd_list rfl ?_ | refine sl_str ?_ | refine sd_str ?_)
    | refine callS (CanReach_c b p g p2 g2) rfl rfl rfl ?_
  refine fin_see ?_
  simp -implicitDefEqProofs only [go_sem]
  exact fin_of (fun i => i) (fun i => i) ⟨by simp <;> omega, by simp <;> omega, by simp <;> omega, by simp <;> omega, by simp <;> omega⟩ (by simp <;> omega) rfl
set_option maxHeartbeats 8000000 in
theorem wayTo_ex (b : Brd) (p g : Nat) (hg : positionOk b (g : Int) = true) (h : canReach b (p : Int) (g : Int) = true) : ∃ ls : List Ln, playF b (p : Int) ls = some (g : Int) ∧ PC Try.prog 8 [] [.a (brdC b), .c (.v (.int .i64 (p : Int))), .c (.v (.int .i64 (g : Int)))] (.t [.c (.l 3 (ls.map lineV)), .c (.v (.bool true))]) ⟨[], []⟩ := by
  have hh := h
  rw [canReach_back] at hh
  obtain ⟨hs, _, hp, hb, _, hsub, hlt0, _⟩ := spread_at hh
  have p1 := pos_le hp
  have g1 := pos_le hg
  obtain ⟨F, eF⟩ : ∃ F, F = wayN b (spreadL b true (g : Int)) g (pegs p) (p, []) := ⟨_, rfl⟩
  have w0 : WayOk b p g (p, []) := ⟨hh, rfl, hp⟩
  have hF := wayN_ok hg hs (pegs p) _ w0 (Nat.le_refl _)
  rw [← eF] at hF
  have hsl : (spreadL b true (g : Int)).length = boardN b := by
    simp only [spreadL, hs, hg, and_self, if_true, seenL_len]
  refine ⟨F.2, by rw [hF.1.ply, hF.2], ?_⟩
  refine pc_of Try.func8 rfl (by kernel_rfl) _ Try.ntmps8 (by simp) ?_
  repeat' first
    | (first | simp -implicitDefEqProofs only [h, go_sem] | (refine And.intro ?_ ?_; omega) | (refine And.intro (shr_bd ?_ ?_) ?_; omega; omega) | refine sl_list rfl ?_ | refine sd_list rfl ?_ | refine sl_str ?_ | refine sd_str ?_)
    | refine callS (CanReach_c b p g (by omega) (by omega)) rfl rfl rfl ?_
    | refine callL1 (fun d => l15Back_c d b g hs hg) rfl rfl rfl ?_
  refine loop_step (X := Nat × List Ln) (fun x => ⟨59, [(1, vN x.1), (2, vN g), (3, .s (.c (.p 3 0))), (8, vO 12), (9, vO 21)], ⟨[(3, brdC b)], [(12, ⟨35, 3, x.2.map lineV, false, true⟩), (21, ⟨4, 1, (spreadL b true (g : Int)).map Value.bool, false, true⟩)]⟩⟩)
    (fun x => WayOk b p g x ∧ wayN b (spreadL b true (g : Int)) g (pegs x.1) x = F) (fun x => pegs x.1) (p, []) ⟨w0, eF.symm⟩ (weak_of (fun i => i) (fun i => i) rfl ⟨by simp <;> omega, by simp <;> omega, by simp <;> omega, by simp <;> omega, by simp <;> omega⟩ (by simp <;> omega)) (fun x hx => ?_)
  obtain ⟨q, ls⟩ := x
  obtain ⟨hx1, hx2⟩ := hx
  simp only at hx2
  have hq := pos_le hx1.pos
  have hll := playF_len (by omega) hx1.ply
  have hjl := jumps_len (b := b) (p := (q : Int))
  have pg : pegs p ≤ 49 := cardN_le
  simp only [Int.toNat_natCast] at hll hq
  by_cases e : q = g
  · have e1 : wayN b (spreadL b true (g : Int)) g (pegs q) (q, ls) = (q, ls) := by
      cases pegs q with
      | zero => rfl
      | succ k => simp [wayN, e]
    rw [e1] at hx2
    subst hx2
    subst e
    (repeat' (first | simp -implicitDefEqProofs only [go_sem] | (refine And.intro ?_ ?_; omega) | (refine And.intro (shr_bd ?_ ?_) ?_; omega; omega) | refine sl_list rfl ?_ | refine sd_list rfl ?_ | refine sl_str ?_ | refine sd_str ?_))
    refine fin_see ?_
    simp -implicitDefEqProofs only [go_sem]
    exact fin_of (fun i => i) (fun i => i) ⟨by simp <;> omega, by simp <;> omega, by simp <;> omega, by simp <;> omega, by simp <;> omega⟩ (by simp <;> omega) rfl
  · have e' : ((q : Int) = g) = False := eq_false (by omega)
    obtain ⟨l0, hl0, hh0⟩ : ∃ l ∈ jumpsOf b (q : Int), hasS (spreadL b true (g : Int)) ((q ^^^ bitsL l : Nat) : Int) = true := way_more hg hs hx1.has e
    have hpq : 0 < pegs q := by
      obtain ⟨_, hm, hc⟩ := jumps_mem hl0
      have := pegs_jump hm hc
      omega
    obtain ⟨k, ek⟩ : ∃ k, pegs q = k + 1 := ⟨pegs q - 1, by omega⟩
    rw [ek] at hx2
    simp only [wayN, if_neg e] at hx2
    repeat' first
      | (first | simp -implicitDefEqProofs only [e', go_sem] | (refine And.intro ?_ ?_; omega) | (refine And.intro (shr_bd ?_ ?_) ?_; omega; omega) | refine sl_list rfl ?_ | refine sd_list rfl ?_ | refine sl_str ?_ | refine sd_str ?_)
      | refine callL1 (fun d => JumpsOf_c d b q (by omega)) rfl rfl rfl ?_
    refine loop_step (X := Nat) (fun j => ⟨59, [(1, vN q), (2, vN g), (3, .s (.c (.p 3 0))), (8, vO 12), (9, vO 21), (10, vO 27), (11, vN j)], ⟨[(3, brdC b)], [(12, ⟨35, 3, ls.map lineV, false, true⟩), (21, ⟨4, 1, (spreadL b true (g : Int)).map Value.bool, false, true⟩), (27, ⟨35, 3, (jumpsOf b (q : Int)).map lineV, false, true⟩)]⟩⟩)
      (fun j => j ≤ (jumpsOf b (q : Int)).length ∧ ∀ j' (hj : j' < (jumpsOf b (q : Int)).length), j' < j → hasS (spreadL b true (g : Int)) ((q ^^^ bitsL (jumpsOf b (q : Int))[j'] : Nat) : Int) = false) (fun j => (jumpsOf b (q : Int)).length - j) 0 ⟨by omega, fun _ _ h => by omega⟩ (weak_of (fun i => i) (fun i => i) rfl ⟨by simp <;> omega, by simp <;> omega, by simp <;> omega, by simp <;> omega, by simp <;> omega⟩ (by simp <;> omega)) (fun j hj => ?_)
    obtain ⟨hj1, hj2⟩ := hj
    by_cases hlt : j < (jumpsOf b (q : Int)).length
    · have e0 : ((j : Int) < (jumpsOf b (q : Int)).length) = True := eq_true (by omega)
      have hg1 := map_get (f := lineV) hlt
      have hml := List.getElem_mem hlt
      obtain ⟨_, hm, hcj⟩ := jumps_mem hml
      have hln := lnIn hm
      have hbl := bitsL_le hln
      have q5 := xor63 (a := q) (c := bitsL (jumpsOf b (q : Int))[j]) (by omega) (by omega)
      obtain ⟨_, _, fls⟩ := pos_sub (flip_pos hx1.pos hm hcj)
      have ef : (flip (q : Int) (jumpsOf b (q : Int))[j]).toNat = q ^^^ bitsL (jumpsOf b (q : Int))[j] := by simp [flip]
      rw [ef] at fls
      have hflt : q ^^^ bitsL (jumpsOf b (q : Int))[j] < (spreadL b true (g : Int)).length := by rw [hsl]; exact sub_lt hb fls
      have hgg : ((spreadL b true (g : Int)).map Value.bool)[q ^^^ bitsL (jumpsOf b (q : Int))[j]]? = some (.bool (spreadL b true (g : Int))[q ^^^ bitsL (jumpsOf b (q : Int))[j]]) := by simp [hflt]
      have eg : hasS (spreadL b true (g : Int)) ((q ^^^ bitsL (jumpsOf b (q : Int))[j] : Nat) : Int) = (spreadL b true (g : Int))[q ^^^ bitsL (jumpsOf b (q : Int))[j]] := by simp [hasS, hflt]
      have hpj := pegs_jump hm hcj
      (repeat' (first | simp -implicitDefEqProofs only [e0, hg1, hlt, lineV, go_sem] | (refine And.intro ?_ ?_; omega) | (refine And.intro (shr_bd ?_ ?_) ?_; omega; omega) | refine sl_list rfl ?_ | refine sd_list rfl ?_ | refine sl_str ?_ | refine sd_str ?_))
      refine callS (l05Bits_c (jumpsOf b (q : Int))[j] hln) rfl rfl rfl ?_
      (repeat' (first | simp -implicitDefEqProofs only [hgg, hflt, Int.toNat_natCast, go_sem] | (refine And.intro ?_ ?_; omega) | (refine And.intro (shr_bd ?_ ?_) ?_; omega; omega) | refine sl_list rfl ?_ | refine sd_list rfl ?_ | refine sl_str ?_ | refine sd_str ?_))
      refine if_split (fun h3 => ?_) (fun h3 => ?_)
      · have hfind := find_at' (p := fun l => hasS (spreadL b true (g : Int)) ((q ^^^ bitsL l : Nat) : Int)) hlt hj2 (by simp only [eg]; exact h3)
        rw [hfind] at hx2
        simp only at hx2
        have hst := way_step hx1 hml (by simp only [eg]; exact h3)
        repeat' first
          | (first | simp -implicitDefEqProofs only [hg1, hlt, lineV, Int.toNat_natCast, go_sem] | (refine And.intro ?_ ?_; omega) | (refine And.intro (shr_bd ?_ ?_) ?_; omega; omega) | refine sl_list rfl ?_ | refine sd_list rfl ?_ | refine sl_str ?_ | refine sd_str ?_)
          | refine callS (l05Bits_c (jumpsOf b (q : Int))[j] hln) rfl rfl rfl ?_
        exact ⟨(q ^^^ bitsL (jumpsOf b (q : Int))[j], ls ++ [(jumpsOf b (q : Int))[j]]), ⟨hst, by
          have : pegs (q ^^^ bitsL (jumpsOf b (q : Int))[j]) = k := by omega
          simp only [this]; exact hx2⟩, by simp only; omega, weak_of (fun i => i) (fun i => if i = 12 then 50 else i) rfl ⟨by simp [lineV] <;> omega, by simp [lineV] <;> omega, by simp [lineV] <;> omega, by simp [lineV] <;> omega, by simp [lineV] <;> omega⟩ (by simp [lineV] <;> omega)⟩
      · (repeat' (first | simp -implicitDefEqProofs only [go_sem] | (refine And.intro ?_ ?_; omega) | (refine And.intro (shr_bd ?_ ?_) ?_; omega; omega) | refine sl_list rfl ?_ | refine sd_list rfl ?_ | refine sl_str ?_ | refine sd_str ?_))
        exact ⟨j + 1, ⟨by omega, fun j' hj' hlt' => by
          by_cases ej : j' = j
          · subst ej; rw [eg]; exact h3
          · exact hj2 j' hj' (by omega)⟩, by omega, weak_of (fun i => i) (fun i => i) rfl ⟨by simp <;> omega, by simp <;> omega, by simp <;> omega, by simp <;> omega, by simp <;> omega⟩ (by simp <;> omega)⟩
    · exfalso
      obtain ⟨j', hj', rfl⟩ := List.mem_iff_getElem.1 hl0
      have := hj2 j' hj' (by omega)
      rw [this] at hh0
      cases hh0
end Go.Proofs.Ytahnbliabllflaa
namespace Go.Proofs.Ytahnbliabllflaa
open Go.PL
set_option linter.unusedSimpArgs false
/-- what is said of a drawn game -/
structure DrawnG (g : Gm) : Prop where
  ok : gameOk g = true
  len : g.j.length ≤ 49
  h : 0 ≤ g.h ∧ g.h ≤ 2
  u : 0 ≤ g.u ∧ g.u ≤ 2
theorem drawnG {b : Brd} {p q h u r : Int} {ls : List Ln} (hx : puzzleOk ⟨b, p, q⟩ = true) (hp : playF b p ls = some r) (hh : 0 ≤ h ∧ h ≤ 2) (hu : 0 ≤ u ∧ u ≤ 2) : DrawnG ⟨⟨b, p, q⟩, ls, h, u⟩ := by
  have hx' := hx
  simp only [puzzleOk, Bool.and_eq_true] at hx'
  obtain ⟨_, p0, _⟩ := pos_sub hx'.2.1
  have hl := playF_len p0 hp
  have pg : pegs p.toNat ≤ 49 := cardN_le
  have w1 : within h 0 1000 = true := within_iff.2 (by omega)
  have w2 : within u 0 1000 = true := within_iff.2 (by omega)
  have hpl : playAll b p ls = some r := by
    unfold playAll
    rw [if_pos ⟨hx'.2.1, by omega⟩]; exact hp
  exact ⟨by simp [gameOk, hx, w1, w2, hpl], by simp only; omega, hh, hu⟩
end Go.Proofs.Ytahnbliabllflaa
namespace Go.Proofs.Ytahnbliabllflaa
open Go.PL
set_option linter.unusedSimpArgs false
/-- what is said of a drawn table -/
structure DrawnT (t : Tb) : Prop where
  g : DrawnG t.g ∨ ∃ h, 0 ≤ h ∧ h ≤ 2 ∧ DrawnG { t.g with h := h } ∧ t.g.h = 0
  c : ClkIn t.c.a t.c.b t.c.c
  n : 1 ≤ t.n ∧ t.n ≤ 9
  r : RsOk t.r
end Go.Proofs.Ytahnbliabllflaa
