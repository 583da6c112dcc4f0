/-
  What the functions compute that let a clock tick, copy a table and lay a new game and clock into it.
  What the functions compute that play a jump on a table and take one back.
  What the functions compute that list the jumps, the good jumps, and give a hint.
-/
import Derived.Test.YtahnbliabllflaaV1
import Derived.Test.YtahnbliabllflaaL2
import Derived.Test.YtahnbliabllflaaP2
import Derived.Test.YtahnbliabllflaaU1
namespace Go.Proofs.Ytahnbliabllflaa
open Go.PL
set_option linter.unusedSimpArgs false
theorem clockOk_bd {c : Ck} (h : clockOk c = true) : 0 ≤ c.a ∧ c.a ≤ 100000 ∧ 0 ≤ c.b ∧ c.b ≤ 600 ∧ 0 ≤ c.c ∧ c.c ≤ 1000 := by
  simp only [clockOk, Bool.and_eq_true, within_iff] at h
  omega
/-- the clock after so many seconds -/
def tickd (c : Ck) (s : Int) : Ck := ⟨c.a - s + c.b, c.b, c.c + 1⟩
def tickOk (c : Ck) (s : Int) : Bool := clockOk c && (within s 0 c.a && clockOk (tickd c s))
def tickC (c : Ck) (s : Int) : Ck := if tickOk c s = true then tickd c s else c
/-- a game and a clock laid into a table -/
def layG (t : Tb) (g : Gm) (c : Ck) : Tb := { t with g := g, c := c }
end Go.Proofs.Ytahnbliabllflaa
namespace Go.Proofs.Ytahnbliabllflaa
open Go.PL
set_option linter.unusedSimpArgs false
/-- lists short enough to be copied -/
structure TbS (t : Tb) : Prop where
  x : pzIn t.g.x
  j : t.g.j.length ≤ 1048576
  r : t.r.length ≤ 1048576
theorem TbS.tb {t : Tb} (h : TbS t) : TbIn t := ⟨⟨h.x, by have := h.j; omega⟩, h.r⟩
def stepOk (t : Tb) : Bool := tableOk t && backOk t.g
def stepT (t : Tb) : Tb := if stepOk t = true then layG t (backR t.g) t.c else t
theorem stepT_len {t : Tb} (h : TbS t) : (stepT t).g.j.length ≤ 1048576 ∧ (stepT t).r.length ≤ 1048576 := by
  have h1 := backR_len (g := t.g)
  have h2 := h.j
  have h3 := h.r
  unfold stepT layG
  split
  · exact ⟨by simp only; omega, h3⟩
  · exact ⟨h2, h3⟩
def playOk (t : Tb) (l : Ln) (s : Int) : Bool := tableOk t && (makeOk t.g l && tickOk t.c s)
def playT (t : Tb) (l : Ln) (s : Int) : Tb := if playOk t l s = true then layG t (makeG t.g l) (tickC t.c s) else t
theorem playT_len {t : Tb} {l : Ln} {s : Int} (h : TbS t) : (playT t l s).g.j.length ≤ 1048577 ∧ (playT t l s).r.length ≤ 1048576 := by
  have h1 := makeG_len (g := t.g) (l := l) h.j
  have h2 := h.j
  have h3 := h.r
  unfold playT layG
  split
  · exact ⟨by simp only; omega, h3⟩
  · exact ⟨by omega, h3⟩
end Go.Proofs.Ytahnbliabllflaa
namespace Go.Proofs.Ytahnbliabllflaa
open Go.PL
set_option linter.unusedSimpArgs false
def jumpsOf (b : Brd) (p : Int) : List Ln := if positionOk b p = true then (linesOf b).filter (canJ p) else []
theorem jumps_mem {b : Brd} {p : Int} {l : Ln} (h : l ∈ jumpsOf b p) : positionOk b p = true ∧ l ∈ linesOf b ∧ canJ p l = true := by
  unfold jumpsOf at h
  split at h
  · rename_i hp
    have := List.mem_filter.1 h
    exact ⟨hp, this.1, this.2⟩
  · simp at h
theorem jumps_len {b : Brd} {p : Int} : (jumpsOf b p).length ≤ 196 := by
  have h1 := linesOf_len (b := b)
  unfold jumpsOf
  split
  · have := List.length_filter_le (canJ p) (linesOf b)
    omega
  · simp
theorem flip_pos {b : Brd} {p : Int} {l : Ln} (hp : positionOk b p = true) (hm : l ∈ linesOf b) (hc : canJ p l = true) : positionOk b (flip p l) = true := by
  obtain ⟨hb, p0, hs⟩ := pos_sub hp
  have ha : able false p.toNat l = true := by simp only [able, Bool.false_eq_true, if_false]; rw [Int.toNat_of_nonneg p0]; exact hc
  exact sub_pos hb (rch_sub hs (.step _ l .refl hm ha))
theorem jumpI_flip {b : Brd} {p : Int} {l : Ln} (hp : positionOk b p = true) (hm : l ∈ linesOf b) (hc : canJ p l = true) : jumpI p l = flip p l := by
  obtain ⟨hb, p0, hs⟩ := pos_sub hp
  obtain ⟨hne0, hne1, hne2⟩ := line_ne hm
  rw [jumpI, if_pos hc, jmp_flip p0 (lnIn hm) hne1 hne2 hc]; rfl
set_option maxHeartbeats 4000000 in
theorem JumpsOf_c (d : Nat) (b : Brd) (p : Int) (p2 : p ≤ 9223372036854775807) : PC Try.prog 24 [] [.a (brdC b), .c (.v (.int .i64 p))] (.s (.c (.o d))) ⟨[], [(d, ⟨35, 3, (jumpsOf b p).map lineV, false, true⟩)]⟩ := by
  refine pc_of Try.func24 rfl (by kernel_rfl) _ Try.ntmps24 (by simp) ?_
  have hl := linesOf_len (b := b)
  repeat' first
    | (first | simp -implicitDefEqProofs only [go_sem] | (refine And.intro ?_ ?_; omega) | (refine And.intro (shr_bd ?_ ?_) ?_; omega; omega) | refine sl_list rfl ?_ | refine sd_list rfl ?_ | refine sl_str ?_ | refine sd_str ?_)
    | refine callL1 (fun d => LinesOf_c d b) rfl rfl rfl ?_
  by_cases hp : positionOk b p = true
  · have e : jumpsOf b p = (linesOf b).filter (canJ p) := by simp [jumpsOf, hp]
    obtain ⟨hb, p0, hs⟩ := pos_sub hp
    refine loop_step (X := Nat) (fun i => ⟨51, [(1, vN p), (2, .s (.c (.p 2 0))), (5, vO 8), (6, vO 10), (7, vN i)], ⟨[(2, brdC b)], [(8, ⟨35, 3, (filN (canJ p) (linesOf b) i).map lineV, false, true⟩), (10, ⟨35, 3, (linesOf b).map lineV, false, true⟩)]⟩⟩)
      (fun i => i ≤ (linesOf b).length) (fun i => (linesOf b).length - i) 0 (by omega) (weak_of (fun i => i) (fun i => i) rfl ⟨by simp [filN_zero] <;> omega, by simp [filN_zero] <;> omega, by simp [filN_zero] <;> omega, by simp [filN_zero] <;> omega, by simp [filN_zero] <;> omega⟩ (by simp [filN_zero] <;> omega)) (fun i hi => ?_)
    have hf := filN_len (p := canJ p) (l := linesOf b) (i := i)
    by_cases hlt : i < (linesOf b).length
    · have e0 : ((i : Int) < (linesOf b).length) = True := eq_true (by omega)
      have hg := map_get (f := lineV) hlt
      have hm := List.getElem_mem hlt
      have hln := lnIn hm
      obtain ⟨hne0, hne1, hne2⟩ := line_ne hm
      have hbl := bitsL_le hln
      have q1 := pow48 hln.f0 hln.f1
      have q2 := pow48 hln.o0 hln.o1
      have q3 := or63 (a := 2 ^ (linesOf b)[i].f.toNat) (c := 2 ^ (linesOf b)[i].o.toNat) (by omega) (by omega)
      have hc := can_and p0 hln hne1 hne2
      have f0 := hln.f0
      have f1 := hln.f1
      have o0 := hln.o0
      have o1 := hln.o1
      (repeat' (first | simp -implicitDefEqProofs only [e0, go_sem] | (refine And.intro ?_ ?_; omega) | (refine And.intro (shr_bd ?_ ?_) ?_; omega; omega) | refine sl_list rfl ?_ | refine sd_list rfl ?_ | refine sl_str ?_ | refine sd_str ?_))
      refine callS (PositionOk_c b p p2) rfl rfl rfl ?_
      (repeat' (first | simp -implicitDefEqProofs only [hp, go_sem] | (refine And.intro ?_ ?_; omega) | (refine And.intro (shr_bd ?_ ?_) ?_; omega; omega) | refine sl_list rfl ?_ | refine sd_list rfl ?_ | refine sl_str ?_ | refine sd_str ?_))
      refine draw_step Try.pl_follows (by kernel_rfl) ?_
      (repeat' (first | simp -implicitDefEqProofs only [hg, hlt, lineV, go_sem] | (refine And.intro ?_ ?_; omega) | (refine And.intro (shr_bd ?_ ?_) ?_; omega; omega) | refine sl_list rfl ?_ | refine sd_list rfl ?_ | refine sl_str ?_ | refine sd_str ?_))
      refine callD (l05Bits_c (linesOf b)[i] hln) rfl rfl rfl ?_
      by_cases h3 : canJ p (linesOf b)[i] = true
      · have e1 : (((p.toNat &&& bitsL (linesOf b)[i] : Nat) : Int) = ((2 ^ (linesOf b)[i].f.toNat ||| 2 ^ (linesOf b)[i].o.toNat : Nat) : Int)) = True := eq_true (by rw [hc.2 h3])
        have e2 := filN_hit (p := canJ p) hlt h3
        (repeat' (first | simp -implicitDefEqProofs only [hg, hlt, lineV, e1, go_sem] | (refine And.intro ?_ ?_; omega) | (refine And.intro (shr_bd ?_ ?_) ?_; omega; omega) | refine sl_list rfl ?_ | refine sd_list rfl ?_ | refine sl_str ?_ | refine sd_str ?_))
        exact ⟨i + 1, by omega, by omega, weak_of (fun i => i) (fun i => if i = 8 then 49 else i) rfl ⟨by simp [e2, lineV] <;> omega, by simp [e2, lineV] <;> omega, by simp [e2, lineV] <;> omega, by simp [e2, lineV] <;> omega, by simp [e2, lineV] <;> omega⟩ (by simp [e2, lineV] <;> omega)⟩
      · have e1 : (((p.toNat &&& bitsL (linesOf b)[i] : Nat) : Int) = ((2 ^ (linesOf b)[i].f.toNat ||| 2 ^ (linesOf b)[i].o.toNat : Nat) : Int)) = False := eq_false (fun h => h3 (hc.1 (by omega)))
        have e2 := filN_miss (p := canJ p) hlt (by simpa using h3)
        (repeat' (first | simp -implicitDefEqProofs only [hg, hlt, lineV, e1, go_sem] | (refine And.intro ?_ ?_; omega) | (refine And.intro (shr_bd ?_ ?_) ?_; omega; omega) | refine sl_list rfl ?_ | refine sd_list rfl ?_ | refine sl_str ?_ | refine sd_str ?_))
        exact ⟨i + 1, by omega, by omega, weak_of (fun i => i) (fun i => i) rfl ⟨by simp [e2] <;> omega, by simp [e2] <;> omega, by simp [e2] <;> omega, by simp [e2] <;> omega, by simp [e2] <;> omega⟩ (by simp [e2] <;> omega)⟩
    · have e0 : ((i : Int) < (linesOf b).length) = False := eq_false (by omega)
      have hle : i = (linesOf b).length := by omega
      subst hle
      (repeat' (first | simp -implicitDefEqProofs only [e0, go_sem] | (refine And.intro ?_ ?_; omega) | (refine And.intro (shr_bd ?_ ?_) ?_; omega; omega) | refine sl_list rfl ?_ | refine sd_list rfl ?_ | refine sl_str ?_ | refine sd_str ?_))
      exact fin_of (fun i => i) (fun i => 8) ⟨by simp [e, filN_end] <;> omega, by simp [e, filN_end] <;> omega, by simp [e, filN_end] <;> omega, by simp [e, filN_end] <;> omega, by simp [e, filN_end] <;> omega⟩ (by simp [e, filN_end] <;> omega) (by first | rfl | (simp [renPV, renV1, renC, e, filN_end]))
  · have e : jumpsOf b p = [] := by simp [jumpsOf, hp]
    refine loop_step (X := Nat) (fun i => ⟨51, [(1, vN p), (2, .s (.c (.p 2 0))), (5, vO 8), (6, vO 10), (7, vN 0)], ⟨[(2, brdC b)], [(8, ⟨35, 3, [], false, true⟩), (10, ⟨35, 3, (linesOf b).map lineV, false, true⟩)]⟩⟩)
      (fun i => True) (fun i => 0) 0 trivial (weak_of (fun i => i) (fun i => i) rfl ⟨by simp <;> omega, by simp <;> omega, by simp <;> omega, by simp <;> omega, by simp <;> omega⟩ (by simp <;> omega)) (fun i hi => ?_)
    by_cases hlt : (0 : Int) < (linesOf b).length
    · (repeat' (first | simp -implicitDefEqProofs only [hlt, go_sem] | (refine And.intro ?_ ?_; omega) | (refine And.intro (shr_bd ?_ ?_) ?_; omega; omega) | refine sl_list rfl ?_ | refine sd_list rfl ?_ | refine sl_str ?_ | refine sd_str ?_))
      refine callS (PositionOk_c b p p2) rfl rfl rfl ?_
      (repeat' (first | simp -implicitDefEqProofs only [hp, go_sem] | (refine And.intro ?_ ?_; omega) | (refine And.intro (shr_bd ?_ ?_) ?_; omega; omega) | refine sl_list rfl ?_ | refine sd_list rfl ?_ | refine sl_str ?_ | refine sd_str ?_))
      exact fin_of (fun i => i) (fun i => 8) ⟨by simp [e] <;> omega, by simp [e] <;> omega, by simp [e] <;> omega, by simp [e] <;> omega, by simp [e] <;> omega⟩ (by simp [e] <;> omega) (by first | rfl | (simp [renPV, renV1, renC, e]))
    · (repeat' (first | simp -implicitDefEqProofs only [hlt, go_sem] | (refine And.intro ?_ ?_; omega) | (refine And.intro (shr_bd ?_ ?_) ?_; omega; omega) | refine sl_list rfl ?_ | refine sd_list rfl ?_ | refine sl_str ?_ | refine sd_str ?_))
      exact fin_of (fun i => i) (fun i => 8) ⟨by simp [e] <;> omega, by simp [e] <;> omega, by simp [e] <;> omega, by simp [e] <;> omega, by simp [e] <;> omega⟩ (by simp [e] <;> omega) (by first | rfl | (simp [renPV, renV1, renC, e]))
noncomputable def goodAt' (b : Brd) (p g : Int) (l : Ln) : Bool := hasS (spreadL b true g) (flip p l)
noncomputable def goodJ (b : Brd) (p g : Int) : List Ln := (jumpsOf b p).filter (goodAt' b p g)
theorem goodJ_no {b : Brd} {p g : Int} (h : puzzleOk ⟨b, p, g⟩ = false) : goodJ b p g = [] := by
  unfold goodJ
  rw [List.filter_eq_nil_iff]
  intro l hl hg
  obtain ⟨hp, _, _⟩ := jumps_mem hl
  have := has_spread.1 (show hasS (spreadL b true g) (flip p l) = true from hg)
  simp [puzzleOk, this.1, this.2.1, hp] at h
theorem goodJ_len {b : Brd} {p g : Int} : (goodJ b p g).length ≤ 196 := by
  have h1 := jumps_len (b := b) (p := p)
  have := List.length_filter_le (goodAt' b p g) (jumpsOf b p)
  unfold goodJ
  omega
noncomputable def hintFor (x : Pz) (now : Int) : Option Ln := if puzzleOk x = true ∧ positionOk x.b now = true then (goodJ x.b now x.g).head? else none
theorem head_cons {l : List Ln} (h : 0 < l.length) : l.head? = some l[0] := by
  cases l with
  | nil => simp at h
  | cons a r => rfl
end Go.Proofs.Ytahnbliabllflaa
