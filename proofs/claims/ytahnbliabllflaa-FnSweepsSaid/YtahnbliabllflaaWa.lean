/-
  Plain laws: the least number of sweeps; a game in its sweeps.
-/
import Derived.Test.YtahnbliabllflaaSB
import Derived.Test.YtahnbliabllflaaD6
import Derived.Test.YtahnbliabllflaaR4
namespace Go.Proofs.Ytahnbliabllflaa
open Go.PL
set_option linter.unusedSimpArgs false
set_option linter.unusedVariables false
/-! ### sweeps of a game -/
/-- the sweeps that a game begins, if the last jump before it ended in 'last' -/
def swp : Int → List Ln → Int
  | _, [] => 0
  | last, l :: ls => (if l.f = last then 0 else 1) + swp l.t ls
def lastOf : Int → List Ln → Int
  | last, [] => last
  | _, l :: ls => lastOf l.t ls
theorem swp_nn : ∀ {ls : List Ln} {last : Int}, 0 ≤ swp last ls
  | [], _ => by simp [swp]
  | l :: ls, last => by
    have := swp_nn (ls := ls) (last := l.t)
    simp only [swp]; split <;> omega
theorem swp_snoc : ∀ {ls : List Ln} {last : Int} {l : Ln}, swp last (ls ++ [l]) = swp last ls + (if l.f = lastOf last ls then 0 else 1)
  | [], last, l => by by_cases h : l.f = last <;> simp [swp, lastOf, h]
  | m :: ls, last, l => by
    have := swp_snoc (ls := ls) (last := m.t) (l := l)
    simp only [List.cons_append, swp, lastOf, this]; omega
theorem lastOf_snoc : ∀ {ls : List Ln} {last : Int} {l : Ln}, lastOf last (ls ++ [l]) = l.t
  | [], _, _ => rfl
  | m :: ls, _, l => by simp only [List.cons_append, lastOf]; exact lastOf_snoc
theorem lastOf_take {js : List Ln} {i : Nat} {d : Int} (h0 : i ≠ 0) (h : i ≤ js.length) : lastOf d (js.take i) = (js[i - 1]'(by omega)).t := by
  have e : js.take i = js.take (i - 1) ++ [js[i - 1]'(by omega)] := by
    have := List.take_succ_eq_append_getElem (l := js) (i := i - 1) (by omega)
    rwa [show i - 1 + 1 = i by omega] at this
  rw [e, lastOf_snoc]
theorem sweepsN_swp {js : List Ln} (hf : ∀ l ∈ js, l.f ≠ -1) : ∀ i, i ≤ js.length → (sweepsN js i : Int) = swp (-1) (js.take i)
  | 0, _ => by simp [sweepsN, swp]
  | i + 1, h => by
    have ih := sweepsN_swp hf i (by omega)
    have hlt : i < js.length := by omega
    rw [List.take_succ_eq_append_getElem hlt, swp_snoc, ← ih]
    by_cases h0 : i = 0
    · subst h0
      have hn : newAt js 0 = true := by simp [newAt]
      rw [sw_hit hn, List.take_zero, lastOf, if_neg (hf _ (List.getElem_mem hlt))]
      omega
    · rw [lastOf_take h0 (by omega)]
      have en := newAt_eq (js := js) h0 hlt
      by_cases he : js[i].f = (js[i - 1]'(by omega)).t
      · have : newAt js i = false := by rw [en]; simp [he]
        rw [sw_miss this, if_pos he]; omega
      · have : newAt js i = true := by rw [en]; simp [he]
        rw [sw_hit this, if_neg he]; omega
theorem sweeps_swp {js : List Ln} (hf : ∀ l ∈ js, l.f ≠ -1) : (sweeps js : Int) = swp (-1) js := by
  have := sweepsN_swp hf js.length (Nat.le_refl _)
  rwa [List.take_length] at this
theorem line_f {b : Brd} {l : Ln} (h : l ∈ linesOf b) : l.f ≠ -1 := by have := mem_line_bd h; omega
/-! ### the least number of sweeps -/
def better (best c : Int) : Int := if 0 ≤ c ∧ (best < 0 ∨ c < best) then c else best
/-- the best of the numbers seen: the least that is not negative; -1 if there is none -/
def Best (seen : List Int) (best : Int) : Prop := (best = -1 ∧ ∀ c ∈ seen, c < 0) ∨ (0 ≤ best ∧ best ∈ seen ∧ ∀ c ∈ seen, 0 ≤ c → best ≤ c)
theorem best_step {seen : List Int} {best c : Int} (h : Best seen best) : Best (seen ++ [c]) (better best c) := by
  unfold better
  rcases h with ⟨h1, h2⟩ | ⟨h1, h2, h3⟩
  · by_cases hc : 0 ≤ c
    · rw [if_pos ⟨hc, .inl (by omega)⟩]
      refine .inr ⟨hc, by simp, fun x hx hx0 => ?_⟩
      rcases List.mem_append.1 hx with hx | hx
      · have := h2 x hx; omega
      · rw [List.mem_singleton.1 hx]; omega
    · rw [if_neg (fun x => hc x.1)]
      refine .inl ⟨h1, fun x hx => ?_⟩
      rcases List.mem_append.1 hx with hx | hx
      · exact h2 x hx
      · rw [List.mem_singleton.1 hx]; omega
  · by_cases hc : 0 ≤ c ∧ c < best
    · rw [if_pos ⟨hc.1, .inr hc.2⟩]
      refine .inr ⟨hc.1, by simp, fun x hx hx0 => ?_⟩
      rcases List.mem_append.1 hx with hx | hx
      · have := h3 x hx hx0; omega
      · rw [List.mem_singleton.1 hx]; omega
    · rw [if_neg (fun x => by rcases x.2 with y | y; omega; exact hc ⟨x.1, y⟩)]
      refine .inr ⟨h1, List.mem_append.2 (.inl h2), fun x hx hx0 => ?_⟩
      rcases List.mem_append.1 hx with hx | hx
      · exact h3 x hx hx0
      · rw [List.mem_singleton.1 hx] at hx0 ⊢; omega
theorem best_fold : ∀ (cs seen : List Int) (best : Int), Best seen best → Best (seen ++ cs) (cs.foldl better best)
  | [], seen, best, h => by simpa using h
  | c :: cs, seen, best, h => by
    have := best_fold cs (seen ++ [c]) (better best c) (best_step h)
    simpa using this
theorem best_of (cs : List Int) : Best cs (cs.foldl better (-1)) := by
  have := best_fold cs [] (-1) (.inl ⟨rfl, by simp⟩)
  simpa using this
/-- the least number of sweeps that are begun from q on, if the last jump before ended in 'last' (k: the number of pegs) -/
noncomputable def few (b : Brd) (S : List Bool) (g : Nat) : Nat → Nat → Int → Int
  | 0, q, _ => if q = g then 0 else -1
  | k + 1, q, last => if q = g then 0 else ((linesOf b).map fun l => if canJ (q : Int) l = true ∧ hasS S ((q ^^^ bitsL l : Nat) : Int) = true then few b S g k (q ^^^ bitsL l) l.t + (if l.f = last then 0 else 1) else -1).foldl better (-1)
/-- the same for the games that begin with a jump -/
noncomputable def costV (b : Brd) (S : List Bool) (g : Nat) (k q : Nat) (last : Int) (l : Ln) : Int :=
  if canJ (q : Int) l = true ∧ hasS S ((q ^^^ bitsL l : Nat) : Int) = true then few b S g k (q ^^^ bitsL l) l.t + (if l.f = last then 0 else 1) else -1
theorem few_goal {b : Brd} {S : List Bool} {g k : Nat} {last : Int} : few b S g k g last = 0 := by
  cases k <;> simp [few]
theorem few_eq {b : Brd} {S : List Bool} {g k q : Nat} {last : Int} (h : q ≠ g) : few b S g (k + 1) q last = ((linesOf b).map (costV b S g k q last)).foldl better (-1) := by
  rw [few, if_neg h]; rfl
section
variable {b : Brd} {g : Nat} (hg : positionOk b (g : Int) = true) (hs : isSmall b = true)
include hg hs
theorem few_nn : ∀ (k q : Nat) (last : Int), pegs q = k → hasS (spreadL b true (g : Int)) (q : Int) = true → 0 ≤ few b (spreadL b true (g : Int)) g k q last := by
  intro k
  induction k with
  | zero =>
    intro q last hk hq
    by_cases e : q = g
    · rw [e, few_goal]; omega
    · obtain ⟨l, hl, _⟩ := way_more hg hs hq e
      obtain ⟨_, hm, hc⟩ := jumps_mem hl
      have := pegs_jump hm hc
      omega
  | succ k ih =>
    intro q last hk hq
    by_cases e : q = g
    · rw [e, few_goal]; omega
    · obtain ⟨l, hl, hh⟩ := way_more hg hs hq e
      obtain ⟨_, hm, hc⟩ := jumps_mem hl
      have hp := pegs_jump hm hc
      have hi := ih (q ^^^ bitsL l) l.t (by omega) hh
      rw [few_eq e]
      have hB := best_of ((linesOf b).map (costV b (spreadL b true (g : Int)) g k q last))
      rcases hB with ⟨_, h2⟩ | ⟨h1, _⟩
      · have := h2 _ (List.mem_map.2 ⟨l, hm, rfl⟩)
        unfold costV at this
        rw [if_pos ⟨hc, hh⟩] at this
        split at this <;> omega
      · exact h1
/-- a jump that begins a game with the fewest sweeps -/
theorem few_jump {k q : Nat} {last : Int} (hk : pegs q = k + 1) (hq : hasS (spreadL b true (g : Int)) (q : Int) = true) (e : q ≠ g) :
    ∃ l ∈ linesOf b, costV b (spreadL b true (g : Int)) g k q last l = few b (spreadL b true (g : Int)) g (k + 1) q last := by
  have h0 := few_nn hg hs (k + 1) q last hk hq
  rw [few_eq e] at h0 ⊢
  have hB := best_of ((linesOf b).map (costV b (spreadL b true (g : Int)) g k q last))
  rcases hB with ⟨h1, _⟩ | ⟨_, h2, _⟩
  · omega
  · obtain ⟨l, hl, el⟩ := List.mem_map.1 h2
    exact ⟨l, hl, el⟩
omit hs hg in
theorem play_rch : ∀ {ls : List Ln} {p q : Nat}, playF b (p : Int) ls = some (q : Int) → Rch b false p q
  | [], p, q, h => by
    simp only [playF, Option.some.injEq] at h
    have : p = q := by omega
    subst this
    exact .refl
  | l :: ls, p, q, h => by
    simp only [playF] at h
    split at h
    · rename_i hc
      have ef : flip (p : Int) l = ((p ^^^ bitsL l : Nat) : Int) := by simp [flip]
      rw [ef] at h
      have ih := play_rch h
      simp only [canDo, Bool.and_eq_true] at hc
      exact rch_front (isLine_mem hc.2.1) (by simpa [able] using hc.2.2) ih
    · cases h
theorem play_has {ls : List Ln} {q : Nat} (hp : positionOk b (q : Int) = true) (h : playF b (q : Int) ls = some (g : Int)) : hasS (spreadL b true (g : Int)) (q : Int) = true := by
  refine has_spread.2 ⟨hs, hg, hp, ?_⟩
  rw [Int.toNat_natCast, Int.toNat_natCast]
  exact rch_both.1 (play_rch h)
/-- no game has fewer sweeps -/
theorem few_le : ∀ (k q : Nat) (last : Int) (ls : List Ln), pegs q = k → playF b (q : Int) ls = some (g : Int) → few b (spreadL b true (g : Int)) g k q last ≤ swp last ls := by
  intro k
  induction k with
  | zero =>
    intro q last ls hk h
    cases ls with
    | nil =>
      simp only [playF, Option.some.injEq] at h
      have : q = g := by omega
      rw [this, few_goal]; simp [swp]
    | cons l ls =>
      simp only [playF] at h
      split at h
      · rename_i hc
        simp only [canDo, Bool.and_eq_true] at hc
        have := pegs_jump (isLine_mem hc.2.1) hc.2.2
        omega
      · cases h
  | succ k ih =>
    intro q last ls hk h
    by_cases e : q = g
    · rw [e, few_goal]; exact swp_nn
    cases ls with
    | nil =>
      simp only [playF, Option.some.injEq] at h
      exact absurd (by omega) e
    | cons l ls =>
      simp only [playF] at h
      split at h
      · rename_i hc
        have hpos := do_pos hc
        simp only [canDo, Bool.and_eq_true] at hc
        have hm := isLine_mem hc.2.1
        have hp := pegs_jump hm hc.2.2
        have ef : flip (q : Int) l = ((q ^^^ bitsL l : Nat) : Int) := by simp [flip]
        rw [ef] at h hpos
        have hh := play_has hg hs hpos h
        have hi := ih (q ^^^ bitsL l) l.t ls (by omega) h
        have hn := few_nn hg hs k (q ^^^ bitsL l) l.t (by omega) hh
        rw [few_eq e]
        have hB := best_of ((linesOf b).map (costV b (spreadL b true (g : Int)) g k q last))
        have hcv : costV b (spreadL b true (g : Int)) g k q last l = few b (spreadL b true (g : Int)) g k (q ^^^ bitsL l) l.t + (if l.f = last then 0 else 1) := by
          unfold costV
          rw [if_pos ⟨hc.2.2, hh⟩]
        have hmem : costV b (spreadL b true (g : Int)) g k q last l ∈ (linesOf b).map (costV b (spreadL b true (g : Int)) g k q last) := List.mem_map.2 ⟨l, hm, rfl⟩
        simp only [swp]
        rcases hB with ⟨_, h2⟩ | ⟨_, _, h3⟩
        · have := h2 _ hmem
          rw [hcv] at this
          split at this <;> omega
        · have := h3 _ hmem (by rw [hcv]; split <;> omega)
          rw [hcv] at this
          omega
      · cases h
/-! ### a game with the fewest sweeps -/
end
/-- the game that the program finds: the first jump that goes on with the fewest sweeps, each time -/
noncomputable def swG (b : Brd) (S : List Bool) (g : Nat) : Nat → Nat × List Ln → Nat × List Ln
  | 0, s => s
  | k + 1, s => if s.1 = g then s else match (linesOf b).find? (fun l => decide (costV b S g k s.1 (lastOf (-1) s.2) l = few b S g (k + 1) s.1 (lastOf (-1) s.2))) with
    | some l => swG b S g k (s.1 ^^^ bitsL l, s.2 ++ [l])
    | none => s
structure SwOk (b : Brd) (p g : Nat) (s : Nat × List Ln) : Prop where
  has : hasS (spreadL b true (g : Int)) (s.1 : Int) = true
  ply : playF b (p : Int) s.2 = some (s.1 : Int)
  pos : positionOk b (s.1 : Int) = true
  tot : swp (-1) s.2 + few b (spreadL b true (g : Int)) g (pegs s.1) s.1 (lastOf (-1) s.2) = few b (spreadL b true (g : Int)) g (pegs p) p (-1)
theorem cost_can {b : Brd} {S : List Bool} {g k q : Nat} {last : Int} {l : Ln} (h : 0 ≤ costV b S g k q last l) : canJ (q : Int) l = true ∧ hasS S ((q ^^^ bitsL l : Nat) : Int) = true ∧ costV b S g k q last l = few b S g k (q ^^^ bitsL l) l.t + (if l.f = last then 0 else 1) := by
  unfold costV at h ⊢
  split at h
  · rename_i hc
    rw [if_pos hc]
    exact ⟨hc.1, hc.2, rfl⟩
  · omega
theorem sw_step {b : Brd} {p g : Nat} (hg : positionOk b (g : Int) = true) (hs : isSmall b = true) {s : Nat × List Ln} (h : SwOk b p g s) {k : Nat} (hk : pegs s.1 = k + 1) {l : Ln} (hl : l ∈ linesOf b)
    (hc : costV b (spreadL b true (g : Int)) g k s.1 (lastOf (-1) s.2) l = few b (spreadL b true (g : Int)) g (k + 1) s.1 (lastOf (-1) s.2)) : canJ (s.1 : Int) l = true ∧ SwOk b p g (s.1 ^^^ bitsL l, s.2 ++ [l]) := by
  have h0 := few_nn hg hs (k + 1) s.1 (lastOf (-1) s.2) hk h.has
  obtain ⟨h1, h2, h3⟩ := cost_can (by rw [hc]; exact h0)
  have hp := pegs_jump hl h1
  have hcd : canDo b (s.1 : Int) l = true := by simp [canDo, h.pos, h1, mem_isLine hl]
  have e : flip (s.1 : Int) l = ((s.1 ^^^ bitsL l : Nat) : Int) := by simp [flip]
  refine ⟨h1, h2, by simp only; rw [← e]; exact playF_snoc h.ply hcd, by simp only; rw [← e]; exact do_pos hcd, ?_⟩
  have ht := h.tot
  rw [hk, ← hc, h3] at ht
  have ek : pegs (s.1 ^^^ bitsL l) = k := by omega
  simp only [swp_snoc, lastOf_snoc, ek]
  omega
theorem swG_ok {b : Brd} {p g : Nat} (hg : positionOk b (g : Int) = true) (hs : isSmall b = true) : ∀ (k : Nat) (s : Nat × List Ln), SwOk b p g s → pegs s.1 = k → SwOk b p g (swG b (spreadL b true (g : Int)) g k s) ∧ (swG b (spreadL b true (g : Int)) g k s).1 = g
  | 0, s, h, hk => by
    refine ⟨h, ?_⟩
    simp only [swG]
    apply Classical.byContradiction
    intro hne
    obtain ⟨l, hl, _⟩ := way_more hg hs h.has hne
    obtain ⟨_, hm, hc⟩ := jumps_mem hl
    have := pegs_jump hm hc
    omega
  | k + 1, s, h, hk => by
    simp only [swG]
    split
    · rename_i e; exact ⟨h, e⟩
    · rename_i hne
      cases hf : (linesOf b).find? (fun l => decide (costV b (spreadL b true (g : Int)) g k s.1 (lastOf (-1) s.2) l = few b (spreadL b true (g : Int)) g (k + 1) s.1 (lastOf (-1) s.2))) with
      | none =>
        obtain ⟨l, hl, hc⟩ := few_jump hg hs (last := lastOf (-1) s.2) hk h.has hne
        have := List.find?_eq_none.1 hf l hl
        exact absurd (decide_eq_true hc) this
      | some l =>
        have hl := List.mem_of_find?_eq_some hf
        have hc := List.find?_some hf
        simp only [decide_eq_true_eq] at hc
        obtain ⟨h1, h2⟩ := sw_step hg hs h hk hl hc
        have := pegs_jump hl h1
        exact swG_ok hg hs k _ h2 (by simp only; omega)
/-! ### a game in its sweeps -/
def lastT (g : List Ln) : Int := lastOf (-1) g
def addS (out : List (List Ln)) (l : Ln) : List (List Ln) := match out.getLast? with
  | none => [[l]]
  | some g => if lastT g = l.f then out.dropLast ++ [g ++ [l]] else out ++ [[l]]
def splS (js : List Ln) : List (List Ln) := js.foldl addS []
theorem splS_next {js : List Ln} {i : Nat} (h : i < js.length) : splS (js.take (i + 1)) = addS (splS (js.take i)) js[i] := by
  unfold splS
  rw [List.take_succ_eq_append_getElem h, List.foldl_append]; rfl
/-- each jump goes on where the one before ended -/
def chn : List Ln → Prop
  | l :: m :: r => m.f = l.t ∧ chn (m :: r)
  | _ => True
theorem chn_snoc : ∀ {g : List Ln} {l : Ln}, chn g → g ≠ [] → lastT g = l.f → chn (g ++ [l])
  | [], _, _, h, _ => absurd rfl h
  | [a], l, _, _, h => ⟨by simpa [lastT, lastOf] using h.symm, trivial⟩
  | a :: m :: r, l, h, _, he => by
    have ih := chn_snoc (g := m :: r) (l := l) h.2 (by simp) (by simpa [lastT, lastOf] using he)
    exact ⟨h.1, ih⟩
theorem swp_chn : ∀ {g : List Ln} {last : Int}, chn g → g ≠ [] → (∀ l ∈ g, l.f ≠ last ∨ True) → swp last g = (if (g.head?.map (·.f)) = some last then 0 else 1)
  | [], _, _, h, _ => absurd rfl h
  | [a], last, _, _, _ => by simp [swp]
  | a :: m :: r, last, h, _, _ => by
    have ih := swp_chn (g := m :: r) (last := a.t) h.2 (by simp) (fun _ _ => .inr trivial)
    rw [swp, ih]
    simp [h.1]
structure Spl (js : List Ln) (i : Nat) (out : List (List Ln)) : Prop where
  flat : out.flatten = js.take i
  ne : ∀ g ∈ out, g ≠ []
  ch : ∀ g ∈ out, chn g
  len : out.length = sweepsN js i
theorem lastOf_app : ∀ {a b : List Ln} {d : Int}, lastOf d (a ++ b) = lastOf (lastOf d a) b
  | [], _, _ => rfl
  | x :: a, b, d => by simp only [List.cons_append, lastOf]; exact lastOf_app
theorem lastOf_ne {a : List Ln} {d e : Int} (h : a ≠ []) : lastOf d a = lastOf e a := by
  cases a with
  | nil => exact absurd rfl h
  | cons x a => rfl
/-- the last jump of the last sweep -/
theorem spl_last {js : List Ln} {i : Nat} {out : List (List Ln)} (h : Spl js i out) (h0 : i ≠ 0) (hi : i ≤ js.length) : ∃ (init : List (List Ln)) (g : List Ln), out = init ++ [g] ∧ g ≠ [] ∧ lastT g = (js[i - 1]'(by omega)).t := by
  have hne : out ≠ [] := fun e => by
    have := congrArg List.length h.flat
    rw [e, List.flatten_nil, List.length_nil, List.length_take] at this
    omega
  obtain ⟨init, g, e⟩ : ∃ init g, out = init ++ [g] := ⟨out.dropLast, out.getLast hne, (List.dropLast_concat_getLast hne).symm⟩
  have hgn := h.ne g (by rw [e]; simp)
  refine ⟨init, g, e, hgn, ?_⟩
  have hl := lastOf_take (js := js) (d := -1) h0 hi
  rw [← h.flat, e, List.flatten_append, List.flatten_cons, List.flatten_nil, List.append_nil, lastOf_app] at hl
  rw [← hl]
  exact lastOf_ne hgn
theorem spl_new {js : List Ln} {i : Nat} {out : List (List Ln)} (h : Spl js i out) (hi : i < js.length) (hn : newAt js i = true) : addS out js[i] = out ++ [[js[i]]] ∧ Spl js (i + 1) (out ++ [[js[i]]]) := by
  have e1 : addS out js[i] = out ++ [[js[i]]] := by
    by_cases h0 : i = 0
    · have : out = [] := by
        cases out with
        | nil => rfl
        | cons g r =>
          have hl := congrArg List.length h.flat
          rw [h0, List.take_zero] at hl
          have hg := h.ne g (by simp)
          have := List.length_pos_iff.2 hg
          rw [List.flatten_cons, List.length_append, List.length_nil] at hl
          omega
      rw [this]; rfl
    · obtain ⟨init, g, e, hg, hl⟩ := spl_last h h0 (by omega)
      have en := newAt_eq (js := js) h0 hi
      rw [en] at hn
      have hne : ¬ lastT g = js[i].f := by
        rw [hl]
        simp only [Bool.not_eq_true', decide_eq_false_iff_not] at hn
        exact fun e => hn e.symm
      unfold addS
      rw [e, List.getLast?_concat]
      simp only
      rw [if_neg hne]
  refine ⟨e1, ?_, ?_, ?_, ?_⟩
  · rw [List.flatten_append, h.flat, List.take_succ_eq_append_getElem hi]; rfl
  · intro g hg
    rcases List.mem_append.1 hg with hg | hg
    · exact h.ne g hg
    · rw [List.mem_singleton.1 hg]; simp
  · intro g hg
    rcases List.mem_append.1 hg with hg | hg
    · exact h.ch g hg
    · rw [List.mem_singleton.1 hg]; trivial
  · rw [List.length_append, h.len, sw_hit hn]; rfl
theorem spl_on {js : List Ln} {i : Nat} {out : List (List Ln)} (h : Spl js i out) (hi : i < js.length) (hn : newAt js i = false) :
    ∃ (init : List (List Ln)) (g : List Ln), out = init ++ [g] ∧ g ≠ [] ∧ addS out js[i] = init ++ [g ++ [js[i]]] ∧ Spl js (i + 1) (init ++ [g ++ [js[i]]]) := by
  have h0 : i ≠ 0 := fun e => by subst e; simp [newAt] at hn
  obtain ⟨init, g, e, hg, hl⟩ := spl_last h h0 (by omega)
  have en := newAt_eq (js := js) h0 hi
  rw [en] at hn
  have he : lastT g = js[i].f := by
    rw [hl]
    simp only [Bool.not_eq_false', decide_eq_true_eq] at hn
    exact hn.symm
  refine ⟨init, g, e, hg, ?_, ?_, ?_, ?_, ?_⟩
  · unfold addS
    rw [e, List.getLast?_concat]
    simp only
    rw [if_pos he, List.dropLast_concat]
  · have hf := h.flat
    rw [e, List.flatten_append, List.flatten_cons, List.flatten_nil, List.append_nil] at hf
    rw [List.flatten_append, List.flatten_cons, List.flatten_nil, List.append_nil, ← List.append_assoc, hf, List.take_succ_eq_append_getElem hi]
  · intro x hx
    rcases List.mem_append.1 hx with hx | hx
    · exact h.ne x (by rw [e]; exact List.mem_append.2 (.inl hx))
    · rw [List.mem_singleton.1 hx]; simp
  · intro x hx
    rcases List.mem_append.1 hx with hx | hx
    · exact h.ch x (by rw [e]; exact List.mem_append.2 (.inl hx))
    · rw [List.mem_singleton.1 hx]
      exact chn_snoc (h.ch g (by rw [e]; simp)) hg he
  · have hl2 := h.len
    rw [e, List.length_append] at hl2
    have hm : newAt js i = false := by rw [newAt_eq (js := js) h0 hi]; exact hn
    rw [List.length_append, sw_miss hm, ← hl2]; rfl
theorem spl_at {js : List Ln} : ∀ i, i ≤ js.length → Spl js i (splS (js.take i))
  | 0, _ => ⟨by simp [splS], by simp [splS], by simp [splS], by simp [splS, sweepsN]⟩
  | i + 1, h => by
    have ih := spl_at (js := js) i (by omega)
    rw [splS_next (by omega)]
    cases hn : newAt js i with
    | true =>
      obtain ⟨e, h2⟩ := spl_new ih (by omega) hn
      rw [e]; exact h2
    | false =>
      obtain ⟨init, g, _, _, e, h2⟩ := spl_on ih (by omega) hn
      rw [e]; exact h2
theorem spl_all (js : List Ln) : Spl js js.length (splS js) := by
  have := spl_at (js := js) js.length (Nat.le_refl _)
  rwa [List.take_length] at this
/-- each part is one sweep -/
theorem spl_one {js : List Ln} (hf : ∀ l ∈ js, l.f ≠ -1) {g : List Ln} (hg : g ∈ splS js) : sweeps g = 1 := by
  have h := spl_all js
  have hm : ∀ l ∈ g, l.f ≠ -1 := fun l hl => hf l (by
    have : l ∈ (splS js).flatten := List.mem_flatten.2 ⟨g, hg, hl⟩
    rw [h.flat, List.take_length] at this
    exact this)
  have e := sweeps_swp hm
  have hne := h.ne g hg
  rw [swp_chn (h.ch g hg) hne (fun _ _ => .inr trivial)] at e
  have hh : ¬ (g.head?.map (·.f)) = some (-1) := by
    cases g with
    | nil => exact absurd rfl hne
    | cons a r =>
      simp only [List.head?_cons, Option.map_some, Option.some.injEq]
      exact hm a (by simp)
  rw [if_neg hh] at e
  omega
theorem spl_sum {js : List Ln} : ((splS js).map List.length).sum = js.length := by
  have h := congrArg List.length (spl_all js).flat
  rw [List.length_flatten, List.take_length] at h
  exact h
theorem spl_len {js : List Ln} : (splS js).length = sweeps js := (spl_all js).len
end Go.Proofs.Ytahnbliabllflaa
