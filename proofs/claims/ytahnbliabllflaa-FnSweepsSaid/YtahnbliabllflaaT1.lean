/-
  What the functions compute that carry out an act on a table.
  A table stays valid; what the functions compute that carry out many acts.
-/
import Derived.Test.YtahnbliabllflaaR4
import Derived.Test.YtahnbliabllflaaTAe
namespace Go.Proofs.Ytahnbliabllflaa
open Go.PL
set_option linter.unusedSimpArgs false
def b2i (b : Bool) : Int := if b = true then 1 else 0
noncomputable def doT (t : Tb) (a : Ac) : Tb :=
  if tableOk t = true ∧ actOk a.k a.a a.b = true then
    if a.k = 1 then (if (lineBetween t.g.x.b a.a a.b).isSome = true then playT t (lineO (lineBetween t.g.x.b a.a a.b)) 1 else t)
    else if a.k = 2 then askT t a.a
    else if a.k = 3 then stepT t
    else if a.k = 4 then claimT t a.a a.b
    else t
  else t
noncomputable def doN (t : Tb) (a : Ac) : Int :=
  if tableOk t = true ∧ actOk a.k a.a a.b = true then
    if a.k = 1 then (if (lineBetween t.g.x.b a.a a.b).isSome = true then b2i (playOk t (lineO (lineBetween t.g.x.b a.a a.b)) 1) else b2i false)
    else if a.k = 2 then b2i (askOk t a.a)
    else if a.k = 3 then b2i (stepOk t)
    else if a.k = 4 then b2i (claimOk t a.a a.b)
    else nowOf t.g
  else -1
theorem doT_len {t : Tb} {a : Ac} (h : TbS t) : (doT t a).g.j.length ≤ 1048577 ∧ (doT t a).r.length ≤ 1048576 := by
  have h2 := h.j
  have h3 := h.r
  unfold doT
  repeat' split
  · exact playT_len h
  · exact ⟨by omega, h3⟩
  · exact askT_len h
  · have := stepT_len h; exact ⟨by omega, this.2⟩
  · exact claimT_len h
  · exact ⟨by omega, h3⟩
  · exact ⟨by omega, h3⟩
end Go.Proofs.Ytahnbliabllflaa
namespace Go.Proofs.Ytahnbliabllflaa
open Go.PL
set_option linter.unusedSimpArgs false
/-! ### a table stays valid -/
theorem tableOk_iff {t : Tb} : tableOk t = true ↔ gameOk t.g = true ∧ clockOk t.c = true ∧ recordsOk t.r = true ∧ within t.n 1 999 = true := by
  simp [tableOk]
theorem gameOk_len {g : Gm} (h : gameOk g = true) : g.j.length ≤ 60 ∧ pzIn g.x := by
  simp only [gameOk, puzzleOk, Bool.and_eq_true] at h
  obtain ⟨⟨_, hp, hg⟩, _, _, hs⟩ := h
  refine ⟨?_, ?_, ?_⟩
  · unfold playAll at hs
    split at hs
    · rename_i h2; exact h2.2
    · cases hs
  · have := pos_le hp; omega
  · have := pos_le hg; omega
theorem tbS_of {t : Tb} (h : tableOk t = true) : TbS t := by
  obtain ⟨h1, _, h3, _⟩ := tableOk_iff.1 h
  obtain ⟨h4, h5⟩ := gameOk_len h1
  have := recordsOk_len h3
  exact ⟨h5, by omega, by omega⟩
theorem tick_ok {c : Ck} {s : Int} (h : tickOk c s = true) : clockOk (tickC c s) = true := by
  have h' := h
  simp only [tickOk, Bool.and_eq_true] at h'
  simp only [tickC, h, if_true]
  exact h'.2.2
theorem make_ok {g : Gm} {l : Ln} (h : makeOk g l = true) : gameOk (makeG g l) = true := by
  have h' := h
  simp only [makeOk, Bool.and_eq_true] at h'
  simp only [makeG, h, if_true]
  exact h'.2
theorem back_ok {g : Gm} (h : backOk g = true) : gameOk (backR g) = true := by
  have h' := h
  simp only [backOk, Bool.and_eq_true] at h'
  simp only [backR, h, if_true]
  exact h'.2.2
theorem hintR_ok {g : Gm} (h : hintOk g = true) : gameOk (hintR g) = true := by
  have h' := h
  simp only [hintOk, Bool.and_eq_true] at h'
  simp only [hintR, h, if_true]
  exact h'.2.2
theorem enter_ok {rs : List Rec} {r : Rec} (h : (enterRecord rs r).2 = true) : recordsOk (enterRecord rs r).1 = true := by
  unfold enterRecord at h ⊢
  split
  · rename_i h1
    rw [if_pos h1] at h
    split
    · rename_i h2; exact h2.2
    · exact h1
  · rename_i h1
    rw [if_neg h1] at h
    cases h
theorem layG_ok {t : Tb} {g : Gm} {c : Ck} (h : tableOk t = true) (hg : gameOk g = true) (hc : clockOk c = true) : tableOk (layG t g c) = true := by
  obtain ⟨_, _, h3, h4⟩ := tableOk_iff.1 h
  exact tableOk_iff.2 ⟨hg, hc, h3, h4⟩
theorem playT_ok {t : Tb} {l : Ln} {s : Int} (h : tableOk t = true) : tableOk (playT t l s) = true := by
  unfold playT
  split
  · rename_i ho
    simp only [playOk, Bool.and_eq_true] at ho
    exact layG_ok h (make_ok ho.2.1) (tick_ok ho.2.2)
  · exact h
theorem askT_ok {t : Tb} {s : Int} (h : tableOk t = true) : tableOk (askT t s) = true := by
  unfold askT
  split
  · rename_i ho
    simp only [askOk, Bool.and_eq_true] at ho
    exact layG_ok h (hintR_ok ho.2.2.1) (tick_ok ho.2.2.2)
  · exact h
theorem stepT_ok {t : Tb} (h : tableOk t = true) : tableOk (stepT t) = true := by
  unfold stepT
  split
  · rename_i ho
    simp only [stepOk, Bool.and_eq_true] at ho
    exact layG_ok h (back_ok ho.2) (tableOk_iff.1 h).2.1
  · exact h
theorem claimT_ok {t : Tb} {n day : Int} (h : tableOk t = true) : tableOk (claimT t n day) = true := by
  unfold claimT
  split
  · rename_i ho
    simp only [claimOk, Bool.and_eq_true] at ho
    obtain ⟨h1, h2, _, h4⟩ := tableOk_iff.1 h
    exact tableOk_iff.2 ⟨h1, h2, enter_ok ho.2.2.2, h4⟩
  · exact h
theorem doT_ok {t : Tb} {a : Ac} (h : tableOk t = true) : tableOk (doT t a) = true := by
  unfold doT
  repeat' split
  · exact playT_ok h
  · exact h
  · exact askT_ok h
  · exact stepT_ok h
  · exact claimT_ok h
  · exact h
  · exact h
/-! ### many acts -/
noncomputable def runT : Tb → List Ac → Tb
  | t, [] => t
  | t, a :: l => runT (doT t a) l
noncomputable def runN : Tb → List Ac → List Int
  | _, [] => []
  | t, a :: l => doN t a :: runN (doT t a) l
theorem runT_app {t : Tb} {l m : List Ac} : runT t (l ++ m) = runT (runT t l) m := by
  induction l generalizing t with
  | nil => rfl
  | cons a l ih => exact ih
theorem runN_app {t : Tb} {l m : List Ac} : runN t (l ++ m) = runN t l ++ runN (runT t l) m := by
  induction l generalizing t with
  | nil => rfl
  | cons a l ih => simp only [List.cons_append, runN, runT, ih]
theorem runT_ok {t : Tb} {l : List Ac} (h : tableOk t = true) : tableOk (runT t l) = true := by
  induction l generalizing t with
  | nil => exact h
  | cons a l ih => exact ih (doT_ok h)
theorem runN_len {t : Tb} {l : List Ac} : (runN t l).length = l.length := by
  induction l generalizing t with
  | nil => rfl
  | cons a l ih => simp [runN, ih]
theorem runT_next {t : Tb} {l : List Ac} {i : Nat} (h : i < l.length) : runT t (l.take (i + 1)) = doT (runT t (l.take i)) l[i] := by
  rw [List.take_succ_eq_append_getElem h, runT_app]; rfl
theorem runN_next {t : Tb} {l : List Ac} {i : Nat} (h : i < l.length) : runN t (l.take (i + 1)) = runN t (l.take i) ++ [doN (runT t (l.take i)) l[i]] := by
  rw [List.take_succ_eq_append_getElem h, runN_app]; rfl
def runOk (t : Tb) (l : List Ac) : Bool := tableOk t && decide (l.length ≤ 40)
noncomputable def runsT (t : Tb) (l : List Ac) : Tb := if runOk t l = true then runT t l else t
noncomputable def runsN (t : Tb) (l : List Ac) : List Int := if runOk t l = true then runN t l else []
theorem runsT_len {t : Tb} {l : List Ac} (h : TbS t) : (runsT t l).g.j.length ≤ 1048576 ∧ (runsT t l).r.length ≤ 1048576 := by
  unfold runsT
  split
  · rename_i ho
    simp only [runOk, Bool.and_eq_true] at ho
    have := tbS_of (runT_ok (l := l) ho.1)
    exact ⟨this.j, this.r⟩
  · exact ⟨h.j, h.r⟩
theorem runsN_len {t : Tb} {l : List Ac} : (runsN t l).length ≤ 40 := by
  unfold runsN
  split
  · rename_i ho
    simp only [runOk, Bool.and_eq_true, decide_eq_true_eq] at ho
    rw [runN_len]; exact ho.2
  · simp
abbrev zTb : List C := [.v (.int .i64 0), .v (.int .i64 0), .v (.int .i64 0), .v (.int .i64 0), .v (.int .i64 0), .v (.slice none 0 0), .v (.int .i64 0), .v (.int .i64 0), .v (.int .i64 0), .v (.int .i64 0), .v (.int .i64 0), .v (.int .i64 0), .v (.slice none 0 0)]
/-! ### two lists of numbers -/
theorem ne_at {xs ys : List Int} {i : Nat} (h : i < xs.length) (h' : i < ys.length) (hn : xs[i] ≠ ys[i]) : xs ≠ ys := fun e => by subst e; exact hn rfl
noncomputable def isReplay (t : Tb) (l : List Ac) (ns : List Int) : Bool := runOk t l && decide (runsN t l = ns)
end Go.Proofs.Ytahnbliabllflaa
