/-
  What the functions compute that use a hint in a game and ask for one on a table.
  What the functions compute that count sweeps and claim a record on a table.
-/
import Derived.Test.YtahnbliabllflaaR1
import Derived.Test.YtahnbliabllflaaL2
namespace Go.Proofs.Ytahnbliabllflaa
open Go.PL
set_option linter.unusedSimpArgs false
theorem nowOf_le {g : Gm} : nowOf g ≤ 9223372036854775807 := by
  unfold nowOf
  split
  · rename_i h
    simp only [gameOk, puzzleOk, Bool.and_eq_true] at h
    obtain ⟨⟨_, hp, _⟩, _, _, hs⟩ := h
    unfold playI
    cases hq : playAll g.x.b g.x.s g.j with
    | none => rw [hq] at hs; cases hs
    | some q =>
      simp only [Option.getD_some]
      unfold playAll at hq
      split at hq
      · have := pos_le (playF_pos hp hq)
        omega
      · cases hq
  · omega
theorem hint_ok {g : Gm} (h : (hintFor g.x (nowOf g)).isSome = true) : gameOk g = true := by
  by_cases hg : gameOk g = true
  · exact hg
  · have e : nowOf g = -1 := by simp [nowOf, hg]
    have : hintFor g.x (-1) = none := by simp [hintFor, positionOk]
    rw [e, this] at h
    cases h
noncomputable def hintL (g : Gm) : Ln := lineO (hintFor g.x (nowOf g))
noncomputable def hintG (g : Gm) : Gm := { makeG g (hintL g) with h := (makeG g (hintL g)).h + 1 }
noncomputable def hintOk (g : Gm) : Bool := (hintFor g.x (nowOf g)).isSome && (makeOk g (hintL g) && gameOk (hintG g))
noncomputable def hintR (g : Gm) : Gm := if hintOk g = true then hintG g else g
theorem makeG_x {g : Gm} {l : Ln} : (makeG g l).x = g.x ∧ (makeG g l).h = g.h ∧ (makeG g l).u = g.u := by
  unfold makeG addG
  split <;> exact ⟨rfl, rfl, rfl⟩
theorem hintG_in {g : Gm} (hg : GmIn g) (hn : g.j.length ≤ 1048576) : GmIn (hintG g) := by
  have h1 := makeG_len (g := g) (l := hintL g) hn
  refine ⟨?_, ?_⟩
  · show pzIn (makeG g (hintL g)).x
    rw [makeG_x.1]; exact hg.x
  · show (makeG g (hintL g)).j.length ≤ _
    omega
theorem hintR_len {g : Gm} (hn : g.j.length ≤ 1048576) : (hintR g).j.length ≤ 1048577 := by
  have h1 := makeG_len (g := g) (l := hintL g) hn
  unfold hintR
  split
  · exact h1
  · omega
theorem gameOk_h {g : Gm} (h : gameOk g = true) : 0 ≤ g.h ∧ g.h ≤ 1000 := by
  simp only [gameOk, within, Bool.and_eq_true, decide_eq_true_eq] at h
  omega
noncomputable def askOk (t : Tb) (s : Int) : Bool := tableOk t && (within s 0 100000 && (hintOk t.g && tickOk t.c (s + 10)))
noncomputable def askT (t : Tb) (s : Int) : Tb := if askOk t s = true then layG t (hintR t.g) (tickC t.c (s + 10)) else t
theorem askT_len {t : Tb} {s : Int} (h : TbS t) : (askT t s).g.j.length ≤ 1048577 ∧ (askT t s).r.length ≤ 1048576 := by
  have h1 := hintR_len (g := t.g) h.j
  have h2 := h.j
  have h3 := h.r
  unfold askT layG
  split
  · exact ⟨by simp only; omega, h3⟩
  · exact ⟨by omega, h3⟩
end Go.Proofs.Ytahnbliabllflaa
namespace Go.Proofs.Ytahnbliabllflaa
open Go.PL
set_option linter.unusedSimpArgs false
/-- does a sweep begin with this jump -/
def newAt (js : List Ln) (i : Nat) : Bool := decide (i = 0) || match js[i]?, js[i - 1]? with
  | some l, some m => !decide (l.f = m.t)
  | _, _ => false
def sweepsN (js : List Ln) (i : Nat) : Nat := ((List.range i).filter (newAt js)).length
def sweeps (js : List Ln) : Nat := sweepsN js js.length
theorem sw_hit {js : List Ln} {i : Nat} (h : newAt js i = true) : sweepsN js (i + 1) = sweepsN js i + 1 := by simp [sweepsN, List.range_succ, List.filter_append, h]
theorem sw_miss {js : List Ln} {i : Nat} (h : newAt js i = false) : sweepsN js (i + 1) = sweepsN js i := by simp [sweepsN, List.range_succ, List.filter_append, h]
theorem sw_le {js : List Ln} {i : Nat} : sweepsN js i ≤ i := by
  have := List.length_filter_le (newAt js) (List.range i)
  unfold sweepsN; simpa using this
theorem newAt_eq {js : List Ln} {i : Nat} (h0 : i ≠ 0) (h : i < js.length) : newAt js i = !decide (js[i].f = (js[i - 1]'(by omega)).t) := by
  have e1 : js[i]? = some js[i] := by simp [h]
  have e2 : js[i - 1]? = some (js[i - 1]'(by omega)) := List.getElem?_eq_getElem (by omega)
  unfold newAt
  rw [e1, e2]
  simp [h0]
set_option maxHeartbeats 2000000 in
theorem iCountSweeps_c (js : List Ln) (hn : js.length ≤ 4194304) : PC Try.prog 9 [] [.c (.l 3 (js.map lineV))] (vN (sweeps js)) ⟨[], []⟩ := by
  refine pc_of Try.func9 rfl (by kernel_rfl) _ Try.ntmps9 (by simp) ?_
  (repeat' (first | simp -implicitDefEqProofs only [go_sem] | (refine And.intro ?_ ?_; omega) | (refine And.intro (shr_bd ?_ ?_) ?_; omega; omega) | refine sl_list rfl ?_ | refine sd_list rfl ?_ | refine sl_str ?_ | refine sd_str ?_))
  refine loop_step (X := Nat) (fun i => ⟨30, [(0, vL 3 (js.map lineV)), (3, vN (sweepsN js i)), (6, vL 3 (js.map lineV)), (7, vN js.length), (8, vN i)], ⟨[], []⟩⟩)
    (fun i => i ≤ js.length) (fun i => js.length - i) 0 (by omega) (weak_of (fun i => i) (fun i => i) rfl ⟨by simp [sweepsN] <;> omega, by simp [sweepsN] <;> omega, by simp [sweepsN] <;> omega, by simp [sweepsN] <;> omega, by simp [sweepsN] <;> omega⟩ (by simp [sweepsN] <;> omega)) (fun i hi => ?_)
  have hs := sw_le (js := js) (i := i)
  simp -implicitDefEqProofs only [go_sem]
  refine if_splitP (fun h => ?_) (fun h => ?_)
  · have hlt : i < js.length := by omega
    have hg := map_get (f := lineV) hlt
    (repeat' (first | simp -implicitDefEqProofs only [hg, hlt, lineV, go_sem] | (refine And.intro ?_ ?_; omega) | (refine And.intro (shr_bd ?_ ?_) ?_; omega; omega) | refine sl_list rfl ?_ | refine sd_list rfl ?_ | refine sl_str ?_ | refine sd_str ?_))
    refine draw_step Try.pl_follows (by kernel_rfl) ?_
    by_cases h0 : (i : Int) = 0
    · have e1 := sw_hit (js := js) (i := i) (by have : i = 0 := by omega
                                                simp [newAt, this])
      (repeat' (first | simp -implicitDefEqProofs only [h0, go_sem] | (refine And.intro ?_ ?_; omega) | (refine And.intro (shr_bd ?_ ?_) ?_; omega; omega) | refine sl_list rfl ?_ | refine sd_list rfl ?_ | refine sl_str ?_ | refine sd_str ?_))
      exact ⟨i + 1, by omega, by omega, weak_of (fun i => i) (fun i => i) rfl ⟨by simp [e1] <;> omega, by simp [e1] <;> omega, by simp [e1] <;> omega, by simp [e1] <;> omega, by simp [e1] <;> omega⟩ (by simp [e1] <;> omega)⟩
    · have hlt' : i - 1 < js.length := by omega
      have hg' := map_get (f := lineV) hlt'
      have ei : ((i : Int) - 1).toNat = i - 1 := by omega
      have en := newAt_eq (js := js) (i := i) (by omega) hlt
      by_cases hq : js[i - 1].t = js[i].f
      · have e1 := sw_miss (js := js) (i := i) (by rw [en]; simp [hq])
        (repeat' (first | simp -implicitDefEqProofs only [h0, hg, hlt, hg', hlt', ei, lineV, hq, go_sem] | (refine And.intro ?_ ?_; omega) | (refine And.intro (shr_bd ?_ ?_) ?_; omega; omega) | refine sl_list rfl ?_ | refine sd_list rfl ?_ | refine sl_str ?_ | refine sd_str ?_))
        exact ⟨i + 1, by omega, by omega, weak_of (fun i => i) (fun i => i) rfl ⟨by simp [e1] <;> omega, by simp [e1] <;> omega, by simp [e1] <;> omega, by simp [e1] <;> omega, by simp [e1] <;> omega⟩ (by simp [e1] <;> omega)⟩
      · have hq' : ¬ js[i].f = js[i - 1].t := fun h => hq h.symm
        have e1 := sw_hit (js := js) (i := i) (by rw [en]; simp [hq'])
        (repeat' (first | simp -implicitDefEqProofs only [h0, hg, hlt, hg', hlt', ei, lineV, hq, go_sem] | (refine And.intro ?_ ?_; omega) | (refine And.intro (shr_bd ?_ ?_) ?_; omega; omega) | refine sl_list rfl ?_ | refine sd_list rfl ?_ | refine sl_str ?_ | refine sd_str ?_))
        exact ⟨i + 1, by omega, by omega, weak_of (fun i => i) (fun i => i) rfl ⟨by simp [e1] <;> omega, by simp [e1] <;> omega, by simp [e1] <;> omega, by simp [e1] <;> omega, by simp [e1] <;> omega⟩ (by simp [e1] <;> omega)⟩
  · have hle : i = js.length := by omega
    subst hle
    (repeat' (first | simp -implicitDefEqProofs only [go_sem] | (refine And.intro ?_ ?_; omega) | (refine And.intro (shr_bd ?_ ?_) ?_; omega; omega) | refine sl_list rfl ?_ | refine sd_list rfl ?_ | refine sl_str ?_ | refine sd_str ?_))
    exact fin_scal rfl rfl
theorem enter_no {rs : List Rec} {r : Rec} (h : (enterRecord rs r).2 = false) : (enterRecord rs r).1 = rs := by
  unfold enterRecord at h ⊢
  split
  · split
    · rename_i h1 h2
      simp [h1, h2] at h
    · rfl
  · rfl
def claimR (t : Tb) (n day : Int) : Rec := ⟨n, t.n, sweeps t.g.j, day⟩
def claimOk (t : Tb) (n day : Int) : Bool := tableOk t && (isWon t.g && (decide (t.g.h = 0) && (enterRecord t.r (claimR t n day)).2))
def claimT (t : Tb) (n day : Int) : Tb := if claimOk t n day = true then { t with r := (enterRecord t.r (claimR t n day)).1 } else t
theorem claimT_len {t : Tb} {n day : Int} (h : TbS t) : (claimT t n day).g.j.length ≤ 1048577 ∧ (claimT t n day).r.length ≤ 1048576 := by
  have h1 := enterRecord_len (rs := t.r) (r := claimR t n day) h.r
  have h2 := h.j
  have h3 := h.r
  unfold claimT
  split
  · exact ⟨by simp only; omega, h1⟩
  · exact ⟨by omega, h3⟩
end Go.Proofs.Ytahnbliabllflaa
