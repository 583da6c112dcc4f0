/-
  What is played can be undone, back to the start.
  Drawn tables: jumps, hints, steps back and claims on them.
-/
import Derived.Test.YtahnbliabllflaaS5
import Derived.Test.YtahnbliabllflaaY1
import Derived.Test.YtahnbliabllflaaR4
namespace Go.Proofs.Ytahnbliabllflaa
open Go.PL
set_option linter.unusedSimpArgs false
theorem playF_unsnoc {b : Brd} {l : Ln} : ∀ {ls : List Ln} {p q : Int}, playF b p (ls ++ [l]) = some q → ∃ r, playF b p ls = some r ∧ canDo b r l = true ∧ q = flip r l
  | [], p, q, h => by
    simp only [List.nil_append, playF] at h
    split at h
    · rename_i hc
      exact ⟨p, rfl, hc, by simpa using h.symm⟩
    · cases h
  | m :: ls, p, q, h => by
    simp only [playF, List.cons_append] at h ⊢
    split at h
    · rename_i hc
      rw [if_pos hc]
      exact playF_unsnoc h
    · cases h
theorem undone {b : Brd} {ls : List Ln} {p : Int} : ∀ (m : Nat) (q : Int), m ≤ ls.length → playF b p (ls.take m) = some q → undoN b ls m q = some p
  | 0, q, _, h => by
    simp only [List.take_zero, playF, Option.some.injEq] at h
    subst h; rfl
  | m + 1, q, hm, h => by
    rw [List.take_succ_eq_append_getElem (by omega)] at h
    obtain ⟨r, h1, h2, rfl⟩ := playF_unsnoc h
    have h3 := h2
    simp only [canDo, Bool.and_eq_true] at h3
    obtain ⟨hp, hl, hc⟩ := h3
    obtain ⟨_, r0, _⟩ := pos_sub hp
    have er : (r.toNat : Int) = r := Int.toNat_of_nonneg r0
    have ht := able_turn (q := r.toNat) (isLine_mem hl) false (by simp only [able, Bool.false_eq_true, if_false, er]; exact hc)
    have hu : canU (flip r ls[m]) ls[m] = true := by simpa [able, flip] using ht
    have hcu : canUn b (flip r ls[m]) ls[m] = true := by simp [canUn, do_pos h2, hl, hu]
    have ef : flip (flip r ls[m]) ls[m] = r := by
      simp only [flip, Int.toNat_natCast, xor_xor]
      exact er
    rw [undoN_step (by omega) hcu, ef]
    exact undone m r (by omega) h1
theorem drawnT_audit {t : Tb} (h : DrawnT t) : auditOk t = true := by
  obtain ⟨r, P⟩ := game_pl (drawnT_g h)
  have hl := P.len
  have hu : undoAll t.g.x.b (nowOf t.g) t.g.j = some t.g.x.s := by
    unfold undoAll
    rw [P.now, if_pos ⟨P.pos, by omega⟩]
    exact undone t.g.j.length r (Nat.le_refl _) (by rw [List.take_length]; exact P.ply)
  simp [auditOk, (drawnT_ok h).1, hu, undoAI]
end Go.Proofs.Ytahnbliabllflaa
namespace Go.Proofs.Ytahnbliabllflaa
open Go.PL
set_option linter.unusedSimpArgs false
theorem ne_ckF {t : TypeId} {K : Value → Prop} {x : Ck} (hs : intS Try.prog t 3 = true) (hK : K (.bool false)) : binR Try.prog .neq t K (.s (.a (ckC x))) (.s (.a (ckC x))) :=
  ne_ints [x.a, x.b, x.c] [x.a, x.b, x.c] 3 hs rfl rfl (by simpa using hK)
theorem drawnG_step {g : Gm} (h : DrawnG g) : backOk g = decide (0 < g.j.length) := by
  obtain ⟨r, P⟩ := game_pl h
  have hl := P.len
  have hu := h.u
  have hh := h.h
  by_cases h0 : g.j.length = 0
  · simp [backOk, h0]
  · obtain ⟨q, hq⟩ := playF_take (g.j.length - 1) P.ply
    rw [← List.dropLast_eq_take] at hq
    have a := gameOk_mk (x := g.x) (j := g.j.dropLast) (h := g.h) (u := g.u + 1) P.px hq (by simp; omega) (by omega) (by omega)
    have e : gameOk (backG g) = true := a.1
    have hp : 0 < g.j.length := by omega
    simp only [backOk, h.ok, h0, e, hp, decide_false, decide_true, Bool.not_false, Bool.and_self]
theorem ent_end {rs : List Rec} {r : Rec} (h : ∀ x ∈ rs, x.p < r.p) : entered rs r = (rs ++ [r], true) := by
  have e : posOf rs r.p = rs.length := posOf_eq (Nat.le_refl _) (fun j hj _ => h rs[j] (List.getElem_mem hj)) (fun hlt => by omega)
  unfold entered
  rw [e]
  simp
theorem sweeps_pos {js : List Ln} : (0 < sweeps js ↔ 0 < js.length) ∧ sweeps js ≤ js.length := by
  refine ⟨⟨fun h => ?_, fun h => ?_⟩, sw_le⟩
  · have := sw_le (js := js) (i := js.length)
    unfold sweeps at h
    omega
  · have : 0 ∈ (List.range js.length).filter (newAt js) := List.mem_filter.2 ⟨List.mem_range.2 h, by simp [newAt]⟩
    exact List.length_pos_of_mem this
/-- what the law says of a claim on a drawn table -/
theorem drawnT_claim {t : Tb} (h : DrawnT t) : claimOk t 900 5 = (isWon t.g && (decide (t.g.h = 0) && decide (0 < t.g.j.length))) ∧ (claimOk t 900 5 = true → (claimT t 900 5).r.length = t.r.length + 1) := by
  obtain ⟨hok, hc⟩ := drawnT_ok h
  have hr := h.r
  have vr := recordsOk_iff.1 hr.ok
  have hn := h.n
  have hl := hr.len
  have hj := (game_pl (drawnT_g h)).choose_spec.len
  have hs := sweeps_pos (js := t.g.j)
  have en : entered t.r (claimR t 900 5) = (t.r ++ [claimR t 900 5], true) := ent_end fun x hx => by
    have := (hr.rcd x hx).2.1
    show x.p < 900
    omega
  have ee : enterRecord t.r (claimR t 900 5) = if 0 < t.g.j.length then (t.r ++ [claimR t 900 5], true) else (t.r, false) := by
    by_cases h0 : 0 < t.g.j.length
    · have hk : recOk (claimR t 900 5) = true := by
        have := hs.1.2 h0
        simp only [recOk, claimR, Bool.and_eq_true, within_iff]
        omega
      have hv := entered_vld vr.2 hk
      rw [en] at hv
      have ho : recordsOk (t.r ++ [claimR t 900 5]) = true := recordsOk_iff.2 ⟨by simp; omega, hv⟩
      simp [enterRecord, hr.ok, en, ho, h0]
    · have ho : ¬ recordsOk (t.r ++ [claimR t 900 5]) = true := fun ho => by
        have := (recordsOk_iff.1 ho).2.ok (claimR t 900 5) (by simp)
        simp only [recOk, claimR, Bool.and_eq_true, within_iff] at this
        have h1 : ¬ 0 < sweeps t.g.j := fun h => h0 (hs.1.1 h)
        omega
      simp [enterRecord, hr.ok, en, ho, h0]
  have e1 : (enterRecord t.r (claimR t 900 5)).2 = decide (0 < t.g.j.length) := by
    rw [ee]
    by_cases h0 : 0 < t.g.j.length <;> simp [h0]
  refine ⟨by simp only [claimOk, hok, e1, Bool.true_and], fun hk => ?_⟩
  have h2 := hk
  simp only [claimOk, Bool.and_eq_true, e1, decide_eq_true_eq] at h2
  simp only [claimT, hk, if_true, ee, if_pos h2.2.2.2]
  simp
theorem audit_all {t : Tb} (h : tableOk t = true) : auditOk t = true := by
  have hg := tableOk_g h
  have hg' := hg
  simp only [gameOk, Bool.and_eq_true] at hg'
  obtain ⟨hx, _, _, hs⟩ := hg'
  obtain ⟨r, hr⟩ := Option.isSome_iff_exists.1 hs
  have hn : nowOf t.g = r := by simp [nowOf, hg, playI, hr]
  have hx' := hx
  simp only [puzzleOk, Bool.and_eq_true] at hx'
  have hr2 := hr
  unfold playAll at hr2
  split at hr2
  · rename_i hc
    have hu : undoAll t.g.x.b (nowOf t.g) t.g.j = some t.g.x.s := by
      unfold undoAll
      rw [hn, if_pos ⟨playF_pos hx'.2.1 hr2, hc.2⟩]
      exact undone t.g.j.length r (Nat.le_refl _) (by rw [List.take_length]; exact hr2)
    simp [auditOk, h, hu, undoAI]
  · cases hr2
theorem drawnT_play {t : Tb} (h : DrawnT t) {l : Ln} (hl : l ∈ jumpsOf t.g.x.b (nowOf t.g)) {s : Int} (s0 : 0 ≤ s) : playOk t l s = decide (s ≤ t.c.a) ∧ (playOk t l s = true → (playT t l s).c.a = t.c.a - s + t.c.b ∧ (playT t l s).g.j.length = t.g.j.length + 1 ∧ auditOk (playT t l s) = true) := by
  have J := jumped (drawnT_g h) hl
  have ht := drawnT_tick h s0
  have hok := (drawnT_ok h).1
  have e : playOk t l s = decide (s ≤ t.c.a) := by simp [playOk, hok, J.m1, ht]
  refine ⟨e, fun hk => ?_⟩
  have hs : tickOk t.c s = true := by rw [ht, ← e]; exact hk
  have eT : playT t l s = layG t (addG t.g l) (tickd t.c s) := by simp [playT, hk, J.m2, tickC, hs]
  have hs2 := hs
  simp only [tickOk, Bool.and_eq_true] at hs2
  have hm := J.m1
  simp only [makeOk, Bool.and_eq_true] at hm
  have hok2 := hok
  simp only [tableOk, Bool.and_eq_true] at hok2
  refine ⟨by rw [eT]; rfl, by rw [eT]; simp [layG, addG], audit_all ?_⟩
  rw [eT]
  simp only [tableOk, layG, hm.2, hs2.2.2, hok2.2.2.1, hok2.2.2.2, Bool.and_self]
theorem drawnT_ask {t : Tb} {s : Int} (hk : askOk t s = true) : (askT t s).c.a = t.c.a - s - 10 + t.c.b ∧ (askT t s).g.h = t.g.h + 1 := by
  have h2 := hk
  simp only [askOk, Bool.and_eq_true] at h2
  have eT : askT t s = layG t (hintG t.g) (tickd t.c (s + 10)) := by simp [askT, hk, hintR, h2.2.2.1, tickC, h2.2.2.2]
  rw [eT]
  refine ⟨by simp only [layG, tickd]; omega, ?_⟩
  show (makeG t.g (hintL t.g)).h + 1 = t.g.h + 1
  rw [makeG_x.2.1]
theorem drawnT_step {t : Tb} (h : DrawnT t) : stepOk t = decide (0 < t.g.j.length) ∧ (stepT t).c = t.c := by
  refine ⟨by simp [stepOk, (drawnT_ok h).1, drawnG_step (drawnT_g h)], ?_⟩
  unfold stepT
  split <;> rfl
end Go.Proofs.Ytahnbliabllflaa
