/-
  What is played can be undone, back to the start.
  Drawn tables: jumps, hints, steps back and claims on them.
-/
import Derived.Test.YtahnbliabllflaaGreatDoorS5
import Derived.Test.YtahnbliabllflaaGreatDoorY1
import Derived.Test.YtahnbliabllflaaGreatDoorR4
namespace Go.Proofs.YtahnbliabllflaaGreatDoor
open Go.PL
set_option linter.unusedSimpArgs false
theorem playF_unsnoc {b : Brd} {l : Ln} : ∀ {ls : List Ln} {p q : Int}, playF b p (ls ++ [l]) = some q → ∃ r, playF b p ls = some r ∧ canDo b r l = true ∧ q = flip r l
  | [], p, q, h => by
    simp only [List.nil_append, playF] at h
    split at h
    · rename_i hc
      exact ⟨p, rfl, hc, by simpa using h.symm⟩
    · cases h
  | m :: ls, p, q, h => by
    simp only [playF, List.cons_append] at h ⊢
    split at h
    · rename_i hc
      rw [if_pos hc]
      exact playF_unsnoc h
    · cases h
theorem undone {b : Brd} {ls : List Ln} {p : Int} : ∀ (m : Nat) (q : Int), m ≤ ls.length → playF b p (ls.take m) = some q → undoN b ls m q = some p
  | 0, q, _, h => by
    simp only [List.take_zero, playF, Option.some.injEq] at h
    subst h; rfl
  | m + 1, q, hm, h => by
    rw [List.take_succ_eq_append_getElem (by omega)] at h
    obtain ⟨r, h1, h2, rfl⟩ := playF_unsnoc h
    have h3 := h2
    simp only [canDo, Bool.and_eq_true] at h3
    obtain ⟨hp, hl, hc⟩ := h3
    obtain ⟨_, r0, _⟩ := pos_sub hp
    have er : (r.toNat : Int) = r := Int.toNat_of_nonneg r0
    have ht := able_turn (q := r.toNat) (isLine_mem hl) false (by simp only [able, Bool.false_eq_true, if_false, er]; exact hc)
    have hu : canU (flip r ls[m]) ls[m] = true := by simpa [able, flip] using ht
    have hcu : canUn b (flip r ls[m]) ls[m] = true := by simp [canUn, do_pos h2, hl, hu]
    have ef : flip (flip r ls[m]) ls[m] = r := by
      simp only [flip, Int.toNat_natCast, xor_xor]
      exact er
    rw [undoN_step (by omega) hcu, ef]
    exact undone m r (by omega) h1
end Go.Proofs.YtahnbliabllflaaGreatDoor
namespace Go.Proofs.YtahnbliabllflaaGreatDoor
open Go.PL
set_option linter.unusedSimpArgs false
theorem ne_ckF {t : TypeId} {K : Value → Prop} {x : Ck} (hs : intS Tryz.prog t 3 = true) (hK : K (.bool false)) : binR Tryz.prog .neq t K (.s (.a (ckC x))) (.s (.a (ckC x))) :=
  ne_ints [x.a, x.b, x.c] [x.a, x.b, x.c] 3 hs rfl rfl (by simpa using hK)
theorem audit_all {t : Tb} (h : tableOk t = true) : auditOk t = true := by
  have hg := tableOk_g h
  have hg' := hg
  simp only [gameOk, Bool.and_eq_true] at hg'
  obtain ⟨hx, _, _, hs⟩ := hg'
  obtain ⟨r, hr⟩ := Option.isSome_iff_exists.1 hs
  have hn : nowOf t.g = r := by simp [nowOf, hg, playI, hr]
  have hx' := hx
  simp only [puzzleOk, Bool.and_eq_true] at hx'
  have hr2 := hr
  unfold playAll at hr2
  split at hr2
  · rename_i hc
    have hu : undoAll t.g.x.b (nowOf t.g) t.g.j = some t.g.x.s := by
      unfold undoAll
      rw [hn, if_pos ⟨playF_pos hx'.2.1 hr2, hc.2⟩]
      exact undone t.g.j.length r (Nat.le_refl _) (by rw [List.take_length]; exact hr2)
    simp [auditOk, h, hu, undoAI]
  · cases hr2
end Go.Proofs.YtahnbliabllflaaGreatDoor
