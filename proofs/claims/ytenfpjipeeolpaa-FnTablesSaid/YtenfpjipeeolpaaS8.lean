/-
  What is played can be undone, back to the start.
-/
import Derived.Test.YtenfpjipeeolpaaS7
import Derived.Test.YtenfpjipeeolpaaY3
namespace Go.Proofs.Ytenfpjipeeolpaa
open Go.PL
set_option linter.unusedSimpArgs false
theorem playF_unsnoc {b : Brd} {l : Ln} : ∀ {ls : List Ln} {p q : Int}, playF b p (ls ++ [l]) = some q → ∃ r, playF b p ls = some r ∧ canDo b r l = true ∧ q = flip r l
  | [], p, q, h => by
    simp only [List.nil_append, playF] at h
    split at h
    · rename_i hc
      exact ⟨p, rfl, hc, by simpa using h.symm⟩
    · cases h
  | m :: ls, p, q, h => by
    simp only [playF, List.cons_append] at h ⊢
    split at h
    · rename_i hc
      rw [if_pos hc]
      exact playF_unsnoc h
    · cases h
theorem undone {b : Brd} {ls : List Ln} {p : Int} : ∀ (m : Nat) (q : Int), m ≤ ls.length → playF b p (ls.take m) = some q → undoN b ls m q = some p
  | 0, q, _, h => by
    simp only [List.take_zero, playF, Option.some.injEq] at h
    subst h; rfl
  | m + 1, q, hm, h => by
    rw [List.take_succ_eq_append_getElem (by omega)] at h
    obtain ⟨r, h1, h2, rfl⟩ := playF_unsnoc h
    have h3 := h2
    simp only [canDo, Bool.and_eq_true] at h3
    obtain ⟨hp, hl, hc⟩ := h3
    obtain ⟨_, r0, _⟩ := pos_sub hp
    have er : (r.toNat : Int) = r := Int.toNat_of_nonneg r0
    have ht := able_turn (q := r.toNat) (isLine_mem hl) false (by simp only [able, Bool.false_eq_true, if_false, er]; exact hc)
    have hu : canU (flip r ls[m]) ls[m] = true := by simpa [able, flip] using ht
    have hcu : canUn b (flip r ls[m]) ls[m] = true := by simp [canUn, do_pos h2, hl, hu]
    have ef : flip (flip r ls[m]) ls[m] = r := by
      simp only [flip, Int.toNat_natCast, xor_xor]
      exact er
    rw [undoN_step (by omega) hcu, ef]
    exact undone m r (by omega) h1
theorem drawnT_audit {t : Tb} (h : DrawnT t) : auditOk t = true := by
  obtain ⟨r, P⟩ := game_pl (drawnT_g h)
  have hl := P.len
  have hu : undoAll t.g.x.b (nowOf t.g) t.g.j = some t.g.x.s := by
    unfold undoAll
    rw [P.now, if_pos ⟨P.pos, by omega⟩]
    exact undone t.g.j.length r (Nat.le_refl _) (by rw [List.take_length]; exact P.ply)
  simp [auditOk, (drawnT_ok h).1, hu, undoAI]
end Go.Proofs.Ytenfpjipeeolpaa
