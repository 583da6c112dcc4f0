/-
  What the functions compute that undo a list of jumps.
  What the functions compute that undo a list of jumps and audit a table; the law on the audit.
  What the functions compute that audit a table; the law on the audit.
  What the functions compute that merge two lists of records; the law on them.
  The law on merging records.
-/
import Derived.Test.YtahnbliabllflaaU1
import Derived.Test.YtahnbliabllflaaV1
import Derived.Test.YtahnbliabllflaaL2
namespace Go.Proofs.Ytahnbliabllflaa
open Go.PL
set_option linter.unusedSimpArgs false
def canUn (b : Brd) (p : Int) (l : Ln) : Bool := positionOk b p && (isLine b l && canU p l)
def undoJ (b : Brd) (p : Int) (l : Ln) : Int := if canUn b p l = true then flip p l else p
theorem un_pos {b : Brd} {p : Int} {l : Ln} (h : canUn b p l = true) : positionOk b (flip p l) = true := by
  have h' := h
  simp only [canUn, Bool.and_eq_true] at h'
  obtain ⟨hb, p0, hs⟩ := pos_sub h'.1
  have ha : able true p.toNat l = true := by simp only [able, if_true]; rw [Int.toNat_of_nonneg p0]; exact h'.2.2
  exact sub_pos hb (rch_sub hs (.step _ l .refl (isLine_mem h'.2.1) ha))
end Go.Proofs.Ytahnbliabllflaa
namespace Go.Proofs.Ytahnbliabllflaa
open Go.PL
set_option linter.unusedSimpArgs false
def undoN (b : Brd) (ls : List Ln) : Nat → Int → Option Int
  | 0, q => some q
  | n + 1, q => match ls[n]? with
    | some l => if canUn b q l = true then undoN b ls n (flip q l) else none
    | none => none
def undoAll (b : Brd) (p : Int) (ls : List Ln) : Option Int := if positionOk b p = true ∧ ls.length ≤ 60 then undoN b ls ls.length p else none
def undoAI (b : Brd) (p : Int) (ls : List Ln) : Int := (undoAll b p ls).getD p
theorem undoN_step {b : Brd} {q : Int} {ls : List Ln} {m : Nat} (h : m < ls.length) (hc : canUn b q ls[m] = true) : undoN b ls (m + 1) q = undoN b ls m (flip q ls[m]) := by
  simp [undoN, h, hc]
theorem undoN_no {b : Brd} {q : Int} {ls : List Ln} {m : Nat} (h : m < ls.length) (hc : canUn b q ls[m] = false) : undoN b ls (m + 1) q = none := by
  simp [undoN, h, hc]
end Go.Proofs.Ytahnbliabllflaa
namespace Go.Proofs.Ytahnbliabllflaa
open Go.PL
set_option linter.unusedSimpArgs false
theorem now_le {g : Gm} (h : gameOk g = true) : nowOf g ≤ 9223372036854775807 := by
  have h' := h
  simp only [gameOk, Bool.and_eq_true] at h'
  obtain ⟨q, hq⟩ := Option.isSome_iff_exists.1 h'.2.2.2
  have e : nowOf g = q := by simp [nowOf, h, playI, hq]
  unfold playAll at hq
  split at hq
  · rename_i hp
    have := pos_le (playF_pos hp.1 hq)
    omega
  · cases hq
def auditOk (t : Tb) : Bool := tableOk t && ((undoAll t.g.x.b (nowOf t.g) t.g.j).isSome && decide (undoAI t.g.x.b (nowOf t.g) t.g.j = t.g.x.s))
theorem tableOk_g {t : Tb} (h : tableOk t = true) : gameOk t.g = true := by
  simp only [tableOk, Bool.and_eq_true] at h
  exact h.1
end Go.Proofs.Ytahnbliabllflaa
namespace Go.Proofs.Ytahnbliabllflaa
open Go.PL
set_option linter.unusedSimpArgs false
structure Vld (rs : List Rec) : Prop where
  ok : ∀ x ∈ rs, recOk x = true
  pw : rs.Pairwise fun a b => a.p < b.p
theorem vld_iff {rs : List Rec} : (List.range rs.length).all (goodAt rs) = true ↔ Vld rs := by
  simp only [List.all_eq_true, List.mem_range]
  constructor
  · intro h
    have h1 : ∀ i (hi : i < rs.length), recOk rs[i] = true ∧ (i = 0 ∨ (rs[i - 1]'(by omega)).p < rs[i].p) := fun i hi => by
      have := h i hi
      rw [goodAt_eq hi] at this
      simpa using this
    refine ⟨fun x hx => ?_, ?_⟩
    · obtain ⟨i, hi, rfl⟩ := List.mem_iff_getElem.1 hx
      exact (h1 i hi).1
    · rw [List.pairwise_iff_getElem]
      intro i j hi hj hij
      induction j with
      | zero => omega
      | succ j ih =>
        have h2 := (h1 (j + 1) hj).2.resolve_left (by omega)
        simp only [Nat.add_sub_cancel] at h2
        by_cases e : i = j
        · subst e; exact h2
        · have := ih (by omega) (by omega)
          omega
  · intro h i hi
    rw [goodAt_eq hi]
    simp only [Bool.and_eq_true, Bool.or_eq_true, decide_eq_true_eq]
    refine ⟨h.ok _ (List.getElem_mem hi), ?_⟩
    by_cases e : i = 0
    · exact .inl e
    · exact .inr (List.pairwise_iff_getElem.1 h.pw (i - 1) i (by omega) hi (by omega))
theorem recordsOk_iff {rs : List Rec} : recordsOk rs = true ↔ rs.length ≤ 30 ∧ Vld rs := by
  rw [← vld_iff]
  simp [recordsOk]
theorem posOf_spec {p : Int} : ∀ (rs : List Rec), posOf rs p ≤ rs.length ∧ (∀ j (h : j < rs.length), j < posOf rs p → rs[j].p < p) ∧ (∀ h : posOf rs p < rs.length, ¬ rs[posOf rs p].p < p)
  | [] => ⟨by simp [posOf], fun j h => by simp at h, fun h => by simp at h⟩
  | x :: rs => by
    obtain ⟨h1, h2, h3⟩ := posOf_spec (p := p) rs
    by_cases hx : x.p < p
    · have e : posOf (x :: rs) p = posOf rs p + 1 := by simp [posOf, List.takeWhile_cons, hx]
      refine ⟨by rw [e]; simpa using h1, fun j h hj => ?_, fun h => ?_⟩
      · cases j with
        | zero => exact hx
        | succ j => rw [List.getElem_cons_succ]; exact h2 j (by simpa using h) (by omega)
      · simp only [e, List.getElem_cons_succ]
        exact h3 (by rw [e] at h; simpa using h)
    · have e : posOf (x :: rs) p = 0 := by simp [posOf, List.takeWhile_cons, hx]
      refine ⟨by rw [e]; simp, fun j h hj => by omega, fun h => ?_⟩
      simp only [e, List.getElem_cons_zero]
      exact hx
theorem entered_ge {rs : List Rec} {r : Rec} : rs.length ≤ (entered rs r).1.length := by
  unfold entered
  split
  · split
    · split <;> simp
    · simp; omega
  · simp; omega
theorem entered_vld {rs : List Rec} {r : Rec} (h : Vld rs) (hr : recOk r = true) : Vld (entered rs r).1 := by
  obtain ⟨p1, p2, p3⟩ := posOf_spec (p := r.p) rs
  have ins : (∀ hi : posOf rs r.p < rs.length, rs[posOf rs r.p].p ≠ r.p) → Vld (rs.take (posOf rs r.p) ++ [r] ++ rs.drop (posOf rs r.p)) := by
    intro hne
    have big : ∀ b ∈ rs.drop (posOf rs r.p), r.p < b.p := fun b hb => by
      obtain ⟨k, hk, rfl⟩ := List.mem_iff_getElem.1 hb
      simp only [List.length_drop] at hk
      rw [List.getElem_drop]
      have h4 := p3 (by omega)
      have h5 := hne (by omega)
      by_cases e : k = 0
      · subst e; simp only [Nat.add_zero]; omega
      · have := List.pairwise_iff_getElem.1 h.pw (posOf rs r.p) (posOf rs r.p + k) (by omega) (by omega) (by omega)
        omega
    have small : ∀ a ∈ rs.take (posOf rs r.p), a.p < r.p := fun a ha => by
      obtain ⟨k, hk, rfl⟩ := List.mem_iff_getElem.1 ha
      simp only [List.length_take] at hk
      rw [List.getElem_take]
      exact p2 k (by omega) (by omega)
    refine ⟨fun x hx => ?_, ?_⟩
    · simp only [List.mem_append, List.mem_singleton] at hx
      rcases hx with (hx | rfl) | hx
      · exact h.ok x (List.mem_of_mem_take hx)
      · exact hr
      · exact h.ok x (List.mem_of_mem_drop hx)
    · rw [List.append_assoc, List.pairwise_append]
      refine ⟨h.pw.sublist (List.take_sublist _ _), ?_, fun a ha b hb => ?_⟩
      · rw [List.singleton_append, List.pairwise_cons]
        exact ⟨big, h.pw.sublist (List.drop_sublist _ _)⟩
      · rcases List.mem_append.1 hb with hb | hb
        · simp only [List.mem_singleton] at hb
          subst hb; exact small a ha
        · have h1 := small a ha
          have h2 := big b hb
          omega
  unfold entered
  split
  · rename_i q hq
    obtain ⟨hlt, hq2⟩ := List.getElem?_eq_some_iff.1 hq
    split
    · rename_i he
      split
      · exact h
      · refine ⟨fun x hx => ?_, ?_⟩
        · rcases List.mem_or_eq_of_mem_set hx with hx | rfl
          · exact h.ok x hx
          · exact hr
        · rw [List.pairwise_iff_getElem]
          intro i j hi hj hij
          simp only [List.length_set] at hi hj
          have h0 := List.pairwise_iff_getElem.1 h.pw i j hi hj hij
          simp only [List.getElem_set]
          split
          · rename_i e
            subst e
            rw [if_neg (by omega)]
            rw [hq2] at h0; omega
          · split
            · rename_i e
              subst e
              rw [hq2] at h0; omega
            · exact h0
    · rename_i he
      exact ins fun hi => by rw [hq2]; exact he
  · rename_i hq
    exact ins fun hi => by
      have := List.getElem?_eq_none_iff.1 hq
      omega
/-- what has been entered: the puzzle is known, or the list is longer -/
theorem entered_case (rs : List Rec) (r : Rec) : ((entered rs r).2 = false ∧ (entered rs r).1 = rs ∧ ∃ q ∈ rs, q.p = r.p) ∨ ((entered rs r).2 = true ∧ (entered rs r).1.length = rs.length ∧ ∃ q ∈ rs, q.p = r.p) ∨ ((entered rs r).2 = true ∧ (entered rs r).1.length = rs.length + 1) := by
  obtain ⟨p1, p2, p3⟩ := posOf_spec (p := r.p) rs
  unfold entered
  split
  · rename_i q hq
    have hm := List.mem_of_getElem? hq
    split
    · rename_i he
      split
      · exact .inl ⟨rfl, rfl, q, hm, he⟩
      · exact .inr (.inl ⟨rfl, by simp, q, hm, he⟩)
    · refine .inr (.inr ⟨rfl, ?_⟩)
      simp; omega
  · refine .inr (.inr ⟨rfl, ?_⟩)
    simp; omega
def mergeF (rs cs : List Rec) : List Rec := cs.foldl (fun m r => (entered m r).1) rs
theorem mergeF_step {rs cs : List Rec} {k : Nat} (h : k < cs.length) : mergeF rs (cs.take (k + 1)) = (entered (mergeF rs (cs.take k)) cs[k]).1 := by
  unfold mergeF
  rw [List.take_succ_eq_append_getElem h, List.foldl_append]
  rfl
theorem mergeF_ge (cs : List Rec) : ∀ (rs : List Rec), rs.length ≤ (mergeF rs cs).length := by
  induction cs with
  | nil => exact fun _ => Nat.le_refl _
  | cons c cs ih => exact fun rs => Nat.le_trans entered_ge (ih _)
theorem mergeF_le (cs : List Rec) : ∀ (rs : List Rec), (mergeF rs cs).length ≤ rs.length + cs.length := by
  induction cs with
  | nil => exact fun _ => Nat.le_refl _
  | cons c cs ih =>
    intro rs
    have h1 := ih (entered rs c).1
    have h2 := entered_len (rs := rs) (r := c)
    have e : mergeF rs (c :: cs) = mergeF (entered rs c).1 cs := rfl
    rw [e]; simp; omega
theorem mergeF_vld (cs : List Rec) (hc : ∀ c ∈ cs, recOk c = true) : ∀ (rs : List Rec), Vld rs → Vld (mergeF rs cs) := by
  induction cs with
  | nil => exact fun _ h => h
  | cons c cs ih => exact fun rs h => ih (fun x hx => hc x (by simp [hx])) _ (entered_vld h (hc c (by simp)))
theorem mergeF_mid {rs cs : List Rec} {k : Nat} : (mergeF rs (cs.take k)).length ≤ (mergeF rs cs).length := by
  have e : mergeF rs cs = mergeF (mergeF rs (cs.take k)) (cs.drop k) := by
    unfold mergeF
    rw [← List.foldl_append, List.take_append_drop]
  rw [e]
  exact mergeF_ge _ _
def mergeR (rs cs : List Rec) : List Rec × Bool :=
  if recordsOk rs = true ∧ recordsOk cs = true ∧ recordsOk (mergeF rs cs) = true then (mergeF rs cs, true) else (rs, false)
theorem found_some {rs : List Rec} {p : Int} (hk : recordsOk rs = true) : (recordFound rs p).isSome = true ↔ ∃ q ∈ rs, q.p = p := by
  simp [recordFound, hk]
theorem mergeR_len {rs cs : List Rec} (hn : rs.length ≤ 1048576) : (mergeR rs cs).1.length ≤ 1048576 := by
  unfold mergeR
  split
  · rename_i h
    have := (recordsOk_iff.1 h.2.2).1
    simp only; omega
  · exact hn
end Go.Proofs.Ytahnbliabllflaa
namespace Go.Proofs.Ytahnbliabllflaa
open Go.PL
set_option linter.unusedSimpArgs false
end Go.Proofs.Ytahnbliabllflaa
