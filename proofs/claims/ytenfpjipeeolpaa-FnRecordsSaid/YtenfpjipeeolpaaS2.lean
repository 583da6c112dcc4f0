/-
  The law on drawn records: merging them, entering into them.
-/
import Derived.Test.YtenfpjipeeolpaaD2
import Derived.Test.YtenfpjipeeolpaaLc
import Derived.Test.YtenfpjipeeolpaaGa
namespace Go.Proofs.Ytenfpjipeeolpaa
open Go.PL
set_option linter.unusedSimpArgs false
theorem ne_recF {t : TypeId} {K : Value → Prop} {x : Rec} (hs : intS Try.prog t 4 = true) (hK : K (.bool false)) : binR Try.prog .neq t K (.s (.a (recC x))) (.s (.a (recC x))) :=
  ne_ints [x.p, x.h, x.s, x.d] [x.p, x.h, x.s, x.d] 4 hs rfl rfl (by simpa using hK)
theorem ne_recT {t : TypeId} {K : Value → Prop} {x y : Rec} (hs : intS Try.prog t 4 = true) (h : x ≠ y) (hK : K (.bool true)) : binR Try.prog .neq t K (.s (.a (recC x))) (.s (.a (recC y))) :=
  ne_ints [x.p, x.h, x.s, x.d] [y.p, y.h, y.s, y.d] 4 hs rfl rfl (by
    have e : ¬ [x.p, x.h, x.s, x.d] = [y.p, y.h, y.s, y.d] := fun e => h (by cases x; cases y; simp at e; simp [e])
    rw [decide_eq_false e]; exact hK)
/-! ### the plain law -/
theorem entered_mem {rs : List Rec} {r x : Rec} (h : x ∈ (entered rs r).1) : x = r ∨ x ∈ rs := by
  unfold entered at h
  have ins : x ∈ rs.take (posOf rs r.p) ++ [r] ++ rs.drop (posOf rs r.p) → x = r ∨ x ∈ rs := fun h => by
    simp only [List.mem_append, List.mem_singleton] at h
    rcases h with (h | h) | h
    · exact .inr (List.mem_of_mem_take h)
    · exact .inl h
    · exact .inr (List.mem_of_mem_drop h)
  split at h
  · split at h
    · split at h
      · exact .inr h
      · rcases List.mem_or_eq_of_mem_set h with h | h
        · exact .inr h
        · exact .inl h
    · exact ins h
  · exact ins h
theorem entered_has {rs : List Rec} {r : Rec} : ∃ x ∈ (entered rs r).1, x.p = r.p ∧ x.s ≤ r.s := by
  unfold entered
  split
  · rename_i q hq
    split
    · rename_i he
      split
      · rename_i hs
        exact ⟨q, List.mem_of_getElem? hq, he, hs⟩
      · obtain ⟨hlt, _⟩ := List.getElem?_eq_some_iff.1 hq
        exact ⟨r, List.mem_iff_getElem.2 ⟨posOf rs r.p, by simpa using hlt, by simp⟩, rfl, Int.le_refl _⟩
    · exact ⟨r, by simp, rfl, Int.le_refl _⟩
  · exact ⟨r, by simp, rfl, Int.le_refl _⟩
theorem entered_keep {rs : List Rec} {r y : Rec} (hy : y ∈ rs) : ∃ x ∈ (entered rs r).1, x.p = y.p ∧ x.s ≤ y.s := by
  have ins : y ∈ rs.take (posOf rs r.p) ++ [r] ++ rs.drop (posOf rs r.p) := by
    have h : y ∈ rs.take (posOf rs r.p) ++ rs.drop (posOf rs r.p) := by rw [List.take_append_drop]; exact hy
    simp only [List.mem_append] at h ⊢
    rcases h with h | h
    · exact .inl (.inl h)
    · exact .inr h
  unfold entered
  split
  · rename_i q hq
    split
    · rename_i he
      split
      · exact ⟨y, hy, rfl, Int.le_refl _⟩
      · rename_i hs
        obtain ⟨hlt, hq2⟩ := List.getElem?_eq_some_iff.1 hq
        obtain ⟨j, hj, rfl⟩ := List.mem_iff_getElem.1 hy
        by_cases e : posOf rs r.p = j
        · subst e
          exact ⟨r, List.mem_iff_getElem.2 ⟨posOf rs r.p, by simpa using hlt, by simp⟩, by rw [hq2]; exact he.symm, by rw [hq2]; omega⟩
        · exact ⟨rs[j], List.mem_iff_getElem.2 ⟨j, by simpa using hj, by simp [List.getElem_set, e]⟩, rfl, Int.le_refl _⟩
    · exact ⟨y, ins, rfl, Int.le_refl _⟩
  · exact ⟨y, ins, rfl, Int.le_refl _⟩
theorem vld_uniq {rs : List Rec} (hv : Vld rs) {x y : Rec} (hx : x ∈ rs) (hy : y ∈ rs) (h : x.p = y.p) : x = y := by
  obtain ⟨i, hi, rfl⟩ := List.mem_iff_getElem.1 hx
  obtain ⟨j, hj, rfl⟩ := List.mem_iff_getElem.1 hy
  have h1 := List.pairwise_iff_getElem.1 hv.pw
  by_cases e : i = j
  · subst e; rfl
  · by_cases hlt : i < j
    · have := h1 i j hi hj hlt; omega
    · have := h1 j i hj hi (by omega); omega
theorem entered_same {rs : List Rec} {r : Rec} (hv : Vld rs) (h : ∃ x ∈ rs, x.p = r.p ∧ x.s ≤ r.s) : entered rs r = (rs, false) := by
  obtain ⟨x, hx, hp, hs⟩ := h
  obtain ⟨i, hi, rfl⟩ := List.mem_iff_getElem.1 hx
  have h1 := List.pairwise_iff_getElem.1 hv.pw
  have e : posOf rs r.p = i := posOf_eq (by omega) (fun j hj hji => by have := h1 j i hj hi hji; omega) (fun _ => by omega)
  unfold entered
  rw [e, List.getElem?_eq_getElem hi]
  simp [hp, hs]
theorem mergeF_mem {x : Rec} : ∀ (cs rs : List Rec), x ∈ mergeF rs cs → x ∈ rs ∨ x ∈ cs
  | [], _, h => .inl h
  | c :: cs, rs, h => by
    rcases mergeF_mem cs (entered rs c).1 h with h | h
    · rcases entered_mem h with rfl | h
      · exact .inr (by simp)
      · exact .inl h
    · exact .inr (by simp [h])
theorem mergeF_keep {y : Rec} : ∀ (cs rs : List Rec), (∃ x ∈ rs, x.p = y.p ∧ x.s ≤ y.s) → ∃ x ∈ mergeF rs cs, x.p = y.p ∧ x.s ≤ y.s
  | [], _, h => h
  | c :: cs, rs, ⟨x, hx, h1, h2⟩ => by
    obtain ⟨z, hz, h3, h4⟩ := entered_keep (r := c) hx
    exact mergeF_keep cs (entered rs c).1 ⟨z, hz, by omega, by omega⟩
theorem mergeF_has {y : Rec} : ∀ (cs rs : List Rec), y ∈ cs → ∃ x ∈ mergeF rs cs, x.p = y.p ∧ x.s ≤ y.s
  | [], _, h => by simp at h
  | c :: cs, rs, h => by
    rcases List.mem_cons.1 h with rfl | h
    · exact mergeF_keep cs _ entered_has
    · exact mergeF_has cs _ h
theorem mergeF_same {m : List Rec} (hv : Vld m) : ∀ (cs : List Rec), (∀ c ∈ cs, ∃ x ∈ m, x.p = c.p ∧ x.s ≤ c.s) → mergeF m cs = m
  | [], _ => rfl
  | c :: cs, h => by
    have e : mergeF m (c :: cs) = mergeF (entered m c).1 cs := rfl
    rw [e, entered_same hv (h c (by simp))]
    exact mergeF_same hv cs fun x hx => h x (by simp [hx])
theorem find_mem {rs : List Rec} {p : Int} {y : Rec} (h : recordFound rs p = some y) : y ∈ rs ∧ y.p = p := by
  unfold recordFound at h
  split at h
  · exact ⟨List.mem_of_find?_eq_some h, by simpa using List.find?_some h⟩
  · cases h
theorem find_has {rs : List Rec} (hk : recordsOk rs = true) {x : Rec} (hx : x ∈ rs) : recordFound rs x.p = some x := by
  cases h : recordFound rs x.p with
  | none =>
    unfold recordFound at h
    rw [if_pos hk, List.find?_eq_none] at h
    exact absurd (by simp) (h x hx)
  | some y =>
    obtain ⟨h1, h2⟩ := find_mem h
    rw [vld_uniq (recordsOk_iff.1 hk).2 h1 hx h2]
/-- what the law says of two lists of records -/
structure Mrg (rs cs m : List Rec) : Prop where
  e1 : mergeR rs cs = (m, true)
  e2 : mergeR m cs = (m, true)
  ok : recordsOk m = true
  old : ∀ x ∈ m, ∀ y, recordFound rs x.p = some y → ¬ y.s < x.s
  new : ∀ x ∈ m, ∀ y, recordFound cs x.p = some y → ¬ y.s < x.s
  src : ∀ x ∈ m, recordFound rs x.p = some x ∨ recordFound cs x.p = some x
theorem merged {rs cs : List Rec} (hr : RsOk rs) (hc : RsOk cs) : Mrg rs cs (mergeF rs cs) := by
  have vr := recordsOk_iff.1 hr.ok
  have vc := recordsOk_iff.1 hc.ok
  have hv : Vld (mergeF rs cs) := mergeF_vld cs vc.2.ok rs vr.2
  have hl := mergeF_le cs rs
  have l1 := hr.len
  have l2 := hc.len
  have ok : recordsOk (mergeF rs cs) = true := recordsOk_iff.2 ⟨by omega, hv⟩
  have kr : ∀ y ∈ rs, ∃ x ∈ mergeF rs cs, x.p = y.p ∧ x.s ≤ y.s := fun y hy => mergeF_keep cs rs ⟨y, hy, rfl, Int.le_refl _⟩
  have kc : ∀ y ∈ cs, ∃ x ∈ mergeF rs cs, x.p = y.p ∧ x.s ≤ y.s := fun y hy => mergeF_has cs rs hy
  have sm : mergeF (mergeF rs cs) cs = mergeF rs cs := mergeF_same hv cs kc
  have lo : ∀ x ∈ mergeF rs cs, ∀ y : Rec, (∃ z ∈ mergeF rs cs, z.p = y.p ∧ z.s ≤ y.s) → y.p = x.p → ¬ y.s < x.s := fun x hx y ⟨z, hz, h1, h2⟩ h3 => by
    have : z = x := vld_uniq hv hz hx (by omega)
    subst this; omega
  refine ⟨by simp [mergeR, hr.ok, hc.ok, ok], by simp [mergeR, hc.ok, ok, sm], ok, fun x hx y hy => ?_, fun x hx y hy => ?_, fun x hx => ?_⟩
  · obtain ⟨h1, h2⟩ := find_mem hy
    exact lo x hx y (kr y h1) h2
  · obtain ⟨h1, h2⟩ := find_mem hy
    exact lo x hx y (kc y h1) h2
  · rcases mergeF_mem cs rs hx with h | h
    · exact .inl (find_has hr.ok h)
    · exact .inr (find_has hc.ok h)
/-- what the law says of entering into a list of records -/
structure Ent (rs l1 l2 : List Rec) : Prop where
  e1 : enterRecord rs ⟨500, 3, 5, 0⟩ = (l1, true)
  e2 : enterRecord l1 ⟨500, 4, 5, 0⟩ = (l1, false)
  e3 : enterRecord l1 ⟨500, 4, 4, 0⟩ = (l2, true)
  n1 : l1.length = rs.length + 1
  n2 : l2.length = rs.length + 1
  c1 : countRecords l1 3 = countRecords rs 3 + 1
  c2 : countRecords l2 4 = countRecords rs 4 + 1
theorem pos_last {rs : List Rec} (h : ∀ r ∈ rs, r.p ≤ 15) {t : List Rec} (ht : ∀ x ∈ t, x.p = 500) : posOf (rs ++ t) 500 = rs.length :=
  posOf_eq (by simp) (fun j hj hji => by
    rw [List.getElem_append_left hji]
    have := h rs[j] (List.getElem_mem hji)
    omega) (fun hlt => by
    rw [List.getElem_append_right (Nat.le_refl _)]
    have := ht _ (List.getElem_mem (l := t) (n := rs.length - rs.length) (by simp at hlt ⊢; omega))
    omega)
theorem ent_new {rs : List Rec} (h : ∀ r ∈ rs, r.p ≤ 15) {r : Rec} (hp : r.p = 500) : entered rs r = (rs ++ [r], true) := by
  have e : posOf rs r.p = rs.length := by have := pos_last h (t := []) (by simp); rw [List.append_nil] at this; rw [hp]; exact this
  unfold entered
  rw [e]
  simp
theorem ent_old {rs : List Rec} (h : ∀ r ∈ rs, r.p ≤ 15) {q r : Rec} (hq : q.p = 500) (hp : r.p = 500) : entered (rs ++ [q]) r = if q.s ≤ r.s then (rs ++ [q], false) else (rs ++ [r], true) := by
  have e : posOf (rs ++ [q]) r.p = rs.length := by rw [hp]; exact pos_last h (by simp [hq])
  unfold entered
  rw [e]
  simp [hq, hp]
theorem cnt_snoc {rs : List Rec} {r : Rec} {k : Int} : cntRec (rs ++ [r]) k (rs ++ [r]).length = cntRec rs k rs.length + if r.h = k then 1 else 0 := by
  unfold cntRec
  rw [List.take_length, List.take_length, List.filter_append, List.length_append]
  by_cases h : r.h = k <;> simp [h]
theorem entering {rs : List Rec} (hr : RsOk rs) : Ent rs (rs ++ [⟨500, 3, 5, 0⟩]) (rs ++ [⟨500, 4, 4, 0⟩]) := by
  have vr := recordsOk_iff.1 hr.ok
  have hp : ∀ r ∈ rs, r.p ≤ 15 := fun r h => (hr.rcd r h).2.1
  have l := hr.len
  have x1 := ent_new hp (r := ⟨500, 3, 5, 0⟩) rfl
  have x2 := ent_old hp (q := ⟨500, 3, 5, 0⟩) (r := ⟨500, 4, 5, 0⟩) rfl rfl
  have x3 := ent_old hp (q := ⟨500, 3, 5, 0⟩) (r := ⟨500, 4, 4, 0⟩) rfl rfl
  have v1 : Vld (rs ++ [⟨500, 3, 5, 0⟩]) := by have := entered_vld vr.2 (r := ⟨500, 3, 5, 0⟩) (by decide); rwa [x1] at this
  have v2 : Vld (rs ++ [⟨500, 4, 4, 0⟩]) := by have := entered_vld vr.2 (r := ⟨500, 4, 4, 0⟩) (by decide); rwa [ent_new hp (r := ⟨500, 4, 4, 0⟩) rfl] at this
  have k1 : recordsOk (rs ++ [⟨500, 3, 5, 0⟩]) = true := recordsOk_iff.2 ⟨by simp; omega, v1⟩
  have k2 : recordsOk (rs ++ [⟨500, 4, 4, 0⟩]) = true := recordsOk_iff.2 ⟨by simp; omega, v2⟩
  refine ⟨by simp [enterRecord, hr.ok, x1, k1], by simp [enterRecord, k1, x2], by simp [enterRecord, k1, x3, k2], by simp, by simp, ?_, ?_⟩
  · simp only [countRecords, k1, hr.ok, if_true, cnt_snoc]
  · simp only [countRecords, k2, hr.ok, if_true, cnt_snoc]
/-! ### the walk -/
theorem big_c (bs : List Nat) : PC Try.prog 9 [] [.c (.l 1 (bs.map bV))] (vB (decide ((1048576 : Int) < bs.length))) ⟨[], []⟩ := by
  refine pc_of Try.func9 rfl (by kernel_rfl) _ Try.ntmps9 (by simp) ?_
  (repeat' (first | simp -implicitDefEqProofs only [go_sem, Nat.reduceLT, Nat.reduceLeDiff, Nat.reduceEqDiff, Nat.reduceAdd, Nat.reduceSub, Nat.reduceMul, Int.reduceEq, Int.reduceLT, Int.reduceLE, Int.reduceNeg, Int.reduceAdd, Int.reduceSub, Int.reduceMul, Int.reduceToNat, reduceIte, reduceCtorEq, List.map_cons, List.map_nil] | (refine And.intro ?_ ?_; omega) | (refine And.intro (shr_bd ?_ ?_) ?_; omega; omega) | refine sl_list rfl ?_ | refine sd_list rfl ?_ | refine sl_str ?_ | refine sd_str ?_))
  exact fin_scal rfl rfl
theorem drawRecords_ex (B : Bs) : ∃ rs cs : List Rec, RsOk rs ∧ RsOk cs ∧ PC Try.prog 10 [] [.c (.l 1 (B.l.map bV))] (.t [.c (.l 4 (rs.map recV)), .c (.l 4 (cs.map recV))]) ⟨[], []⟩ := by
  obtain ⟨rs, c1, h1, p1⟩ := recs_ex (newCr B)
  obtain ⟨cs, c2, h2, p2⟩ := recs_ex c1
  refine ⟨rs, cs, h1, h2, ?_⟩
  refine pc_of Try.func10 rfl (by kernel_rfl) _ Try.ntmps10 (by simp) ?_
  repeat' first
    | (first | simp -implicitDefEqProofs only [go_sem, Nat.reduceLT, Nat.reduceLeDiff, Nat.reduceEqDiff, Nat.reduceAdd, Nat.reduceSub, Nat.reduceMul, Int.reduceEq, Int.reduceLT, Int.reduceLE, Int.reduceNeg, Int.reduceAdd, Int.reduceSub, Int.reduceMul, Int.reduceToNat, reduceIte, reduceCtorEq, List.map_cons, List.map_nil] | (refine And.intro ?_ ?_; omega) | (refine And.intro (shr_bd ?_ ?_) ?_; omega; omega) | refine sl_list rfl ?_ | refine sd_list rfl ?_ | refine sl_str ?_ | refine sd_str ?_)
    | refine callN (new_c B 9000) rfl rfl rfl rfl ?_
    | refine callC p1 rfl rfl rfl rfl rfl ?_
    | refine callC p2 rfl rfl rfl rfl rfl ?_
  exact fin_of (fun i => i) (fun i => i) ⟨by simp [boxesR, listsR, csR, renC, keyC, optK, fnd, envR, St.get, keyPV, keyV1, renPV, renV1, hasKey, made_zero] <;> omega, by simp [boxesR, listsR, csR, renC, keyC, optK, fnd, envR, St.get, keyPV, keyV1, renPV, renV1, hasKey, made_zero] <;> omega, by simp [boxesR, listsR, csR, renC, keyC, optK, fnd, envR, St.get, keyPV, keyV1, renPV, renV1, hasKey, made_zero] <;> omega, by simp [boxesR, listsR, csR, renC, keyC, optK, fnd, envR, St.get, keyPV, keyV1, renPV, renV1, hasKey, made_zero] <;> omega, by simp [boxesR, listsR, csR, renC, keyC, optK, fnd, envR, St.get, keyPV, keyV1, renPV, renV1, hasKey, made_zero] <;> omega⟩ (by simp [boxesR, listsR, csR, renC, keyC, optK, fnd, envR, St.get, keyPV, keyV1, renPV, renV1, hasKey, made_zero] <;> omega) rfl
set_option maxHeartbeats 16000000 in
theorem lawRecords_c (bs : List Nat) (hb : ∀ b ∈ bs, b ≤ 255) : PC Try.prog 3 [] [.c (.l 1 (bs.map bV))] (vB true) ⟨[], []⟩ := by
  by_cases hn : (1048576 : Int) < bs.length
  · refine pc_of Try.func3 rfl (by kernel_rfl) _ Try.ntmps3 (by simp) ?_
    repeat' first
      | (first | simp -implicitDefEqProofs only [hn, go_sem, Nat.reduceLT, Nat.reduceLeDiff, Nat.reduceEqDiff, Nat.reduceAdd, Nat.reduceSub, Nat.reduceMul, Int.reduceEq, Int.reduceLT, Int.reduceLE, Int.reduceNeg, Int.reduceAdd, Int.reduceSub, Int.reduceMul, Int.reduceToNat, reduceIte, reduceCtorEq, List.map_cons, List.map_nil] | (refine And.intro ?_ ?_; omega) | (refine And.intro (shr_bd ?_ ?_) ?_; omega; omega) | refine sl_list rfl ?_ | refine sd_list rfl ?_ | refine sl_str ?_ | refine sd_str ?_)
      | refine callS (big_c bs) rfl rfl rfl ?_
    exact fin_scal rfl rfl
  obtain ⟨rs, cs, hr, hc, pd⟩ := drawRecords_ex ⟨bs, hb, by omega⟩
  have l1 := hr.len
  have l2 := hc.len
  have M := merged hr hc
  have E := entering hr
  have hl := mergeF_le cs rs
  generalize mergeF rs cs = m at M hl
  generalize rs ++ [⟨500, 3, 5, 0⟩] = n1 at E
  generalize rs ++ [⟨500, 4, 4, 0⟩] = n2 at E
  have y1 := E.n1
  have y2 := E.n2
  have cb : ∀ k, countRecords rs k ≤ 5 := fun k => by
    have := cnt_le (rs := rs) (h := k) (i := rs.length)
    unfold countRecords
    split <;> omega
  have b3 := cb 3
  have b4 := cb 4
  have z1 := E.c1
  have z2 := E.c2
  have m1 : ∀ d, PC Try.prog 11 [] [.c (.l 4 (rs.map recV)), .c (.l 4 (cs.map recV))] (.t [.c (.o d), .c (.v (.bool true))]) ⟨[], [(d, ⟨31, 4, m.map recV, false, true⟩)]⟩ := fun d => by
    have := iMergeRecords_c d rs cs (by omega) (by omega)
    rwa [M.e1] at this
  have m2 : ∀ d, PC Try.prog 11 [] [.c (.l 4 (m.map recV)), .c (.l 4 (cs.map recV))] (.t [.c (.o d), .c (.v (.bool true))]) ⟨[], [(d, ⟨31, 4, m.map recV, false, true⟩)]⟩ := fun d => by
    have := iMergeRecords_c d m cs (by omega) (by omega)
    rwa [M.e2] at this
  have f1 : ∀ d, PC Try.prog 14 [] [.c (.l 4 (rs.map recV)), .a (recC ⟨500, 3, 5, 0⟩)] (.t [.c (.o d), .c (.v (.bool true))]) ⟨[], [(d, ⟨31, 4, n1.map recV, false, true⟩)]⟩ := fun d => by
    have := iEnterRecord_c d rs ⟨500, 3, 5, 0⟩ (by omega)
    rwa [E.e1] at this
  have f2 : ∀ d, PC Try.prog 14 [] [.c (.l 4 (n1.map recV)), .a (recC ⟨500, 4, 5, 0⟩)] (.t [.c (.o d), .c (.v (.bool false))]) ⟨[], [(d, ⟨31, 4, n1.map recV, false, true⟩)]⟩ := fun d => by
    have := iEnterRecord_c d n1 ⟨500, 4, 5, 0⟩ (by omega)
    rwa [E.e2] at this
  have f3 : ∀ d, PC Try.prog 14 [] [.c (.l 4 (n1.map recV)), .a (recC ⟨500, 4, 4, 0⟩)] (.t [.c (.o d), .c (.v (.bool true))]) ⟨[], [(d, ⟨31, 4, n2.map recV, false, true⟩)]⟩ := fun d => by
    have := iEnterRecord_c d n1 ⟨500, 4, 4, 0⟩ (by omega)
    rwa [E.e3] at this
  have ok := M.ok
  have g0 : ((1048576 : Int) < bs.length) = False := by simp; omega
  refine pc_of Try.func3 rfl (by kernel_rfl) _ Try.ntmps3 (by simp) ?_
  repeat' first
    | (first | simp -implicitDefEqProofs only [g0, ok, go_sem, Nat.reduceLT, Nat.reduceLeDiff, Nat.reduceEqDiff, Nat.reduceAdd, Nat.reduceSub, Nat.reduceMul, Int.reduceEq, Int.reduceLT, Int.reduceLE, Int.reduceNeg, Int.reduceAdd, Int.reduceSub, Int.reduceMul, Int.reduceToNat, reduceIte, reduceCtorEq, List.map_cons, List.map_nil] | (refine And.intro ?_ ?_; omega) | (refine And.intro (shr_bd ?_ ?_) ?_; omega; omega) | refine sl_list rfl ?_ | refine sd_list rfl ?_ | refine sl_str ?_ | refine sd_str ?_)
    | refine callS (big_c bs) rfl rfl rfl ?_
    | refine callV pd rfl rfl rfl ?_
    | refine callL1 m1 rfl rfl rfl ?_
    | refine callL1 m2 rfl rfl rfl ?_
    | refine callS (iRecordsOk_c m (by omega)) rfl rfl rfl ?_
  refine loop_step (X := Nat) (fun i => ⟨199, [(3, vL 4 (rs.map recV)), (4, vL 4 (cs.map recV)), (5, vO 31), (7, vO 37), (9, vN i)], ⟨[], [(37, ⟨31, 4, m.map recV, false, true⟩), (31, ⟨31, 4, m.map recV, false, true⟩)]⟩⟩)
    (fun i => i ≤ m.length) (fun i => m.length - i) 0 (by omega) (weak_of (fun i => i) (fun i => i) rfl ⟨by simp [boxesR, listsR, csR, renC, keyC, optK, fnd, envR, St.get, keyPV, keyV1, renPV, renV1, hasKey, made_zero] <;> omega, by simp [boxesR, listsR, csR, renC, keyC, optK, fnd, envR, St.get, keyPV, keyV1, renPV, renV1, hasKey, made_zero] <;> omega, by simp [boxesR, listsR, csR, renC, keyC, optK, fnd, envR, St.get, keyPV, keyV1, renPV, renV1, hasKey, made_zero] <;> omega, by simp [boxesR, listsR, csR, renC, keyC, optK, fnd, envR, St.get, keyPV, keyV1, renPV, renV1, hasKey, made_zero] <;> omega, by simp [boxesR, listsR, csR, renC, keyC, optK, fnd, envR, St.get, keyPV, keyV1, renPV, renV1, hasKey, made_zero] <;> omega⟩ (by simp [boxesR, listsR, csR, renC, keyC, optK, fnd, envR, St.get, keyPV, keyV1, renPV, renV1, hasKey, made_zero] <;> omega)) (fun i hi => ?_)
  simp -implicitDefEqProofs only [go_sem, Nat.reduceLT, Nat.reduceLeDiff, Nat.reduceEqDiff, Nat.reduceAdd, Nat.reduceSub, Nat.reduceMul, Int.reduceEq, Int.reduceLT, Int.reduceLE, Int.reduceNeg, Int.reduceAdd, Int.reduceSub, Int.reduceMul, Int.reduceToNat, reduceIte, reduceCtorEq, List.map_cons, List.map_nil]
  refine if_splitP (fun h => ?_) (fun h => ?_)
  · have hlt : i < m.length := by omega
    have h1 := map_get (f := recV) hlt
    have hm := List.getElem_mem hlt
    have o1 := M.old _ hm
    have o2 := M.new _ hm
    have o3 := M.src _ hm
    have hk := (recordsOk_iff.1 ok).2.ok _ hm
    generalize m[i] = x at h1 hm o1 o2 o3 hk
    have hz : x ≠ zeroRec := fun e => by subst e; revert hk; decide
    cases ha : recordFound rs x.p with
    | none =>
      have hb' : recordFound cs x.p = some x := o3.resolve_left (by rw [ha]; simp)
      repeat' first
        | (first | simp -implicitDefEqProofs only [h1, recV, ha, hb', recordPV, Int.lt_irrefl, go_sem, Nat.reduceLT, Nat.reduceLeDiff, Nat.reduceEqDiff, Nat.reduceAdd, Nat.reduceSub, Nat.reduceMul, Int.reduceEq, Int.reduceLT, Int.reduceLE, Int.reduceNeg, Int.reduceAdd, Int.reduceSub, Int.reduceMul, Int.reduceToNat, reduceIte, reduceCtorEq, List.map_cons, List.map_nil] | (refine And.intro ?_ ?_; omega) | (refine And.intro (shr_bd ?_ ?_) ?_; omega; omega) | refine sl_list rfl ?_ | refine sd_list rfl ?_ | refine sl_str ?_ | refine sd_str ?_)
        | refine draw_step Try.pl_follows (by kernel_rfl) ?_
        | refine callS (iRecordOf_c rs x.p (by omega)) rfl rfl recordPV_scal ?_
        | refine callS (iRecordOf_c cs x.p (by omega)) rfl rfl recordPV_scal ?_
        | refine ne_recF (by kernel_rfl) ?_
        | refine ne_recT (x := x) (y := zeroRec) (by kernel_rfl) hz ?_
      all_goals exact ⟨i + 1, by omega, by omega, weak_of (fun i => i) (fun i => i) rfl ⟨by simp [boxesR, listsR, csR, renC, keyC, optK, fnd, envR, St.get, keyPV, keyV1, renPV, renV1, hasKey, made_zero] <;> omega, by simp [boxesR, listsR, csR, renC, keyC, optK, fnd, envR, St.get, keyPV, keyV1, renPV, renV1, hasKey, made_zero] <;> omega, by simp [boxesR, listsR, csR, renC, keyC, optK, fnd, envR, St.get, keyPV, keyV1, renPV, renV1, hasKey, made_zero] <;> omega, by simp [boxesR, listsR, csR, renC, keyC, optK, fnd, envR, St.get, keyPV, keyV1, renPV, renV1, hasKey, made_zero] <;> omega, by simp [boxesR, listsR, csR, renC, keyC, optK, fnd, envR, St.get, keyPV, keyV1, renPV, renV1, hasKey, made_zero] <;> omega⟩ (by simp [boxesR, listsR, csR, renC, keyC, optK, fnd, envR, St.get, keyPV, keyV1, renPV, renV1, hasKey, made_zero] <;> omega)⟩
    | some y =>
      have q1 := o1 y ha
      have q1' : (y.s < x.s) = False := by simp; omega
      cases hb' : recordFound cs x.p with
      | none =>
        obtain rfl : y = x := by
          rcases o3 with o3 | o3
          · rw [ha] at o3; exact Option.some.inj o3
          · rw [hb'] at o3; cases o3
        repeat' first
          | (first | simp -implicitDefEqProofs only [h1, recV, ha, hb', recordPV, Int.lt_irrefl, go_sem, Nat.reduceLT, Nat.reduceLeDiff, Nat.reduceEqDiff, Nat.reduceAdd, Nat.reduceSub, Nat.reduceMul, Int.reduceEq, Int.reduceLT, Int.reduceLE, Int.reduceNeg, Int.reduceAdd, Int.reduceSub, Int.reduceMul, Int.reduceToNat, reduceIte, reduceCtorEq, List.map_cons, List.map_nil] | (refine And.intro ?_ ?_; omega) | (refine And.intro (shr_bd ?_ ?_) ?_; omega; omega) | refine sl_list rfl ?_ | refine sd_list rfl ?_ | refine sl_str ?_ | refine sd_str ?_)
          | refine draw_step Try.pl_follows (by kernel_rfl) ?_
          | refine callS (iRecordOf_c rs y.p (by omega)) rfl rfl recordPV_scal ?_
          | refine callS (iRecordOf_c cs y.p (by omega)) rfl rfl recordPV_scal ?_
          | refine ne_recF (by kernel_rfl) ?_
        all_goals exact ⟨i + 1, by omega, by omega, weak_of (fun i => i) (fun i => i) rfl ⟨by simp [boxesR, listsR, csR, renC, keyC, optK, fnd, envR, St.get, keyPV, keyV1, renPV, renV1, hasKey, made_zero] <;> omega, by simp [boxesR, listsR, csR, renC, keyC, optK, fnd, envR, St.get, keyPV, keyV1, renPV, renV1, hasKey, made_zero] <;> omega, by simp [boxesR, listsR, csR, renC, keyC, optK, fnd, envR, St.get, keyPV, keyV1, renPV, renV1, hasKey, made_zero] <;> omega, by simp [boxesR, listsR, csR, renC, keyC, optK, fnd, envR, St.get, keyPV, keyV1, renPV, renV1, hasKey, made_zero] <;> omega, by simp [boxesR, listsR, csR, renC, keyC, optK, fnd, envR, St.get, keyPV, keyV1, renPV, renV1, hasKey, made_zero] <;> omega⟩ (by simp [boxesR, listsR, csR, renC, keyC, optK, fnd, envR, St.get, keyPV, keyV1, renPV, renV1, hasKey, made_zero] <;> omega)⟩
      | some z =>
        have q2 := o2 z hb'
        have q2' : (z.s < x.s) = False := by simp; omega
        by_cases exy : x = y
        · subst exy
          repeat' first
            | (first | simp -implicitDefEqProofs only [h1, recV, ha, hb', recordPV, Int.lt_irrefl, q2', go_sem, Nat.reduceLT, Nat.reduceLeDiff, Nat.reduceEqDiff, Nat.reduceAdd, Nat.reduceSub, Nat.reduceMul, Int.reduceEq, Int.reduceLT, Int.reduceLE, Int.reduceNeg, Int.reduceAdd, Int.reduceSub, Int.reduceMul, Int.reduceToNat, reduceIte, reduceCtorEq, List.map_cons, List.map_nil] | (refine And.intro ?_ ?_; omega) | (refine And.intro (shr_bd ?_ ?_) ?_; omega; omega) | refine sl_list rfl ?_ | refine sd_list rfl ?_ | refine sl_str ?_ | refine sd_str ?_)
            | refine draw_step Try.pl_follows (by kernel_rfl) ?_
            | refine callS (iRecordOf_c rs x.p (by omega)) rfl rfl recordPV_scal ?_
            | refine callS (iRecordOf_c cs x.p (by omega)) rfl rfl recordPV_scal ?_
            | refine ne_recF (by kernel_rfl) ?_
          all_goals exact ⟨i + 1, by omega, by omega, weak_of (fun i => i) (fun i => i) rfl ⟨by simp [boxesR, listsR, csR, renC, keyC, optK, fnd, envR, St.get, keyPV, keyV1, renPV, renV1, hasKey, made_zero] <;> omega, by simp [boxesR, listsR, csR, renC, keyC, optK, fnd, envR, St.get, keyPV, keyV1, renPV, renV1, hasKey, made_zero] <;> omega, by simp [boxesR, listsR, csR, renC, keyC, optK, fnd, envR, St.get, keyPV, keyV1, renPV, renV1, hasKey, made_zero] <;> omega, by simp [boxesR, listsR, csR, renC, keyC, optK, fnd, envR, St.get, keyPV, keyV1, renPV, renV1, hasKey, made_zero] <;> omega, by simp [boxesR, listsR, csR, renC, keyC, optK, fnd, envR, St.get, keyPV, keyV1, renPV, renV1, hasKey, made_zero] <;> omega⟩ (by simp [boxesR, listsR, csR, renC, keyC, optK, fnd, envR, St.get, keyPV, keyV1, renPV, renV1, hasKey, made_zero] <;> omega)⟩
        · obtain rfl : z = x := by
            rcases o3 with o3 | o3
            · rw [ha] at o3; exact absurd (Option.some.inj o3).symm exy
            · rw [hb'] at o3; exact Option.some.inj o3
          repeat' first
            | (first | simp -implicitDefEqProofs only [h1, recV, ha, hb', recordPV, Int.lt_irrefl, q1', go_sem, Nat.reduceLT, Nat.reduceLeDiff, Nat.reduceEqDiff, Nat.reduceAdd, Nat.reduceSub, Nat.reduceMul, Int.reduceEq, Int.reduceLT, Int.reduceLE, Int.reduceNeg, Int.reduceAdd, Int.reduceSub, Int.reduceMul, Int.reduceToNat, reduceIte, reduceCtorEq, List.map_cons, List.map_nil] | (refine And.intro ?_ ?_; omega) | (refine And.intro (shr_bd ?_ ?_) ?_; omega; omega) | refine sl_list rfl ?_ | refine sd_list rfl ?_ | refine sl_str ?_ | refine sd_str ?_)
            | refine draw_step Try.pl_follows (by kernel_rfl) ?_
            | refine callS (iRecordOf_c rs z.p (by omega)) rfl rfl recordPV_scal ?_
            | refine callS (iRecordOf_c cs z.p (by omega)) rfl rfl recordPV_scal ?_
            | refine ne_recF (by kernel_rfl) ?_
            | refine ne_recT (x := z) (y := y) (by kernel_rfl) exy ?_
          all_goals exact ⟨i + 1, by omega, by omega, weak_of (fun i => i) (fun i => i) rfl ⟨by simp [boxesR, listsR, csR, renC, keyC, optK, fnd, envR, St.get, keyPV, keyV1, renPV, renV1, hasKey, made_zero] <;> omega, by simp [boxesR, listsR, csR, renC, keyC, optK, fnd, envR, St.get, keyPV, keyV1, renPV, renV1, hasKey, made_zero] <;> omega, by simp [boxesR, listsR, csR, renC, keyC, optK, fnd, envR, St.get, keyPV, keyV1, renPV, renV1, hasKey, made_zero] <;> omega, by simp [boxesR, listsR, csR, renC, keyC, optK, fnd, envR, St.get, keyPV, keyV1, renPV, renV1, hasKey, made_zero] <;> omega, by simp [boxesR, listsR, csR, renC, keyC, optK, fnd, envR, St.get, keyPV, keyV1, renPV, renV1, hasKey, made_zero] <;> omega⟩ (by simp [boxesR, listsR, csR, renC, keyC, optK, fnd, envR, St.get, keyPV, keyV1, renPV, renV1, hasKey, made_zero] <;> omega)⟩
  · repeat' first
      | (first | simp -implicitDefEqProofs only [y1, y2, z1, z2, Int.natCast_add, Int.natCast_one, go_sem, Nat.reduceLT, Nat.reduceLeDiff, Nat.reduceEqDiff, Nat.reduceAdd, Nat.reduceSub, Nat.reduceMul, Int.reduceEq, Int.reduceLT, Int.reduceLE, Int.reduceNeg, Int.reduceAdd, Int.reduceSub, Int.reduceMul, Int.reduceToNat, reduceIte, reduceCtorEq, List.map_cons, List.map_nil] | (refine And.intro ?_ ?_; omega) | (refine And.intro (shr_bd ?_ ?_) ?_; omega; omega) | refine sl_list rfl ?_ | refine sd_list rfl ?_ | refine sl_str ?_ | refine sd_str ?_)
      | refine callL1 f1 rfl rfl rfl ?_
      | refine callL1 f2 rfl rfl rfl ?_
      | refine callL1 f3 rfl rfl rfl ?_
      | refine callS (iCountRecords_c rs 3 (by omega)) rfl rfl rfl ?_
      | refine callS (iCountRecords_c rs 4 (by omega)) rfl rfl rfl ?_
      | refine callS (iCountRecords_c n1 3 (by omega)) rfl rfl rfl ?_
      | refine callS (iCountRecords_c n2 4 (by omega)) rfl rfl rfl ?_
    all_goals exact fin_scal rfl (by simp)
theorem bytes_of {c : C} (h : TC (.l 1 false [.i .u8]) c) : ∃ l : List Nat, c = .l 1 (l.map bV) ∧ ∀ b ∈ l, b ≤ 255 := by
  obtain ⟨xs, rfl, hl, hx⟩ := tc_l h
  obtain ⟨rs, rfl, hr⟩ := list_of bV (fun b => b ≤ 255) (xs := xs) (fun x hm => by
    obtain ⟨k, hk, h⟩ := hx x hm
    obtain rfl := (List.cons.inj hk).1.symm
    obtain ⟨a, rfl, ha⟩ := h
    have h1 : (0 : Int) ≤ a := ha.1
    have h2 : a ≤ 255 := ha.2
    exact ⟨a.toNat, by simp only [bV, Int.toNat_of_nonneg h1], by omega⟩)
  exact ⟨rs, rfl, hr⟩
theorem fnRecords.law_c {c : C} (h : TC (.l 1 false [.i .u8]) c) : PC Try.prog 3 [] [.c c] (vB true) ⟨[], []⟩ := by
  obtain ⟨bs, rfl, hb⟩ := bytes_of h
  exact lawRecords_c bs hb
end Go.Proofs.Ytenfpjipeeolpaa
