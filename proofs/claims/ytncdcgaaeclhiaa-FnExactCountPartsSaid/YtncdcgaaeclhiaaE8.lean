/-
  Stores, slice literals, new variables: proved against the model.
-/
import Derived.Test.YtncdcgaaeclhiaaE7
namespace Go.PL
open Go.RowKit
set_option linter.unusedSimpArgs false
set_option linter.unusedVariables false

def splice {α : Type} (l : List α) (p : Nat) (vs : List α) : List α := l.take p ++ vs ++ l.drop (p + vs.length)
theorem splice_set {α : Type} (l : List α) (p : Nat) (v : α) (vs : List α) (h : p + (vs.length + 1) ≤ l.length) : splice (l.set p v) (p + 1) vs = splice l p (v :: vs) := by
  have e := list_seg_stepG l p v vs h
  exact e
where
  list_seg_stepG {α : Type} (l : List α) (k : Nat) (v : α) (rest : List α) (hk : k + (rest.length + 1) ≤ l.length) :
      (l.set k v).take (k + 1) ++ rest ++ (l.set k v).drop (k + 1 + rest.length) = l.take k ++ (v :: rest) ++ l.drop (k + (rest.length + 1)) := by
    have h1 : (l.set k v).take (k + 1) = l.take k ++ [v] := by
      rw [List.take_succ_eq_append_getElem (by simp; omega), List.take_set_of_le (Nat.le_refl _)]
      simp
    have h2 : (l.set k v).drop (k + 1 + rest.length) = l.drop (k + (rest.length + 1)) := by
      rw [List.drop_set_of_lt (by omega)]
      congr 1
      omega
    rw [h1, h2]
    simp
theorem setAll_splice : ∀ (vs l : List C) (p : Nat), p + vs.length ≤ l.length → setAll l p vs = splice l p vs
  | [], l, p, _ => by simp [setAll, splice]
  | v :: vs, l, p, h => by
    have h' : p + (vs.length + 1) ≤ l.length := by simpa using h
    simp only [setAll]
    rw [setAll_splice vs _ _ (by simp; omega), splice_set l p v vs h']
theorem foldl_splice : ∀ (vs : List Value) (k off : Nat) (arr : Array Value), off + k + vs.length ≤ arr.size →
    ((vs.zipIdx k).foldl (fun cs (x : Value × Nat) => cs.setIfInBounds (off + x.2) x.1) arr).toList = splice arr.toList (off + k) vs
  | [], k, off, arr, _ => by simp [splice]
  | v :: vs, k, off, arr, h => by
    have h' : off + k + (vs.length + 1) ≤ arr.size := by simpa using h
    simp only [List.zipIdx_cons, List.foldl_cons]
    rw [foldl_splice vs (k + 1) off _ (by simp; omega), Array.toList_setIfInBounds, ← Nat.add_assoc, splice_set _ _ v vs (by simp; omega)]
theorem splice_mid {α : Type} (A B xc vs : List α) (off : Nat) (h : off + vs.length ≤ xc.length) : splice (A ++ xc ++ B) (A.length + off) vs = A ++ splice xc off vs ++ B := by
  unfold splice
  rw [List.take_append_of_le_length (by simp; omega), List.take_append, List.take_of_length_le (by omega)]
  have e1 : A.length + off - A.length = off := by omega
  rw [e1, List.drop_append_of_le_length (by simp; omega), List.drop_append, List.drop_of_length_le (by omega)]
  have e2 : A.length + off + vs.length - A.length = off + vs.length := by omega
  rw [e2]
  simp
theorem flat_split {sz : Nat} {xs : List Value} (hsz : ∀ x ∈ xs, x.cells.size = sz) {idx : Nat} {x : Value} (hx : xs[idx]? = some x) :
    flat xs = flat (xs.take idx) ++ x.cells.toList ++ flat (xs.drop (idx + 1)) ∧ (flat (xs.take idx)).length = idx * sz := by
  have hlt : idx < xs.length := (List.getElem?_eq_some_iff.1 hx).1
  have hxe : xs[idx] = x := (List.getElem?_eq_some_iff.1 hx).2
  constructor
  · have : xs = xs.take idx ++ x :: xs.drop (idx + 1) := by rw [← hxe, ← List.drop_eq_getElem_cons hlt, List.take_append_drop]
    conv => lhs; rw [this]
    simp [flat]
  · rw [flat_len (fun y hy => hsz y (List.mem_of_mem_take hy))]
    rw [List.length_take, Nat.min_eq_left (by omega)]
theorem flat_set_splice {sz : Nat} {xs : List Value} (hsz : ∀ x ∈ xs, x.cells.size = sz) {idx off : Nat} {x x' : Value} {vs : List Value} (hx : xs[idx]? = some x) (hoff : off + vs.length ≤ sz)
    (hx' : x'.cells.toList = splice x.cells.toList off vs) : flat (xs.set idx x') = splice (flat xs) (idx * sz + off) vs := by
  have hlt : idx < xs.length := (List.getElem?_eq_some_iff.1 hx).1
  have hxs : x.cells.toList.length = sz := by simpa using hsz x (List.mem_of_getElem? hx)
  obtain ⟨h1, h2⟩ := flat_split hsz hx
  have h3 : xs.set idx x' = xs.take idx ++ x' :: xs.drop (idx + 1) := by rw [List.set_eq_take_append_cons_drop]; simp [hlt]
  rw [h1, ← h2, splice_mid _ _ _ _ _ (by omega), h3, ← hx']
  simp [flat]
theorem splice_len {α : Type} (l : List α) (p : Nat) (vs : List α) (h : p + vs.length ≤ l.length) : (splice l p vs).length = l.length := by
  simp [splice]; omega

/-- an own list that nobody else sees is written in place -/
theorem HeapOk.setList {g0 : Gh} {pk : Pk} {g : Gh} {h : Hp} (hk : HeapOk g0 pk g h) {d b n cap : Nat} {lo lo' : LO} (hm0 : (d, lo) ∈ h.lists) (huniq : ∀ lo1, (d, lo1) ∈ h.lists → lo1 = lo) (hl : lo.live = true) (hpub : lo.pub = false)
    (hv : g.ov d = .slice (some ⟨b, 0, none⟩) n cap) (arr : Array Value) (hpub' : lo'.pub = false) (hown : (g.w.setRow b arr).ownsRow 0 lo'.e lo'.sz (g.ov d) lo'.xs.length (flat lo'.xs))
    (hsz : ∀ x ∈ lo'.xs, x.cells.size = lo'.sz) (hpos : 0 < lo'.sz) (hone : ∀ u ∈ flat lo'.xs, u.oneCell' = true) :
    HeapOk g0 pk { g with w := g.w.setRow b arr } { h with lists := upd h.lists d lo' } ∧ Ext g h { g with w := g.w.setRow b arr } { h with lists := upd h.lists d lo' } := by
  have hL := hk.lists d lo hm0 hl
  have hb : blk g d = some b := by simp [blk, hv, Value.ownBlock]
  have hnV : ∀ o, ¬ g.V b o := fun o hvv => by have := ((hL.vis b hb o).1 hvv).1; rw [hpub] at this; cases this
  have c : Chg g0 pk g h { g with w := g.w.setRow b arr } { h with lists := upd h.lists d lo' } (some b) :=
    ⟨rfl, rfl, rfl, by simp, fun k _ hne => setRow_other _ _ _ _ (fun e => hne (by rw [e])), fun b' hb' => by cases hb'; exact .inl (hL.lt hb).1,
      fun b' hb' o hv => by cases hb'; exact absurd hv (hnV o), fun _ _ h => h, fun _ _ _ h => h,
      fun b' o hv => by have := hk.vin b' o hv; simpa using this,
      fun id cs' hm => ⟨⟨cs', hm⟩, rfl⟩, fun id lo hm => ⟨mem_upd_key hm, rfl⟩⟩
  have he := c.ext hk
  refine ⟨c.ok hk ?_ ?_ ?_ ?_ ?_, he⟩
  · intro id cs' hm
    have hb' := hk.boxes id cs' hm
    exact hb'.keep he rfl (setRow_other _ _ _ _ fun e => hk.sepX d lo id cs' hm0 hm hl (by rw [hb, e])) hb'.hid
  · intro id lo1 hm hl1
    rcases mem_upd hm with ⟨rfl, rfl⟩ | ⟨hne, hm⟩
    · refine ⟨hown, fun b' hb' => hL.mine b' hb', hsz, hpos, hone, fun b' hb' o => ?_⟩
      have : b' = b := by rw [show blk { g with w := g.w.setRow b arr } id = blk g id from rfl, hb] at hb'; cases hb'; rfl
      subst this
      exact ⟨fun h => absurd h (hnV o), fun h => by rw [hpub'] at h; cases h.1⟩
    · have hL1 := hk.lists id lo1 hm hl1
      exact hL1.keep rfl (fun b' hb' => setRow_other _ _ _ _ fun e => hk.sepL id lo1 d lo hm hm0 hl1 hl hne b' hb' (by rw [hb, e])) fun _ _ _ => Iff.rfl
  · exact fun id cs id' cs' hm hm' hne => hk.sepB id cs id' cs' hm hm' hne
  · intro id lo1 id' lo2 hm hm' hl1 hl2 hne b' hb'
    rcases mem_upd hm with ⟨e1, _⟩ | ⟨hn1, hm1⟩ <;> rcases mem_upd hm' with ⟨e2, _⟩ | ⟨hn2, hm2⟩
    · exact absurd (e1.trans e2.symm) hne
    · subst e1; exact hk.sepL id lo id' lo2 hm0 hm2 hl hl2 hne b' hb'
    · subst e2; exact hk.sepL id lo1 id' lo hm1 hm0 hl1 hl hne b' hb'
    · exact hk.sepL id lo1 id' lo2 hm1 hm2 hl1 hl2 hne b' hb'
  · intro id lo1 id' cs hm hm' hl1
    rcases mem_upd hm with ⟨e1, _⟩ | ⟨hn1, hm1⟩
    · subst e1; exact hk.sepX id lo id' cs hm0 hm' hl
    · exact hk.sepX id lo1 id' cs hm1 hm' hl1

theorem storeK_sound {P : Program} {h : Hp} {p : C} {y : V1} {cs : List C} {K : Hp → Prop} {t : TypeId} {n : Nat} (hn : szOf P t = some n) (hlen : n = cs.length) (hcs : cells1 y = some cs) (hc : storeK h p y cs K) :
    ∃ h', K h' ∧ ∀ g0 pk g cp cy, HeapOk g0 pk g h → WfG g h → RepC g h p cp → RepV1 g h y cy → ∃ g', (Instr.storeAt t cp cy).run P g.w = .ok () g'.w ∧ HeapOk g0 pk g' h' ∧ WfG g' h' ∧ Ext g h g' h' := by
  unfold szOf at hn
  simp at hn
  obtain ⟨inf, hinf, hsz⟩ := hn
  unfold storeK at hc
  split at hc
  · rename_i id off
    obtain ⟨old, hold, hle, hK⟩ := optK_ex hc
    refine ⟨_, hK, fun g0 pk g cp cy hk hwf hrp hry => ?_⟩
    obtain ⟨_, rfl⟩ := hrp
    have hm := fnd_mem hold
    obtain ⟨arr, ty, h1, h2, h3⟩ := (hk.boxes id old hm).cells
    obtain ⟨h4, h5⟩ := cells1_rep hwf.ov hcs hry
    have hl4 := h4.length
    have hl2 := h2.length
    simp only [Array.length_toList] at hl4 hl2
    have hr := run_storeCells_at (P := P) (g.bx id) off ty cy.cells.toList 0 arr g.w h1 (by simp; omega) h5
    have hnew : All2 (RepC g h) (setAll old off cs) (splice arr.toList off cy.cells.toList) := by
      rw [setAll_splice cs old off hle]
      unfold splice
      have : cs.length = cy.cells.toList.length := by simpa using hl4
      rw [this]
      exact ((h2.take off).append h4).append (h2.drop _)
    obtain ⟨hk', he⟩ := hk.setBox (arr := (splice arr.toList off cy.cells.toList).toArray) hm h1 (by simpa using hnew) (fun u hu => by
      simp only [splice, List.append_assoc] at hu
      rcases List.mem_append.1 hu with hu | hu
      · exact h3 u (List.mem_of_mem_take hu)
      · rcases List.mem_append.1 hu with hu | hu
        · exact h5 u hu
        · exact h3 u (List.mem_of_mem_drop hu))
    refine ⟨_, ?_, hk', ⟨hwf.ov, hwf.nd⟩, he⟩
    have hs : ¬ (cy.cells.size ≠ inf.size) := by omega
    simp only [Instr.storeAt, Instr.sureAddr, storeVar, sizeOf, typeInfo, Sem.run_bind, Sem.run_pure, Result.andThen_ok, run_program, hinf]
    rw [if_neg hs]
    rw [hr]
    simp [splice]
  · rename_i id sz idx off
    obtain ⟨lo, hlo, ⟨hl, hpub, hlsz⟩, hc⟩ := optK_ex hc
    subst hlsz
    obtain ⟨u, hu, hc⟩ := optK_ex hc
    obtain ⟨x, hx, hc⟩ := optK_ex hc
    have main : ∀ x' : Value, off + cs.length ≤ lo.sz → (x.cells.size = lo.sz → u.cells.size = cs.length → x'.cells.toList = splice x.cells.toList off u.cells.toList) → K { h with lists := upd h.lists id { lo with xs := lo.xs.set idx x' } } →
        ∃ h', K h' ∧ ∀ g0 pk g cp cy, HeapOk g0 pk g h → WfG g h → RepC g h (.e id lo.sz idx off) cp → RepV1 g h y cy → ∃ g', (Instr.storeAt t cp cy).run P g.w = .ok () g'.w ∧ HeapOk g0 pk g' h' ∧ WfG g' h' ∧ Ext g h g' h' := by
      intro x' hoff hx' hK
      refine ⟨_, hK, fun g0 pk g cp cy hk hwf hrp hry => ?_⟩
      obtain ⟨_, b, n', cap, hv, rfl⟩ := hrp
      have hm := fnd_mem hlo
      have hL := hk.lists id lo hm hl
      have hcy : cy = u := exactV1_rep hu hry
      subst hcy
      obtain ⟨h4, h5⟩ := cells1_rep hwf.ov hcs hry
      have hl4 := h4.length
      simp only [Array.length_toList] at hl4
      have hxs : x.cells.size = lo.sz := hL.sz x (List.mem_of_getElem? hx)
      have hidx : idx < lo.xs.length := (List.getElem?_eq_some_iff.1 hx).1
      rcases hL.own.2 with ⟨hv', _⟩ | ⟨gg, cap', cur, hv', hbase, hg, hnc, hcm, hcur, htake⟩
      · rw [hv] at hv'; cases hv'
      · rw [hv] at hv'
        simp only [Value.slice.injEq, Option.some.injEq, Addr.mk.injEq, and_true] at hv'
        obtain ⟨rfl, rfl, rfl⟩ := hv'
        have hbnd : idx * lo.sz + lo.sz ≤ lo.xs.length * lo.sz := by
          have : (idx + 1) * lo.sz ≤ lo.xs.length * lo.sz := Nat.mul_le_mul_right _ hidx
          rw [Nat.add_mul, Nat.one_mul] at this
          exact this
        have hbnd2 : lo.xs.length * lo.sz ≤ cur.size := by rw [hcur]; exact Nat.mul_le_mul_right _ hnc
        have hr := run_storeCells_at (P := P) b (idx * lo.sz + off) lo.e cy.cells.toList 0 cur g.w hg (by simp; omega) h5
        have hsp : x'.cells.toList = splice x.cells.toList off cy.cells.toList := hx' hxs hl4.symm
        have hx's : x'.cells.size = lo.sz := by
          have : x'.cells.toList.length = x.cells.toList.length := by rw [hsp, splice_len _ _ _ (by simp; omega)]
          simp at this
          omega
        have hflat := flat_set_splice hL.sz hx (vs := cy.cells.toList) (off := off) (x' := x') (by simp; omega) hsp
        have hszs : ∀ z ∈ lo.xs.set idx x', z.cells.size = lo.sz := fun z hz => by
          rcases List.mem_or_eq_of_mem_set hz with hz | rfl
          · exact hL.sz z hz
          · exact hx's
        have hfl : (flat lo.xs).length = lo.xs.length * lo.sz := flat_len hL.sz
        have hsl : (splice cur.toList (idx * lo.sz + off) cy.cells.toList).length = cur.size := by
          rw [splice_len _ _ _ (by simp; omega)]; simp
        obtain ⟨hk', he⟩ := hk.setList (lo' := { lo with xs := lo.xs.set idx x' }) hm (fun lo1 h1 => hwf.nd.uniq _ _ _ h1 hm) hl hpub hv (splice cur.toList (idx * lo.sz + off) cy.cells.toList).toArray hpub
          (by
            refine ⟨by rw [hflat, splice_len _ _ _ (by rw [hfl]; simp; omega), hfl]; simp, .inr ⟨b, cap, (splice cur.toList (idx * lo.sz + off) cy.cells.toList).toArray, by rw [hv]; simp, hbase, setRow_heap _ _ _ _ _ _ hg, by simpa using hnc, hcm, by simp [hsl, hcur], ?_⟩⟩
            rw [hflat, ← htake]
            simp only [List.length_set]
            unfold splice
            have e1 : idx * lo.sz + off ≤ lo.xs.length * lo.sz := by omega
            have e2 : idx * lo.sz + off + cy.cells.size ≤ lo.xs.length * lo.sz := by omega
            apply List.ext_getElem?
            intro j
            simp only [List.getElem?_take, List.getElem?_append, List.length_append, List.length_take, List.getElem?_drop, Array.length_toList, Array.getElem?_toList]
            have hmin1 : min (idx * lo.sz + off) cur.size = idx * lo.sz + off := by omega
            have hmin2 : min (idx * lo.sz + off) (min (lo.xs.length * lo.sz) cur.size) = idx * lo.sz + off := by omega
            simp only [hmin1, hmin2]
            by_cases j1 : j < lo.xs.length * lo.sz
            · simp only [j1, if_true]
              by_cases j2 : j < idx * lo.sz + off + cy.cells.size
              · by_cases j3 : j < idx * lo.sz + off
                · simp [j3, j1, j2]
                · simp [j3, j2]
              · have : idx * lo.sz + off + cy.cells.size + (j - (idx * lo.sz + off + cy.cells.size)) = j := by omega
                simp [j2, this, j1]
            · have j2 : ¬ j < idx * lo.sz + off + cy.cells.size := by omega
              have : idx * lo.sz + off + cy.cells.size + (j - (idx * lo.sz + off + cy.cells.size)) = j := by omega
              simp [j1, j2, this])
          hszs hL.pos
          (fun c hc => by
            rw [hflat] at hc
            simp only [splice, List.append_assoc] at hc
            rcases List.mem_append.1 hc with hc | hc
            · exact hL.one c (List.mem_of_mem_take hc)
            · rcases List.mem_append.1 hc with hc | hc
              · exact h5 c hc
              · exact hL.one c (List.mem_of_mem_drop hc))
        refine ⟨_, ?_, hk', ⟨fun id' lo' hm' => ?_, hwf.nd.upd _ _⟩, he⟩
        · have hs : ¬ (cy.cells.size ≠ inf.size) := by omega
          simp only [Instr.storeAt, Instr.sureAddr, storeVar, sizeOf, typeInfo, Sem.run_bind, Sem.run_pure, Result.andThen_ok, run_program, hinf]
          rw [if_neg hs]
          rw [hr]
          simp [splice]
        · rcases mem_upd hm' with ⟨rfl, _⟩ | ⟨_, hm'⟩
          · exact hwf.ov _ lo hm
          · exact hwf.ov id' lo' hm'
    split at hc
    · rename_i hcond
      obtain ⟨hz0, hcl⟩ := hcond
      refine main u (by omega) (fun h1 h2 => ?_) hc
      subst hz0
      have e : u.cells.toList.length = x.cells.toList.length := by simp; omega
      simp [splice]
      rw [show u.cells.size = x.cells.toList.length by simpa using e]
      simp
    · obtain ⟨⟨h0, h1, h2, h3⟩, hK⟩ := hc
      refine main _ (by omega) (fun h4 h5 => ?_) hK
      rw [cells_of_one h0]
      cases x with
      | agg arr =>
        have hoff : off + 1 ≤ arr.toList.length := by simp [Value.cells] at h4 ⊢; omega
        have e := splice_set arr.toList off u [] (by simpa using hoff)
        have e2 : splice (arr.toList.set off u) (off + 1) [] = arr.toList.set off u := by simp [splice]
        rw [e2] at e
        simpa [setCellV, Value.cells] using e
      | _ => simp [Value.cells] at h4; omega
  · exact hc.elim

end Go.PL
