/-
  How the memory of the abstract values changes: a new box, a store into a box, a new own list, an append, a store into an own list, a publication.
  The state of a call on abstract values, and the operations that change boxes and own lists: defined, and proved against the model.
  Stores, slice literals, new variables: proved against the model.
  Slice literals, new variables, slices of own lists; calls by their contracts.
-/
import Derived.Test.YtahnbliabllflaaE1
import Derived.Lib.AppendStr
namespace Go.PL
open Go.RowKit
set_option linter.unusedSimpArgs false
set_option linter.unusedVariables false

theorem BoxOk.keep {g0 : Gh} {pk : Pk} {g g' : Gh} {h h' : Hp} {id : Nat} {cs : List C} (hb : BoxOk g0 pk g h id cs) (he : Ext g h g' h') (hbx : g'.bx id = g.bx id)
    (hheap : g'.w.heap[g.bx id]? = g.w.heap[g.bx id]?) (hV : ∀ o, ¬ g'.V (g.bx id) o) : BoxOk g0 pk g' h' id cs := by
  obtain ⟨arr, ty, h1, h2, h3⟩ := hb.cells
  exact ⟨by rw [hbx]; exact hb.own, by rw [hbx]; exact hV, arr, ty, by rw [hbx, hheap]; exact h1, h2.mono fun _ _ => RepC.ext he, h3⟩
theorem ListOk.keep {M : Nat → Prop} {g g' : Gh} {id : Nat} {lo : LO} (hl : ListOk M g id lo) (hov : g'.ov id = g.ov id) (hheap : ∀ b, blk g id = some b → g'.w.heap[b]? = g.w.heap[b]?)
    (hV : ∀ b, blk g id = some b → ∀ o, g'.V b o ↔ g.V b o) : ListOk M g' id lo := by
  refine ⟨?_, fun b hb => hl.mine b (by simpa [blk, hov] using hb), hl.sz, hl.pos, hl.one, fun b hb o => ?_⟩
  · refine ⟨hl.own.1, ?_⟩
    rw [hov]
    rcases hl.own.2 with hn | ⟨gg, cap, cur, hv, hb, hg, r⟩
    · exact .inl hn
    · exact .inr ⟨gg, cap, cur, hv, hb, by rw [hheap gg (by simp [blk, hv, Value.ownBlock])]; exact hg, r⟩
  · have hb' : blk g id = some b := by simpa [blk, hov] using hb
    rw [hV b hb' o]
    exact hl.vis b hb' o

/-- a box, an own list is no map that is shared -/
theorem HeapOk.boxNoMap {g0 : Gh} {pk : Pk} {g : Gh} {h : Hp} (hk : HeapOk g0 pk g h) {id : Nat} {cs : List C} (hm : (id, cs) ∈ h.boxes) (G : List MapEntry → Prop) : ¬ g.M (g.bx id) G := fun hM => by
  obtain ⟨es, ck, h1, _⟩ := hk.maps _ G hM
  obtain ⟨arr, ty, h2, _⟩ := (hk.boxes id cs hm).cells
  rw [h1] at h2
  cases h2
theorem HeapOk.listNoMap {g0 : Gh} {pk : Pk} {g : Gh} {h : Hp} (hk : HeapOk g0 pk g h) {id : Nat} {lo : LO} (hm : (id, lo) ∈ h.lists) (hl : lo.live = true) {b : Nat} (hb : blk g id = some b) (G : List MapEntry → Prop) : ¬ g.M b G := fun hM => by
  obtain ⟨es, ck, h1, _⟩ := hk.maps _ G hM
  rcases (hk.lists id lo hm hl).own.2 with ⟨hv, _⟩ | ⟨gg, cap, cur, hv, _, hg, _⟩
  · simp [blk, hv, Value.ownBlock] at hb
  · simp [blk, hv, Value.ownBlock] at hb
    subst hb
    rw [h1] at hg
    cases hg
/-- the frame's part of a change: one own block may be written, new blocks may come, more may be published in own blocks -/
structure Chg (g0 : Gh) (pk : Pk) (g : Gh) (h : Hp) (g' : Gh) (h' : Hp) (row : Option Nat) : Prop where
  os : g'.w.os = g.w.os
  tape : g'.w.tape = g.w.tape
  output : g'.w.output = g.w.output
  size : g.w.heap.size ≤ g'.w.heap.size
  heap : ∀ k, k < g.w.heap.size → some k ≠ row → g'.w.heap[k]? = g.w.heap[k]?
  rowOwn : ∀ b, row = some b → Mine g0 pk b ∨ ∃ id ∈ pk.bs, g0.bx id = b
  rowV : ∀ b, row = some b → ∀ o, g.V b o → g'.w.cell? ⟨b, o, none⟩ = g.w.cell? ⟨b, o, none⟩
  V : ∀ b o, g.V b o → g'.V b o
  Vold : ∀ b o, ¬ Mine g0 pk b → g'.V b o → g.V b o
  vin : ∀ b o, g'.V b o → b < g'.w.heap.size
  box : ∀ id cs, (id, cs) ∈ h.boxes → (∃ cs', (id, cs') ∈ h'.boxes) ∧ g'.bx id = g.bx id
  lst : ∀ id lo, (id, lo) ∈ h.lists → (∃ lo', (id, lo') ∈ h'.lists) ∧ g'.ov id = g.ov id
  M : g'.M = g.M
  rowM : ∀ b, row = some b → ∀ G, ¬ g.M b G
theorem Chg.ext {g0 : Gh} {pk : Pk} {g g' : Gh} {h h' : Hp} {row : Option Nat} (c : Chg g0 pk g h g' h' row) (hk : HeapOk g0 pk g h) : Ext g h g' h' :=
  ⟨fun b o hv => ⟨c.V b o hv, by
    by_cases hr : some b = row
    · exact c.rowV b hr.symm o hv
    · exact World.cell?_of_block (c.heap b (hk.vin b o hv) hr)⟩, c.box, c.lst, fun b G hm => by rw [c.M]; exact hm⟩
theorem Chg.ok {g0 : Gh} {pk : Pk} {g g' : Gh} {h h' : Hp} {row : Option Nat} (c : Chg g0 pk g h g' h' row) (hk : HeapOk g0 pk g h)
    (boxes : ∀ id cs, (id, cs) ∈ h'.boxes → BoxOk g0 pk g' h' id cs)
    (lists : ∀ id lo, (id, lo) ∈ h'.lists → lo.live = true → ListOk (Mine g0 pk) g' id lo)
    (sepB : ∀ id cs id' cs', (id, cs) ∈ h'.boxes → (id', cs') ∈ h'.boxes → id ≠ id' → g'.bx id ≠ g'.bx id')
    (sepL : ∀ id lo id' lo', (id, lo) ∈ h'.lists → (id', lo') ∈ h'.lists → lo.live = true → lo'.live = true → id ≠ id' → ∀ b, blk g' id = some b → blk g' id' ≠ some b)
    (sepX : ∀ id lo id' cs, (id, lo) ∈ h'.lists → (id', cs) ∈ h'.boxes → lo.live = true → blk g' id ≠ some (g'.bx id')) : HeapOk g0 pk g' h' := by
  refine ⟨c.os.trans hk.os, c.tape.trans hk.tape, c.output.trans hk.output, Nat.le_trans hk.size c.size, ?_, ?_, ?_, c.vin, fun id hid => (by obtain ⟨cs, hm⟩ := hk.pkin id hid; exact (c.box id cs hm).1), fun id hid => (by
    obtain ⟨⟨lo, hm⟩, e⟩ := hk.lsin id hid
    exact ⟨(c.lst id lo hm).1, (c.lst id lo hm).2.trans e⟩), boxes, lists, sepB, sepL, sepX, hk.tab, fun b G hm => ?_, fun b G hb hm => hk.mold b G hb (by rw [← c.M]; exact hm), fun b G hm => by rw [c.M]; exact hk.mkept b G hm⟩
  · intro k hlt hne hne2 hnm
    rw [c.heap k (Nat.lt_of_lt_of_le hlt hk.size) (fun e => by
      rcases c.rowOwn k e.symm with (h1 | ⟨id, h1, h2⟩) | ⟨id, h1, h2⟩
      · omega
      · exact hne2 id h1 h2
      · exact hne id h1 h2)]
    exact hk.frame k hlt hne hne2 hnm
  · intro b o hv
    have h1 := hk.vis b o hv
    have h2 := (c.ext hk).vis b o h1.1
    exact ⟨h2.1, h2.2.trans h1.2⟩
  · exact fun b o hb hn hv => hk.old b o hb hn (c.Vold b o (fun hm => by
      rcases hm with h1 | ⟨id, h1, h2⟩
      · omega
      · exact hn id h1 h2) hv)
  · rw [c.M] at hm
    obtain ⟨es, ck, h1, h2⟩ := hk.maps b G hm
    exact ⟨es, ck, (c.heap b (Array.getElem?_eq_some_iff.1 h1).1 fun e => c.rowM b e.symm G hm).trans h1, h2.1, fun G' hG' => h2.2 G' (by rw [← c.M]; exact hG')⟩

/-- an empty map in a new block is shared: its entries keep a law -/
theorem HeapOk.nameM {g0 : Gh} {pk : Pk} {g : Gh} {h : Hp} (hk : HeapOk g0 pk g h) {b : Nat} (hnew : g0.w.heap.size ≤ b) (hb : g.w.heap[b]? = some (.map #[] 0)) (hnm : ∀ G, ¬ g.M b G) (G : List MapEntry → Prop) (hG : G []) :
    HeapOk g0 pk { g with M := fun b' G' => g.M b' G' ∨ (b' = b ∧ G' = G) } h ∧ Ext g h { g with M := fun b' G' => g.M b' G' ∨ (b' = b ∧ G' = G) } h := by
  have he : Ext g h { g with M := fun b' G' => g.M b' G' ∨ (b' = b ∧ G' = G) } h := ⟨fun b o hv => ⟨hv, rfl⟩, fun id cs hm => ⟨⟨cs, hm⟩, rfl⟩, fun id lo hm => ⟨⟨lo, hm⟩, rfl⟩, fun _ _ hM => .inl hM⟩
  refine ⟨⟨hk.os, hk.tape, hk.output, hk.size, hk.frame, hk.vis, hk.old, hk.vin, hk.pkin, hk.lsin, fun id cs hm => (hk.boxes id cs hm).keep he rfl rfl (hk.boxes id cs hm).hid, fun id lo hm hl => (hk.lists id lo hm hl).keep rfl (fun _ _ => rfl) fun _ _ _ => Iff.rfl, hk.sepB, hk.sepL, hk.sepX, hk.tab, fun b' G' hM => ?_, fun b' G' hb' hM => ?_, fun b' G' hM => .inl (hk.mkept b' G' hM)⟩, he⟩
  · rcases hM with hM | ⟨rfl, rfl⟩
    · obtain ⟨es, ck, h1, h2, h3⟩ := hk.maps b' G' hM
      refine ⟨es, ck, h1, h2, fun G2 h4 => ?_⟩
      rcases h4 with h4 | ⟨rfl, _⟩
      · exact h3 G2 h4
      · exact absurd hM (hnm _)
    · refine ⟨#[], 0, hb, hG, fun G2 h4 => ?_⟩
      rcases h4 with h4 | ⟨_, h4⟩
      · exact absurd h4 (hnm _)
      · exact h4
  · rcases hM with hM | ⟨rfl, rfl⟩
    · exact hk.mold b' G' hb' hM
    · omega
/-- a new map that is shared -/
theorem HeapOk.newMap {g0 : Gh} {pk : Pk} {g : Gh} {h : Hp} (hk : HeapOk g0 pk g h) (G : List MapEntry → Prop) (hG : G []) :
    ∃ g', g'.w = g.w.alloc (.map #[] 0) ∧ g'.ov = g.ov ∧ HeapOk g0 pk g' h ∧ Ext g h g' h ∧ g'.M g.w.heap.size G := by
  have hst := hk.step (g.w.alloc (.map #[] 0)) g.V rfl rfl rfl (by simp) (fun k hlt => heap_alloc_old g.w _ hlt) (fun _ _ h => h) (fun b o _ hv => hv) (fun b o hv => by have := hk.vin b o hv; simp; omega)
  have hx := hst.1.nameM (b := g.w.heap.size) hk.size (heap_alloc_new g.w _) (fun G' hM => by
    obtain ⟨es, ck, h1, _⟩ := hk.maps _ G' hM
    have := (Array.getElem?_eq_some_iff.1 h1).1
    omega) G hG
  exact ⟨{ w := g.w.alloc (.map #[] 0), V := g.V, bx := g.bx, ov := g.ov, M := fun b' G' => g.M b' G' ∨ (b' = g.w.heap.size ∧ G' = G) }, rfl, rfl, hx.1, hst.2.trans hx.2, .inr ⟨rfl, rfl⟩⟩
/-- an entry of a shared map is written -/
theorem HeapOk.setMap {g0 : Gh} {pk : Pk} {g : Gh} {h : Hp} (hk : HeapOk g0 pk g h) {b : Nat} {G : List MapEntry → Prop} (hM : g.M b G) (es' : Array MapEntry) (ck' : Nat) (hG : G es'.toList) :
    HeapOk g0 pk { g with w := { g.w with heap := g.w.heap.setIfInBounds b (.map es' ck') } } h ∧ Ext g h { g with w := { g.w with heap := g.w.heap.setIfInBounds b (.map es' ck') } } h := by
  obtain ⟨es, ck, h1, h2, h3⟩ := hk.maps b G hM
  have hlt := (Array.getElem?_eq_some_iff.1 h1).1
  refine hk.stepM _ g.V rfl rfl rfl (by simp) (fun k hk' hnm => ?_) (fun b' G' hM' => ?_) (fun _ _ h => h) (fun _ _ _ h => h) (fun b o hv => by have := hk.vin b o hv; simpa using this)
  · have hne : ¬ b = k := fun e => hnm G (by rw [← e]; exact hM)
    simp [Array.getElem?_setIfInBounds, hne]
  · by_cases e : b = b'
    · subst e
      refine ⟨es', ck', by simp [Array.getElem?_setIfInBounds, hlt], ?_⟩
      rw [h3 G' hM']; exact hG
    · obtain ⟨es1, ck1, h4, h5, _⟩ := hk.maps b' G' hM'
      exact ⟨es1, ck1, by simp [Array.getElem?_setIfInBounds, e, h4], h5⟩

/-- a new box -/
theorem HeapOk.addBox {g0 : Gh} {pk : Pk} {g : Gh} {h : Hp} (hk : HeapOk g0 pk g h) {d : Nat} (hd : hasKey h.boxes d = false) {cs : List C} {arr : Array Value} (t : TypeId)
    (hr : All2 (RepC g h) cs arr.toList) (h1 : ∀ u ∈ arr.toList, u.oneCell' = true) :
    ∃ g', g'.w = g.w.alloc (.cells arr t) ∧ g'.bx d = g.w.heap.size ∧ g'.ov = g.ov ∧ HeapOk g0 pk g' { h with boxes := (d, cs) :: h.boxes } ∧ Ext g h g' { h with boxes := (d, cs) :: h.boxes } := by
  let g' : Gh := { w := g.w.alloc (.cells arr t), V := g.V, bx := fun i => if i = d then g.w.heap.size else g.bx i, ov := g.ov, M := g.M }
  have hbx : ∀ id cs', (id, cs') ∈ h.boxes → g'.bx id = g.bx id := fun id cs' hm => by
    have := ne_of_noKey hd hm
    simp [g', this]
  have hold : ∀ k, k < g.w.heap.size → g'.w.heap[k]? = g.w.heap[k]? := fun k hlt => heap_alloc_old g.w _ hlt
  have c : Chg g0 pk g h g' { h with boxes := (d, cs) :: h.boxes } none :=
    ⟨rfl, rfl, rfl, by simp [g'], fun k hlt _ => hold k hlt, by simp, by simp, fun _ _ h => h, fun _ _ _ h => h,
      fun b o hv => by have := hk.vin b o hv; simp [g']; omega,
      fun id cs' hm => ⟨⟨cs', List.mem_cons_of_mem _ hm⟩, hbx id cs' hm⟩, fun id lo hm => ⟨⟨lo, hm⟩, rfl⟩, rfl, by simp⟩
  have he := c.ext hk
  refine ⟨g', rfl, by simp [g'], rfl, c.ok hk ?_ ?_ ?_ ?_ ?_, he⟩
  · intro id cs' hm
    rcases List.mem_cons.1 hm with hm | hm
    · obtain ⟨rfl, rfl⟩ := Prod.mk.inj hm
      have hb : g'.bx id = g.w.heap.size := by simp [g']
      refine ⟨.inl ⟨fun hin => by obtain ⟨cs1, hm1⟩ := hk.pkin _ hin; exact ne_of_noKey hd hm1 rfl, by rw [hb]; exact hk.size⟩, fun o hv => ?_, arr, t, by rw [hb]; exact heap_alloc_new g.w _, hr.mono fun _ _ => RepC.ext he, h1⟩
      rw [hb] at hv
      have := hk.vin _ _ hv
      omega
    · have hb := hk.boxes id cs' hm
      exact hb.keep he (hbx id cs' hm) (hold _ hb.lt) hb.hid
  · intro id lo hm hl
    have hb := hk.lists id lo hm hl
    exact hb.keep rfl (fun b hb' => hold b (hb.lt hb').2) fun _ _ _ => Iff.rfl
  · intro id cs1 id' cs2 hm hm' hne
    rcases List.mem_cons.1 hm with h1 | h1 <;> rcases List.mem_cons.1 hm' with h2 | h2
    · exact absurd ((Prod.mk.inj h1).1.trans (Prod.mk.inj h2).1.symm) hne
    · obtain ⟨rfl, rfl⟩ := Prod.mk.inj h1
      rw [hbx _ _ h2]
      have := (hk.boxes _ _ h2).lt
      simp [g']; omega
    · obtain ⟨rfl, rfl⟩ := Prod.mk.inj h2
      rw [hbx _ _ h1]
      have := (hk.boxes _ _ h1).lt
      simp [g']; omega
    · rw [hbx _ _ h1, hbx _ _ h2]
      exact hk.sepB _ _ _ _ h1 h2 hne
  · exact fun id lo id' lo' hm hm' hl hl' hne b hb => hk.sepL id lo id' lo' hm hm' hl hl' hne b hb
  · intro id lo id' cs' hm hm' hl
    rcases List.mem_cons.1 hm' with hm' | hm'
    · obtain ⟨rfl, rfl⟩ := Prod.mk.inj hm'
      intro e
      have := ((hk.lists id lo hm hl).lt e).2
      simp [g'] at this
    · rw [hbx _ _ hm']
      exact hk.sepX id lo id' cs' hm hm' hl

/-- a box is written -/
theorem HeapOk.setBox {g0 : Gh} {pk : Pk} {g : Gh} {h : Hp} (hk : HeapOk g0 pk g h) {d : Nat} {cs0 cs : List C} {old arr : Array Value} {t : TypeId} (hm0 : (d, cs0) ∈ h.boxes)
    (hg : g.w.heap[g.bx d]? = some (.cells old t (0, 0))) (hr : All2 (RepC g h) cs arr.toList) (h1 : ∀ u ∈ arr.toList, u.oneCell' = true) :
    HeapOk g0 pk { g with w := g.w.setRow (g.bx d) arr } { h with boxes := upd h.boxes d cs } ∧ Ext g h { g with w := g.w.setRow (g.bx d) arr } { h with boxes := upd h.boxes d cs } := by
  have hbd := hk.boxes d cs0 hm0
  have c : Chg g0 pk g h { g with w := g.w.setRow (g.bx d) arr } { h with boxes := upd h.boxes d cs } (some (g.bx d)) :=
    ⟨rfl, rfl, rfl, by simp, fun k _ hne => setRow_other _ _ _ _ (fun e => hne (by rw [e])), fun b hb => by
        cases hb
        rcases hbd.own with ⟨_, h1⟩ | ⟨h1, h2⟩
        · exact .inl (.inl h1)
        · exact .inr ⟨d, h1, h2.symm⟩,
      fun b hb o hv => by cases hb; exact absurd hv (hbd.hid o), fun _ _ h => h, fun _ _ _ h => h,
      fun b o hv => by have := hk.vin b o hv; simpa using this,
      fun id cs' hm => ⟨mem_upd_key hm, rfl⟩, fun id lo hm => ⟨⟨lo, hm⟩, rfl⟩, rfl, fun b hb G => by cases hb; exact hk.boxNoMap hm0 G⟩
  have he := c.ext hk
  refine ⟨c.ok hk ?_ ?_ ?_ ?_ ?_, he⟩
  · intro id cs' hm
    rcases mem_upd hm with ⟨rfl, rfl⟩ | ⟨hne, hm⟩
    · exact ⟨hbd.own, hbd.hid, arr, t, setRow_heap _ _ _ _ _ _ hg, hr.mono fun _ _ => RepC.ext he, h1⟩
    · have hb := hk.boxes id cs' hm
      exact hb.keep he rfl (setRow_other _ _ _ _ (hk.sepB _ _ _ _ hm hm0 hne)) hb.hid
  · intro id lo hm hl
    have hb := hk.lists id lo hm hl
    exact hb.keep rfl (fun b hb' => setRow_other _ _ _ _ (fun e => hk.sepX id lo d cs0 hm hm0 hl (by rw [hb', e]))) fun _ _ _ => Iff.rfl
  · intro id cs1 id' cs2 hm hm' hne
    have k1 : ∃ x, (id, x) ∈ h.boxes := by
      rcases mem_upd hm with ⟨rfl, _⟩ | ⟨_, hm⟩
      · exact ⟨_, hm0⟩
      · exact ⟨_, hm⟩
    have k2 : ∃ x, (id', x) ∈ h.boxes := by
      rcases mem_upd hm' with ⟨rfl, _⟩ | ⟨_, hm⟩
      · exact ⟨_, hm0⟩
      · exact ⟨_, hm⟩
    obtain ⟨x, hx⟩ := k1
    obtain ⟨y, hy⟩ := k2
    exact hk.sepB _ _ _ _ hx hy hne
  · exact fun id lo id' lo' hm hm' hl hl' hne b hb => hk.sepL id lo id' lo' hm hm' hl hl' hne b hb
  · intro id lo id' cs' hm hm' hl
    rcases mem_upd hm' with ⟨rfl, _⟩ | ⟨_, hm'⟩
    · exact hk.sepX id lo _ _ hm hm0 hl
    · exact hk.sepX id lo id' cs' hm hm' hl

/-- a list that comes: out of an old own list (which goes) or new; its block is the old one's or a new one -/
theorem HeapOk.putList {g0 : Gh} {pk : Pk} {g : Gh} {h : Hp} (hk : HeapOk g0 pk g h) {d : Nat} (hd : hasKey h.lists d = false) (lists : List (Nat × LO)) (row : Option Nat)
    (hlists : ∀ id lo, (id, lo) ∈ lists → lo.live = true → (id, lo) ∈ h.lists ∧ (∀ b, row = some b → blk g id ≠ some b))
    (hkeys : ∀ id lo, (id, lo) ∈ h.lists → ∃ lo', (id, lo') ∈ lists) (hkeys' : ∀ id lo, (id, lo) ∈ lists → ∃ lo', (id, lo') ∈ h.lists)
    (hrow : ∀ b, row = some b → Mine g0 pk b ∧ b < g.w.heap.size ∧ (∀ id cs, (id, cs) ∈ h.boxes → g.bx id ≠ b) ∧ ∀ G, ¬ g.M b G)
    {v : Value} {w' : World} {lo : LO} (hlive : lo.live = true) (hown : w'.ownsRow 0 lo.e lo.sz v lo.xs.length (flat lo.xs)) (hsz : ∀ x ∈ lo.xs, x.cells.size = lo.sz) (hpos : 0 < lo.sz) (hone : ∀ u ∈ flat lo.xs, u.oneCell' = true)
    (hos : w'.os = g.w.os) (htape : w'.tape = g.w.tape) (hout : w'.output = g.w.output) (hsize : g.w.heap.size ≤ w'.heap.size)
    (hheap : ∀ k, k < g.w.heap.size → some k ≠ row → w'.heap[k]? = g.w.heap[k]?)
    (hrowV : ∀ b, row = some b → ∀ o, g.V b o → w'.cell? ⟨b, o, none⟩ = g.w.cell? ⟨b, o, none⟩ ∧ lo.pub = true ∧ o < (flat lo.xs).length)
    (hv : ∀ b, v.ownBlock = some b → (row = some b ∨ g.w.heap.size ≤ b)) :
    ∃ g', g'.w = w' ∧ g'.ov d = v ∧ HeapOk g0 pk g' { h with lists := (d, lo) :: lists } ∧ Ext g h g' { h with lists := (d, lo) :: lists } ∧ (∀ i, i ≠ d → g'.ov i = g.ov i) := by
  let g' : Gh := { w := w', V := fun b o => g.V b o ∨ (lo.pub = true ∧ v.ownBlock = some b ∧ o < (flat lo.xs).length), bx := g.bx, ov := fun i => if i = d then v else g.ov i, M := g.M }
  have hov : ∀ id lo, (id, lo) ∈ h.lists → g'.ov id = g.ov id := fun id lo hm => by
    have := ne_of_noKey hd hm
    simp [g', this]
  have hblk : ∀ id lo, (id, lo) ∈ h.lists → blk g' id = blk g id := fun id lo hm => by simp only [blk, hov id lo hm]
  have hvlt : ∀ b, v.ownBlock = some b → Mine g0 pk b ∧ b < w'.heap.size := fun b hb => ⟨by
    rcases hv b hb with h1 | h1
    · exact (hrow b h1).1
    · exact .inl (Nat.le_trans hk.size h1), (hown.lt b hb).2⟩
  have hd' : g'.ov d = v := by simp [g']
  have hbd' : blk g' d = v.ownBlock := by simp only [blk, hd']
  have c : Chg g0 pk g h g' { h with lists := (d, lo) :: lists } row :=
    ⟨hos, htape, hout, hsize, hheap, fun b hb => .inl (hrow b hb).1, fun b hb o hv' => (hrowV b hb o hv').1, fun _ _ h => .inl h,
      fun b o hb hv' => by
        rcases hv' with h1 | ⟨_, h2, _⟩
        · exact h1
        · exact absurd (hvlt b h2).1 hb,
      fun b o hv' => by
        rcases hv' with h1 | ⟨_, h2, _⟩
        · have := hk.vin b o h1; show b < w'.heap.size; omega
        · exact (hvlt b h2).2,
      fun id cs' hm => ⟨⟨cs', hm⟩, rfl⟩, fun id lo' hm => ⟨by obtain ⟨lo'', hx⟩ := hkeys id lo' hm; exact ⟨lo'', List.mem_cons_of_mem _ hx⟩, hov id lo' hm⟩, rfl, fun b hb => (hrow b hb).2.2.2⟩
  have he := c.ext hk
  have hbox : ∀ id cs, (id, cs) ∈ h.boxes → ∀ b, v.ownBlock = some b → g.bx id ≠ b := fun id cs hm b hb e => by
    rcases hv b hb with h1 | h1
    · exact (hrow b h1).2.2.1 id cs hm e
    · have := (hk.boxes id cs hm).lt; omega
  have hlst : ∀ id lo', (id, lo') ∈ lists → lo'.live = true → ∀ b, v.ownBlock = some b → blk g id ≠ some b := fun id lo' hm hl b hb e => by
    obtain ⟨hm', hr⟩ := hlists id lo' hm hl
    rcases hv b hb with h1 | h1
    · exact hr b h1 e
    · have := ((hk.lists id lo' hm' hl).lt e).2; omega
  refine ⟨g', rfl, hd', c.ok hk ?_ ?_ ?_ ?_ ?_, he, fun i hi => by simp [g', hi]⟩
  · intro id cs hm
    have hb := hk.boxes id cs hm
    refine hb.keep he rfl (hheap _ hb.lt fun e => (hrow _ e.symm).2.2.1 id cs hm rfl) fun o hv' => ?_
    rcases hv' with h1 | ⟨_, h2, _⟩
    · exact hb.hid o h1
    · exact hbox id cs hm _ h2 rfl
  · intro id lo' hm hl
    rcases List.mem_cons.1 hm with hm | hm
    · obtain ⟨rfl, rfl⟩ := Prod.mk.inj hm
      refine ⟨by rw [hd']; exact hown, fun b hb => (hvlt b (by rw [← hbd']; exact hb)).1, hsz, hpos, hone, fun b hb o => ?_⟩
      rw [hbd'] at hb
      constructor
      · rintro (h1 | ⟨h1, _, h2⟩)
        · rcases hv b hb with h3 | h3
          · exact (hrowV b h3 o h1).2
          · have := hk.vin b o h1; omega
        · exact ⟨h1, h2⟩
      · exact fun h => .inr ⟨h.1, hb, h.2⟩
    · obtain ⟨hm', hr⟩ := hlists id lo' hm hl
      have hb := hk.lists id lo' hm' hl
      refine hb.keep (hov id lo' hm') (fun b hb' => hheap b (hb.lt hb').2 fun e => hr b e.symm hb') fun b hb' o => ⟨fun h1 => ?_, fun h1 => .inl h1⟩
      rcases h1 with h1 | ⟨_, h2, _⟩
      · exact h1
      · exact absurd hb' (hlst id lo' hm hl b h2)
  · exact fun id cs id' cs' hm hm' hne => hk.sepB id cs id' cs' hm hm' hne
  · intro id lo1 id' lo2 hm hm' hl hl' hne b hb
    rcases List.mem_cons.1 hm with h1 | h1 <;> rcases List.mem_cons.1 hm' with h2 | h2
    · exact absurd ((Prod.mk.inj h1).1.trans (Prod.mk.inj h2).1.symm) hne
    · obtain ⟨rfl, rfl⟩ := Prod.mk.inj h1
      rw [hbd'] at hb
      rw [hblk _ _ (hlists _ _ h2 hl').1]
      exact hlst _ _ h2 hl' b hb
    · obtain ⟨rfl, rfl⟩ := Prod.mk.inj h2
      rw [hblk _ _ (hlists _ _ h1 hl).1] at hb
      rw [hbd']
      exact fun e => hlst _ _ h1 hl b e hb
    · rw [hblk _ _ (hlists _ _ h1 hl).1] at hb
      rw [hblk _ _ (hlists _ _ h2 hl').1]
      exact hk.sepL id lo1 id' lo2 (hlists _ _ h1 hl).1 (hlists _ _ h2 hl').1 hl hl' hne b hb
  · intro id lo1 id' cs' hm hm' hl
    rcases List.mem_cons.1 hm with hm | hm
    · obtain ⟨rfl, rfl⟩ := Prod.mk.inj hm
      rw [hbd']
      exact fun e => hbox _ _ hm' _ e rfl
    · rw [hblk _ _ (hlists _ _ hm hl).1]
      exact hk.sepX id lo1 id' cs' (hlists _ _ hm hl).1 hm' hl

/-- all live own lists are published -/
def pubAll : List (Nat × LO) → List (Nat × LO)
  | [] => []
  | (k, lo) :: r => (k, { lo with pub := true }) :: pubAll r
/-- those own lists are published -/
def pubP (p : Nat → Bool) : List (Nat × LO) → List (Nat × LO)
  | [] => []
  | (k, lo) :: r => (k, if p k = true then { lo with pub := true } else lo) :: pubP p r
theorem pubP_all (l : List (Nat × LO)) : pubP (fun _ => true) l = pubAll l := by
  induction l with
  | nil => rfl
  | cons x r ih => obtain ⟨k, x⟩ := x; simp [pubP, pubAll, ih]
theorem mem_pubP {p : Nat → Bool} {l : List (Nat × LO)} {id : Nat} {lo : LO} (h : (id, lo) ∈ pubP p l) : ∃ lo0, (id, lo0) ∈ l ∧ lo = if p id = true then { lo0 with pub := true } else lo0 := by
  induction l with
  | nil => simp [pubP] at h
  | cons x r ih =>
    obtain ⟨k, x⟩ := x
    rcases List.mem_cons.1 h with h | h
    · obtain ⟨rfl, rfl⟩ := Prod.mk.inj h
      exact ⟨x, by simp, rfl⟩
    · obtain ⟨lo0, h1, h2⟩ := ih h
      exact ⟨lo0, List.mem_cons_of_mem _ h1, h2⟩
theorem mem_pubP' {p : Nat → Bool} {l : List (Nat × LO)} {id : Nat} {lo : LO} (h : (id, lo) ∈ l) : (id, if p id = true then { lo with pub := true } else lo) ∈ pubP p l := by
  induction l with
  | nil => simp at h
  | cons x r ih =>
    obtain ⟨k, x⟩ := x
    rcases List.mem_cons.1 h with h | h
    · obtain ⟨rfl, rfl⟩ := Prod.mk.inj h
      simp [pubP]
    · exact List.mem_cons_of_mem _ (ih h)
theorem mem_pubAll {l : List (Nat × LO)} {id : Nat} {lo : LO} (h : (id, lo) ∈ pubAll l) : ∃ lo0, (id, lo0) ∈ l ∧ lo = { lo0 with pub := true } := by
  rw [← pubP_all] at h
  simpa using mem_pubP h
theorem mem_pubAll' {l : List (Nat × LO)} {id : Nat} {lo : LO} (h : (id, lo) ∈ l) : (id, { lo with pub := true }) ∈ pubAll l := by
  rw [← pubP_all]
  simpa using mem_pubP' (p := fun _ => true) h

/-- the ghosts with those live own lists published -/
def pubQ (p : Nat → Bool) (g : Gh) (h : Hp) : Gh := { g with V := fun b o => g.V b o ∨ ∃ id lo, (id, lo) ∈ h.lists ∧ p id = true ∧ lo.live = true ∧ blk g id = some b ∧ o < (flat lo.xs).length }
theorem HeapOk.pubQ {p : Nat → Bool} {g0 : Gh} {pk : Pk} {g : Gh} {h : Hp} (hk : HeapOk g0 pk g h) (huniq : ∀ id lo lo', (id, lo) ∈ h.lists → (id, lo') ∈ h.lists → lo.live = true → lo'.live = true → lo = lo') :
    HeapOk g0 pk (pubQ p g h) { h with lists := pubP p h.lists } ∧ Ext g h (pubQ p g h) { h with lists := pubP p h.lists } := by
  have c : Chg g0 pk g h (PL.pubQ p g h) { h with lists := pubP p h.lists } none :=
    ⟨rfl, rfl, rfl, Nat.le_refl _, fun _ _ _ => rfl, by simp, by simp, fun _ _ h => .inl h,
      fun b o hb hv => by
        rcases hv with h1 | ⟨id, lo, h1, _, h2, h3, _⟩
        · exact h1
        · exact absurd ((hk.lists id lo h1 h2).lt h3).1 hb,
      fun b o hv => by
        rcases hv with h1 | ⟨id, lo, h1, _, h2, h3, _⟩
        · exact hk.vin b o h1
        · exact ((hk.lists id lo h1 h2).lt h3).2,
      fun id cs hm => ⟨⟨cs, hm⟩, rfl⟩, fun id lo hm => ⟨⟨_, mem_pubP' hm⟩, rfl⟩, rfl, by simp⟩
  have he := c.ext hk
  have hlv : ∀ id (lo : LO), (if p id = true then { lo with pub := true } else lo).live = lo.live := fun id lo => by split <;> rfl
  refine ⟨c.ok hk ?_ ?_ ?_ ?_ ?_, he⟩
  · intro id cs hm
    have hb := hk.boxes id cs hm
    refine hb.keep he rfl rfl fun o hv => ?_
    rcases hv with h1 | ⟨id', lo, h1, _, h2, h3, _⟩
    · exact hb.hid o h1
    · exact hk.sepX id' lo id cs h1 hm h2 h3
  · intro id lo hm hl
    obtain ⟨lo0, hm0, rfl⟩ := mem_pubP hm
    rw [hlv] at hl
    have hb := hk.lists id lo0 hm0 hl
    have key : ∀ b, blk g id = some b → ∀ o, (PL.pubQ p g h).V b o ↔ (g.V b o ∨ (p id = true ∧ o < (flat lo0.xs).length)) := by
      intro b hb' o
      constructor
      · rintro (h1 | ⟨id', lo', h1, hp, h2, h3, h4⟩)
        · exact .inl h1
        · by_cases hne : id' = id
          · subst hne
            rw [huniq _ _ _ hm0 h1 hl h2]
            exact .inr ⟨hp, h4⟩
          · exact absurd hb' (hk.sepL id' lo' id lo0 h1 hm0 h2 hl hne b h3)
      · rintro (h1 | ⟨hp, h4⟩)
        · exact .inl h1
        · exact .inr ⟨id, lo0, hm0, hp, hl, hb', h4⟩
    by_cases hp : p id = true
    · rw [if_pos hp]
      refine ⟨hb.own, hb.mine, hb.sz, hb.pos, hb.one, fun b hb' o => ?_⟩
      rw [key b hb' o, hb.vis b hb' o]
      simp [hp]
    · rw [if_neg hp]
      refine ⟨hb.own, hb.mine, hb.sz, hb.pos, hb.one, fun b hb' o => ?_⟩
      rw [key b hb' o, hb.vis b hb' o]
      simp [hp]
  · exact fun id cs id' cs' hm hm' hne => hk.sepB id cs id' cs' hm hm' hne
  · intro id lo id' lo' hm hm' hl hl' hne b hb
    obtain ⟨lo0, hm0, rfl⟩ := mem_pubP hm
    obtain ⟨lo1, hm1, rfl⟩ := mem_pubP hm'
    rw [hlv] at hl hl'
    exact hk.sepL id lo0 id' lo1 hm0 hm1 hl hl' hne b hb
  · intro id lo id' cs hm hm' hl
    obtain ⟨lo0, hm0, rfl⟩ := mem_pubP hm
    rw [hlv] at hl
    exact hk.sepX id lo0 id' cs hm0 hm' hl
/-- the ghosts with all live own lists published -/
def pubG (g : Gh) (h : Hp) : Gh := PL.pubQ (fun _ => true) g h
theorem HeapOk.pub {g0 : Gh} {pk : Pk} {g : Gh} {h : Hp} (hk : HeapOk g0 pk g h) (huniq : ∀ id lo lo', (id, lo) ∈ h.lists → (id, lo') ∈ h.lists → lo.live = true → lo'.live = true → lo = lo') :
    HeapOk g0 pk (pubG g h) { h with lists := pubAll h.lists } ∧ Ext g h (pubG g h) { h with lists := pubAll h.lists } := by
  have := hk.pubQ (p := fun _ => true) huniq
  rw [pubP_all] at this
  exact this

end Go.PL
namespace Go.PL
open Go.RowKit
set_option linter.unusedSimpArgs false
set_option linter.unusedVariables false

def uV : PV := .s (.c (.v undef))
def constPV : Value → PV
  | .agg cs => .s (.a (cs.toList.map .v))
  | v => .s (.c (.v v))
def St.get (σ : St) (t : Nat) : PV := if t < σ.n then (fnd σ.env t).getD (.s (.c .any)) else .s (.c .any)
def St.put (σ : St) : Option Nat → PV → St
  | some d, pv => { σ with env := (d, pv) :: σ.env }
  | none, _ => σ
def St.ev (σ : St) : Operand → PV
  | .tmp t => σ.get t
  | .const v => constPV v
  | .global g => vV (.pointer (some ⟨g, 0, none⟩))
  | .func f => vV (.func (.func f) #[] #[])
theorem noDup.uniq {α : Type} : ∀ {l : List (Nat × α)}, noDup l → ∀ k x y, (k, x) ∈ l → (k, y) ∈ l → x = y
  | [], _, _, _, _, h, _ => by simp at h
  | (k', z) :: r, ⟨h1, h2⟩, k, x, y, hx, hy => by
    rcases List.mem_cons.1 hx with hx | hx <;> rcases List.mem_cons.1 hy with hy | hy
    · rw [(Prod.mk.inj hx).2, (Prod.mk.inj hy).2]
    · exact absurd (Prod.mk.inj hx).1 (ne_of_noKey h1 hy)
    · exact absurd (Prod.mk.inj hy).1 (ne_of_noKey h1 hx)
    · exact noDup.uniq h2 k x y hx hy
theorem hasKey_upd {α : Type} (l : List (Nat × α)) (t k : Nat) (y : α) : hasKey (upd l t y) k = hasKey l k := by
  induction l with
  | nil => rfl
  | cons z r ih =>
    obtain ⟨k', z⟩ := z
    simp only [upd]
    split <;> simp only [hasKey, ih]
theorem noDup.upd {α : Type} {l : List (Nat × α)} (h : noDup l) (t : Nat) (y : α) : noDup (upd l t y) := by
  induction l with
  | nil => trivial
  | cons z r ih =>
    obtain ⟨k', z⟩ := z
    simp only [PL.upd]
    split <;> exact ⟨by rw [hasKey_upd]; exact h.1, ih h.2⟩
theorem hasKey_pubAll (l : List (Nat × LO)) (k : Nat) : hasKey (pubAll l) k = hasKey l k := by
  induction l with
  | nil => rfl
  | cons z r ih => obtain ⟨k', z⟩ := z; simp only [pubAll, hasKey, ih]
theorem noDup.pubAll {l : List (Nat × LO)} (h : noDup l) : noDup (pubAll l) := by
  induction l with
  | nil => trivial
  | cons z r ih => obtain ⟨k', z⟩ := z; exact ⟨by rw [hasKey_pubAll]; exact h.1, ih h.2⟩

structure SimG (g0 : Gh) (pk : Pk) (g : Gh) (σ : St) (a : Act) : Prop where
  defers : a.defers = []
  size : a.tmps.size = σ.n
  heap : HeapOk g0 pk g σ.h
  wf : WfG g σ.h
  env : ∀ t, t < σ.n → RepPV g σ.h (σ.get t) (a.tmps.getD t undef)
def Sim (g0 : Gh) (pk : Pk) (σ : St) (a : Act) (w : World) : Prop := ∃ g, g.w = w ∧ SimG g0 pk g σ a

theorem RepPV.any {g : Gh} {h : Hp} (u : Value) : RepPV g h (.s (.c .any)) u := trivial
theorem SimG.ev {g0 : Gh} {pk : Pk} {g : Gh} {σ : St} {a : Act} (s : SimG g0 pk g σ a) (x : Operand) : RepPV g σ.h (σ.ev x) (a.eval x) := by
  cases x with
  | tmp t =>
    by_cases ht : t < σ.n
    · exact s.env t ht
    · simp only [St.ev, St.get, ht, if_false]; trivial
  | const v => cases v <;> simp only [St.ev, constPV, Act.eval] <;> first | rfl | exact ⟨_, rfl, All2.of_v _⟩
  | global g => rfl
  | func f => rfl
theorem SimG.put {g0 : Gh} {pk : Pk} {g : Gh} {σ : St} {a : Act} (s : SimG g0 pk g σ a) {g' : Gh} {h' : Hp} (hk : HeapOk g0 pk g' h') (wf : WfG g' h') (he : Ext g σ.h g' h') {dst : Option Nat} {pv : PV} {v : Value}
    (hr : RepPV g' h' pv v) : SimG g0 pk g' ({ σ with h := h' }.put dst pv) (a.put dst v) := by
  cases dst with
  | none => exact ⟨s.defers, s.size, hk, wf, fun t ht => (s.env t ht).ext he⟩
  | some d =>
    refine ⟨s.defers, by simpa [Act.put, St.put] using s.size, hk, wf, fun t ht => ?_⟩
    have ht' : t < σ.n := ht
    by_cases htd : t = d
    · subst htd
      have h1 : (a.put (some t) v).tmps.getD t undef = v := by
        have : t < a.tmps.size := by rw [s.size]; exact ht'
        simp [Act.put, this]
      have h2 : ({ σ with h := h' }.put (some t) pv).get t = pv := by simp [St.put, St.get, ht', fnd]
      rw [h1, h2]
      exact hr
    · have h1 : (a.put (some d) v).tmps.getD t undef = a.tmps.getD t undef := by
        simp [Act.put, Array.getElem?_setIfInBounds_ne (Ne.symm htd)]
      have h2 : ({ σ with h := h' }.put (some d) pv).get t = σ.get t := by simp [St.put, St.get, ht', fnd, Ne.symm htd]
      rw [h1, h2]
      exact (s.env t ht').ext he

def zeroCs (P : Program) (t : TypeId) : Option (List Value) :=
  match P.info? t with
  | some i => i.zero.map fun z => z.cells.toList
  | none => none
def szOf (P : Program) (t : TypeId) : Option Nat := (P.info? t).map (·.size)
/-- a slice type's element: its number, its cells, its bytes -/
def eInf (P : Program) (t : TypeId) : Option (TypeId × Nat × Nat) :=
  match P.underlying t with
  | some (.slice e) => match P.info? e with
    | some i => match i.zero with
      | some z => if z.cells.size = i.size then some (e, i.size, i.bytes) else none
      | none => none
    | none => none
  | _ => none

def exactPV : PV → Option Value
  | .s y => exactV1 y
  | _ => none
/-- an element with one of its cells replaced -/
def setCellV : Value → Nat → Value → Value
  | .agg arr, off, u => .agg (arr.setIfInBounds off u)
  | _, _, u => u
def storeK (h : Hp) (p : C) (y : V1) (cs : List C) (K : Hp → Prop) : Prop :=
  match p with
  | .p id off => optK (fnd h.boxes id) fun old => off + cs.length ≤ old.length ∧ K { h with boxes := upd h.boxes id (setAll old off cs) }
  | .e id sz idx off => optK (fnd h.lists id) fun lo => (lo.live = true ∧ lo.pub = false ∧ lo.sz = sz) ∧ optK (exactV1 y) fun u => optK lo.xs[idx]? fun x =>
      if off = 0 ∧ cs.length = sz then K { h with lists := upd h.lists id { lo with xs := lo.xs.set idx u } }
      else (u.oneCell' = true ∧ cs.length = 1 ∧ off < sz ∧ 1 < sz) ∧ K { h with lists := upd h.lists id { lo with xs := lo.xs.set idx (setCellV x off u) } }
  | _ => False

/-- the elements of a slice literal -/
def partsV (ρ : Operand → PV) : List (Nat × Operand) → Option (List Value)
  | [] => some []
  | (_, x) :: r => match exactPV (ρ x), partsV ρ r with
    | some u, some us => some (u :: us)
    | _, _ => none
def placesN (n sz : Nat) : List (Nat × Nat) := (List.range n).map fun i => (i * sz, sz)

def srcOf (h : Hp) (es : Nat) : C → Option (Nat × List Value)
  | .l sz ys => some (sz, ys)
  | .o id => match fnd h.lists id with
    | some lo => if lo.live = true then some (lo.sz, lo.xs) else none
    | none => none
  | .v (.slice none 0 0) => some (es, [])
  | .v (.string z) => some (1, Lib.strCells z)
  | _ => none
def isStrC : C → Bool
  | .v (.string _) => true
  | _ => false
/-- a string is appended to a slice of bytes -/
def strQ (P : Program) (t t' : TypeId) : Bool := match P.underlying t, P.underlying t' with
  | some (.slice e), some .string => (match P.info? e with
    | some i => (match i.zero with
      | some (.int .u8 0) => i.size == 1 && i.bytes == 1
      | _ => false)
    | none => false)
  | _, _ => false
def okS (P : Program) (t t' : TypeId) (x : C) : Prop := if isStrC x = true then strQ P t t' = true else t' = t
theorem strQ_ex {P : Program} {t t' : TypeId} (h : strQ P t t' = true) : ∃ e i, P.underlying t = some (.slice e) ∧ P.underlying t' = some .string ∧ P.info? e = some i ∧ i.zero = some (.int .u8 0) ∧ i.size = 1 ∧ i.bytes = 1 := by
  unfold strQ at h
  split at h
  · rename_i e h1 h2
    split at h
    · rename_i i hi
      split at h
      · rename_i hz
        simp only [Bool.and_eq_true, beq_iff_eq] at h
        exact ⟨e, i, h1, h2, hi, hz, h.1, h.2⟩
      · cases h
    · cases h
  · cases h
def appendK (h : Hp) (ei : TypeId × Nat × Nat) (d : Nat) (s : C) (ys : List Value) (K : Hp → Prop) : Prop :=
  match s with
  | .o id => optK (fnd h.lists id) fun lo => (lo.live = true ∧ lo.e = ei.1 ∧ lo.sz = ei.2.1 ∧ lo.xs.length + ys.length ≤ 9223372036854775807 ∧ (lo.xs.length + ys.length) * ei.2.2 ≤ 140737488355328) ∧
      K { h with lists := (d, { lo with xs := lo.xs ++ ys }) :: upd h.lists id { lo with live := false } }
  | .v (.slice none 0 0) => (0 < ei.2.1 ∧ ys.length ≤ 9223372036854775807 ∧ ys.length * ei.2.2 ≤ 140737488355328) ∧
      K { h with lists := (d, { e := ei.1, sz := ei.2.1, xs := ys, pub := false, live := true }) :: h.lists }
  | _ => False

/-! ### what an append does to the world -/
theorem run_append_own' {P : Program} (w : World) (base : Nat) (t ty e : TypeId) (i : TypeInfo) (z : Value) (size bytes : Nat) (ht : P.underlying t = some (.slice e)) (hi : P.info? e = some i) (hz : i.zero = some z)
    (hsize : i.size = size) (hby : i.bytes = bytes) (hzs : z.cells.size = size) (hsz : 0 < size)
    (v : Value) (n : Nat) (xs : List Value) (hown : w.ownsRow base e size v n xs)
    (a : Addr) (m c : Nat) (news : List Value) (hl : news.length = m * size) (hnews : ∀ j u, news[j]? = some u → w.cell? (a.add j) = some u) (h1 : ∀ u ∈ news, u.oneCell' = true)
    (h63 : n + m ≤ maxLen) (hbytes : (n + m) * bytes ≤ 140737488355328) (hbase : base ≤ w.heap.size) :
    ∃ v' w', (Builtin.append_ #[t, t] ty #[v, .slice (some a) m c]).run P w = .ok v' w' ∧ w'.ownsRow base e size v' (n + m) (xs ++ news) ∧ w.grownBy w' v.ownBlock ∧
      (∀ b, v'.ownBlock = some b → v.ownBlock = some b ∨ w.heap.size ≤ b) ∧ (∀ b, v.ownBlock = some b → ∀ o, o < xs.length → w'.cell? ⟨b, o, none⟩ = w.cell? ⟨b, o, none⟩) ∧ v'.oneCell' = true := by
  subst hsize
  subst hby
  have hsmall : n + m ≤ 9223372036854775807 := by simp only [maxLen] at h63; omega
  have hlen : (xs ++ news).length = (n + m) * i.size := by rw [List.length_append, hown.1, hl, Nat.add_mul]
  have grown : ∀ (old : Nat), old < n + m → ∀ (row : Option Nat),
      (w.drew.alloc (.cells (xs.toArray ++ news.toArray ++ Builtin.zeroCells z.cells (grownCap w (n + m) old e - (n + m))) e)).ownsRow base e i.size
        (.slice (some ⟨w.heap.size, 0, none⟩) (n + m) (grownCap w (n + m) old e)) (n + m) (xs ++ news) ∧
      w.grownBy (w.drew.alloc (.cells (xs.toArray ++ news.toArray ++ Builtin.zeroCells z.cells (grownCap w (n + m) old e - (n + m))) e)) row := by
    intro old ho row
    have hge := grownCap_ge w (n + m) old e
    have hcm : grownCap w (n + m) old e ≤ maxLen := grownCap_le_maxLen w (n + m) old e h63
    refine ⟨⟨hlen, .inr ⟨w.heap.size, _, _, rfl, hbase, heap_alloc_new w.drew _, hge, hcm, ?_, ?_⟩⟩, ⟨rfl, rfl, rfl, by simp, fun k hk _ => heap_alloc_old w.drew _ hk⟩⟩
    · simp only [Array.size_append, List.size_toArray, size_zeroCells, hzs, hown.1, hl, ← Nat.add_mul]
      congr 1
      omega
    · simp only [Array.toList_append, List.append_assoc]
      rw [← List.append_assoc, ← hlen]
      exact List.take_left
  rcases hown.2 with ⟨rfl, rfl⟩ | ⟨g, cap, cur, rfl, hbg, hg, hnc, hcm, hcs, htake⟩
  · have hx : xs = [] := List.eq_nil_of_length_eq_zero (by simpa using hown.1)
    subst hx
    by_cases hm : m = 0
    · subst hm
      have hn : news = [] := List.eq_nil_of_length_eq_zero (by simpa using hl)
      subst hn
      refine ⟨.slice none 0 0, w, ?_, World.ownsRow_nil w base e i.size, ⟨rfl, rfl, rfl, Nat.le_refl _, fun _ _ _ => rfl⟩, by simp [Value.ownBlock], by simp [Value.ownBlock], rfl⟩
      simp [Builtin.append_, run_underlying ht, sizeOf, typeInfo, hi, Builtin.lenOf, Builtin.firstCells, loadCells, loadCellsFrom]
    · have hr := run_append_nil (P := P) w t ty e i z ht hi hz a m c news hl hnews (by omega) (by omega) (by have hb := hbytes; simp only [Nat.zero_add] at hb; omega)
      have hgr := grown 0 (by omega) (Value.ownBlock (.slice none 0 0))
      simp only [Nat.zero_add, List.nil_append, Array.empty_append] at hgr ⊢
      exact ⟨_, _, hr, hgr.1, hgr.2, by simp [Value.ownBlock], by simp, rfl⟩
  · by_cases hroom : n + m ≤ cap
    · have hfit : n * i.size + news.length ≤ cur.size := by rw [hl, hcs, ← Nat.add_mul]; exact Nat.mul_le_mul_right _ hroom
      have hr := run_append_room (P := P) w t ty e i ht hi g n cap cur hg a m c news hl hnews h1 hroom hfit
      refine ⟨_, _, hr, ⟨hlen, .inr ⟨g, cap, _, rfl, hbg, setRow_heap w g cur _ e _ hg, hroom, hcm, ?_, ?_⟩⟩, ⟨rfl, rfl, rfl, by simp, fun k _ hk => setRow_other w g k _ (fun e => hk (by simp [Value.ownBlock, e]))⟩, fun b hb => .inl hb, ?_, rfl⟩
      · simp only [List.size_toArray, List.length_append, List.length_take, List.length_drop, Array.length_toList]
        omega
      · rw [htake, ← hlen]
        exact List.take_left
      · intro b hb o ho
        simp [Value.ownBlock] at hb
        subst hb
        rw [cell_setRow_same w g o cur _ e (0, 0) hg, cell_of_row w g o cur e (0, 0) hg, htake]
        simp only [List.getElem?_toArray, List.append_assoc]
        rw [List.getElem?_append_left ho, ← htake, List.getElem?_take]
        have : o < n * i.size := by rw [← hown.1]; exact ho
        simp [this]
    · have holds : ∀ j u, xs[j]? = some u → w.cell? ((⟨g, 0, none⟩ : Addr).add j) = some u := hown.cells (g := g) rfl
      have hr := run_append_grow (P := P) w t ty e i z ht hi hz ⟨g, 0, none⟩ n cap xs hown.1 holds a m c news hl hnews (by omega) (by omega) (growslice_fits (by omega) hbytes)
      have hgr := grown cap (by omega) (Value.ownBlock (.slice (some ⟨g, 0, none⟩) n cap))
      refine ⟨_, _, hr, hgr.1, hgr.2, fun b hb => .inr (by simp [Value.ownBlock] at hb; omega), ?_, rfl⟩
      intro b hb o _
      simp [Value.ownBlock] at hb
      subst hb
      exact World.cell?_of_block (w := w) (heap_alloc_old w.drew _ (by simpa using (Array.getElem?_eq_some_iff.1 hg).1))

theorem run_append_ownS {P : Program} (w : World) (base : Nat) (t u ty e : TypeId) (i : TypeInfo) (ht : P.underlying t = some (.slice e)) (hu : P.underlying u = some .string) (hi : P.info? e = some i) (hz : i.zero = some (.int .u8 0))
    (hsize : i.size = 1) (hby : i.bytes = 1) (v : Value) (n : Nat) (xs : List Value) (hown : w.ownsRow base e 1 v n xs) (s : ByteArray)
    (h63 : n + s.size ≤ maxLen) (hbytes : n + s.size ≤ 140737488355328) (hbase : base ≤ w.heap.size) :
    ∃ v' w', (Builtin.append_ #[t, u] ty #[v, .string s]).run P w = .ok v' w' ∧ w'.ownsRow base e 1 v' (n + s.size) (xs ++ Lib.strCells s) ∧ w.grownBy w' v.ownBlock ∧
      (∀ b, v'.ownBlock = some b → v.ownBlock = some b ∨ w.heap.size ≤ b) ∧ (∀ b, v.ownBlock = some b → ∀ o, o < xs.length → w'.cell? ⟨b, o, none⟩ = w.cell? ⟨b, o, none⟩) ∧ v'.oneCell' = true := by
  have hsmall : n + s.size ≤ 9223372036854775807 := by simp only [maxLen] at h63; omega
  have hxl : xs.length = n := by simpa using hown.1
  have hlen : (xs ++ Lib.strCells s).length = (n + s.size) * 1 := by rw [List.length_append, hxl, Lib.strCells_length, Nat.mul_one]
  have grown : ∀ (old : Nat), old < n + s.size → ∀ (row : Option Nat),
      (w.drew.alloc (.cells (xs.toArray ++ (Lib.strCells s).toArray ++ Builtin.zeroCells (Value.int .u8 0).cells (grownCap w (n + s.size) old e - (n + s.size))) e)).ownsRow base e 1
        (.slice (some ⟨w.heap.size, 0, none⟩) (n + s.size) (grownCap w (n + s.size) old e)) (n + s.size) (xs ++ Lib.strCells s) ∧
      w.grownBy (w.drew.alloc (.cells (xs.toArray ++ (Lib.strCells s).toArray ++ Builtin.zeroCells (Value.int .u8 0).cells (grownCap w (n + s.size) old e - (n + s.size))) e)) row := by
    intro old ho row
    have hge := grownCap_ge w (n + s.size) old e
    have hcm : grownCap w (n + s.size) old e ≤ maxLen := grownCap_le_maxLen w (n + s.size) old e h63
    refine ⟨⟨hlen, .inr ⟨w.heap.size, _, _, rfl, hbase, heap_alloc_new w.drew _, hge, hcm, ?_, ?_⟩⟩, ⟨rfl, rfl, rfl, by simp, fun k hk _ => heap_alloc_old w.drew _ hk⟩⟩
    · have hz1 : (Value.int IntKind.u8 0).cells.size = 1 := rfl
      simp only [Array.size_append, List.size_toArray, size_zeroCells, hz1, hxl, Lib.strCells_length]
      omega
    · simp only [Array.toList_append, List.append_assoc]
      rw [← List.append_assoc, ← hlen]
      exact List.take_left
  rcases hown.2 with ⟨rfl, rfl⟩ | ⟨g, cap, cur, rfl, hbg, hg, hnc, hcm, hcs, htake⟩
  · have hx : xs = [] := List.eq_nil_of_length_eq_zero hxl
    subst hx
    by_cases hm : s.size = 0
    · have hn : Lib.strCells s = [] := List.eq_nil_of_length_eq_zero (by rw [Lib.strCells_length]; exact hm)
      refine ⟨.slice none 0 0, w, ?_, by rw [hm, hn]; exact World.ownsRow_nil w base e 1, ⟨rfl, rfl, rfl, Nat.le_refl _, fun _ _ _ => rfl⟩, by simp [Value.ownBlock], by simp [Value.ownBlock], rfl⟩
      have hf := Lib.run_firstCells_string (P := P) w 1 s
      rw [hm] at hf
      simp [Builtin.append_, run_underlying ht, run_underlying hu, sizeOf, typeInfo, hi, hsize, Builtin.lenOf, hm, hf]
    · have hr := run_append_nil_string (P := P) w t u ty e i (.int .u8 0) ht hu hi hz s (by omega) (by omega) (by rw [hby]; omega)
      have hgr := grown 0 (by omega) (Value.ownBlock (.slice none 0 0))
      simp only [Nat.zero_add, List.nil_append, Array.empty_append] at hgr ⊢
      have e1 : (s.data.map fun b => Value.int .u8 b.toNat) = (Lib.strCells s).toArray := by
        apply Array.ext'
        simp [Lib.strCells]
      rw [e1] at hr
      exact ⟨_, _, hr, hgr.1, hgr.2, by simp [Value.ownBlock], by simp, rfl⟩
  · by_cases hroom : n + s.size ≤ cap
    · have hcs' : cur.size = cap := by simpa using hcs
      have hr := Lib.run_append_room_string (P := P) w t u ty e i ht hu hi hsize g n cap cur hg s hroom (by omega)
      refine ⟨_, _, hr, ⟨hlen, .inr ⟨g, cap, _, rfl, hbg, setRow_heap w g cur _ e _ hg, hroom, hcm, ?_, ?_⟩⟩, ⟨rfl, rfl, rfl, by simp, fun k _ hk => setRow_other w g k _ (fun e => hk (by simp [Value.ownBlock, e]))⟩, fun b hb => .inl hb, ?_, rfl⟩
      · simp only [List.size_toArray, List.length_append, List.length_take, List.length_drop, Array.length_toList, Lib.strCells_length]
        omega
      · have ht' : cur.toList.take n = xs := by simpa using htake
        rw [ht', ← hlen]
        exact List.take_left
      · intro b hb o ho
        simp [Value.ownBlock] at hb
        subst hb
        have ht' : cur.toList.take n = xs := by simpa using htake
        rw [cell_setRow_same w g o cur _ e (0, 0) hg, cell_of_row w g o cur e (0, 0) hg, ht']
        simp only [List.getElem?_toArray, List.append_assoc]
        rw [List.getElem?_append_left ho, ← ht', List.getElem?_take]
        have : o < n := by rw [← hxl]; exact ho
        simp [this]
    · have holds : ∀ j u, xs[j]? = some u → w.cell? ((⟨g, 0, none⟩ : Addr).add j) = some u := hown.cells (g := g) rfl
      have hr := Lib.run_append_grow_string (P := P) w t u ty e i (.int .u8 0) ht hu hi hz ⟨g, 0, none⟩ n cap xs (by rw [hsize]; simpa using hxl) holds s (by omega) (by omega) (by rw [hby]; exact growslice_fits (by omega) (by omega))
      have hgr := grown cap (by omega) (Value.ownBlock (.slice (some ⟨g, 0, none⟩) n cap))
      refine ⟨_, _, hr, hgr.1, hgr.2, fun b hb => .inr (by simp [Value.ownBlock] at hb; omega), ?_, rfl⟩
      intro b hb o _
      simp [Value.ownBlock] at hb
      subst hb
      exact World.cell?_of_block (w := w) (heap_alloc_old w.drew _ (by simpa using (Array.getElem?_eq_some_iff.1 hg).1))

/-- a source of an append, in its world -/
theorem src_read {g0 : Gh} {pk : Pk} {g : Gh} {h : Hp} (hk : HeapOk g0 pk g h) {es : Nat} {x : C} {sz : Nat} {ys : List Value} (hn : isStrC x = false) (hs : srcOf h es x = some (sz, ys)) {u : Value} (hr : RepC g h x u) :
    (∀ y ∈ ys, y.cells.size = sz) ∧ (∀ c ∈ flat ys, c.oneCell' = true) ∧ ((ys = [] ∧ u = .slice none 0 0) ∨ ∃ ad cap, u = .slice (some ad) ys.length cap ∧ ∀ j c, (flat ys)[j]? = some c → g.w.cell? (ad.add j) = some c) := by
  unfold srcOf at hs
  split at hs
  · simp at hs
    obtain ⟨rfl, rfl⟩ := hs
    obtain ⟨a, cap, rfl, hlc, _, ⟨_, hone⟩, hsz, ha, hrow⟩ := hr
    refine ⟨hsz, hone, ?_⟩
    cases a with
    | none =>
      have := ha rfl
      subst this
      have hn : _ = [] := List.eq_nil_of_length_eq_zero (Nat.le_zero.1 hlc)
      exact .inl ⟨hn, by rw [hn]; rfl⟩
    | some ad =>
      obtain ⟨hsp, hrow⟩ := hrow ad rfl
      obtain ⟨b, off, sp⟩ := ad
      simp at hsp
      subst hsp
      refine .inr ⟨_, cap, rfl, fun j c hc => ?_⟩
      rw [Addr.add_lit]
      obtain ⟨hj, e⟩ := List.getElem?_eq_some_iff.1 hc
      rw [(hrow j hj).1, e]
  · rename_i id
    split at hs
    · rename_i lo hlo
      split at hs
      · rename_i hl
        simp at hs
        obtain ⟨rfl, rfl⟩ := hs
        obtain ⟨_, rfl⟩ := hr
        have hL := hk.lists id lo (fnd_mem hlo) hl
        refine ⟨hL.sz, hL.one, ?_⟩
        rcases hL.own.2 with ⟨hv, hz⟩ | ⟨gg, cap, cur, hv, _⟩
        · exact .inl ⟨List.eq_nil_of_length_eq_zero hz, hv⟩
        · exact .inr ⟨_, cap, hv, fun j c hc => hL.own.cells (g := gg) (by rw [hv]; rfl) j c hc⟩
      · cases hs
    · cases hs
  · simp at hs
    obtain ⟨rfl, rfl⟩ := hs
    simp only [RepC] at hr
    exact ⟨by simp, by simp [flat], .inl ⟨rfl, hr⟩⟩
  · cases hn
  · cases hs

theorem flat_append (xs ys : List Value) : flat (xs ++ ys) = flat xs ++ flat ys := by simp [flat]

theorem eInf_ex {P : Program} {t : TypeId} {ei : TypeId × Nat × Nat} (h : eInf P t = some ei) : ∃ i z, P.underlying t = some (.slice ei.1) ∧ P.info? ei.1 = some i ∧ i.zero = some z ∧ i.size = ei.2.1 ∧ i.bytes = ei.2.2 ∧ z.cells.size = ei.2.1 := by
  unfold eInf at h
  split at h
  · rename_i e hu
    split at h
    · rename_i i hi
      split at h
      · rename_i z hz
        split at h
        · rename_i hs
          simp at h
          subst h
          exact ⟨i, z, hu, hi, hz, rfl, rfl, hs⟩
        · cases h
      · cases h
    · cases h
  · cases h

/-- the run of an append, for a row that is owned and a source that is read -/
theorem append_run {P : Program} {w : World} {base : Nat} {t ty : TypeId} {ei : TypeId × Nat × Nat} (he : eInf P t = some ei) (hpos : 0 < ei.2.1) {v : Value} {n : Nat} {fx : List Value} (hv1 : v.oneCell' = true)
    (hown : w.ownsRow base ei.1 ei.2.1 v n fx) {u : Value} {ys : List Value} (hsz : ∀ y ∈ ys, y.cells.size = ei.2.1) (hone : ∀ c ∈ flat ys, c.oneCell' = true)
    (hsrc : (ys = [] ∧ u = .slice none 0 0) ∨ ∃ ad cap, u = .slice (some ad) ys.length cap ∧ ∀ j c, (flat ys)[j]? = some c → w.cell? (ad.add j) = some c)
    (h63 : n + ys.length ≤ 9223372036854775807) (hbytes : (n + ys.length) * ei.2.2 ≤ 140737488355328) (hbase : base ≤ w.heap.size) :
    ∃ v' w', (Builtin.append_ #[t, t] ty #[v, u]).run P w = .ok v' w' ∧ w'.ownsRow base ei.1 ei.2.1 v' (n + ys.length) (fx ++ flat ys) ∧ w.grownBy w' v.ownBlock ∧
      (∀ b, v'.ownBlock = some b → v.ownBlock = some b ∨ w.heap.size ≤ b) ∧ (∀ b, v.ownBlock = some b → ∀ o, o < fx.length → w'.cell? ⟨b, o, none⟩ = w.cell? ⟨b, o, none⟩) ∧ v'.oneCell' = true := by
  obtain ⟨i, z, hu, hi, hz, hs1, hb1, hzs⟩ := eInf_ex he
  rcases hsrc with ⟨rfl, rfl⟩ | ⟨ad, cap, rfl, hread⟩
  · have hr := run_append_owned_none (P := P) w base t ty ei.1 i ei.2.1 hu hi v n fx hown
    exact ⟨v, w, hr, by simpa [flat] using hown, ⟨rfl, rfl, rfl, Nat.le_refl _, fun _ _ _ => rfl⟩, fun b hb => .inl hb, fun _ _ _ _ => rfl, hv1⟩
  · exact run_append_own' w base t ty ei.1 i z ei.2.1 ei.2.2 hu hi hz hs1 hb1 hzs hpos v n fx hown ad ys.length cap (flat ys) (flat_len hsz) hread hone (by simpa [maxLen] using h63) hbytes hbase

theorem flat_strCells (z : ByteArray) : flat (Lib.strCells z) = Lib.strCells z := by
  have : ∀ l : List UInt8, flat (l.map fun b => Value.int .u8 (b.toNat : Int)) = l.map fun b => Value.int .u8 (b.toNat : Int) := fun l => by
    induction l with
    | nil => rfl
    | cons b l ih =>
      simp only [flat, List.map_cons, List.flatMap_cons] at ih ⊢
      rw [ih]; rfl
  exact this _
/-- a source of an append: what the append does -/
theorem app_src {P : Program} {g0 : Gh} {pk : Pk} {g : Gh} {h : Hp} (hk : HeapOk g0 pk g h) {t t' ty : TypeId} {ei : TypeId × Nat × Nat} (he : eInf P t = some ei) {x : C} (hok : okS P t t' x) {ys : List Value} (hs : srcOf h ei.2.1 x = some (ei.2.1, ys))
    {u : Value} (hr : RepC g h x u) : (∀ y ∈ ys, y.cells.size = ei.2.1) ∧ (∀ c ∈ flat ys, c.oneCell' = true) ∧
    ∀ {base : Nat} (hpos : 0 < ei.2.1) {v : Value} {n : Nat} {fx : List Value} (hv1 : v.oneCell' = true) (hown : g.w.ownsRow base ei.1 ei.2.1 v n fx) (h63 : n + ys.length ≤ 9223372036854775807) (hbytes : (n + ys.length) * ei.2.2 ≤ 140737488355328) (hbase : base ≤ g.w.heap.size),
    ∃ v' w', (Builtin.append_ #[t, t'] ty #[v, u]).run P g.w = .ok v' w' ∧ w'.ownsRow base ei.1 ei.2.1 v' (n + ys.length) (fx ++ flat ys) ∧ g.w.grownBy w' v.ownBlock ∧
      (∀ b, v'.ownBlock = some b → v.ownBlock = some b ∨ g.w.heap.size ≤ b) ∧ (∀ b, v.ownBlock = some b → ∀ o, o < fx.length → w'.cell? ⟨b, o, none⟩ = g.w.cell? ⟨b, o, none⟩) ∧ v'.oneCell' = true := by
  cases hx : isStrC x with
  | false =>
    simp only [okS, hx, Bool.false_eq_true, if_false] at hok
    subst hok
    obtain ⟨h1, h2, h3⟩ := src_read hk hx hs hr
    exact ⟨h1, h2, fun {base} hpos {v} {n} {fx} hv1 hown h63 hbytes hbase => append_run he hpos hv1 hown h1 h2 h3 h63 hbytes hbase⟩
  | true =>
    simp only [okS, hx, if_true] at hok
    obtain ⟨e, i, hu, hu', hi, hz, hs1, hb1⟩ := strQ_ex hok
    obtain ⟨i', z, hu2, hi2, hz2, hs2, hb2, _⟩ := eInf_ex he
    have ee : e = ei.1 := by rw [hu] at hu2; simpa using hu2
    subst ee
    obtain rfl := Option.some.inj (hi.symm.trans hi2)
    have e1 : ei.2.1 = 1 := by omega
    have e2 : ei.2.2 = 1 := by omega
    unfold isStrC at hx
    split at hx
    · rename_i b
      simp only [srcOf, Option.some.injEq, Prod.mk.injEq] at hs
      obtain ⟨_, rfl⟩ := hs
      simp only [RepC] at hr
      subst hr
      rw [flat_strCells]
      refine ⟨fun y hy => ?_, Lib.strCells_oneCell b, fun {base} hpos {v} {n} {fx} hv1 hown h63 hbytes hbase => ?_⟩
      · simp only [Lib.strCells, List.mem_map] at hy
        obtain ⟨c, _, rfl⟩ := hy
        rw [e1]; rfl
      · rw [e1] at hown ⊢
        rw [e2, Nat.mul_one] at hbytes
        rw [Lib.strCells_length] at h63 hbytes ⊢
        exact run_append_ownS g.w _ t t' ty ei.1 i hu hu' hi hz hs1 hb1 _ _ _ hown b (by simpa [maxLen] using h63) hbytes hbase
    · cases hx

theorem appendK_sound {P : Program} {h : Hp} {ei : TypeId × Nat × Nat} {d : Nat} {s x : C} {sz : Nat} {ys : List Value} {K : Hp → Prop} {t t' ty : TypeId} (he : eInf P t = some ei) (hok : okS P t t' x) (hd : hasKey h.lists d = false)
    (hs : srcOf h ei.2.1 x = some (sz, ys)) (hsz : sz = ei.2.1) (hc : appendK h ei d s ys K) :
    ∃ h', K h' ∧ ∀ g0 pk g cs cx, HeapOk g0 pk g h → WfG g h → RepC g h s cs → RepC g h x cx → ∃ v g', (Builtin.append_ #[t, t'] ty #[cs, cx]).run P g.w = .ok v g'.w ∧
      HeapOk g0 pk g' h' ∧ WfG g' h' ∧ Ext g h g' h' ∧ RepC g' h' (.o d) v := by
  subst hsz
  unfold appendK at hc
  split at hc
  · rename_i K id
    obtain ⟨lo, hlo, ⟨hl, hle, hls, h63, hb⟩, hK⟩ := optK_ex hc
    refine ⟨_, hK, fun g0 pk g cs cx hk hwf hrs hrx => ?_⟩
    obtain ⟨_, rfl⟩ := hrs
    have hL := hk.lists id lo (fnd_mem hlo) hl
    obtain ⟨h1, h2, h3⟩ := app_src (ty := ty) hk he hok hs hrx
    obtain ⟨v', w', hr, how, hgr, hnb, hcell, hone'⟩ := h3 (base := 0) (hls ▸ hL.pos) (hwf.ov id lo (fnd_mem hlo)) (by rw [← hle, ← hls]; exact hL.own) h63 hb (Nat.zero_le _)
    have hmem : ∀ id' lo', (id', lo') ∈ upd h.lists id { lo with live := false } → lo'.live = true → (id', lo') ∈ h.lists ∧ id' ≠ id := fun id' lo' hm hl' => by
      rcases mem_upd hm with ⟨_, rfl⟩ | ⟨hne, hm⟩
      · cases hl'
      · exact ⟨hm, hne⟩
    obtain ⟨g', hg1, hg2, hk', hext, hovs⟩ := hk.putList hd (upd h.lists id { lo with live := false }) (blk g id)
      (fun id' lo' hm hl' => ⟨(hmem id' lo' hm hl').1, fun b hb => hk.sepL id lo id' lo' (fnd_mem hlo) (hmem id' lo' hm hl').1 hl hl' (Ne.symm (hmem id' lo' hm hl').2) b hb⟩)
      (fun id' lo' hm => mem_upd_key hm)
      (fun id' lo' hm => by
        rcases mem_upd hm with ⟨rfl, _⟩ | ⟨_, hm⟩
        · exact ⟨lo, fnd_mem hlo⟩
        · exact ⟨lo', hm⟩)
      (fun b hb => ⟨(hL.lt hb).1, (hL.lt hb).2, fun id' cs hm e => hk.sepX id lo id' cs (fnd_mem hlo) hm hl (by rw [hb, e]), hk.listNoMap (fnd_mem hlo) hl hb⟩)
      (v := v') (w' := w') (lo := { lo with xs := lo.xs ++ ys }) hl (by rw [flat_append, List.length_append]; simp only; rw [hle, hls]; exact how)
      (fun y hy => by
        rcases List.mem_append.1 hy with hy | hy
        · exact hL.sz y hy
        · rw [hls]; exact h1 y hy) hL.pos
      (fun c hc => by
        rw [flat_append] at hc
        rcases List.mem_append.1 hc with hc | hc
        · exact hL.one c hc
        · exact h2 c hc) hgr.os hgr.tape hgr.output hgr.size hgr.block
      (fun b hb o hv => by
        have := (hL.vis b hb o).1 hv
        exact ⟨hcell b hb o this.2, this.1, by rw [flat_append, List.length_append]; omega⟩) hnb
    refine ⟨v', g', by rw [hr, hg1], hk', ⟨fun id' lo' hm => ?_, ⟨by rw [hasKey_upd]; exact hd, hwf.nd.upd _ _⟩⟩, hext, ⟨_, List.mem_cons_self ..⟩, hg2.symm⟩
    rcases List.mem_cons.1 hm with hm | hm
    · rw [(Prod.mk.inj hm).1, hg2]; exact hone'
    · by_cases hid : id' = d
      · rw [hid, hg2]; exact hone'
      · rw [hovs id' hid]
        rcases mem_upd hm with ⟨rfl, _⟩ | ⟨_, hm⟩
        · exact hwf.ov _ lo (fnd_mem hlo)
        · exact hwf.ov id' lo' hm
  · rename_i K
    obtain ⟨⟨hpos, h63, hb⟩, hK⟩ := hc
    refine ⟨_, hK, fun g0 pk g cs cx hk hwf hrs hrx => ?_⟩
    simp only [RepC] at hrs
    subst hrs
    obtain ⟨h1, h2, h3⟩ := app_src (ty := ty) hk he hok hs hrx
    obtain ⟨v', w', hr, how, hgr, hnb, hcell, hone'⟩ := h3 (base := 0) hpos (v := .slice none 0 0) (n := 0) (fx := []) rfl (World.ownsRow_nil _ _ _ _) (by omega) (by simpa using hb) (Nat.zero_le _)
    have hb0 : (Value.slice none 0 0).ownBlock = none := rfl
    obtain ⟨g', hg1, hg2, hk', hext, hovs⟩ := hk.putList hd h.lists none (fun id' lo' hm hl' => ⟨hm, by simp⟩) (fun id' lo' hm => ⟨lo', hm⟩) (fun id' lo' hm => ⟨lo', hm⟩) (by simp)
      (v := v') (w' := w') (lo := { e := ei.1, sz := ei.2.1, xs := ys, pub := false, live := true }) rfl (by simpa using how) h1 hpos h2 hgr.os hgr.tape hgr.output hgr.size
      (fun k hk' hne => hgr.block k hk' (by rw [hb0]; exact hne)) (by simp) (fun b hb => .inr ((hnb b hb).resolve_left (by rw [hb0]; simp)))
    refine ⟨v', g', by rw [hr, hg1], hk', ⟨fun id' lo' hm => ?_, ⟨hd, hwf.nd⟩⟩, hext, ⟨_, List.mem_cons_self ..⟩, hg2.symm⟩
    rcases List.mem_cons.1 hm with hm | hm
    · rw [(Prod.mk.inj hm).1, hg2]; exact hone'
    · by_cases hid : id' = d
      · rw [hid, hg2]; exact hone'
      · rw [hovs id' hid]; exact hwf.ov id' lo' hm
  · exact hc.elim

end Go.PL
namespace Go.PL
open Go.RowKit
set_option linter.unusedSimpArgs false
set_option linter.unusedVariables false

def splice {α : Type} (l : List α) (p : Nat) (vs : List α) : List α := l.take p ++ vs ++ l.drop (p + vs.length)
theorem splice_set {α : Type} (l : List α) (p : Nat) (v : α) (vs : List α) (h : p + (vs.length + 1) ≤ l.length) : splice (l.set p v) (p + 1) vs = splice l p (v :: vs) := by
  have e := list_seg_stepG l p v vs h
  exact e
where
  list_seg_stepG {α : Type} (l : List α) (k : Nat) (v : α) (rest : List α) (hk : k + (rest.length + 1) ≤ l.length) :
      (l.set k v).take (k + 1) ++ rest ++ (l.set k v).drop (k + 1 + rest.length) = l.take k ++ (v :: rest) ++ l.drop (k + (rest.length + 1)) := by
    have h1 : (l.set k v).take (k + 1) = l.take k ++ [v] := by
      rw [List.take_succ_eq_append_getElem (by simp; omega), List.take_set_of_le (Nat.le_refl _)]
      simp
    have h2 : (l.set k v).drop (k + 1 + rest.length) = l.drop (k + (rest.length + 1)) := by
      rw [List.drop_set_of_lt (by omega)]
      congr 1
      omega
    rw [h1, h2]
    simp
theorem setAll_splice : ∀ (vs l : List C) (p : Nat), p + vs.length ≤ l.length → setAll l p vs = splice l p vs
  | [], l, p, _ => by simp [setAll, splice]
  | v :: vs, l, p, h => by
    have h' : p + (vs.length + 1) ≤ l.length := by simpa using h
    simp only [setAll]
    rw [setAll_splice vs _ _ (by simp; omega), splice_set l p v vs h']
theorem foldl_splice : ∀ (vs : List Value) (k off : Nat) (arr : Array Value), off + k + vs.length ≤ arr.size →
    ((vs.zipIdx k).foldl (fun cs (x : Value × Nat) => cs.setIfInBounds (off + x.2) x.1) arr).toList = splice arr.toList (off + k) vs
  | [], k, off, arr, _ => by simp [splice]
  | v :: vs, k, off, arr, h => by
    have h' : off + k + (vs.length + 1) ≤ arr.size := by simpa using h
    simp only [List.zipIdx_cons, List.foldl_cons]
    rw [foldl_splice vs (k + 1) off _ (by simp; omega), Array.toList_setIfInBounds, ← Nat.add_assoc, splice_set _ _ v vs (by simp; omega)]
theorem splice_mid {α : Type} (A B xc vs : List α) (off : Nat) (h : off + vs.length ≤ xc.length) : splice (A ++ xc ++ B) (A.length + off) vs = A ++ splice xc off vs ++ B := by
  unfold splice
  rw [List.take_append_of_le_length (by simp; omega), List.take_append, List.take_of_length_le (by omega)]
  have e1 : A.length + off - A.length = off := by omega
  rw [e1, List.drop_append_of_le_length (by simp; omega), List.drop_append, List.drop_of_length_le (by omega)]
  have e2 : A.length + off + vs.length - A.length = off + vs.length := by omega
  rw [e2]
  simp
theorem flat_split {sz : Nat} {xs : List Value} (hsz : ∀ x ∈ xs, x.cells.size = sz) {idx : Nat} {x : Value} (hx : xs[idx]? = some x) :
    flat xs = flat (xs.take idx) ++ x.cells.toList ++ flat (xs.drop (idx + 1)) ∧ (flat (xs.take idx)).length = idx * sz := by
  have hlt : idx < xs.length := (List.getElem?_eq_some_iff.1 hx).1
  have hxe : xs[idx] = x := (List.getElem?_eq_some_iff.1 hx).2
  constructor
  · have : xs = xs.take idx ++ x :: xs.drop (idx + 1) := by rw [← hxe, ← List.drop_eq_getElem_cons hlt, List.take_append_drop]
    conv => lhs; rw [this]
    simp [flat]
  · rw [flat_len (fun y hy => hsz y (List.mem_of_mem_take hy))]
    rw [List.length_take, Nat.min_eq_left (by omega)]
theorem flat_set_splice {sz : Nat} {xs : List Value} (hsz : ∀ x ∈ xs, x.cells.size = sz) {idx off : Nat} {x x' : Value} {vs : List Value} (hx : xs[idx]? = some x) (hoff : off + vs.length ≤ sz)
    (hx' : x'.cells.toList = splice x.cells.toList off vs) : flat (xs.set idx x') = splice (flat xs) (idx * sz + off) vs := by
  have hlt : idx < xs.length := (List.getElem?_eq_some_iff.1 hx).1
  have hxs : x.cells.toList.length = sz := by simpa using hsz x (List.mem_of_getElem? hx)
  obtain ⟨h1, h2⟩ := flat_split hsz hx
  have h3 : xs.set idx x' = xs.take idx ++ x' :: xs.drop (idx + 1) := by rw [List.set_eq_take_append_cons_drop]; simp [hlt]
  rw [h1, ← h2, splice_mid _ _ _ _ _ (by omega), h3, ← hx']
  simp [flat]
theorem splice_len {α : Type} (l : List α) (p : Nat) (vs : List α) (h : p + vs.length ≤ l.length) : (splice l p vs).length = l.length := by
  simp [splice]; omega

/-- an own list that nobody else sees is written in place -/
theorem HeapOk.setList {g0 : Gh} {pk : Pk} {g : Gh} {h : Hp} (hk : HeapOk g0 pk g h) {d b n cap : Nat} {lo lo' : LO} (hm0 : (d, lo) ∈ h.lists) (huniq : ∀ lo1, (d, lo1) ∈ h.lists → lo1 = lo) (hl : lo.live = true) (hpub : lo.pub = false)
    (hv : g.ov d = .slice (some ⟨b, 0, none⟩) n cap) (arr : Array Value) (hpub' : lo'.pub = false) (hown : (g.w.setRow b arr).ownsRow 0 lo'.e lo'.sz (g.ov d) lo'.xs.length (flat lo'.xs))
    (hsz : ∀ x ∈ lo'.xs, x.cells.size = lo'.sz) (hpos : 0 < lo'.sz) (hone : ∀ u ∈ flat lo'.xs, u.oneCell' = true) :
    HeapOk g0 pk { g with w := g.w.setRow b arr } { h with lists := upd h.lists d lo' } ∧ Ext g h { g with w := g.w.setRow b arr } { h with lists := upd h.lists d lo' } := by
  have hL := hk.lists d lo hm0 hl
  have hb : blk g d = some b := by simp [blk, hv, Value.ownBlock]
  have hnV : ∀ o, ¬ g.V b o := fun o hvv => by have := ((hL.vis b hb o).1 hvv).1; rw [hpub] at this; cases this
  have c : Chg g0 pk g h { g with w := g.w.setRow b arr } { h with lists := upd h.lists d lo' } (some b) :=
    ⟨rfl, rfl, rfl, by simp, fun k _ hne => setRow_other _ _ _ _ (fun e => hne (by rw [e])), fun b' hb' => by cases hb'; exact .inl (hL.lt hb).1,
      fun b' hb' o hv => by cases hb'; exact absurd hv (hnV o), fun _ _ h => h, fun _ _ _ h => h,
      fun b' o hv => by have := hk.vin b' o hv; simpa using this,
      fun id cs' hm => ⟨⟨cs', hm⟩, rfl⟩, fun id lo hm => ⟨mem_upd_key hm, rfl⟩, rfl, fun b' hb' => by cases hb'; exact hk.listNoMap hm0 hl hb⟩
  have he := c.ext hk
  refine ⟨c.ok hk ?_ ?_ ?_ ?_ ?_, he⟩
  · intro id cs' hm
    have hb' := hk.boxes id cs' hm
    exact hb'.keep he rfl (setRow_other _ _ _ _ fun e => hk.sepX d lo id cs' hm0 hm hl (by rw [hb, e])) hb'.hid
  · intro id lo1 hm hl1
    rcases mem_upd hm with ⟨rfl, rfl⟩ | ⟨hne, hm⟩
    · refine ⟨hown, fun b' hb' => hL.mine b' hb', hsz, hpos, hone, fun b' hb' o => ?_⟩
      have : b' = b := by rw [show blk { g with w := g.w.setRow b arr } id = blk g id from rfl, hb] at hb'; cases hb'; rfl
      subst this
      exact ⟨fun h => absurd h (hnV o), fun h => by rw [hpub'] at h; cases h.1⟩
    · have hL1 := hk.lists id lo1 hm hl1
      exact hL1.keep rfl (fun b' hb' => setRow_other _ _ _ _ fun e => hk.sepL id lo1 d lo hm hm0 hl1 hl hne b' hb' (by rw [hb, e])) fun _ _ _ => Iff.rfl
  · exact fun id cs id' cs' hm hm' hne => hk.sepB id cs id' cs' hm hm' hne
  · intro id lo1 id' lo2 hm hm' hl1 hl2 hne b' hb'
    rcases mem_upd hm with ⟨e1, _⟩ | ⟨hn1, hm1⟩ <;> rcases mem_upd hm' with ⟨e2, _⟩ | ⟨hn2, hm2⟩
    · exact absurd (e1.trans e2.symm) hne
    · subst e1; exact hk.sepL id lo id' lo2 hm0 hm2 hl hl2 hne b' hb'
    · subst e2; exact hk.sepL id lo1 id' lo hm1 hm0 hl1 hl hne b' hb'
    · exact hk.sepL id lo1 id' lo2 hm1 hm2 hl1 hl2 hne b' hb'
  · intro id lo1 id' cs hm hm' hl1
    rcases mem_upd hm with ⟨e1, _⟩ | ⟨hn1, hm1⟩
    · subst e1; exact hk.sepX id lo id' cs hm0 hm' hl
    · exact hk.sepX id lo1 id' cs hm1 hm' hl1

theorem storeK_sound {P : Program} {h : Hp} {p : C} {y : V1} {cs : List C} {K : Hp → Prop} {t : TypeId} {n : Nat} (hn : szOf P t = some n) (hlen : n = cs.length) (hcs : cells1 y = some cs) (hc : storeK h p y cs K) :
    ∃ h', K h' ∧ ∀ g0 pk g cp cy, HeapOk g0 pk g h → WfG g h → RepC g h p cp → RepV1 g h y cy → ∃ g', (Instr.storeAt t cp cy).run P g.w = .ok () g'.w ∧ HeapOk g0 pk g' h' ∧ WfG g' h' ∧ Ext g h g' h' := by
  unfold szOf at hn
  simp at hn
  obtain ⟨inf, hinf, hsz⟩ := hn
  unfold storeK at hc
  split at hc
  · rename_i id off
    obtain ⟨old, hold, hle, hK⟩ := optK_ex hc
    refine ⟨_, hK, fun g0 pk g cp cy hk hwf hrp hry => ?_⟩
    obtain ⟨_, rfl⟩ := hrp
    have hm := fnd_mem hold
    obtain ⟨arr, ty, h1, h2, h3⟩ := (hk.boxes id old hm).cells
    obtain ⟨h4, h5⟩ := cells1_rep hwf.ov hcs hry
    have hl4 := h4.length
    have hl2 := h2.length
    simp only [Array.length_toList] at hl4 hl2
    have hr := run_storeCells_at (P := P) (g.bx id) off ty cy.cells.toList 0 arr g.w h1 (by simp; omega) h5
    have hnew : All2 (RepC g h) (setAll old off cs) (splice arr.toList off cy.cells.toList) := by
      rw [setAll_splice cs old off hle]
      unfold splice
      have : cs.length = cy.cells.toList.length := by simpa using hl4
      rw [this]
      exact ((h2.take off).append h4).append (h2.drop _)
    obtain ⟨hk', he⟩ := hk.setBox (arr := (splice arr.toList off cy.cells.toList).toArray) hm h1 (by simpa using hnew) (fun u hu => by
      simp only [splice, List.append_assoc] at hu
      rcases List.mem_append.1 hu with hu | hu
      · exact h3 u (List.mem_of_mem_take hu)
      · rcases List.mem_append.1 hu with hu | hu
        · exact h5 u hu
        · exact h3 u (List.mem_of_mem_drop hu))
    refine ⟨_, ?_, hk', ⟨hwf.ov, hwf.nd⟩, he⟩
    have hs : ¬ (cy.cells.size ≠ inf.size) := by omega
    simp only [Instr.storeAt, Instr.sureAddr, storeVar, sizeOf, typeInfo, Sem.run_bind, Sem.run_pure, Result.andThen_ok, run_program, hinf]
    rw [if_neg hs]
    rw [hr]
    simp [splice]
  · rename_i id sz idx off
    obtain ⟨lo, hlo, ⟨hl, hpub, hlsz⟩, hc⟩ := optK_ex hc
    subst hlsz
    obtain ⟨u, hu, hc⟩ := optK_ex hc
    obtain ⟨x, hx, hc⟩ := optK_ex hc
    have main : ∀ x' : Value, off + cs.length ≤ lo.sz → (x.cells.size = lo.sz → u.cells.size = cs.length → x'.cells.toList = splice x.cells.toList off u.cells.toList) → K { h with lists := upd h.lists id { lo with xs := lo.xs.set idx x' } } →
        ∃ h', K h' ∧ ∀ g0 pk g cp cy, HeapOk g0 pk g h → WfG g h → RepC g h (.e id lo.sz idx off) cp → RepV1 g h y cy → ∃ g', (Instr.storeAt t cp cy).run P g.w = .ok () g'.w ∧ HeapOk g0 pk g' h' ∧ WfG g' h' ∧ Ext g h g' h' := by
      intro x' hoff hx' hK
      refine ⟨_, hK, fun g0 pk g cp cy hk hwf hrp hry => ?_⟩
      obtain ⟨_, b, n', cap, hv, rfl⟩ := hrp
      have hm := fnd_mem hlo
      have hL := hk.lists id lo hm hl
      have hcy : cy = u := exactV1_rep hu hry
      subst hcy
      obtain ⟨h4, h5⟩ := cells1_rep hwf.ov hcs hry
      have hl4 := h4.length
      simp only [Array.length_toList] at hl4
      have hxs : x.cells.size = lo.sz := hL.sz x (List.mem_of_getElem? hx)
      have hidx : idx < lo.xs.length := (List.getElem?_eq_some_iff.1 hx).1
      rcases hL.own.2 with ⟨hv', _⟩ | ⟨gg, cap', cur, hv', hbase, hg, hnc, hcm, hcur, htake⟩
      · rw [hv] at hv'; cases hv'
      · rw [hv] at hv'
        simp only [Value.slice.injEq, Option.some.injEq, Addr.mk.injEq, and_true] at hv'
        obtain ⟨rfl, rfl, rfl⟩ := hv'
        have hbnd : idx * lo.sz + lo.sz ≤ lo.xs.length * lo.sz := by
          have : (idx + 1) * lo.sz ≤ lo.xs.length * lo.sz := Nat.mul_le_mul_right _ hidx
          rw [Nat.add_mul, Nat.one_mul] at this
          exact this
        have hbnd2 : lo.xs.length * lo.sz ≤ cur.size := by rw [hcur]; exact Nat.mul_le_mul_right _ hnc
        have hr := run_storeCells_at (P := P) b (idx * lo.sz + off) lo.e cy.cells.toList 0 cur g.w hg (by simp; omega) h5
        have hsp : x'.cells.toList = splice x.cells.toList off cy.cells.toList := hx' hxs hl4.symm
        have hx's : x'.cells.size = lo.sz := by
          have : x'.cells.toList.length = x.cells.toList.length := by rw [hsp, splice_len _ _ _ (by simp; omega)]
          simp at this
          omega
        have hflat := flat_set_splice hL.sz hx (vs := cy.cells.toList) (off := off) (x' := x') (by simp; omega) hsp
        have hszs : ∀ z ∈ lo.xs.set idx x', z.cells.size = lo.sz := fun z hz => by
          rcases List.mem_or_eq_of_mem_set hz with hz | rfl
          · exact hL.sz z hz
          · exact hx's
        have hfl : (flat lo.xs).length = lo.xs.length * lo.sz := flat_len hL.sz
        have hsl : (splice cur.toList (idx * lo.sz + off) cy.cells.toList).length = cur.size := by
          rw [splice_len _ _ _ (by simp; omega)]; simp
        obtain ⟨hk', he⟩ := hk.setList (lo' := { lo with xs := lo.xs.set idx x' }) hm (fun lo1 h1 => hwf.nd.uniq _ _ _ h1 hm) hl hpub hv (splice cur.toList (idx * lo.sz + off) cy.cells.toList).toArray hpub
          (by
            refine ⟨by rw [hflat, splice_len _ _ _ (by rw [hfl]; simp; omega), hfl]; simp, .inr ⟨b, cap, (splice cur.toList (idx * lo.sz + off) cy.cells.toList).toArray, by rw [hv]; simp, hbase, setRow_heap _ _ _ _ _ _ hg, by simpa using hnc, hcm, by simp [hsl, hcur], ?_⟩⟩
            rw [hflat, ← htake]
            simp only [List.length_set]
            unfold splice
            have e1 : idx * lo.sz + off ≤ lo.xs.length * lo.sz := by omega
            have e2 : idx * lo.sz + off + cy.cells.size ≤ lo.xs.length * lo.sz := by omega
            apply List.ext_getElem?
            intro j
            simp only [List.getElem?_take, List.getElem?_append, List.length_append, List.length_take, List.getElem?_drop, Array.length_toList, Array.getElem?_toList]
            have hmin1 : min (idx * lo.sz + off) cur.size = idx * lo.sz + off := by omega
            have hmin2 : min (idx * lo.sz + off) (min (lo.xs.length * lo.sz) cur.size) = idx * lo.sz + off := by omega
            simp only [hmin1, hmin2]
            by_cases j1 : j < lo.xs.length * lo.sz
            · simp only [j1, if_true]
              by_cases j2 : j < idx * lo.sz + off + cy.cells.size
              · by_cases j3 : j < idx * lo.sz + off
                · simp [j3, j1, j2]
                · simp [j3, j2]
              · have : idx * lo.sz + off + cy.cells.size + (j - (idx * lo.sz + off + cy.cells.size)) = j := by omega
                simp [j2, this, j1]
            · have j2 : ¬ j < idx * lo.sz + off + cy.cells.size := by omega
              have : idx * lo.sz + off + cy.cells.size + (j - (idx * lo.sz + off + cy.cells.size)) = j := by omega
              simp [j1, j2, this])
          hszs hL.pos
          (fun c hc => by
            rw [hflat] at hc
            simp only [splice, List.append_assoc] at hc
            rcases List.mem_append.1 hc with hc | hc
            · exact hL.one c (List.mem_of_mem_take hc)
            · rcases List.mem_append.1 hc with hc | hc
              · exact h5 c hc
              · exact hL.one c (List.mem_of_mem_drop hc))
        refine ⟨_, ?_, hk', ⟨fun id' lo' hm' => ?_, hwf.nd.upd _ _⟩, he⟩
        · have hs : ¬ (cy.cells.size ≠ inf.size) := by omega
          simp only [Instr.storeAt, Instr.sureAddr, storeVar, sizeOf, typeInfo, Sem.run_bind, Sem.run_pure, Result.andThen_ok, run_program, hinf]
          rw [if_neg hs]
          rw [hr]
          simp [splice]
        · rcases mem_upd hm' with ⟨rfl, _⟩ | ⟨_, hm'⟩
          · exact hwf.ov _ lo hm
          · exact hwf.ov id' lo' hm'
    split at hc
    · rename_i hcond
      obtain ⟨hz0, hcl⟩ := hcond
      refine main u (by omega) (fun h1 h2 => ?_) hc
      subst hz0
      have e : u.cells.toList.length = x.cells.toList.length := by simp; omega
      simp [splice]
      rw [show u.cells.size = x.cells.toList.length by simpa using e]
      simp
    · obtain ⟨⟨h0, h1, h2, h3⟩, hK⟩ := hc
      refine main _ (by omega) (fun h4 h5 => ?_) hK
      rw [cells_of_one h0]
      cases x with
      | agg arr =>
        have hoff : off + 1 ≤ arr.toList.length := by simp [Value.cells] at h4 ⊢; omega
        have e := splice_set arr.toList off u [] (by simpa using hoff)
        have e2 : splice (arr.toList.set off u) (off + 1) [] = arr.toList.set off u := by simp [splice]
        rw [e2] at e
        simpa [setCellV, Value.cells] using e
      | _ => simp [Value.cells] at h4; omega
  · exact hc.elim

end Go.PL
namespace Go.PL
open Go.RowKit
set_option linter.unusedSimpArgs false
set_option linter.unusedVariables false

/-! ### slice literals -/
def numbered : Nat → List Value → List (Nat × Value)
  | _, [] => []
  | k, x :: xs => (k, x) :: numbered (k + 1) xs
def seqParts : Nat → List (Nat × Operand) → Bool
  | _, [] => true
  | k, (i, _) :: r => if i = k then seqParts (k + 1) r else false
theorem splice_two (l : List Value) (p : Nat) (a b : List Value) (h : p + (a.length + b.length) ≤ l.length) : splice (splice l p a) (p + a.length) b = splice l p (a ++ b) := by
  have h1 : l = l.take p ++ (l.drop p).take (a.length + b.length) ++ l.drop (p + (a.length + b.length)) := by
    rw [List.append_assoc, ← List.drop_drop, List.take_append_drop, List.take_append_drop]
  unfold splice
  apply List.ext_getElem?
  intro j
  have m1 : min p l.length = p := by omega
  simp only [List.getElem?_append, List.getElem?_take, List.getElem?_drop, List.length_append, List.length_take, List.length_drop, m1]
  have m2 : min (p + a.length) (p + a.length + (l.length - (p + a.length))) = p + a.length := by omega
  simp only [m2]
  by_cases j1 : j < p
  · have : j < p + a.length := by omega
    have h3 : j < p + a.length + b.length := by omega
    have h4 : j < p + (a.length + b.length) := by omega
    simp [j1, this, h3, h4]
  · by_cases j2 : j < p + a.length
    · have h3 : j < p + a.length + b.length := by omega
      have h4 : j < p + (a.length + b.length) := by omega
      have h5 : j - p < a.length := by omega
      simp [j1, j2, h3, h4, h5]
    · by_cases j3 : j < p + a.length + b.length
      · have h4 : j < p + (a.length + b.length) := by omega
        have h5 : ¬ j - p < a.length := by omega
        have h6 : j - p - a.length = j - (p + a.length) := by omega
        simp [j1, j2, j3, h4, h5, h6]
      · have h4 : ¬ j < p + (a.length + b.length) := by omega
        have h5 : ¬ (p + a.length + b.length + (j - (p + a.length + b.length)) < p) := by omega
        have h6 : ¬ (p + a.length + b.length + (j - (p + a.length + b.length)) < p + a.length) := by omega
        simp only [j2, j3, h4, h5, h6, if_false]
        congr 1
        omega
theorem fill_seq (sz : Nat) : ∀ (l : List Value) (k : Nat) (arr : Array Value), (∀ x ∈ l, x.cells.size = sz) → (k + l.length) * sz ≤ arr.size →
    ∃ arr', Instr.fill (fun i => some (i * sz, sz)) arr (numbered k l) = some arr' ∧ arr'.toList = splice arr.toList (k * sz) (flat l)
  | [], k, arr, _, _ => ⟨arr, rfl, by simp [splice, flat]⟩
  | x :: l, k, arr, hsz, hle => by
    have hx := hsz x (by simp)
    have hb : (k + 1) * sz + l.length * sz ≤ arr.size := by
      have : (k + (l.length + 1)) * sz = (k + 1) * sz + l.length * sz := by rw [← Nat.add_mul]; congr 1; omega
      simp only [List.length_cons] at hle
      omega
    have hb1 : (k + 1) * sz = k * sz + sz := by rw [Nat.add_mul, Nat.one_mul]
    have hf := foldl_splice x.cells.toList 0 (k * sz) arr (by simp; omega)
    have e : x.cells.zipIdx.foldl (fun cs x => cs.setIfInBounds (k * sz + x.2) x.1) arr = (x.cells.toList.zipIdx 0).foldl (fun cs (y : Value × Nat) => cs.setIfInBounds (k * sz + y.2) y.1) arr := by
      rw [← Array.foldl_toList, Array.toList_zipIdx]
    have hsize : ((x.cells.toList.zipIdx 0).foldl (fun cs (y : Value × Nat) => cs.setIfInBounds (k * sz + y.2) y.1) arr).size = arr.size := by
      have := congrArg List.length hf
      rw [splice_len _ _ _ (by simp; omega)] at this
      simpa using this
    obtain ⟨arr', h1, h2⟩ := fill_seq sz l (k + 1) ((x.cells.toList.zipIdx 0).foldl (fun cs (y : Value × Nat) => cs.setIfInBounds (k * sz + y.2) y.1) arr) (fun y hy => hsz y (by simp [hy])) (by
      rw [hsize, Nat.add_mul]
      exact hb)
    refine ⟨arr', ?_, ?_⟩
    · simp only [numbered, Instr.fill]
      rw [if_neg (by simp; omega), e]
      exact h1
    · rw [h2, hf, hb1]
      have hxl : x.cells.toList.length = sz := by simpa using hx
      have := splice_two arr.toList (k * sz) x.cells.toList (flat l) (by
        rw [hxl, flat_len (fun y hy => hsz y (by simp [hy]))]
        simp
        omega)
      rw [hxl] at this
      simp only [Nat.add_zero]
      rw [this]
      simp [flat]

theorem partsV_exact {g : Gh} {h : Hp} {ρ : Operand → PV} {a : Operand → Value} : ∀ (parts : List (Nat × Operand)) (k : Nat) (xs : List Value), partsV ρ parts = some xs → seqParts k parts = true → (∀ p ∈ parts, RepPV g h (ρ p.2) (a p.2)) →
    parts.map (fun p => (p.1, a p.2)) = numbered k xs
  | [], k, xs, h1, _, _ => by simp [partsV] at h1; subst h1; rfl
  | (i, x) :: parts, k, xs, h1, h2, h3 => by
    simp only [partsV] at h1
    simp only [seqParts] at h2
    split at h2
    · rename_i hik
      cases hx : exactPV (ρ x) with
      | none => simp [hx] at h1
      | some u =>
        cases hr : partsV ρ parts with
        | none => simp [hx, hr] at h1
        | some us =>
          simp [hx, hr] at h1
          subst h1
          have hxr := h3 (i, x) (by simp)
          simp only at hxr
          have : a x = u := by
            unfold exactPV at hx
            split at hx
            · rename_i y hy
              rw [hy] at hxr
              exact exactV1_rep hx hxr
            · cases hx
          simp only [List.map_cons, numbered]
          rw [partsV_exact parts (k + 1) us hr h2 (fun p hp => h3 p (by simp [hp])), this, hik]
    · cases h2

def bsK (P : Program) (h : Hp) (ρ : Operand → PV) (t n d : Nat) (parts : List (Nat × Operand)) (K : Hp → Prop) : Prop :=
  optK (eInf P t) fun ei => optK (partsV ρ parts) fun xs =>
    (seqParts 0 parts = true ∧ xs.length = n ∧ (xs.all fun x => decide (x.cells.size = ei.2.1)) = true ∧ ((flat xs).all Value.oneCell') = true ∧ 0 < ei.2.1 ∧ n * ei.2.1 ≤ 16777216 ∧ hasKey h.lists d = false) ∧
    K { h with lists := (d, { e := ei.1, sz := ei.2.1, xs := xs, pub := false, live := true }) :: h.lists }

theorem newList {g0 : Gh} {pk : Pk} {g : Gh} {h : Hp} (hk : HeapOk g0 pk g h) (wf : WfG g h) {d : Nat} (hd : hasKey h.lists d = false) {e sz : Nat} {xs : List Value} {cells : Array Value} (cap : Nat)
    (hcells : cells.toList.take (xs.length * sz) = flat xs) (hsize : cells.size = cap * sz) (hcap : xs.length ≤ cap) (hmax : cap ≤ maxLen) (hsz : ∀ x ∈ xs, x.cells.size = sz) (hone : ∀ c ∈ flat xs, c.oneCell' = true) (hpos : 0 < sz) :
    ∃ g', g'.w = g.w.alloc (.cells cells e) ∧ HeapOk g0 pk g' { h with lists := (d, { e := e, sz := sz, xs := xs, pub := false, live := true }) :: h.lists } ∧
      WfG g' { h with lists := (d, { e := e, sz := sz, xs := xs, pub := false, live := true }) :: h.lists } ∧ Ext g h g' { h with lists := (d, { e := e, sz := sz, xs := xs, pub := false, live := true }) :: h.lists } ∧
      RepC g' { h with lists := (d, { e := e, sz := sz, xs := xs, pub := false, live := true }) :: h.lists } (.o d) (.slice (some ⟨g.w.heap.size, 0, none⟩) xs.length cap) := by
  have hown : (g.w.alloc (.cells cells e)).ownsRow 0 e sz (.slice (some ⟨g.w.heap.size, 0, none⟩) xs.length cap) xs.length (flat xs) :=
    ⟨flat_len hsz, .inr ⟨g.w.heap.size, cap, cells, rfl, Nat.zero_le _, heap_alloc_new g.w _, hcap, hmax, hsize, hcells⟩⟩
  obtain ⟨g', hg1, hg2, hk', hext, hovs⟩ := hk.putList hd h.lists none (fun id' lo' hm hl' => ⟨hm, by simp⟩) (fun id' lo' hm => ⟨lo', hm⟩) (fun id' lo' hm => ⟨lo', hm⟩) (by simp)
    (v := .slice (some ⟨g.w.heap.size, 0, none⟩) xs.length cap) (w' := g.w.alloc (.cells cells e)) (lo := { e := e, sz := sz, xs := xs, pub := false, live := true }) rfl hown hsz hpos hone rfl rfl rfl (by simp)
    (fun k hk' _ => heap_alloc_old g.w _ hk') (by simp) (fun b hb => .inr (by simp [Value.ownBlock] at hb; omega))
  refine ⟨g', hg1, hk', ⟨fun id' lo' hm => ?_, ⟨hd, wf.nd⟩⟩, hext, ⟨_, List.mem_cons_self ..⟩, hg2.symm⟩
  rcases List.mem_cons.1 hm with hm | hm
  · rw [(Prod.mk.inj hm).1, hg2]; rfl
  · by_cases hid : id' = d
    · rw [hid, hg2]; rfl
    · rw [hovs id' hid]; exact wf.ov id' lo' hm

theorem bs_run {P : Program} {ρ : Operand → PV} {t : TypeId} {ei : TypeId × Nat × Nat} {parts : Array (Nat × Operand)} {xs : List Value} (hei : eInf P t = some ei) (hxs : partsV ρ parts.toList = some xs) (hseq : seqParts 0 parts.toList = true)
    (hsz : ∀ x ∈ xs, x.cells.size = ei.2.1) (hpos : 0 < ei.2.1) (hle : xs.length * ei.2.1 ≤ 16777216) {g : Gh} {h : Hp} (a : Operand → Value) (hρ : ∀ p ∈ parts.toList, RepPV g h (ρ p.2) (a p.2)) :
    (Instr.buildSlice t xs.length (parts.map fun p => (p.1, a p.2))).run P g.w = .ok (.slice (some ⟨g.w.heap.size, 0, none⟩) xs.length xs.length) (g.w.alloc (.cells (flat xs).toArray ei.1)) ∧ xs.length ≤ maxLen := by
  obtain ⟨i, z, hu, hi, hz, hs1, hb1, hzs⟩ := eInf_ex hei
  have hparts := partsV_exact parts.toList 0 xs hxs hseq hρ
  have hfl : (flat xs).length = xs.length * ei.2.1 := flat_len hsz
  have hfill : ∀ zc : Array Value, zc.size = xs.length * ei.2.1 → Instr.fill (fun i => some (i * ei.2.1, ei.2.1)) zc (numbered 0 xs) = some (flat xs).toArray := fun zc hzc => by
    obtain ⟨arr', h1, h2⟩ := fill_seq ei.2.1 xs 0 zc hsz (by rw [hzc]; simp)
    rw [h1]
    congr 1
    apply Array.ext'
    rw [h2]
    simp [splice]
    omega
  have hmax : xs.length ≤ maxLen := by
    have : xs.length * 1 ≤ xs.length * ei.2.1 := Nat.mul_le_mul_left _ hpos
    simp only [maxLen]
    omega
  refine ⟨?_, hmax⟩
  have hn : ¬ (16777216 < xs.length * ei.2.1) := by omega
  by_cases h0 : xs.length * ei.2.1 = 0
  · have hf := hfill (Array.map (fun _ => default) (Array.range 0)) (by simp [h0])
    simp [Instr.buildSlice, run_underlying hu, sizeOf, typeInfo, hi, hs1, hn, h0, zeroValue, hz, newRow, hparts]
    simp only [Array.range_zero', Array.map_empty] at hf ⊢
    rw [hf]
    simp
  · have hf := hfill (Array.map (fun x => z.cells[x % z.cells.size]!) (Array.range (xs.length * ei.2.1))) (by simp)
    simp [Instr.buildSlice, run_underlying hu, sizeOf, typeInfo, hi, hs1, hn, h0, zeroValue, hz, newRow, hparts]
    rw [hf]
    simp

theorem bsK_sound {P : Program} {h : Hp} {ρ : Operand → PV} {t n d : Nat} {parts : Array (Nat × Operand)} {K : Hp → Prop} (hc : bsK P h ρ t n d parts.toList K) :
    ∃ h', K h' ∧ ∀ g0 pk g (a : Operand → Value), HeapOk g0 pk g h → WfG g h → (∀ p ∈ parts.toList, RepPV g h (ρ p.2) (a p.2)) →
      ∃ v g', (Instr.buildSlice t n (parts.map fun p => (p.1, a p.2))).run P g.w = .ok v g'.w ∧ HeapOk g0 pk g' h' ∧ WfG g' h' ∧ Ext g h g' h' ∧ RepC g' h' (.o d) v := by
  obtain ⟨ei, hei, hc⟩ := optK_ex hc
  obtain ⟨xs, hxs, ⟨hseq, hlen, hall, hone, hpos, hle, hd⟩, hK⟩ := optK_ex hc
  refine ⟨_, hK, fun g0 pk g a hk hwf hρ => ?_⟩
  have hsz : ∀ x ∈ xs, x.cells.size = ei.2.1 := by simpa using hall
  have hone' : ∀ c ∈ flat xs, c.oneCell' = true := by simpa using hone
  subst hlen
  have hfl : (flat xs).length = xs.length * ei.2.1 := flat_len hsz
  obtain ⟨hrun, hmax⟩ := bs_run hei hxs hseq hsz hpos hle a hρ
  obtain ⟨g', hg1, hk', hwf', hext, hrep⟩ := newList hk hwf hd (e := ei.1) (cells := (flat xs).toArray) xs.length (by simp [← hfl]) (by simpa using hfl) (Nat.le_refl _) hmax hsz hone' hpos
  exact ⟨_, g', by rw [hg1]; exact hrun, hk', hwf', hext, hrep⟩

/-! ### make -/
def zeroV (P : Program) (e : TypeId) : Option Value := (P.info? e).bind (·.zero)
def msK (P : Program) (h : Hp) (t d : Nat) (l c : Value) (K : Hp → Prop) : Prop :=
  match l, c with
  | .int _ l, .int _ c => optK (eInf P t) fun ei => optK (zeroV P ei.1) fun z =>
    (0 ≤ l ∧ l ≤ c ∧ (ei.2.2 : Int) * c ≤ 281474976710656 ∧ c ≤ 9223372036854775807 ∧ 0 < ei.2.1 ∧ (z.cells.toList.all Value.oneCell') = true ∧ hasKey h.lists d = false) ∧
    K { h with lists := (d, { e := ei.1, sz := ei.2.1, xs := List.replicate l.toNat z, pub := false, live := true }) :: h.lists }
  | _, _ => False
theorem flat_replicate_made {z : Value} : ∀ (n : Nat), (madeCells z.cells (n * z.cells.size)).toList = flat (List.replicate n z)
  | 0 => by simp [madeCells, flat]
  | n + 1 => by
    have ih := flat_replicate_made (z := z) n
    have e1 : (madeCells z.cells ((n + 1) * z.cells.size)).toList = (madeCells z.cells (n * z.cells.size)).toList ++ z.cells.toList := by
      simp only [madeCells, Array.toList_map, Array.toList_range, Nat.succ_mul]
      rw [List.range_add, List.map_append, List.map_map]
      congr 1
      apply List.ext_getElem?
      intro j
      by_cases hj : j < z.cells.size
      · simp [hj, Nat.mod_eq_of_lt hj]
      · simp [hj]
    rw [e1, ih, List.replicate_succ']
    simp [flat]
theorem msK_sound {P : Program} {h : Hp} {t d : Nat} {l c : Value} {K : Hp → Prop} (hc : msK P h t d l c K) :
    ∃ h', K h' ∧ ∀ g0 pk g, HeapOk g0 pk g h → WfG g h → ∃ v g', (Instr.makeSlice t l c).run P g.w = .ok v g'.w ∧ HeapOk g0 pk g' h' ∧ WfG g' h' ∧ Ext g h g' h' ∧ RepC g' h' (.o d) v := by
  unfold msK at hc
  split at hc
  · rename_i kl l kc c
    obtain ⟨ei, hei, hc⟩ := optK_ex hc
    obtain ⟨z0, hz0, ⟨h0, hlc, hb, h63, hpos, hone, hd⟩, hK⟩ := optK_ex hc
    refine ⟨_, hK, fun g0 pk g hk hwf => ?_⟩
    obtain ⟨i, z, hu, hi, hz, hs1, hb1, hzs⟩ := eInf_ex hei
    have hzz : z0 = z := by simp [zeroV, hi, hz] at hz0; exact hz0.symm
    subst hzz
    have hrun := run_make (P := P) g.w t ei.1 i z0 hu hi hz kl kc l c h0 hlc (by rw [hb1]; exact hb) h63
    have hcells : (madeCells z0.cells (c.toNat * i.size)).toList = flat (List.replicate c.toNat z0) := by
      rw [hs1, ← hzs]; exact flat_replicate_made _
    have hlc' : l.toNat ≤ c.toNat := Int.toNat_le_toNat hlc
    have hone' : ∀ u ∈ z0.cells.toList, u.oneCell' = true := List.all_eq_true.1 hone
    have hsz : ∀ x ∈ List.replicate l.toNat z0, x.cells.size = ei.2.1 := fun x hx => by rw [List.eq_of_mem_replicate hx]; exact hzs
    obtain ⟨g', hg1, hk', hwf', hext, hrep⟩ := newList hk hwf hd (e := ei.1) (sz := ei.2.1) (xs := List.replicate l.toNat z0) (cells := madeCells z0.cells (c.toNat * i.size)) c.toNat (by
      rw [hcells, List.length_replicate]
      have e2 : List.replicate c.toNat z0 = List.replicate l.toNat z0 ++ List.replicate (c.toNat - l.toNat) z0 := by rw [List.replicate_append_replicate, Nat.add_sub_of_le hlc']
      have e3 : flat (List.replicate c.toNat z0) = flat (List.replicate l.toNat z0) ++ flat (List.replicate (c.toNat - l.toNat) z0) := by rw [e2]; exact List.flatMap_append
      have e4 : (flat (List.replicate l.toNat z0)).length = l.toNat * ei.2.1 := by rw [flat_len hsz, List.length_replicate]
      rw [e3, ← e4, List.take_left' rfl]) (by rw [size_madeCells, hs1]) (by simpa using hlc') (by simp only [maxLen]; omega) hsz (fun u hu => by
        simp only [flat, List.mem_flatMap] at hu
        obtain ⟨x, hx, hu⟩ := hu
        rw [List.eq_of_mem_replicate hx] at hu
        exact hone' u hu) hpos
    refine ⟨_, g', by rw [hg1]; exact hrun, hk', hwf', hext, ?_⟩
    simpa using hrep
  · exact hc.elim

end Go.PL
