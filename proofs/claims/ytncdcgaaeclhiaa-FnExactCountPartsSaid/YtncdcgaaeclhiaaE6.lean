/-
  How the memory of the abstract values changes: a new box, a store into a box, a new own list, an append, a store into an own list, a publication.
-/
import Derived.Test.YtncdcgaaeclhiaaE5
namespace Go.PL
open Go.RowKit
set_option linter.unusedSimpArgs false
set_option linter.unusedVariables false

theorem BoxOk.keep {g0 : Gh} {pk : Pk} {g g' : Gh} {h h' : Hp} {id : Nat} {cs : List C} (hb : BoxOk g0 pk g h id cs) (he : Ext g h g' h') (hbx : g'.bx id = g.bx id)
    (hheap : g'.w.heap[g.bx id]? = g.w.heap[g.bx id]?) (hV : ∀ o, ¬ g'.V (g.bx id) o) : BoxOk g0 pk g' h' id cs := by
  obtain ⟨arr, ty, h1, h2, h3⟩ := hb.cells
  exact ⟨by rw [hbx]; exact hb.own, by rw [hbx]; exact hV, arr, ty, by rw [hbx, hheap]; exact h1, h2.mono fun _ _ => RepC.ext he, h3⟩
theorem ListOk.keep {M : Nat → Prop} {g g' : Gh} {id : Nat} {lo : LO} (hl : ListOk M g id lo) (hov : g'.ov id = g.ov id) (hheap : ∀ b, blk g id = some b → g'.w.heap[b]? = g.w.heap[b]?)
    (hV : ∀ b, blk g id = some b → ∀ o, g'.V b o ↔ g.V b o) : ListOk M g' id lo := by
  refine ⟨?_, fun b hb => hl.mine b (by simpa [blk, hov] using hb), hl.sz, hl.pos, hl.one, fun b hb o => ?_⟩
  · refine ⟨hl.own.1, ?_⟩
    rw [hov]
    rcases hl.own.2 with hn | ⟨gg, cap, cur, hv, hb, hg, r⟩
    · exact .inl hn
    · exact .inr ⟨gg, cap, cur, hv, hb, by rw [hheap gg (by simp [blk, hv, Value.ownBlock])]; exact hg, r⟩
  · have hb' : blk g id = some b := by simpa [blk, hov] using hb
    rw [hV b hb' o]
    exact hl.vis b hb' o

/-- the frame's part of a change: one own block may be written, new blocks may come, more may be published in own blocks -/
structure Chg (g0 : Gh) (pk : Pk) (g : Gh) (h : Hp) (g' : Gh) (h' : Hp) (row : Option Nat) : Prop where
  os : g'.w.os = g.w.os
  tape : g'.w.tape = g.w.tape
  output : g'.w.output = g.w.output
  size : g.w.heap.size ≤ g'.w.heap.size
  heap : ∀ k, k < g.w.heap.size → some k ≠ row → g'.w.heap[k]? = g.w.heap[k]?
  rowOwn : ∀ b, row = some b → Mine g0 pk b ∨ ∃ id ∈ pk.bs, g0.bx id = b
  rowV : ∀ b, row = some b → ∀ o, g.V b o → g'.w.cell? ⟨b, o, none⟩ = g.w.cell? ⟨b, o, none⟩
  V : ∀ b o, g.V b o → g'.V b o
  Vold : ∀ b o, ¬ Mine g0 pk b → g'.V b o → g.V b o
  vin : ∀ b o, g'.V b o → b < g'.w.heap.size
  box : ∀ id cs, (id, cs) ∈ h.boxes → (∃ cs', (id, cs') ∈ h'.boxes) ∧ g'.bx id = g.bx id
  lst : ∀ id lo, (id, lo) ∈ h.lists → (∃ lo', (id, lo') ∈ h'.lists) ∧ g'.ov id = g.ov id
theorem Chg.ext {g0 : Gh} {pk : Pk} {g g' : Gh} {h h' : Hp} {row : Option Nat} (c : Chg g0 pk g h g' h' row) (hk : HeapOk g0 pk g h) : Ext g h g' h' :=
  ⟨fun b o hv => ⟨c.V b o hv, by
    by_cases hr : some b = row
    · exact c.rowV b hr.symm o hv
    · exact World.cell?_of_block (c.heap b (hk.vin b o hv) hr)⟩, c.box, c.lst⟩
theorem Chg.ok {g0 : Gh} {pk : Pk} {g g' : Gh} {h h' : Hp} {row : Option Nat} (c : Chg g0 pk g h g' h' row) (hk : HeapOk g0 pk g h)
    (boxes : ∀ id cs, (id, cs) ∈ h'.boxes → BoxOk g0 pk g' h' id cs)
    (lists : ∀ id lo, (id, lo) ∈ h'.lists → lo.live = true → ListOk (Mine g0 pk) g' id lo)
    (sepB : ∀ id cs id' cs', (id, cs) ∈ h'.boxes → (id', cs') ∈ h'.boxes → id ≠ id' → g'.bx id ≠ g'.bx id')
    (sepL : ∀ id lo id' lo', (id, lo) ∈ h'.lists → (id', lo') ∈ h'.lists → lo.live = true → lo'.live = true → id ≠ id' → ∀ b, blk g' id = some b → blk g' id' ≠ some b)
    (sepX : ∀ id lo id' cs, (id, lo) ∈ h'.lists → (id', cs) ∈ h'.boxes → lo.live = true → blk g' id ≠ some (g'.bx id')) : HeapOk g0 pk g' h' := by
  refine ⟨c.os.trans hk.os, c.tape.trans hk.tape, c.output.trans hk.output, Nat.le_trans hk.size c.size, ?_, ?_, ?_, c.vin, fun id hid => (by obtain ⟨cs, hm⟩ := hk.pkin id hid; exact (c.box id cs hm).1), fun id hid => (by
    obtain ⟨⟨lo, hm⟩, e⟩ := hk.lsin id hid
    exact ⟨(c.lst id lo hm).1, (c.lst id lo hm).2.trans e⟩), boxes, lists, sepB, sepL, sepX⟩
  · intro k hlt hne hne2
    rw [c.heap k (Nat.lt_of_lt_of_le hlt hk.size) (fun e => by
      rcases c.rowOwn k e.symm with (h1 | ⟨id, h1, h2⟩) | ⟨id, h1, h2⟩
      · omega
      · exact hne2 id h1 h2
      · exact hne id h1 h2)]
    exact hk.frame k hlt hne hne2
  · intro b o hv
    have h1 := hk.vis b o hv
    have h2 := (c.ext hk).vis b o h1.1
    exact ⟨h2.1, h2.2.trans h1.2⟩
  · exact fun b o hb hn hv => hk.old b o hb hn (c.Vold b o (fun hm => by
      rcases hm with h1 | ⟨id, h1, h2⟩
      · omega
      · exact hn id h1 h2) hv)

/-- a new box -/
theorem HeapOk.addBox {g0 : Gh} {pk : Pk} {g : Gh} {h : Hp} (hk : HeapOk g0 pk g h) {d : Nat} (hd : hasKey h.boxes d = false) {cs : List C} {arr : Array Value} (t : TypeId)
    (hr : All2 (RepC g h) cs arr.toList) (h1 : ∀ u ∈ arr.toList, u.oneCell' = true) :
    ∃ g', g'.w = g.w.alloc (.cells arr t) ∧ g'.bx d = g.w.heap.size ∧ g'.ov = g.ov ∧ HeapOk g0 pk g' { h with boxes := (d, cs) :: h.boxes } ∧ Ext g h g' { h with boxes := (d, cs) :: h.boxes } := by
  let g' : Gh := { w := g.w.alloc (.cells arr t), V := g.V, bx := fun i => if i = d then g.w.heap.size else g.bx i, ov := g.ov }
  have hbx : ∀ id cs', (id, cs') ∈ h.boxes → g'.bx id = g.bx id := fun id cs' hm => by
    have := ne_of_noKey hd hm
    simp [g', this]
  have hold : ∀ k, k < g.w.heap.size → g'.w.heap[k]? = g.w.heap[k]? := fun k hlt => heap_alloc_old g.w _ hlt
  have c : Chg g0 pk g h g' { h with boxes := (d, cs) :: h.boxes } none :=
    ⟨rfl, rfl, rfl, by simp [g'], fun k hlt _ => hold k hlt, by simp, by simp, fun _ _ h => h, fun _ _ _ h => h,
      fun b o hv => by have := hk.vin b o hv; simp [g']; omega,
      fun id cs' hm => ⟨⟨cs', List.mem_cons_of_mem _ hm⟩, hbx id cs' hm⟩, fun id lo hm => ⟨⟨lo, hm⟩, rfl⟩⟩
  have he := c.ext hk
  refine ⟨g', rfl, by simp [g'], rfl, c.ok hk ?_ ?_ ?_ ?_ ?_, he⟩
  · intro id cs' hm
    rcases List.mem_cons.1 hm with hm | hm
    · obtain ⟨rfl, rfl⟩ := Prod.mk.inj hm
      have hb : g'.bx id = g.w.heap.size := by simp [g']
      refine ⟨.inl ⟨fun hin => by obtain ⟨cs1, hm1⟩ := hk.pkin _ hin; exact ne_of_noKey hd hm1 rfl, by rw [hb]; exact hk.size⟩, fun o hv => ?_, arr, t, by rw [hb]; exact heap_alloc_new g.w _, hr.mono fun _ _ => RepC.ext he, h1⟩
      rw [hb] at hv
      have := hk.vin _ _ hv
      omega
    · have hb := hk.boxes id cs' hm
      exact hb.keep he (hbx id cs' hm) (hold _ hb.lt) hb.hid
  · intro id lo hm hl
    have hb := hk.lists id lo hm hl
    exact hb.keep rfl (fun b hb' => hold b (hb.lt hb').2) fun _ _ _ => Iff.rfl
  · intro id cs1 id' cs2 hm hm' hne
    rcases List.mem_cons.1 hm with h1 | h1 <;> rcases List.mem_cons.1 hm' with h2 | h2
    · exact absurd ((Prod.mk.inj h1).1.trans (Prod.mk.inj h2).1.symm) hne
    · obtain ⟨rfl, rfl⟩ := Prod.mk.inj h1
      rw [hbx _ _ h2]
      have := (hk.boxes _ _ h2).lt
      simp [g']; omega
    · obtain ⟨rfl, rfl⟩ := Prod.mk.inj h2
      rw [hbx _ _ h1]
      have := (hk.boxes _ _ h1).lt
      simp [g']; omega
    · rw [hbx _ _ h1, hbx _ _ h2]
      exact hk.sepB _ _ _ _ h1 h2 hne
  · exact fun id lo id' lo' hm hm' hl hl' hne b hb => hk.sepL id lo id' lo' hm hm' hl hl' hne b hb
  · intro id lo id' cs' hm hm' hl
    rcases List.mem_cons.1 hm' with hm' | hm'
    · obtain ⟨rfl, rfl⟩ := Prod.mk.inj hm'
      intro e
      have := ((hk.lists id lo hm hl).lt e).2
      simp [g'] at this
    · rw [hbx _ _ hm']
      exact hk.sepX id lo id' cs' hm hm' hl

/-- a box is written -/
theorem HeapOk.setBox {g0 : Gh} {pk : Pk} {g : Gh} {h : Hp} (hk : HeapOk g0 pk g h) {d : Nat} {cs0 cs : List C} {old arr : Array Value} {t : TypeId} (hm0 : (d, cs0) ∈ h.boxes)
    (hg : g.w.heap[g.bx d]? = some (.cells old t (0, 0))) (hr : All2 (RepC g h) cs arr.toList) (h1 : ∀ u ∈ arr.toList, u.oneCell' = true) :
    HeapOk g0 pk { g with w := g.w.setRow (g.bx d) arr } { h with boxes := upd h.boxes d cs } ∧ Ext g h { g with w := g.w.setRow (g.bx d) arr } { h with boxes := upd h.boxes d cs } := by
  have hbd := hk.boxes d cs0 hm0
  have c : Chg g0 pk g h { g with w := g.w.setRow (g.bx d) arr } { h with boxes := upd h.boxes d cs } (some (g.bx d)) :=
    ⟨rfl, rfl, rfl, by simp, fun k _ hne => setRow_other _ _ _ _ (fun e => hne (by rw [e])), fun b hb => by
        cases hb
        rcases hbd.own with ⟨_, h1⟩ | ⟨h1, h2⟩
        · exact .inl (.inl h1)
        · exact .inr ⟨d, h1, h2.symm⟩,
      fun b hb o hv => by cases hb; exact absurd hv (hbd.hid o), fun _ _ h => h, fun _ _ _ h => h,
      fun b o hv => by have := hk.vin b o hv; simpa using this,
      fun id cs' hm => ⟨mem_upd_key hm, rfl⟩, fun id lo hm => ⟨⟨lo, hm⟩, rfl⟩⟩
  have he := c.ext hk
  refine ⟨c.ok hk ?_ ?_ ?_ ?_ ?_, he⟩
  · intro id cs' hm
    rcases mem_upd hm with ⟨rfl, rfl⟩ | ⟨hne, hm⟩
    · exact ⟨hbd.own, hbd.hid, arr, t, setRow_heap _ _ _ _ _ _ hg, hr.mono fun _ _ => RepC.ext he, h1⟩
    · have hb := hk.boxes id cs' hm
      exact hb.keep he rfl (setRow_other _ _ _ _ (hk.sepB _ _ _ _ hm hm0 hne)) hb.hid
  · intro id lo hm hl
    have hb := hk.lists id lo hm hl
    exact hb.keep rfl (fun b hb' => setRow_other _ _ _ _ (fun e => hk.sepX id lo d cs0 hm hm0 hl (by rw [hb', e]))) fun _ _ _ => Iff.rfl
  · intro id cs1 id' cs2 hm hm' hne
    have k1 : ∃ x, (id, x) ∈ h.boxes := by
      rcases mem_upd hm with ⟨rfl, _⟩ | ⟨_, hm⟩
      · exact ⟨_, hm0⟩
      · exact ⟨_, hm⟩
    have k2 : ∃ x, (id', x) ∈ h.boxes := by
      rcases mem_upd hm' with ⟨rfl, _⟩ | ⟨_, hm⟩
      · exact ⟨_, hm0⟩
      · exact ⟨_, hm⟩
    obtain ⟨x, hx⟩ := k1
    obtain ⟨y, hy⟩ := k2
    exact hk.sepB _ _ _ _ hx hy hne
  · exact fun id lo id' lo' hm hm' hl hl' hne b hb => hk.sepL id lo id' lo' hm hm' hl hl' hne b hb
  · intro id lo id' cs' hm hm' hl
    rcases mem_upd hm' with ⟨rfl, _⟩ | ⟨_, hm'⟩
    · exact hk.sepX id lo _ _ hm hm0 hl
    · exact hk.sepX id lo id' cs' hm hm' hl

/-- a list that comes: out of an old own list (which goes) or new; its block is the old one's or a new one -/
theorem HeapOk.putList {g0 : Gh} {pk : Pk} {g : Gh} {h : Hp} (hk : HeapOk g0 pk g h) {d : Nat} (hd : hasKey h.lists d = false) (lists : List (Nat × LO)) (row : Option Nat)
    (hlists : ∀ id lo, (id, lo) ∈ lists → lo.live = true → (id, lo) ∈ h.lists ∧ (∀ b, row = some b → blk g id ≠ some b))
    (hkeys : ∀ id lo, (id, lo) ∈ h.lists → ∃ lo', (id, lo') ∈ lists) (hkeys' : ∀ id lo, (id, lo) ∈ lists → ∃ lo', (id, lo') ∈ h.lists)
    (hrow : ∀ b, row = some b → Mine g0 pk b ∧ b < g.w.heap.size ∧ (∀ id cs, (id, cs) ∈ h.boxes → g.bx id ≠ b))
    {v : Value} {w' : World} {lo : LO} (hlive : lo.live = true) (hown : w'.ownsRow 0 lo.e lo.sz v lo.xs.length (flat lo.xs)) (hsz : ∀ x ∈ lo.xs, x.cells.size = lo.sz) (hpos : 0 < lo.sz) (hone : ∀ u ∈ flat lo.xs, u.oneCell' = true)
    (hos : w'.os = g.w.os) (htape : w'.tape = g.w.tape) (hout : w'.output = g.w.output) (hsize : g.w.heap.size ≤ w'.heap.size)
    (hheap : ∀ k, k < g.w.heap.size → some k ≠ row → w'.heap[k]? = g.w.heap[k]?)
    (hrowV : ∀ b, row = some b → ∀ o, g.V b o → w'.cell? ⟨b, o, none⟩ = g.w.cell? ⟨b, o, none⟩ ∧ lo.pub = true ∧ o < (flat lo.xs).length)
    (hv : ∀ b, v.ownBlock = some b → (row = some b ∨ g.w.heap.size ≤ b)) :
    ∃ g', g'.w = w' ∧ g'.ov d = v ∧ HeapOk g0 pk g' { h with lists := (d, lo) :: lists } ∧ Ext g h g' { h with lists := (d, lo) :: lists } ∧ (∀ i, i ≠ d → g'.ov i = g.ov i) := by
  let g' : Gh := { w := w', V := fun b o => g.V b o ∨ (lo.pub = true ∧ v.ownBlock = some b ∧ o < (flat lo.xs).length), bx := g.bx, ov := fun i => if i = d then v else g.ov i }
  have hov : ∀ id lo, (id, lo) ∈ h.lists → g'.ov id = g.ov id := fun id lo hm => by
    have := ne_of_noKey hd hm
    simp [g', this]
  have hblk : ∀ id lo, (id, lo) ∈ h.lists → blk g' id = blk g id := fun id lo hm => by simp only [blk, hov id lo hm]
  have hvlt : ∀ b, v.ownBlock = some b → Mine g0 pk b ∧ b < w'.heap.size := fun b hb => ⟨by
    rcases hv b hb with h1 | h1
    · exact (hrow b h1).1
    · exact .inl (Nat.le_trans hk.size h1), (hown.lt b hb).2⟩
  have hd' : g'.ov d = v := by simp [g']
  have hbd' : blk g' d = v.ownBlock := by simp only [blk, hd']
  have c : Chg g0 pk g h g' { h with lists := (d, lo) :: lists } row :=
    ⟨hos, htape, hout, hsize, hheap, fun b hb => .inl (hrow b hb).1, fun b hb o hv' => (hrowV b hb o hv').1, fun _ _ h => .inl h,
      fun b o hb hv' => by
        rcases hv' with h1 | ⟨_, h2, _⟩
        · exact h1
        · exact absurd (hvlt b h2).1 hb,
      fun b o hv' => by
        rcases hv' with h1 | ⟨_, h2, _⟩
        · have := hk.vin b o h1; show b < w'.heap.size; omega
        · exact (hvlt b h2).2,
      fun id cs' hm => ⟨⟨cs', hm⟩, rfl⟩, fun id lo' hm => ⟨by obtain ⟨lo'', hx⟩ := hkeys id lo' hm; exact ⟨lo'', List.mem_cons_of_mem _ hx⟩, hov id lo' hm⟩⟩
  have he := c.ext hk
  have hbox : ∀ id cs, (id, cs) ∈ h.boxes → ∀ b, v.ownBlock = some b → g.bx id ≠ b := fun id cs hm b hb e => by
    rcases hv b hb with h1 | h1
    · exact (hrow b h1).2.2 id cs hm e
    · have := (hk.boxes id cs hm).lt; omega
  have hlst : ∀ id lo', (id, lo') ∈ lists → lo'.live = true → ∀ b, v.ownBlock = some b → blk g id ≠ some b := fun id lo' hm hl b hb e => by
    obtain ⟨hm', hr⟩ := hlists id lo' hm hl
    rcases hv b hb with h1 | h1
    · exact hr b h1 e
    · have := ((hk.lists id lo' hm' hl).lt e).2; omega
  refine ⟨g', rfl, hd', c.ok hk ?_ ?_ ?_ ?_ ?_, he, fun i hi => by simp [g', hi]⟩
  · intro id cs hm
    have hb := hk.boxes id cs hm
    refine hb.keep he rfl (hheap _ hb.lt fun e => (hrow _ e.symm).2.2 id cs hm rfl) fun o hv' => ?_
    rcases hv' with h1 | ⟨_, h2, _⟩
    · exact hb.hid o h1
    · exact hbox id cs hm _ h2 rfl
  · intro id lo' hm hl
    rcases List.mem_cons.1 hm with hm | hm
    · obtain ⟨rfl, rfl⟩ := Prod.mk.inj hm
      refine ⟨by rw [hd']; exact hown, fun b hb => (hvlt b (by rw [← hbd']; exact hb)).1, hsz, hpos, hone, fun b hb o => ?_⟩
      rw [hbd'] at hb
      constructor
      · rintro (h1 | ⟨h1, _, h2⟩)
        · rcases hv b hb with h3 | h3
          · exact (hrowV b h3 o h1).2
          · have := hk.vin b o h1; omega
        · exact ⟨h1, h2⟩
      · exact fun h => .inr ⟨h.1, hb, h.2⟩
    · obtain ⟨hm', hr⟩ := hlists id lo' hm hl
      have hb := hk.lists id lo' hm' hl
      refine hb.keep (hov id lo' hm') (fun b hb' => hheap b (hb.lt hb').2 fun e => hr b e.symm hb') fun b hb' o => ⟨fun h1 => ?_, fun h1 => .inl h1⟩
      rcases h1 with h1 | ⟨_, h2, _⟩
      · exact h1
      · exact absurd hb' (hlst id lo' hm hl b h2)
  · exact fun id cs id' cs' hm hm' hne => hk.sepB id cs id' cs' hm hm' hne
  · intro id lo1 id' lo2 hm hm' hl hl' hne b hb
    rcases List.mem_cons.1 hm with h1 | h1 <;> rcases List.mem_cons.1 hm' with h2 | h2
    · exact absurd ((Prod.mk.inj h1).1.trans (Prod.mk.inj h2).1.symm) hne
    · obtain ⟨rfl, rfl⟩ := Prod.mk.inj h1
      rw [hbd'] at hb
      rw [hblk _ _ (hlists _ _ h2 hl').1]
      exact hlst _ _ h2 hl' b hb
    · obtain ⟨rfl, rfl⟩ := Prod.mk.inj h2
      rw [hblk _ _ (hlists _ _ h1 hl).1] at hb
      rw [hbd']
      exact fun e => hlst _ _ h1 hl b e hb
    · rw [hblk _ _ (hlists _ _ h1 hl).1] at hb
      rw [hblk _ _ (hlists _ _ h2 hl').1]
      exact hk.sepL id lo1 id' lo2 (hlists _ _ h1 hl).1 (hlists _ _ h2 hl').1 hl hl' hne b hb
  · intro id lo1 id' cs' hm hm' hl
    rcases List.mem_cons.1 hm with hm | hm
    · obtain ⟨rfl, rfl⟩ := Prod.mk.inj hm
      rw [hbd']
      exact fun e => hbox _ _ hm' _ e rfl
    · rw [hblk _ _ (hlists _ _ hm hl).1]
      exact hk.sepX id lo1 id' cs' (hlists _ _ hm hl).1 hm' hl

/-- all live own lists are published -/
def pubAll : List (Nat × LO) → List (Nat × LO)
  | [] => []
  | (k, lo) :: r => (k, { lo with pub := true }) :: pubAll r
/-- those own lists are published -/
def pubP (p : Nat → Bool) : List (Nat × LO) → List (Nat × LO)
  | [] => []
  | (k, lo) :: r => (k, if p k = true then { lo with pub := true } else lo) :: pubP p r
theorem pubP_all (l : List (Nat × LO)) : pubP (fun _ => true) l = pubAll l := by
  induction l with
  | nil => rfl
  | cons x r ih => obtain ⟨k, x⟩ := x; simp [pubP, pubAll, ih]
theorem mem_pubP {p : Nat → Bool} {l : List (Nat × LO)} {id : Nat} {lo : LO} (h : (id, lo) ∈ pubP p l) : ∃ lo0, (id, lo0) ∈ l ∧ lo = if p id = true then { lo0 with pub := true } else lo0 := by
  induction l with
  | nil => simp [pubP] at h
  | cons x r ih =>
    obtain ⟨k, x⟩ := x
    rcases List.mem_cons.1 h with h | h
    · obtain ⟨rfl, rfl⟩ := Prod.mk.inj h
      exact ⟨x, by simp, rfl⟩
    · obtain ⟨lo0, h1, h2⟩ := ih h
      exact ⟨lo0, List.mem_cons_of_mem _ h1, h2⟩
theorem mem_pubP' {p : Nat → Bool} {l : List (Nat × LO)} {id : Nat} {lo : LO} (h : (id, lo) ∈ l) : (id, if p id = true then { lo with pub := true } else lo) ∈ pubP p l := by
  induction l with
  | nil => simp at h
  | cons x r ih =>
    obtain ⟨k, x⟩ := x
    rcases List.mem_cons.1 h with h | h
    · obtain ⟨rfl, rfl⟩ := Prod.mk.inj h
      simp [pubP]
    · exact List.mem_cons_of_mem _ (ih h)
theorem mem_pubAll {l : List (Nat × LO)} {id : Nat} {lo : LO} (h : (id, lo) ∈ pubAll l) : ∃ lo0, (id, lo0) ∈ l ∧ lo = { lo0 with pub := true } := by
  rw [← pubP_all] at h
  simpa using mem_pubP h
theorem mem_pubAll' {l : List (Nat × LO)} {id : Nat} {lo : LO} (h : (id, lo) ∈ l) : (id, { lo with pub := true }) ∈ pubAll l := by
  rw [← pubP_all]
  simpa using mem_pubP' (p := fun _ => true) h

/-- the ghosts with those live own lists published -/
def pubQ (p : Nat → Bool) (g : Gh) (h : Hp) : Gh := { g with V := fun b o => g.V b o ∨ ∃ id lo, (id, lo) ∈ h.lists ∧ p id = true ∧ lo.live = true ∧ blk g id = some b ∧ o < (flat lo.xs).length }
theorem HeapOk.pubQ {p : Nat → Bool} {g0 : Gh} {pk : Pk} {g : Gh} {h : Hp} (hk : HeapOk g0 pk g h) (huniq : ∀ id lo lo', (id, lo) ∈ h.lists → (id, lo') ∈ h.lists → lo.live = true → lo'.live = true → lo = lo') :
    HeapOk g0 pk (pubQ p g h) { h with lists := pubP p h.lists } ∧ Ext g h (pubQ p g h) { h with lists := pubP p h.lists } := by
  have c : Chg g0 pk g h (PL.pubQ p g h) { h with lists := pubP p h.lists } none :=
    ⟨rfl, rfl, rfl, Nat.le_refl _, fun _ _ _ => rfl, by simp, by simp, fun _ _ h => .inl h,
      fun b o hb hv => by
        rcases hv with h1 | ⟨id, lo, h1, _, h2, h3, _⟩
        · exact h1
        · exact absurd ((hk.lists id lo h1 h2).lt h3).1 hb,
      fun b o hv => by
        rcases hv with h1 | ⟨id, lo, h1, _, h2, h3, _⟩
        · exact hk.vin b o h1
        · exact ((hk.lists id lo h1 h2).lt h3).2,
      fun id cs hm => ⟨⟨cs, hm⟩, rfl⟩, fun id lo hm => ⟨⟨_, mem_pubP' hm⟩, rfl⟩⟩
  have he := c.ext hk
  have hlv : ∀ id (lo : LO), (if p id = true then { lo with pub := true } else lo).live = lo.live := fun id lo => by split <;> rfl
  refine ⟨c.ok hk ?_ ?_ ?_ ?_ ?_, he⟩
  · intro id cs hm
    have hb := hk.boxes id cs hm
    refine hb.keep he rfl rfl fun o hv => ?_
    rcases hv with h1 | ⟨id', lo, h1, _, h2, h3, _⟩
    · exact hb.hid o h1
    · exact hk.sepX id' lo id cs h1 hm h2 h3
  · intro id lo hm hl
    obtain ⟨lo0, hm0, rfl⟩ := mem_pubP hm
    rw [hlv] at hl
    have hb := hk.lists id lo0 hm0 hl
    have key : ∀ b, blk g id = some b → ∀ o, (PL.pubQ p g h).V b o ↔ (g.V b o ∨ (p id = true ∧ o < (flat lo0.xs).length)) := by
      intro b hb' o
      constructor
      · rintro (h1 | ⟨id', lo', h1, hp, h2, h3, h4⟩)
        · exact .inl h1
        · by_cases hne : id' = id
          · subst hne
            rw [huniq _ _ _ hm0 h1 hl h2]
            exact .inr ⟨hp, h4⟩
          · exact absurd hb' (hk.sepL id' lo' id lo0 h1 hm0 h2 hl hne b h3)
      · rintro (h1 | ⟨hp, h4⟩)
        · exact .inl h1
        · exact .inr ⟨id, lo0, hm0, hp, hl, hb', h4⟩
    by_cases hp : p id = true
    · rw [if_pos hp]
      refine ⟨hb.own, hb.mine, hb.sz, hb.pos, hb.one, fun b hb' o => ?_⟩
      rw [key b hb' o, hb.vis b hb' o]
      simp [hp]
    · rw [if_neg hp]
      refine ⟨hb.own, hb.mine, hb.sz, hb.pos, hb.one, fun b hb' o => ?_⟩
      rw [key b hb' o, hb.vis b hb' o]
      simp [hp]
  · exact fun id cs id' cs' hm hm' hne => hk.sepB id cs id' cs' hm hm' hne
  · intro id lo id' lo' hm hm' hl hl' hne b hb
    obtain ⟨lo0, hm0, rfl⟩ := mem_pubP hm
    obtain ⟨lo1, hm1, rfl⟩ := mem_pubP hm'
    rw [hlv] at hl hl'
    exact hk.sepL id lo0 id' lo1 hm0 hm1 hl hl' hne b hb
  · intro id lo id' cs hm hm' hl
    obtain ⟨lo0, hm0, rfl⟩ := mem_pubP hm
    rw [hlv] at hl
    exact hk.sepX id lo0 id' cs hm0 hm' hl
/-- the ghosts with all live own lists published -/
def pubG (g : Gh) (h : Hp) : Gh := PL.pubQ (fun _ => true) g h
theorem HeapOk.pub {g0 : Gh} {pk : Pk} {g : Gh} {h : Hp} (hk : HeapOk g0 pk g h) (huniq : ∀ id lo lo', (id, lo) ∈ h.lists → (id, lo') ∈ h.lists → lo.live = true → lo'.live = true → lo = lo') :
    HeapOk g0 pk (pubG g h) { h with lists := pubAll h.lists } ∧ Ext g h (pubG g h) { h with lists := pubAll h.lists } := by
  have := hk.pubQ (p := fun _ => true) huniq
  rw [pubP_all] at this
  exact this

end Go.PL
