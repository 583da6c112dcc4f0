/-
  A layer of abstract values over the kit's calculus: lists as Lean lists, struct variables as local boxes. This text: the values, what it means that a world shows them, and how they survive a change of the world.
-/
import Derived.WalkKit
import Derived.Laws.Append
namespace Go.PL

/-- one cell: an exact value; a slice that reads as these elements (cells an element); an own list; a pointer into a local box; a pointer to readable cells; a pointer into an own list; nothing known -/
inductive C where
  | v (x : Value)
  | l (sz : Nat) (xs : List Value)
  | o (id : Nat)
  | p (id off : Nat)
  | q (cs : List Value)
  | e (id sz idx off : Nat)
  | any
/-- one cell or the cells of a struct -/
inductive V1 where
  | c (x : C)
  | a (xs : List C)
/-- a value or a tuple of values -/
inductive PV where
  | s (x : V1)
  | t (xs : List V1)
/-- an own list: element type, cells an element, elements, may others see it, is it still there -/
structure LO where
  e : TypeId
  sz : Nat
  xs : List Value
  pub : Bool
  live : Bool
structure Hp where
  boxes : List (Nat × List C)
  lists : List (Nat × LO)
structure St where
  n : Nat
  env : List (Nat × PV)
  h : Hp
/-- the ghosts: the world, the cells that are published, the blocks of the boxes, the values of the own lists -/
structure Gh where
  w : World
  V : Nat → Nat → Prop
  bx : Nat → Nat
  ov : Nat → Value

def fnd {α : Type} : List (Nat × α) → Nat → Option α
  | [], _ => none
  | (k, x) :: r, t => if k = t then some x else fnd r t
def upd {α : Type} : List (Nat × α) → Nat → α → List (Nat × α)
  | [], _, _ => []
  | (k, x) :: r, t, y => if k = t then (k, y) :: upd r t y else (k, x) :: upd r t y
def hasKey {α : Type} : List (Nat × α) → Nat → Bool
  | [], _ => false
  | (k, _) :: r, t => if k = t then true else hasKey r t

theorem fnd_mem {α : Type} {l : List (Nat × α)} {t : Nat} {x : α} (h : fnd l t = some x) : (t, x) ∈ l := by
  induction l with
  | nil => simp [fnd] at h
  | cons y r ih =>
    obtain ⟨k, z⟩ := y
    by_cases hk : k = t
    · simp [fnd, hk] at h; subst h; subst hk; simp
    · simp [fnd, hk] at h; exact List.mem_cons_of_mem _ (ih h)
theorem hasKey_of_mem {α : Type} {l : List (Nat × α)} {t : Nat} {x : α} (h : (t, x) ∈ l) : hasKey l t = true := by
  induction l with
  | nil => simp at h
  | cons y r ih =>
    obtain ⟨k, z⟩ := y
    by_cases hk : k = t
    · simp [hasKey, hk]
    · rcases List.mem_cons.1 h with h | h
      · exact absurd (Prod.mk.inj h).1.symm hk
      · simp [hasKey, hk, ih h]
theorem mem_upd {α : Type} {l : List (Nat × α)} {t k : Nat} {x y : α} (h : (k, x) ∈ upd l t y) : (k = t ∧ x = y) ∨ (k ≠ t ∧ (k, x) ∈ l) := by
  induction l with
  | nil => simp [upd] at h
  | cons z r ih =>
    obtain ⟨k', z⟩ := z
    by_cases hk : k' = t
    · simp only [upd, hk, if_true, List.mem_cons, Prod.mk.injEq] at h
      rcases h with h | h
      · exact .inl h
      · exact (ih h).imp id (fun h => ⟨h.1, List.mem_cons_of_mem _ h.2⟩)
    · simp only [upd, hk, if_false, List.mem_cons, Prod.mk.injEq] at h
      rcases h with h | h
      · exact .inr ⟨fun e => hk (h.1 ▸ e), by rw [h.1, h.2]; simp⟩
      · exact (ih h).imp id (fun h => ⟨h.1, List.mem_cons_of_mem _ h.2⟩)
theorem mem_upd_key {α : Type} {l : List (Nat × α)} {t k : Nat} {x y : α} (h : (k, x) ∈ l) : ∃ x', (k, x') ∈ upd l t y := by
  induction l with
  | nil => simp at h
  | cons z r ih =>
    obtain ⟨k', z⟩ := z
    rcases List.mem_cons.1 h with h | h
    · obtain ⟨rfl, rfl⟩ := Prod.mk.inj h
      by_cases hk : k = t
      · exact ⟨y, by simp [upd, hk]⟩
      · exact ⟨x, by simp [upd, hk]⟩
    · obtain ⟨x', h'⟩ := ih h
      exact ⟨x', by simp only [upd]; split <;> exact List.mem_cons_of_mem _ h'⟩
theorem ne_of_noKey {α : Type} {l : List (Nat × α)} {t k : Nat} {x : α} (h : hasKey l t = false) (hm : (k, x) ∈ l) : k ≠ t := by
  rintro rfl
  rw [hasKey_of_mem hm] at h
  cases h

def flat (xs : List Value) : List Value := xs.flatMap fun x => x.cells.toList

/-- these cells stand there and are published -/
def Row (g : Gh) (b off : Nat) (cs : List Value) : Prop := ∀ j (h : j < cs.length), g.w.cell? ⟨b, off + j, none⟩ = some cs[j] ∧ g.V b (off + j)

def RepC (g : Gh) (h : Hp) : C → Value → Prop
  | .v x, c => c = x
  | .l sz xs, c => ∃ a cap, c = .slice a xs.length cap ∧ xs.length ≤ cap ∧ cap ≤ maxLen ∧ (0 < sz ∧ ∀ u ∈ flat xs, u.oneCell' = true) ∧ (∀ x ∈ xs, x.cells.size = sz) ∧ (a = none → cap = 0) ∧
      ∀ ad, a = some ad → ad.spot = none ∧ Row g ad.block ad.off (flat xs)
  | .o id, c => (∃ lo, (id, lo) ∈ h.lists) ∧ c = g.ov id
  | .p id off, c => (∃ cs, (id, cs) ∈ h.boxes) ∧ c = .pointer (some ⟨g.bx id, off, none⟩)
  | .q cs, c => ∃ b off, c = .pointer (some ⟨b, off, none⟩) ∧ Row g b off cs
  | .e id sz idx off, c => (∃ lo, (id, lo) ∈ h.lists) ∧ ∃ b n cap, g.ov id = .slice (some ⟨b, 0, none⟩) n cap ∧ c = .pointer (some ⟨b, idx * sz + off, none⟩)
  | .any, _ => True

/-- the two lists stand to each other, place by place -/
def All2 {α β : Type} (R : α → β → Prop) : List α → List β → Prop
  | [], [] => True
  | x :: xs, y :: ys => R x y ∧ All2 R xs ys
  | _, _ => False
theorem All2.mono {α β : Type} {R S : α → β → Prop} (h : ∀ x y, R x y → S x y) : ∀ {l : List α} {m : List β}, All2 R l m → All2 S l m
  | [], [], _ => trivial
  | _ :: _, _ :: _, ⟨a, b⟩ => ⟨h _ _ a, All2.mono h b⟩
  | [], _ :: _, h => h.elim
  | _ :: _, [], h => h.elim
theorem All2.length {α β : Type} {R : α → β → Prop} : ∀ {l : List α} {m : List β}, All2 R l m → l.length = m.length
  | [], [], _ => rfl
  | _ :: _, _ :: _, ⟨_, b⟩ => by simp [All2.length b]
  | [], _ :: _, h => h.elim
  | _ :: _, [], h => h.elim
theorem All2.get {α β : Type} {R : α → β → Prop} : ∀ {l : List α} {m : List β}, All2 R l m → ∀ (j : Nat) (x : α), l[j]? = some x → ∃ y, m[j]? = some y ∧ R x y
  | [], [], _, j, x, hx => by simp at hx
  | a :: l, b :: m, ⟨h, hr⟩, 0, x, hx => by simp at hx; subst hx; exact ⟨b, by simp, h⟩
  | a :: l, b :: m, ⟨h, hr⟩, j + 1, x, hx => by
    obtain ⟨y, hy, hR⟩ := All2.get hr j x (by simpa using hx)
    exact ⟨y, by simpa using hy, hR⟩
  | [], _ :: _, h, _, _, _ => h.elim
  | _ :: _, [], h, _, _, _ => h.elim
theorem All2.set {α β : Type} {R : α → β → Prop} : ∀ {l : List α} {m : List β}, All2 R l m → ∀ (j : Nat) (x : α) (y : β), R x y → All2 R (l.set j x) (m.set j y)
  | [], [], _, _, _, _, _ => trivial
  | _ :: _, _ :: _, ⟨_, hr⟩, 0, _, _, h => ⟨h, hr⟩
  | _ :: _, _ :: _, ⟨h0, hr⟩, j + 1, x, y, h => ⟨h0, All2.set hr j x y h⟩
  | [], _ :: _, h, _, _, _, _ => h.elim
  | _ :: _, [], h, _, _, _, _ => h.elim
theorem All2.drop {α β : Type} {R : α → β → Prop} : ∀ {l : List α} {m : List β} (k : Nat), All2 R l m → All2 R (l.drop k) (m.drop k)
  | _, _, 0, h => by simpa using h
  | [], [], _ + 1, _ => by simp [All2]
  | _ :: _, _ :: _, k + 1, ⟨_, hr⟩ => by simpa using All2.drop k hr
  | [], _ :: _, _ + 1, h => h.elim
  | _ :: _, [], _ + 1, h => h.elim
theorem All2.take {α β : Type} {R : α → β → Prop} : ∀ {l : List α} {m : List β} (k : Nat), All2 R l m → All2 R (l.take k) (m.take k)
  | _, _, 0, _ => by simp [All2]
  | [], [], _ + 1, _ => by simp [All2]
  | _ :: _, _ :: _, k + 1, ⟨h, hr⟩ => by simp only [List.take_succ_cons]; exact ⟨h, All2.take k hr⟩
  | [], _ :: _, _ + 1, h => h.elim
  | _ :: _, [], _ + 1, h => h.elim
theorem All2.append {α β : Type} {R : α → β → Prop} : ∀ {l : List α} {m : List β} {l' : List α} {m' : List β}, All2 R l m → All2 R l' m' → All2 R (l ++ l') (m ++ m')
  | [], [], _, _, _, h => h
  | _ :: _, _ :: _, _, _, ⟨h, hr⟩, h' => ⟨h, All2.append hr h'⟩
  | [], _ :: _, _, _, h, _ => h.elim
  | _ :: _, [], _, _, h, _ => h.elim
theorem All2.of_v {g : Gh} {h : Hp} (cs : List Value) : All2 (RepC g h) (cs.map .v) cs := by
  induction cs with
  | nil => trivial
  | cons c r ih => exact ⟨rfl, ih⟩

def RepV1 (g : Gh) (h : Hp) : V1 → Value → Prop
  | .c x, u => RepC g h x u
  | .a xs, u => ∃ cs : Array Value, u = .agg cs ∧ All2 (RepC g h) xs cs.toList
def RepPV (g : Gh) (h : Hp) : PV → Value → Prop
  | .s x, u => RepV1 g h x u
  | .t xs, u => ∃ vs : Array Value, u = .tuple vs ∧ All2 (RepV1 g h) xs vs.toList

/-- what was shown before is shown after -/
structure Ext (g : Gh) (h : Hp) (g' : Gh) (h' : Hp) : Prop where
  vis : ∀ b o, g.V b o → g'.V b o ∧ g'.w.cell? ⟨b, o, none⟩ = g.w.cell? ⟨b, o, none⟩
  box : ∀ id cs, (id, cs) ∈ h.boxes → (∃ cs', (id, cs') ∈ h'.boxes) ∧ g'.bx id = g.bx id
  lst : ∀ id lo, (id, lo) ∈ h.lists → (∃ lo', (id, lo') ∈ h'.lists) ∧ g'.ov id = g.ov id
theorem Ext.refl (g : Gh) (h : Hp) : Ext g h g h := ⟨fun _ _ h => ⟨h, rfl⟩, fun _ cs h => ⟨⟨cs, h⟩, rfl⟩, fun _ lo h => ⟨⟨lo, h⟩, rfl⟩⟩
theorem Ext.trans {g1 g2 g3 : Gh} {h1 h2 h3 : Hp} (a : Ext g1 h1 g2 h2) (b : Ext g2 h2 g3 h3) : Ext g1 h1 g3 h3 :=
  ⟨fun bb o h => ⟨(b.vis _ _ (a.vis bb o h).1).1, (b.vis _ _ (a.vis bb o h).1).2.trans (a.vis bb o h).2⟩,
   fun id cs h => by
     obtain ⟨⟨cs', h'⟩, e⟩ := a.box id cs h
     exact ⟨(b.box id cs' h').1, (b.box id cs' h').2.trans e⟩,
   fun id cs h => by
     obtain ⟨⟨cs', h'⟩, e⟩ := a.lst id cs h
     exact ⟨(b.lst id cs' h').1, (b.lst id cs' h').2.trans e⟩⟩
theorem Row.ext {g g' : Gh} {b off : Nat} {cs : List Value} (hv : ∀ b o, g.V b o → g'.V b o ∧ g'.w.cell? ⟨b, o, none⟩ = g.w.cell? ⟨b, o, none⟩) (h : Row g b off cs) : Row g' b off cs :=
  fun j hj => ⟨(hv _ _ (h j hj).2).2.trans (h j hj).1, (hv _ _ (h j hj).2).1⟩
theorem RepC.ext {g g' : Gh} {h h' : Hp} (he : Ext g h g' h') {x : C} {u : Value} (hr : RepC g h x u) : RepC g' h' x u := by
  cases x with
  | v x => exact hr
  | l sz xs =>
    obtain ⟨a, cap, h1, h2, h3, h4, h5, h6, h7⟩ := hr
    exact ⟨a, cap, h1, h2, h3, h4, h5, h6, fun ad ha => ⟨(h7 ad ha).1, (h7 ad ha).2.ext he.vis⟩⟩
  | o id =>
    obtain ⟨⟨lo, hm⟩, e⟩ := hr
    exact ⟨(he.lst id lo hm).1, e.trans (he.lst id lo hm).2.symm⟩
  | p id off =>
    obtain ⟨⟨lo, hm⟩, e⟩ := hr
    exact ⟨(he.box id lo hm).1, by rw [(he.box id lo hm).2]; exact e⟩
  | q cs =>
    obtain ⟨b, off, h1, h2⟩ := hr
    exact ⟨b, off, h1, h2.ext he.vis⟩
  | e id sz idx off =>
    obtain ⟨⟨lo, hm⟩, b, n, cap, h1, h2⟩ := hr
    exact ⟨(he.lst id lo hm).1, b, n, cap, by rw [(he.lst id lo hm).2]; exact h1, h2⟩
  | any => trivial
theorem RepV1.ext {g g' : Gh} {h h' : Hp} (he : Ext g h g' h') {x : V1} {u : Value} (hr : RepV1 g h x u) : RepV1 g' h' x u := by
  cases x with
  | c x => exact RepC.ext he hr
  | a xs => obtain ⟨cs, h1, h2⟩ := hr; exact ⟨cs, h1, h2.mono fun _ _ => RepC.ext he⟩
theorem RepPV.ext {g g' : Gh} {h h' : Hp} (he : Ext g h g' h') {x : PV} {u : Value} (hr : RepPV g h x u) : RepPV g' h' x u := by
  cases x with
  | s x => exact RepV1.ext he hr
  | t xs => obtain ⟨cs, h1, h2⟩ := hr; exact ⟨cs, h1, h2.mono fun _ _ => RepV1.ext he⟩

/-- the block of an own list, if it has one -/
def blk (g : Gh) (id : Nat) : Option Nat := (g.ov id).ownBlock
/-- what comes in: boxes and own lists, by their numbers -/
structure Pk where
  bs : List Nat
  ls : List Nat
/-- the blocks that own lists may lie in: new ones and those of the lists that came in -/
def Mine (g0 : Gh) (pk : Pk) (b : Nat) : Prop := g0.w.heap.size ≤ b ∨ ∃ id ∈ pk.ls, blk g0 id = some b
/-- one own list in its world -/
structure ListOk (M : Nat → Prop) (g : Gh) (id : Nat) (lo : LO) : Prop where
  own : g.w.ownsRow 0 lo.e lo.sz (g.ov id) lo.xs.length (flat lo.xs)
  mine : ∀ b, blk g id = some b → M b
  sz : ∀ x ∈ lo.xs, x.cells.size = lo.sz
  pos : 0 < lo.sz
  one : ∀ u ∈ flat lo.xs, u.oneCell' = true
  vis : ∀ b, blk g id = some b → ∀ o, g.V b o ↔ lo.pub = true ∧ o < (flat lo.xs).length
/-- one box in its world -/
structure BoxOk (g0 : Gh) (pk : Pk) (g : Gh) (h : Hp) (id : Nat) (cs : List C) : Prop where
  own : (id ∉ pk.bs ∧ g0.w.heap.size ≤ g.bx id) ∨ (id ∈ pk.bs ∧ g.bx id = g0.bx id)
  hid : ∀ o, ¬ g.V (g.bx id) o
  cells : ∃ arr ty, g.w.heap[g.bx id]? = some (.cells arr ty (0, 0)) ∧ All2 (RepC g h) cs arr.toList ∧ ∀ u ∈ arr.toList, u.oneCell' = true
/-- the memory since the call began (ghosts g0; the boxes that came in: pk) -/
structure HeapOk (g0 : Gh) (pk : Pk) (g : Gh) (h : Hp) : Prop where
  os : g.w.os = g0.w.os
  tape : g.w.tape = g0.w.tape
  output : g.w.output = g0.w.output
  size : g0.w.heap.size ≤ g.w.heap.size
  frame : ∀ k, k < g0.w.heap.size → (∀ id ∈ pk.bs, g0.bx id ≠ k) → (∀ id ∈ pk.ls, blk g0 id ≠ some k) → g.w.heap[k]? = g0.w.heap[k]?
  vis : ∀ b o, g0.V b o → g.V b o ∧ g.w.cell? ⟨b, o, none⟩ = g0.w.cell? ⟨b, o, none⟩
  old : ∀ b o, b < g0.w.heap.size → (∀ id ∈ pk.ls, blk g0 id ≠ some b) → g.V b o → g0.V b o
  vin : ∀ b o, g.V b o → b < g.w.heap.size
  pkin : ∀ id ∈ pk.bs, ∃ cs, (id, cs) ∈ h.boxes
  lsin : ∀ id ∈ pk.ls, (∃ lo, (id, lo) ∈ h.lists) ∧ g.ov id = g0.ov id
  boxes : ∀ id cs, (id, cs) ∈ h.boxes → BoxOk g0 pk g h id cs
  lists : ∀ id lo, (id, lo) ∈ h.lists → lo.live = true → ListOk (Mine g0 pk) g id lo
  sepB : ∀ id cs id' cs', (id, cs) ∈ h.boxes → (id', cs') ∈ h.boxes → id ≠ id' → g.bx id ≠ g.bx id'
  sepL : ∀ id lo id' lo', (id, lo) ∈ h.lists → (id', lo') ∈ h.lists → lo.live = true → lo'.live = true → id ≠ id' → ∀ b, blk g id = some b → blk g id' ≠ some b
  sepX : ∀ id lo id' cs, (id, lo) ∈ h.lists → (id', cs) ∈ h.boxes → lo.live = true → blk g id ≠ some (g.bx id')
theorem BoxOk.lt {g0 : Gh} {pk : Pk} {g : Gh} {h : Hp} {id : Nat} {cs : List C} (hb : BoxOk g0 pk g h id cs) : g.bx id < g.w.heap.size := by
  obtain ⟨arr, ty, h1, _⟩ := hb.cells
  exact (Array.getElem?_eq_some_iff.1 h1).1
theorem ListOk.lt {M : Nat → Prop} {g : Gh} {id : Nat} {lo : LO} (h : ListOk M g id lo) {b : Nat} (hb : blk g id = some b) : M b ∧ b < g.w.heap.size := ⟨h.mine b hb, (h.own.lt b hb).2⟩

/-- the heap as it was, but for blocks that are none of ours and hold nothing published; perhaps more published cells in new blocks -/
theorem HeapOk.step {g0 : Gh} {pk : Pk} {g : Gh} {h : Hp} (hk : HeapOk g0 pk g h) (w' : World) (V' : Nat → Nat → Prop)
    (hos : w'.os = g.w.os) (htape : w'.tape = g.w.tape) (hout : w'.output = g.w.output) (hsize : g.w.heap.size ≤ w'.heap.size)
    (hheap : ∀ k, k < g.w.heap.size → w'.heap[k]? = g.w.heap[k]?)
    (hV : ∀ b o, g.V b o → V' b o) (hV' : ∀ b o, b < g.w.heap.size → V' b o → g.V b o) (hin : ∀ b o, V' b o → b < w'.heap.size) :
    HeapOk g0 pk { g with w := w', V := V' } h ∧ Ext g h { g with w := w', V := V' } h := by
  have hcell : ∀ b o, b < g.w.heap.size → w'.cell? ⟨b, o, none⟩ = g.w.cell? ⟨b, o, none⟩ := fun b o hb => World.cell?_of_block (hheap b hb)
  have hext : Ext g h { g with w := w', V := V' } h :=
    ⟨fun b o hv => ⟨hV _ _ hv, hcell b o (hk.vin b o hv)⟩, fun _ cs hm => ⟨⟨cs, hm⟩, rfl⟩, fun _ lo hm => ⟨⟨lo, hm⟩, rfl⟩⟩
  refine ⟨⟨hos.trans hk.os, htape.trans hk.tape, hout.trans hk.output, Nat.le_trans hk.size hsize, ?_, ?_, ?_, hin, hk.pkin, hk.lsin, ?_, ?_, hk.sepB, hk.sepL, hk.sepX⟩, hext⟩
  · intro k hlt hne hne2
    exact (hheap k (Nat.lt_of_lt_of_le hlt hk.size)).trans (hk.frame k hlt hne hne2)
  · intro b o hv
    have := hk.vis b o hv
    exact ⟨hV _ _ this.1, (hcell b o (hk.vin b o this.1)).trans this.2⟩
  · intro b o hb hn hv
    exact hk.old b o hb hn (hV' b o (Nat.lt_of_lt_of_le hb hk.size) hv)
  · intro id cs hm
    have hb := hk.boxes id cs hm
    have hlt := hb.lt
    obtain ⟨arr, ty, h1, h2, h3⟩ := hb.cells
    exact ⟨hb.own, fun o hv => hb.hid o (hV' _ _ hlt hv), arr, ty, (hheap _ hlt).trans h1, h2.mono fun _ _ => RepC.ext hext, h3⟩
  · intro id lo hm hl
    have hb := hk.lists id lo hm hl
    refine ⟨?_, hb.mine, hb.sz, hb.pos, hb.one, fun b hbk o => ?_⟩
    · exact hb.own.kept (row := none) ⟨hos, htape, hout, hsize, fun k hk' _ => hheap k hk'⟩ (by cases hh : (g.ov id).ownBlock <;> simp)
    · have hlt := (hb.lt hbk).2
      exact ⟨fun hv => (hb.vis b hbk o).1 (hV' _ _ hlt hv), fun hv => hV _ _ ((hb.vis b hbk o).2 hv)⟩

end Go.PL
