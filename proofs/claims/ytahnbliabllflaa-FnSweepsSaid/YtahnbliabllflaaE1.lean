/-
  A layer of abstract values over the kit's calculus: lists as Lean lists, struct variables as local boxes. This text: the values, what it means that a world shows them, and how they survive a change of the world.
  What an operation does to abstract values: the operations that hand back a value and change no box and no own list. Each is proved against the model's own run.
  Operations on abstract values, second part: loads, addresses, slices, lengths, struct literals, calls. The operations of this class change no box and no own list.
  Every operation of the class that changes no box and no own list does what its abstract rule says.
  Struct literals and calls; every operation of the class that changes no box and no own list is sound.
-/
import Derived.WalkKit
import Derived.Laws.Append
import Derived.Laws.Tables
import Derived.Laws.BytesString
namespace Go.PL
def isErr (v : Value) : Prop := ∃ t p, v = .iface t p
/-- what is known of package-level variables: their blocks and cells (a seat whose code reads none: nothing) -/
def TabP (rows : List (Nat × List Value)) : Prop := rows = rows ∧
  True

/-- one cell: an exact value; a slice that reads as these elements (cells an element); an own list; a pointer into a local box; a pointer to readable cells; a pointer into an own list; nothing known; a map that is shared and whose entries keep a law; a slice over a box; a readable list of readable lists; a pointer to a readable cell that holds a readable list -/
inductive C where
  | v (x : Value)
  | l (sz : Nat) (xs : List Value)
  | o (id : Nat)
  | p (id off : Nat)
  | q (cs : List Value)
  | e (id sz idx off : Nat)
  | any
  | mk (R : Int → Int → Int → Prop)
  | sb (id n cap : Nat)
  | ll (sz : Nat) (xss : List (List Value))
  | ql (sz : Nat) (xs : List Value)
/-- one cell or the cells of a struct -/
inductive V1 where
  | c (x : C)
  | a (xs : List C)
/-- a value or a tuple of values -/
inductive PV where
  | s (x : V1)
  | t (xs : List V1)
/-- an own list: element type, cells an element, elements, may others see it, is it still there -/
structure LO where
  e : TypeId
  sz : Nat
  xs : List Value
  pub : Bool
  live : Bool
structure Hp where
  boxes : List (Nat × List C)
  lists : List (Nat × LO)
structure St where
  n : Nat
  env : List (Nat × PV)
  h : Hp
/-- the ghosts: the world, the cells that are published, the blocks of the boxes, the values of the own lists, the maps that are shared and their laws -/
structure Gh where
  w : World
  V : Nat → Nat → Prop
  bx : Nat → Nat
  ov : Nat → Value
  M : Nat → (List MapEntry → Prop) → Prop

def fnd {α : Type} : List (Nat × α) → Nat → Option α
  | [], _ => none
  | (k, x) :: r, t => if k = t then some x else fnd r t
def upd {α : Type} : List (Nat × α) → Nat → α → List (Nat × α)
  | [], _, _ => []
  | (k, x) :: r, t, y => if k = t then (k, y) :: upd r t y else (k, x) :: upd r t y
def hasKey {α : Type} : List (Nat × α) → Nat → Bool
  | [], _ => false
  | (k, _) :: r, t => if k = t then true else hasKey r t

theorem fnd_mem {α : Type} {l : List (Nat × α)} {t : Nat} {x : α} (h : fnd l t = some x) : (t, x) ∈ l := by
  induction l with
  | nil => simp [fnd] at h
  | cons y r ih =>
    obtain ⟨k, z⟩ := y
    by_cases hk : k = t
    · simp [fnd, hk] at h; subst h; subst hk; simp
    · simp [fnd, hk] at h; exact List.mem_cons_of_mem _ (ih h)
theorem hasKey_of_mem {α : Type} {l : List (Nat × α)} {t : Nat} {x : α} (h : (t, x) ∈ l) : hasKey l t = true := by
  induction l with
  | nil => simp at h
  | cons y r ih =>
    obtain ⟨k, z⟩ := y
    by_cases hk : k = t
    · simp [hasKey, hk]
    · rcases List.mem_cons.1 h with h | h
      · exact absurd (Prod.mk.inj h).1.symm hk
      · simp [hasKey, hk, ih h]
theorem mem_upd {α : Type} {l : List (Nat × α)} {t k : Nat} {x y : α} (h : (k, x) ∈ upd l t y) : (k = t ∧ x = y) ∨ (k ≠ t ∧ (k, x) ∈ l) := by
  induction l with
  | nil => simp [upd] at h
  | cons z r ih =>
    obtain ⟨k', z⟩ := z
    by_cases hk : k' = t
    · simp only [upd, hk, if_true, List.mem_cons, Prod.mk.injEq] at h
      rcases h with h | h
      · exact .inl h
      · exact (ih h).imp id (fun h => ⟨h.1, List.mem_cons_of_mem _ h.2⟩)
    · simp only [upd, hk, if_false, List.mem_cons, Prod.mk.injEq] at h
      rcases h with h | h
      · exact .inr ⟨fun e => hk (h.1 ▸ e), by rw [h.1, h.2]; simp⟩
      · exact (ih h).imp id (fun h => ⟨h.1, List.mem_cons_of_mem _ h.2⟩)
theorem mem_upd_key {α : Type} {l : List (Nat × α)} {t k : Nat} {x y : α} (h : (k, x) ∈ l) : ∃ x', (k, x') ∈ upd l t y := by
  induction l with
  | nil => simp at h
  | cons z r ih =>
    obtain ⟨k', z⟩ := z
    rcases List.mem_cons.1 h with h | h
    · obtain ⟨rfl, rfl⟩ := Prod.mk.inj h
      by_cases hk : k = t
      · exact ⟨y, by simp [upd, hk]⟩
      · exact ⟨x, by simp [upd, hk]⟩
    · obtain ⟨x', h'⟩ := ih h
      exact ⟨x', by simp only [upd]; split <;> exact List.mem_cons_of_mem _ h'⟩
theorem ne_of_noKey {α : Type} {l : List (Nat × α)} {t k : Nat} {x : α} (h : hasKey l t = false) (hm : (k, x) ∈ l) : k ≠ t := by
  rintro rfl
  rw [hasKey_of_mem hm] at h
  cases h

def flat (xs : List Value) : List Value := xs.flatMap fun x => x.cells.toList

/-- these cells stand there and are published -/
def Row (g : Gh) (b off : Nat) (cs : List Value) : Prop := ∀ j (h : j < cs.length), g.w.cell? ⟨b, off + j, none⟩ = some cs[j] ∧ g.V b (off + j)

/-- the entries of a map from pairs of integers to integers keep a law -/
def GR (R : Int → Int → Int → Prop) (es : List MapEntry) : Prop := ∀ e ∈ es, ∃ a b v, e.key = .agg #[.int .i64 a, .int .i64 b] ∧ e.val = .int .i64 v ∧ (-9223372036854775808 ≤ a ∧ a ≤ 9223372036854775807) ∧ (-9223372036854775808 ≤ b ∧ b ≤ 9223372036854775807) ∧ R a b v
/-- a slice that reads as these elements -/
def RepL (g : Gh) (sz : Nat) (xs : List Value) (c : Value) : Prop := ∃ a cap, c = .slice a xs.length cap ∧ xs.length ≤ cap ∧ cap ≤ maxLen ∧ (0 < sz ∧ ∀ u ∈ flat xs, u.oneCell' = true) ∧ (∀ x ∈ xs, x.cells.size = sz) ∧ (a = none → cap = 0) ∧
      ∀ ad, a = some ad → ad.spot = none ∧ Row g ad.block ad.off (flat xs)
def RepC (g : Gh) (h : Hp) : C → Value → Prop
  | .v x, c => c = x
  | .l sz xs, c => ∃ a cap, c = .slice a xs.length cap ∧ xs.length ≤ cap ∧ cap ≤ maxLen ∧ (0 < sz ∧ ∀ u ∈ flat xs, u.oneCell' = true) ∧ (∀ x ∈ xs, x.cells.size = sz) ∧ (a = none → cap = 0) ∧
      ∀ ad, a = some ad → ad.spot = none ∧ Row g ad.block ad.off (flat xs)
  | .o id, c => (∃ lo, (id, lo) ∈ h.lists) ∧ c = g.ov id
  | .p id off, c => (∃ cs, (id, cs) ∈ h.boxes) ∧ c = .pointer (some ⟨g.bx id, off, none⟩)
  | .q cs, c => ∃ b off, c = .pointer (some ⟨b, off, none⟩) ∧ Row g b off cs
  | .e id sz idx off, c => (∃ lo, (id, lo) ∈ h.lists) ∧ ∃ b n cap, g.ov id = .slice (some ⟨b, 0, none⟩) n cap ∧ c = .pointer (some ⟨b, idx * sz + off, none⟩)
  | .any, _ => True
  | .mk R, c => ∃ b, c = .map (some b) ∧ g.M b (GR R)
  | .sb id n cap, c => (∃ cs, (id, cs) ∈ h.boxes) ∧ c = .slice (some ⟨g.bx id, 0, none⟩) n cap
  | .ll sz xss, c => ∃ a cap, c = .slice a xss.length cap ∧ xss.length ≤ cap ∧ cap ≤ maxLen ∧ (a = none → cap = 0) ∧
      ∀ ad, a = some ad → ad.spot = none ∧ ∀ j (hj : j < xss.length), ∃ v, (g.w.cell? ⟨ad.block, ad.off + j, none⟩ = some v ∧ g.V ad.block (ad.off + j)) ∧ RepL g sz xss[j] v
  | .ql sz xs, c => ∃ b off v, c = .pointer (some ⟨b, off, none⟩) ∧ (g.w.cell? ⟨b, off, none⟩ = some v ∧ g.V b off) ∧ RepL g sz xs v

/-- the two lists stand to each other, place by place -/
def All2 {α β : Type} (R : α → β → Prop) : List α → List β → Prop
  | [], [] => True
  | x :: xs, y :: ys => R x y ∧ All2 R xs ys
  | _, _ => False
theorem All2.mono {α β : Type} {R S : α → β → Prop} (h : ∀ x y, R x y → S x y) : ∀ {l : List α} {m : List β}, All2 R l m → All2 S l m
  | [], [], _ => trivial
  | _ :: _, _ :: _, ⟨a, b⟩ => ⟨h _ _ a, All2.mono h b⟩
  | [], _ :: _, h => h.elim
  | _ :: _, [], h => h.elim
theorem All2.length {α β : Type} {R : α → β → Prop} : ∀ {l : List α} {m : List β}, All2 R l m → l.length = m.length
  | [], [], _ => rfl
  | _ :: _, _ :: _, ⟨_, b⟩ => by simp [All2.length b]
  | [], _ :: _, h => h.elim
  | _ :: _, [], h => h.elim
theorem All2.get {α β : Type} {R : α → β → Prop} : ∀ {l : List α} {m : List β}, All2 R l m → ∀ (j : Nat) (x : α), l[j]? = some x → ∃ y, m[j]? = some y ∧ R x y
  | [], [], _, j, x, hx => by simp at hx
  | a :: l, b :: m, ⟨h, hr⟩, 0, x, hx => by simp at hx; subst hx; exact ⟨b, by simp, h⟩
  | a :: l, b :: m, ⟨h, hr⟩, j + 1, x, hx => by
    obtain ⟨y, hy, hR⟩ := All2.get hr j x (by simpa using hx)
    exact ⟨y, by simpa using hy, hR⟩
  | [], _ :: _, h, _, _, _ => h.elim
  | _ :: _, [], h, _, _, _ => h.elim
theorem All2.set {α β : Type} {R : α → β → Prop} : ∀ {l : List α} {m : List β}, All2 R l m → ∀ (j : Nat) (x : α) (y : β), R x y → All2 R (l.set j x) (m.set j y)
  | [], [], _, _, _, _, _ => trivial
  | _ :: _, _ :: _, ⟨_, hr⟩, 0, _, _, h => ⟨h, hr⟩
  | _ :: _, _ :: _, ⟨h0, hr⟩, j + 1, x, y, h => ⟨h0, All2.set hr j x y h⟩
  | [], _ :: _, h, _, _, _, _ => h.elim
  | _ :: _, [], h, _, _, _, _ => h.elim
theorem All2.drop {α β : Type} {R : α → β → Prop} : ∀ {l : List α} {m : List β} (k : Nat), All2 R l m → All2 R (l.drop k) (m.drop k)
  | _, _, 0, h => by simpa using h
  | [], [], _ + 1, _ => by simp [All2]
  | _ :: _, _ :: _, k + 1, ⟨_, hr⟩ => by simpa using All2.drop k hr
  | [], _ :: _, _ + 1, h => h.elim
  | _ :: _, [], _ + 1, h => h.elim
theorem All2.take {α β : Type} {R : α → β → Prop} : ∀ {l : List α} {m : List β} (k : Nat), All2 R l m → All2 R (l.take k) (m.take k)
  | _, _, 0, _ => by simp [All2]
  | [], [], _ + 1, _ => by simp [All2]
  | _ :: _, _ :: _, k + 1, ⟨h, hr⟩ => by simp only [List.take_succ_cons]; exact ⟨h, All2.take k hr⟩
  | [], _ :: _, _ + 1, h => h.elim
  | _ :: _, [], _ + 1, h => h.elim
theorem All2.append {α β : Type} {R : α → β → Prop} : ∀ {l : List α} {m : List β} {l' : List α} {m' : List β}, All2 R l m → All2 R l' m' → All2 R (l ++ l') (m ++ m')
  | [], [], _, _, _, h => h
  | _ :: _, _ :: _, _, _, ⟨h, hr⟩, h' => ⟨h, All2.append hr h'⟩
  | [], _ :: _, _, _, h, _ => h.elim
  | _ :: _, [], _, _, h, _ => h.elim
theorem All2.of_v {g : Gh} {h : Hp} (cs : List Value) : All2 (RepC g h) (cs.map .v) cs := by
  induction cs with
  | nil => trivial
  | cons c r ih => exact ⟨rfl, ih⟩

def RepV1 (g : Gh) (h : Hp) : V1 → Value → Prop
  | .c x, u => RepC g h x u
  | .a xs, u => ∃ cs : Array Value, u = .agg cs ∧ All2 (RepC g h) xs cs.toList
def RepPV (g : Gh) (h : Hp) : PV → Value → Prop
  | .s x, u => RepV1 g h x u
  | .t xs, u => ∃ vs : Array Value, u = .tuple vs ∧ All2 (RepV1 g h) xs vs.toList

/-- what was shown before is shown after -/
structure Ext (g : Gh) (h : Hp) (g' : Gh) (h' : Hp) : Prop where
  vis : ∀ b o, g.V b o → g'.V b o ∧ g'.w.cell? ⟨b, o, none⟩ = g.w.cell? ⟨b, o, none⟩
  box : ∀ id cs, (id, cs) ∈ h.boxes → (∃ cs', (id, cs') ∈ h'.boxes) ∧ g'.bx id = g.bx id
  lst : ∀ id lo, (id, lo) ∈ h.lists → (∃ lo', (id, lo') ∈ h'.lists) ∧ g'.ov id = g.ov id
  mp : ∀ b G, g.M b G → g'.M b G
theorem Ext.refl (g : Gh) (h : Hp) : Ext g h g h := ⟨fun _ _ h => ⟨h, rfl⟩, fun _ cs h => ⟨⟨cs, h⟩, rfl⟩, fun _ lo h => ⟨⟨lo, h⟩, rfl⟩, fun _ _ h => h⟩
theorem Ext.trans {g1 g2 g3 : Gh} {h1 h2 h3 : Hp} (a : Ext g1 h1 g2 h2) (b : Ext g2 h2 g3 h3) : Ext g1 h1 g3 h3 :=
  ⟨fun bb o h => ⟨(b.vis _ _ (a.vis bb o h).1).1, (b.vis _ _ (a.vis bb o h).1).2.trans (a.vis bb o h).2⟩,
   fun id cs h => by
     obtain ⟨⟨cs', h'⟩, e⟩ := a.box id cs h
     exact ⟨(b.box id cs' h').1, (b.box id cs' h').2.trans e⟩,
   fun id cs h => by
     obtain ⟨⟨cs', h'⟩, e⟩ := a.lst id cs h
     exact ⟨(b.lst id cs' h').1, (b.lst id cs' h').2.trans e⟩, fun bb G h => b.mp bb G (a.mp bb G h)⟩
theorem Row.ext {g g' : Gh} {b off : Nat} {cs : List Value} (hv : ∀ b o, g.V b o → g'.V b o ∧ g'.w.cell? ⟨b, o, none⟩ = g.w.cell? ⟨b, o, none⟩) (h : Row g b off cs) : Row g' b off cs :=
  fun j hj => ⟨(hv _ _ (h j hj).2).2.trans (h j hj).1, (hv _ _ (h j hj).2).1⟩
theorem RepL.ext {g g' : Gh} (hv : ∀ b o, g.V b o → g'.V b o ∧ g'.w.cell? ⟨b, o, none⟩ = g.w.cell? ⟨b, o, none⟩) {sz : Nat} {xs : List Value} {c : Value} (h : RepL g sz xs c) : RepL g' sz xs c := by
  obtain ⟨a, cap, h1, h2, h3, h4, h5, h6, h7⟩ := h
  exact ⟨a, cap, h1, h2, h3, h4, h5, h6, fun ad ha => ⟨(h7 ad ha).1, (h7 ad ha).2.ext hv⟩⟩
theorem RepC.ext {g g' : Gh} {h h' : Hp} (he : Ext g h g' h') {x : C} {u : Value} (hr : RepC g h x u) : RepC g' h' x u := by
  cases x with
  | v x => exact hr
  | l sz xs =>
    obtain ⟨a, cap, h1, h2, h3, h4, h5, h6, h7⟩ := hr
    exact ⟨a, cap, h1, h2, h3, h4, h5, h6, fun ad ha => ⟨(h7 ad ha).1, (h7 ad ha).2.ext he.vis⟩⟩
  | o id =>
    obtain ⟨⟨lo, hm⟩, e⟩ := hr
    exact ⟨(he.lst id lo hm).1, e.trans (he.lst id lo hm).2.symm⟩
  | p id off =>
    obtain ⟨⟨lo, hm⟩, e⟩ := hr
    exact ⟨(he.box id lo hm).1, by rw [(he.box id lo hm).2]; exact e⟩
  | q cs =>
    obtain ⟨b, off, h1, h2⟩ := hr
    exact ⟨b, off, h1, h2.ext he.vis⟩
  | e id sz idx off =>
    obtain ⟨⟨lo, hm⟩, b, n, cap, h1, h2⟩ := hr
    exact ⟨(he.lst id lo hm).1, b, n, cap, by rw [(he.lst id lo hm).2]; exact h1, h2⟩
  | any => trivial
  | mk R => obtain ⟨b, h1, h2⟩ := hr; exact ⟨b, h1, he.mp b _ h2⟩
  | sb id n cap =>
    obtain ⟨⟨lo, hm⟩, e⟩ := hr
    exact ⟨(he.box id lo hm).1, by rw [(he.box id lo hm).2]; exact e⟩
  | ll sz xss =>
    obtain ⟨a, cap, h1, h2, h3, h4, h5⟩ := hr
    refine ⟨a, cap, h1, h2, h3, h4, fun ad ha => ⟨(h5 ad ha).1, fun j hj => ?_⟩⟩
    obtain ⟨v, ⟨h6, h7⟩, h8⟩ := (h5 ad ha).2 j hj
    exact ⟨v, ⟨(he.vis _ _ h7).2.trans h6, (he.vis _ _ h7).1⟩, h8.ext he.vis⟩
  | ql sz xs =>
    obtain ⟨b, off, v, h1, ⟨h6, h7⟩, h8⟩ := hr
    exact ⟨b, off, v, h1, ⟨(he.vis _ _ h7).2.trans h6, (he.vis _ _ h7).1⟩, h8.ext he.vis⟩
theorem RepV1.ext {g g' : Gh} {h h' : Hp} (he : Ext g h g' h') {x : V1} {u : Value} (hr : RepV1 g h x u) : RepV1 g' h' x u := by
  cases x with
  | c x => exact RepC.ext he hr
  | a xs => obtain ⟨cs, h1, h2⟩ := hr; exact ⟨cs, h1, h2.mono fun _ _ => RepC.ext he⟩
theorem RepPV.ext {g g' : Gh} {h h' : Hp} (he : Ext g h g' h') {x : PV} {u : Value} (hr : RepPV g h x u) : RepPV g' h' x u := by
  cases x with
  | s x => exact RepV1.ext he hr
  | t xs => obtain ⟨cs, h1, h2⟩ := hr; exact ⟨cs, h1, h2.mono fun _ _ => RepV1.ext he⟩

/-- the block of an own list, if it has one -/
def blk (g : Gh) (id : Nat) : Option Nat := (g.ov id).ownBlock
/-- what comes in: boxes and own lists, by their numbers -/
structure Pk where
  bs : List Nat
  ls : List Nat
/-- the blocks that own lists may lie in: new ones and those of the lists that came in -/
def Mine (g0 : Gh) (pk : Pk) (b : Nat) : Prop := g0.w.heap.size ≤ b ∨ ∃ id ∈ pk.ls, blk g0 id = some b
/-- one own list in its world -/
structure ListOk (M : Nat → Prop) (g : Gh) (id : Nat) (lo : LO) : Prop where
  own : g.w.ownsRow 0 lo.e lo.sz (g.ov id) lo.xs.length (flat lo.xs)
  mine : ∀ b, blk g id = some b → M b
  sz : ∀ x ∈ lo.xs, x.cells.size = lo.sz
  pos : 0 < lo.sz
  one : ∀ u ∈ flat lo.xs, u.oneCell' = true
  vis : ∀ b, blk g id = some b → ∀ o, g.V b o ↔ lo.pub = true ∧ o < (flat lo.xs).length
/-- one box in its world -/
structure BoxOk (g0 : Gh) (pk : Pk) (g : Gh) (h : Hp) (id : Nat) (cs : List C) : Prop where
  own : (id ∉ pk.bs ∧ g0.w.heap.size ≤ g.bx id) ∨ (id ∈ pk.bs ∧ g.bx id = g0.bx id)
  hid : ∀ o, ¬ g.V (g.bx id) o
  cells : ∃ arr ty, g.w.heap[g.bx id]? = some (.cells arr ty (0, 0)) ∧ All2 (RepC g h) cs arr.toList ∧ ∀ u ∈ arr.toList, u.oneCell' = true
/-- a package-level variable: its block, all of it, and that it can be seen -/
structure TabRow (g : Gh) (x : Nat × List Value) : Prop where
  ne : 0 < x.2.length
  blk : ∃ ty fz, g.w.heap[x.1]? = some (.cells x.2.toArray ty fz)
  vis : ∀ o, o < x.2.length → g.V x.1 o
/-- the package-level variables when the call began: none is a box or an own list that came in -/
def Tab0 (g0 : Gh) (pk : Pk) : Prop := ∃ rows, TabP rows ∧ ∀ x ∈ rows, TabRow g0 x ∧ (∀ id ∈ pk.bs, g0.bx id ≠ x.1) ∧ (∀ id ∈ pk.ls, blk g0 id ≠ some x.1) ∧ ∀ G, ¬ g0.M x.1 G
/-- the memory since the call began (ghosts g0; the boxes that came in: pk) -/
structure HeapOk (g0 : Gh) (pk : Pk) (g : Gh) (h : Hp) : Prop where
  os : g.w.os = g0.w.os
  tape : g.w.tape = g0.w.tape
  output : g.w.output = g0.w.output
  size : g0.w.heap.size ≤ g.w.heap.size
  frame : ∀ k, k < g0.w.heap.size → (∀ id ∈ pk.bs, g0.bx id ≠ k) → (∀ id ∈ pk.ls, blk g0 id ≠ some k) → (∀ G, ¬ g0.M k G) → g.w.heap[k]? = g0.w.heap[k]?
  vis : ∀ b o, g0.V b o → g.V b o ∧ g.w.cell? ⟨b, o, none⟩ = g0.w.cell? ⟨b, o, none⟩
  old : ∀ b o, b < g0.w.heap.size → (∀ id ∈ pk.ls, blk g0 id ≠ some b) → g.V b o → g0.V b o
  vin : ∀ b o, g.V b o → b < g.w.heap.size
  pkin : ∀ id ∈ pk.bs, ∃ cs, (id, cs) ∈ h.boxes
  lsin : ∀ id ∈ pk.ls, (∃ lo, (id, lo) ∈ h.lists) ∧ g.ov id = g0.ov id
  boxes : ∀ id cs, (id, cs) ∈ h.boxes → BoxOk g0 pk g h id cs
  lists : ∀ id lo, (id, lo) ∈ h.lists → lo.live = true → ListOk (Mine g0 pk) g id lo
  sepB : ∀ id cs id' cs', (id, cs) ∈ h.boxes → (id', cs') ∈ h.boxes → id ≠ id' → g.bx id ≠ g.bx id'
  sepL : ∀ id lo id' lo', (id, lo) ∈ h.lists → (id', lo') ∈ h.lists → lo.live = true → lo'.live = true → id ≠ id' → ∀ b, blk g id = some b → blk g id' ≠ some b
  sepX : ∀ id lo id' cs, (id, lo) ∈ h.lists → (id', cs) ∈ h.boxes → lo.live = true → blk g id ≠ some (g.bx id')
  tab : Tab0 g0 pk
  maps : ∀ b G, g.M b G → ∃ es ck, g.w.heap[b]? = some (.map es ck) ∧ G es.toList ∧ ∀ G', g.M b G' → G' = G
  mold : ∀ b G, b < g0.w.heap.size → g.M b G → g0.M b G
  mkept : ∀ b G, g0.M b G → g.M b G
theorem BoxOk.lt {g0 : Gh} {pk : Pk} {g : Gh} {h : Hp} {id : Nat} {cs : List C} (hb : BoxOk g0 pk g h id cs) : g.bx id < g.w.heap.size := by
  obtain ⟨arr, ty, h1, _⟩ := hb.cells
  exact (Array.getElem?_eq_some_iff.1 h1).1
theorem ListOk.lt {M : Nat → Prop} {g : Gh} {id : Nat} {lo : LO} (h : ListOk M g id lo) {b : Nat} (hb : blk g id = some b) : M b ∧ b < g.w.heap.size := ⟨h.mine b hb, (h.own.lt b hb).2⟩

theorem TabRow.lt {g : Gh} {x : Nat × List Value} (t : TabRow g x) : x.1 < g.w.heap.size := by
  obtain ⟨ty, fz, h⟩ := t.blk
  exact (Array.getElem?_eq_some_iff.1 h).1
/-- the package-level variables now: none is a box or an own list -/
theorem HeapOk.tabAt {g0 : Gh} {pk : Pk} {g : Gh} {h : Hp} (hk : HeapOk g0 pk g h) : ∃ rows, TabP rows ∧ ∀ x ∈ rows, TabRow g x ∧ (∀ id cs, (id, cs) ∈ h.boxes → g.bx id ≠ x.1) ∧ ∀ id lo, (id, lo) ∈ h.lists → lo.live = true → blk g id ≠ some x.1 := by
  obtain ⟨rows, h1, h2⟩ := hk.tab
  refine ⟨rows, h1, fun x hx => ?_⟩
  obtain ⟨t, hb, hl, hnm⟩ := h2 x hx
  have hlt := t.lt
  obtain ⟨ty, fz, hblk⟩ := t.blk
  refine ⟨⟨t.ne, ⟨ty, fz, by rw [hk.frame x.1 hlt hb hl hnm]; exact hblk⟩, fun o ho => (hk.vis x.1 o (t.vis o ho)).1⟩, fun id cs hm e => ?_, fun id lo hm hlv e => ?_⟩
  · rcases (hk.boxes id cs hm).own with ⟨_, h5⟩ | ⟨h5, h6⟩
    · omega
    · exact hb id h5 (by rw [← h6, e])
  · rcases (hk.lists id lo hm hlv).mine x.1 e with h5 | ⟨id', h5, h6⟩
    · omega
    · exact hl id' h5 h6
theorem TabRow.noMap {g : Gh} {x : Nat × List Value} (t : TabRow g x) (hm : ∀ b G, g.M b G → ∃ es ck, g.w.heap[b]? = some (.map es ck) ∧ G es.toList ∧ ∀ G', g.M b G' → G' = G) (G : List MapEntry → Prop) : ¬ g.M x.1 G := fun hM => by
  obtain ⟨es, ck, h1, _⟩ := hm _ _ hM
  obtain ⟨ty, fz, h2⟩ := t.blk
  rw [h1] at h2
  cases h2
theorem own_keep {w w' : World} {base : Nat} {e : TypeId} {sz n : Nat} {v : Value} {xs : List Value} (h : w.ownsRow base e sz v n xs) (hb : ∀ b, v.ownBlock = some b → w'.heap[b]? = w.heap[b]?) : w'.ownsRow base e sz v n xs := by
  refine ⟨h.1, ?_⟩
  rcases h.2 with hn | ⟨gg, cap, cur, hv, hbs, hg, r⟩
  · exact .inl hn
  · exact .inr ⟨gg, cap, cur, hv, hbs, by rw [hb gg (by simp [hv, Value.ownBlock])]; exact hg, r⟩
theorem cell_map {w : World} {b o : Nat} {es : Array MapEntry} {ck : Nat} (h : w.heap[b]? = some (.map es ck)) : w.cell? ⟨b, o, none⟩ = none := by simp [World.cell?, h]
/-- the heap as it was, but for blocks that are none of ours and hold nothing published, and for maps that are shared; perhaps more published cells in new blocks -/
theorem HeapOk.stepM {g0 : Gh} {pk : Pk} {g : Gh} {h : Hp} (hk : HeapOk g0 pk g h) (w' : World) (V' : Nat → Nat → Prop)
    (hos : w'.os = g.w.os) (htape : w'.tape = g.w.tape) (hout : w'.output = g.w.output) (hsize : g.w.heap.size ≤ w'.heap.size)
    (hheap : ∀ k, k < g.w.heap.size → (∀ G, ¬ g.M k G) → w'.heap[k]? = g.w.heap[k]?) (hmaps : ∀ b G, g.M b G → ∃ es ck, w'.heap[b]? = some (.map es ck) ∧ G es.toList)
    (hV : ∀ b o, g.V b o → V' b o) (hV' : ∀ b o, b < g.w.heap.size → V' b o → g.V b o) (hin : ∀ b o, V' b o → b < w'.heap.size) :
    HeapOk g0 pk { g with w := w', V := V' } h ∧ Ext g h { g with w := w', V := V' } h := by
  have hcell : ∀ b o, b < g.w.heap.size → w'.cell? ⟨b, o, none⟩ = g.w.cell? ⟨b, o, none⟩ := fun b o hb => by
    by_cases hM : ∃ G, g.M b G
    · obtain ⟨G, hM⟩ := hM
      obtain ⟨es, ck, h1, _⟩ := hk.maps b G hM
      obtain ⟨es', ck', h2, _⟩ := hmaps b G hM
      rw [cell_map h1, cell_map h2]
    · exact World.cell?_of_block (hheap b hb fun G hG => hM ⟨G, hG⟩)
  have hbxM : ∀ id cs, (id, cs) ∈ h.boxes → ∀ G, ¬ g.M (g.bx id) G := fun id cs hm G hM => by
    obtain ⟨es, ck, h1, _⟩ := hk.maps _ G hM
    obtain ⟨arr, ty, h2, _⟩ := (hk.boxes id cs hm).cells
    rw [h1] at h2
    cases h2
  have hlsM : ∀ id lo, (id, lo) ∈ h.lists → lo.live = true → ∀ b, blk g id = some b → ∀ G, ¬ g.M b G := fun id lo hm hl b hb G hM => by
    obtain ⟨es, ck, h1, _⟩ := hk.maps _ G hM
    rcases (hk.lists id lo hm hl).own.2 with ⟨hv, _⟩ | ⟨gg, cap, cur, hv, _, hg, _⟩
    · simp [blk, hv, Value.ownBlock] at hb
    · simp [blk, hv, Value.ownBlock] at hb
      subst hb
      rw [h1] at hg
      cases hg
  have hext : Ext g h { g with w := w', V := V' } h :=
    ⟨fun b o hv => ⟨hV _ _ hv, hcell b o (hk.vin b o hv)⟩, fun _ cs hm => ⟨⟨cs, hm⟩, rfl⟩, fun _ lo hm => ⟨⟨lo, hm⟩, rfl⟩, fun _ _ h => h⟩
  refine ⟨⟨hos.trans hk.os, htape.trans hk.tape, hout.trans hk.output, Nat.le_trans hk.size hsize, ?_, ?_, ?_, hin, hk.pkin, hk.lsin, ?_, ?_, hk.sepB, hk.sepL, hk.sepX, hk.tab, fun b G hM => by
    obtain ⟨es, ck, h1, h2⟩ := hmaps b G hM
    obtain ⟨_, _, _, _, h3⟩ := hk.maps b G hM
    exact ⟨es, ck, h1, h2, h3⟩, hk.mold, hk.mkept⟩, hext⟩
  · intro k hlt hne hne2 hnm
    exact (hheap k (Nat.lt_of_lt_of_le hlt hk.size) fun G hG => hnm G (hk.mold k G hlt hG)).trans (hk.frame k hlt hne hne2 hnm)
  · intro b o hv
    have := hk.vis b o hv
    exact ⟨hV _ _ this.1, (hcell b o (hk.vin b o this.1)).trans this.2⟩
  · intro b o hb hn hv
    exact hk.old b o hb hn (hV' b o (Nat.lt_of_lt_of_le hb hk.size) hv)
  · intro id cs hm
    have hb := hk.boxes id cs hm
    have hlt := hb.lt
    obtain ⟨arr, ty, h1, h2, h3⟩ := hb.cells
    exact ⟨hb.own, fun o hv => hb.hid o (hV' _ _ hlt hv), arr, ty, (hheap _ hlt (hbxM id cs hm)).trans h1, h2.mono fun _ _ => RepC.ext hext, h3⟩
  · intro id lo hm hl
    have hb := hk.lists id lo hm hl
    refine ⟨?_, hb.mine, hb.sz, hb.pos, hb.one, fun b hbk o => ?_⟩
    · exact own_keep hb.own fun b hbk => hheap b (hb.lt hbk).2 (hlsM id lo hm hl b hbk)
    · have hlt := (hb.lt hbk).2
      exact ⟨fun hv => (hb.vis b hbk o).1 (hV' _ _ hlt hv), fun hv => hV _ _ ((hb.vis b hbk o).2 hv)⟩
theorem HeapOk.step {g0 : Gh} {pk : Pk} {g : Gh} {h : Hp} (hk : HeapOk g0 pk g h) (w' : World) (V' : Nat → Nat → Prop)
    (hos : w'.os = g.w.os) (htape : w'.tape = g.w.tape) (hout : w'.output = g.w.output) (hsize : g.w.heap.size ≤ w'.heap.size)
    (hheap : ∀ k, k < g.w.heap.size → w'.heap[k]? = g.w.heap[k]?)
    (hV : ∀ b o, g.V b o → V' b o) (hV' : ∀ b o, b < g.w.heap.size → V' b o → g.V b o) (hin : ∀ b o, V' b o → b < w'.heap.size) :
    HeapOk g0 pk { g with w := w', V := V' } h ∧ Ext g h { g with w := w', V := V' } h :=
  hk.stepM w' V' hos htape hout hsize (fun k h _ => hheap k h) (fun b G hM => by
    obtain ⟨es, ck, h1, h2⟩ := hk.maps b G hM
    exact ⟨es, ck, (hheap b (Array.getElem?_eq_some_iff.1 h1).1).trans h1, h2.1⟩) hV hV' hin

end Go.PL
namespace Go.PL
set_option linter.unusedSimpArgs false
set_option linter.unusedVariables false

abbrev vI (n : Int) : PV := .s (.c (.v (.int .i64 n)))
abbrev vB (b : Bool) : PV := .s (.c (.v (.bool b)))
abbrev vV (v : Value) : PV := .s (.c (.v v))
def optK {α : Type} : Option α → (α → Prop) → Prop
  | some x, K => K x
  | none, _ => False
@[simp] theorem optK_some {α : Type} (x : α) (K : α → Prop) : optK (some x) K = K x := rfl
@[simp] theorem optK_none {α : Type} (K : α → Prop) : optK none K = False := rfl
theorem optK_ex {α : Type} {o : Option α} {K : α → Prop} (h : optK o K) : ∃ x, o = some x ∧ K x := by
  cases o with
  | none => exact h.elim
  | some x => exact ⟨x, rfl, h⟩

def inK (k : IntKind) (n : Int) : Prop := k.min ≤ n ∧ n ≤ k.max
theorem inK_i64 (n : Int) : inK .i64 n ↔ -9223372036854775808 ≤ n ∧ n ≤ 9223372036854775807 := by
  simp [inK, IntKind.min, IntKind.max, IntKind.signed, IntKind.bits]
theorem inK_u64 (n : Int) : inK .u64 n ↔ 0 ≤ n ∧ n ≤ 18446744073709551615 := by
  simp [inK, IntKind.min, IntKind.max, IntKind.signed, IntKind.bits]
theorem inK_u8 (n : Int) : inK .u8 n ↔ 0 ≤ n ∧ n ≤ 255 := by
  simp [inK, IntKind.min, IntKind.max, IntKind.signed, IntKind.bits]
theorem inK_i32 (n : Int) : inK .i32 n ↔ -2147483648 ≤ n ∧ n ≤ 2147483647 := by
  simp [inK, IntKind.min, IntKind.max, IntKind.signed, IntKind.bits]
theorem wrap_in {k : IntKind} {n : Int} (h : inK k n) : k.wrap n = n := by
  cases k <;> simp [inK, IntKind.min, IntKind.max, IntKind.signed, IntKind.bits, IntKind.wrap] at h ⊢ <;> omega

/-- the set a without the set b -/
def ndiff (a b : Nat) : Nat := a ^^^ (a &&& b)

theorem bv_of (n : Nat) (a : Int) (h0 : 0 ≤ a) : (BitVec.ofInt n a).toNat = a.toNat % 2 ^ n := by
  obtain ⟨m, rfl⟩ := Int.eq_ofNat_of_zero_le h0
  simp

theorem maxk (k : IntKind) {a : Int} (h : a ≤ k.max) (h0 : 0 ≤ a) : a.toNat < 2 ^ k.bits := by
  cases k <;> simp [IntKind.max, IntKind.signed, IntKind.bits] at h ⊢ <;> omega
theorem inK_of_lt {k : IntKind} {a b : Int} {m : Nat} (ha : a ≤ k.max) (h0 : 0 ≤ a) (hb : b ≤ k.max) (hb0 : 0 ≤ b) (h : m ≤ max a.toNat b.toNat) : inK k m := by
  unfold inK
  refine ⟨?_, ?_⟩
  · cases k <;> simp [IntKind.min, IntKind.signed, IntKind.bits] <;> omega
  · have : (m : Int) ≤ max a b := by omega
    omega

def binI (op : BinOp) (k : IntKind) (a b : Int) (K : Value → Prop) : Prop :=
  match op with
  | .add => inK k (a + b) ∧ K (.int k (a + b))
  | .sub => inK k (a - b) ∧ K (.int k (a - b))
  | .mul => inK k (a * b) ∧ K (.int k (a * b))
  | .quo => (0 ≤ a ∧ 0 < b ∧ a ≤ k.max) ∧ K (.int k (a / b))
  | .rem => (0 ≤ a ∧ 0 < b) ∧ K (.int k (a % b))
  | .and => (0 ≤ a ∧ 0 ≤ b ∧ a ≤ k.max ∧ b ≤ k.max) ∧ K (.int k ((a.toNat &&& b.toNat : Nat) : Int))
  | .or => (0 ≤ a ∧ 0 ≤ b ∧ inK k ((a.toNat ||| b.toNat : Nat) : Int) ∧ a ≤ k.max ∧ b ≤ k.max) ∧ K (.int k ((a.toNat ||| b.toNat : Nat) : Int))
  | .xor => (0 ≤ a ∧ 0 ≤ b ∧ inK k ((a.toNat ^^^ b.toNat : Nat) : Int) ∧ a ≤ k.max ∧ b ≤ k.max) ∧ K (.int k ((a.toNat ^^^ b.toNat : Nat) : Int))
  | .andNot => (0 ≤ a ∧ 0 ≤ b ∧ a ≤ k.max ∧ b ≤ k.max) ∧ K (.int k ((ndiff a.toNat b.toNat : Nat) : Int))
  | .eql => K (.bool (decide (a = b)))
  | .neq => K (.bool (!decide (a = b)))
  | .lss => K (.bool (decide (a < b)))
  | .leq => K (.bool (decide (a ≤ b)))
  | .gtr => K (.bool (decide (b < a)))
  | .geq => K (.bool (decide (b ≤ a)))
  | _ => False
def shI (op : BinOp) (k : IntKind) (a b : Int) (K : Value → Prop) : Prop :=
  match op with
  | .shl => (0 ≤ b ∧ b < 64 ∧ b ≤ k.bits ∧ inK k (a * 2 ^ b.toNat)) ∧ K (.int k (a * 2 ^ b.toNat))
  | .shr => (0 ≤ b ∧ b ≤ k.bits) ∧ K (.int k (a / 2 ^ b.toNat))
  | _ => False

theorem ndiff_bv (n a b : Nat) (ha : a < 2 ^ n) (hb : b < 2 ^ n) : (BitVec.ofNat n a &&& ~~~ (BitVec.ofNat n b)).toNat = ndiff a b := by
  apply Nat.eq_of_testBit_eq
  intro i
  simp only [BitVec.toNat_and, BitVec.toNat_not, BitVec.toNat_ofNat, Nat.mod_eq_of_lt ha, Nat.mod_eq_of_lt hb, ndiff, Nat.testBit_and, Nat.testBit_xor]
  by_cases hi : i < n
  · have : (2 ^ n - 1 - b).testBit i = !b.testBit i := by
      rw [Nat.sub_sub, Nat.add_comm 1 b, Nat.testBit_two_pow_sub_succ hb]; simp [hi]
    rw [this]
    cases a.testBit i <;> cases b.testBit i <;> rfl
  · have : a.testBit i = false := Nat.testBit_lt_two_pow (Nat.lt_of_lt_of_le ha (Nat.pow_le_pow_right (by omega) (by omega)))
    simp [this]

theorem ofInt_nat (n : Nat) (a : Int) (h : 0 ≤ a) : BitVec.ofInt n a = BitVec.ofNat n a.toNat := by
  obtain ⟨m, rfl⟩ := Int.eq_ofNat_of_zero_le h
  simp

theorem ndiff_le (a b : Nat) : ndiff a b ≤ a := by
  apply Nat.le_of_testBit
  intro i h
  simp only [ndiff, Nat.testBit_xor, Nat.testBit_and] at h
  cases ha : a.testBit i <;> simp [ha] at h ⊢

theorem binI_run {P : Program} {op : BinOp} {k : IntKind} {a b : Int} {K : Value → Prop} (h : binI op k a b K) (t : TypeId) :
    ∃ v, K v ∧ (∃ kk n, v = .int kk n ∨ ∃ b, v = .bool b) ∧ ∀ w, (binOp op t (.int k a) (.int k b)).run P w = .ok v w := by
  cases op <;> simp only [binI] at h <;> try exact h.elim
  case add => exact ⟨_, h.2, ⟨_, _, .inl rfl⟩, fun w => by simp [binOp, Op.intArith, wrap_in h.1]⟩
  case sub => exact ⟨_, h.2, ⟨_, _, .inl rfl⟩, fun w => by simp [binOp, Op.intArith, wrap_in h.1]⟩
  case mul => exact ⟨_, h.2, ⟨_, _, .inl rfl⟩, fun w => by simp [binOp, Op.intArith, wrap_in h.1]⟩
  case quo =>
    obtain ⟨⟨h0, h1, h2⟩, h3⟩ := h
    have e : a.tdiv b = a / b := Int.tdiv_eq_ediv_of_nonneg h0
    have hle : a / b ≤ a := Int.ediv_le_self b h0
    have hn : 0 ≤ a / b := Int.ediv_nonneg h0 (by omega)
    have hin : inK k (a / b) := by
      refine ⟨?_, by omega⟩
      have : k.min ≤ 0 := by cases k <;> simp [IntKind.min, IntKind.signed, IntKind.bits]
      omega
    exact ⟨_, h3, ⟨_, _, .inl rfl⟩, fun w => by simp [binOp, Op.intDiv, show b ≠ 0 by omega, e, wrap_in hin]⟩
  case rem =>
    obtain ⟨⟨h0, h1⟩, h3⟩ := h
    have e : a.tmod b = a % b := Int.tmod_eq_emod_of_nonneg h0
    exact ⟨_, h3, ⟨_, _, .inl rfl⟩, fun w => by simp [binOp, Op.intDiv, show b ≠ 0 by omega, e]⟩
  case and =>
    obtain ⟨⟨h0, h1, h2, h3⟩, h4⟩ := h
    have hm : a.toNat &&& b.toNat ≤ a.toNat := Nat.and_le_left
    refine ⟨_, h4, ⟨_, _, .inl rfl⟩, fun w => ?_⟩
    have hw := wrap_in (inK_of_lt (k := k) (m := a.toNat &&& b.toNat) h2 h0 h3 h1 (by omega))
    have e : (BitVec.ofInt k.bits a &&& BitVec.ofInt k.bits b).toNat = a.toNat &&& b.toNat := by
      rw [BitVec.toNat_and, bv_of _ _ h0, bv_of _ _ h1, Nat.mod_eq_of_lt (maxk k h2 h0), Nat.mod_eq_of_lt (maxk k h3 h1)]
    simp only [binOp, Op.intBits, e, hw]
    simp
  case or =>
    obtain ⟨⟨h0, h1, hin, h2, h3⟩, h4⟩ := h
    refine ⟨_, h4, ⟨_, _, .inl rfl⟩, fun w => ?_⟩
    have e : (BitVec.ofInt k.bits a ||| BitVec.ofInt k.bits b).toNat = a.toNat ||| b.toNat := by
      rw [BitVec.toNat_or, bv_of _ _ h0, bv_of _ _ h1, Nat.mod_eq_of_lt (maxk k h2 h0), Nat.mod_eq_of_lt (maxk k h3 h1)]
    simp only [binOp, Op.intBits, e, wrap_in hin]
    simp
  case xor =>
    obtain ⟨⟨h0, h1, hin, h2, h3⟩, h4⟩ := h
    refine ⟨_, h4, ⟨_, _, .inl rfl⟩, fun w => ?_⟩
    have e : (BitVec.ofInt k.bits a ^^^ BitVec.ofInt k.bits b).toNat = a.toNat ^^^ b.toNat := by
      rw [BitVec.toNat_xor, bv_of _ _ h0, bv_of _ _ h1, Nat.mod_eq_of_lt (maxk k h2 h0), Nat.mod_eq_of_lt (maxk k h3 h1)]
    simp only [binOp, Op.intBits, e, wrap_in hin]
    simp
  case andNot =>
    obtain ⟨⟨h0, h1, h2, h3⟩, h4⟩ := h
    refine ⟨_, h4, ⟨_, _, .inl rfl⟩, fun w => ?_⟩
    have hm := ndiff_le a.toNat b.toNat
    have hw := wrap_in (inK_of_lt (k := k) (m := ndiff a.toNat b.toNat) h2 h0 h3 h1 (by omega))
    have e : (BitVec.ofInt k.bits a &&& ~~~ (BitVec.ofInt k.bits b)).toNat = ndiff a.toNat b.toNat := by
      rw [ofInt_nat _ _ h0, ofInt_nat _ _ h1, ndiff_bv _ _ _ (maxk k h2 h0) (maxk k h3 h1)]
    simp only [binOp, Op.intBits, e, hw]
    simp
  case eql => exact ⟨_, h, ⟨k, 0, .inr ⟨_, rfl⟩⟩, fun w => by simp [binOp, Op.intCmp]; rfl⟩
  case neq => exact ⟨_, h, ⟨k, 0, .inr ⟨_, rfl⟩⟩, fun w => by simp [binOp, Op.intCmp]; rfl⟩
  case lss => exact ⟨_, h, ⟨k, 0, .inr ⟨_, rfl⟩⟩, fun w => by simp [binOp, Op.intCmp]⟩
  case leq => exact ⟨_, h, ⟨k, 0, .inr ⟨_, rfl⟩⟩, fun w => by simp [binOp, Op.intCmp]⟩
  case gtr => exact ⟨_, h, ⟨k, 0, .inr ⟨_, rfl⟩⟩, fun w => by simp [binOp, Op.intCmp]⟩
  case geq => exact ⟨_, h, ⟨k, 0, .inr ⟨_, rfl⟩⟩, fun w => by simp [binOp, Op.intCmp]⟩

theorem shI_run {P : Program} {op : BinOp} {k k' : IntKind} {a b : Int} {K : Value → Prop} (h : shI op k a b K) (t : TypeId) :
    ∃ v, K v ∧ ∀ w, (binOp op t (.int k a) (.int k' b)).run P w = .ok v w := by
  cases op <;> simp only [shI] at h <;> try exact h.elim
  case shl =>
    obtain ⟨⟨h0, h1, h2, h3⟩, h4⟩ := h
    refine ⟨_, h4, fun w => ?_⟩
    have : min b.toNat k.bits = b.toNat := by omega
    simp [binOp, Op.shift, show ¬ b < 0 by omega, this, wrap_in h3]
  case shr =>
    obtain ⟨⟨h0, h1⟩, h4⟩ := h
    refine ⟨_, h4, fun w => ?_⟩
    have : min b.toNat k.bits = b.toNat := by omega
    have hp : (0 : Int) ≤ 2 ^ b.toNat := by exact Int.le_of_lt (Int.pow_pos (by omega))
    simp [binOp, Op.shift, show ¬ b < 0 by omega, this, Int.fdiv_eq_ediv_of_nonneg _ hp]

def exactC : C → Option Value
  | .v x => some x
  | _ => none
def exactCs : List C → Option (List Value)
  | [] => some []
  | x :: xs => match exactC x, exactCs xs with
    | some u, some us => some (u :: us)
    | _, _ => none
def exactV1 : V1 → Option Value
  | .c x => exactC x
  | .a xs => (exactCs xs).map fun us => .agg us.toArray
theorem exactC_rep {g : Gh} {h : Hp} {x : C} {u c : Value} (he : exactC x = some u) (hr : RepC g h x c) : c = u := by
  cases x <;> simp [exactC] at he
  subst he; exact hr
theorem exactCs_rep {g : Gh} {h : Hp} : ∀ {xs : List C} {us cs : List Value}, exactCs xs = some us → All2 (RepC g h) xs cs → cs = us
  | [], us, [], he, _ => by simp [exactCs] at he; exact he.symm
  | x :: xs, us, c :: cs, he, ⟨h1, h2⟩ => by
    simp only [exactCs] at he
    cases hx : exactC x with
    | none => simp [hx] at he
    | some u =>
      cases hxs : exactCs xs with
      | none => simp [hx, hxs] at he
      | some us' =>
        simp [hx, hxs] at he
        rw [← he, exactC_rep hx h1, exactCs_rep hxs h2]
  | [], _, _ :: _, _, h => h.elim
  | _ :: _, _, [], _, h => h.elim
theorem exactV1_rep {g : Gh} {h : Hp} {x : V1} {u c : Value} (he : exactV1 x = some u) (hr : RepV1 g h x c) : c = u := by
  cases x with
  | c x => exact exactC_rep he hr
  | a xs =>
    obtain ⟨cs, rfl, h2⟩ := hr
    simp only [exactV1] at he
    cases hx : exactCs xs with
    | none => simp [hx] at he
    | some us => simp [hx] at he; rw [← he, ← exactCs_rep hx h2]

/-- an operation on exact values that the model carries out without looking at the world -/
def PureB (P : Program) (op : BinOp) (t : TypeId) (x y : V1) (K : Value → Prop) : Prop :=
  ∃ vx vy v, exactV1 x = some vx ∧ exactV1 y = some vy ∧ (∀ xo yo w, (do eqGuard op t xo yo vx vy; binOp op t vx vy).run P w = .ok v w) ∧ K v
def strI (op : BinOp) (a b : ByteArray) (K : Value → Prop) : Prop :=
  match op with
  | .add => a.size + b.size ≤ 9223372036854775807 ∧ K (.string (a ++ b))
  | .eql => K (.bool (a.toList == b.toList))
  | .neq => K (.bool (!(a.toList == b.toList)))
  | _ => False
def boolI (op : BinOp) (a b : Bool) (K : Value → Prop) : Prop :=
  match op with
  | .eql => K (.bool (a == b))
  | .neq => K (.bool (!(a == b)))
  | _ => False
def isShift : BinOp → Bool
  | .shl | .shr => true
  | _ => false
def binC (P : Program) (op : BinOp) (t : TypeId) : C → C → (Value → Prop) → Prop
  | .v (.int k a), .v (.int k' b), K => if isShift op = true then shI op k a b K else k = k' ∧ binI op k a b K
  | .v (.bool a), .v (.bool b), K => P.underlying t = some .bool ∧ boolI op a b K
  | .v (.string a), .v (.string b), K => strI op a b K
  | x, y, K => PureB P op t (.c x) (.c y) K
def binV (P : Program) (op : BinOp) (t : TypeId) : V1 → V1 → (Value → Prop) → Prop
  | .c x, .c y, K => binC P op t x y K
  | x, y, K => PureB P op t x y K
theorem eqGuard_int (P : Program) (op : BinOp) (t : TypeId) (xo yo : Operand) (k k' : IntKind) (a b : Int) (w : World) : (eqGuard op t xo yo (.int k a) (.int k' b)).run P w = .ok () w := by
  cases op <;> simp [eqGuard]
theorem eqGuard_bool (P : Program) (op : BinOp) (t : TypeId) (xo yo : Operand) (a b : Bool) (w : World) : (eqGuard op t xo yo (.bool a) (.bool b)).run P w = .ok () w := by
  cases op <;> simp [eqGuard]
theorem eqGuard_str (P : Program) (op : BinOp) (t : TypeId) (xo yo : Operand) (a b : ByteArray) (w : World) : (eqGuard op t xo yo (.string a) (.string b)).run P w = .ok () w := by
  cases op <;> simp [eqGuard]

theorem binPure_sound {P : Program} {op : BinOp} {t : TypeId} {x y : V1} {K : Value → Prop} (h : PureB P op t x y K) :
    ∃ v, K v ∧ ∀ g hp a b xo yo, RepV1 g hp x a → RepV1 g hp y b → (do eqGuard op t xo yo a b; binOp op t a b).run P g.w = .ok v g.w := by
  obtain ⟨vx, vy, v, h1, h2, h3, h4⟩ := h
  refine ⟨v, h4, fun g hp a b xo yo ha hb => ?_⟩
  rw [exactV1_rep h1 ha, exactV1_rep h2 hb]
  exact h3 xo yo g.w

theorem binV_sound {P : Program} {op : BinOp} {t : TypeId} {x y : V1} {K : Value → Prop} (h : binV P op t x y K) :
    ∃ v, K v ∧ ∀ g hp a b xo yo, RepV1 g hp x a → RepV1 g hp y b → (do eqGuard op t xo yo a b; binOp op t a b).run P g.w = .ok v g.w := by
  unfold binV at h
  split at h
  · rename_i x y K
    unfold binC at h
    split at h
    · rename_i K k a k' b
      split at h
      · obtain ⟨v, h1, h2⟩ := shI_run (P := P) (k' := k') h t
        refine ⟨v, h1, fun g hp a b xo yo ha hb => ?_⟩
        simp only [RepV1, RepC] at ha hb
        subst ha hb
        simp [eqGuard_int, h2]
      · obtain ⟨rfl, h⟩ := h
        obtain ⟨v, h1, _, h2⟩ := binI_run (P := P) h t
        refine ⟨v, h1, fun g hp a b xo yo ha hb => ?_⟩
        simp only [RepV1, RepC] at ha hb
        subst ha hb
        simp [eqGuard_int, h2]
    · rename_i K a b
      obtain ⟨hu, h⟩ := h
      have heq : ∀ w, (Op.equal t (.bool a) (.bool b)).run P w = .ok (a == b) w := fun w => by
        have h1 : ∀ d, (Op.equalIn (d + 1) t (.bool a) (.bool b)).run P w = .ok (a == b) w := fun d => by
          simp only [Op.equalIn, Sem.run_bind, run_underlying hu, Result.andThen_ok, Sem.run_pure]
        exact h1 9999
      cases op <;> simp only [boolI] at h <;> try exact h.elim
      all_goals
        refine ⟨_, h, fun g hp a b xo yo ha hb => ?_⟩
        simp only [RepV1, RepC] at ha hb
        subst ha hb
        simp [eqGuard_bool, binOp, heq]
    · rename_i K a b
      cases op <;> simp only [strI] at h <;> try exact h.elim
      case add =>
        obtain ⟨h0, h⟩ := h
        refine ⟨_, h, fun g hp a b xo yo ha hb => ?_⟩
        simp only [RepV1, RepC] at ha hb
        subst ha hb
        have : ¬ (9223372036854775807 < ((a.size : Int) + (b.size : Int))) := by omega
        simp [eqGuard_str, binOp, Op.stringOp, IntKind.max, IntKind.signed, IntKind.bits, this]
      all_goals
        refine ⟨_, h, fun g hp a b xo yo ha hb => ?_⟩
        simp only [RepV1, RepC] at ha hb
        subst ha hb
        simp [eqGuard_str, binOp, Op.stringOp]
    · exact binPure_sound h
  · exact binPure_sound h

end Go.PL
namespace Go.PL
set_option linter.unusedSimpArgs false
set_option linter.unusedVariables false

def aggN (P : Program) (t : TypeId) : Option (Option Nat) :=
  match P.underlying t, P.info? t with
  | some d, some i => some (match d with | .struct _ => some i.size | .array _ _ => some i.size | _ => none)
  | _, _ => none
def fOff (P : Program) (t : TypeId) (f : Nat) : Option (Nat × Nat) :=
  match P.underlying t with
  | some (.struct fs) => match fs[f]? with
    | some fd => (P.info? fd.type).map fun i => (fd.offset, i.size)
    | none => none
  | _ => none
def fPart (P : Program) (t : TypeId) (f : Nat) : Option (Nat × Option Nat) :=
  match P.underlying t with
  | some (.struct fs) => match fs[f]? with
    | some fd => (aggN P fd.type).map fun n => (fd.offset, n)
    | none => none
  | _ => none
def eSz (P : Program) (t : TypeId) : Option (TypeId × Nat) :=
  match P.underlying t with
  | some (.slice e) => (P.info? e).map fun i => (e, i.size)
  | _ => none

/-! ### loads -/
def loadC (n : Option Nat) (cs : List C) (off : Nat) (K : PV → Prop) : Prop :=
  match n with
  | none => optK cs[off]? fun c => K (.s (.c c))
  | some n => off + n ≤ cs.length ∧ K (.s (.a ((cs.drop off).take n)))

def Cells (g : Gh) (h : Hp) (b o : Nat) (cs : List C) : Prop := ∀ j c, cs[j]? = some c → ∃ u, g.w.cell? ⟨b, o + j, none⟩ = some u ∧ RepC g h c u
theorem Cells.tail {g : Gh} {h : Hp} {b o : Nat} {c : C} {cs : List C} (hc : Cells g h b o (c :: cs)) : Cells g h b (o + 1) cs := fun j x hx => by
  obtain ⟨u, h1, h2⟩ := hc (j + 1) x (by simpa using hx)
  exact ⟨u, by rw [Nat.add_assoc, Nat.add_comm 1 j]; exact h1, h2⟩
theorem Cells.drop {g : Gh} {h : Hp} {b o : Nat} {cs : List C} (hc : Cells g h b o cs) (k : Nat) : Cells g h b (o + k) (cs.drop k) := fun j x hx => by
  obtain ⟨u, h1, h2⟩ := hc (k + j) x (by simpa using hx)
  exact ⟨u, by rw [Nat.add_assoc]; exact h1, h2⟩
theorem Cells.take {g : Gh} {h : Hp} {b o : Nat} {cs : List C} (hc : Cells g h b o cs) (k : Nat) : Cells g h b o (cs.take k) := fun j x hx => by
  refine hc j x ?_
  rw [List.getElem?_take] at hx
  split at hx
  · exact hx
  · cases hx
theorem Cells.list {g : Gh} {h : Hp} {b : Nat} : ∀ {cs : List C} {o : Nat}, Cells g h b o cs → ∃ us : List Value, All2 (RepC g h) cs us ∧ ∀ j u, us[j]? = some u → g.w.cell? ⟨b, o + j, none⟩ = some u
  | [], _, _ => ⟨[], trivial, fun j u hu => by simp at hu⟩
  | c :: cs, o, hc => by
    obtain ⟨us, h1, h2⟩ := Cells.list hc.tail
    obtain ⟨u, h3, h4⟩ := hc 0 c (by simp)
    refine ⟨u :: us, ⟨h4, h1⟩, fun j x hx => ?_⟩
    cases j with
    | zero => simp at hx; subst hx; simpa using h3
    | succ j =>
      have := h2 j x (by simpa using hx)
      rw [Nat.add_assoc, Nat.add_comm 1 j] at this
      exact this

theorem run_isAgg {P : Program} {t : TypeId} {n : Option Nat} (h : aggN P t = some n) (w : World) :
    (isAgg t).run P w = .ok n.isSome w ∧ ∀ m, n = some m → (sizeOf t).run P w = .ok m w := by
  unfold aggN at h
  split at h
  · rename_i d i hd hi
    simp only [Option.some.injEq] at h
    refine ⟨?_, fun m hm => ?_⟩
    · cases d <;> simp at h <;> subst h <;> simp [isAgg, run_underlying hd]
    · have : i.size = m := by cases d <;> simp at h <;> simp_all
      simp [sizeOf, typeInfo, hi, this]
  · cases h

theorem loadC_sound {P : Program} {t : TypeId} {n : Option Nat} {cs : List C} {off : Nat} {K : PV → Prop} (hn : aggN P t = some n) (h : loadC n cs off K) :
    ∃ pv, K pv ∧ ∀ g hp b o, Cells g hp b o cs → ∃ v, (loadVar t ⟨b, o + off, none⟩).run P g.w = .ok v g.w ∧ RepPV g hp pv v := by
  cases n with
  | none =>
    obtain ⟨c, hc, hK⟩ := optK_ex h
    refine ⟨_, hK, fun g hp b o hcs => ?_⟩
    obtain ⟨u, h1, h2⟩ := hcs off c hc
    exact ⟨u, by simp [loadVar, (run_isAgg hn g.w).1, h1], h2⟩
  | some n =>
    obtain ⟨hle, hK⟩ := h
    refine ⟨_, hK, fun g hp b o hcs => ?_⟩
    obtain ⟨us, h1, h2⟩ := ((hcs.drop off).take n).list
    have hl : us.length = n := by rw [← h1.length]; simp; omega
    have hr := run_loadCells_list (P := P) g.w ⟨b, o + off, none⟩ us (fun j u hu => by rw [Addr.add_lit]; exact h2 j u hu)
    rw [hl] at hr
    exact ⟨.agg us.toArray, by simp [loadVar, (run_isAgg hn g.w).1, (run_isAgg hn g.w).2 n rfl, hr], us.toArray, rfl, by simpa using h1⟩

theorem flat_drop {sz : Nat} : ∀ {xs : List Value}, (∀ x ∈ xs, x.cells.size = sz) → ∀ k, (flat xs).drop (k * sz) = flat (xs.drop k)
  | [], _, k => by simp [flat]
  | x :: xs, h, 0 => by simp
  | x :: xs, h, k + 1 => by
    have hx : x.cells.toList.length = sz := by simpa using h x (by simp)
    have : flat (x :: xs) = x.cells.toList ++ flat xs := by simp [flat]
    rw [this, Nat.add_mul, Nat.one_mul, Nat.add_comm, List.drop_append]
    simp only [hx]
    rw [List.drop_of_length_le (by omega)]
    have e : sz + k * sz - sz = k * sz := by omega
    rw [e, List.nil_append, flat_drop (fun y hy => h y (by simp [hy])) k]
    simp
theorem flat_len {sz : Nat} : ∀ {xs : List Value}, (∀ x ∈ xs, x.cells.size = sz) → (flat xs).length = xs.length * sz
  | [], _ => by simp [flat]
  | x :: xs, h => by
    have hx : x.cells.toList.length = sz := by simpa using h x (by simp)
    have : flat (x :: xs) = x.cells.toList ++ flat xs := by simp [flat]
    rw [this, List.length_append, hx, flat_len (fun y hy => h y (by simp [hy])), List.length_cons, Nat.add_mul, Nat.one_mul, Nat.add_comm]
theorem flat_take {sz : Nat} : ∀ {xs : List Value}, (∀ x ∈ xs, x.cells.size = sz) → ∀ k, (flat xs).take (k * sz) = flat (xs.take k)
  | [], _, k => by simp [flat]
  | x :: xs, h, 0 => by simp [flat]
  | x :: xs, h, k + 1 => by
    have hx : x.cells.toList.length = sz := by simpa using h x (by simp)
    have h1 : flat (x :: xs) = x.cells.toList ++ flat xs := by simp [flat]
    have h2 : flat (x :: xs.take k) = x.cells.toList ++ flat (xs.take k) := by simp [flat]
    rw [List.take_succ_cons, h1, h2, Nat.add_mul, Nat.one_mul, Nat.add_comm, List.take_append]
    simp only [hx]
    rw [List.take_of_length_le (by omega)]
    have e : sz + k * sz - sz = k * sz := by omega
    rw [e, flat_take (fun y hy => h y (by simp [hy])) k]
theorem flat_get {sz : Nat} {xs : List Value} (h : ∀ x ∈ xs, x.cells.size = sz) {k : Nat} {x : Value} (hk : xs[k]? = some x) :
    (flat xs).drop (k * sz) = x.cells.toList ++ flat (xs.drop (k + 1)) := by
  rw [flat_drop h]
  have hlt : k < xs.length := (List.getElem?_eq_some_iff.1 hk).1
  have hx : xs[k] = x := (List.getElem?_eq_some_iff.1 hk).2
  rw [List.drop_eq_getElem_cons hlt, hx]
  simp [flat]

theorem Row.drop {g : Gh} {b off : Nat} {cs : List Value} (h : Row g b off cs) (k : Nat) : Row g b (off + k) (cs.drop k) := fun j hj => by
  have hj' : k + j < cs.length := by simp at hj; omega
  have := h (k + j) hj'
  rw [← Nat.add_assoc] at this
  simpa using this
theorem Row.take {g : Gh} {b off : Nat} {cs : List Value} (h : Row g b off cs) (k : Nat) : Row g b off (cs.take k) := fun j hj => by
  have hj' : j < cs.length := by simp at hj; omega
  simpa using h j hj'
theorem Row.left {g : Gh} {b off : Nat} {cs ds : List Value} (h : Row g b off (cs ++ ds)) : Row g b off cs := by
  have := h.take cs.length
  simpa using this
theorem Row.cells {g : Gh} {h : Hp} {b off : Nat} {cs : List Value} (hr : Row g b off cs) : Cells g h b off (cs.map .v) := fun j c hc => by
  rw [List.getElem?_map] at hc
  cases hx : cs[j]? with
  | none => simp [hx] at hc
  | some u =>
    simp [hx] at hc
    subst hc
    obtain ⟨hj, e⟩ := List.getElem?_eq_some_iff.1 hx
    exact ⟨u, by rw [(hr j hj).1, e], rfl⟩

theorem box_cells {g0 : Gh} {pk : Pk} {g : Gh} {h : Hp} (hk : HeapOk g0 pk g h) {id : Nat} {cs : List C} (hm : (id, cs) ∈ h.boxes) : Cells g h (g.bx id) 0 cs := fun j c hc => by
  obtain ⟨arr, ty, h1, h2, _⟩ := (hk.boxes id cs hm).cells
  obtain ⟨u, hu, hR⟩ := h2.get j c hc
  exact ⟨u, by rw [Nat.zero_add, cell_of_row _ _ _ _ _ _ h1]; simpa using hu, hR⟩
theorem list_cells {g0 : Gh} {pk : Pk} {g : Gh} {h : Hp} (hk : HeapOk g0 pk g h) {id : Nat} {lo : LO} (hm : (id, lo) ∈ h.lists) (hl : lo.live = true)
    {b n cap : Nat} (hb : g.ov id = .slice (some ⟨b, 0, none⟩) n cap) {idx : Nat} {x : Value} (hx : lo.xs[idx]? = some x) : Cells g h b (idx * lo.sz) (x.cells.toList.map .v) := fun j c hc => by
  have hL := hk.lists id lo hm hl
  rw [List.getElem?_map] at hc
  cases hu : x.cells.toList[j]? with
  | none => simp [hu] at hc
  | some u =>
    simp [hu] at hc
    subst hc
    refine ⟨u, ?_, rfl⟩
    have h1 := flat_get hL.sz hx
    have h2 : (flat lo.xs)[idx * lo.sz + j]? = some u := by
      rw [← List.getElem?_drop, h1, List.getElem?_append_left (List.getElem?_eq_some_iff.1 hu).1]
      exact hu
    have := hL.own.cells (g := b) (by rw [hb]; rfl) _ u h2
    rwa [Addr.add_lit, Nat.zero_add] at this

/-! ### one operation -/
def v1K : PV → (V1 → Prop) → Prop
  | .s x, K => K x
  | _, _ => False
def c1K : PV → (C → Prop) → Prop
  | .s (.c x), K => K x
  | _, _ => False
theorem v1K_ex {x : PV} {K : V1 → Prop} (h : v1K x K) : ∃ y, x = .s y ∧ K y := by
  cases x with
  | s y => exact ⟨y, rfl, h⟩
  | t _ => exact h.elim
theorem c1K_ex {x : PV} {K : C → Prop} (h : c1K x K) : ∃ y, x = .s (.c y) ∧ K y := by
  cases x with
  | s y => cases y with
    | c y => exact ⟨y, rfl, h⟩
    | a _ => exact h.elim
  | t _ => exact h.elim

def pickK : C → Prop → Prop → Prop
  | .v (.bool t), a, b => (t = true → a) ∧ (t = false → b)
  | _, _, _ => False
def unC (op : UnOp) : C → (PV → Prop) → Prop
  | .v (.bool b), K => op = .not ∧ K (vB !b)
  | .v (.int k n), K => op = .neg ∧ inK k (-n) ∧ K (vV (.int k (-n)))
  | _, _ => False
def bytesL (xs : List Value) : Option (List Int) := xs.mapM fun | .int .u8 n => some n | _ => none
def strOf (ns : List Int) : ByteArray := ns.foldl (fun r n => r.push (UInt8.ofNat n.toNat)) ByteArray.empty
def convD (P : Program) (h : Hp) : Option TypeDesc → Option TypeDesc → C → (PV → Prop) → Prop
  | some _, some (.int k), .v (.int _ n), K => inK k n ∧ K (vV (.int k n))
  | some _, some .string, .v (.int _ n), K => K (vV (.string (Utf8.encode n)))
  | some (.slice e), some .string, .l _ xs, K => P.underlying e = some (.int .u8) ∧ optK (bytesL xs) fun ns => K (vV (.string (strOf ns)))
  | some (.slice e), some .string, .o id, K => P.underlying e = some (.int .u8) ∧ optK (fnd h.lists id) fun lo => lo.live = true ∧ optK (bytesL lo.xs) fun ns => K (vV (.string (strOf ns)))
  | _, _, _, _ => False
def loadP (h : Hp) (n : Option Nat) : C → (PV → Prop) → Prop
  | .p id off, K => optK (fnd h.boxes id) fun cs => loadC n cs off K
  | .q cs, K => loadC n (cs.map .v) 0 K
  | .e id sz idx off, K => optK (fnd h.lists id) fun lo => (lo.live = true ∧ lo.sz = sz) ∧ optK lo.xs[idx]? fun x => loadC n (x.cells.toList.map .v) off K
  | .ql sz xs, K => n = none ∧ K (.s (.c (.l sz xs)))
  | _, _ => False
def fieldP (fo : Nat × Nat) : C → (PV → Prop) → Prop
  | .p id off, K => fo.2 ≠ 0 ∧ K (.s (.c (.p id (off + fo.1))))
  | .q cs, K => fo.2 ≠ 0 ∧ K (.s (.c (.q (cs.drop fo.1))))
  | .e id sz idx off, K => fo.2 ≠ 0 ∧ K (.s (.c (.e id sz idx (off + fo.1))))
  | _, _ => False
def fieldV (fp : Nat × Option Nat) : V1 → (PV → Prop) → Prop
  | .a cs, K => loadC fp.2 cs fp.1 K
  | _, _ => False
def indexP (h : Hp) (es : Nat) : C → C → (PV → Prop) → Prop
  | .l sz xs, .v (.int _ n), K => sz = es ∧ 0 ≤ n ∧ optK xs[n.toNat]? fun x => K (.s (.c (.q x.cells.toList)))
  | .o id, .v (.int _ n), K => optK (fnd h.lists id) fun lo => (lo.live = true ∧ lo.sz = es) ∧ 0 ≤ n ∧ optK lo.xs[n.toNat]? fun _ => K (.s (.c (.e id es n.toNat 0)))
  | .sb id m _, .v (.int _ n), K => es = 1 ∧ 0 ≤ n ∧ n < (m : Int) ∧ K (.s (.c (.p id n.toNat)))
  | .ll sz xss, .v (.int _ n), K => es = 1 ∧ 0 ≤ n ∧ optK xss[n.toNat]? fun xs => K (.s (.c (.ql sz xs)))
  | _, _, _ => False
def indexS : C → C → (PV → Prop) → Prop
  | .v (.string s), .v (.int _ n), K => 0 ≤ n ∧ optK s[n.toNat]? fun b => K (vV (.int .u8 b.toNat))
  | _, _, _ => False
def lenC (h : Hp) : C → Option Nat
  | .l _ xs => some xs.length
  | .o id => match fnd h.lists id with
    | some lo => if lo.live = true then some lo.xs.length else none
    | none => none
  | .v (.slice none 0 0) => some 0
  | .sb _ n _ => some n
  | .ll _ xss => some xss.length
  | _ => none
def lenK (h : Hp) (d : Option TypeDesc) (x : C) (K : PV → Prop) : Prop :=
  match d, x with
  | some .string, .v (.string s) => K (vI s.size)
  | some (.slice _), x => optK (lenC h x) fun n => K (vI n)
  | _, _ => False
/-- the bounds of a slice expression: nothing written: 0, the length -/
def loK : Option PV → (Nat → Prop) → Prop
  | none, K => K 0
  | some (.s (.c (.v (.int _ n)))), K => 0 ≤ n ∧ K n.toNat
  | _, _ => False
def hiK (len : Nat) : Option PV → (Nat → Prop) → Prop
  | none, K => K len
  | some (.s (.c (.v (.int _ n)))), K => 0 ≤ n ∧ n ≤ len ∧ K n.toNat
  | _, _ => False
def sliceD (h : Hp) (es : Option (TypeId × Nat)) : Option TypeDesc → C → Option PV → Option PV → (PV → Prop) → Prop
  | some .string, .v (.string s), lo, hi, K => hiK s.size hi fun b => loK lo fun a => a ≤ b ∧ K (vV (.string (s.extract a b)))
  | some (.slice _), .l sz xs, lo, hi, K => es.map (·.2) = some sz ∧ hiK xs.length hi fun b => loK lo fun a => a ≤ b ∧ K (.s (.c (.l sz ((xs.take b).drop a))))
  | _, _, _, _, _ => False
def nilK : C → (PV → Prop) → Prop
  | .p id off, K => K (.s (.c (.p id off)))
  | .q cs, K => K (.s (.c (.q cs)))
  | _, _ => False
def isCell : C → Bool
  | .v u => u.oneCell'
  | .any => false
  | _ => true
def cells1 : V1 → Option (List C)
  | .c x => if isCell x = true then some [x] else none
  | .a xs => if xs.all isCell = true then some xs else none
def setAll : List C → Nat → List C → List C
  | cs, _, [] => cs
  | cs, off, v :: vs => setAll (cs.set off v) (off + 1) vs
def fillA (places : List (Nat × Nat)) : List C → List (Nat × Option (List C)) → Option (List C)
  | cells, [] => some cells
  | cells, (i, some vs) :: rest => match places[i]? with
    | some (off, size) => if vs.length = size ∧ off + vs.length ≤ cells.length then fillA places (setAll cells off vs) rest else none
    | none => none
  | _, (_, none) :: _ => none
/-- a struct's zero cells, and each field's place -/
def structP (P : Program) (t : TypeId) : Option (List Value × List (Nat × Nat)) :=
  match P.info? t, P.underlying t with
  | some it, some (.struct fields) => match it.zero, fields.toList.mapM (fun f => (P.info? f.type).map fun i => (f.offset, i.size)) with
    | some z, some places => some (z.cells.toList, places)
    | _, _ => none
  | some it, some (.array n e) => match it.zero, P.info? e with
    | some z, some i => some (z.cells.toList, (List.range n).map fun k => (k * i.size, i.size))
    | _, _ => none
  | _, _ => none
def partsOf (ρ : Operand → PV) : List (Nat × Operand) → List (Nat × Option (List C))
  | [] => []
  | (i, x) :: r => (i, match ρ x with | .s y => cells1 y | _ => none) :: partsOf ρ r

def noDup {α : Type} : List (Nat × α) → Prop
  | [] => True
  | (k, _) :: r => hasKey r k = false ∧ noDup r
/-- the own lists' values are slices -/
def OvOk (g : Gh) (h : Hp) : Prop := ∀ id lo, (id, lo) ∈ h.lists → (g.ov id).oneCell' = true
/-- what is asked of the ghosts besides -/
structure WfG (g : Gh) (h : Hp) : Prop where
  ov : OvOk g h
  nd : noDup h.lists
theorem WfG.ext {g g' : Gh} {h : Hp} (wf : WfG g h) (he : Ext g h g' h) : WfG g' h := ⟨fun id lo hm => by rw [(he.lst id lo hm).2]; exact wf.ov id lo hm, wf.nd⟩
/-- a call whose contract holds wherever these values are shown -/
def CallOk (P : Program) (h : Hp) (f : FuncId) (args : List PV) (r : PV) : Prop :=
  (∃ fn, P.funcs[f]? = some fn ∧ (fn.name == "runtime.NumGoroutine") = false ∧ fn.body.isNone = false) ∧
  ∀ g0 pk g (cargs : Array Value), HeapOk g0 pk g h → WfG g h → All2 (RepPV g h) args cargs.toList →
    Calls P f cargs g.w fun e w' => ∃ g' v, e = .returned v ∧ g'.w = w' ∧ HeapOk g0 pk g' h ∧ Ext g h g' h ∧ RepPV g' h r v
def CallA (P : Program) (h : Hp) (f : FuncId) (args : List PV) (K : PV → Prop) : Prop := ∃ r, CallOk P h f args r ∧ K r

/-- the builtins min and max at two integers -/
def mmK (hi : Bool) : C → C → (PV → Prop) → Prop
  | .v (.int k a), .v (.int k' b), K => k' = k ∧ K (vV (.int k (if hi = true then (if b > a then b else a) else (if b < a then b else a))))
  | _, _, _ => False
def callA (P : Program) (h : Hp) (ρ : Operand → PV) (c : Call) (K : PV → Prop) : Prop :=
  match c.callee with
  | .builtin .len => match c.args.toList, c.argTypes.toList with
    | [x], [t] => c1K (ρ x) fun x => lenK h (P.underlying t) x K
    | _, _ => False
  | .builtin .min => match c.args.toList with
    | [x, y] => c1K (ρ x) fun x => c1K (ρ y) fun y => mmK false x y K
    | _ => False
  | .builtin .max => match c.args.toList with
    | [x, y] => c1K (ρ x) fun x => c1K (ρ y) fun y => mmK true x y K
    | _ => False
  | .value (.func f) => CallA P h f (c.args.toList.map ρ) K
  | _ => False

def opA (P : Program) (h : Hp) (ρ : Operand → PV) (op : Op) (K : PV → Prop) : Prop :=
  match op with
  | .move x => K (ρ x)
  | .assign x => K (ρ x)
  | .pick c a b => c1K (ρ c) fun c => pickK c (K (ρ a)) (K (ρ b))
  | .binOp op t x y _ => v1K (ρ x) fun x => v1K (ρ y) fun y => binV P op t x y fun v => K (vV v)
  | .unOp op _ x => c1K (ρ x) fun x => unC op x K
  | .convert s d x => c1K (ρ x) fun x => convD P h (P.underlying s) (P.underlying d) x K
  | .load t a => c1K (ρ a) fun a => optK (aggN P t) fun n => loadP h n a K
  | .fieldAddr t x f => c1K (ρ x) fun x => optK (fOff P t f) fun fo => fieldP fo x K
  | .field t x f => v1K (ρ x) fun x => optK (fPart P t f) fun fp => fieldV fp x K
  | .indexAddr t x i => c1K (ρ x) fun x => c1K (ρ i) fun i => optK (eSz P t) fun es => indexP h es.2 x i K
  | .index t x i => P.underlying t = some .string ∧ c1K (ρ x) fun x => c1K (ρ i) fun i => indexS x i K
  | .slice t x lo hi mx => mx.isNone = true ∧ c1K (ρ x) fun x => sliceD h (eSz P t) (P.underlying t) x (lo.map ρ) (hi.map ρ) K
  | .extract x i => match ρ x with
    | .t xs => optK xs[i]? fun x => K (.s x)
    | _ => False
  | .nilCheck x => c1K (ρ x) fun x => nilK x K
  | .build t parts => optK (structP P t) fun zp => optK (fillA zp.2 (zp.1.map .v) (partsOf ρ parts.toList)) fun cs => K (.s (.a cs))
  | .call c => callA P h ρ c K
  | _ => False

end Go.PL
namespace Go.PL
set_option linter.unusedSimpArgs false
set_option linter.unusedVariables false

theorem unC_run {op : UnOp} {x : C} {K : PV → Prop} {P : Program} (h : unC op x K) : ∃ pv, K pv ∧ ∀ g hp c, RepC g hp x c → ∃ v, (Op.unary op c).run P g.w = .ok v g.w ∧ RepPV g hp pv v := by
  unfold unC at h
  split at h
  · obtain ⟨rfl, h⟩ := h
    refine ⟨_, h, fun g hp c hc => ?_⟩
    simp only [RepC] at hc
    subst hc
    exact ⟨_, by simp [Op.unary], rfl⟩
  · obtain ⟨rfl, hin, h⟩ := h
    refine ⟨_, h, fun g hp c hc => ?_⟩
    simp only [RepC] at hc
    subst hc
    rename_i k n
    have : 0 - n = -n := by omega
    exact ⟨_, by simp [Op.unary, Op.intArith, this, wrap_in hin], rfl⟩
  · exact h.elim

theorem bytesL_map : ∀ {xs : List Value} {ns : List Int}, bytesL xs = some ns → xs = ns.map (.int .u8)
  | [], ns, h => by simp [bytesL] at h; subst h; rfl
  | x :: xs, ns, h => by
    simp only [bytesL, List.mapM_cons] at h
    split at h
    · rename_i n
      simp only [Option.bind_eq_bind, Option.bind_some, Option.pure_def] at h
      cases hm : bytesL xs with
      | none => unfold bytesL at hm; rw [hm] at h; cases h
      | some ms =>
        have := bytesL_map hm
        unfold bytesL at hm
        rw [hm] at h
        simp at h
        rw [← h, this]
        rfl
    · cases h
theorem flat_bytes (ns : List Int) : flat (ns.map (.int .u8)) = ns.map (.int .u8) := by
  induction ns with
  | nil => rfl
  | cons n ns ih => simp only [flat, List.map_cons, List.flatMap_cons] at ih ⊢; rw [ih]; rfl

theorem run_bytes {P : Program} {g : Gh} {b off : Nat} {ns : List Int} (h : ∀ j (u : Value), (ns.map (Value.int .u8))[j]? = some u → g.w.cell? ⟨b, off + j, none⟩ = some u) (cap : Nat) :
    (Conv.bytesToString (.slice (some ⟨b, off, none⟩) ns.length cap)).run P g.w = .ok (.string (strOf ns)) g.w := by
  refine run_bytesToString g.w _ _ _ ns ?_
  have := run_loadCells_list (P := P) g.w ⟨b, off, none⟩ (ns.map (Value.int .u8)) (fun j u hu => by rw [Addr.add_lit]; exact h j u hu)
  simpa using this
theorem run_bytes0 {P : Program} {w : World} {a : Option Addr} (cap : Nat) : (Conv.bytesToString (.slice a 0 cap)).run P w = .ok (.string (strOf [])) w := by
  cases a with
  | none => rfl
  | some a => simp [Conv.bytesToString, loadCells, loadCellsFrom, strOf]

theorem convD_run {P : Program} {h : Hp} {s d : TypeId} {x : C} {K : PV → Prop} (hc : convD P h (P.underlying s) (P.underlying d) x K) :
    ∃ pv, K pv ∧ ∀ g0 pk g c, HeapOk g0 pk g h → RepC g h x c → ∃ v, (convert s d c).run P g.w = .ok v g.w ∧ RepPV g h pv v := by
  unfold convD at hc
  split at hc
  · rename_i K ds k _ n h1 h2
    obtain ⟨hin, hK⟩ := hc
    refine ⟨_, hK, fun g0 pk g c hk hr => ?_⟩
    simp only [RepC] at hr
    subst hr
    exact ⟨_, by simp [convert, run_underlying h1, run_underlying h2, Conv.intToInt, wrap_in hin], rfl⟩
  · rename_i K ds _ n h1 h2
    refine ⟨_, hc, fun g0 pk g c hk hr => ?_⟩
    simp only [RepC] at hr
    subst hr
    exact ⟨_, by simp [convert, run_underlying h1, run_underlying h2, Conv.intToString], rfl⟩
  · rename_i K e sz xs h1 h2
    obtain ⟨he, hc⟩ := hc
    obtain ⟨ns, hns, hK⟩ := optK_ex hc
    refine ⟨_, hK, fun g0 pk g c hk hr => ⟨.string (strOf ns), ?_, rfl⟩⟩
    obtain ⟨a, cap, rfl, _, _, _, _, ha, hrow⟩ := hr
    rw [run_convert_bytes_string g.w s d e a _ cap h1 he h2]
    have hx := bytesL_map hns
    subst hx
    rw [flat_bytes] at hrow
    cases a with
    | none =>
      have := ha rfl
      cases ns with
      | nil => exact run_bytes0 cap
      | cons n ns => simp at *; omega
    | some ad =>
      obtain ⟨hs, hrow⟩ := hrow ad rfl
      obtain ⟨b, off, sp⟩ := ad
      simp at hs
      subst hs
      rw [List.length_map]
      exact run_bytes (fun j u hu => by
        obtain ⟨hj, e⟩ := List.getElem?_eq_some_iff.1 hu
        rw [← e]; exact (hrow j hj).1) cap
  · rename_i K e id h1 h2
    obtain ⟨he, hc⟩ := hc
    obtain ⟨lo, hlo, hl, hc⟩ := optK_ex hc
    obtain ⟨ns, hns, hK⟩ := optK_ex hc
    refine ⟨_, hK, fun g0 pk g c hk hr => ⟨.string (strOf ns), ?_, rfl⟩⟩
    obtain ⟨_, rfl⟩ := hr
    have hL := hk.lists id lo (fnd_mem hlo) hl
    have hx := bytesL_map hns
    have hown := hL.own
    rw [hx, flat_bytes, List.length_map] at hown
    rcases hown.2 with ⟨hv, hz⟩ | ⟨gg, cap, cur, hv, _⟩
    · rw [hv, run_convert_bytes_string g.w s d e none _ _ h1 he h2]
      have : ns = [] := List.eq_nil_of_length_eq_zero hz
      subst this
      exact run_bytes0 0
    · rw [hv, run_convert_bytes_string g.w s d e _ _ cap h1 he h2]
      exact run_bytes (fun j u hu => by
        have := hown.cells (g := gg) (by rw [hv]; rfl) j u hu
        rwa [Addr.add_lit] at this) cap
  · exact hc.elim

theorem loadP_run {P : Program} {h : Hp} {t : TypeId} {n : Option Nat} {x : C} {K : PV → Prop} (hn : aggN P t = some n) (hc : loadP h n x K) :
    ∃ pv, K pv ∧ ∀ g0 pk g c, HeapOk g0 pk g h → RepC g h x c → ∃ v, (Instr.loadAt t c).run P g.w = .ok v g.w ∧ RepPV g h pv v := by
  unfold loadP at hc
  split at hc
  · rename_i K id off
    obtain ⟨cs, hcs, hc⟩ := optK_ex hc
    obtain ⟨pv, hK, hs⟩ := loadC_sound (P := P) hn hc
    refine ⟨pv, hK, fun g0 pk g c hk hr => ?_⟩
    obtain ⟨_, rfl⟩ := hr
    obtain ⟨v, h1, h2⟩ := hs g h (g.bx id) 0 (box_cells hk (fnd_mem hcs))
    rw [Nat.zero_add] at h1
    exact ⟨v, by simp [Instr.loadAt, Instr.sureAddr, h1], h2⟩
  · rename_i K cs
    obtain ⟨pv, hK, hs⟩ := loadC_sound (P := P) hn hc
    refine ⟨pv, hK, fun g0 pk g c hk hr => ?_⟩
    obtain ⟨b, off, rfl, hrow⟩ := hr
    obtain ⟨v, h1, h2⟩ := hs g h b off hrow.cells
    rw [Nat.add_zero] at h1
    exact ⟨v, by simp [Instr.loadAt, Instr.sureAddr, h1], h2⟩
  · rename_i K id sz idx off
    obtain ⟨lo, hlo, ⟨hl, hsz⟩, hc2⟩ := optK_ex hc
    subst hsz
    obtain ⟨x, hx, hc3⟩ := optK_ex hc2
    obtain ⟨pv, hK, hs⟩ := loadC_sound (P := P) hn hc3
    refine ⟨pv, hK, fun g0 pk g c hk hr => ?_⟩
    obtain ⟨_, b, n, cap, hv, rfl⟩ := hr
    obtain ⟨v, h1, h2⟩ := hs g h b (idx * lo.sz) (list_cells hk (fnd_mem hlo) hl hv hx)
    exact ⟨v, by simp [Instr.loadAt, Instr.sureAddr, h1], h2⟩
  · obtain ⟨rfl, hK⟩ := hc
    refine ⟨_, hK, fun g0 pk g c hk hr => ?_⟩
    obtain ⟨b, off, v, rfl, ⟨h1, _⟩, h2⟩ := hr
    exact ⟨v, by simp [Instr.loadAt, Instr.sureAddr, loadVar, (run_isAgg hn g.w).1, h1], h2⟩
  · exact hc.elim

theorem fieldP_run {P : Program} {h : Hp} {t : TypeId} {f : Nat} {fo : Nat × Nat} {x : C} {K : PV → Prop} (hf : fOff P t f = some fo) (hc : fieldP fo x K) :
    ∃ pv, K pv ∧ ∀ g c, RepC g h x c → ∃ v, (Instr.fieldAt t c f).run P g.w = .ok v g.w ∧ RepPV g h pv v := by
  unfold fOff at hf
  split at hf
  · rename_i fs hu
    split at hf
    · rename_i fd hfd
      simp at hf
      obtain ⟨i, hi, rfl⟩ := hf
      unfold fieldP at hc
      split at hc
      · obtain ⟨hz, hK⟩ := hc
        refine ⟨_, hK, fun g c hr => ?_⟩
        obtain ⟨hm, rfl⟩ := hr
        have hz' : ¬ i.size = 0 := hz
        refine ⟨_, by simp [Instr.fieldAt, Instr.sureAddr, run_underlying hu, hfd, fieldPlace, sizeOf, typeInfo, hi, hz', Addr.add_lit], hm, rfl⟩
      · obtain ⟨hz, hK⟩ := hc
        refine ⟨_, hK, fun g c hr => ?_⟩
        obtain ⟨b, off, rfl, hrow⟩ := hr
        have hz' : ¬ i.size = 0 := hz
        exact ⟨_, by simp [Instr.fieldAt, Instr.sureAddr, run_underlying hu, hfd, fieldPlace, sizeOf, typeInfo, hi, hz', Addr.add_lit], b, off + fd.offset, rfl, hrow.drop _⟩
      · obtain ⟨hz, hK⟩ := hc
        refine ⟨_, hK, fun g c hr => ?_⟩
        obtain ⟨hm, b, n, cap, hv, rfl⟩ := hr
        have hz' : ¬ i.size = 0 := hz
        exact ⟨.pointer (some ⟨b, _, none⟩), by simp [Instr.fieldAt, Instr.sureAddr, run_underlying hu, hfd, fieldPlace, sizeOf, typeInfo, hi, hz', Addr.add_lit]; rfl, hm, b, n, cap, hv, by simp [Nat.add_assoc]⟩
      · exact hc.elim
    · cases hf
  · cases hf

theorem fieldV_run {P : Program} {h : Hp} {t : TypeId} {f : Nat} {fp : Nat × Option Nat} {x : V1} {K : PV → Prop} (hf : fPart P t f = some fp) (hc : fieldV fp x K) :
    ∃ pv, K pv ∧ ∀ g c, RepV1 g h x c → ∃ v, (Instr.field t c f).run P g.w = .ok v g.w ∧ RepPV g h pv v := by
  unfold fPart at hf
  split at hf
  · rename_i fs hu
    split at hf
    · rename_i fd hfd
      simp at hf
      obtain ⟨n, hn, rfl⟩ := hf
      unfold fieldV at hc
      split at hc
      · rename_i K cs
        cases n with
        | none =>
          obtain ⟨c, hc, hK⟩ := optK_ex hc
          refine ⟨_, hK, fun g u hr => ?_⟩
          obtain ⟨us, rfl, h2⟩ := hr
          obtain ⟨y, hy, hR⟩ := h2.get _ _ hc
          have hy' : us[fd.offset]? = some y := by simpa using hy
          exact ⟨y, by simp [Instr.field, run_underlying hu, hfd, asAgg, part, (run_isAgg hn g.w).1, hy'], hR⟩
        | some n =>
          obtain ⟨hle, hK⟩ := hc
          refine ⟨_, hK, fun g u hr => ?_⟩
          obtain ⟨us, rfl, h2⟩ := hr
          refine ⟨.agg (us.extract fd.offset (fd.offset + n)), by simp [Instr.field, run_underlying hu, hfd, asAgg, part, (run_isAgg hn g.w).1, (run_isAgg hn g.w).2 n rfl], _, rfl, ?_⟩
          have := (h2.drop fd.offset).take n
          simpa [Array.toList_extract, List.extract_eq_take_drop, Nat.add_sub_cancel_left] using this
      · exact hc.elim
    · cases hf
  · cases hf

theorem indexP_run {P : Program} {h : Hp} {t : TypeId} {es : TypeId × Nat} {x i : C} {K : PV → Prop} (he : eSz P t = some es) (hc : indexP h es.2 x i K) :
    ∃ pv, K pv ∧ ∀ g0 pk g c ci, HeapOk g0 pk g h → RepC g h x c → RepC g h i ci → ∃ v, (Instr.indexAt t c ci).run P g.w = .ok v g.w ∧ RepPV g h pv v := by
  unfold eSz at he
  split at he
  · rename_i e hu
    simp at he
    obtain ⟨inf, hi, rfl⟩ := he
    unfold indexP at hc
    split at hc
    · rename_i K sz xs k n
      obtain ⟨rfl, h0, hc⟩ := hc
      obtain ⟨x, hx, hK⟩ := optK_ex hc
      refine ⟨_, hK, fun g0 pk g c ci hk hr hri => ?_⟩
      simp only [RepC] at hri
      subst hri
      obtain ⟨a, cap, rfl, hlc, _, _, hsz, ha, hrow⟩ := hr
      have hlt : n.toNat < xs.length := (List.getElem?_eq_some_iff.1 hx).1
      cases a with
      | none => have := ha rfl; omega
      | some ad =>
        obtain ⟨hs, hrow⟩ := hrow ad rfl
        obtain ⟨b, off, sp⟩ := ad
        simp at hs
        subst hs
        have hcond : 0 ≤ n ∧ n < (xs.length : Int) := by omega
        refine ⟨.pointer (some ⟨b, off + n.toNat * inf.size, none⟩), by simp [Instr.indexAt, asIntOf, run_underlying hu, hcond, sizeOf, typeInfo, hi, Addr.add_lit], b, off + n.toNat * inf.size, rfl, ?_⟩
        have := hrow.drop (n.toNat * inf.size)
        rw [flat_get hsz hx] at this
        exact this.left
    · rename_i K id k n
      obtain ⟨lo, hlo, ⟨hl, hes⟩, h0, hc⟩ := optK_ex hc
      obtain ⟨x, hx, hK⟩ := optK_ex hc
      refine ⟨_, hK, fun g0 pk g c ci hk hr hri => ?_⟩
      simp only [RepC] at hri
      subst hri
      obtain ⟨hm, rfl⟩ := hr
      have hL := hk.lists id lo (fnd_mem hlo) hl
      have hlt : n.toNat < lo.xs.length := (List.getElem?_eq_some_iff.1 hx).1
      rcases hL.own.2 with ⟨hv, hz⟩ | ⟨gg, cap, cur, hv, _⟩
      · omega
      · have hcond : 0 ≤ n ∧ n < (lo.xs.length : Int) := by omega
        exact ⟨.pointer (some ⟨gg, n.toNat * inf.size, none⟩), by simp [hv, Instr.indexAt, asIntOf, run_underlying hu, hcond, sizeOf, typeInfo, hi, Addr.add_lit], hm, gg, _, _, hv, by simp⟩
    · rename_i K id m cap k n
      obtain ⟨hes, h0, hlt, hK⟩ := hc
      refine ⟨_, hK, fun g0 pk g c ci hk hr hri => ?_⟩
      simp only [RepC] at hri
      subst hri
      obtain ⟨hm, rfl⟩ := hr
      have hcond : 0 ≤ n ∧ n < (m : Int) := ⟨h0, hlt⟩
      have hes' : inf.size = 1 := hes
      exact ⟨.pointer (some ⟨g.bx id, n.toNat, none⟩), by simp [Instr.indexAt, asIntOf, run_underlying hu, hcond, sizeOf, typeInfo, hi, hes', Addr.add_lit], hm, rfl⟩
    · rename_i K sz xss k n
      obtain ⟨hes, h0, hc⟩ := hc
      obtain ⟨x, hx, hK⟩ := optK_ex hc
      refine ⟨_, hK, fun g0 pk g c ci hk hr hri => ?_⟩
      simp only [RepC] at hri
      subst hri
      obtain ⟨a, cap, rfl, hlc, _, ha, hrow⟩ := hr
      obtain ⟨hlt, ex⟩ := List.getElem?_eq_some_iff.1 hx
      cases a with
      | none => have := ha rfl; omega
      | some ad =>
        obtain ⟨hs, hrow⟩ := hrow ad rfl
        obtain ⟨b, off, sp⟩ := ad
        simp at hs
        subst hs
        have hcond : 0 ≤ n ∧ n < (xss.length : Int) := by omega
        have hes' : inf.size = 1 := hes
        obtain ⟨v, h1, h2⟩ := hrow n.toNat hlt
        exact ⟨.pointer (some ⟨b, off + n.toNat, none⟩), by simp [Instr.indexAt, asIntOf, run_underlying hu, hcond, sizeOf, typeInfo, hi, hes', Addr.add_lit], b, off + n.toNat, v, rfl, h1, by rw [← ex]; exact h2⟩
    · exact hc.elim
  · cases he

theorem indexS_run {P : Program} {h : Hp} {t : TypeId} {x i : C} {K : PV → Prop} (hu : P.underlying t = some .string) (hc : indexS x i K) :
    ∃ pv, K pv ∧ ∀ g c ci, RepC g h x c → RepC g h i ci → ∃ v, (Instr.index t c ci).run P g.w = .ok v g.w ∧ RepPV g h pv v := by
  unfold indexS at hc
  split at hc
  · obtain ⟨h0, hc⟩ := hc
    obtain ⟨b, hb, hK⟩ := optK_ex hc
    refine ⟨_, hK, fun g c ci hr hri => ?_⟩
    simp only [RepC] at hr hri
    subst hr hri
    exact ⟨_, by simp [Instr.index, asIntOf, run_underlying hu, h0, hb], rfl⟩
  · exact hc.elim

theorem lenK_run {P : Program} {h : Hp} {t ty : TypeId} {x : C} {K : PV → Prop} (hc : lenK h (P.underlying t) x K) :
    ∃ pv, K pv ∧ ∀ g0 pk g c, HeapOk g0 pk g h → RepC g h x c → ∃ v, (Builtin.len_ #[t] ty #[c]).run P g.w = .ok v g.w ∧ RepPV g h pv v := by
  unfold lenK at hc
  split at hc
  · rename_i hu
    refine ⟨_, hc, fun g0 pk g c hk hr => ?_⟩
    simp only [RepC] at hr
    subst hr
    exact ⟨_, by simp [Builtin.len_, run_underlying hu, goInt], rfl⟩
  · rename_i e hu
    obtain ⟨n, hn, hK⟩ := optK_ex hc
    refine ⟨_, hK, fun g0 pk g c hk hr => ?_⟩
    unfold lenC at hn
    split at hn
    · simp at hn
      subst hn
      obtain ⟨a, cap, rfl, _⟩ := hr
      exact ⟨_, by simp [Builtin.len_, run_underlying hu, goInt], rfl⟩
    · rename_i id
      split at hn
      · rename_i lo hlo
        split at hn
        · rename_i hl
          simp at hn
          subst hn
          obtain ⟨hm, rfl⟩ := hr
          have hL := hk.lists id lo (fnd_mem hlo) hl
          rcases hL.own.2 with ⟨hv, hz⟩ | ⟨gg, cap, cur, hv, _⟩
          · rw [hv, hz]
            exact ⟨_, by simp [Builtin.len_, run_underlying hu, goInt], rfl⟩
          · rw [hv]
            exact ⟨_, by simp [Builtin.len_, run_underlying hu, goInt], rfl⟩
        · cases hn
      · cases hn
    · simp at hn
      subst hn
      simp only [RepC] at hr
      subst hr
      exact ⟨_, by simp [Builtin.len_, run_underlying hu, goInt], rfl⟩
    · simp at hn
      subst hn
      obtain ⟨_, rfl⟩ := hr
      exact ⟨_, by simp [Builtin.len_, run_underlying hu, goInt], rfl⟩
    · simp at hn
      subst hn
      obtain ⟨a, cap, rfl, _⟩ := hr
      exact ⟨_, by simp [Builtin.len_, run_underlying hu, goInt], rfl⟩
    · cases hn
  · exact hc.elim

theorem loK_ex {lo : Option PV} {K : Nat → Prop} (h : loK lo K) : ∃ a, K a ∧ ((lo = none ∧ a = 0) ∨ ∃ k n, lo = some (vV (.int k n)) ∧ 0 ≤ n ∧ a = n.toNat) := by
  unfold loK at h
  split at h
  · exact ⟨0, h, .inl ⟨rfl, rfl⟩⟩
  · exact ⟨_, h.2, .inr ⟨_, _, rfl, h.1, rfl⟩⟩
  · exact h.elim
theorem hiK_ex {len : Nat} {hi : Option PV} {K : Nat → Prop} (h : hiK len hi K) : ∃ b, K b ∧ b ≤ len ∧ ((hi = none ∧ b = len) ∨ ∃ k n, hi = some (vV (.int k n)) ∧ 0 ≤ n ∧ b = n.toNat) := by
  unfold hiK at h
  split at h
  · exact ⟨len, h, Nat.le_refl _, .inl ⟨rfl, rfl⟩⟩
  · exact ⟨_, h.2.2, by omega, .inr ⟨_, _, rfl, h.1, rfl⟩⟩
  · exact h.elim

theorem bounds_run {P : Program} {isS : Bool} {len cap a b : Nat} {lo hi : Option PV} {clo chi : Option Value} {g : Gh} {h : Hp}
    (hlo : (lo = none ∧ a = 0) ∨ ∃ k n, lo = some (vV (.int k n)) ∧ 0 ≤ n ∧ a = n.toNat)
    (hhi : (hi = none ∧ b = len) ∨ ∃ k n, hi = some (vV (.int k n)) ∧ 0 ≤ n ∧ b = n.toNat) (hab : a ≤ b) (hbc : b ≤ cap)
    (h1 : ∀ x, lo = some x → ∃ c, clo = some c ∧ RepPV g h x c) (h1n : lo = none → clo = none)
    (h2 : ∀ x, hi = some x → ∃ c, chi = some c ∧ RepPV g h x c) (h2n : hi = none → chi = none) (w : World) :
    (Instr.sliceBounds isS len cap clo chi none).run P w = .ok (a, b, cap) w := by
  rcases hlo with ⟨rfl, rfl⟩ | ⟨k, n, rfl, h0, rfl⟩ <;> rcases hhi with ⟨rfl, rfl⟩ | ⟨k', n', rfl, h0', rfl⟩
  · rw [h1n rfl, h2n rfl]
    simp [Instr.sliceBounds]
  · obtain ⟨c, rfl, hc⟩ := h2 _ rfl
    simp only [RepPV, RepV1, RepC] at hc
    subst hc
    rw [h1n rfl]
    have : 0 ≤ n' ∧ n' ≤ (cap : Int) := by omega
    simp [Instr.sliceBounds, Instr.sliceBound, asIntOf, this]
  · obtain ⟨c, rfl, hc⟩ := h1 _ rfl
    simp only [RepPV, RepV1, RepC] at hc
    subst hc
    rw [h2n rfl]
    have : 0 ≤ n ∧ n ≤ (b : Int) := by omega
    simp [Instr.sliceBounds, Instr.sliceBound, asIntOf, this]
  · obtain ⟨c, rfl, hc⟩ := h1 _ rfl
    simp only [RepPV, RepV1, RepC] at hc
    subst hc
    obtain ⟨c, rfl, hc⟩ := h2 _ rfl
    simp only [RepPV, RepV1, RepC] at hc
    subst hc
    have e1 : 0 ≤ n' ∧ n' ≤ (cap : Int) := by omega
    have e2 : 0 ≤ n ∧ n ≤ max n' 0 := by omega
    simp [Instr.sliceBounds, Instr.sliceBound, asIntOf, e1, e2]

theorem sliceD_run {P : Program} {h : Hp} {t : TypeId} {x : C} {lo hi : Option PV} {K : PV → Prop} (hc : sliceD h (eSz P t) (P.underlying t) x lo hi K) :
    ∃ pv, K pv ∧ ∀ g c clo chi, RepC g h x c → (∀ x, lo = some x → ∃ c, clo = some c ∧ RepPV g h x c) → (lo = none → clo = none) →
      (∀ x, hi = some x → ∃ c, chi = some c ∧ RepPV g h x c) → (hi = none → chi = none) → ∃ v, (Instr.sliceAt t c clo chi none).run P g.w = .ok v g.w ∧ RepPV g h pv v := by
  unfold sliceD at hc
  split at hc
  · rename_i K s hu
    obtain ⟨b, hc, hbl, hhi⟩ := hiK_ex hc
    obtain ⟨a, ⟨hab, hK⟩, hlo⟩ := loK_ex hc
    refine ⟨_, hK, fun g c clo chi hr h1 h1n h2 h2n => ?_⟩
    simp only [RepC] at hr
    subst hr
    have hb := bounds_run (P := P) (isS := false) (len := s.size) (cap := s.size) hlo hhi hab hbl h1 h1n h2 h2n g.w
    exact ⟨_, by simp [Instr.sliceAt, Instr.slice, run_underlying hu, hb], rfl⟩
  · rename_i K e sz xs hu
    obtain ⟨hes, hc⟩ := hc
    obtain ⟨b, hc, hbl, hhi⟩ := hiK_ex hc
    obtain ⟨a, ⟨hab, hK⟩, hlo⟩ := loK_ex hc
    refine ⟨_, hK, fun g c clo chi hr h1 h1n h2 h2n => ?_⟩
    simp only [eSz, hu, Option.map_map, Option.map_eq_some_iff] at hes
    obtain ⟨inf, hi, hsz'⟩ := hes
    simp only [Function.comp] at hsz'
    obtain ⟨ad, cap, rfl, hlc, hm, hpos, hsz, ha, hrow⟩ := hr
    have hb := bounds_run (P := P) (isS := true) (len := xs.length) (cap := cap) hlo hhi hab (by omega) h1 h1n h2 h2n g.w
    have hlen : ((xs.take b).drop a).length = b - a := by simp; omega
    refine ⟨.slice (if cap = a then ad else ad.map (·.add (a * sz))) (b - a) (cap - a), by simp [Instr.sliceAt, Instr.slice, run_underlying hu, hb, sizeOf, typeInfo, hi, hsz'], ?_⟩
    refine ⟨_, _, by rw [hlen], by omega, by omega, ⟨hpos.1, fun u hu => ?_⟩, fun x hx => hsz x (List.mem_of_mem_take (List.mem_of_mem_drop hx)), ?_, ?_⟩
    · obtain ⟨x, hx, hux⟩ := List.mem_flatMap.1 hu
      exact hpos.2 u (List.mem_flatMap.2 ⟨x, List.mem_of_mem_take (List.mem_of_mem_drop hx), hux⟩)
    · intro hn
      cases ad with
      | none => have := ha rfl; omega
      | some ad => split at hn
                   · omega
                   · simp at hn
    · intro ad' had
      have hfl : flat ((xs.take b).drop a) = ((flat xs).take (b * sz)).drop (a * sz) := by
        rw [flat_take hsz, flat_drop (fun x hx => hsz x (List.mem_of_mem_take hx))]
      split at had
      · subst had
        obtain ⟨hs, hrow⟩ := hrow ad' rfl
        have hba : b = a := by omega
        subst hba
        refine ⟨hs, ?_⟩
        have : (xs.take b).drop b = [] := by simp
        rw [this]
        intro j hj
        simp [flat] at hj
      · cases ad with
        | none => simp at had
        | some ad =>
          obtain ⟨hs, hrow⟩ := hrow ad rfl
          obtain ⟨bb, off, sp⟩ := ad
          simp at hs
          subst hs
          simp only [Option.map_some, Addr.add_lit, Option.some.injEq] at had
          subst had
          refine ⟨rfl, ?_⟩
          rw [hfl]
          exact (hrow.take _).drop _
  · exact hc.elim

theorem nilK_run {P : Program} {h : Hp} {x : C} {K : PV → Prop} {o : Oper} {X : Operand} (hc : nilK x K) (ho : o.op = .nilCheck X) :
    ∃ pv, K pv ∧ ∀ g (ρ : Operand → Value), RepC g h x (ρ X) → ∃ v, (execOp ρ o).run P g.w = .ok (.value v) g.w ∧ RepPV g h pv v := by
  unfold nilK at hc
  split at hc
  · refine ⟨_, hc, fun g ρ hr => ⟨ρ X, ?_, hr⟩⟩
    obtain ⟨_, e⟩ := hr
    simp [execOp, ho, e]
  · refine ⟨_, hc, fun g ρ hr => ⟨ρ X, ?_, hr⟩⟩
    obtain ⟨b, off, e, _⟩ := hr
    simp [execOp, ho, e]
  · exact hc.elim

end Go.PL
namespace Go.PL
set_option linter.unusedSimpArgs false
set_option linter.unusedVariables false

theorem isCell_one {g : Gh} {g0 : Gh} {pk : Pk} {h : Hp} {x : C} {u : Value} (hx : isCell x = true) (hr : RepC g h x u) (hov : ∀ id lo, (id, lo) ∈ h.lists → (g.ov id).oneCell' = true) : u.oneCell' = true := by
  cases x with
  | v x => simp only [RepC] at hr; subst hr; exact hx
  | l sz xs => obtain ⟨a, cap, rfl, _⟩ := hr; rfl
  | o id => obtain ⟨⟨lo, hm⟩, rfl⟩ := hr; exact hov id lo hm
  | p id off => obtain ⟨_, rfl⟩ := hr; rfl
  | q cs => obtain ⟨b, off, rfl, _⟩ := hr; rfl
  | e id sz idx off => obtain ⟨_, b, n, cap, _, rfl⟩ := hr; rfl
  | any => cases hx
  | mk R => obtain ⟨b, rfl, _⟩ := hr; rfl
  | sb id n cap => obtain ⟨_, rfl⟩ := hr; rfl
  | ll sz xss => obtain ⟨a, cap, rfl, _⟩ := hr; rfl
  | ql sz xs => obtain ⟨b, off, v, rfl, _⟩ := hr; rfl
theorem cells_of_one {u : Value} (h : u.oneCell' = true) : u.cells = #[u] := by
  cases u <;> first | rfl | (simp [Value.oneCell'] at h)

theorem cells1_rep {g : Gh} {h : Hp} {y : V1} {vs : List C} {u : Value} (hov : OvOk g h) (hc : cells1 y = some vs) (hr : RepV1 g h y u) :
    All2 (RepC g h) vs u.cells.toList ∧ ∀ c ∈ u.cells.toList, c.oneCell' = true := by
  cases y with
  | c x =>
    simp only [cells1] at hc
    split at hc
    · rename_i hx
      simp at hc
      subst hc
      have h1 := isCell_one (g0 := g) (pk := ⟨[], []⟩) hx hr hov
      rw [cells_of_one h1]
      exact ⟨⟨hr, trivial⟩, by simpa using h1⟩
    · cases hc
  | a xs =>
    simp only [cells1] at hc
    split at hc
    · rename_i hx
      simp at hc
      subst hc
      obtain ⟨cs, rfl, h2⟩ := hr
      refine ⟨h2, ?_⟩
      have hall : ∀ x ∈ xs, isCell x = true := by simpa using hx
      clear hx
      show ∀ c ∈ cs.toList, c.oneCell' = true
      generalize cs.toList = l at h2
      induction xs generalizing l with
      | nil => cases l with
        | nil => simp
        | cons => exact h2.elim
      | cons x xs ih => cases l with
        | nil => exact h2.elim
        | cons c l =>
          intro d hd
          rcases List.mem_cons.1 hd with rfl | hd
          · exact isCell_one (g0 := g) (pk := ⟨[], []⟩) (hall x (by simp)) h2.1 hov
          · exact ih (fun y hy => hall y (by simp [hy])) l h2.2 d hd
    · cases hc

theorem setAll_rep {g : Gh} {h : Hp} : ∀ (l : List Value) (vs : List C) (k off : Nat) (cs : List C) (arr : Array Value), All2 (RepC g h) vs l → All2 (RepC g h) cs arr.toList →
    All2 (RepC g h) (setAll cs (off + k) vs) ((l.zipIdx k).foldl (fun cs (x : Value × Nat) => cs.setIfInBounds (off + x.2) x.1) arr).toList
  | [], [], k, off, cs, arr, _, h2 => by simpa [setAll] using h2
  | u :: l, v :: vs, k, off, cs, arr, ⟨h1, hr⟩, h2 => by
    simp only [setAll, List.zipIdx_cons, List.foldl_cons]
    have := setAll_rep l vs (k + 1) off (cs.set (off + k) v) (arr.setIfInBounds (off + k) u) hr (by simpa using h2.set (off + k) v u h1)
    rw [Nat.add_assoc]
    exact this
  | [], _ :: _, _, _, _, _, h, _ => h.elim
  | _ :: _, [], _, _, _, _, h, _ => h.elim

theorem setAll_length : ∀ (vs : List C) (cs : List C) (off : Nat), (setAll cs off vs).length = cs.length
  | [], _, _ => rfl
  | _ :: vs, cs, off => by simp [setAll, setAll_length vs]

theorem fill_rep {g : Gh} {h : Hp} (hov : OvOk g h) (places : List (Nat × Nat)) (pf : Nat → Option (Nat × Nat)) (hpf : ∀ i x, places[i]? = some x → pf i = some x) (ρ : Operand → PV) (a : Operand → Value) : ∀ (parts : List (Nat × Operand)) (cells : List C) (arr : Array Value) (cs : List C),
    (∀ p ∈ parts, RepPV g h (ρ p.2) (a p.2)) → All2 (RepC g h) cells arr.toList → fillA places cells (partsOf ρ parts) = some cs →
    ∃ arr', Instr.fill pf arr (parts.map fun p => (p.1, a p.2)) = some arr' ∧ All2 (RepC g h) cs arr'.toList
  | [], cells, arr, cs, _, h2, hf => by
    simp [partsOf, fillA] at hf
    subst hf
    exact ⟨arr, rfl, h2⟩
  | (i, x) :: parts, cells, arr, cs, hρ, h2, hf => by
    simp only [partsOf] at hf
    have hx := hρ (i, x) (by simp)
    simp only at hx
    cases hy : ρ x with
    | t xs => simp [hy, fillA] at hf
    | s y =>
      rw [hy] at hx
      simp only [hy] at hf
      cases hc : cells1 y with
      | none => simp [hc, fillA] at hf
      | some vs =>
        simp only [hc, fillA] at hf
        cases hp : places[i]? with
        | none => simp [hp] at hf
        | some pl =>
          obtain ⟨off, size⟩ := pl
          simp only [hp] at hf
          split at hf
          · rename_i hcond
            obtain ⟨h3, h4⟩ := cells1_rep hov hc hx
            have hl := h3.length
            have hl2 := h2.length
            simp only [Array.length_toList] at hl hl2
            have hnew := setAll_rep (g := g) (h := h) (a x).cells.toList vs 0 off cells arr h3 h2
            rw [Nat.add_zero] at hnew
            obtain ⟨arr', h5, h6⟩ := fill_rep hov places pf hpf ρ a parts _ _ cs (fun p hp => hρ p (by simp [hp])) hnew hf
            refine ⟨arr', ?_, h6⟩
            have hpl : pf i = some (off, size) := hpf i _ hp
            simp only [List.map_cons, Instr.fill, hpl]
            rw [if_neg (by simp; omega)]
            have e : (a x).cells.zipIdx.foldl (fun cs x => cs.setIfInBounds (off + x.2) x.1) arr = ((a x).cells.toList.zipIdx 0).foldl (fun cs (x : Value × Nat) => cs.setIfInBounds (off + x.2) x.1) arr := by
              rw [← Array.foldl_toList, Array.toList_zipIdx]
            rw [e]
            exact h5
          · cases hf

theorem build_run {P : Program} {h : Hp} {t : TypeId} {zp : List Value × List (Nat × Nat)} {ρ : Operand → PV} {parts : Array (Nat × Operand)} {cs : List C}
    (hs : structP P t = some zp) (hf : fillA zp.2 (zp.1.map .v) (partsOf ρ parts.toList) = some cs) {g : Gh} (hov : OvOk g h) (a : Operand → Value)
    (hρ : ∀ p ∈ parts.toList, RepPV g h (ρ p.2) (a p.2)) : ∃ v, (Instr.build t (parts.map fun p => (p.1, a p.2))).run P g.w = .ok v g.w ∧ RepPV g h (.s (.a cs)) v := by
  unfold structP at hs
  split at hs
  · rename_i it fields hit hu
    split at hs
    · rename_i z places hz hp
      simp at hs
      subst hs
      obtain ⟨arr', h1, h2⟩ := fill_rep hov places (fun i => places.toArray[i]?) (fun i x hx => by simpa using hx) ρ a parts.toList (z.cells.toList.map .v) z.cells cs hρ (All2.of_v _) hf
      refine ⟨.agg arr', run_build g.w t _ arr' ?_, arr', rfl, h2⟩
      unfold Program.built
      simp only [hit, hu, hz, hp, Array.toList_map]
      exact h1
    · cases hs
  · rename_i it n e hit hu
    split at hs
    · rename_i z i hz hi
      simp at hs
      subst hs
      obtain ⟨arr', h1, h2⟩ := fill_rep hov ((List.range n).map fun k => (k * i.size, i.size)) (fun k => some (k * i.size, i.size)) (fun k x hx => by
        rw [List.getElem?_map] at hx
        cases hr : (List.range n)[k]? with
        | none => simp [hr] at hx
        | some y =>
          obtain ⟨hk, ek⟩ := List.getElem?_eq_some_iff.1 hr
          simp at ek
          subst ek
          simpa [hr] using hx) ρ a parts.toList (z.cells.toList.map .v) z.cells cs hρ (All2.of_v _) hf
      refine ⟨.agg arr', ?_, arr', rfl, h2⟩
      simp [Instr.build, run_underlying hu, zeroValue, typeInfo, hit, hz, sizeOf, hi, h1]
    · cases hs
  · cases hs

theorem all2_args {g : Gh} {h : Hp} {ρ : Operand → PV} {a : Operand → Value} : ∀ (l : List Operand), (∀ x ∈ l, RepPV g h (ρ x) (a x)) → All2 (RepPV g h) (l.map ρ) (l.map a)
  | [], _ => trivial
  | x :: l, hx => ⟨hx x (by simp), all2_args l fun y hy => hx y (by simp [hy])⟩

theorem call_exec {P : Program} {f : FuncId} (hf : ∃ fn, P.funcs[f]? = some fn ∧ (fn.name == "runtime.NumGoroutine") = false ∧ fn.body.isNone = false) (ρ : Operand → Value) (o : Oper) (c : Call)
    (ho : o.op = .call c) (hc : c.callee = .value (.func f)) (hρ : ρ (.func f) = .func (.func f) #[] #[]) (w : World) : (execOp ρ o).run P w = .ok (.enter f (c.args.map ρ)) w := by
  obtain ⟨fn, h1, h2, h3⟩ := hf
  have h2' : ¬ fn.name = "runtime.NumGoroutine" := by simpa using h2
  have h3' : ¬ fn.body = none := by intro e; simp [e] at h3
  simp [execOp, ho, resolve, hc, hρ, Deferred.ofValue, invoke, callFunc, h1, h2', h3']

theorem opA_sound {P : Program} {h : Hp} {ρ : Operand → PV} {o : Oper} {K : PV → Prop} (hfu : ∀ f, ρ (.func f) = vV (.func (.func f) #[] #[])) (hc : opA P h ρ o.op K) :
    ∃ pv, K pv ∧ ∀ g0 pk g (a : Act), HeapOk g0 pk g h → WfG g h → (∀ x ∈ o.op.operands, RepPV g h (ρ x) (a.eval x)) →
    ∀ (next : Act → World → Prop) (Q : Exit → Act → World → Prop),
      (∀ g' v, HeapOk g0 pk g' h → Ext g h g' h → RepPV g' h pv v → next (a.put o.dst v) g'.w) → o.wp P a g.w next Q := by
  have val : ∀ pv, K pv → (∀ g0 pk g (a : Act), HeapOk g0 pk g h → WfG g h → (∀ x ∈ o.op.operands, RepPV g h (ρ x) (a.eval x)) → ∃ v, (execOp a.eval o).run P g.w = .ok (.value v) g.w ∧ RepPV g h pv v) →
      ∃ pv, K pv ∧ ∀ g0 pk g (a : Act), HeapOk g0 pk g h → WfG g h → (∀ x ∈ o.op.operands, RepPV g h (ρ x) (a.eval x)) →
        ∀ (next : Act → World → Prop) (Q : Exit → Act → World → Prop),
        (∀ g' v, HeapOk g0 pk g' h → Ext g h g' h → RepPV g' h pv v → next (a.put o.dst v) g'.w) → o.wp P a g.w next Q := by
    intro pv hK hr
    refine ⟨pv, hK, fun g0 pk g a hk hov hρ next Q hn => ?_⟩
    obtain ⟨v, h1, h2⟩ := hr g0 pk g a hk hov hρ
    unfold Oper.wp
    rw [h1]
    exact hn g v hk (Ext.refl g h) h2
  obtain ⟨dst, op, type, pos, after, guard⟩ := o
  cases op <;> simp only [opA] at hc <;> try exact hc.elim
  case move x => exact val _ hc fun g0 pk g a hk hov hρ => ⟨a.eval x, by simp [execOp], hρ x (by simp [Op.operands])⟩
  case assign x => exact val _ hc fun g0 pk g a hk hov hρ => ⟨a.eval x, by simp [execOp], hρ x (by simp [Op.operands])⟩
  case pick c x y =>
    obtain ⟨cc, hcc, hc⟩ := c1K_ex hc
    unfold pickK at hc
    split at hc
    · rename_i t
      cases t with
      | true =>
        refine val _ (hc.1 rfl) fun g0 pk g a hk hov hρ => ⟨a.eval x, ?_, hρ x (by simp [Op.operands])⟩
        have := hρ c (by simp [Op.operands])
        rw [hcc] at this
        simp only [RepPV, RepV1, RepC] at this
        simp [execOp, this, asBool]
      | false =>
        refine val _ (hc.2 rfl) fun g0 pk g a hk hov hρ => ⟨a.eval y, ?_, hρ y (by simp [Op.operands])⟩
        have := hρ c (by simp [Op.operands])
        rw [hcc] at this
        simp only [RepPV, RepV1, RepC] at this
        simp [execOp, this, asBool]
    · exact hc.elim
  case binOp op t x y yt =>
    obtain ⟨vx, hx, hc⟩ := v1K_ex hc
    obtain ⟨vy, hy, hc⟩ := v1K_ex hc
    obtain ⟨v, hK, hr⟩ := binV_sound hc
    refine val _ hK fun g0 pk g a hk hov hρ => ⟨v, ?_, rfl⟩
    have h1 := hρ x (by simp [Op.operands])
    have h2 := hρ y (by simp [Op.operands])
    rw [hx] at h1
    rw [hy] at h2
    have := hr g h (a.eval x) (a.eval y) x y h1 h2
    simp only [execOp, Sem.run_bind] at this ⊢
    rw [this]
    rfl
  case unOp op t x =>
    obtain ⟨vx, hx, hc⟩ := c1K_ex hc
    obtain ⟨pv, hK, hr⟩ := unC_run (P := P) hc
    refine val _ hK fun g0 pk g a hk hov hρ => ?_
    have h1 := hρ x (by simp [Op.operands])
    rw [hx] at h1
    obtain ⟨v, h2, h3⟩ := hr g h _ h1
    exact ⟨v, by simp [execOp, h2], h3⟩
  case convert s d x =>
    obtain ⟨vx, hx, hc⟩ := c1K_ex hc
    obtain ⟨pv, hK, hr⟩ := convD_run (P := P) hc
    refine val _ hK fun g0 pk g a hk hov hρ => ?_
    have h1 := hρ x (by simp [Op.operands])
    rw [hx] at h1
    obtain ⟨v, h2, h3⟩ := hr g0 pk g _ hk h1
    exact ⟨v, by simp [execOp, h2], h3⟩
  case load t x =>
    obtain ⟨vx, hx, hc⟩ := c1K_ex hc
    obtain ⟨n, hn, hc⟩ := optK_ex hc
    obtain ⟨pv, hK, hr⟩ := loadP_run (P := P) hn hc
    refine val _ hK fun g0 pk g a hk hov hρ => ?_
    have h1 := hρ x (by simp [Op.operands])
    rw [hx] at h1
    obtain ⟨v, h2, h3⟩ := hr g0 pk g _ hk h1
    exact ⟨v, by simp [execOp, h2], h3⟩
  case fieldAddr t x f =>
    obtain ⟨vx, hx, hc⟩ := c1K_ex hc
    obtain ⟨n, hn, hc⟩ := optK_ex hc
    obtain ⟨pv, hK, hr⟩ := fieldP_run (P := P) hn hc
    refine val _ hK fun g0 pk g a hk hov hρ => ?_
    have h1 := hρ x (by simp [Op.operands])
    rw [hx] at h1
    obtain ⟨v, h2, h3⟩ := hr g _ h1
    exact ⟨v, by simp [execOp, h2], h3⟩
  case field t x f =>
    obtain ⟨vx, hx, hc⟩ := v1K_ex hc
    obtain ⟨n, hn, hc⟩ := optK_ex hc
    obtain ⟨pv, hK, hr⟩ := fieldV_run (P := P) hn hc
    refine val _ hK fun g0 pk g a hk hov hρ => ?_
    have h1 := hρ x (by simp [Op.operands])
    rw [hx] at h1
    obtain ⟨v, h2, h3⟩ := hr g _ h1
    exact ⟨v, by simp [execOp, h2], h3⟩
  case indexAddr t x i =>
    obtain ⟨vx, hx, hc⟩ := c1K_ex hc
    obtain ⟨vi, hi, hc⟩ := c1K_ex hc
    obtain ⟨n, hn, hc⟩ := optK_ex hc
    obtain ⟨pv, hK, hr⟩ := indexP_run (P := P) hn hc
    refine val _ hK fun g0 pk g a hk hov hρ => ?_
    have h1 := hρ x (by simp [Op.operands])
    have h1' := hρ i (by simp [Op.operands])
    rw [hx] at h1
    rw [hi] at h1'
    obtain ⟨v, h2, h3⟩ := hr g0 pk g _ _ hk h1 h1'
    exact ⟨v, by simp [execOp, h2], h3⟩
  case index t x i =>
    obtain ⟨hu, hc⟩ := hc
    obtain ⟨vx, hx, hc⟩ := c1K_ex hc
    obtain ⟨vi, hi, hc⟩ := c1K_ex hc
    obtain ⟨pv, hK, hr⟩ := indexS_run (P := P) (h := h) hu hc
    refine val _ hK fun g0 pk g a hk hov hρ => ?_
    have h1 := hρ x (by simp [Op.operands])
    have h1' := hρ i (by simp [Op.operands])
    rw [hx] at h1
    rw [hi] at h1'
    obtain ⟨v, h2, h3⟩ := hr g _ _ h1 h1'
    exact ⟨v, by simp [execOp, h2], h3⟩
  case slice t x lo hi mx =>
    obtain ⟨hmx, hc⟩ := hc
    obtain ⟨vx, hx, hc⟩ := c1K_ex hc
    obtain ⟨pv, hK, hr⟩ := sliceD_run (P := P) hc
    refine val _ hK fun g0 pk g a hk hov hρ => ?_
    have h1 := hρ x (by simp [Op.operands])
    rw [hx] at h1
    have hmx' : mx = none := by simpa using hmx
    subst hmx'
    obtain ⟨v, h2, h3⟩ := hr g _ (lo.map a.eval) (hi.map a.eval) h1
      (fun z hz => by
        cases lo with
        | none => simp at hz
        | some l => simp at hz; subst hz; exact ⟨_, rfl, hρ l (by simp [Op.operands])⟩)
      (fun hz => by cases lo <;> simp at hz ⊢)
      (fun z hz => by
        cases hi with
        | none => simp at hz
        | some l => simp at hz; subst hz; exact ⟨_, rfl, hρ l (by cases lo <;> simp [Op.operands])⟩)
      (fun hz => by cases hi <;> simp at hz ⊢)
    exact ⟨v, by simp [execOp, h2], h3⟩
  case extract x i =>
    cases hx : ρ x with
    | s _ => rw [hx] at hc; exact hc.elim
    | t xs =>
      rw [hx] at hc
      obtain ⟨y, hy, hK⟩ := optK_ex hc
      refine val _ hK fun g0 pk g a hk hov hρ => ?_
      have h1 := hρ x (by simp [Op.operands])
      rw [hx] at h1
      obtain ⟨vs, h2, h3⟩ := h1
      obtain ⟨u, hu, hR⟩ := h3.get i y hy
      have hu' : vs[i]? = some u := by simpa using hu
      exact ⟨u, by simp [execOp, h2, Instr.extract, hu'], hR⟩
  case nilCheck x =>
    obtain ⟨vx, hx, hc⟩ := c1K_ex hc
    obtain ⟨pv, hK, hr⟩ := nilK_run (P := P) (h := h) (o := ⟨dst, .nilCheck x, type, pos, after, guard⟩) (X := x) hc rfl
    refine val _ hK fun g0 pk g a hk hov hρ => ?_
    have h1 := hρ x (by simp [Op.operands])
    rw [hx] at h1
    exact hr g a.eval h1
  case build t parts =>
    obtain ⟨zp, hz, hc⟩ := optK_ex hc
    obtain ⟨cs, hcs, hK⟩ := optK_ex hc
    refine val _ hK fun g0 pk g a hk hov hρ => ?_
    obtain ⟨v, h2, h3⟩ := build_run hz hcs hov.ov a.eval (fun p hp => hρ p.2 (by simp only [Op.operands]; simp; exact ⟨p.1, by simpa using hp⟩))
    exact ⟨v, by simp [execOp, h2], h3⟩
  case call c =>
    unfold callA at hc
    split at hc
    · rename_i hce
      split at hc
      · rename_i x t hx ht
        obtain ⟨vx, hvx, hc⟩ := c1K_ex hc
        obtain ⟨pv, hK, hr⟩ := lenK_run (P := P) (ty := type) hc
        refine val _ hK fun g0 pk g a hk hov hρ => ?_
        have hargs : c.args = #[x] := by apply Array.ext'; simpa using hx
        have htys : c.argTypes = #[t] := by apply Array.ext'; simpa using ht
        have h1 := hρ x (by simp [Op.operands, Call.operands, hargs])
        rw [hvx] at h1
        obtain ⟨v, h2, h3⟩ := hr g0 pk g _ hk h1
        exact ⟨v, by simp [execOp, resolve, hce, invoke, builtin, hargs, htys, h2], h3⟩
      · exact hc.elim
    · rename_i hce
      split at hc
      · rename_i x y hx
        obtain ⟨vx, hvx, hc⟩ := c1K_ex hc
        obtain ⟨vy, hvy, hc⟩ := c1K_ex hc
        unfold mmK at hc
        split at hc
        · rename_i k a k' b _
          obtain ⟨rfl, hK⟩ := hc
          refine val _ hK fun g0 pk g ac hk hov hρ => ?_
          have hargs : c.args = #[x, y] := by apply Array.ext'; simpa using hx
          have h1 := hρ x (by simp [Op.operands, Call.operands, hargs])
          have h2 := hρ y (by simp [Op.operands, Call.operands, hargs])
          rw [hvx] at h1
          rw [hvy] at h2
          simp only [RepPV, RepV1, RepC] at h1 h2
          exact ⟨_, by simp [execOp, resolve, hce, invoke, builtin, hargs, h1, h2, Builtin.min_, Builtin.min2], rfl⟩
        · exact hc.elim
      · exact hc.elim
    · rename_i hce
      split at hc
      · rename_i x y hx
        obtain ⟨vx, hvx, hc⟩ := c1K_ex hc
        obtain ⟨vy, hvy, hc⟩ := c1K_ex hc
        unfold mmK at hc
        split at hc
        · rename_i k a k' b _
          obtain ⟨rfl, hK⟩ := hc
          refine val _ hK fun g0 pk g ac hk hov hρ => ?_
          have hargs : c.args = #[x, y] := by apply Array.ext'; simpa using hx
          have h1 := hρ x (by simp [Op.operands, Call.operands, hargs])
          have h2 := hρ y (by simp [Op.operands, Call.operands, hargs])
          rw [hvx] at h1
          rw [hvy] at h2
          simp only [RepPV, RepV1, RepC] at h1 h2
          exact ⟨_, by simp [execOp, resolve, hce, invoke, builtin, hargs, h1, h2, Builtin.max_, Builtin.max2], rfl⟩
        · exact hc.elim
      · exact hc.elim
    · rename_i f hce
      obtain ⟨r, ⟨hf, hcall⟩, hK⟩ := hc
      refine ⟨r, hK, fun g0 pk g a hk hov hρ next Q hn => ?_⟩
      have hfv : a.eval (.func f) = .func (.func f) #[] #[] := rfl
      unfold Oper.wp
      rw [call_exec hf a.eval _ c rfl hce hfv]
      refine (hcall g0 pk g (c.args.map a.eval) hk hov ?_).mono fun e w' he => ?_
      · rw [Array.toList_map]
        exact all2_args _ fun x hx => hρ x (by simp only [Op.operands, Call.operands]; simp; exact .inr (by simpa using hx))
      · obtain ⟨g', v, rfl, rfl, h1, h2, h3⟩ := he
        exact hn g' v h1 h2 h3
    · exact hc.elim

end Go.PL
