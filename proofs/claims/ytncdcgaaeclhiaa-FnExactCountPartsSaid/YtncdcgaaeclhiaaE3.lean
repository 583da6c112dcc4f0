/-
  Operations on abstract values, second part: loads, addresses, slices, lengths, struct literals, calls. The operations of this class change no box and no own list.
-/
import Derived.Test.YtncdcgaaeclhiaaE2
import Derived.Laws.Tables
import Derived.Laws.BytesString
namespace Go.PL
set_option linter.unusedSimpArgs false
set_option linter.unusedVariables false

def aggN (P : Program) (t : TypeId) : Option (Option Nat) :=
  match P.underlying t, P.info? t with
  | some d, some i => some (match d with | .struct _ => some i.size | .array _ _ => some i.size | _ => none)
  | _, _ => none
def fOff (P : Program) (t : TypeId) (f : Nat) : Option (Nat × Nat) :=
  match P.underlying t with
  | some (.struct fs) => match fs[f]? with
    | some fd => (P.info? fd.type).map fun i => (fd.offset, i.size)
    | none => none
  | _ => none
def fPart (P : Program) (t : TypeId) (f : Nat) : Option (Nat × Option Nat) :=
  match P.underlying t with
  | some (.struct fs) => match fs[f]? with
    | some fd => (aggN P fd.type).map fun n => (fd.offset, n)
    | none => none
  | _ => none
def eSz (P : Program) (t : TypeId) : Option (TypeId × Nat) :=
  match P.underlying t with
  | some (.slice e) => (P.info? e).map fun i => (e, i.size)
  | _ => none

/-! ### loads -/
def loadC (n : Option Nat) (cs : List C) (off : Nat) (K : PV → Prop) : Prop :=
  match n with
  | none => optK cs[off]? fun c => K (.s (.c c))
  | some n => off + n ≤ cs.length ∧ K (.s (.a ((cs.drop off).take n)))

def Cells (g : Gh) (h : Hp) (b o : Nat) (cs : List C) : Prop := ∀ j c, cs[j]? = some c → ∃ u, g.w.cell? ⟨b, o + j, none⟩ = some u ∧ RepC g h c u
theorem Cells.tail {g : Gh} {h : Hp} {b o : Nat} {c : C} {cs : List C} (hc : Cells g h b o (c :: cs)) : Cells g h b (o + 1) cs := fun j x hx => by
  obtain ⟨u, h1, h2⟩ := hc (j + 1) x (by simpa using hx)
  exact ⟨u, by rw [Nat.add_assoc, Nat.add_comm 1 j]; exact h1, h2⟩
theorem Cells.drop {g : Gh} {h : Hp} {b o : Nat} {cs : List C} (hc : Cells g h b o cs) (k : Nat) : Cells g h b (o + k) (cs.drop k) := fun j x hx => by
  obtain ⟨u, h1, h2⟩ := hc (k + j) x (by simpa using hx)
  exact ⟨u, by rw [Nat.add_assoc]; exact h1, h2⟩
theorem Cells.take {g : Gh} {h : Hp} {b o : Nat} {cs : List C} (hc : Cells g h b o cs) (k : Nat) : Cells g h b o (cs.take k) := fun j x hx => by
  refine hc j x ?_
  rw [List.getElem?_take] at hx
  split at hx
  · exact hx
  · cases hx
theorem Cells.list {g : Gh} {h : Hp} {b : Nat} : ∀ {cs : List C} {o : Nat}, Cells g h b o cs → ∃ us : List Value, All2 (RepC g h) cs us ∧ ∀ j u, us[j]? = some u → g.w.cell? ⟨b, o + j, none⟩ = some u
  | [], _, _ => ⟨[], trivial, fun j u hu => by simp at hu⟩
  | c :: cs, o, hc => by
    obtain ⟨us, h1, h2⟩ := Cells.list hc.tail
    obtain ⟨u, h3, h4⟩ := hc 0 c (by simp)
    refine ⟨u :: us, ⟨h4, h1⟩, fun j x hx => ?_⟩
    cases j with
    | zero => simp at hx; subst hx; simpa using h3
    | succ j =>
      have := h2 j x (by simpa using hx)
      rw [Nat.add_assoc, Nat.add_comm 1 j] at this
      exact this

theorem run_isAgg {P : Program} {t : TypeId} {n : Option Nat} (h : aggN P t = some n) (w : World) :
    (isAgg t).run P w = .ok n.isSome w ∧ ∀ m, n = some m → (sizeOf t).run P w = .ok m w := by
  unfold aggN at h
  split at h
  · rename_i d i hd hi
    simp only [Option.some.injEq] at h
    refine ⟨?_, fun m hm => ?_⟩
    · cases d <;> simp at h <;> subst h <;> simp [isAgg, run_underlying hd]
    · have : i.size = m := by cases d <;> simp at h <;> simp_all
      simp [sizeOf, typeInfo, hi, this]
  · cases h

theorem loadC_sound {P : Program} {t : TypeId} {n : Option Nat} {cs : List C} {off : Nat} {K : PV → Prop} (hn : aggN P t = some n) (h : loadC n cs off K) :
    ∃ pv, K pv ∧ ∀ g hp b o, Cells g hp b o cs → ∃ v, (loadVar t ⟨b, o + off, none⟩).run P g.w = .ok v g.w ∧ RepPV g hp pv v := by
  cases n with
  | none =>
    obtain ⟨c, hc, hK⟩ := optK_ex h
    refine ⟨_, hK, fun g hp b o hcs => ?_⟩
    obtain ⟨u, h1, h2⟩ := hcs off c hc
    exact ⟨u, by simp [loadVar, (run_isAgg hn g.w).1, h1], h2⟩
  | some n =>
    obtain ⟨hle, hK⟩ := h
    refine ⟨_, hK, fun g hp b o hcs => ?_⟩
    obtain ⟨us, h1, h2⟩ := ((hcs.drop off).take n).list
    have hl : us.length = n := by rw [← h1.length]; simp; omega
    have hr := run_loadCells_list (P := P) g.w ⟨b, o + off, none⟩ us (fun j u hu => by rw [Addr.add_lit]; exact h2 j u hu)
    rw [hl] at hr
    exact ⟨.agg us.toArray, by simp [loadVar, (run_isAgg hn g.w).1, (run_isAgg hn g.w).2 n rfl, hr], us.toArray, rfl, by simpa using h1⟩

theorem flat_drop {sz : Nat} : ∀ {xs : List Value}, (∀ x ∈ xs, x.cells.size = sz) → ∀ k, (flat xs).drop (k * sz) = flat (xs.drop k)
  | [], _, k => by simp [flat]
  | x :: xs, h, 0 => by simp
  | x :: xs, h, k + 1 => by
    have hx : x.cells.toList.length = sz := by simpa using h x (by simp)
    have : flat (x :: xs) = x.cells.toList ++ flat xs := by simp [flat]
    rw [this, Nat.add_mul, Nat.one_mul, Nat.add_comm, List.drop_append]
    simp only [hx]
    rw [List.drop_of_length_le (by omega)]
    have e : sz + k * sz - sz = k * sz := by omega
    rw [e, List.nil_append, flat_drop (fun y hy => h y (by simp [hy])) k]
    simp
theorem flat_len {sz : Nat} : ∀ {xs : List Value}, (∀ x ∈ xs, x.cells.size = sz) → (flat xs).length = xs.length * sz
  | [], _ => by simp [flat]
  | x :: xs, h => by
    have hx : x.cells.toList.length = sz := by simpa using h x (by simp)
    have : flat (x :: xs) = x.cells.toList ++ flat xs := by simp [flat]
    rw [this, List.length_append, hx, flat_len (fun y hy => h y (by simp [hy])), List.length_cons, Nat.add_mul, Nat.one_mul, Nat.add_comm]
theorem flat_take {sz : Nat} : ∀ {xs : List Value}, (∀ x ∈ xs, x.cells.size = sz) → ∀ k, (flat xs).take (k * sz) = flat (xs.take k)
  | [], _, k => by simp [flat]
  | x :: xs, h, 0 => by simp [flat]
  | x :: xs, h, k + 1 => by
    have hx : x.cells.toList.length = sz := by simpa using h x (by simp)
    have h1 : flat (x :: xs) = x.cells.toList ++ flat xs := by simp [flat]
    have h2 : flat (x :: xs.take k) = x.cells.toList ++ flat (xs.take k) := by simp [flat]
    rw [List.take_succ_cons, h1, h2, Nat.add_mul, Nat.one_mul, Nat.add_comm, List.take_append]
    simp only [hx]
    rw [List.take_of_length_le (by omega)]
    have e : sz + k * sz - sz = k * sz := by omega
    rw [e, flat_take (fun y hy => h y (by simp [hy])) k]
theorem flat_get {sz : Nat} {xs : List Value} (h : ∀ x ∈ xs, x.cells.size = sz) {k : Nat} {x : Value} (hk : xs[k]? = some x) :
    (flat xs).drop (k * sz) = x.cells.toList ++ flat (xs.drop (k + 1)) := by
  rw [flat_drop h]
  have hlt : k < xs.length := (List.getElem?_eq_some_iff.1 hk).1
  have hx : xs[k] = x := (List.getElem?_eq_some_iff.1 hk).2
  rw [List.drop_eq_getElem_cons hlt, hx]
  simp [flat]

theorem Row.drop {g : Gh} {b off : Nat} {cs : List Value} (h : Row g b off cs) (k : Nat) : Row g b (off + k) (cs.drop k) := fun j hj => by
  have hj' : k + j < cs.length := by simp at hj; omega
  have := h (k + j) hj'
  rw [← Nat.add_assoc] at this
  simpa using this
theorem Row.take {g : Gh} {b off : Nat} {cs : List Value} (h : Row g b off cs) (k : Nat) : Row g b off (cs.take k) := fun j hj => by
  have hj' : j < cs.length := by simp at hj; omega
  simpa using h j hj'
theorem Row.left {g : Gh} {b off : Nat} {cs ds : List Value} (h : Row g b off (cs ++ ds)) : Row g b off cs := by
  have := h.take cs.length
  simpa using this
theorem Row.cells {g : Gh} {h : Hp} {b off : Nat} {cs : List Value} (hr : Row g b off cs) : Cells g h b off (cs.map .v) := fun j c hc => by
  rw [List.getElem?_map] at hc
  cases hx : cs[j]? with
  | none => simp [hx] at hc
  | some u =>
    simp [hx] at hc
    subst hc
    obtain ⟨hj, e⟩ := List.getElem?_eq_some_iff.1 hx
    exact ⟨u, by rw [(hr j hj).1, e], rfl⟩

theorem box_cells {g0 : Gh} {pk : Pk} {g : Gh} {h : Hp} (hk : HeapOk g0 pk g h) {id : Nat} {cs : List C} (hm : (id, cs) ∈ h.boxes) : Cells g h (g.bx id) 0 cs := fun j c hc => by
  obtain ⟨arr, ty, h1, h2, _⟩ := (hk.boxes id cs hm).cells
  obtain ⟨u, hu, hR⟩ := h2.get j c hc
  exact ⟨u, by rw [Nat.zero_add, cell_of_row _ _ _ _ _ _ h1]; simpa using hu, hR⟩
theorem list_cells {g0 : Gh} {pk : Pk} {g : Gh} {h : Hp} (hk : HeapOk g0 pk g h) {id : Nat} {lo : LO} (hm : (id, lo) ∈ h.lists) (hl : lo.live = true)
    {b n cap : Nat} (hb : g.ov id = .slice (some ⟨b, 0, none⟩) n cap) {idx : Nat} {x : Value} (hx : lo.xs[idx]? = some x) : Cells g h b (idx * lo.sz) (x.cells.toList.map .v) := fun j c hc => by
  have hL := hk.lists id lo hm hl
  rw [List.getElem?_map] at hc
  cases hu : x.cells.toList[j]? with
  | none => simp [hu] at hc
  | some u =>
    simp [hu] at hc
    subst hc
    refine ⟨u, ?_, rfl⟩
    have h1 := flat_get hL.sz hx
    have h2 : (flat lo.xs)[idx * lo.sz + j]? = some u := by
      rw [← List.getElem?_drop, h1, List.getElem?_append_left (List.getElem?_eq_some_iff.1 hu).1]
      exact hu
    have := hL.own.cells (g := b) (by rw [hb]; rfl) _ u h2
    rwa [Addr.add_lit, Nat.zero_add] at this

/-! ### one operation -/
def v1K : PV → (V1 → Prop) → Prop
  | .s x, K => K x
  | _, _ => False
def c1K : PV → (C → Prop) → Prop
  | .s (.c x), K => K x
  | _, _ => False
theorem v1K_ex {x : PV} {K : V1 → Prop} (h : v1K x K) : ∃ y, x = .s y ∧ K y := by
  cases x with
  | s y => exact ⟨y, rfl, h⟩
  | t _ => exact h.elim
theorem c1K_ex {x : PV} {K : C → Prop} (h : c1K x K) : ∃ y, x = .s (.c y) ∧ K y := by
  cases x with
  | s y => cases y with
    | c y => exact ⟨y, rfl, h⟩
    | a _ => exact h.elim
  | t _ => exact h.elim

def pickK : C → Prop → Prop → Prop
  | .v (.bool t), a, b => (t = true → a) ∧ (t = false → b)
  | _, _, _ => False
def unC (op : UnOp) : C → (PV → Prop) → Prop
  | .v (.bool b), K => op = .not ∧ K (vB !b)
  | .v (.int k n), K => op = .neg ∧ inK k (-n) ∧ K (vV (.int k (-n)))
  | _, _ => False
def bytesL (xs : List Value) : Option (List Int) := xs.mapM fun | .int .u8 n => some n | _ => none
def strOf (ns : List Int) : ByteArray := ns.foldl (fun r n => r.push (UInt8.ofNat n.toNat)) ByteArray.empty
def convD (P : Program) (h : Hp) : Option TypeDesc → Option TypeDesc → C → (PV → Prop) → Prop
  | some _, some (.int k), .v (.int _ n), K => inK k n ∧ K (vV (.int k n))
  | some _, some .string, .v (.int _ n), K => K (vV (.string (Utf8.encode n)))
  | some (.slice e), some .string, .l _ xs, K => P.underlying e = some (.int .u8) ∧ optK (bytesL xs) fun ns => K (vV (.string (strOf ns)))
  | some (.slice e), some .string, .o id, K => P.underlying e = some (.int .u8) ∧ optK (fnd h.lists id) fun lo => lo.live = true ∧ optK (bytesL lo.xs) fun ns => K (vV (.string (strOf ns)))
  | _, _, _, _ => False
def loadP (h : Hp) (n : Option Nat) : C → (PV → Prop) → Prop
  | .p id off, K => optK (fnd h.boxes id) fun cs => loadC n cs off K
  | .q cs, K => loadC n (cs.map .v) 0 K
  | .e id sz idx off, K => optK (fnd h.lists id) fun lo => (lo.live = true ∧ lo.sz = sz) ∧ optK lo.xs[idx]? fun x => loadC n (x.cells.toList.map .v) off K
  | _, _ => False
def fieldP (fo : Nat × Nat) : C → (PV → Prop) → Prop
  | .p id off, K => fo.2 ≠ 0 ∧ K (.s (.c (.p id (off + fo.1))))
  | .q cs, K => fo.2 ≠ 0 ∧ K (.s (.c (.q (cs.drop fo.1))))
  | .e id sz idx off, K => fo.2 ≠ 0 ∧ K (.s (.c (.e id sz idx (off + fo.1))))
  | _, _ => False
def fieldV (fp : Nat × Option Nat) : V1 → (PV → Prop) → Prop
  | .a cs, K => loadC fp.2 cs fp.1 K
  | _, _ => False
def indexP (h : Hp) (es : Nat) : C → C → (PV → Prop) → Prop
  | .l sz xs, .v (.int _ n), K => sz = es ∧ 0 ≤ n ∧ optK xs[n.toNat]? fun x => K (.s (.c (.q x.cells.toList)))
  | .o id, .v (.int _ n), K => optK (fnd h.lists id) fun lo => (lo.live = true ∧ lo.sz = es) ∧ 0 ≤ n ∧ optK lo.xs[n.toNat]? fun _ => K (.s (.c (.e id es n.toNat 0)))
  | _, _, _ => False
def indexS : C → C → (PV → Prop) → Prop
  | .v (.string s), .v (.int _ n), K => 0 ≤ n ∧ optK s[n.toNat]? fun b => K (vV (.int .u8 b.toNat))
  | _, _, _ => False
def lenC (h : Hp) : C → Option Nat
  | .l _ xs => some xs.length
  | .o id => match fnd h.lists id with
    | some lo => if lo.live = true then some lo.xs.length else none
    | none => none
  | .v (.slice none 0 0) => some 0
  | _ => none
def lenK (h : Hp) (d : Option TypeDesc) (x : C) (K : PV → Prop) : Prop :=
  match d, x with
  | some .string, .v (.string s) => K (vI s.size)
  | some (.slice _), x => optK (lenC h x) fun n => K (vI n)
  | _, _ => False
/-- the bounds of a slice expression: nothing written: 0, the length -/
def loK : Option PV → (Nat → Prop) → Prop
  | none, K => K 0
  | some (.s (.c (.v (.int _ n)))), K => 0 ≤ n ∧ K n.toNat
  | _, _ => False
def hiK (len : Nat) : Option PV → (Nat → Prop) → Prop
  | none, K => K len
  | some (.s (.c (.v (.int _ n)))), K => 0 ≤ n ∧ n ≤ len ∧ K n.toNat
  | _, _ => False
def sliceD (h : Hp) (es : Option (TypeId × Nat)) : Option TypeDesc → C → Option PV → Option PV → (PV → Prop) → Prop
  | some .string, .v (.string s), lo, hi, K => hiK s.size hi fun b => loK lo fun a => a ≤ b ∧ K (vV (.string (s.extract a b)))
  | some (.slice _), .l sz xs, lo, hi, K => es.map (·.2) = some sz ∧ hiK xs.length hi fun b => loK lo fun a => a ≤ b ∧ K (.s (.c (.l sz ((xs.take b).drop a))))
  | _, _, _, _, _ => False
def nilK : C → (PV → Prop) → Prop
  | .p id off, K => K (.s (.c (.p id off)))
  | .q cs, K => K (.s (.c (.q cs)))
  | _, _ => False
def isCell : C → Bool
  | .v u => u.oneCell'
  | .any => false
  | _ => true
def cells1 : V1 → Option (List C)
  | .c x => if isCell x = true then some [x] else none
  | .a xs => if xs.all isCell = true then some xs else none
def setAll : List C → Nat → List C → List C
  | cs, _, [] => cs
  | cs, off, v :: vs => setAll (cs.set off v) (off + 1) vs
def fillA (places : List (Nat × Nat)) : List C → List (Nat × Option (List C)) → Option (List C)
  | cells, [] => some cells
  | cells, (i, some vs) :: rest => match places[i]? with
    | some (off, size) => if vs.length = size ∧ off + vs.length ≤ cells.length then fillA places (setAll cells off vs) rest else none
    | none => none
  | _, (_, none) :: _ => none
/-- a struct's zero cells, and each field's place -/
def structP (P : Program) (t : TypeId) : Option (List Value × List (Nat × Nat)) :=
  match P.info? t, P.underlying t with
  | some it, some (.struct fields) => match it.zero, fields.toList.mapM (fun f => (P.info? f.type).map fun i => (f.offset, i.size)) with
    | some z, some places => some (z.cells.toList, places)
    | _, _ => none
  | _, _ => none
def partsOf (ρ : Operand → PV) : List (Nat × Operand) → List (Nat × Option (List C))
  | [] => []
  | (i, x) :: r => (i, match ρ x with | .s y => cells1 y | _ => none) :: partsOf ρ r

def noDup {α : Type} : List (Nat × α) → Prop
  | [] => True
  | (k, _) :: r => hasKey r k = false ∧ noDup r
/-- the own lists' values are slices -/
def OvOk (g : Gh) (h : Hp) : Prop := ∀ id lo, (id, lo) ∈ h.lists → (g.ov id).oneCell' = true
/-- what is asked of the ghosts besides -/
structure WfG (g : Gh) (h : Hp) : Prop where
  ov : OvOk g h
  nd : noDup h.lists
theorem WfG.ext {g g' : Gh} {h : Hp} (wf : WfG g h) (he : Ext g h g' h) : WfG g' h := ⟨fun id lo hm => by rw [(he.lst id lo hm).2]; exact wf.ov id lo hm, wf.nd⟩
/-- a call whose contract holds wherever these values are shown -/
def CallOk (P : Program) (h : Hp) (f : FuncId) (args : List PV) (r : PV) : Prop :=
  (∃ fn, P.funcs[f]? = some fn ∧ (fn.name == "runtime.NumGoroutine") = false ∧ fn.body.isNone = false) ∧
  ∀ g0 pk g (cargs : Array Value), HeapOk g0 pk g h → WfG g h → All2 (RepPV g h) args cargs.toList →
    Calls P f cargs g.w fun e w' => ∃ g' v, e = .returned v ∧ g'.w = w' ∧ HeapOk g0 pk g' h ∧ Ext g h g' h ∧ RepPV g' h r v
def CallA (P : Program) (h : Hp) (f : FuncId) (args : List PV) (K : PV → Prop) : Prop := ∃ r, CallOk P h f args r ∧ K r

/-- the builtins min and max at two integers -/
def mmK (hi : Bool) : C → C → (PV → Prop) → Prop
  | .v (.int k a), .v (.int k' b), K => k' = k ∧ K (vV (.int k (if hi = true then (if b > a then b else a) else (if b < a then b else a))))
  | _, _, _ => False
def callA (P : Program) (h : Hp) (ρ : Operand → PV) (c : Call) (K : PV → Prop) : Prop :=
  match c.callee with
  | .builtin .len => match c.args.toList, c.argTypes.toList with
    | [x], [t] => c1K (ρ x) fun x => lenK h (P.underlying t) x K
    | _, _ => False
  | .builtin .min => match c.args.toList with
    | [x, y] => c1K (ρ x) fun x => c1K (ρ y) fun y => mmK false x y K
    | _ => False
  | .builtin .max => match c.args.toList with
    | [x, y] => c1K (ρ x) fun x => c1K (ρ y) fun y => mmK true x y K
    | _ => False
  | .value (.func f) => CallA P h f (c.args.toList.map ρ) K
  | _ => False

def opA (P : Program) (h : Hp) (ρ : Operand → PV) (op : Op) (K : PV → Prop) : Prop :=
  match op with
  | .move x => K (ρ x)
  | .assign x => K (ρ x)
  | .pick c a b => c1K (ρ c) fun c => pickK c (K (ρ a)) (K (ρ b))
  | .binOp op t x y _ => v1K (ρ x) fun x => v1K (ρ y) fun y => binV P op t x y fun v => K (vV v)
  | .unOp op _ x => c1K (ρ x) fun x => unC op x K
  | .convert s d x => c1K (ρ x) fun x => convD P h (P.underlying s) (P.underlying d) x K
  | .load t a => c1K (ρ a) fun a => optK (aggN P t) fun n => loadP h n a K
  | .fieldAddr t x f => c1K (ρ x) fun x => optK (fOff P t f) fun fo => fieldP fo x K
  | .field t x f => v1K (ρ x) fun x => optK (fPart P t f) fun fp => fieldV fp x K
  | .indexAddr t x i => c1K (ρ x) fun x => c1K (ρ i) fun i => optK (eSz P t) fun es => indexP h es.2 x i K
  | .index t x i => P.underlying t = some .string ∧ c1K (ρ x) fun x => c1K (ρ i) fun i => indexS x i K
  | .slice t x lo hi mx => mx.isNone = true ∧ c1K (ρ x) fun x => sliceD h (eSz P t) (P.underlying t) x (lo.map ρ) (hi.map ρ) K
  | .extract x i => match ρ x with
    | .t xs => optK xs[i]? fun x => K (.s x)
    | _ => False
  | .nilCheck x => c1K (ρ x) fun x => nilK x K
  | .build t parts => optK (structP P t) fun zp => optK (fillA zp.2 (zp.1.map .v) (partsOf ρ parts.toList)) fun cs => K (.s (.a cs))
  | .call c => callA P h ρ c K
  | _ => False

end Go.PL
