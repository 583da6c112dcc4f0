/-
  Strings as lists of bytes.
-/
import Derived.Test.YtnbopnipfegboaaDoorEm
import Derived.Lib.Strings
namespace Go.PL
open Go.RowKit
set_option linter.unusedSimpArgs false
/-- the string of these bytes -/
def sB (l : List UInt8) : ByteArray := ⟨l.toArray⟩
abbrev vS (l : List UInt8) : PV := .s (.c (.v (.string (sB l))))
abbrev sV (l : List UInt8) : Value := .string (sB l)
theorem sB_data (l : List UInt8) : (sB l).data.toList = l := by simp [sB]
theorem sB_of (s : ByteArray) : s = sB s.data.toList := by cases s; simp [sB]
theorem sB_inj {a b : List UInt8} (h : sB a = sB b) : a = b := by rw [← sB_data a, h, sB_data]
theorem sB_size (l : List UInt8) : (sB l).size = l.length := by simp [sB, ByteArray.size]
theorem sB_lit (l : List UInt8) : (⟨l.toArray⟩ : ByteArray) = sB l := rfl
theorem sB_ext {s t : ByteArray} (h : s.data.toList = t.data.toList) : s = t := by rw [sB_of s, sB_of t, h]
theorem sB_add (a b : List UInt8) : sB a ++ sB b = sB (a ++ b) := sB_ext (by rw [sB_data, ByteArray.toList_data_append]; simp [sB_data])
theorem sB_cut (l : List UInt8) (a b : Nat) : (sB l).extract a b = sB ((l.drop a).take (b - a)) := sB_ext (by
  rw [sB_data, Lib.extract_data, sB_data])
theorem sB_at (l : List UInt8) (i : Nat) : (sB l)[i]? = l[i]? := by
  by_cases h : i < l.length
  · rw [List.getElem?_eq_getElem h, getElem?_pos (sB l) i (by rw [sB_size]; exact h)]
    rfl
  · rw [List.getElem?_eq_none (by omega), getElem?_neg (sB l) i (by rw [sB_size]; exact h)]
theorem sB_toList (l : List UInt8) : (sB l).toList = l := by rw [ByteArray.toList_eq]; simp [sB]
theorem strOf_go (ns : List Int) : ∀ r : List UInt8, ns.foldl (fun r n => r.push (UInt8.ofNat n.toNat)) (sB r) = sB (r ++ ns.map fun n => UInt8.ofNat n.toNat) := by
  induction ns with
  | nil => intro r; simp
  | cons n ns ih =>
    intro r
    have e : (sB r).push (UInt8.ofNat n.toNat) = sB (r ++ [UInt8.ofNat n.toNat]) := by
      unfold sB ByteArray.push
      simp
    rw [List.foldl_cons, e, ih]
    simp
theorem strOf_sB (ns : List Int) : strOf ns = sB (ns.map fun n => UInt8.ofNat n.toNat) := by
  have := strOf_go ns []
  rw [List.nil_append] at this
  exact this
theorem eq_sB {a b : List UInt8} : (a == b) = decide (a = b) := by rw [Bool.eq_iff_iff]; simp
/-! ### functions of the library, by contracts over worlds -/
theorem below_gh {g0 : Gh} {pk : Pk} {g : Gh} {h : Hp} (hk : HeapOk g0 pk g h) (wf : WfG g h) {w' : World} (hb : Below g.w.heap.size g.w w') : HeapOk g0 pk { g with w := w' } h ∧ WfG { g with w := w' } h ∧ Ext g h { g with w := w' } h := by
  have hs := hk.step w' g.V hb.os hb.tape hb.output hb.size (fun k hlt => hb.block k hlt) (fun _ _ h => h) (fun _ _ _ h => h) (fun b o hv => Nat.lt_of_lt_of_le (hk.vin b o hv) hb.size)
  exact ⟨hs.1, wf.ext hs.2, hs.2⟩
/-- what a contract over worlds says of a function that writes nothing old and hands back an exact value -/
theorem pc_lib {P : Program} {f : FuncId} {vs : List V1} {r : PV} (hf : Callable P f)
    (hc : ∀ g (cargs : Array Value), HeapOk g ⟨[], []⟩ g ⟨[], []⟩ → All2 (RepV1 g ⟨[], []⟩) vs cargs.toList → Calls P f cargs g.w fun e w' => (∃ v, e = .returned v ∧ ∀ g' h', RepPV g' h' r v) ∧ Below g.w.heap.size g.w w') : PC P f [] vs r ⟨[], []⟩ := by
  refine ⟨⟨hf, fun g cargs hk wf ha => ?_⟩⟩
  refine (hc g cargs hk ha).mono fun e w' hx => ?_
  obtain ⟨⟨v, rfl, hv⟩, hb⟩ := hx
  obtain ⟨h1, h2, _⟩ := below_gh hk wf hb
  exact ⟨_, v, rfl, rfl, h1, h2, hv _ _⟩
/-- the same where a new list is handed back -/
theorem pc_libL {P : Program} {f : FuncId} {vs : List V1} {xs : List Value} {e : TypeId} (d : Nat) (hf : Callable P f) (hx : ∀ x ∈ xs, x.cells.size = 1) (ho : ∀ x ∈ xs, x.oneCell' = true) (hl : xs.length ≤ maxLen) (hfl : flat xs = xs)
    (hc : ∀ g (cargs : Array Value), HeapOk g ⟨[], []⟩ g ⟨[], []⟩ → All2 (RepV1 g ⟨[], []⟩) vs cargs.toList → Calls P f cargs g.w fun ed w' => ed = .returned (.slice (some ⟨g.w.heap.size, 0, none⟩) xs.length xs.length) ∧ w' = g.w.alloc (.cells xs.toArray e)) :
    PC P f [] vs (.s (.c (.o d))) ⟨[], [(d, ⟨e, 1, xs, false, true⟩)]⟩ := by
  refine ⟨⟨hf, fun g cargs hk wf ha => ?_⟩⟩
  refine (hc g cargs hk ha).mono fun ed w' hx' => ?_
  obtain ⟨rfl, rfl⟩ := hx'
  obtain ⟨g', h1, h2, h3, _, h5⟩ := newList hk wf (d := d) rfl (e := e) (sz := 1) (xs := xs) (cells := xs.toArray) xs.length (by rw [Nat.mul_one, hfl]; simp) (by simp) (Nat.le_refl _) hl hx (by rw [hfl]; exact ho) (by omega)
  exact ⟨g', _, rfl, h1, h2, h3, h5⟩
theorem HeapOk.table {g0 : Gh} {pk : Pk} {g : Gh} {h : Hp} (hk : HeapOk g0 pk g h) : ∃ rows, TabP rows ∧ ∀ x ∈ rows, (∃ ty fz, g.w.heap[x.1]? = some (.cells x.2.toArray ty fz)) := by
  obtain ⟨rows, h1, h2⟩ := hk.tabAt
  exact ⟨rows, h1, fun x hx => (h2 x hx).1.blk⟩
theorem bytesL_1 {n : Int} : bytesL [.int .u8 n] = some [n] := rfl
theorem bytesL_ns {ns : List Int} : bytesL (ns.map (.int .u8)) = some ns := by
  induction ns with
  | nil => rfl
  | cons n ns ih =>
    have : bytesL (Value.int .u8 n :: ns.map (.int .u8)) = (bytesL (ns.map (.int .u8))).map (n :: ·) := by
      simp only [bytesL, List.mapM_cons]
      cases List.mapM (fun x : Value => match x with | .int .u8 n => some n | _ => none) (ns.map (.int .u8)) <;> rfl
    rw [List.map_cons, this, ih]; rfl
attribute [go_sem] bytesL_1 bytesL_ns sB_lit sB_add sB_cut sB_at sB_toList sB_size strOf_sB eq_sB
end Go.PL
