/-
  From a law's contract to what the row asks: the ghosts at a call's begin, what an argument of a given type reads as, what has not changed.
-/
import Derived.Test.YtahnbliabllflaaEf
import Derived.Carry
import Derived.ReadAgain
import Derived.ProofKit
import Derived.OpenShut
namespace Go.PL
open Go.RowKit Go.WideShapes Go.ChangeShapes Go.ChangeAt
set_option linter.unusedSimpArgs false
set_option linter.unusedVariables false

/-- the ghosts at the begin: all that stands is published -/
def gOf (W : World) : Gh := { w := W, V := fun b _ => b < W.heap.size, bx := fun _ => 0, ov := fun _ => .tuple #[], M := fun _ _ => False }
def h0 : Hp := ⟨[], []⟩
theorem gOf_ok (W : World) (ht : Tab0 (gOf W) ⟨[], []⟩) : HeapOk (gOf W) ⟨[], []⟩ (gOf W) ⟨[], []⟩ := entryOk (fun _ _ h => h) ht (fun _ _ h => h.elim)
/-- where the code reads no package-level variable -/
theorem tab_none (h : TabP []) (g : Gh) (pk : Pk) : Tab0 g pk := ⟨[], h, fun _ h => by simp at h⟩
theorem HeapOk.below {g0 g : Gh} {h : Hp} (hk : HeapOk g0 ⟨[], []⟩ g h) (hnm : ∀ {k : Nat} (G : List MapEntry → Prop), ¬ g0.M k G) : Below g0.w.heap.size g0.w g.w :=
  ⟨hk.os, hk.tape, hk.output, hk.size, fun k hlt => hk.frame k hlt (fun _ h => by simp at h) (fun _ h => by simp at h) hnm⟩
theorem calls_true {P : Program} {f : FuncId} {xs : List V1} {h' : Hp} (hc : PC P f [] xs (vB true) h') (W : World) (ht : Tab0 (gOf W) ⟨[], []⟩) (cargs : Array Value) (ha : All2 (RepV1 (gOf W) ⟨[], []⟩) xs cargs.toList) :
    Calls P f cargs W fun e w' => e = .returned (.bool true) ∧ Below W.heap.size W w' := by
  refine (hc.ok.2 (gOf W) cargs (gOf_ok W ht) ⟨fun _ _ h => by simp at h, trivial⟩ ha).mono fun e w' h => ?_
  obtain ⟨g', v, rfl, rfl, hk, _, hv⟩ := h
  have : v = .bool true := hv
  exact ⟨by rw [this], hk.below fun _ h => h⟩

/-! ### what a value of a type reads as -/
inductive K0 where
  | i (k : IntKind)
  | b
  | s
inductive K1 where
  | z (k : K0)
  | l (sz : Nat) (agg : Bool) (ks : List K0)
def joinF {α : Type} (rec : TypeId → Option (List α)) (P : Program) : Nat → List Field → Option (List α)
  | _, [] => some []
  | o, f :: r =>
    if f.offset = o then
      match rec f.type, joinF rec P (o + P.cellsOf f.type) r with
      | some a, some b => if a.length = P.cellsOf f.type then some (a ++ b) else none
      | _, _ => none
    else none
def flat0 (P : Program) : Nat → TypeId → Option (List K0)
  | 0, _ => none
  | n + 1, t => match P.underlying t with
    | some .bool => some [.b]
    | some (.int k) => some [.i k]
    | some .string => some [.s]
    | some (.struct fs) => joinF (flat0 P n) P 0 fs.toList
    | _ => none
def isAgg (P : Program) (t : TypeId) : Bool := match P.underlying t with
  | some (.struct _) => true
  | _ => false
def flat1 (P : Program) : Nat → TypeId → Option (List K1)
  | 0, _ => none
  | n + 1, t => match P.underlying t with
    | some .bool => some [.z .b]
    | some (.int k) => some [.z (.i k)]
    | some .string => some [.z .s]
    | some (.slice e) => match flat0 P n e with
      | some ks => if ks.length = P.cellsOf e ∧ 0 < P.cellsOf e ∧ (isAgg P e = false → P.cellsOf e = 1) then some [.l (P.cellsOf e) (isAgg P e) ks] else none
      | none => none
    | some (.struct fs) => joinF (flat1 P n) P 0 fs.toList
    | _ => none
def Is0 : K0 → Value → Prop
  | .i k, u => ∃ n, u = .int k n ∧ inK k n
  | .b, u => ∃ b, u = .bool b
  | .s, u => ∃ s : ByteArray, u = .string s ∧ s.size ≤ maxLen
def IsE (agg : Bool) (ks : List K0) (x : Value) : Prop :=
  if agg = true then ∃ cs : List Value, x = .agg cs.toArray ∧ All2 Is0 ks cs else ∃ k, ks = [k] ∧ Is0 k x
/-- a cell, typed -/
def TC : K1 → C → Prop
  | .z k, .v u => Is0 k u
  | .l sz agg ks, .l sz' xs => sz' = sz ∧ xs.length ≤ maxLen ∧ ∀ x ∈ xs, IsE agg ks x
  | _, _ => False
def Is1 (W : World) (k : K1) (u : Value) : Prop := ∃ c, TC k c ∧ RepC (gOf W) ⟨[], []⟩ c u
theorem Is0.one {k : K0} {u : Value} (h : Is0 k u) : u.oneCell' = true ∧ u.cells.size = 1 := by
  cases k with
  | i k => obtain ⟨n, rfl, _⟩ := h; exact ⟨rfl, rfl⟩
  | b => obtain ⟨n, rfl⟩ := h; exact ⟨rfl, rfl⟩
  | s => obtain ⟨n, rfl, _⟩ := h; exact ⟨rfl, rfl⟩
theorem All2.mem_right {α β : Type} {R : α → β → Prop} : ∀ {l : List α} {m : List β}, All2 R l m → ∀ y ∈ m, ∃ x ∈ l, R x y
  | [], [], _, _, h => by simp at h
  | a :: l, b :: m, ⟨h, hr⟩, y, hy => by
    rcases List.mem_cons.1 hy with rfl | hy
    · exact ⟨a, by simp, h⟩
    · obtain ⟨x, hx, hR⟩ := All2.mem_right hr y hy
      exact ⟨x, by simp [hx], hR⟩
  | [], _ :: _, h, _, _ => h.elim
  | _ :: _, [], h, _, _ => h.elim
theorem IsE.cells {agg : Bool} {ks : List K0} {x : Value} (h : IsE agg ks x) (h1 : agg = false → ks.length = 1) : x.cells.size = ks.length ∧ ∀ u ∈ x.cells.toList, u.oneCell' = true := by
  unfold IsE at h
  split at h
  · obtain ⟨cs, rfl, ha⟩ := h
    refine ⟨by simpa [Value.cells] using ha.length.symm, fun u hu => ?_⟩
    obtain ⟨k, _, hk⟩ := ha.mem_right u (by simpa [Value.cells] using hu)
    exact hk.one.1
  · obtain ⟨k, rfl, hk⟩ := h
    refine ⟨by simpa using hk.one.2, fun u hu => ?_⟩
    cases k with
    | i k => obtain ⟨n, rfl, _⟩ := hk; simp [Value.cells] at hu; subst hu; rfl
    | b => obtain ⟨n, rfl⟩ := hk; simp [Value.cells] at hu; subst hu; rfl
    | s => obtain ⟨n, rfl, _⟩ := hk; simp [Value.cells] at hu; subst hu; rfl

section
variable {H : Type} {enc : TypeId × Value → H} {P : Program} {W : World} {sp : Nat → Bool} {held : Bool}
theorem joinF_all {α : Type} {R : α → Value → Prop} {rec : TypeId → Option (List α)} {cs : List Value} : ∀ (fs : List Field) (o : Nat) (ks : List α), joinF rec P o fs = some ks →
    (∀ f ∈ fs, ∀ a, rec f.type = some a → All2 R a ((cs.drop f.offset).take (P.cellsOf f.type))) → o + ks.length = cs.length → All2 R ks (cs.drop o)
  | [], o, ks, h, _, hl => by
    simp only [joinF, Option.some.injEq] at h
    subst h
    rw [List.drop_of_length_le (by simp at hl; omega)]
    trivial
  | f :: r, o, ks, h, hf, hl => by
    simp only [joinF] at h
    split at h
    · rename_i ho
      split at h
      · rename_i a b ha hb
        split at h
        · rename_i hal
          simp only [Option.some.injEq] at h
          subst h
          have h1 := hf f (by simp) a ha
          have h2 := joinF_all r (o + P.cellsOf f.type) b hb (fun g hg => hf g (by simp [hg])) (by simp at hl; omega)
          have h3 : cs.drop o = (cs.drop o).take (P.cellsOf f.type) ++ cs.drop (o + P.cellsOf f.type) := by
            rw [← List.drop_drop]; exact (List.take_append_drop _ _).symm
          rw [h3]
          rw [ho] at h1
          exact h1.append h2
        · cases h
      · cases h
    · cases h
theorem joinF_len {α : Type} {rec : TypeId → Option (List α)} : ∀ (fs : List Field) (o : Nat) (ks : List α), joinF rec P o fs = some ks → ks.length = (fs.map fun f => P.cellsOf f.type).sum
  | [], o, ks, h => by simp only [joinF, Option.some.injEq] at h; subst h; rfl
  | f :: r, o, ks, h => by
    simp only [joinF] at h
    split at h
    · split at h
      · rename_i a b ha hb
        split at h
        · rename_i hal
          simp only [Option.some.injEq] at h
          subst h
          simp [hal, joinF_len r _ b hb]
        · cases h
      · cases h
    · cases h
theorem addr_add {a : Addr} (h : a.spot = none) (n : Nat) : a.add n = ⟨a.block, a.off + n, none⟩ := by
  obtain ⟨b, o, s⟩ := a
  simp only at h
  subst h
  unfold Addr.add
  split
  · rename_i h; subst h; rfl
  · rfl
theorem wf_inK {k : IntKind} {n : Int} (h : (Lit.int k n).wf = true) : inK k n := by
  simpa [Lit.wf, inK] using h
/-- the cells of a struct's fields, one after the other, are all of its cells -/
def fullS (P : Program) : Nat → TypeId → Bool
  | 0, _ => true
  | n + 1, t => match P.underlying t with
    | some (.struct fs) => decide ((fs.toList.map fun f => P.cellsOf f.type).sum = P.cellsOf t) && fs.toList.all fun f => fullS P n f.type
    | some (.slice e) => fullS P n e
    | _ => true
theorem struct_parts {α : Type} {R : α → Value → Prop} {rec : TypeId → Option (List α)} {t : TypeId} {fs : Array Field} {fuel : Nat} {cs : List Value} {x : DataW H × List MemPlace} {ks : List α}
    (ht : P.underlying t = some (.struct fs)) (h : DataW.trod enc P W 0 sp held fuel t cs = some x) (hk : joinF rec P 0 fs.toList = some ks) (hs : (fs.toList.map fun f => P.cellsOf f.type).sum = P.cellsOf t)
    (hr : ∀ n f (y : DataW H × List MemPlace), f ∈ fs.toList → ∀ a cs', rec f.type = some a → (∀ u ∈ cs', u ∈ cs) → DataW.trod enc P W 0 sp held n f.type cs' = some y → All2 R a cs') : All2 R ks cs := by
  obtain ⟨xs, n, _, rfl, hl, hlen, hf⟩ := DataW.trod_struct ht h
  have := joinF_all (P := P) (R := R) (cs := cs) fs.toList 0 ks hk (fun f hfm a ha => by
    obtain ⟨i, hi⟩ := List.mem_iff_getElem?.1 hfm
    have hi' : fs[i]? = some f := by simpa using hi
    have h1 := hf i f hi'
    have hlt : i < xs.length := by rw [hlen]; exact (Array.getElem?_eq_some_iff.1 hi').1
    rw [List.getElem?_eq_getElem hlt] at h1
    exact hr n f _ hfm a _ ha (fun u hu => List.mem_of_mem_drop (List.mem_of_mem_take hu)) h1) (by rw [joinF_len _ _ _ hk, hs, hl]; omega)
  simpa using this
theorem read0 : ∀ (m : Nat) {fuel : Nat} {t : TypeId} {cs : List Value} {x : DataW H × List MemPlace} {ks : List K0}, fullS P m t = true → DataW.trod enc P W 0 sp held fuel t cs = some x → flat0 P m t = some ks → All2 Is0 ks cs
  | 0, _, _, _, _, _, _, _, hk => by simp [flat0] at hk
  | m + 1, fuel, t, cs, x, ks, hfull, h, hk => by
    simp only [flat0] at hk
    split at hk
    · rename_i ht
      obtain ⟨b, rfl, _⟩ := DataW.trod_bool ht h
      simp only [Option.some.injEq] at hk; subst hk
      exact ⟨⟨b, rfl⟩, trivial⟩
    · rename_i k ht
      obtain ⟨n, rfl, _, hw⟩ := DataW.trod_int ht h
      simp only [Option.some.injEq] at hk; subst hk
      exact ⟨⟨n, rfl, wf_inK hw⟩, trivial⟩
    · rename_i ht
      obtain ⟨b, rfl, _, hs⟩ := DataW.trod_string ht h
      simp only [Option.some.injEq] at hk; subst hk
      exact ⟨⟨b, rfl, hs⟩, trivial⟩
    · rename_i fs ht
      simp only [fullS, ht, Bool.and_eq_true, decide_eq_true_eq, List.all_eq_true] at hfull
      exact struct_parts ht h hk hfull.1 (fun n f y hfm a cs' ha _ hy => read0 m (hfull.2 f hfm) hy ha)
    · cases hk
theorem read1 : ∀ (m : Nat) {fuel : Nat} {t : TypeId} {cs : List Value} {x : DataW H × List MemPlace} {ks : List K1}, fullS P m t = true → (∀ u ∈ cs, ∀ a l c, u = .slice (some a) l c → a.spot = none) →
    DataW.trod enc P W 0 sp held fuel t cs = some x → flat1 P m t = some ks → All2 (Is1 W) ks cs
  | 0, _, _, _, _, _, _, _, _, hk => by simp [flat1] at hk
  | m + 1, fuel, t, cs, x, ks, hfull, hsp, h, hk => by
    simp only [flat1] at hk
    split at hk
    · rename_i ht
      obtain ⟨b, rfl, _⟩ := DataW.trod_bool ht h
      simp only [Option.some.injEq] at hk; subst hk
      exact ⟨⟨.v _, ⟨b, rfl⟩, rfl⟩, trivial⟩
    · rename_i k ht
      obtain ⟨n, rfl, _, hw⟩ := DataW.trod_int ht h
      simp only [Option.some.injEq] at hk; subst hk
      exact ⟨⟨.v _, ⟨n, rfl, wf_inK hw⟩, rfl⟩, trivial⟩
    · rename_i ht
      obtain ⟨b, rfl, _, hs⟩ := DataW.trod_string ht h
      simp only [Option.some.injEq] at hk; subst hk
      exact ⟨⟨.v _, ⟨b, rfl, hs⟩, rfl⟩, trivial⟩
    · rename_i e ht
      split at hk
      · rename_i ks0 hk0
        split at hk
        · rename_i hc
          simp only [Option.some.injEq] at hk; subst hk
          obtain ⟨hc1, hc2, hc3⟩ := hc
          simp only [fullS, ht] at hfull
          rcases DataW.trod_slice ht h with ⟨rfl, _⟩ | ⟨a, len, cap, elems, rest, n, _, rfl, _, _, hl, hm, hlen, hel, _⟩
          · exact ⟨⟨.l _ [], ⟨rfl, by simp [maxLen], by simp⟩, none, 0, rfl, by simp, by simp [maxLen], ⟨hc2, by simp [flat]⟩, by simp, fun _ => rfl, fun ad h => by cases h⟩, trivial⟩
          · -- the elements, one by one
            have each : ∀ i, i < len → ∃ cs', W.cells? 0 (a.add (i * P.cellsOf e)) (P.cellsOf e) = some cs' ∧ All2 Is0 ks0 cs' := by
              intro i hi
              have h1 := hel i hi
              have hlt : i < elems.length := by omega
              rw [List.getElem?_eq_getElem hlt] at h1
              obtain ⟨cs', hcs', ht'⟩ := Option.bind_eq_some_iff.1 h1
              exact ⟨cs', hcs', read0 m hfull ht' hk0⟩
            let mk : List Value → Value := fun cs' => if isAgg P e = true then .agg cs'.toArray else cs'.headD (.tuple #[])
            have hex : ∃ xs : List Value, xs.length = len ∧ (∀ x ∈ xs, IsE (isAgg P e) ks0 x) ∧ ∀ i (hi : i < xs.length), W.cells? 0 (a.add (i * P.cellsOf e)) (P.cellsOf e) = some xs[i].cells.toList := by
              refine ⟨(List.range len).map fun i => mk ((W.cells? 0 (a.add (i * P.cellsOf e)) (P.cellsOf e)).getD []), by simp, ?_, ?_⟩
              · intro x hx
                simp only [List.mem_map, List.mem_range] at hx
                obtain ⟨i, hi, rfl⟩ := hx
                obtain ⟨cs', hcs', h0⟩ := each i hi
                rw [hcs']
                simp only [Option.getD_some, mk, IsE]
                split
                · exact ⟨cs', rfl, h0⟩
                · rename_i hag
                  have hl1 := hc1.trans (hc3 (by simpa using hag))
                  match ks0, cs', h0, hl1 with
                  | [k], [u], ⟨h, _⟩, _ => exact ⟨k, rfl, h⟩
              · intro i hi
                have hi' : i < len := by simpa using hi
                obtain ⟨cs', hcs', h0⟩ := each i hi'
                simp only [List.getElem_map, List.getElem_range, hcs', Option.getD_some, mk]
                split
                · simp [Value.cells]
                · rename_i hag
                  have hl1 := hc1.trans (hc3 (by simpa using hag))
                  match ks0, cs', h0, hl1 with
                  | [k], [u], ⟨h, _⟩, _ =>
                    simp only [List.headD_cons]
                    congr 1
                    cases k with
                    | i k => obtain ⟨n, rfl, _⟩ := h; rfl
                    | b => obtain ⟨n, rfl⟩ := h; rfl
                    | s => obtain ⟨n, rfl, _⟩ := h; rfl
            obtain ⟨xs, hxl, hxe, hxc⟩ := hex
            have hcell : ∀ x ∈ xs, x.cells.size = P.cellsOf e ∧ ∀ u ∈ x.cells.toList, u.oneCell' = true := fun x hx => by
              have := (hxe x hx).cells (fun hag => hc1.trans (hc3 hag))
              exact ⟨this.1.trans hc1, this.2⟩
            refine ⟨⟨.l (P.cellsOf e) xs, ⟨rfl, by omega, hxe⟩, some a, cap, by rw [hxl], by omega, hm, ⟨hc2, ?_⟩, fun x hx => (hcell x hx).1, fun h => (by cases h), ?_⟩, trivial⟩
            · intro u hu
              simp only [flat, List.mem_flatMap] at hu
              obtain ⟨x, hx, hu⟩ := hu
              exact (hcell x hx).2 u hu
            · intro ad had
              simp only [Option.some.injEq] at had
              subst had
              have hspot := hsp (.slice (some a) len cap) (by simp) a len cap rfl
              refine ⟨hspot, ?_⟩
              -- the row
              have hrow : ∀ (ys : List Value) (o : Nat), (∀ x ∈ ys, x.cells.size = P.cellsOf e) → (∀ i (hi : i < ys.length), W.cells? 0 (a.add (o + i * P.cellsOf e)) (P.cellsOf e) = some ys[i].cells.toList) →
                  ∀ j (hj : j < (flat ys).length), W.cell? (a.add (o + j)) = some (flat ys)[j] := by
                intro ys
                induction ys with
                | nil => intro o _ _ j hj; simp [flat] at hj
                | cons y r ih =>
                  intro o hsz hc j hj
                  have hy := hsz y (by simp)
                  have h0 := hc 0 (by simp)
                  simp only [Nat.zero_mul, Nat.add_zero, List.getElem_cons_zero] at h0
                  have hgc := (World.cells?_some h0).2.2
                  have hfl : flat (y :: r) = y.cells.toList ++ flat r := by simp [flat]
                  by_cases hjs : j < P.cellsOf e
                  · have := hgc j hjs
                    have e1 : (a.add o).add j = a.add (o + j) := by
                      rw [addr_add hspot, addr_add rfl, addr_add hspot, Nat.add_assoc]
                    rw [e1, List.getElem?_eq_getElem (by simp; omega)] at this
                    rw [this]
                    congr 1
                    simp only [hfl]
                    rw [List.getElem_append_left (by simp; omega)]
                  · have hj' : j - P.cellsOf e < (flat r).length := by rw [hfl] at hj; simp [hy] at hj; omega
                    have := ih (o + P.cellsOf e) (fun x hx => hsz x (by simp [hx])) (fun i hi => by
                      have := hc (i + 1) (by simpa using hi)
                      rw [List.getElem_cons_succ] at this
                      rw [← this]
                      congr 2
                      rw [Nat.succ_mul]; omega) (j - P.cellsOf e) hj'
                    have e1 : o + P.cellsOf e + (j - P.cellsOf e) = o + j := by omega
                    rw [e1] at this
                    rw [this]
                    congr 1
                    simp only [hfl]
                    rw [List.getElem_append_right (by simp; omega)]
                    congr 1
                    simp [hy]
              intro j hj
              have h1 := hrow xs 0 (fun x hx => (hcell x hx).1) (fun i hi => by simpa using hxc i hi) j hj
              have e1 : a.add (0 + j) = ⟨a.block, a.off + j, none⟩ := by
                rw [addr_add hspot, Nat.zero_add]
              rw [e1] at h1
              refine ⟨h1, ?_⟩
              show a.block < W.heap.size
              rcases Nat.lt_or_ge a.block W.heap.size with h2 | h2
              · exact h2
              · exfalso
                have : W.heap[a.block]? = none := by simp [Array.getElem?_eq_none_iff]; exact h2
                simp [World.cell?, this] at h1
        · cases hk
      · cases hk
    · rename_i fs ht
      simp only [fullS, ht, Bool.and_eq_true, decide_eq_true_eq, List.all_eq_true] at hfull
      exact struct_parts ht h hk hfull.1 (fun n f y hfm a cs' ha hsub hy => read1 m (hfull.2 f hfm) (fun u hu => hsp u (hsub u hu)) hy ha)
    · cases hk
theorem spot_of {r : Reach} {base : Nat} {t : TypeId} {u : Value} (h : Cell.okWide P W r base t u) (a : Addr) (l c : Nat) (e : u = .slice (some a) l c) : a.spot = none := by
  subst e
  have h2 : Cell.ok P W r base t (.slice (some a) l c) := by
    unfold Cell.okWide at h
    split at h <;> first | exact h | simp_all
  unfold Cell.ok at h2
  split at h2
  all_goals first
    | exact h2.elim
    | simp_all
  exact h2.2.2.2.1
/-- an argument of a struct type -/
theorem read_agg {r : Reach} {base : Nat} {t : TypeId} {v : Value} {d : DataW H} {p : List MemPlace} {fs : Array Field} {m : Nat} {ks : List K1} (ht : P.underlying t = some (.struct fs)) (hfull : fullS P m t = true) (hk : flat1 P m t = some ks)
    (hv : Value.okWide P W r base t v) (h : DataW.Trod enc P W 0 sp held t v d p) : ∃ cs, RepV1 (gOf W) ⟨[], []⟩ (.a cs) v ∧ All2 TC ks cs := by
  have hv' := hv
  simp only [Value.okWide, ht] at hv'
  obtain ⟨arr, rfl, hsz, ts, _, _, hcell⟩ := hv'
  obtain ⟨n, hn⟩ := h
  have h1 := read1 m hfull (cs := arr.toList) (fun u hu a l c e => by
    obtain ⟨i, hi⟩ := List.mem_iff_getElem?.1 hu
    obtain ⟨ty, _, hok⟩ := hcell i u (by simpa using hi)
    exact spot_of hok a l c e) hn hk
  have : ∀ (ks : List K1) (us : List Value), All2 (Is1 W) ks us → ∃ cs, All2 (RepC (gOf W) ⟨[], []⟩) cs us ∧ All2 TC ks cs := by
    intro ks
    induction ks with
    | nil => intro us h; cases us with
      | nil => exact ⟨[], trivial, trivial⟩
      | cons => exact h.elim
    | cons k ks ih => intro us h; cases us with
      | nil => exact h.elim
      | cons u us =>
        obtain ⟨⟨c, hc, hr⟩, h2⟩ := h
        obtain ⟨cs, h3, h4⟩ := ih us h2
        exact ⟨c :: cs, ⟨hr, h3⟩, ⟨hc, h4⟩⟩
  obtain ⟨cs, h3, h4⟩ := this ks _ h1
  exact ⟨cs, ⟨arr, rfl, h3⟩, h4⟩
/-- an argument of one cell -/
theorem read_one {r : Reach} {base : Nat} {t : TypeId} {v : Value} {d : DataW H} {p : List MemPlace} {m : Nat} {k : K1} (ht : ∀ fs, P.underlying t ≠ some (.struct fs)) (hfull : fullS P m t = true) (hk : flat1 P m t = some [k])
    (hv : Value.okWide P W r base t v) (h : DataW.Trod enc P W 0 sp held t v d p) (hone : v.cells = #[v]) : ∃ c, RepV1 (gOf W) ⟨[], []⟩ (.c c) v ∧ TC k c := by
  obtain ⟨n, hn⟩ := h
  rw [hone] at hn
  have h1 := read1 m hfull (cs := [v]) (fun u hu a l c e => by
    simp at hu
    subst hu
    subst e
    simp only [Value.okWide] at hv
    split at hv
    · obtain ⟨_, h, _⟩ := hv; cases h
    · obtain ⟨_, h, _⟩ := hv; cases h
    · exact spot_of hv a l c rfl) hn hk
  obtain ⟨⟨c, hc, hr⟩, _⟩ := h1
  exact ⟨c, hr, hc⟩
end

theorem all2_cons {α β : Type} {R : α → β → Prop} {k : α} {ks : List α} : ∀ {cs : List β}, All2 R (k :: ks) cs → ∃ c r, cs = c :: r ∧ R k c ∧ All2 R ks r
  | c :: r, h => ⟨c, r, rfl, h.1, h.2⟩
  | [], h => h.elim
theorem all2_nil {α β : Type} {R : α → β → Prop} : ∀ {cs : List β}, All2 R ([] : List α) cs → cs = []
  | [], _ => rfl
  | _ :: _, h => h.elim
theorem tc_i {k : IntKind} : ∀ {c : C}, TC (.z (.i k)) c → ∃ n, c = .v (.int k n) ∧ inK k n
  | .v _, ⟨n, e, h⟩ => ⟨n, by rw [e], h⟩
theorem tc_b : ∀ {c : C}, TC (.z .b) c → ∃ b, c = .v (.bool b)
  | .v _, ⟨n, e⟩ => ⟨n, by rw [e]⟩
theorem tc_s : ∀ {c : C}, TC (.z .s) c → ∃ s : ByteArray, c = .v (.string s) ∧ s.size ≤ maxLen
  | .v _, ⟨n, e, h⟩ => ⟨n, by rw [e], h⟩
theorem tc_l {sz : Nat} {agg : Bool} {ks : List K0} : ∀ {c : C}, TC (.l sz agg ks) c → ∃ xs, c = .l sz xs ∧ xs.length ≤ maxLen ∧ ∀ x ∈ xs, IsE agg ks x
  | .l _ xs, ⟨e, h⟩ => ⟨xs, by rw [e], h⟩
theorem list_of {α : Type} (mk : α → Value) (ok : α → Prop) : ∀ {xs : List Value}, (∀ x ∈ xs, ∃ a, x = mk a ∧ ok a) → ∃ as : List α, xs = as.map mk ∧ ∀ a ∈ as, ok a
  | [], _ => ⟨[], rfl, by simp⟩
  | x :: xs, h => by
    obtain ⟨a, e, ha⟩ := h x (by simp)
    obtain ⟨as, e2, h2⟩ := list_of mk ok (xs := xs) (fun y hy => h y (by simp [hy]))
    exact ⟨a :: as, by simp [e, e2], fun b hb => by rcases List.mem_cons.1 hb with rfl | hb; exact ha; exact h2 b hb⟩

/-- what is asked behind the call, where nothing that stood has changed and the law says true -/
theorem post_true {H : Type} {enc : TypeId × Value → H} {P : Program} {f : Func} {s : ChangeSpec} {apart fresh handsOn again : Bool} {W W' : World} {args : Array Value} {ds gs : List (DataW H)} {before : List MemPlace} {tb : TypeId}
    (hl : laidOutB P = true) (hr : f.params.toList.all (fun t => P.readableRec t && decide (t < P.types.size)) = true)
    (hW : DataW.Whole enc P f.params.toList s.vars apart W args.toList ds gs before) (hb : Below W.heap.size W W') (hvars : s.vars = []) (hres : f.resultTypes = #[tb]) (htb : P.underlying tb = some .bool)
    (hfn : s.fn H (ds ++ gs) = { results := [.lit (.bool true)], args := ds }) (hgs : gs = []) : s.post enc P f apart fresh handsOn again W args (.bool true) W' := by
  subst hgs
  have hW2 := hW
  obtain ⟨pa, pv, hA, hV, hbef, _, _⟩ := hW2
  rw [hvars] at hV
  obtain ⟨_, rfl⟩ := trodVars_none hV
  have hlt : ∀ x ∈ before, x.block < W.heap.size := fun x hx => by simpa using hW.lt x hx
  have all : ∀ (ts : List TypeId) (vs : List Value) (ds : List (DataW H)) (ps : List MemPlace) (sp : Nat → Bool), (∀ t ∈ ts, P.readableRec t = true ∧ t < P.types.size) → (∀ p ∈ ps, p.block < W.heap.size ∧ sp p.block = true) →
      DataW.TrodAll enc P W 0 (fun _ => true) true ts vs ds ps → DataW.TrodAll enc P W' 0 sp true ts vs ds ps := by
    intro ts
    induction ts with
    | nil =>
      intro vs ds ps sp _ _ h
      cases vs <;> cases ds <;> first | exact h | exact h.elim
    | cons t ts ih =>
      intro vs ds ps sp ht hp h
      cases vs with
      | nil => exact h.elim
      | cons v vs => cases ds with
        | nil => exact h.elim
        | cons d ds =>
          obtain ⟨p, q, h1, h2, e⟩ := h
          subst e
          refine ⟨p, q, WideElems.Trod_stays hl (ht t (by simp)).1 (ht t (by simp)).2 h1 (fun x hx => hb.same (hp x (by simp [hx])).1) (fun x hx => (hp x (by simp [hx])).2), ?_, rfl⟩
          exact ih vs ds q sp (fun u hu => ht u (by simp [hu])) (fun x hx => hp x (by simp [hx])) h2
  have hr' : ∀ t ∈ f.params.toList, P.readableRec t = true ∧ t < P.types.size := by
    intro t ht
    have := List.all_eq_true.1 hr t ht
    simpa using this
  have hargs : ∀ sp : Nat → Bool, (∀ p ∈ pa, sp p.block = true) → DataW.TrodAll enc P W' 0 sp true f.params.toList args.toList ds pa :=
    fun sp hsp => all _ _ _ _ sp hr' (fun x hx => ⟨hlt x (by rw [hbef]; simp [hx]), hsp x hx⟩) hA
  have hfn' := hfn
  have hRes : ∀ (b : Nat) (sp : Nat → Bool) (hd : Bool), DataW.TrodAll enc P W' b sp hd f.resultTypes.toList ((Value.bool true).resultList f.resultTypes.size) (s.fn H (ds ++ [])).results [] := by
    intro b sp hd
    rw [hres, hfn]
    exact trodAll_cons_mk (shut_bool htb _) trodAll_mk0
  have hVars : ∀ sp : Nat → Bool, DataW.TrodVars enc P W' sp s.vars (s.fn H (ds ++ [])).vars [] := by
    intro sp
    rw [hvars, hfn]; rfl
  have hps : before = pa := by simpa using hbef
  have hargs2 : ∀ sp : Nat → Bool, (∀ p ∈ pa, sp p.block = true) → DataW.TrodAll enc P W' 0 sp true f.params.toList args.toList (s.fn H (ds ++ [])).args pa := by rw [hfn]; exact hargs
  have hW3 := hW
  refine ⟨ds, [], before, [], pa, [], hW, hRes _ _ _, ?_, hVars _, World.keptBut_mono (fun p hp => ⟨hp, by rw [hps] at hp; exact Or.inr (Or.inl hp)⟩) (hb.frame (· ∈ before)), fun _ => ?_⟩
  · rw [hfn]; exact hargs _ (fun p hp => by simpa using hlt p (by rw [hps]; exact hp))
  · obtain ⟨_, _, _, _, _, hz, hn⟩ := hW3
    refine ⟨ok_one hres rfl (okWide_bool_mk htb _), _, _, ([] ++ pa) ++ [], ⟨[] ++ pa, [], trodAll_append (hargs2 _ (fun _ _ => rfl)) (hRes _ _ _), hVars _, rfl, ?_, ?_⟩, ?_⟩
    · intro b off hp
      have hp' : MemPlace.cell b off ∈ before := by rw [hps]; simpa using hp
      have := hlt _ hp'
      rw [hb.frozen this]
      exact hz b off hp'
    · intro ha
      have := hn ha
      rw [hps] at this
      simpa using this
    · intro p hp _
      rw [hps]
      simpa using hp

end Go.PL
