/-
  Rows over a program that reads a variable of the library of which only the shape is known.
-/
import Derived.Test.YtahnbliabllflaaGreatDoorEo
import Derived.Test.YtahnbliabllflaaGreatDoorSh
import Derived.Deep.DeepLaidRun
namespace Go.PL
open Go.RowKit Go.WideShapes Go.ChangeShapes Go.ChangeAt
theorem returns_told {H : Type} {enc : TypeId × Value → H} {a : Assume} {C : Checked} {os : Os} {f : FuncId} {fn : Func} {s : ChangeSpec} {conds : List PathCond} {apart fresh handsOn again : Bool} {X : World → Array Value → Prop}
    (hX : ∀ (w w' : World) (args : Array Value), w.heap = w'.heap → X w args → X w' args)
    (own : ownKnob C.prog.godebug = none) (started : os.Started) (noInit : C.prog.inits.idxOf? f = none) (hfn : C.prog.funcs[f]? = some fn)
    (witness : ∃ (w : World) (tape : Tape) (i : Input), w.os = os ∧ (w.forCall tape i).Shaped C.prog ∧ i.vars = [] ∧ Input.okWide C.prog (w.forCall tape i) .any w.heap.size f i ∧
      ((s.pre enc C.prog fn conds apart (w.forCall tape i).memory i.args ∧ X (w.forCall tape i).memory i.args) ∧ sizedMet enc C.prog fn (OpenSpec.ofChange s) apart (w.forCall tape i).memory i.args) ∧ a.holds C.prog (lone (Frame.enter C.prog f i.args .normal) [] (w.forCall tape i)))
    (walk : ∀ (W : World) (base : Nat) (args : Array Value) (ds gs : List (DataW H)) (before : List MemPlace),
      (∀ (j : Nat) t v, fn.params[j]? = some t → args[j]? = some v → Value.okWide C.prog W .any base t v) →
      DataW.Whole enc C.prog fn.params.toList s.vars apart W args.toList ds gs before →
      W.ShapedOpen C.prog → X W args →
      Calls C.prog f args W fun e W' => ∃ v, e = .returned v ∧ s.post enc C.prog fn apart fresh handsOn again W args v W') :
    ReturnsInHanded a C os f .any (fun w args => (s.pre enc C.prog fn conds apart w args ∧ X w args) ∧ sizedMet enc C.prog fn (OpenSpec.ofChange s) apart w args) (s.post enc C.prog fn apart fresh handsOn again) := by
  refine returnsInHanded_of_calls own started noInit witness fun w tape i _ shape _ fit hpre _ => ?_
  obtain ⟨_, _, _, fn', same, _, _, _, _, vals⟩ := fit
  obtain rfl : fn' = fn := Option.some.inj (same.symm.trans hfn)
  obtain ⟨⟨⟨ds, gs, before, whole, _⟩, hx⟩, _⟩ := hpre
  have c := walk (w.forCall tape i) w.heap.size i.args ds gs before vals (DataW.Whole.of_heap (w' := w.forCall tape i) (by rfl) whole) shape (hX _ _ _ (by rfl) hx)
  refine c.mono fun e W' h => ?_
  obtain ⟨v, rfl, hp⟩ := h
  exact ChangeSpec.post_blind hp
def layO (h : Array Obj) (g : Nat) (cs : List Value) : Array Obj := match h[g]? with
  | some (.cells _ ty fz) => h.setIfInBounds g (.cells cs.toArray ty fz)
  | _ => h
def layW (w : World) (g : Nat) (cs : List Value) : World := { w with heap := layO w.heap g cs }
def firstL : List Value := Go.Pinned.utf8FirstZ.map fun n : Nat => Value.int .u8 (n : Int)
theorem block_of_cell {w : World} {g : Nat} {v : Value} (h : w.cell? ⟨g, 0, none⟩ = some v) : ∃ r ty fz, w.heap[g]? = some (.cells (v :: r).toArray ty fz) := by
  unfold World.cell? at h
  split at h
  · rename_i cs ty fz hb
    simp only at h
    obtain ⟨l⟩ := cs
    cases l with
    | nil => simp at h
    | cons x r =>
      have : x = v := by simpa using h
      subst this
      exact ⟨r, ty, fz, hb⟩
  · cases h
end Go.PL
namespace Go.Proofs.YtahnbliabllflaaGreatDoor
open Go.PL Go.RowKit
theorem max_row {W : World} (h : W.ShapedOpen Tryz.prog) : ∃ m r ty fz, W.heap[(0 : Nat)]? = some (.cells (Value.int .i64 m :: r).toArray ty fz) := by
  obtain ⟨m, hm⟩ := Tryz.laysM146.s1_3 W h
  obtain ⟨r, ty, fz, hb⟩ := block_of_cell hm
  exact ⟨m, r, ty, fz, hb⟩
end Go.Proofs.YtahnbliabllflaaGreatDoor
