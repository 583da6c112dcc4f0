/-
  An own list of the caller that a callee is not shown stays as it is.
-/
import Derived.Test.YtnbopnipfegboaaDoorEl
namespace Go.PL
set_option linter.unusedSimpArgs false
set_option linter.unusedVariables false
def plainV1 : V1 → Bool
  | .c x => plainC x
  | .a xs => xs.all plainC
theorem plainCs_rep {g : Gh} {h h' : Hp} : ∀ {xs : List C} {us : List Value}, xs.all plainC = true → All2 (RepC g h) xs us → All2 (RepC g h') xs us
  | [], [], _, _ => trivial
  | x :: xs, u :: us, hp, hr => by
    simp only [List.all_cons, Bool.and_eq_true] at hp
    exact ⟨plainC_rep hp.1 hr.1, plainCs_rep hp.2 hr.2⟩
  | [], _ :: _, _, hr => hr.elim
  | _ :: _, [], _, hr => hr.elim
theorem plainV1_rep {g : Gh} {h h' : Hp} {x : V1} {u : Value} (hp : plainV1 x = true) (hr : RepV1 g h x u) : RepV1 g h' x u := by
  cases x with
  | c x => exact plainC_rep hp hr
  | a xs => obtain ⟨cs, e, h1⟩ := hr; exact ⟨cs, e, plainCs_rep hp h1⟩
theorem plainVs_rep {g : Gh} {h h' : Hp} : ∀ {xs : List V1} {us : List Value}, xs.all plainV1 = true → All2 (RepV1 g h) xs us → All2 (RepV1 g h') xs us
  | [], [], _, _ => trivial
  | x :: xs, u :: us, hp, hr => by
    simp only [List.all_cons, Bool.and_eq_true] at hp
    exact ⟨plainV1_rep hp.1 hr.1, plainVs_rep hp.2 hr.2⟩
  | [], _ :: _, _, hr => hr.elim
  | _ :: _, [], _, hr => hr.elim
/-- a contract holds beside an own list that the call is not shown -/
theorem pc_beside {P : Program} {f : FuncId} {vs : List V1} {r : PV} (hc : PC P f [] vs r ⟨[], []⟩) (hp : vs.all plainV1 = true) (id : Nat) (lo : LO) (hl : lo.live = true) : PI P f [(id, lo)] vs r ⟨[], [(id, lo)]⟩ := by
  refine ⟨⟨hc.ok.1, fun g cargs hk wf ha => ?_⟩⟩
  have hk0 : HeapOk g ⟨[], []⟩ g ⟨[], []⟩ :=
    ⟨rfl, rfl, rfl, Nat.le_refl _, fun _ _ _ _ => rfl, fun _ _ h => ⟨h, rfl⟩, fun _ _ _ _ h => h, hk.vin, fun _ h => by simp at h, fun _ h => by simp at h, fun _ _ h => by simp at h, fun _ _ h => by simp at h, fun _ _ _ _ h => by simp at h, fun _ _ _ _ h => by simp at h, fun _ _ _ _ h => by simp at h, hk.tabN⟩
  have hc2 := hc.ok.2 g cargs hk0 ⟨fun _ _ h => by simp at h, trivial⟩ (plainVs_rep hp ha)
  refine hc2.mono fun e w' hx => ?_
  obtain ⟨g', v, rfl, rfl, h1, h2, h3⟩ := hx
  have hm : (id, lo) ∈ ([(id, lo)] : List (Nat × LO)) := by simp
  let g2 : Gh := { g' with ov := fun i => if i = id then g.ov id else g'.ov i }
  have eov : g2.ov id = g.ov id := by simp [g2]
  have hL := hk.lists id lo hm hl
  have hsame : ∀ k, k < g.w.heap.size → g'.w.heap[k]? = g.w.heap[k]? := fun k hk2 => h1.frame k hk2 (fun _ h => by simp at h) (fun _ h => by simp at h)
  have one : ∀ i x, (i, x) ∈ ([(id, lo)] : List (Nat × LO)) → i = id ∧ x = lo := fun i x h => by simpa using h
  have hL2 : ListOk (Mine g ⟨[], [id]⟩) g2 id lo := hL.keep (g' := g2) eov (fun b hb => hsame b (hL.lt hb).2) fun b hb o => ⟨fun hv => h1.old b o (hL.lt hb).2 (fun _ h => by simp at h) hv, fun hv => (h1.vis b o hv).1⟩
  refine ⟨g2, v, rfl, rfl, ⟨h1.os, h1.tape, h1.output, h1.size, fun k hk2 _ _ => hsame k hk2, h1.vis, fun b o hb _ hv => h1.old b o hb (fun _ h => by simp at h) hv, h1.vin, fun _ h => by simp at h, fun i hi => ?_, fun _ _ h => by simp at h, fun i x hx _ => ?_, fun _ _ _ _ h => by simp at h, fun i x i' x' hx hx' _ _ hne => ?_, fun _ _ _ _ _ h => by simp at h, hk.tab⟩, ⟨fun i x hx => ?_, ⟨rfl, trivial⟩⟩, ?_⟩
  · have : i = id := by simpa using hi
    subst this
    exact ⟨⟨lo, hm⟩, eov⟩
  · obtain ⟨rfl, rfl⟩ := one i x hx
    exact hL2
  · exact absurd ((one i x hx).1.trans (one i' x' hx').1.symm) hne
  · obtain ⟨rfl, rfl⟩ := one i x hx
    rw [eov]; exact wf.ov _ _ hm
  · have he : Ext g' ⟨[], []⟩ g2 ⟨[], [(id, lo)]⟩ := ⟨fun _ _ h => ⟨h, rfl⟩, fun _ _ h => by simp at h, fun _ _ h => by simp at h⟩
    exact h3.ext he
/-- at a call that is handed own lists and whose result shows pieces of lists -/
theorem callIV {P : Program} {σ : St} {dst : Option Nat} {f : FuncId} {args : List PV} {K : St → Prop} {vs : List V1} {r : PV} {ins ls : List (Nat × LO)} (hc : PI P f ins vs r ⟨[], ls⟩) (hin : insOk σ.h ins) (hv : viewArgs σ.h (ins.map Prod.fst) vs args = some vs)
    (hok : vs.all (okV1 [] (ins.map Prod.fst)) = true) (hf : freshL σ.h (ins.map Prod.fst) ls = true)
    (hK : K ({ σ with h := { boxes := σ.h.boxes, lists := ls ++ pubAll (dropK (ins.map Prod.fst) σ.h.lists) } }.put dst r)) : CallR P σ dst f args K := by
  unfold CallR
  exact .inr ⟨false, [], ins, vs, r, ⟨[], ls⟩, hc.ok, fun _ _ h => (by simp at h), (insOk_mem hin).1, (insOk_mem hin).2, hv, hok, fun id lo hm => freshL_mem hf id lo hm, fun _ _ h => (by simp at h),
    fun h => (by cases h), by simpa [mergeH, dropK_nil, restL] using hK⟩
end Go.PL
