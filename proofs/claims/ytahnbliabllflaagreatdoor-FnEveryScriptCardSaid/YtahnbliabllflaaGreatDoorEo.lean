/-
  From what a row says of package-level variables to what the layer asks of them.
-/
import Derived.Test.YtahnbliabllflaaGreatDoorEg
import Derived.Test.YtahnbliabllflaaGreatDoorTie
import Derived.Test.YtahnbliabllflaaGreatDoorCards
import Derived.Lib.LaidTab
import Derived.LaidMore
import Derived.LaidHandle
import Derived.MakeChecks
import Derived.ProofKit
import Derived.OpenShut
import Derived.SevenTiedAt
namespace Go.PL
open Go.RowKit Go.WideShapes Go.ChangeShapes Go.ChangeAt
theorem laid_var {P : Program} {w : World} : ∀ {l : List (String × DataW Unit)} {ps : List MemPlace}, DataW.LaidVars P w l ps → ∀ {n : String} {d : DataW Unit}, (n, d) ∈ l →
    ∃ g t cs fuel p, P.globalNamed n = some g ∧ (P.globals[g]?).map (·.type) = some t ∧ w.var? P n = some cs ∧ DataW.trod (fun _ => ()) P w 0 (fun _ => true) false fuel t cs.toList = some (d, p)
  | [], _, _, _, _, hm => by simp at hm
  | (n0, d0) :: l, ps, h, n, d, hm => by
    obtain ⟨g, t, cs, fuel, p, q, h1, h2, h3, h4, h5, _⟩ := h
    rcases List.mem_cons.1 hm with e | hm
    · obtain ⟨rfl, rfl⟩ := Prod.mk.inj e
      exact ⟨g, t, cs, fuel, p, h1, h2, h3, h4⟩
    · exact laid_var h5 hm
theorem block_of_var {P : Program} {w : World} {n : String} {g : Nat} {cs : Array Value} (hg : P.globalNamed n = some g) (h : w.var? P n = some cs) : ∃ ty fz, w.heap[g]? = some (.cells cs ty fz) := by
  unfold World.var? at h
  rw [hg, Option.bind_some] at h
  split at h
  · rename_i cs' ty fz hb
    obtain rfl := Option.some.inj h
    exact ⟨ty, fz, hb⟩
  · cases h
def tabOk (P : Program) (n : String) (g : Nat) (k : IntKind) : Bool := decide (P.globalNamed n = some g) && match (P.globals[g]?).map (·.type) with
  | some t => (match P.underlying t with
    | some (.array m e) => (match P.underlying e with
      | some (.int k') => decide (k' = k) && decide (P.cellsOf e = 1) && decide (P.cellsOf t = m)
      | _ => false)
    | _ => false)
  | none => false
theorem laid_tab {P : Program} {w : World} {l : List (String × DataW Unit)} {n : String} {g : Nat} {k : IntKind} {zs : List Int} (h : laidMet P l w) (hm : (n, Lib.tabData k zs) ∈ l) (hb : tabOk P n g k = true) :
    ∃ ty fz, w.heap[g]? = some (.cells (zs.map fun z => Value.int k z).toArray ty fz) := by
  unfold tabOk at hb
  rw [Bool.and_eq_true, decide_eq_true_eq] at hb
  obtain ⟨hg, hb⟩ := hb
  split at hb
  · rename_i t hty
    split at hb
    · rename_i m e ht
      split at hb
      · rename_i k' he
        simp only [Bool.and_eq_true, decide_eq_true_eq] at hb
        obtain ⟨⟨rfl, hce⟩, hct⟩ := hb
        obtain ⟨ps, hl, _⟩ := h
        obtain ⟨g', t', cs, fuel, p, hg', ht', hv, hd⟩ := laid_var hl hm
        obtain rfl := Option.some.inj (hg.symm.trans hg')
        obtain rfl := Option.some.inj (hty.symm.trans ht')
        obtain ⟨ty, fz, hb⟩ := block_of_var hg hv
        exact ⟨ty, fz, by rw [hb, ← Lib.cells_of_tab ht he hce hct hd]⟩
      · cases hb
    · cases hb
  · cases hb
def ifaceOk (P : Program) (n : String) (g : Nat) : Bool := decide (P.globalNamed n = some g) && match (P.globals[g]?).map (·.type) with
  | some t => (match P.underlying t with
    | some (.interface _) => true
    | _ => false)
  | none => false
theorem laid_iface {P : Program} {w : World} {l : List (String × DataW Unit)} {n s : String} {d : DataW Unit} {g : Nat} (h : laidMet P l w) (hm : (n, .iface s d) ∈ l) (hb : ifaceOk P n g = true) :
    ∃ u v ty fz, w.heap[g]? = some (.cells [Value.iface u v].toArray ty fz) := by
  unfold ifaceOk at hb
  rw [Bool.and_eq_true, decide_eq_true_eq] at hb
  obtain ⟨hg, hb⟩ := hb
  split at hb
  · rename_i t hty
    split at hb
    · rename_i ms ht
      obtain ⟨ps, hl, _⟩ := h
      obtain ⟨g', t', cs, fuel, p, hg', ht', hv, hd⟩ := laid_var hl hm
      obtain rfl := Option.some.inj (hg.symm.trans hg')
      obtain rfl := Option.some.inj (hty.symm.trans ht')
      obtain ⟨_, u, v, e, _, _⟩ := iface_of_trod ht hd
      obtain ⟨ty, fz, hb⟩ := block_of_var hg hv
      exact ⟨u, v, ty, fz, by rw [hb, ← e]⟩
    · cases hb
  · cases hb
theorem tab0_of {W : World} {rows : List (Nat × List Value)} (hp : TabP rows) (h : ∀ x ∈ rows, 0 < x.2.length ∧ ∃ ty fz, W.heap[x.1]? = some (.cells x.2.toArray ty fz)) : Tab0 (gOf W) ⟨[], []⟩ := by
  refine ⟨rows, hp, fun x hx => ⟨⟨(h x hx).1, (h x hx).2, fun o ho => ?_⟩, fun id hid => by simp at hid, fun id hid => by simp at hid⟩⟩
  obtain ⟨ty, fz, hb⟩ := (h x hx).2
  exact (Array.getElem?_eq_some_iff.1 hb).1
end Go.PL
namespace Go.Proofs.YtahnbliabllflaaGreatDoor
open Go.PL Go.RowKit
theorem pow_row {n : String} {W : World} {l : List (String × DataW Unit)} (h : laidMet Tryz.prog l W) (hm : (n, Rows.laid_internal_strconv_uint64pow10) ∈ l) (hb : tabOk Tryz.prog n 3 .u64 = true) :
    ∃ ty fz, W.heap[(3 : Nat)]? = some (.cells ((List.range 20).map fun i => Value.int .u64 (10 ^ i : Nat)).toArray ty fz) :=
  laid_tab (zs := (List.range 20).map fun i => ((10 ^ i : Nat) : Int)) h hm hb
end Go.Proofs.YtahnbliabllflaaGreatDoor
