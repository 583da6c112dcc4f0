/-
  Plain laws on lists for loops that fill or read a list.
-/
import Derived.Test.YtncdcgaaeclhiaaEf
namespace Go.PL
/-- a list of l.length values of which the first i are done -/
def made {α : Type} (f : α → Value) (z : Value) (l : List α) (i : Nat) : List Value := (l.take i).map f ++ List.replicate (l.length - i) z
theorem made_zero {α : Type} {f : α → Value} {z : Value} {l : List α} : made f z l 0 = List.replicate l.length z := by simp [made]
theorem made_len {α : Type} {f : α → Value} {z : Value} {l : List α} {i : Nat} (h : i ≤ l.length) : (made f z l i).length = l.length := by simp [made]; omega
theorem made_set {α : Type} {f : α → Value} {z : Value} {l : List α} {i : Nat} (h : i < l.length) : (made f z l i).set i (f l[i]) = made f z l (i + 1) := by
  apply List.ext_getElem?
  intro j
  simp only [made, List.getElem?_set, List.getElem?_append, List.length_map, List.length_take, List.getElem?_map, List.getElem?_take, List.getElem?_replicate, List.length_append, List.length_replicate]
  by_cases h1 : i = j
  · subst h1
    have : min (i + 1) l.length = i + 1 := by omega
    have h2 : min i l.length = i := by omega
    have h3 : i < i + (l.length - i) := by omega
    simp [h2, h3, h]
    intro h4; omega
  · by_cases h2 : j < i
    · have h3 : j < min i l.length := by omega
      have h4 : j < min (i + 1) l.length := by omega
      have h5 : j < i + 1 := by omega
      simp [h1, h3, h4, h2, h5, show j < l.length by omega]
    · have h3 : ¬ j < min i l.length := by omega
      have h4 : ¬ j < min (i + 1) l.length := by omega
      simp only [h1, if_false, h3, h4]
      have h5 : (j - min i l.length < l.length - i) ↔ (j - min (i + 1) l.length < l.length - (i + 1)) := by omega
      by_cases h6 : j - min i l.length < l.length - i
      · rw [if_pos h6, if_pos (h5.1 h6)]
      · rw [if_neg h6, if_neg (fun h => h6 (h5.2 h))]
theorem made_end {α : Type} {f : α → Value} {z : Value} {l : List α} : made f z l l.length = l.map f := by simp [made]
theorem map_get {α : Type} {f : α → Value} {l : List α} {i : Nat} (h : i < l.length) : (l.map f)[i]? = some (f l[i]) := by simp [h]
@[go_sem] theorem toNat_pred (i : Nat) : ((i : Int) - 1).toNat = i - 1 := by omega
@[go_sem] theorem toNat_succ (i : Nat) : ((i : Int) + 1).toNat = i + 1 := by omega
attribute [go_sem] List.size_toArray List.length_append List.length_take List.length_drop
end Go.PL
