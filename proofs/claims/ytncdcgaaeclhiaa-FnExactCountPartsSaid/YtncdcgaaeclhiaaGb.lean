/-
  Plain laws on lists for loops that write a list in place.
-/
import Derived.Test.YtncdcgaaeclhiaaGa
namespace Go.PL
/-- a list whose first i elements are written anew -/
def mkd (f : Nat → Value) (l : List Value) (i : Nat) : List Value := (List.range i).map f ++ l.drop i
/-- a list of n written elements -/
def marks (f : Nat → Value) (n : Nat) : List Value := (List.range n).map f
theorem marks_len {f : Nat → Value} {n : Nat} : (marks f n).length = n := by simp [marks]
theorem marks_get {f : Nat → Value} {n i : Nat} (h : i < n) : (marks f n)[i]? = some (f i) := by simp [marks, h]
theorem mkd_zero {f : Nat → Value} {l : List Value} : mkd f l 0 = l := by simp [mkd]
theorem mkd_len {f : Nat → Value} {l : List Value} {i : Nat} (h : i ≤ l.length) : (mkd f l i).length = l.length := by simp [mkd]; omega
theorem mkd_get {f : Nat → Value} {l : List Value} {i : Nat} : (mkd f l i)[i]? = l[i]? := by
  simp only [mkd]
  rw [List.getElem?_append_right (by simp)]
  simp
theorem mkd_set {f : Nat → Value} {l : List Value} {i : Nat} (h : i < l.length) : (mkd f l i).set i (f i) = mkd f l (i + 1) := by
  simp only [mkd]
  rw [List.set_append_right _ _ (by simp), List.range_succ, List.map_append, List.append_assoc]
  congr 1
  have e : i - ((List.range i).map f).length = 0 := by simp
  rw [e, List.drop_eq_getElem_cons h]
  rfl
theorem mkd_end {f : Nat → Value} {l : List Value} : mkd f l l.length = marks f l.length := by simp [mkd, marks]
@[go_sem] theorem set_set' {l : List Value} {i : Nat} {a b : Value} : (l.set i a).set i b = l.set i b := by simp
@[go_sem] theorem set_get {l : List Value} {i : Nat} {a : Value} (h : i < l.length) : (l.set i a)[i]? = some a := by simp [h]
@[go_sem] theorem set_len {l : List Value} {i : Nat} {a : Value} : (l.set i a).length = l.length := by simp
@[go_sem] theorem agg_set {l : List Value} {i : Nat} {u : Value} : l.toArray.setIfInBounds i u = (l.set i u).toArray := by simp
@[go_sem] theorem cast_zero' : ((0 : Nat) : Int) = 0 := rfl
@[go_sem] theorem cast_one' : ((1 : Nat) : Int) = 1 := rfl
end Go.PL
