/-
  Plain laws on lists for loops that pick elements.
-/
import Derived.Test.YtncdcgaaeclhiaaGb
namespace Go.PL
/-- of the first i elements those that p picks -/
def filN {α : Type} (p : α → Bool) (l : List α) (i : Nat) : List α := (l.take i).filter p
theorem filN_zero {α : Type} {p : α → Bool} {l : List α} : filN p l 0 = [] := by simp [filN]
theorem filN_hit {α : Type} {p : α → Bool} {l : List α} {i : Nat} (h : i < l.length) (hp : p l[i] = true) : filN p l (i + 1) = filN p l i ++ [l[i]] := by
  unfold filN
  rw [List.take_succ_eq_append_getElem h, List.filter_append]
  simp [hp]
theorem filN_miss {α : Type} {p : α → Bool} {l : List α} {i : Nat} (h : i < l.length) (hp : p l[i] = false) : filN p l (i + 1) = filN p l i := by
  unfold filN
  rw [List.take_succ_eq_append_getElem h, List.filter_append]
  simp [hp]
theorem filN_end {α : Type} {p : α → Bool} {l : List α} : filN p l l.length = l.filter p := by simp [filN]
theorem filN_len {α : Type} {p : α → Bool} {l : List α} {i : Nat} : (filN p l i).length ≤ i := by
  have h1 := List.length_filter_le p (l.take i)
  have h2 : (l.take i).length ≤ i := List.length_take_le _ _
  unfold filN; omega
theorem filN_len' {α : Type} {p : α → Bool} {l : List α} {i : Nat} : (filN p l i).length ≤ l.length := by
  have h1 := List.length_filter_le p (l.take i)
  have h2 : (l.take i).length ≤ l.length := List.length_take_le' _ _
  unfold filN; omega
end Go.PL
