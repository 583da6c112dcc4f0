/-
  The cursor over the bytes of a draw: what is drawn is a number in its range.
  Draws of records and of clocks.
-/
import Derived.Test.YtahnbliabllflaaEl
import Derived.Test.YtahnbliabllflaaFa
import Derived.Test.YtahnbliabllflaaGa
import Derived.Test.YtahnbliabllflaaL2
import Derived.Test.YtahnbliabllflaaL1
namespace Go.Proofs.Ytahnbliabllflaa
open Go.PL
set_option linter.unusedSimpArgs false
/-- the bytes of a draw -/
structure Bs where
  l : List Nat
  hb : ∀ b ∈ l, b ≤ 255
  hn : l.length ≤ 1048576
def bV (n : Nat) : Value := .int .u8 n
/-- the cursor's place and mixed number -/
structure Cr (B : Bs) where
  i : Nat
  h : Int
  le : i ≤ B.l.length
abbrev crC {B : Bs} (c : Cr B) : List C := [.l 1 (B.l.map bV), .v (.int .i64 c.i), .v (.int .i64 c.h)]
theorem and_255 (a : Nat) : a &&& 255 ≤ 255 := Nat.and_le_right
set_option maxHeartbeats 2000000 in
theorem byte_ex {B : Bs} (c : Cr B) : ∃ (x : Nat) (c' : Cr B), x ≤ 255 ∧ PC Try.prog 50 [(9000, crC c)] [.c (.p 9000 0)] (vN x) ⟨[(9000, crC c')], []⟩ := by
  obtain ⟨x0, hx0, e0⟩ := and255 (xorW .i64 (addW .i64 (mulW .i64 c.h 6364136223846793005) 1442695040888963407 / 2 ^ 33) (addW .i64 (mulW .i64 c.h 6364136223846793005) 1442695040888963407 / 2 ^ 45))
  have hle := c.le
  have hn := B.hn
  have go : ∀ (x : Nat) (c' : Cr B), ((c.i < B.l.length ∧ ∃ b, B.l[c.i]? = some b ∧ x = (x0 + b) &&& 255 ∧ c'.i = c.i + 1) ∨ (¬ c.i < B.l.length ∧ x = x0 ∧ c'.i = c.i)) → c'.h = addW .i64 (mulW .i64 c.h 6364136223846793005) 1442695040888963407 →
      PC Try.prog 50 [(9000, crC c)] [.c (.p 9000 0)] (vN x) ⟨[(9000, crC c')], []⟩ := by
    intro x c' hx hh
    refine pc_ofW Try.func50 rfl (by kernel_rfl) _ Try.ntmps50 (by simp) ?_
    refine codeW_seq (codeW_run ?_)
    refine run_start ?_
    simp -implicitDefEqProofs only [go_sem]
    refine codeW_seq (codeW_region (restW_start ?_))
    (repeat' (first | simp -implicitDefEqProofs only [go_sem] | (refine And.intro ?_ ?_; omega) | (refine And.intro (shr_bd ?_ ?_) ?_; omega; omega) | refine sl_list rfl ?_ | refine sd_list rfl ?_ | refine sl_str ?_ | refine sd_str ?_))
    refine codeW_seq (codeW_draw Try.pl_follows (by kernel_rfl) (restDW_start ?_))
    (repeat' (first | simp -implicitDefEqProofs only [e0, go_sem] | (refine And.intro ?_ ?_; omega) | (refine And.intro (shr_bd ?_ ?_) ?_; omega; omega) | refine sl_list rfl ?_ | refine sd_list rfl ?_ | refine sl_str ?_ | refine sd_str ?_))
    refine codeW_run ?_
    refine run_start ?_
    simp -implicitDefEqProofs only [go_sem]
    refine draw_step Try.pl_follows (by kernel_rfl) ?_
    rcases hx with ⟨hlt, b, hb, ex, ei⟩ | ⟨hlt, ex, ei⟩
    · have hb255 := B.hb b (List.mem_of_getElem? hb)
      have hg : (B.l.map bV)[c.i]? = some (.int .u8 b) := by rw [List.getElem?_map, hb]; rfl
      have e1 : ((c.i : Int) < B.l.length) = True := eq_true (by omega)
      have e2 : ((x0 : Int) + (b : Int)).toNat = x0 + b := by omega
      (repeat' (first | simp -implicitDefEqProofs only [e1, go_sem] | (refine And.intro ?_ ?_; omega) | (refine And.intro (shr_bd ?_ ?_) ?_; omega; omega) | refine sl_list rfl ?_ | refine sd_list rfl ?_ | refine sl_str ?_ | refine sd_str ?_))
      refine draw_step Try.pl_follows (by kernel_rfl) ?_
      (repeat' (first | simp -implicitDefEqProofs only [hg, hlt, e2, go_sem] | (refine And.intro ?_ ?_; omega) | (refine And.intro (shr_bd ?_ ?_) ?_; omega; omega) | refine sl_list rfl ?_ | refine sd_list rfl ?_ | refine sl_str ?_ | refine sd_str ?_))
      exact fin_of (fun i => i) (fun i => i) ⟨by simp [ex, ei, hh] <;> omega, by simp [ex, ei, hh] <;> omega, by simp [ex, ei, hh] <;> omega, by simp [ex, ei, hh] <;> omega, by simp [ex, ei, hh] <;> omega⟩ (by simp [ex, ei, hh] <;> omega) (by first | rfl | (simp [renPV, renV1, renC, ex, ei, hh]))
    · have e1 : ((c.i : Int) < B.l.length) = False := eq_false (by omega)
      (repeat' (first | simp -implicitDefEqProofs only [e1, go_sem] | (refine And.intro ?_ ?_; omega) | (refine And.intro (shr_bd ?_ ?_) ?_; omega; omega) | refine sl_list rfl ?_ | refine sd_list rfl ?_ | refine sl_str ?_ | refine sd_str ?_))
      exact fin_of (fun i => i) (fun i => i) ⟨by simp [ex, ei, hh] <;> omega, by simp [ex, ei, hh] <;> omega, by simp [ex, ei, hh] <;> omega, by simp [ex, ei, hh] <;> omega, by simp [ex, ei, hh] <;> omega⟩ (by simp [ex, ei, hh] <;> omega) (by first | rfl | (simp [renPV, renV1, renC, ex, ei, hh]))
  by_cases hlt : c.i < B.l.length
  · have hb : B.l[c.i]? = some B.l[c.i] := by simp [hlt]
    exact ⟨_, ⟨c.i + 1, _, by omega⟩, and_255 _, go ((x0 + B.l[c.i]) &&& 255) ⟨c.i + 1, addW .i64 (mulW .i64 c.h 6364136223846793005) 1442695040888963407, by omega⟩ (.inl ⟨hlt, _, hb, rfl, rfl⟩) rfl⟩
  · exact ⟨_, ⟨c.i, _, hle⟩, hx0, go x0 ⟨c.i, addW .i64 (mulW .i64 c.h 6364136223846793005) 1442695040888963407, hle⟩ (.inr ⟨hlt, rfl, rfl⟩) rfl⟩
noncomputable def byteN {B : Bs} (c : Cr B) : Nat := (byte_ex c).choose
noncomputable def byteC {B : Bs} (c : Cr B) : Cr B := (byte_ex c).choose_spec.choose
theorem byteN_le {B : Bs} (c : Cr B) : byteN c ≤ 255 := (byte_ex c).choose_spec.choose_spec.1
theorem byte_c {B : Bs} (c : Cr B) : PC Try.prog 50 [(9000, crC c)] [.c (.p 9000 0)] (vN (byteN c)) ⟨[(9000, crC (byteC c))], []⟩ := (byte_ex c).choose_spec.choose_spec.2
/-- a number from 0 to n - 1 -/
noncomputable def belN {B : Bs} (c : Cr B) (n : Int) : Int :=
  if n ≤ 0 then 0 else if n ≤ 256 then byteN c % n
  else ((byteN c : Int) * 16777216 + byteN (byteC c) * 65536 + byteN (byteC (byteC c)) * 256 + byteN (byteC (byteC (byteC c)))) % n
noncomputable def belC {B : Bs} (c : Cr B) (n : Int) : Cr B := if n ≤ 0 then c else if n ≤ 256 then byteC c else byteC (byteC (byteC (byteC c)))
theorem bel_rg {B : Bs} (c : Cr B) {n : Int} (h : 0 < n) : 0 ≤ belN c n ∧ belN c n < n := by
  unfold belN
  rw [if_neg (by omega)]
  split
  · exact ⟨Int.emod_nonneg _ (by omega), Int.emod_lt_of_pos _ h⟩
  · exact ⟨Int.emod_nonneg _ (by omega), Int.emod_lt_of_pos _ h⟩
theorem bel_0 {B : Bs} (c : Cr B) {n : Int} (h : n ≤ 0) : belN c n = 0 := by unfold belN; rw [if_pos h]
set_option maxHeartbeats 2000000 in
theorem bel_c {B : Bs} (c : Cr B) (n : Int) : PC Try.prog 34 [(9000, crC c)] [.c (.p 9000 0), .c (.v (.int .i64 n))] (vN (belN c n)) ⟨[(9000, crC (belC c n))], []⟩ := by
  refine pc_of Try.func34 rfl (by kernel_rfl) _ Try.ntmps34 (by simp) ?_
  by_cases h0 : n ≤ 0
  · have e1 : belN c n = 0 := bel_0 c h0
    have e2 : belC c n = c := by unfold belC; rw [if_pos h0]
    (repeat' (first | simp -implicitDefEqProofs only [h0, go_sem] | (refine And.intro ?_ ?_; omega) | (refine And.intro (shr_bd ?_ ?_) ?_; omega; omega) | refine sl_list rfl ?_ | refine sd_list rfl ?_ | refine sl_str ?_ | refine sd_str ?_))
    exact fin_of (fun i => i) (fun i => i) ⟨by simp [e1, e2] <;> omega, by simp [e1, e2] <;> omega, by simp [e1, e2] <;> omega, by simp [e1, e2] <;> omega, by simp [e1, e2] <;> omega⟩ (by simp [e1, e2] <;> omega) (by first | rfl | (simp [renPV, renV1, renC, e1, e2]))
  by_cases h1 : n ≤ 256
  · have e1 : belN c n = byteN c % n := by unfold belN; rw [if_neg h0, if_pos h1]
    have e2 : belC c n = byteC c := by unfold belC; rw [if_neg h0, if_pos h1]
    have b1 := byteN_le c
    (repeat' (first | simp -implicitDefEqProofs only [h0, h1, go_sem] | (refine And.intro ?_ ?_; omega) | (refine And.intro (shr_bd ?_ ?_) ?_; omega; omega) | refine sl_list rfl ?_ | refine sd_list rfl ?_ | refine sl_str ?_ | refine sd_str ?_))
    refine callC (byte_c c) rfl rfl rfl rfl rfl ?_
    (repeat' (first | simp -implicitDefEqProofs only [go_sem] | (refine And.intro ?_ ?_; omega) | (refine And.intro (shr_bd ?_ ?_) ?_; omega; omega) | refine sl_list rfl ?_ | refine sd_list rfl ?_ | refine sl_str ?_ | refine sd_str ?_))
    exact fin_of (fun i => i) (fun i => i) ⟨by simp [e1, e2] <;> omega, by simp [e1, e2] <;> omega, by simp [e1, e2] <;> omega, by simp [e1, e2] <;> omega, by simp [e1, e2] <;> omega⟩ (by simp [e1, e2] <;> omega) (by first | rfl | (simp [renPV, renV1, renC, e1, e2]))
  · have e1 : belN c n = ((byteN c : Int) * 16777216 + byteN (byteC c) * 65536 + byteN (byteC (byteC c)) * 256 + byteN (byteC (byteC (byteC c)))) % n := by unfold belN; rw [if_neg h0, if_neg h1]
    have e2 : belC c n = byteC (byteC (byteC (byteC c))) := by unfold belC; rw [if_neg h0, if_neg h1]
    have b1 := byteN_le c
    have b2 := byteN_le (byteC c)
    have b3 := byteN_le (byteC (byteC c))
    have b4 := byteN_le (byteC (byteC (byteC c)))
    repeat' first
      | (first | simp -implicitDefEqProofs only [h0, h1, go_sem] | (refine And.intro ?_ ?_; omega) | (refine And.intro (shr_bd ?_ ?_) ?_; omega; omega) | refine sl_list rfl ?_ | refine sd_list rfl ?_ | refine sl_str ?_ | refine sd_str ?_)
      | refine callC (byte_c c) rfl rfl rfl rfl rfl ?_
      | refine callC (byte_c (byteC c)) rfl rfl rfl rfl rfl ?_
      | refine callC (byte_c (byteC (byteC c))) rfl rfl rfl rfl rfl ?_
      | refine callC (byte_c (byteC (byteC (byteC c)))) rfl rfl rfl rfl rfl ?_
    exact fin_of (fun i => i) (fun i => i) ⟨by simp [e1, e2] <;> omega, by simp [e1, e2] <;> omega, by simp [e1, e2] <;> omega, by simp [e1, e2] <;> omega, by simp [e1, e2] <;> omega⟩ (by simp [e1, e2] <;> omega) (by first | rfl | (simp [renPV, renV1, renC, e1, e2]))
theorem once_c {B : Bs} (c : Cr B) (n : Int) : PC Try.prog 35 [(9000, crC c)] [.c (.p 9000 0), .c (.v (.int .i64 n))] (vB (decide (belN c n = 0))) ⟨[(9000, crC (belC c n))], []⟩ := by
  refine pc_of Try.func35 rfl (by kernel_rfl) _ Try.ntmps35 (by simp) ?_
  repeat' first
    | (first | simp -implicitDefEqProofs only [go_sem] | (refine And.intro ?_ ?_; omega) | (refine And.intro (shr_bd ?_ ?_) ?_; omega; omega) | refine sl_list rfl ?_ | refine sd_list rfl ?_ | refine sl_str ?_ | refine sd_str ?_)
    | refine callC (bel_c c n) rfl rfl rfl rfl rfl ?_
  exact fin_of (fun i => i) (fun i => i) ⟨by simp <;> omega, by simp <;> omega, by simp <;> omega, by simp <;> omega, by simp <;> omega⟩ (by simp <;> omega) rfl
/-- the numbers that are mixed at the cursor's start -/
noncomputable def mixN (B : Bs) : Nat → Nat
  | 0 => 33023 + B.l.length
  | i + 1 => (mixN B i * 131 + (B.l[i]?.getD 0) + 7) &&& 1073741823
theorem mixN_le (B : Bs) (i : Nat) : mixN B i ≤ 1073741823 := by
  cases i with
  | zero => have := B.hn; simp only [mixN]; omega
  | succ i => exact Nat.and_le_right
noncomputable def newCr (B : Bs) : Cr B := ⟨0, mixN B (min B.l.length 4000), by omega⟩
set_option maxHeartbeats 2000000 in
theorem new_c (B : Bs) (d : Nat) : PC Try.prog 16 [] [.c (.l 1 (B.l.map bV))] (.s (.c (.p d 0))) ⟨[(d, crC (newCr B))], []⟩ := by
  refine pc_of Try.func16 rfl (by kernel_rfl) _ Try.ntmps16 (by simp) ?_
  have hn := B.hn
  (repeat' (first | simp -implicitDefEqProofs only [go_sem] | (refine And.intro ?_ ?_; omega) | (refine And.intro (shr_bd ?_ ?_) ?_; omega; omega) | refine sl_list rfl ?_ | refine sd_list rfl ?_ | refine sl_str ?_ | refine sd_str ?_))
  refine loop_step (X := Nat) (fun i => ⟨32, [(0, vL 1 (B.l.map bV)), (3, vN (mixN B i)), (4, vN i)], ⟨[], []⟩⟩)
    (fun i => i ≤ B.l.length ∧ i ≤ 4000) (fun i => B.l.length - i) 0 ⟨by omega, by omega⟩ (weak_of (fun i => i) (fun i => i) rfl ⟨by simp [mixN] <;> omega, by simp [mixN] <;> omega, by simp [mixN] <;> omega, by simp [mixN] <;> omega, by simp [mixN] <;> omega⟩ (by simp [mixN] <;> omega)) (fun i hi => ?_)
  obtain ⟨hi1, hi2⟩ := hi
  have hm := mixN_le B i
  by_cases hlt : i < B.l.length
  · have e0 : ((i : Int) < B.l.length) = True := eq_true (by omega)
    by_cases h4 : i < 4000
    · have e4 : ((i : Int) < 4000) = True := eq_true (by omega)
      have hb := B.hb B.l[i] (List.getElem_mem hlt)
      have hg : (B.l.map bV)[i]? = some (.int .u8 B.l[i]) := by rw [List.getElem?_map, List.getElem?_eq_getElem hlt]; rfl
      have e5 : ((mixN B i : Int) * 131 + (B.l[i] : Int) + 7).toNat = mixN B i * 131 + B.l[i] + 7 := by omega
      have e6 : mixN B (i + 1) = (mixN B i * 131 + B.l[i] + 7) &&& 1073741823 := by simp [mixN, hlt]
      (repeat' (first | simp -implicitDefEqProofs only [e0, e4, hg, hlt, e5, go_sem] | (refine And.intro ?_ ?_; omega) | (refine And.intro (shr_bd ?_ ?_) ?_; omega; omega) | refine sl_list rfl ?_ | refine sd_list rfl ?_ | refine sl_str ?_ | refine sd_str ?_))
      exact ⟨i + 1, ⟨by omega, by omega⟩, by omega, weak_of (fun i => i) (fun i => i) rfl ⟨by simp [e6] <;> omega, by simp [e6] <;> omega, by simp [e6] <;> omega, by simp [e6] <;> omega, by simp [e6] <;> omega⟩ (by simp [e6] <;> omega)⟩
    · have e4 : ((i : Int) < 4000) = False := eq_false (by omega)
      have e7 : min B.l.length 4000 = i := by omega
      (repeat' (first | simp -implicitDefEqProofs only [e0, e4, go_sem] | (refine And.intro ?_ ?_; omega) | (refine And.intro (shr_bd ?_ ?_) ?_; omega; omega) | refine sl_list rfl ?_ | refine sd_list rfl ?_ | refine sl_str ?_ | refine sd_str ?_))
      exact fin_of (fun i => 31) (fun i => i) ⟨by simp [newCr, e7] <;> omega, by simp <;> omega, by simp <;> omega, by simp <;> omega, by simp <;> omega⟩ (by simp <;> omega) rfl
  · have e0 : ((i : Int) < B.l.length) = False := eq_false (by omega)
    have e7 : min B.l.length 4000 = i := by omega
    (repeat' (first | simp -implicitDefEqProofs only [e0, go_sem] | (refine And.intro ?_ ?_; omega) | (refine And.intro (shr_bd ?_ ?_) ?_; omega; omega) | refine sl_list rfl ?_ | refine sd_list rfl ?_ | refine sl_str ?_ | refine sd_str ?_))
    exact fin_of (fun i => 31) (fun i => i) ⟨by simp [newCr, e7] <;> omega, by simp <;> omega, by simp <;> omega, by simp <;> omega, by simp <;> omega⟩ (by simp <;> omega) rfl
end Go.Proofs.Ytahnbliabllflaa
namespace Go.Proofs.Ytahnbliabllflaa
open Go.PL
set_option linter.unusedSimpArgs false
def iter {α : Type} (f : α → α) : Nat → α → α
  | 0, s => s
  | n + 1, s => f (iter f n s)
/-- what is kept while records are drawn: the last puzzle's number, the records, the cursor -/
structure LS (B : Bs) where
  a : Int
  o : List Rec
  c : Cr B
noncomputable def lsR {B : Bs} (s : LS B) : Rec := ⟨s.a + 1 + belN s.c 3, 1 + belN (belC s.c 3) 4, 1 + belN (belC (belC s.c 3) 4) 12, belN (belC (belC (belC s.c 3) 4) 12) 100⟩
noncomputable def ls1 {B : Bs} (s : LS B) : LS B := ⟨s.a + 1 + belN s.c 3, s.o ++ [lsR s], belC (belC (belC (belC s.c 3) 4) 12) 100⟩
noncomputable def lsI {B : Bs} (c : Cr B) (i : Nat) : LS B := iter ls1 i ⟨0, [], belC c 6⟩
structure LsOk {B : Bs} (i : Nat) (s : LS B) : Prop where
  len : s.o.length = i
  a0 : 0 ≤ s.a
  a1 : s.a ≤ 3 * i
  rcd : ∀ r ∈ s.o, 1 ≤ r.p ∧ r.p ≤ s.a ∧ recOk r = true ∧ r.s ≤ 12 ∧ r.h ≤ 4
  srt : ∀ j, j < s.o.length → goodAt s.o j = true
theorem goodAt_snoc {rs : List Rec} {r : Rec} {j : Nat} (h : j < rs.length) : goodAt (rs ++ [r]) j = goodAt rs j := by
  have e1 : (rs ++ [r])[j]? = rs[j]? := List.getElem?_append_left h
  have e2 : (rs ++ [r])[j - 1]? = rs[j - 1]? := List.getElem?_append_left (by omega)
  unfold goodAt
  rw [e1, e2]
theorem goodAt_last {rs : List Rec} {r : Rec} (hr : recOk r = true) (h : ∀ q ∈ rs, q.p < r.p) : goodAt (rs ++ [r]) rs.length = true := by
  have hl : rs.length < (rs ++ [r]).length := by simp
  rw [goodAt_eq hl]
  have e1 : (rs ++ [r])[rs.length] = r := by simp
  rw [e1, hr, Bool.true_and]
  by_cases h0 : rs.length = 0
  · simp [h0]
  · have h2 : rs.length - 1 < rs.length := by omega
    have e2 : (rs ++ [r])[rs.length - 1]'(by omega) = rs[rs.length - 1] := List.getElem_append_left h2
    rw [e2]
    have := h rs[rs.length - 1] (List.getElem_mem h2)
    simp [this]
theorem lsI_ok {B : Bs} (c : Cr B) : ∀ i, i ≤ 30 → LsOk i (lsI c i)
  | 0, _ => ⟨rfl, by simp [lsI, iter], by simp [lsI, iter], by simp [lsI, iter], by simp [lsI, iter]⟩
  | i + 1, hi => by
    have ih := lsI_ok c i (by omega)
    have e : lsI c (i + 1) = ls1 (lsI c i) := rfl
    rw [e]
    generalize lsI c i = s at ih
    have b1 := bel_rg s.c (n := 3) (by omega)
    have b2 := bel_rg (belC s.c 3) (n := 4) (by omega)
    have b3 := bel_rg (belC (belC s.c 3) 4) (n := 12) (by omega)
    have b4 := bel_rg (belC (belC (belC s.c 3) 4) 12) (n := 100) (by omega)
    have a0 := ih.a0
    have a1 := ih.a1
    have hr : recOk (lsR s) = true := by
      simp only [recOk, lsR, Bool.and_eq_true, within_iff]
      omega
    have hp : (lsR s).p = s.a + 1 + belN s.c 3 := rfl
    have hs : (lsR s).s = 1 + belN (belC (belC s.c 3) 4) 12 := rfl
    have hh : (lsR s).h = 1 + belN (belC s.c 3) 4 := rfl
    have ea : (ls1 s).a = s.a + 1 + belN s.c 3 := rfl
    have eo : (ls1 s).o = s.o ++ [lsR s] := rfl
    refine ⟨by rw [eo]; simp [ih.len], by rw [ea]; omega, by rw [ea]; omega, fun r hm => ?_, fun j hj => ?_⟩
    · rw [eo] at hm
      rcases List.mem_append.1 hm with hm | hm
      · have := ih.rcd r hm
        exact ⟨this.1, by rw [ea]; omega, this.2.2.1, this.2.2.2⟩
      · simp only [List.mem_singleton] at hm
        subst hm
        exact ⟨by omega, by rw [ea]; omega, hr, by omega, by omega⟩
    · rw [eo] at hj ⊢
      have hl : (s.o ++ [lsR s]).length = s.o.length + 1 := by simp
      by_cases ej : j = s.o.length
      · subst ej
        exact goodAt_last hr fun q hq => by have := (ih.rcd q hq).2.1; omega
      · rw [goodAt_snoc (by omega)]
        exact ih.srt j (by omega)
/-- what is said of drawn records -/
structure RsOk (rs : List Rec) : Prop where
  ok : recordsOk rs = true
  len : rs.length ≤ 5
  rcd : ∀ r ∈ rs, 1 ≤ r.p ∧ r.p ≤ 15 ∧ r.s ≤ 12 ∧ r.h ≤ 4
/-- what is said of drawn clocks -/
structure ClkIn (a b c : Int) : Prop where
  a0 : 0 ≤ a
  a1 : a ≤ 199
  b0 : 0 ≤ b
  b1 : b ≤ 9
  c0 : 0 ≤ c
  c1 : c ≤ 29
end Go.Proofs.Ytahnbliabllflaa
