/-
  The holes of a board: each once.
  The key of a position does not change by a jump; what the functions compute that find keys.
  Acts on a valid table: what they leave as it is, and what they turn.
-/
import Derived.Test.YtahnbliabllflaaL6
import Derived.Test.YtahnbliabllflaaD3
import Derived.Test.YtahnbliabllflaaD6
import Derived.Test.YtahnbliabllflaaT1
import Derived.Test.YtahnbliabllflaaS8
namespace Go.Proofs.Ytahnbliabllflaa
open Go.PL
set_option linter.unusedSimpArgs false
theorem nodup_of_lt {n : Int} : ∀ m, (bitsN n m).Nodup
  | 0 => by simp [bitsN]
  | m + 1 => by
    by_cases h : bitAt n (m : Int) = true
    · rw [bitsN_hit h, List.nodup_append]
      refine ⟨nodup_of_lt m, by simp, fun a ha b hb => ?_⟩
      simp only [List.mem_singleton] at hb
      have := (mem_bitsN ha).2.1
      omega
    · rw [bitsN_miss (by simpa using h)]
      exact nodup_of_lt m
theorem holes_nodup {b : Brd} : (holesOf b).Nodup := by
  unfold holesOf
  split
  · exact nodup_of_lt _
  · simp
theorem hole_mem {b : Brd} {k : Int} (h : hasHole b k = true) : k ∈ holesOf b := by
  have h' := h
  simp only [hasHole, Bool.and_eq_true, within_iff] at h'
  obtain ⟨⟨hb, k0, k1⟩, hbit⟩ := h'
  have hk := hole_bd h
  rw [← holes_49 hb]
  simp only [bitsN, List.mem_map, List.mem_filter, List.mem_range]
  exact ⟨k.toNat, ⟨by omega, by rw [Int.toNat_of_nonneg k0]; exact hbit⟩, by omega⟩
end Go.Proofs.Ytahnbliabllflaa
namespace Go.Proofs.Ytahnbliabllflaa
open Go.PL
set_option linter.unusedSimpArgs false
set_option linter.unusedVariables false
/-! ### parities -/
def par (P : Int → Bool) (l : List Int) : Bool := l.foldl (fun s k => xor s (P k)) false
theorem par_nil {P : Int → Bool} : par P [] = false := rfl
theorem par_snoc {P : Int → Bool} {l : List Int} {k : Int} : par P (l ++ [k]) = xor (par P l) (P k) := by simp [par]
theorem foldl_xor (P : Int → Bool) : ∀ (l : List Int) (s : Bool), l.foldl (fun s k => xor s (P k)) s = xor s (l.foldl (fun s k => xor s (P k)) false)
  | [], s => by simp
  | k :: l, s => by
    rw [List.foldl_cons, List.foldl_cons, foldl_xor P l (xor s (P k)), foldl_xor P l (xor false (P k))]
    cases s <;> cases P k <;> simp
theorem par_cons {P : Int → Bool} {l : List Int} {k : Int} : par P (k :: l) = xor (P k) (par P l) := by
  unfold par
  rw [List.foldl_cons, foldl_xor]
  simp
theorem par_xor {P Q : Int → Bool} : ∀ l : List Int, par (fun k => xor (P k) (Q k)) l = xor (par P l) (par Q l)
  | [] => rfl
  | k :: l => by
    rw [par_cons, par_cons, par_cons, par_xor l]
    cases P k <;> cases Q k <;> cases par P l <;> cases par Q l <;> rfl
theorem par_congr {P Q : Int → Bool} : ∀ {l : List Int}, (∀ k ∈ l, P k = Q k) → par P l = par Q l
  | [], _ => rfl
  | k :: l, h => by rw [par_cons, par_cons, h k (by simp), par_congr fun x hx => h x (List.mem_cons_of_mem _ hx)]
theorem par_one {a : Int} : ∀ {l : List Int}, l.Nodup → par (fun k => decide (k = a)) l = decide (a ∈ l)
  | [], _ => by simp [par]
  | k :: l, hn => by
    obtain ⟨h1, h2⟩ := List.nodup_cons.1 hn
    rw [par_cons, par_one h2]
    by_cases e : k = a
    · subst e; simp [h1]
    · have e' : ¬ a = k := fun h => e h.symm
      simp [e, e']
/-! ### classes of holes -/
def clA (b : Brd) (k : Int) : Int := (k % b.w + k / b.w) % 3
def clB (b : Brd) (k : Int) : Int := (k % b.w + 2 * (k / b.w)) % 3
def parA (b : Brd) (p r : Int) (l : List Int) : Bool := par (fun k => bitAt p k && decide (clA b k = r)) l
def parB (b : Brd) (p r : Int) (l : List Int) : Bool := par (fun k => bitAt p k && decide (clB b k = r)) l
def b2n (b : Bool) : Int := if b = true then 1 else 0
theorem b2n_rg (b : Bool) : 0 ≤ b2n b ∧ b2n b ≤ 1 := by unfold b2n; split <;> omega
theorem b2n_not (b : Bool) : (((b2n b).toNat ^^^ 1 : Nat) : Int) = b2n (!b) := by cases b <;> rfl
theorem b2n_xor (a b : Bool) : (((b2n a).toNat ^^^ (b2n b).toNat : Nat) : Int) = b2n (xor a b) := by cases a <;> cases b <;> rfl
def clsL (b : Brd) (p : Int) (l : List Int) : List Int := [b2n (parA b p 0 l), b2n (parA b p 1 l), b2n (parA b p 2 l), b2n (parB b p 0 l), b2n (parB b p 1 l), b2n (parB b p 2 l)]
def keyL (b : Brd) (p : Int) : List Int :=
  [b2n (xor (parA b p 0 (holesOf b)) (parA b p 1 (holesOf b))), b2n (xor (parA b p 1 (holesOf b)) (parA b p 2 (holesOf b))), b2n (xor (parB b p 0 (holesOf b)) (parB b p 1 (holesOf b))), b2n (xor (parB b p 1 (holesOf b)) (parB b p 2 (holesOf b)))]
theorem mod3 {x : Int} : x % 3 = 0 ∨ x % 3 = 1 ∨ x % 3 = 2 := by omega
/-- the three holes of a line are of three classes -/
theorem line_cls {b : Brd} {l : Ln} (h : l ∈ linesOf b) : (clA b l.f ≠ clA b l.o ∧ clA b l.o ≠ clA b l.t ∧ clA b l.f ≠ clA b l.t) ∧ (clB b l.f ≠ clB b l.o ∧ clB b l.o ≠ clB b l.t ∧ clB b l.f ≠ clB b l.t) := by
  obtain ⟨way, h0, h3, hh, ho, ht, eo, et⟩ := line_at h
  have hb := (hole_bd hh).1
  obtain ⟨o1, o2, _, _⟩ := step_coord hb (k := l.f) (way := way) (by rw [← eo]; exact ho)
  obtain ⟨t1, t2, _, _⟩ := step_coord hb (k := l.o) (way := way) (by rw [← et]; exact ht)
  rw [← eo] at o1 o2
  rw [← et] at t1 t2
  unfold clA clB
  rw [t1, t2, o1, o2]
  have : way = 0 ∨ way = 1 ∨ way = 2 ∨ way = 3 := by omega
  rcases this with rfl | rfl | rfl | rfl
  · simp only [show dx 0 = 1 from rfl, show dy 0 = 0 from rfl]; omega
  · simp only [show dx 1 = 0 from rfl, show dy 1 = 1 from rfl]; omega
  · simp only [show dx 2 = -1 from rfl, show dy 2 = 0 from rfl]; omega
  · simp only [show dx 3 = 0 from rfl, show dy 3 = -1 from rfl]; omega
theorem one_cls {l : Ln} {c : Int → Int} {r : Int} (h1 : c l.f ≠ c l.o) (h2 : c l.o ≠ c l.t) (h3 : c l.f ≠ c l.t) (hc : ∀ k, c k = 0 ∨ c k = 1 ∨ c k = 2) (hr : r = 0 ∨ r = 1 ∨ r = 2) :
    ∃ a, (a = l.f ∨ a = l.o ∨ a = l.t) ∧ ∀ k, ((decide (k = l.f) || (decide (k = l.o) || decide (k = l.t))) && decide (c k = r)) = decide (k = a) := by
  have hf := hc l.f
  have ho := hc l.o
  have ht := hc l.t
  have key : ∀ a, (a = l.f ∨ a = l.o ∨ a = l.t) → c a = r → ∀ k, ((decide (k = l.f) || (decide (k = l.o) || decide (k = l.t))) && decide (c k = r)) = decide (k = a) := fun a ha hca k => by
    rw [Bool.eq_iff_iff]
    simp only [Bool.and_eq_true, Bool.or_eq_true, decide_eq_true_eq]
    constructor
    · rintro ⟨hk, hck⟩
      apply Classical.byContradiction
      intro hne
      rcases hk with rfl | rfl | rfl <;> rcases ha with rfl | rfl | rfl <;> first | exact hne rfl | omega
    · rintro rfl
      exact ⟨ha, hca⟩
  by_cases e1 : c l.f = r
  · exact ⟨l.f, .inl rfl, key _ (.inl rfl) e1⟩
  by_cases e2 : c l.o = r
  · exact ⟨l.o, .inr (.inl rfl), key _ (.inr (.inl rfl)) e2⟩
  have e3 : c l.t = r := by omega
  exact ⟨l.t, .inr (.inr rfl), key _ (.inr (.inr rfl)) e3⟩
theorem flip_at {p : Int} {l : Ln} {k : Int} (hp : 0 ≤ p) (hk : 0 ≤ k) (hl : LnIn l) (h1 : l.f ≠ l.o) (h2 : l.o ≠ l.t) (h3 : l.f ≠ l.t) : bitAt (flip p l) k = xor (bitAt p k) (decide (k = l.f) || (decide (k = l.o) || decide (k = l.t))) := by
  obtain ⟨f0, f1, o0, o1, t0, t1⟩ := hl
  rw [flip, bitAt_int hk, bitAt_toNat hp hk, Nat.testBit_xor, bitsL, Nat.testBit_or, Nat.testBit_or, Nat.testBit_two_pow, Nat.testBit_two_pow, Nat.testBit_two_pow]
  have a1 : (l.f.toNat = k.toNat) = (k = l.f) := propext ⟨fun h => by omega, fun h => by omega⟩
  have a2 : (l.o.toNat = k.toNat) = (k = l.o) := propext ⟨fun h => by omega, fun h => by omega⟩
  have a3 : (l.t.toNat = k.toNat) = (k = l.t) := propext ⟨fun h => by omega, fun h => by omega⟩
  simp only [a1, a2, a3, Bool.or_assoc]
theorem par_flip {b : Brd} {p : Int} {l : Ln} (hl : l ∈ linesOf b) (hp : 0 ≤ p) {c : Int → Int} (h1 : c l.f ≠ c l.o) (h2 : c l.o ≠ c l.t) (h3 : c l.f ≠ c l.t) (hc : ∀ k, c k = 0 ∨ c k = 1 ∨ c k = 2) {r : Int} (hr : r = 0 ∨ r = 1 ∨ r = 2) :
    par (fun k => bitAt (flip p l) k && decide (c k = r)) (holesOf b) = !par (fun k => bitAt p k && decide (c k = r)) (holesOf b) := by
  obtain ⟨n1, n2, n3⟩ := line_ne hl
  obtain ⟨_, hf, ho, ht⟩ := mem_lines hl
  obtain ⟨a, ha, he⟩ := one_cls h1 h2 h3 hc hr
  have e1 : par (fun k => bitAt (flip p l) k && decide (c k = r)) (holesOf b) = par (fun k => xor (bitAt p k && decide (c k = r)) (decide (k = a))) (holesOf b) := by
    apply par_congr
    intro k hk
    have k0 := (mem_holes hk).2.2.1
    rw [flip_at hp k0 (lnIn hl) n1 n2 n3, ← he k]
    cases bitAt p k <;> cases decide (c k = r) <;> cases (decide (k = l.f) || (decide (k = l.o) || decide (k = l.t))) <;> rfl
  have hm : a ∈ holesOf b := by rcases ha with rfl | rfl | rfl <;> exact hole_mem (by assumption)
  rw [e1, par_xor, par_one holes_nodup, decide_eq_true hm]
  cases par (fun k => bitAt p k && decide (c k = r)) (holesOf b) <;> rfl
theorem key_flip {b : Brd} {p : Int} {l : Ln} (hl : l ∈ linesOf b) (hp : 0 ≤ p) : keyL b (flip p l) = keyL b p := by
  obtain ⟨⟨a1, a2, a3⟩, c1, c2, c3⟩ := line_cls hl
  have fa : ∀ r, r = 0 ∨ r = 1 ∨ r = 2 → parA b (flip p l) r (holesOf b) = !parA b p r (holesOf b) := fun r hr => par_flip (c := clA b) hl hp a1 a2 a3 (fun _ => mod3) hr
  have fb : ∀ r, r = 0 ∨ r = 1 ∨ r = 2 → parB b (flip p l) r (holesOf b) = !parB b p r (holesOf b) := fun r hr => par_flip (c := clB b) hl hp c1 c2 c3 (fun _ => mod3) hr
  have nn : ∀ x y : Bool, xor (!x) (!y) = xor x y := fun x y => by cases x <;> cases y <;> rfl
  unfold keyL
  rw [fa 0 (by omega), fa 1 (by omega), fa 2 (by omega), fb 0 (by omega), fb 1 (by omega), fb 2 (by omega), nn, nn, nn, nn]
theorem key_play {b : Brd} : ∀ {ls : List Ln} {p q : Int}, 0 ≤ p → playF b p ls = some q → keyL b q = keyL b p
  | [], p, q, _, h => by simp only [playF, Option.some.injEq] at h; rw [h]
  | l :: ls, p, q, hp, h => by
    simp only [playF] at h
    split at h
    · rename_i hcd
      simp only [canDo, Bool.and_eq_true] at hcd
      rw [key_play (by simp only [flip]; omega) h, key_flip (isLine_mem hcd.2.1) hp]
    · cases h
/-! ### walks -/
theorem cls_get {b : Brd} {p : Int} {l : List Int} : ∀ {j : Nat}, j < 6 → ∃ B, (clsL b p l)[j]? = some (b2n B)
  | 0, _ => ⟨_, rfl⟩
  | 1, _ => ⟨_, rfl⟩
  | 2, _ => ⟨_, rfl⟩
  | 3, _ => ⟨_, rfl⟩
  | 4, _ => ⟨_, rfl⟩
  | 5, _ => ⟨_, rfl⟩
  | n + 6, h => by omega
theorem xor_t (x : Bool) : xor x true = !x := by cases x <;> rfl
/-- a hole with a peg: the class list turns at two places -/
theorem cls_hit {b : Brd} {p k : Int} {l : List Int} {i j : Nat} (hb : bitAt p k = true) (hi : clA b k = i) (hj : clB b k = j) {A B : Bool} (hA : (clsL b p l)[i]? = some (b2n A)) (hB : (clsL b p l)[3 + j]? = some (b2n B)) :
    ((clsL b p l).set i (b2n (!A))).set (3 + j) (b2n (!B)) = clsL b p (l ++ [k]) := by
  have i3 : i = 0 ∨ i = 1 ∨ i = 2 := by have := mod3 (x := k % b.w + k / b.w); unfold clA at hi; omega
  have j3 : j = 0 ∨ j = 1 ∨ j = 2 := by have := mod3 (x := k % b.w + 2 * (k / b.w)); unfold clB at hj; omega
  have ea : ∀ r, parA b p r (l ++ [k]) = xor (parA b p r l) (decide ((i : Int) = r)) := fun r => by simp only [parA, par_snoc, hb, hi, Bool.true_and]
  have eb : ∀ r, parB b p r (l ++ [k]) = xor (parB b p r l) (decide ((j : Int) = r)) := fun r => by simp only [parB, par_snoc, hb, hj, Bool.true_and]
  have inj : ∀ {x y : Bool}, b2n x = b2n y → x = y := fun {x y} h => by cases x <;> cases y <;> first | rfl | (simp [b2n] at h)
  unfold clsL at *
  simp only [ea, eb]
  rcases i3 with rfl | rfl | rfl <;> rcases j3 with rfl | rfl | rfl <;>
    simp only [List.getElem?_cons_zero, List.getElem?_cons_succ, Option.some.injEq, Nat.reduceAdd, Nat.zero_add, Nat.add_zero] at hA hB <;>
    (have hA := inj hA; have hB := inj hB; subst hA; subst hB; simp [xor_t])
theorem cls_miss {b : Brd} {p k : Int} {l : List Int} (hb : bitAt p k = false) : clsL b p (l ++ [k]) = clsL b p l := by
  unfold clsL
  simp [parA, parB, par_snoc, hb]
def sameKey (b : Brd) (p q : Int) : Bool := decide (keyL b p = keyL b q)
theorem keyL_len {b : Brd} {p : Int} : (keyL b p).length = 4 := rfl
end Go.Proofs.Ytahnbliabllflaa
namespace Go.Proofs.Ytahnbliabllflaa
open Go.PL
set_option linter.unusedSimpArgs false
set_option linter.unusedVariables false
theorem hintR_g {g : Gm} (h : hintOk g = true) : hintR g = ⟨g.x, g.j ++ [hintL g], g.h + 1, g.u⟩ ∧ makeOk g (hintL g) = true := by
  have h' := h
  simp only [hintOk, Bool.and_eq_true] at h'
  have hm := h'.2.1
  refine ⟨?_, hm⟩
  simp only [hintR, h, if_true, hintG, makeG, hm, addG]
theorem makeG_g {g : Gm} {l : Ln} (h : makeOk g l = true) : makeG g l = ⟨g.x, g.j ++ [l], g.h, g.u⟩ := by simp only [makeG, h, if_true, addG]
theorem doT_x {t : Tb} {a : Ac} : (doT t a).g.x = t.g.x := by
  unfold doT
  repeat' split
  · unfold playT; split
    · exact makeG_x.1
    · rfl
  · rfl
  · unfold askT; split
    · rename_i h
      simp only [askOk, Bool.and_eq_true] at h
      show (hintR t.g).x = t.g.x
      rw [(hintR_g h.2.2.1).1]
    · rfl
  · unfold stepT; split
    · show (backR t.g).x = t.g.x
      unfold backR; split <;> rfl
    · rfl
  · unfold claimT; split <;> rfl
  · rfl
  · rfl
theorem doT_h {t : Tb} {a : Ac} : (doT t a).g.h = if a.k = 2 ∧ doN t a = 1 then t.g.h + 1 else t.g.h := by
  unfold doT doN
  by_cases hh : tableOk t = true ∧ actOk a.k a.a a.b = true
  · rw [if_pos hh, if_pos hh]
    by_cases k1 : a.k = 1
    · rw [if_pos k1, if_pos k1]
      refine Eq.trans ?_ (if_neg (fun h => by have := h.1; omega)).symm
      split
      · unfold playT; split
        · exact makeG_x.2.1
        · rfl
      · rfl
    · rw [if_neg k1, if_neg k1]
      by_cases k2 : a.k = 2
      · rw [if_pos k2, if_pos k2]
        unfold askT
        by_cases ho : askOk t a.a = true
        · have ho' := ho
          simp only [askOk, Bool.and_eq_true] at ho'
          rw [if_pos ho, if_pos ⟨k2, by simp [b2i, ho]⟩]
          show (hintR t.g).h = _
          rw [(hintR_g ho'.2.2.1).1]
        · rw [if_neg ho, if_neg (fun h => by have := h.2; simp [b2i, ho] at this)]
      · have k2' : ¬ (a.k = 2 ∧ (if a.k = 2 then b2i (askOk t a.a) else if a.k = 3 then b2i (stepOk t) else if a.k = 4 then b2i (claimOk t a.a a.b) else nowOf t.g) = 1) := fun h => k2 h.1
        rw [if_neg k2', if_neg k2]
        split
        · unfold stepT; split
          · show (backR t.g).h = t.g.h
            unfold backR; split <;> rfl
          · rfl
        · split
          · unfold claimT; split <;> rfl
          · rfl
  · rw [if_neg hh, if_neg hh, if_neg (by omega)]
/-- what holds of a valid table's game -/
structure GameT (t : Tb) (p : Int) : Prop where
  ok : gameOk t.g = true
  px : puzzleOk t.g.x = true
  ply : playF t.g.x.b t.g.x.s t.g.j = some p
  now : nowOf t.g = p
  ps : positionOk t.g.x.b t.g.x.s = true
  pos : positionOk t.g.x.b p = true
  len : t.g.j.length ≤ 60
  h : 0 ≤ t.g.h ∧ t.g.h ≤ 1000
theorem gameT {t : Tb} (h : tableOk t = true) : ∃ p, GameT t p := by
  have hg := tableOk_g h
  have hg' := hg
  simp only [gameOk, Bool.and_eq_true, within_iff] at hg'
  obtain ⟨hx, hh, _, hs⟩ := hg'
  obtain ⟨r, hr⟩ := Option.isSome_iff_exists.1 hs
  have hx' := hx
  simp only [puzzleOk, Bool.and_eq_true] at hx'
  have hr2 := hr
  unfold playAll at hr2
  split at hr2
  · rename_i hc
    exact ⟨r, hg, hx, hr2, by simp [nowOf, hg, playI, hr], hx'.2.1, playF_pos hx'.2.1 hr2, hc.2, hh⟩
  · cases hr2
def isSol (b : Brd) (p q : Int) (ls : List Ln) : Bool := (playAll b p ls).isSome && decide (playI b p ls = q)
/-- what the law says of a valid table -/
structure TopAt (t : Tb) (p : Int) : Prop where
  sol : isSol t.g.x.b t.g.x.s p t.g.j = true
  key : sameKey t.g.x.b t.g.x.s p = true
  cnt : (pegs p.toNat : Int) = (pegs t.g.x.s.toNat : Int) - (t.g.j.length : Int)
  aud : auditOk t = true
  und : undoAll t.g.x.b p t.g.j = some t.g.x.s
theorem topAt {t : Tb} (ht : tableOk t = true) {p : Int} (h : GameT t p) : TopAt t p := by
  obtain ⟨_, p0, _⟩ := pos_sub h.ps
  have hl := playF_len p0 h.ply
  have hpl : playAll t.g.x.b t.g.x.s t.g.j = some p := by
    unfold playAll; rw [if_pos ⟨h.ps, h.len⟩]; exact h.ply
  refine ⟨by simp [isSol, playI, hpl], ?_, by omega, audit_all ht, ?_⟩
  · simp only [sameKey, decide_eq_true_eq]
    exact (key_play p0 h.ply).symm
  · obtain ⟨_, q0, _⟩ := pos_sub h.pos
    unfold undoAll
    rw [if_pos ⟨h.pos, h.len⟩]
    exact undone t.g.j.length p (Nat.le_refl _) (by rw [List.take_length]; exact h.ply)
/-- behind a hint the goal can be reached -/
theorem hint_reach {t : Tb} {a : Ac} (ht : tableOk t = true) (hk : a.k = 2) (hn : doN t a = 1) : canReach t.g.x.b (nowOf (doT t a).g) t.g.x.g = true := by
  have hh : tableOk t = true ∧ actOk a.k a.a a.b = true := by
    apply Classical.byContradiction
    intro hh
    unfold doN at hn
    rw [if_neg hh] at hn
    omega
  have ho : askOk t a.a = true := by
    unfold doN at hn
    rw [if_pos hh, if_neg (by omega), if_pos hk] at hn
    cases h : askOk t a.a with
    | true => rfl
    | false => rw [h] at hn; simp [b2i] at hn
  have eT : (doT t a).g = hintR t.g := by
    unfold doT
    rw [if_pos hh, if_neg (by omega), if_pos hk]
    unfold askT
    rw [if_pos ho]
    rfl
  rw [eT]
  simp only [askOk, Bool.and_eq_true] at ho
  have hok := ho.2.2.1
  obtain ⟨eR, hm⟩ := hintR_g hok
  obtain ⟨p, P⟩ := gameT ht
  have hRok := hintR_ok hok
  rw [eR] at hRok
  obtain ⟨p', P'⟩ := gameT (t := { t with g := ⟨t.g.x, t.g.j ++ [hintL t.g], t.g.h + 1, t.g.u⟩ }) (by
    obtain ⟨_, h2, h3, h4⟩ := tableOk_iff.1 ht
    exact tableOk_iff.2 ⟨hRok, h2, h3, h4⟩)
  obtain ⟨r, h1, h2, h3⟩ := playF_unsnoc P'.ply
  have er : r = p := by have := P.ply; simp only at h1; rw [this] at h1; exact (Option.some.inj h1).symm
  subst er
  rw [eR]
  have hnow := P'.now
  simp only at hnow
  rw [hnow, h3]
  have hok' := hok
  simp only [hintOk, Bool.and_eq_true] at hok'
  obtain ⟨l, hl⟩ := Option.isSome_iff_exists.1 hok'.1
  have hL : hintL t.g = l := by simp [hintL, hl, lineO]
  rw [P.now] at hl
  unfold hintFor at hl
  split at hl
  · have hmem : l ∈ goodJ t.g.x.b r t.g.x.g := List.mem_of_mem_head? hl
    obtain ⟨_, hlg⟩ := List.mem_filter.1 hmem
    rw [hL, canReach_back]
    exact hlg
  · cases hl
end Go.Proofs.Ytahnbliabllflaa
