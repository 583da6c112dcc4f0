/-
  Plain laws: the fields of a line, numbers in a text, acts in a line.
-/
import Derived.Test.YtlplopaahflcpaaDoorB2
import Derived.Lib.AtoiTie
namespace Go.Proofs.YtlplopaahflcpaaDoor
open Go.PL
set_option linter.unusedSimpArgs false
set_option linter.unusedVariables false
/-! ### numerals -/
theorem decFrom_app : ∀ (a b : List UInt8) (acc : Nat), Lib.decFrom acc (a ++ b) = (Lib.decFrom acc a).bind fun m => Lib.decFrom m b
  | [], b, acc => rfl
  | c :: a, b, acc => by
    simp only [List.cons_append, Lib.decFrom]
    cases Lib.digitVal c with
    | none => rfl
    | some d => exact decFrom_app a b _
theorem digitVal_of {d : Nat} (h : d < 10) : Lib.digitVal (UInt8.ofNat (48 + d)) = some d := by
  have e : (UInt8.ofNat (48 + d)).toNat = 48 + d := by rw [UInt8.toNat_ofNat']; omega
  unfold Lib.digitVal
  rw [e, if_pos (by omega)]
  congr 1; omega
theorem decFrom_dec : ∀ n : Nat, Lib.decFrom 0 (Lib.decDigits n) = some n := by
  intro n
  induction n using Nat.strongRecOn with
  | ind n ih =>
    by_cases h : n < 10
    · rw [dec_small h]
      simp only [Lib.decFrom, digitVal_of h]
      congr 1; omega
    · rw [dec_big h, decFrom_app, ih (n / 10) (by omega)]
      simp only [Option.bind_some, Lib.decFrom, digitVal_of (Nat.mod_lt n (show 0 < 10 by omega))]
      congr 1; omega
theorem dec_lenk : ∀ (k n : Nat), n < 10 ^ (k + 1) → (Lib.decDigits n).length ≤ k + 1
  | 0, n, h => by rw [dec_small (by simpa using h)]; simp
  | k + 1, n, h => by
    by_cases h10 : n < 10
    · rw [dec_small h10]; simp
    · have hp : (10 : Nat) ^ (k + 1 + 1) = 10 ^ (k + 1) * 10 := Nat.pow_succ ..
      have := dec_lenk k (n / 10) (by omega)
      rw [dec_big h10, List.length_append]; simp; omega
theorem dec_ne {n : Nat} : Lib.decDigits n ≠ [] := by
  by_cases h : n < 10
  · rw [dec_small h]; simp
  · rw [dec_big h]; simp
theorem dec_digit {n k : Nat} {b : UInt8} (h : (Lib.decDigits n)[k]? = some b) : 48 ≤ b.toNat ∧ b.toNat ≤ 57 := by
  obtain ⟨d, hd⟩ := Lib.digit_of_decFrom _ _ _ (decFrom_dec n) k b h
  unfold Lib.digitVal at hd
  split at hd
  · assumption
  · cases hd
theorem dec_mem {n : Nat} {b : UInt8} (h : b ∈ Lib.decDigits n) : 48 ≤ b.toNat ∧ b.toNat ≤ 57 := by
  obtain ⟨k, hk, rfl⟩ := List.mem_iff_getElem.1 h
  exact dec_digit (List.getElem?_eq_getElem hk)
theorem atoi_dec {n : Nat} (h : n ≤ 1000000000) : Lib.atoiAll (Lib.decDigits n) = .ok (n : Int) := by
  have hl := dec_lenk 9 n (by omega)
  rw [Lib.atoiAll_short _ (by omega)]
  cases hd : Lib.decDigits n with
  | nil => exact absurd hd dec_ne
  | cons c r =>
    have hc : 48 ≤ c.toNat ∧ c.toNat ≤ 57 := dec_mem (n := n) (by rw [hd]; simp)
    have h45 : (c == 45) = false := by
      rw [beq_eq_false_iff_ne]; rintro rfl; revert hc; decide
    have h43 : (c == 43) = false := by
      rw [beq_eq_false_iff_ne]; rintro rfl; revert hc; decide
    have hn : Lib.decNat (c :: r) = some n := by
      rw [← hd]
      unfold Lib.decNat
      rw [decFrom_dec]
      have : (Lib.decDigits n).isEmpty = false := by rw [hd]; rfl
      rw [this]; rfl
    simp only [Lib.atoi, h45, h43, hn, Bool.false_eq_true, if_false, Option.map_some, Lib.NumEnd.ofOption]
theorem pU_iff {l : List UInt8} {v : Int} : pU l = some v ↔ 0 ≤ v ∧ v ≤ 1000000000 ∧ itoa v = l := by
  constructor
  · intro h
    unfold pU at h
    split at h
    · split at h
      · obtain rfl := Option.some.inj h
        assumption
      · cases h
    · cases h
  · rintro ⟨h0, h1, rfl⟩
    obtain ⟨n, rfl⟩ : ∃ n : Nat, v = n := ⟨v.toNat, by omega⟩
    have e : Lib.atoiAll (itoa (n : Int)) = .ok (n : Int) := by rw [itoa_nat]; exact atoi_dec (by omega)
    have e2 : Lib.itoa (n : Int) = itoa (n : Int) := rfl
    unfold pU
    rw [e]
    simp only [e2, and_true]
    rw [if_pos ⟨h0, h1⟩]
theorem pU_dec {l : List UInt8} {v : Int} (h : pU l = some v) : ∃ n : Nat, v = n ∧ n ≤ 1000000000 ∧ l = Lib.decDigits n := by
  obtain ⟨h0, h1, rfl⟩ := pU_iff.1 h
  obtain ⟨n, rfl⟩ : ∃ n : Nat, v = n := ⟨v.toNat, by omega⟩
  exact ⟨n, rfl, by omega, itoa_nat n⟩
theorem pU_long {l : List UInt8} (h : 10 < l.length) : pU l = none := by
  cases e : pU l with
  | none => rfl
  | some v =>
    obtain ⟨n, _, hn, rfl⟩ := pU_dec e
    have := dec_lenk 9 n (by omega)
    omega
theorem pU_bad {l : List UInt8} {i : Nat} {b : UInt8} (hi : l[i]? = some b) (h : ¬ (48 ≤ b.toNat ∧ b.toNat ≤ 57)) : pU l = none := by
  cases e : pU l with
  | none => rfl
  | some v =>
    obtain ⟨n, _, hn, rfl⟩ := pU_dec e
    exact absurd (dec_digit hi) h
/-- what a row of digits makes of itself -/
theorem pU_row {l : List UInt8} {n : Nat} (h : Lib.decFrom 0 l = some n) : pU l = if (n : Int) ≤ 1000000000 ∧ itoa (n : Int) = l then some (n : Int) else none := by
  split
  · rename_i hc
    exact pU_iff.2 ⟨by omega, hc.1, hc.2⟩
  · rename_i hc
    cases e : pU l with
    | none => rfl
    | some v =>
      obtain ⟨m, rfl, hm, e2⟩ := pU_dec e
      rw [e2, decFrom_dec] at h
      obtain rfl := Option.some.inj h
      exact absurd ⟨by omega, by rw [itoa_nat]; exact e2.symm⟩ hc
/-! ### the fields of a line -/
def okB (b : UInt8) : Bool := decide (32 ≤ b.toNat ∧ b.toNat ≤ 126)
def fldsG : List UInt8 → List UInt8 → List (List UInt8)
  | cur, [] => if cur = [] then [] else [cur]
  | cur, c :: r => if c = 32 then (if cur = [] then fldsG [] r else cur :: fldsG [] r) else fldsG (cur ++ [c]) r
def flds (l : List UInt8) : List (List UInt8) := fldsG [] l
def fldsOk (l : List UInt8) : Bool := decide (l.length ≤ 600) && (l.all okB && decide ((flds l).length ≤ 24))
def fldsR (l : List UInt8) : List (List UInt8) := if fldsOk l = true then flds l else []
/-- where the walk along a line stands: place i, the word since b, the words before -/
structure FldAt (l : List UInt8) (i b : Nat) (out : List (List UInt8)) : Prop where
  le : i ≤ l.length + 1
  ok : (l.take i).all okB = true
  len : out.length ≤ i
  bi : i ≤ l.length → b ≤ i
  sum : i ≤ l.length → out ++ fldsG ((l.drop b).take (i - b)) (l.drop i) = flds l
  fin : i = l.length + 1 → out = flds l
theorem fld_start (l : List UInt8) : FldAt l 0 0 [] := ⟨by omega, by simp, by simp, fun _ => Nat.le_refl _, fun _ => by simp [flds], fun h => by omega⟩
theorem cut_next {l : List UInt8} {i b : Nat} (h : i < l.length) (hb : b ≤ i) : (l.drop b).take (i + 1 - b) = (l.drop b).take (i - b) ++ [l[i]] := by
  have e : i + 1 - b = (i - b) + 1 := by omega
  have hl : i - b < (l.drop b).length := by rw [List.length_drop]; omega
  rw [e, List.take_succ_eq_append_getElem hl, List.getElem_drop]
  congr 3; omega
theorem cut_nil {l : List UInt8} {i b : Nat} (h : i ≤ l.length) : (l.drop b).take (i - b) = [] ↔ ¬ b < i := by
  constructor
  · intro e hb
    have := congrArg List.length e
    rw [List.length_take, List.length_drop, List.length_nil] at this
    omega
  · intro hb
    have : i - b = 0 := by omega
    rw [this, List.take_zero]
theorem all_next {l : List UInt8} {i : Nat} (h : i < l.length) (hk : (l.take i).all okB = true) (h1 : okB l[i] = true) : (l.take (i + 1)).all okB = true := by
  rw [List.take_succ_eq_append_getElem h, List.all_append, hk]
  simp [h1]
/-- a byte of a word -/
theorem fld_word {l : List UInt8} {i b : Nat} {out : List (List UInt8)} (h : FldAt l i b out) (hi : i < l.length) (h1 : okB l[i] = true) (h2 : l[i] ≠ 32) : FldAt l (i + 1) b out := by
  have hb := h.bi (by omega)
  refine ⟨by omega, all_next hi h.ok h1, by have := h.len; omega, fun _ => by omega, fun _ => ?_, fun e => by omega⟩
  rw [← h.sum (by omega), List.drop_eq_getElem_cons hi, fldsG, if_neg h2, cut_next hi hb]
/-- a space behind a word -/
theorem fld_end {l : List UInt8} {i b : Nat} {out : List (List UInt8)} (h : FldAt l i b out) (hi : i < l.length) (h1 : okB l[i] = true) (h2 : l[i] = 32) (hb : b < i) : FldAt l (i + 1) (i + 1) (out ++ [(l.drop b).take (i - b)]) := by
  have e : ¬ (l.drop b).take (i - b) = [] := fun h => (cut_nil (by omega)).1 h hb
  refine ⟨by omega, all_next hi h.ok h1, by have := h.len; rw [List.length_append]; simp; omega, fun _ => Nat.le_refl _, fun _ => ?_, fun e => by omega⟩
  rw [← h.sum (by omega), List.drop_eq_getElem_cons hi, fldsG, if_pos h2, if_neg e]
  simp
/-- a space behind a space -/
theorem fld_skip {l : List UInt8} {i b : Nat} {out : List (List UInt8)} (h : FldAt l i b out) (hi : i < l.length) (h1 : okB l[i] = true) (h2 : l[i] = 32) (hb : ¬ b < i) : FldAt l (i + 1) (i + 1) out := by
  have e : (l.drop b).take (i - b) = [] := (cut_nil (by omega)).2 hb
  refine ⟨by omega, all_next hi h.ok h1, by have := h.len; omega, fun _ => Nat.le_refl _, fun _ => ?_, fun e => by omega⟩
  rw [← h.sum (by omega), List.drop_eq_getElem_cons hi, fldsG, if_pos h2, if_pos e]
  simp
/-- the end of the line -/
theorem fld_last {l : List UInt8} {b : Nat} {out : List (List UInt8)} (h : FldAt l l.length b out) (hb : b < l.length) : FldAt l (l.length + 1) (l.length + 1) (out ++ [(l.drop b).take (l.length - b)]) := by
  have e : ¬ (l.drop b).take (l.length - b) = [] := fun h => (cut_nil (by omega)).1 h hb
  refine ⟨by omega, ?_, by have := h.len; rw [List.length_append]; simp; omega, fun e => by omega, fun e => by omega, fun _ => ?_⟩
  · rw [List.take_of_length_le (by omega)]
    have := h.ok
    rwa [List.take_length] at this
  · have := h.sum (Nat.le_refl _)
    rw [List.drop_length, fldsG, if_neg e] at this
    exact this
theorem fld_none {l : List UInt8} {b : Nat} {out : List (List UInt8)} (h : FldAt l l.length b out) (hb : ¬ b < l.length) : FldAt l (l.length + 1) (l.length + 1) out := by
  have e : (l.drop b).take (l.length - b) = [] := (cut_nil (by omega)).2 hb
  refine ⟨by omega, ?_, by have := h.len; omega, fun e => by omega, fun e => by omega, fun _ => ?_⟩
  · rw [List.take_of_length_le (by omega)]
    have := h.ok
    rwa [List.take_length] at this
  · have := h.sum (Nat.le_refl _)
    rw [List.drop_length, fldsG, if_pos e, List.append_nil] at this
    exact this
theorem fld_done {l : List UInt8} {i b : Nat} {out : List (List UInt8)} (h : FldAt l i b out) (hi : l.length < i) : out = flds l ∧ l.all okB = true := by
  obtain rfl : i = l.length + 1 := by have := h.le; omega
  refine ⟨h.fin rfl, ?_⟩
  have := h.ok
  rwa [List.take_of_length_le (by omega)] at this
theorem fld_bad {l : List UInt8} {i : Nat} (hi : i < l.length) (h1 : okB l[i] = false) : fldsOk l = false := by
  have : l.all okB = false := by
    rw [List.all_eq_false]
    exact ⟨l[i], List.getElem_mem hi, by simp [h1]⟩
  simp [fldsOk, this]
theorem fldsR_no {l : List UInt8} (h : fldsOk l = false) : fldsR l = [] := by simp [fldsR, h]
theorem fldsR_ok {l : List UInt8} (h : fldsOk l = true) : fldsR l = flds l := by simp [fldsR, h]
/-- words: not empty, without a space -/
def wrd (w : List UInt8) : Prop := w ≠ [] ∧ ∀ b ∈ w, b ≠ 32
theorem fldsG_wrd : ∀ (l cur : List UInt8), (∀ b ∈ cur, b ≠ 32) → ∀ w ∈ fldsG cur l, wrd w
  | [], cur, hc, w, hw => by
    simp only [fldsG] at hw
    split at hw
    · simp at hw
    · rename_i hne
      obtain rfl := List.mem_singleton.1 hw
      exact ⟨hne, hc⟩
  | c :: r, cur, hc, w, hw => by
    simp only [fldsG] at hw
    split at hw
    · split at hw
      · exact fldsG_wrd r [] (by simp) w hw
      · rename_i hne
        rcases List.mem_cons.1 hw with rfl | hw
        · exact ⟨hne, hc⟩
        · exact fldsG_wrd r [] (by simp) w hw
    · rename_i h32
      refine fldsG_wrd r (cur ++ [c]) (fun b hb => ?_) w hw
      rcases List.mem_append.1 hb with hb | hb
      · exact hc b hb
      · rw [List.mem_singleton.1 hb]; exact h32
theorem fldsG_wl : ∀ (l cur : List UInt8), ∀ w ∈ fldsG cur l, w.length ≤ cur.length + l.length
  | [], cur, w, hw => by
    simp only [fldsG] at hw
    split at hw
    · simp at hw
    · rw [List.mem_singleton.1 hw]; simp
  | c :: r, cur, w, hw => by
    simp only [fldsG] at hw
    split at hw
    · split at hw
      · have := fldsG_wl r [] w hw
        simp only [List.length_cons, List.length_nil] at this ⊢; omega
      · rcases List.mem_cons.1 hw with rfl | hw
        · simp
        · have := fldsG_wl r [] w hw
          simp only [List.length_cons, List.length_nil] at this ⊢; omega
    · have := fldsG_wl r (cur ++ [c]) w hw
      simp only [List.length_cons, List.length_append, List.length_nil] at this ⊢; omega
theorem flds_wl {l : List UInt8} : ∀ w ∈ flds l, w.length ≤ l.length := fun w hw => by
  have := fldsG_wl l [] w hw
  simpa using this
theorem flds_wrd {l : List UInt8} : ∀ w ∈ flds l, wrd w := fldsG_wrd l [] (by simp)
theorem fldsG_app : ∀ (w cur r : List UInt8), (∀ b ∈ w, b ≠ 32) → fldsG cur (w ++ r) = fldsG (cur ++ w) r
  | [], cur, r, _ => by simp
  | c :: w, cur, r, h => by
    rw [List.cons_append, fldsG, if_neg (h c (by simp)), fldsG_app w (cur ++ [c]) r (fun b hb => h b (by simp [hb]))]
    simp
theorem fldsG_sp {cur r : List UInt8} (h : cur ≠ []) : fldsG cur (32 :: r) = cur :: flds r := by
  rw [fldsG, if_pos rfl, if_neg h]; rfl
theorem flds_sp {r : List UInt8} : flds (32 :: r) = flds r := by
  unfold flds
  rw [fldsG, if_pos rfl, if_pos rfl]
/-- words behind a space each -/
def tailT (ws : List (List UInt8)) : List UInt8 := ws.flatMap fun w => 32 :: w
theorem flds_join : ∀ (ws : List (List UInt8)) (w : List UInt8), wrd w → (∀ x ∈ ws, wrd x) → flds (w ++ tailT ws) = w :: ws
  | [], w, hw, _ => by
    unfold flds
    rw [fldsG_app w [] _ hw.2]
    simp only [tailT, List.flatMap_nil, List.nil_append, fldsG]
    rw [if_neg hw.1]
  | x :: ws, w, hw, h => by
    have ih := flds_join ws x (h x (by simp)) (fun y hy => h y (by simp [hy]))
    unfold flds
    rw [fldsG_app w [] _ hw.2]
    simp only [tailT, List.flatMap_cons, List.nil_append, List.cons_append] at ih ⊢
    rw [fldsG_sp hw.1, ih]
theorem flds_back : ∀ (l cur : List UInt8), (∀ b ∈ cur, b ≠ 32) → fldsG cur (l ++ [32]) = fldsG cur l
  | [], cur, hc => by simp [fldsG]
  | c :: r, cur, hc => by
    simp only [List.cons_append, fldsG]
    split
    · rw [flds_back r [] (by simp)]
    · rename_i h32
      exact flds_back r (cur ++ [c]) (fun b hb => by
        rcases List.mem_append.1 hb with hb | hb
        · exact hc b hb
        · rw [List.mem_singleton.1 hb]; exact h32)
theorem join_inj {ws vs : List (List UInt8)} {w v : List UInt8} (hw : wrd w) (hws : ∀ x ∈ ws, wrd x) (hv : wrd v) (hvs : ∀ x ∈ vs, wrd x) (h : w ++ tailT ws = v ++ tailT vs) : w = v ∧ ws = vs := by
  have := congrArg flds h
  rw [flds_join ws w hw hws, flds_join vs v hv hvs] at this
  exact List.cons.inj this
/-! ### acts in a line -/
/-- the numbers that texts denote, if all do -/
def pUs : List (List UInt8) → Option (List Int)
  | [] => some []
  | x :: r => match pU x, pUs r with
    | some v, some vs => some (v :: vs)
    | _, _ => none
def kindW (w : List UInt8) : Int := if w = wordT 1 then 1 else if w = wordT 2 then 2 else if w = wordT 3 then 3 else if w = wordT 4 then 4 else if w = wordT 5 then 5 else 0
theorem kindW_iff {w : List UInt8} {k : Int} (hk : k = 1 ∨ k = 2 ∨ k = 3 ∨ k = 4 ∨ k = 5) : kindW w = k ↔ w = wordT k := by
  constructor
  · intro h
    unfold kindW at h
    repeat' split at h
    all_goals first
      | (subst h; assumption)
      | omega
  · rintro rfl
    rcases hk with rfl | rfl | rfl | rfl | rfl <;> decide
theorem kindW_cases {w : List UInt8} : kindW w = 0 ∨ kindW w = 1 ∨ kindW w = 2 ∨ kindW w = 3 ∨ kindW w = 4 ∨ kindW w = 5 := by
  unfold kindW
  repeat' split
  all_goals omega
/-- the act of a line's fields, if they are one -/
def actW (k : Int) (ns : List Int) : Ac := ⟨k, ns.getD 0 0, ns.getD 1 0⟩
def actN (k : Int) (ns : List Int) : Bool := decide (ns.length = numsN k) && actOk k (ns.getD 0 0) (ns.getD 1 0)
def pa : List (List UInt8) → Option Ac
  | [] => none
  | w :: az => match pUs az with
    | none => none
    | some ns => if kindW w ≠ 0 ∧ actN (kindW w) ns = true then some (actW (kindW w) ns) else none
def paL (l : List UInt8) : Option Ac := if fldsOk l = true then pa (flds l) else none
def noA : Ac := ⟨0, 0, 0⟩
def paA (l : List UInt8) : Ac := (paL l).getD noA
def paB (l : List UInt8) : Bool := (paL l).isSome
theorem pUs_next : ∀ {az : List (List UInt8)} {i : Nat} {ns : List Int} {v : Int} (h : i < az.length), pUs (az.take i) = some ns → pU az[i] = some v → pUs (az.take (i + 1)) = some (ns ++ [v])
  | x :: r, 0, ns, v, h, h1, h2 => by
    simp only [List.take_zero, pUs, Option.some.injEq] at h1
    subst h1
    simp only [List.getElem_cons_zero] at h2
    simp [pUs, h2]
  | x :: r, i + 1, ns, v, h, h1, h2 => by
    simp only [List.take_succ_cons, pUs] at h1 ⊢
    cases hx : pU x with
    | none => rw [hx] at h1; simp at h1
    | some u =>
      rw [hx] at h1
      cases hr : pUs (r.take i) with
      | none => rw [hr] at h1; simp at h1
      | some us =>
        rw [hr] at h1
        simp only [Option.some.injEq] at h1
        subst h1
        have := pUs_next (az := r) (i := i) (ns := us) (v := v) (by simpa using h) hr (by simpa using h2)
        rw [this]
        rfl
theorem pUs_bad : ∀ {az : List (List UInt8)} {i : Nat} (h : i < az.length), pU az[i] = none → pUs az = none
  | x :: r, 0, h, h2 => by
    simp only [List.getElem_cons_zero] at h2
    simp [pUs, h2]
  | x :: r, i + 1, h, h2 => by
    have := pUs_bad (az := r) (i := i) (by simpa using h) (by simpa using h2)
    simp only [pUs, this]
    split
    · rename_i h3; cases h3
    · rfl
theorem pUs_len : ∀ {az : List (List UInt8)} {ns : List Int}, pUs az = some ns → ns.length = az.length
  | [], ns, h => by simp only [pUs, Option.some.injEq] at h; subst h; rfl
  | x :: r, ns, h => by
    simp only [pUs] at h
    split at h
    · rename_i v vs h1 h2
      obtain rfl := Option.some.inj h
      simp [pUs_len h2]
    · cases h
theorem pUs_iff : ∀ {az : List (List UInt8)} {ns : List Int}, pUs az = some ns ↔ az = ns.map itoa ∧ ∀ n ∈ ns, 0 ≤ n ∧ n ≤ 1000000000
  | [], ns => by
    simp only [pUs, Option.some.injEq]
    constructor
    · rintro rfl; simp
    · rintro ⟨h, _⟩
      cases ns with
      | nil => rfl
      | cons a b => simp at h
  | x :: r, ns => by
    simp only [pUs]
    constructor
    · intro h
      split at h
      · rename_i v vs h1 h2
        obtain rfl := Option.some.inj h
        obtain ⟨h3, h4⟩ := pUs_iff.1 h2
        obtain ⟨h5, h6, h7⟩ := pU_iff.1 h1
        refine ⟨by rw [List.map_cons, h7, ← h3], fun n hn => ?_⟩
        rcases List.mem_cons.1 hn with rfl | hn
        · exact ⟨h5, h6⟩
        · exact h4 n hn
      · cases h
    · rintro ⟨h, hr⟩
      cases ns with
      | nil => simp at h
      | cons v vs =>
        rw [List.map_cons] at h
        obtain ⟨h1, h2⟩ := List.cons.inj h
        have e1 : pU x = some v := pU_iff.2 ⟨(hr v (by simp)).1, (hr v (by simp)).2, h1.symm⟩
        have e2 : pUs r = some vs := pUs_iff.2 ⟨h2, fun n hn => hr n (by simp [hn])⟩
        rw [e1, e2]
theorem itoa_wrd {n : Int} (h : 0 ≤ n) : wrd (itoa n) := by
  obtain ⟨m, rfl⟩ : ∃ m : Nat, n = m := ⟨n.toNat, by omega⟩
  rw [itoa_nat]
  refine ⟨dec_ne, fun b hb => ?_⟩
  have := dec_mem hb
  rintro rfl
  revert this; decide
theorem word_wrd {k : Int} : wrd (wordT k) := by
  have h : (wordT k).all (fun b => decide (b ≠ 32)) = true ∧ wordT k ≠ [] := by
    unfold wordT
    repeat' split
    all_goals exact ⟨by decide, by decide⟩
  refine ⟨h.2, fun b hb => ?_⟩
  have := List.all_eq_true.1 h.1 b hb
  simpa using this
/-- the numbers of an act, those that are printed -/
def numsA (a : Ac) : List Int := [a.a, a.b].take (numsN a.k)
theorem numT_join {a b : Int} {n : Nat} (h : n ≤ 2) : numT a b n = tailT (([a, b].take n).map itoa) := by
  match n, h with
  | 0, _ => rfl
  | 1, _ => simp [numT, tailT]
  | 2, _ => simp [numT, tailT]
theorem numsN_le {k : Int} : numsN k ≤ 2 := by
  unfold numsN
  repeat' split
  all_goals omega
theorem actT_join {a : Ac} (h : actOk a.k a.a a.b = true) : actT a = wordT a.k ++ tailT ((numsA a).map itoa) := by
  rw [actT, if_pos h, numT_join numsN_le]; rfl
theorem numsA_wrd {a : Ac} (h : actOk a.k a.a a.b = true) : ∀ x ∈ (numsA a).map itoa, wrd x := by
  obtain ⟨_, h1, h2⟩ := act_cases h
  intro x hx
  obtain ⟨n, hn, rfl⟩ := List.mem_map.1 hx
  have hn : n ∈ [a.a, a.b] := List.mem_of_mem_take hn
  rcases List.mem_cons.1 hn with rfl | hn
  · exact itoa_wrd h1.1
  · rw [List.mem_singleton.1 hn]; exact itoa_wrd h2.1
theorem actOk_zero {k a b : Int} (h : actOk k a b = true) : (numsN k ≤ 1 → b = 0) ∧ (numsN k = 0 → a = 0) := by
  obtain ⟨hk, _⟩ := act_cases h
  rcases hk with rfl | rfl | rfl | rfl | rfl <;> simp [numsN, actOk] at h ⊢ <;> simp_all
/-- an act's text, read again -/
theorem pa_actT {a : Ac} (h : actOk a.k a.a a.b = true) : pa (wordT a.k :: (numsA a).map itoa) = some a := by
  obtain ⟨hk, h1, h2⟩ := act_cases h
  have e : pUs ((numsA a).map itoa) = some (numsA a) := pUs_iff.2 ⟨rfl, fun n hn => by
    have hn : n ∈ [a.a, a.b] := List.mem_of_mem_take hn
    rcases List.mem_cons.1 hn with rfl | hn
    · omega
    · rw [List.mem_singleton.1 hn]; omega⟩
  have ek : kindW (wordT a.k) = a.k := (kindW_iff hk).2 rfl
  have hz := actOk_zero h
  have hl : (numsA a).length = numsN a.k := by
    have := numsN_le (k := a.k)
    simp only [numsA, List.length_take, List.length_cons, List.length_nil]; omega
  have g0 : (numsA a).getD 0 0 = a.a := by
    unfold numsA
    by_cases h0 : numsN a.k = 0
    · rw [h0, hz.2 h0]; rfl
    · obtain ⟨m, hm⟩ : ∃ m, numsN a.k = m + 1 := ⟨numsN a.k - 1, by omega⟩
      rw [hm]; rfl
  have g1 : (numsA a).getD 1 0 = a.b := by
    unfold numsA
    by_cases h0 : numsN a.k ≤ 1
    · rw [hz.1 h0]
      by_cases h1 : numsN a.k = 0
      · rw [h1]; rfl
      · have : numsN a.k = 1 := by omega
        rw [this]; rfl
    · have := numsN_le (k := a.k)
      have : numsN a.k = 2 := by omega
      rw [this]; rfl
  have hne : a.k ≠ 0 := by omega
  simp only [pa, e, ek]
  rw [if_pos ⟨hne, by simp only [actN, g0, g1, h, hl, decide_true, Bool.and_self]⟩]
  simp only [actW, g0, g1]
/-- what an act that was read prints -/
theorem pa_some {w : List UInt8} {az : List (List UInt8)} {x : Ac} (h : pa (w :: az) = some x) : actOk x.k x.a x.b = true ∧ w = wordT x.k ∧ az = (numsA x).map itoa := by
  simp only [pa] at h
  split at h
  · cases h
  · rename_i ns hns
    split at h
    · rename_i hc
      obtain ⟨h0, hN⟩ := hc
      obtain rfl := Option.some.inj h
      have hk : kindW w = 1 ∨ kindW w = 2 ∨ kindW w = 3 ∨ kindW w = 4 ∨ kindW w = 5 := by
        rcases kindW_cases (w := w) with h | h
        · exact absurd h h0
        · exact h
      simp only [actN, Bool.and_eq_true, decide_eq_true_eq] at hN
      obtain ⟨hl, ho⟩ := hN
      refine ⟨ho, (kindW_iff hk).1 rfl, ?_⟩
      rw [(pUs_iff.1 hns).1]
      congr 1
      have hle := numsN_le (k := kindW w)
      simp only [numsA, actW]
      rw [← hl] at hle ⊢
      match ns, hle with
      | [], _ => rfl
      | [a], _ => rfl
      | [a, b], _ => rfl
    · cases h
/-- what the reference makes of a word's number -/
def l40 (l : List UInt8) : Int := match l with
  | 45 :: (c :: r) => -((pU (c :: r)).getD 0)
  | _ => (pU l).getD 0
theorem l40_itoa {n : Int} (h : 0 ≤ n) (h1 : n ≤ 1000000000) : l40 (itoa n) = n := by
  have hp : pU (itoa n) = some n := pU_iff.2 ⟨h, h1, rfl⟩
  unfold l40
  split
  · rename_i c r e
    obtain ⟨m, rfl⟩ : ∃ m : Nat, n = m := ⟨n.toNat, by omega⟩
    rw [itoa_nat] at e
    have := dec_mem (n := m) (b := 45) (by rw [e]; simp)
    exact absurd this (by decide)
  · rw [hp]; rfl
/-- the reference's test of a kind is the other's -/
theorem spec_kind {w : List UInt8} {az : List (List UInt8)} {k : Int} (hw : wrd w) (has : ∀ x ∈ az, wrd x)
    (h : actOk k ((az.map l40).getD 0 0) ((az.map l40).getD 1 0) = true)
    (e : actT ⟨k, (az.map l40).getD 0 0, (az.map l40).getD 1 0⟩ = w ++ tailT az) :
    pa (w :: az) = some ⟨k, (az.map l40).getD 0 0, (az.map l40).getD 1 0⟩ := by
  generalize hx : (⟨k, (az.map l40).getD 0 0, (az.map l40).getD 1 0⟩ : Ac) = x at *
  have hok : actOk x.k x.a x.b = true := by rw [← hx]; exact h
  rw [actT_join hok] at e
  obtain ⟨e1, e2⟩ := join_inj word_wrd (numsA_wrd hok) hw has e
  rw [← e1, ← e2]
  exact pa_actT hok
theorem spec_some {w : List UInt8} {az : List (List UInt8)} {x : Ac} (h : pa (w :: az) = some x) :
    x.a = (az.map l40).getD 0 0 ∧ x.b = (az.map l40).getD 1 0 ∧ actT x = w ++ tailT az ∧ az.length ≤ 2 := by
  obtain ⟨hok, rfl, rfl⟩ := pa_some h
  obtain ⟨_, h1, h2⟩ := act_cases hok
  have hz := actOk_zero hok
  have hle := numsN_le (k := x.k)
  have ea : l40 (itoa x.a) = x.a := l40_itoa h1.1 (by omega)
  have eb : l40 (itoa x.b) = x.b := l40_itoa h2.1 (by omega)
  refine ⟨?_, ?_, actT_join hok, ?_⟩
  · unfold numsA
    rcases (show numsN x.k = 0 ∨ numsN x.k = 1 ∨ numsN x.k = 2 by omega) with h | h | h <;> rw [h]
    · exact hz.2 h
    · exact ea.symm
    · exact ea.symm
  · unfold numsA
    rcases (show numsN x.k = 0 ∨ numsN x.k = 1 ∨ numsN x.k = 2 by omega) with h | h | h <;> rw [h]
    · exact hz.1 (by omega)
    · exact hz.1 (by omega)
    · exact eb.symm
  · rw [List.length_map, numsA, List.length_take]; simp only [List.length_cons, List.length_nil]; omega
theorem pa_hit {w : List UInt8} {az : List (List UInt8)} {ns : List Int} {k : Int} (hk : k = 1 ∨ k = 2 ∨ k = 3 ∨ k = 4 ∨ k = 5) (hw : w = wordT k) (hn : pUs az = some ns) (hl : ns.length = numsN k) :
    pa (w :: az) = if actOk k (ns.getD 0 0) (ns.getD 1 0) = true then some (actW k ns) else none := by
  have e := (kindW_iff hk).2 hw
  have hne : k ≠ 0 := by omega
  simp only [pa, hn, e, actN, hl, decide_true, Bool.true_and]
  by_cases h : actOk k (ns.getD 0 0) (ns.getD 1 0) = true
  · rw [if_pos ⟨hne, h⟩, if_pos h]
  · rw [if_neg (fun x => h x.2), if_neg h]
theorem pa_miss {w : List UInt8} {az : List (List UInt8)} {ns : List Int} (hn : pUs az = some ns) (h : ∀ j : Nat, j < 5 → ¬ (w = wordT (1 + (j : Int)) ∧ ns.length = numsN (1 + (j : Int)))) : pa (w :: az) = none := by
  simp only [pa, hn]
  rw [if_neg]
  rintro ⟨h0, hN⟩
  simp only [actN, Bool.and_eq_true, decide_eq_true_eq] at hN
  have hk : kindW w = 1 ∨ kindW w = 2 ∨ kindW w = 3 ∨ kindW w = 4 ∨ kindW w = 5 := by
    rcases kindW_cases (w := w) with h | h
    · exact absurd h h0
    · exact h
  refine h (kindW w - 1).toNat (by omega) ?_
  have e : 1 + (((kindW w - 1).toNat : Nat) : Int) = kindW w := by omega
  rw [e]
  exact ⟨(kindW_iff hk).1 rfl, hN.1⟩
theorem pa_bad {w : List UInt8} {az : List (List UInt8)} (hn : pUs az = none) : pa (w :: az) = none := by simp [pa, hn]
/-- a list of numbers with two noughts behind -/
theorem pad0 (ns : List Int) : (ns.map iV ++ [iV 0, iV 0])[0]? = some (iV (ns.getD 0 0)) := by cases ns <;> rfl
theorem pad1 (ns : List Int) : (ns.map iV ++ [iV 0, iV 0])[1]? = some (iV (ns.getD 1 0)) := by
  match ns with
  | [] => rfl
  | [a] => rfl
  | a :: b :: r => rfl
theorem tailT_next {az : List (List UInt8)} {i : Nat} (h : i < az.length) : tailT (az.take (i + 1)) = tailT (az.take i) ++ (32 :: az[i]) := by
  unfold tailT
  rw [List.take_succ_eq_append_getElem h, List.flatMap_append, List.flatMap_cons, List.flatMap_nil, List.append_nil]
theorem tailT_len {m : Nat} : ∀ {az : List (List UInt8)}, (∀ x ∈ az, x.length ≤ m) → (tailT az).length ≤ (m + 1) * az.length
  | [], _ => by simp [tailT]
  | x :: r, h => by
    have h1 := tailT_len (az := r) (fun y hy => h y (by simp [hy]))
    have h2 := h x (by simp)
    have e : (m + 1) * (r.length + 1) = (m + 1) * r.length + (m + 1) := Nat.mul_succ _ _
    simp only [tailT, List.flatMap_cons, List.length_append, List.length_cons] at h1 ⊢
    omega
theorem pU_bd {l : List UInt8} : 0 ≤ (pU l).getD 0 ∧ (pU l).getD 0 ≤ 1000000000 := by
  cases e : pU l with
  | none => simp
  | some v =>
    obtain ⟨h0, h1, _⟩ := pU_iff.1 e
    exact ⟨h0, h1⟩
theorem l40_bd {l : List UInt8} : -1000000000 ≤ l40 l ∧ l40 l ≤ 1000000000 := by
  unfold l40
  split
  · rename_i c r
    have := pU_bd (l := c :: r)
    omega
  · have := pU_bd (l := l)
    omega
end Go.Proofs.YtlplopaahflcpaaDoor
