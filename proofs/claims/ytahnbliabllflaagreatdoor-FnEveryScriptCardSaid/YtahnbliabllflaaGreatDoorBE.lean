/-
  Plain laws: the fields of a line, numbers in a text, acts in a line.
  What the functions compute that read fields and numbers.
  What the functions compute that read an act in a line; the law on it.
  Plain laws: the lines of a text, the acts of a script.
-/
import Derived.Test.YtahnbliabllflaaGreatDoorB1
import Derived.Lib.AtoiTie
import Derived.Lib.SplitLaws
import Derived.Lib.IndexBytes
namespace Go.Proofs.YtahnbliabllflaaGreatDoor
open Go.PL
set_option linter.unusedSimpArgs false
set_option linter.unusedVariables false
theorem decFrom_app : ∀ (a b : List UInt8) (acc : Nat), Lib.decFrom acc (a ++ b) = (Lib.decFrom acc a).bind fun m => Lib.decFrom m b
  | [], b, acc => rfl
  | c :: a, b, acc => by
    simp only [List.cons_append, Lib.decFrom]
    cases Lib.digitVal c with
    | none => rfl
    | some d => exact decFrom_app a b _
theorem digitVal_of {d : Nat} (h : d < 10) : Lib.digitVal (UInt8.ofNat (48 + d)) = some d := by
  have e : (UInt8.ofNat (48 + d)).toNat = 48 + d := by rw [UInt8.toNat_ofNat']; omega
  unfold Lib.digitVal
  rw [e, if_pos (by omega)]
  congr 1; omega
theorem decFrom_dec : ∀ n : Nat, Lib.decFrom 0 (Lib.decDigits n) = some n := by
  intro n
  induction n using Nat.strongRecOn with
  | ind n ih =>
    by_cases h : n < 10
    · rw [dec_small h]
      simp only [Lib.decFrom, digitVal_of h]
      congr 1; omega
    · rw [dec_big h, decFrom_app, ih (n / 10) (by omega)]
      simp only [Option.bind_some, Lib.decFrom, digitVal_of (Nat.mod_lt n (show 0 < 10 by omega))]
      congr 1; omega
theorem dec_lenk : ∀ (k n : Nat), n < 10 ^ (k + 1) → (Lib.decDigits n).length ≤ k + 1
  | 0, n, h => by rw [dec_small (by simpa using h)]; simp
  | k + 1, n, h => by
    by_cases h10 : n < 10
    · rw [dec_small h10]; simp
    · have hp : (10 : Nat) ^ (k + 1 + 1) = 10 ^ (k + 1) * 10 := Nat.pow_succ ..
      have := dec_lenk k (n / 10) (by omega)
      rw [dec_big h10, List.length_append]; simp; omega
theorem dec_ne {n : Nat} : Lib.decDigits n ≠ [] := by
  by_cases h : n < 10
  · rw [dec_small h]; simp
  · rw [dec_big h]; simp
theorem dec_digit {n k : Nat} {b : UInt8} (h : (Lib.decDigits n)[k]? = some b) : 48 ≤ b.toNat ∧ b.toNat ≤ 57 := by
  obtain ⟨d, hd⟩ := Lib.digit_of_decFrom _ _ _ (decFrom_dec n) k b h
  unfold Lib.digitVal at hd
  split at hd
  · assumption
  · cases hd
theorem dec_mem {n : Nat} {b : UInt8} (h : b ∈ Lib.decDigits n) : 48 ≤ b.toNat ∧ b.toNat ≤ 57 := by
  obtain ⟨k, hk, rfl⟩ := List.mem_iff_getElem.1 h
  exact dec_digit (List.getElem?_eq_getElem hk)
theorem atoi_dec {n : Nat} (h : n ≤ 1000000000) : Lib.atoiAll (Lib.decDigits n) = .ok (n : Int) := by
  have hl := dec_lenk 9 n (by omega)
  rw [Lib.atoiAll_short _ (by omega)]
  cases hd : Lib.decDigits n with
  | nil => exact absurd hd dec_ne
  | cons c r =>
    have hc : 48 ≤ c.toNat ∧ c.toNat ≤ 57 := dec_mem (n := n) (by rw [hd]; simp)
    have h45 : (c == 45) = false := by
      rw [beq_eq_false_iff_ne]; rintro rfl; revert hc; decide
    have h43 : (c == 43) = false := by
      rw [beq_eq_false_iff_ne]; rintro rfl; revert hc; decide
    have hn : Lib.decNat (c :: r) = some n := by
      rw [← hd]
      unfold Lib.decNat
      rw [decFrom_dec]
      have : (Lib.decDigits n).isEmpty = false := by rw [hd]; rfl
      rw [this]; rfl
    simp only [Lib.atoi, h45, h43, hn, Bool.false_eq_true, if_false, Option.map_some, Lib.NumEnd.ofOption]
theorem pU_iff {l : List UInt8} {v : Int} : pU l = some v ↔ 0 ≤ v ∧ v ≤ 1000000000 ∧ itoa v = l := by
  constructor
  · intro h
    unfold pU at h
    split at h
    · split at h
      · obtain rfl := Option.some.inj h
        assumption
      · cases h
    · cases h
  · rintro ⟨h0, h1, rfl⟩
    obtain ⟨n, rfl⟩ : ∃ n : Nat, v = n := ⟨v.toNat, by omega⟩
    have e : Lib.atoiAll (itoa (n : Int)) = .ok (n : Int) := by rw [itoa_nat]; exact atoi_dec (by omega)
    have e2 : Lib.itoa (n : Int) = itoa (n : Int) := rfl
    unfold pU
    rw [e]
    simp only [e2, and_true]
    rw [if_pos ⟨h0, h1⟩]
theorem pU_dec {l : List UInt8} {v : Int} (h : pU l = some v) : ∃ n : Nat, v = n ∧ n ≤ 1000000000 ∧ l = Lib.decDigits n := by
  obtain ⟨h0, h1, rfl⟩ := pU_iff.1 h
  obtain ⟨n, rfl⟩ : ∃ n : Nat, v = n := ⟨v.toNat, by omega⟩
  exact ⟨n, rfl, by omega, itoa_nat n⟩
theorem pU_long {l : List UInt8} (h : 10 < l.length) : pU l = none := by
  cases e : pU l with
  | none => rfl
  | some v =>
    obtain ⟨n, _, hn, rfl⟩ := pU_dec e
    have := dec_lenk 9 n (by omega)
    omega
theorem pU_bad {l : List UInt8} {i : Nat} {b : UInt8} (hi : l[i]? = some b) (h : ¬ (48 ≤ b.toNat ∧ b.toNat ≤ 57)) : pU l = none := by
  cases e : pU l with
  | none => rfl
  | some v =>
    obtain ⟨n, _, hn, rfl⟩ := pU_dec e
    exact absurd (dec_digit hi) h
theorem pU_row {l : List UInt8} {n : Nat} (h : Lib.decFrom 0 l = some n) : pU l = if (n : Int) ≤ 1000000000 ∧ itoa (n : Int) = l then some (n : Int) else none := by
  split
  · rename_i hc
    exact pU_iff.2 ⟨by omega, hc.1, hc.2⟩
  · rename_i hc
    cases e : pU l with
    | none => rfl
    | some v =>
      obtain ⟨m, rfl, hm, e2⟩ := pU_dec e
      rw [e2, decFrom_dec] at h
      obtain rfl := Option.some.inj h
      exact absurd ⟨by omega, by rw [itoa_nat]; exact e2.symm⟩ hc
def okB (b : UInt8) : Bool := decide (32 ≤ b.toNat ∧ b.toNat ≤ 126)
def fldsG : List UInt8 → List UInt8 → List (List UInt8)
  | cur, [] => if cur = [] then [] else [cur]
  | cur, c :: r => if c = 32 then (if cur = [] then fldsG [] r else cur :: fldsG [] r) else fldsG (cur ++ [c]) r
def flds (l : List UInt8) : List (List UInt8) := fldsG [] l
def fldsOk (l : List UInt8) : Bool := decide (l.length ≤ 600) && (l.all okB && decide ((flds l).length ≤ 24))
def fldsR (l : List UInt8) : List (List UInt8) := if fldsOk l = true then flds l else []
structure FldAt (l : List UInt8) (i b : Nat) (out : List (List UInt8)) : Prop where
  le : i ≤ l.length + 1
  ok : (l.take i).all okB = true
  len : out.length ≤ i
  bi : i ≤ l.length → b ≤ i
  sum : i ≤ l.length → out ++ fldsG ((l.drop b).take (i - b)) (l.drop i) = flds l
  fin : i = l.length + 1 → out = flds l
theorem fld_start (l : List UInt8) : FldAt l 0 0 [] := ⟨by omega, by simp, by simp, fun _ => Nat.le_refl _, fun _ => by simp [flds], fun h => by omega⟩
theorem cut_next {l : List UInt8} {i b : Nat} (h : i < l.length) (hb : b ≤ i) : (l.drop b).take (i + 1 - b) = (l.drop b).take (i - b) ++ [l[i]] := by
  have e : i + 1 - b = (i - b) + 1 := by omega
  have hl : i - b < (l.drop b).length := by rw [List.length_drop]; omega
  rw [e, List.take_succ_eq_append_getElem hl, List.getElem_drop]
  congr 3; omega
theorem cut_nil {l : List UInt8} {i b : Nat} (h : i ≤ l.length) : (l.drop b).take (i - b) = [] ↔ ¬ b < i := by
  constructor
  · intro e hb
    have := congrArg List.length e
    rw [List.length_take, List.length_drop, List.length_nil] at this
    omega
  · intro hb
    have : i - b = 0 := by omega
    rw [this, List.take_zero]
theorem all_next {l : List UInt8} {i : Nat} (h : i < l.length) (hk : (l.take i).all okB = true) (h1 : okB l[i] = true) : (l.take (i + 1)).all okB = true := by
  rw [List.take_succ_eq_append_getElem h, List.all_append, hk]
  simp [h1]
theorem fld_word {l : List UInt8} {i b : Nat} {out : List (List UInt8)} (h : FldAt l i b out) (hi : i < l.length) (h1 : okB l[i] = true) (h2 : l[i] ≠ 32) : FldAt l (i + 1) b out := by
  have hb := h.bi (by omega)
  refine ⟨by omega, all_next hi h.ok h1, by have := h.len; omega, fun _ => by omega, fun _ => ?_, fun e => by omega⟩
  rw [← h.sum (by omega), List.drop_eq_getElem_cons hi, fldsG, if_neg h2, cut_next hi hb]
theorem fld_end {l : List UInt8} {i b : Nat} {out : List (List UInt8)} (h : FldAt l i b out) (hi : i < l.length) (h1 : okB l[i] = true) (h2 : l[i] = 32) (hb : b < i) : FldAt l (i + 1) (i + 1) (out ++ [(l.drop b).take (i - b)]) := by
  have e : ¬ (l.drop b).take (i - b) = [] := fun h => (cut_nil (by omega)).1 h hb
  refine ⟨by omega, all_next hi h.ok h1, by have := h.len; rw [List.length_append]; simp; omega, fun _ => Nat.le_refl _, fun _ => ?_, fun e => by omega⟩
  rw [← h.sum (by omega), List.drop_eq_getElem_cons hi, fldsG, if_pos h2, if_neg e]
  simp
theorem fld_skip {l : List UInt8} {i b : Nat} {out : List (List UInt8)} (h : FldAt l i b out) (hi : i < l.length) (h1 : okB l[i] = true) (h2 : l[i] = 32) (hb : ¬ b < i) : FldAt l (i + 1) (i + 1) out := by
  have e : (l.drop b).take (i - b) = [] := (cut_nil (by omega)).2 hb
  refine ⟨by omega, all_next hi h.ok h1, by have := h.len; omega, fun _ => Nat.le_refl _, fun _ => ?_, fun e => by omega⟩
  rw [← h.sum (by omega), List.drop_eq_getElem_cons hi, fldsG, if_pos h2, if_pos e]
  simp
theorem fld_last {l : List UInt8} {b : Nat} {out : List (List UInt8)} (h : FldAt l l.length b out) (hb : b < l.length) : FldAt l (l.length + 1) (l.length + 1) (out ++ [(l.drop b).take (l.length - b)]) := by
  have e : ¬ (l.drop b).take (l.length - b) = [] := fun h => (cut_nil (by omega)).1 h hb
  refine ⟨by omega, ?_, by have := h.len; rw [List.length_append]; simp; omega, fun e => by omega, fun e => by omega, fun _ => ?_⟩
  · rw [List.take_of_length_le (by omega)]
    have := h.ok
    rwa [List.take_length] at this
  · have := h.sum (Nat.le_refl _)
    rw [List.drop_length, fldsG, if_neg e] at this
    exact this
theorem fld_none {l : List UInt8} {b : Nat} {out : List (List UInt8)} (h : FldAt l l.length b out) (hb : ¬ b < l.length) : FldAt l (l.length + 1) (l.length + 1) out := by
  have e : (l.drop b).take (l.length - b) = [] := (cut_nil (by omega)).2 hb
  refine ⟨by omega, ?_, by have := h.len; omega, fun e => by omega, fun e => by omega, fun _ => ?_⟩
  · rw [List.take_of_length_le (by omega)]
    have := h.ok
    rwa [List.take_length] at this
  · have := h.sum (Nat.le_refl _)
    rw [List.drop_length, fldsG, if_pos e, List.append_nil] at this
    exact this
theorem fld_done {l : List UInt8} {i b : Nat} {out : List (List UInt8)} (h : FldAt l i b out) (hi : l.length < i) : out = flds l ∧ l.all okB = true := by
  obtain rfl : i = l.length + 1 := by have := h.le; omega
  refine ⟨h.fin rfl, ?_⟩
  have := h.ok
  rwa [List.take_of_length_le (by omega)] at this
theorem fld_bad {l : List UInt8} {i : Nat} (hi : i < l.length) (h1 : okB l[i] = false) : fldsOk l = false := by
  have : l.all okB = false := by
    rw [List.all_eq_false]
    exact ⟨l[i], List.getElem_mem hi, by simp [h1]⟩
  simp [fldsOk, this]
theorem fldsR_no {l : List UInt8} (h : fldsOk l = false) : fldsR l = [] := by simp [fldsR, h]
theorem fldsR_ok {l : List UInt8} (h : fldsOk l = true) : fldsR l = flds l := by simp [fldsR, h]
def wrd (w : List UInt8) : Prop := w ≠ [] ∧ ∀ b ∈ w, b ≠ 32
theorem fldsG_wrd : ∀ (l cur : List UInt8), (∀ b ∈ cur, b ≠ 32) → ∀ w ∈ fldsG cur l, wrd w
  | [], cur, hc, w, hw => by
    simp only [fldsG] at hw
    split at hw
    · simp at hw
    · rename_i hne
      obtain rfl := List.mem_singleton.1 hw
      exact ⟨hne, hc⟩
  | c :: r, cur, hc, w, hw => by
    simp only [fldsG] at hw
    split at hw
    · split at hw
      · exact fldsG_wrd r [] (by simp) w hw
      · rename_i hne
        rcases List.mem_cons.1 hw with rfl | hw
        · exact ⟨hne, hc⟩
        · exact fldsG_wrd r [] (by simp) w hw
    · rename_i h32
      refine fldsG_wrd r (cur ++ [c]) (fun b hb => ?_) w hw
      rcases List.mem_append.1 hb with hb | hb
      · exact hc b hb
      · rw [List.mem_singleton.1 hb]; exact h32
theorem fldsG_wl : ∀ (l cur : List UInt8), ∀ w ∈ fldsG cur l, w.length ≤ cur.length + l.length
  | [], cur, w, hw => by
    simp only [fldsG] at hw
    split at hw
    · simp at hw
    · rw [List.mem_singleton.1 hw]; simp
  | c :: r, cur, w, hw => by
    simp only [fldsG] at hw
    split at hw
    · split at hw
      · have := fldsG_wl r [] w hw
        simp only [List.length_cons, List.length_nil] at this ⊢; omega
      · rcases List.mem_cons.1 hw with rfl | hw
        · simp
        · have := fldsG_wl r [] w hw
          simp only [List.length_cons, List.length_nil] at this ⊢; omega
    · have := fldsG_wl r (cur ++ [c]) w hw
      simp only [List.length_cons, List.length_append, List.length_nil] at this ⊢; omega
theorem flds_wl {l : List UInt8} : ∀ w ∈ flds l, w.length ≤ l.length := fun w hw => by
  have := fldsG_wl l [] w hw
  simpa using this
theorem flds_wrd {l : List UInt8} : ∀ w ∈ flds l, wrd w := fldsG_wrd l [] (by simp)
theorem fldsG_app : ∀ (w cur r : List UInt8), (∀ b ∈ w, b ≠ 32) → fldsG cur (w ++ r) = fldsG (cur ++ w) r
  | [], cur, r, _ => by simp
  | c :: w, cur, r, h => by
    rw [List.cons_append, fldsG, if_neg (h c (by simp)), fldsG_app w (cur ++ [c]) r (fun b hb => h b (by simp [hb]))]
    simp
theorem fldsG_sp {cur r : List UInt8} (h : cur ≠ []) : fldsG cur (32 :: r) = cur :: flds r := by
  rw [fldsG, if_pos rfl, if_neg h]; rfl
theorem flds_sp {r : List UInt8} : flds (32 :: r) = flds r := by
  unfold flds
  rw [fldsG, if_pos rfl, if_pos rfl]
def tailT (ws : List (List UInt8)) : List UInt8 := ws.flatMap fun w => 32 :: w
theorem flds_join : ∀ (ws : List (List UInt8)) (w : List UInt8), wrd w → (∀ x ∈ ws, wrd x) → flds (w ++ tailT ws) = w :: ws
  | [], w, hw, _ => by
    unfold flds
    rw [fldsG_app w [] _ hw.2]
    simp only [tailT, List.flatMap_nil, List.nil_append, fldsG]
    rw [if_neg hw.1]
  | x :: ws, w, hw, h => by
    have ih := flds_join ws x (h x (by simp)) (fun y hy => h y (by simp [hy]))
    unfold flds
    rw [fldsG_app w [] _ hw.2]
    simp only [tailT, List.flatMap_cons, List.nil_append, List.cons_append] at ih ⊢
    rw [fldsG_sp hw.1, ih]
theorem flds_back : ∀ (l cur : List UInt8), (∀ b ∈ cur, b ≠ 32) → fldsG cur (l ++ [32]) = fldsG cur l
  | [], cur, hc => by simp [fldsG]
  | c :: r, cur, hc => by
    simp only [List.cons_append, fldsG]
    split
    · rw [flds_back r [] (by simp)]
    · rename_i h32
      exact flds_back r (cur ++ [c]) (fun b hb => by
        rcases List.mem_append.1 hb with hb | hb
        · exact hc b hb
        · rw [List.mem_singleton.1 hb]; exact h32)
theorem join_inj {ws vs : List (List UInt8)} {w v : List UInt8} (hw : wrd w) (hws : ∀ x ∈ ws, wrd x) (hv : wrd v) (hvs : ∀ x ∈ vs, wrd x) (h : w ++ tailT ws = v ++ tailT vs) : w = v ∧ ws = vs := by
  have := congrArg flds h
  rw [flds_join ws w hw hws, flds_join vs v hv hvs] at this
  exact List.cons.inj this
def pUs : List (List UInt8) → Option (List Int)
  | [] => some []
  | x :: r => match pU x, pUs r with
    | some v, some vs => some (v :: vs)
    | _, _ => none
def kindW (w : List UInt8) : Int := if w = wordT 1 then 1 else if w = wordT 2 then 2 else if w = wordT 3 then 3 else if w = wordT 4 then 4 else if w = wordT 5 then 5 else 0
theorem kindW_iff {w : List UInt8} {k : Int} (hk : k = 1 ∨ k = 2 ∨ k = 3 ∨ k = 4 ∨ k = 5) : kindW w = k ↔ w = wordT k := by
  constructor
  · intro h
    unfold kindW at h
    repeat' split at h
    all_goals first
      | (subst h; assumption)
      | omega
  · rintro rfl
    rcases hk with rfl | rfl | rfl | rfl | rfl <;> decide
theorem kindW_cases {w : List UInt8} : kindW w = 0 ∨ kindW w = 1 ∨ kindW w = 2 ∨ kindW w = 3 ∨ kindW w = 4 ∨ kindW w = 5 := by
  unfold kindW
  repeat' split
  all_goals omega
def actW (k : Int) (ns : List Int) : Ac := ⟨k, ns.getD 0 0, ns.getD 1 0⟩
def actN (k : Int) (ns : List Int) : Bool := decide (ns.length = numsN k) && actOk k (ns.getD 0 0) (ns.getD 1 0)
def pa : List (List UInt8) → Option Ac
  | [] => none
  | w :: az => match pUs az with
    | none => none
    | some ns => if kindW w ≠ 0 ∧ actN (kindW w) ns = true then some (actW (kindW w) ns) else none
def paL (l : List UInt8) : Option Ac := if fldsOk l = true then pa (flds l) else none
def noA : Ac := ⟨0, 0, 0⟩
def paA (l : List UInt8) : Ac := (paL l).getD noA
def paB (l : List UInt8) : Bool := (paL l).isSome
theorem pUs_next : ∀ {az : List (List UInt8)} {i : Nat} {ns : List Int} {v : Int} (h : i < az.length), pUs (az.take i) = some ns → pU az[i] = some v → pUs (az.take (i + 1)) = some (ns ++ [v])
  | x :: r, 0, ns, v, h, h1, h2 => by
    simp only [List.take_zero, pUs, Option.some.injEq] at h1
    subst h1
    simp only [List.getElem_cons_zero] at h2
    simp [pUs, h2]
  | x :: r, i + 1, ns, v, h, h1, h2 => by
    simp only [List.take_succ_cons, pUs] at h1 ⊢
    cases hx : pU x with
    | none => rw [hx] at h1; simp at h1
    | some u =>
      rw [hx] at h1
      cases hr : pUs (r.take i) with
      | none => rw [hr] at h1; simp at h1
      | some us =>
        rw [hr] at h1
        simp only [Option.some.injEq] at h1
        subst h1
        have := pUs_next (az := r) (i := i) (ns := us) (v := v) (by simpa using h) hr (by simpa using h2)
        rw [this]
        rfl
theorem pUs_bad : ∀ {az : List (List UInt8)} {i : Nat} (h : i < az.length), pU az[i] = none → pUs az = none
  | x :: r, 0, h, h2 => by
    simp only [List.getElem_cons_zero] at h2
    simp [pUs, h2]
  | x :: r, i + 1, h, h2 => by
    have := pUs_bad (az := r) (i := i) (by simpa using h) (by simpa using h2)
    simp only [pUs, this]
    split
    · rename_i h3; cases h3
    · rfl
theorem pUs_len : ∀ {az : List (List UInt8)} {ns : List Int}, pUs az = some ns → ns.length = az.length
  | [], ns, h => by simp only [pUs, Option.some.injEq] at h; subst h; rfl
  | x :: r, ns, h => by
    simp only [pUs] at h
    split at h
    · rename_i v vs h1 h2
      obtain rfl := Option.some.inj h
      simp [pUs_len h2]
    · cases h
theorem pUs_iff : ∀ {az : List (List UInt8)} {ns : List Int}, pUs az = some ns ↔ az = ns.map itoa ∧ ∀ n ∈ ns, 0 ≤ n ∧ n ≤ 1000000000
  | [], ns => by
    simp only [pUs, Option.some.injEq]
    constructor
    · rintro rfl; simp
    · rintro ⟨h, _⟩
      cases ns with
      | nil => rfl
      | cons a b => simp at h
  | x :: r, ns => by
    simp only [pUs]
    constructor
    · intro h
      split at h
      · rename_i v vs h1 h2
        obtain rfl := Option.some.inj h
        obtain ⟨h3, h4⟩ := pUs_iff.1 h2
        obtain ⟨h5, h6, h7⟩ := pU_iff.1 h1
        refine ⟨by rw [List.map_cons, h7, ← h3], fun n hn => ?_⟩
        rcases List.mem_cons.1 hn with rfl | hn
        · exact ⟨h5, h6⟩
        · exact h4 n hn
      · cases h
    · rintro ⟨h, hr⟩
      cases ns with
      | nil => simp at h
      | cons v vs =>
        rw [List.map_cons] at h
        obtain ⟨h1, h2⟩ := List.cons.inj h
        have e1 : pU x = some v := pU_iff.2 ⟨(hr v (by simp)).1, (hr v (by simp)).2, h1.symm⟩
        have e2 : pUs r = some vs := pUs_iff.2 ⟨h2, fun n hn => hr n (by simp [hn])⟩
        rw [e1, e2]
theorem itoa_wrd {n : Int} (h : 0 ≤ n) : wrd (itoa n) := by
  obtain ⟨m, rfl⟩ : ∃ m : Nat, n = m := ⟨n.toNat, by omega⟩
  rw [itoa_nat]
  refine ⟨dec_ne, fun b hb => ?_⟩
  have := dec_mem hb
  rintro rfl
  revert this; decide
theorem word_wrd {k : Int} : wrd (wordT k) := by
  have h : (wordT k).all (fun b => decide (b ≠ 32)) = true ∧ wordT k ≠ [] := by
    unfold wordT
    repeat' split
    all_goals exact ⟨by decide, by decide⟩
  refine ⟨h.2, fun b hb => ?_⟩
  have := List.all_eq_true.1 h.1 b hb
  simpa using this
def numsA (a : Ac) : List Int := [a.a, a.b].take (numsN a.k)
theorem numT_join {a b : Int} {n : Nat} (h : n ≤ 2) : numT a b n = tailT (([a, b].take n).map itoa) := by
  match n, h with
  | 0, _ => rfl
  | 1, _ => simp [numT, tailT]
  | 2, _ => simp [numT, tailT]
theorem numsN_le {k : Int} : numsN k ≤ 2 := by
  unfold numsN
  repeat' split
  all_goals omega
theorem actT_join {a : Ac} (h : actOk a.k a.a a.b = true) : actT a = wordT a.k ++ tailT ((numsA a).map itoa) := by
  rw [actT, if_pos h, numT_join numsN_le]; rfl
theorem numsA_wrd {a : Ac} (h : actOk a.k a.a a.b = true) : ∀ x ∈ (numsA a).map itoa, wrd x := by
  obtain ⟨_, h1, h2⟩ := act_cases h
  intro x hx
  obtain ⟨n, hn, rfl⟩ := List.mem_map.1 hx
  have hn : n ∈ [a.a, a.b] := List.mem_of_mem_take hn
  rcases List.mem_cons.1 hn with rfl | hn
  · exact itoa_wrd h1.1
  · rw [List.mem_singleton.1 hn]; exact itoa_wrd h2.1
theorem actOk_zero {k a b : Int} (h : actOk k a b = true) : (numsN k ≤ 1 → b = 0) ∧ (numsN k = 0 → a = 0) := by
  obtain ⟨hk, _⟩ := act_cases h
  rcases hk with rfl | rfl | rfl | rfl | rfl <;> simp [numsN, actOk] at h ⊢ <;> simp_all
theorem pa_actT {a : Ac} (h : actOk a.k a.a a.b = true) : pa (wordT a.k :: (numsA a).map itoa) = some a := by
  obtain ⟨hk, h1, h2⟩ := act_cases h
  have e : pUs ((numsA a).map itoa) = some (numsA a) := pUs_iff.2 ⟨rfl, fun n hn => by
    have hn : n ∈ [a.a, a.b] := List.mem_of_mem_take hn
    rcases List.mem_cons.1 hn with rfl | hn
    · omega
    · rw [List.mem_singleton.1 hn]; omega⟩
  have ek : kindW (wordT a.k) = a.k := (kindW_iff hk).2 rfl
  have hz := actOk_zero h
  have hl : (numsA a).length = numsN a.k := by
    have := numsN_le (k := a.k)
    simp only [numsA, List.length_take, List.length_cons, List.length_nil]; omega
  have g0 : (numsA a).getD 0 0 = a.a := by
    unfold numsA
    by_cases h0 : numsN a.k = 0
    · rw [h0, hz.2 h0]; rfl
    · obtain ⟨m, hm⟩ : ∃ m, numsN a.k = m + 1 := ⟨numsN a.k - 1, by omega⟩
      rw [hm]; rfl
  have g1 : (numsA a).getD 1 0 = a.b := by
    unfold numsA
    by_cases h0 : numsN a.k ≤ 1
    · rw [hz.1 h0]
      by_cases h1 : numsN a.k = 0
      · rw [h1]; rfl
      · have : numsN a.k = 1 := by omega
        rw [this]; rfl
    · have := numsN_le (k := a.k)
      have : numsN a.k = 2 := by omega
      rw [this]; rfl
  have hne : a.k ≠ 0 := by omega
  simp only [pa, e, ek]
  rw [if_pos ⟨hne, by simp only [actN, g0, g1, h, hl, decide_true, Bool.and_self]⟩]
  simp only [actW, g0, g1]
theorem pa_some {w : List UInt8} {az : List (List UInt8)} {x : Ac} (h : pa (w :: az) = some x) : actOk x.k x.a x.b = true ∧ w = wordT x.k ∧ az = (numsA x).map itoa := by
  simp only [pa] at h
  split at h
  · cases h
  · rename_i ns hns
    split at h
    · rename_i hc
      obtain ⟨h0, hN⟩ := hc
      obtain rfl := Option.some.inj h
      have hk : kindW w = 1 ∨ kindW w = 2 ∨ kindW w = 3 ∨ kindW w = 4 ∨ kindW w = 5 := by
        rcases kindW_cases (w := w) with h | h
        · exact absurd h h0
        · exact h
      simp only [actN, Bool.and_eq_true, decide_eq_true_eq] at hN
      obtain ⟨hl, ho⟩ := hN
      refine ⟨ho, (kindW_iff hk).1 rfl, ?_⟩
      rw [(pUs_iff.1 hns).1]
      congr 1
      have hle := numsN_le (k := kindW w)
      simp only [numsA, actW]
      rw [← hl] at hle ⊢
      match ns, hle with
      | [], _ => rfl
      | [a], _ => rfl
      | [a, b], _ => rfl
    · cases h
def l40 (l : List UInt8) : Int := match l with
  | 45 :: (c :: r) => -((pU (c :: r)).getD 0)
  | _ => (pU l).getD 0
theorem l40_itoa {n : Int} (h : 0 ≤ n) (h1 : n ≤ 1000000000) : l40 (itoa n) = n := by
  have hp : pU (itoa n) = some n := pU_iff.2 ⟨h, h1, rfl⟩
  unfold l40
  split
  · rename_i c r e
    obtain ⟨m, rfl⟩ : ∃ m : Nat, n = m := ⟨n.toNat, by omega⟩
    rw [itoa_nat] at e
    have := dec_mem (n := m) (b := 45) (by rw [e]; simp)
    exact absurd this (by decide)
  · rw [hp]; rfl
theorem spec_kind {w : List UInt8} {az : List (List UInt8)} {k : Int} (hw : wrd w) (has : ∀ x ∈ az, wrd x)
    (h : actOk k ((az.map l40).getD 0 0) ((az.map l40).getD 1 0) = true)
    (e : actT ⟨k, (az.map l40).getD 0 0, (az.map l40).getD 1 0⟩ = w ++ tailT az) :
    pa (w :: az) = some ⟨k, (az.map l40).getD 0 0, (az.map l40).getD 1 0⟩ := by
  generalize hx : (⟨k, (az.map l40).getD 0 0, (az.map l40).getD 1 0⟩ : Ac) = x at *
  have hok : actOk x.k x.a x.b = true := by rw [← hx]; exact h
  rw [actT_join hok] at e
  obtain ⟨e1, e2⟩ := join_inj word_wrd (numsA_wrd hok) hw has e
  rw [← e1, ← e2]
  exact pa_actT hok
theorem spec_some {w : List UInt8} {az : List (List UInt8)} {x : Ac} (h : pa (w :: az) = some x) :
    x.a = (az.map l40).getD 0 0 ∧ x.b = (az.map l40).getD 1 0 ∧ actT x = w ++ tailT az ∧ az.length ≤ 2 := by
  obtain ⟨hok, rfl, rfl⟩ := pa_some h
  obtain ⟨_, h1, h2⟩ := act_cases hok
  have hz := actOk_zero hok
  have hle := numsN_le (k := x.k)
  have ea : l40 (itoa x.a) = x.a := l40_itoa h1.1 (by omega)
  have eb : l40 (itoa x.b) = x.b := l40_itoa h2.1 (by omega)
  refine ⟨?_, ?_, actT_join hok, ?_⟩
  · unfold numsA
    rcases (show numsN x.k = 0 ∨ numsN x.k = 1 ∨ numsN x.k = 2 by omega) with h | h | h <;> rw [h]
    · exact hz.2 h
    · exact ea.symm
    · exact ea.symm
  · unfold numsA
    rcases (show numsN x.k = 0 ∨ numsN x.k = 1 ∨ numsN x.k = 2 by omega) with h | h | h <;> rw [h]
    · exact hz.1 (by omega)
    · exact hz.1 (by omega)
    · exact eb.symm
  · rw [List.length_map, numsA, List.length_take]; simp only [List.length_cons, List.length_nil]; omega
theorem pa_hit {w : List UInt8} {az : List (List UInt8)} {ns : List Int} {k : Int} (hk : k = 1 ∨ k = 2 ∨ k = 3 ∨ k = 4 ∨ k = 5) (hw : w = wordT k) (hn : pUs az = some ns) (hl : ns.length = numsN k) :
    pa (w :: az) = if actOk k (ns.getD 0 0) (ns.getD 1 0) = true then some (actW k ns) else none := by
  have e := (kindW_iff hk).2 hw
  have hne : k ≠ 0 := by omega
  simp only [pa, hn, e, actN, hl, decide_true, Bool.true_and]
  by_cases h : actOk k (ns.getD 0 0) (ns.getD 1 0) = true
  · rw [if_pos ⟨hne, h⟩, if_pos h]
  · rw [if_neg (fun x => h x.2), if_neg h]
theorem pa_miss {w : List UInt8} {az : List (List UInt8)} {ns : List Int} (hn : pUs az = some ns) (h : ∀ j : Nat, j < 5 → ¬ (w = wordT (1 + (j : Int)) ∧ ns.length = numsN (1 + (j : Int)))) : pa (w :: az) = none := by
  simp only [pa, hn]
  rw [if_neg]
  rintro ⟨h0, hN⟩
  simp only [actN, Bool.and_eq_true, decide_eq_true_eq] at hN
  have hk : kindW w = 1 ∨ kindW w = 2 ∨ kindW w = 3 ∨ kindW w = 4 ∨ kindW w = 5 := by
    rcases kindW_cases (w := w) with h | h
    · exact absurd h h0
    · exact h
  refine h (kindW w - 1).toNat (by omega) ?_
  have e : 1 + (((kindW w - 1).toNat : Nat) : Int) = kindW w := by omega
  rw [e]
  exact ⟨(kindW_iff hk).1 rfl, hN.1⟩
theorem pa_bad {w : List UInt8} {az : List (List UInt8)} (hn : pUs az = none) : pa (w :: az) = none := by simp [pa, hn]
theorem pad0 (ns : List Int) : (ns.map iV ++ [iV 0, iV 0])[0]? = some (iV (ns.getD 0 0)) := by cases ns <;> rfl
theorem pad1 (ns : List Int) : (ns.map iV ++ [iV 0, iV 0])[1]? = some (iV (ns.getD 1 0)) := by
  match ns with
  | [] => rfl
  | [a] => rfl
  | a :: b :: r => rfl
theorem tailT_next {az : List (List UInt8)} {i : Nat} (h : i < az.length) : tailT (az.take (i + 1)) = tailT (az.take i) ++ (32 :: az[i]) := by
  unfold tailT
  rw [List.take_succ_eq_append_getElem h, List.flatMap_append, List.flatMap_cons, List.flatMap_nil, List.append_nil]
theorem tailT_len {m : Nat} : ∀ {az : List (List UInt8)}, (∀ x ∈ az, x.length ≤ m) → (tailT az).length ≤ (m + 1) * az.length
  | [], _ => by simp [tailT]
  | x :: r, h => by
    have h1 := tailT_len (az := r) (fun y hy => h y (by simp [hy]))
    have h2 := h x (by simp)
    have e : (m + 1) * (r.length + 1) = (m + 1) * r.length + (m + 1) := Nat.mul_succ _ _
    simp only [tailT, List.flatMap_cons, List.length_append, List.length_cons] at h1 ⊢
    omega
theorem pU_bd {l : List UInt8} : 0 ≤ (pU l).getD 0 ∧ (pU l).getD 0 ≤ 1000000000 := by
  cases e : pU l with
  | none => simp
  | some v =>
    obtain ⟨h0, h1, _⟩ := pU_iff.1 e
    exact ⟨h0, h1⟩
end Go.Proofs.YtahnbliabllflaaGreatDoor
namespace Go.Proofs.YtahnbliabllflaaGreatDoor
open Go.PL
set_option linter.unusedSimpArgs false
set_option linter.unusedVariables false
theorem pc_fin {P : Program} {f : FuncId} {args : List V1} {pv r : PV} {h h' : Hp} (hc : PC P f [] args pv h) (hf : Fin ⟨[], []⟩ h pv h' r) : PC P f [] args r h' := by
  refine ⟨⟨hc.ok.1, fun g cargs hk wf ha => ?_⟩⟩
  refine (hc.ok.2 g cargs hk wf ha).mono fun e w' hx => ?_
  obtain ⟨g', v, rfl, rfl, h1, h2, h3⟩ := hx
  obtain ⟨g2, e2, h4, h5, h6⟩ := hf g g' v h1 h2 h3
  exact ⟨g2, v, rfl, e2, h4, h5, h6⟩
theorem u8_32 {c : UInt8} (h : ¬ c = 32) : ((c.toNat : Int) = 32) = False := by
  refine eq_false fun e => h ?_
  have : c.toNat = (32 : UInt8).toNat := by
    have e2 : (32 : UInt8).toNat = 32 := rfl
    omega
  exact UInt8.toNat_inj.1 this
set_option maxHeartbeats 4000000 in
theorem SplitFields_c (d : Nat) (l : List UInt8) (hl : l.length ≤ 1048576) : PC Tryz.prog 43 [] [.c (.v (.string (sB l)))] (.t [.c (.o d), .c (.v (.bool (fldsOk l)))]) ⟨[], [(d, ⟨9, 1, (fldsR l).map sV, false, true⟩)]⟩ := by
  by_cases h6 : 600 < l.length
  · have e6 : ((600 : Int) < (l.length : Int)) = True := eq_true (by omega)
    have e : fldsOk l = false := by
      have : ¬ l.length ≤ 600 := by omega
      simp [fldsOk, this]
    rw [e, fldsR_no e]
    refine pc_of Tryz.func43 rfl (by kernel_rfl) _ Tryz.ntmps43 (by simp) ?_
    (repeat' (first | simp -implicitDefEqProofs only [e6, go_sem] | (refine And.intro ?_ ?_; omega) | (refine And.intro (shr_bd ?_ ?_) ?_; omega; omega) | refine sl_list rfl ?_ | refine sd_list rfl ?_ | refine sl_str ?_ | refine sd_str ?_))
    exact fin_of (fun i => i) (fun i => 7) ⟨by simp <;> omega, by simp <;> omega, by simp <;> omega, by simp <;> omega, by simp <;> omega⟩ (by simp <;> omega) rfl
  have e6 : ((600 : Int) < (l.length : Int)) = False := eq_false (by omega)
  refine pc_of Tryz.func43 rfl (by kernel_rfl) _ Tryz.ntmps43 (by simp) ?_
  (repeat' (first | simp -implicitDefEqProofs only [e6, go_sem] | (refine And.intro ?_ ?_; omega) | (refine And.intro (shr_bd ?_ ?_) ?_; omega; omega) | refine sl_list rfl ?_ | refine sd_list rfl ?_ | refine sl_str ?_ | refine sd_str ?_))
  refine loop_step (X := Nat × Nat × List (List UInt8)) (fun x => ⟨62, [(0, vS l), (4, vO 7), (5, vN x.2.1), (6, vN x.1)], ⟨[], [(7, ⟨9, 1, x.2.2.map sV, false, true⟩)]⟩⟩)
    (fun x => FldAt l x.1 x.2.1 x.2.2) (fun x => l.length + 1 - x.1) (0, 0, []) (fld_start l) (weak_of (fun i => i) (fun i => i) rfl ⟨by simp <;> omega, by simp <;> omega, by simp <;> omega, by simp <;> omega, by simp <;> omega⟩ (by simp <;> omega)) (fun x hx => ?_)
  obtain ⟨i, b, out⟩ := x
  simp only at hx
  have hle := hx.le
  have hlen := hx.len
  by_cases h1 : l.length < i
  · have e0 : ((i : Int) ≤ l.length) = False := eq_false (by omega)
    obtain ⟨eo, eall⟩ := fld_done hx h1
    by_cases h24 : 24 < out.length
    · have e2 : ((24 : Int) < (out.length : Int)) = True := eq_true (by omega)
      have e : fldsOk l = false := by
        have : ¬ (flds l).length ≤ 24 := by rw [← eo]; omega
        simp [fldsOk, this]
      rw [e, fldsR_no e]
      (repeat' (first | simp -implicitDefEqProofs only [e0, e2, List.length_map, go_sem] | (refine And.intro ?_ ?_; omega) | (refine And.intro (shr_bd ?_ ?_) ?_; omega; omega) | refine sl_list rfl ?_ | refine sd_list rfl ?_ | refine sl_str ?_ | refine sd_str ?_))
      exact fin_of (fun i => i) (fun i => 60) ⟨by simp <;> omega, by simp <;> omega, by simp <;> omega, by simp <;> omega, by simp <;> omega⟩ (by simp <;> omega) rfl
    · have e2 : ((24 : Int) < (out.length : Int)) = False := eq_false (by omega)
      have e : fldsOk l = true := by
        have h3 : (flds l).length ≤ 24 := by rw [← eo]; omega
        have h4 : l.length ≤ 600 := by omega
        rw [fldsOk, eall]; simp [h3, h4]
      rw [e, fldsR_ok e, ← eo]
      (repeat' (first | simp -implicitDefEqProofs only [e0, e2, List.length_map, go_sem] | (refine And.intro ?_ ?_; omega) | (refine And.intro (shr_bd ?_ ?_) ?_; omega; omega) | refine sl_list rfl ?_ | refine sd_list rfl ?_ | refine sl_str ?_ | refine sd_str ?_))
      exact fin_of (fun i => i) (fun i => 7) ⟨by simp <;> omega, by simp <;> omega, by simp <;> omega, by simp <;> omega, by simp <;> omega⟩ (by simp <;> omega) rfl
  have e0 : ((i : Int) ≤ l.length) = True := eq_true (by omega)
  have hb := hx.bi (by omega)
  by_cases h2 : i < l.length
  · have e1 : ((i : Int) < l.length) = True := eq_true (by omega)
    have g1 : l[i]? = some l[i] := List.getElem?_eq_getElem h2
    have bad := fld_bad h2
    have st1 := fld_word hx h2
    have st2 := fld_end hx h2
    have st3 := fld_skip hx h2
    generalize l[i] = c at g1 bad st1 st2 st3
    by_cases c1 : c.toNat < 32
    · have f1 : ((c.toNat : Int) < 32) = True := eq_true (by omega)
      have e := bad (by simp [okB]; omega)
      rw [e, fldsR_no e]
      (repeat' (first | simp -implicitDefEqProofs only [e0, e1, g1, f1, go_sem] | (refine And.intro ?_ ?_; omega) | (refine And.intro (shr_bd ?_ ?_) ?_; omega; omega) | refine sl_list rfl ?_ | refine sd_list rfl ?_ | refine sl_str ?_ | refine sd_str ?_))
      exact fin_of (fun i => i) (fun i => 34) ⟨by simp <;> omega, by simp <;> omega, by simp <;> omega, by simp <;> omega, by simp <;> omega⟩ (by simp <;> omega) rfl
    have f1 : ((c.toNat : Int) < 32) = False := eq_false (by omega)
    by_cases c2 : 126 < c.toNat
    · have f2 : ((126 : Int) < (c.toNat : Int)) = True := eq_true (by omega)
      have e := bad (by simp [okB]; omega)
      rw [e, fldsR_no e]
      (repeat' (first | simp -implicitDefEqProofs only [e0, e1, g1, f1, f2, go_sem] | (refine And.intro ?_ ?_; omega) | (refine And.intro (shr_bd ?_ ?_) ?_; omega; omega) | refine sl_list rfl ?_ | refine sd_list rfl ?_ | refine sl_str ?_ | refine sd_str ?_))
      exact fin_of (fun i => i) (fun i => 34) ⟨by simp <;> omega, by simp <;> omega, by simp <;> omega, by simp <;> omega, by simp <;> omega⟩ (by simp <;> omega) rfl
    have f2 : ((126 : Int) < (c.toNat : Int)) = False := eq_false (by omega)
    have hok : okB c = true := by simp [okB]; omega
    by_cases c3 : c = 32
    · have f3 : ((c.toNat : Int) = 32) = True := eq_true (by rw [c3]; rfl)
      by_cases hbi : b < i
      · have f4 : ((b : Int) < (i : Int)) = True := eq_true (by omega)
        repeat' first
          | (first | simp -implicitDefEqProofs only [e0, e1, g1, f1, f2, f3, f4, List.length_map, List.length_append, List.map_append, List.length_cons, List.length_nil, go_sem] | (refine And.intro ?_ ?_; omega) | (refine And.intro (shr_bd ?_ ?_) ?_; omega; omega) | refine sl_list rfl ?_ | refine sd_list rfl ?_ | refine sl_str ?_ | refine sd_str ?_)
        exact ⟨(i + 1, i + 1, out ++ [(l.drop b).take (i - b)]), st2 hok c3 hbi, by simp only; omega, weak_of (fun i => i) (fun i => if i = 7 then 54 else i) rfl ⟨by simp [List.map_append, sV] <;> omega, by simp [List.map_append, sV] <;> omega, by simp [List.map_append, sV] <;> omega, by simp [List.map_append, sV] <;> omega, by simp [List.map_append, sV] <;> omega⟩ (by simp [List.map_append, sV] <;> omega)⟩
      · have f4 : ((b : Int) < (i : Int)) = False := eq_false (by omega)
        (repeat' (first | simp -implicitDefEqProofs only [e0, e1, g1, f1, f2, f3, f4, go_sem] | (refine And.intro ?_ ?_; omega) | (refine And.intro (shr_bd ?_ ?_) ?_; omega; omega) | refine sl_list rfl ?_ | refine sd_list rfl ?_ | refine sl_str ?_ | refine sd_str ?_))
        exact ⟨(i + 1, i + 1, out), st3 hok c3 hbi, by simp only; omega, weak_of (fun i => i) (fun i => i) rfl ⟨by simp <;> omega, by simp <;> omega, by simp <;> omega, by simp <;> omega, by simp <;> omega⟩ (by simp <;> omega)⟩
    · have f3 := u8_32 c3
      (repeat' (first | simp -implicitDefEqProofs only [e0, e1, g1, f1, f2, f3, go_sem] | (refine And.intro ?_ ?_; omega) | (refine And.intro (shr_bd ?_ ?_) ?_; omega; omega) | refine sl_list rfl ?_ | refine sd_list rfl ?_ | refine sl_str ?_ | refine sd_str ?_))
      exact ⟨(i + 1, b, out), st1 hok c3, by simp only; omega, weak_of (fun i => i) (fun i => i) rfl ⟨by simp <;> omega, by simp <;> omega, by simp <;> omega, by simp <;> omega, by simp <;> omega⟩ (by simp <;> omega)⟩
  · have e1 : ((i : Int) < l.length) = False := eq_false (by omega)
    obtain rfl : i = l.length := by omega
    by_cases hbi : b < l.length
    · have f4 : ((b : Int) < (l.length : Int)) = True := eq_true (by omega)
      have st := fld_last hx hbi
      repeat' first
        | (first | simp -implicitDefEqProofs only [e0, e1, f4, List.length_map, List.length_append, List.map_append, List.length_cons, List.length_nil, go_sem] | (refine And.intro ?_ ?_; omega) | (refine And.intro (shr_bd ?_ ?_) ?_; omega; omega) | refine sl_list rfl ?_ | refine sd_list rfl ?_ | refine sl_str ?_ | refine sd_str ?_)
      exact ⟨(l.length + 1, l.length + 1, out ++ [(l.drop b).take (l.length - b)]), st, by simp only; omega, weak_of (fun i => i) (fun i => if i = 7 then 54 else i) rfl ⟨by simp [List.map_append, sV] <;> omega, by simp [List.map_append, sV] <;> omega, by simp [List.map_append, sV] <;> omega, by simp [List.map_append, sV] <;> omega, by simp [List.map_append, sV] <;> omega⟩ (by simp [List.map_append, sV] <;> omega)⟩
    · have f4 : ((b : Int) < (l.length : Int)) = False := eq_false (by omega)
      have st := fld_none hx hbi
      (repeat' (first | simp -implicitDefEqProofs only [e0, e1, f4, go_sem] | (refine And.intro ?_ ?_; omega) | (refine And.intro (shr_bd ?_ ?_) ?_; omega; omega) | refine sl_list rfl ?_ | refine sd_list rfl ?_ | refine sl_str ?_ | refine sd_str ?_))
      exact ⟨(l.length + 1, l.length + 1, out), st, by simp only; omega, weak_of (fun i => i) (fun i => i) rfl ⟨by simp <;> omega, by simp <;> omega, by simp <;> omega, by simp <;> omega, by simp <;> omega⟩ (by simp <;> omega)⟩
set_option maxHeartbeats 4000000 in
theorem iSplitFields_c (d : Nat) (l : List UInt8) (hl : l.length ≤ 1048576) : PC Tryz.prog 41 [] [.c (.v (.string (sB l)))] (.t [.c (.o d), .c (.v (.bool (fldsOk l)))]) ⟨[], [(d, ⟨9, 1, (fldsR l).map sV, false, true⟩)]⟩ := by
  by_cases h6 : 600 < l.length
  · have e6 : ((600 : Int) < (l.length : Int)) = True := eq_true (by omega)
    have e : fldsOk l = false := by
      have : ¬ l.length ≤ 600 := by omega
      simp [fldsOk, this]
    rw [e, fldsR_no e]
    refine pc_of Tryz.func41 rfl (by kernel_rfl) _ Tryz.ntmps41 (by simp) ?_
    (repeat' (first | simp -implicitDefEqProofs only [e6, go_sem] | (refine And.intro ?_ ?_; omega) | (refine And.intro (shr_bd ?_ ?_) ?_; omega; omega) | refine sl_list rfl ?_ | refine sd_list rfl ?_ | refine sl_str ?_ | refine sd_str ?_))
    refine fin_adopt (pv' := .t [.c (.o 999), .c (.v (.bool false))]) 999 9 1 rfl (by omega) (by simp [adPV, adVs, adV1, adC]) ?_
    exact fin_of (fun i => i) (fun i => 999) ⟨by simp <;> omega, by simp <;> omega, by simp <;> omega, by simp <;> omega, by simp <;> omega⟩ (by simp <;> omega) rfl
  have e6 : ((600 : Int) < (l.length : Int)) = False := eq_false (by omega)
  refine pc_of Tryz.func41 rfl (by kernel_rfl) _ Tryz.ntmps41 (by simp) ?_
  (repeat' (first | simp -implicitDefEqProofs only [e6, go_sem] | (refine And.intro ?_ ?_; omega) | (refine And.intro (shr_bd ?_ ?_) ?_; omega; omega) | refine sl_list rfl ?_ | refine sd_list rfl ?_ | refine sl_str ?_ | refine sd_str ?_))
  refine loop_step (X := Nat × Nat × List (List UInt8)) (fun x => ⟨59, [(0, vS l), (4, vO 10), (5, vN x.2.1), (6, vN x.1)], ⟨[], [(10, ⟨9, 1, x.2.2.map sV, false, true⟩)]⟩⟩)
    (fun x => FldAt l x.1 x.2.1 x.2.2) (fun x => l.length + 1 - x.1) (0, 0, []) (fld_start l) (weak_of (fun i => i) (fun i => i) rfl ⟨by simp <;> omega, by simp <;> omega, by simp <;> omega, by simp <;> omega, by simp <;> omega⟩ (by simp <;> omega)) (fun x hx => ?_)
  obtain ⟨i, b, out⟩ := x
  simp only at hx
  have hle := hx.le
  have hlen := hx.len
  by_cases h1 : l.length < i
  · have e0 : ((i : Int) ≤ l.length) = False := eq_false (by omega)
    obtain ⟨eo, eall⟩ := fld_done hx h1
    by_cases h24 : 24 < out.length
    · have e2 : ((24 : Int) < (out.length : Int)) = True := eq_true (by omega)
      have e : fldsOk l = false := by
        have : ¬ (flds l).length ≤ 24 := by rw [← eo]; omega
        simp [fldsOk, this]
      rw [e, fldsR_no e]
      (repeat' (first | simp -implicitDefEqProofs only [e0, e2, List.length_map, go_sem] | (refine And.intro ?_ ?_; omega) | (refine And.intro (shr_bd ?_ ?_) ?_; omega; omega) | refine sl_list rfl ?_ | refine sd_list rfl ?_ | refine sl_str ?_ | refine sd_str ?_))
      refine fin_adopt (pv' := .t [.c (.o 999), .c (.v (.bool false))]) 999 9 1 rfl (by omega) (by simp [adPV, adVs, adV1, adC]) ?_
      exact fin_of (fun i => i) (fun i => 999) ⟨by simp <;> omega, by simp <;> omega, by simp <;> omega, by simp <;> omega, by simp <;> omega⟩ (by simp <;> omega) rfl
    · have e2 : ((24 : Int) < (out.length : Int)) = False := eq_false (by omega)
      have e : fldsOk l = true := by
        have h3 : (flds l).length ≤ 24 := by rw [← eo]; omega
        have h4 : l.length ≤ 600 := by omega
        rw [fldsOk, eall]; simp [h3, h4]
      rw [e, fldsR_ok e, ← eo]
      (repeat' (first | simp -implicitDefEqProofs only [e0, e2, List.length_map, go_sem] | (refine And.intro ?_ ?_; omega) | (refine And.intro (shr_bd ?_ ?_) ?_; omega; omega) | refine sl_list rfl ?_ | refine sd_list rfl ?_ | refine sl_str ?_ | refine sd_str ?_))
      exact fin_of (fun i => i) (fun i => 10) ⟨by simp <;> omega, by simp <;> omega, by simp <;> omega, by simp <;> omega, by simp <;> omega⟩ (by simp <;> omega) rfl
  have e0 : ((i : Int) ≤ l.length) = True := eq_true (by omega)
  have hb := hx.bi (by omega)
  by_cases h2 : i < l.length
  · have e1 : ((i : Int) < l.length) = True := eq_true (by omega)
    have e5 : ((i : Int) = l.length) = False := eq_false (by omega)
    have g1 : l[i]? = some l[i] := List.getElem?_eq_getElem h2
    have bad := fld_bad h2
    have st1 := fld_word hx h2
    have st2 := fld_end hx h2
    have st3 := fld_skip hx h2
    generalize l[i] = c at g1 bad st1 st2 st3
    by_cases c1 : c.toNat < 32
    · have f1 : ((c.toNat : Int) < 32) = True := eq_true (by omega)
      have e := bad (by simp [okB]; omega)
      rw [e, fldsR_no e]
      (repeat' (first | simp -implicitDefEqProofs only [e0, e1, g1, f1, go_sem] | (refine And.intro ?_ ?_; omega) | (refine And.intro (shr_bd ?_ ?_) ?_; omega; omega) | refine sl_list rfl ?_ | refine sd_list rfl ?_ | refine sl_str ?_ | refine sd_str ?_))
      refine fin_adopt (pv' := .t [.c (.o 999), .c (.v (.bool false))]) 999 9 1 rfl (by omega) (by simp [adPV, adVs, adV1, adC]) ?_
      exact fin_of (fun i => i) (fun i => 999) ⟨by simp <;> omega, by simp <;> omega, by simp <;> omega, by simp <;> omega, by simp <;> omega⟩ (by simp <;> omega) rfl
    have f1 : ((c.toNat : Int) < 32) = False := eq_false (by omega)
    by_cases c2 : 126 < c.toNat
    · have f2 : ((126 : Int) < (c.toNat : Int)) = True := eq_true (by omega)
      have e := bad (by simp [okB]; omega)
      rw [e, fldsR_no e]
      (repeat' (first | simp -implicitDefEqProofs only [e0, e1, g1, f1, f2, go_sem] | (refine And.intro ?_ ?_; omega) | (refine And.intro (shr_bd ?_ ?_) ?_; omega; omega) | refine sl_list rfl ?_ | refine sd_list rfl ?_ | refine sl_str ?_ | refine sd_str ?_))
      refine fin_adopt (pv' := .t [.c (.o 999), .c (.v (.bool false))]) 999 9 1 rfl (by omega) (by simp [adPV, adVs, adV1, adC]) ?_
      exact fin_of (fun i => i) (fun i => 999) ⟨by simp <;> omega, by simp <;> omega, by simp <;> omega, by simp <;> omega, by simp <;> omega⟩ (by simp <;> omega) rfl
    have f2 : ((126 : Int) < (c.toNat : Int)) = False := eq_false (by omega)
    have hok : okB c = true := by simp [okB]; omega
    by_cases c3 : c = 32
    · have f3 : ((c.toNat : Int) = 32) = True := eq_true (by rw [c3]; rfl)
      by_cases hbi : b < i
      · have f4 : ((b : Int) < (i : Int)) = True := eq_true (by omega)
        repeat' first
          | (first | simp -implicitDefEqProofs only [e0, e1, e5, g1, f1, f2, f3, f4, List.length_map, List.length_append, List.map_append, List.length_cons, List.length_nil, go_sem] | (refine And.intro ?_ ?_; omega) | (refine And.intro (shr_bd ?_ ?_) ?_; omega; omega) | refine sl_list rfl ?_ | refine sd_list rfl ?_ | refine sl_str ?_ | refine sd_str ?_)
        exact ⟨(i + 1, i + 1, out ++ [(l.drop b).take (i - b)]), st2 hok c3 hbi, by simp only; omega, weak_of (fun i => i) (fun i => if i = 10 then 52 else i) rfl ⟨by simp [List.map_append, sV] <;> omega, by simp [List.map_append, sV] <;> omega, by simp [List.map_append, sV] <;> omega, by simp [List.map_append, sV] <;> omega, by simp [List.map_append, sV] <;> omega⟩ (by simp [List.map_append, sV] <;> omega)⟩
      · have f4 : ((b : Int) < (i : Int)) = False := eq_false (by omega)
        (repeat' (first | simp -implicitDefEqProofs only [e0, e1, e5, g1, f1, f2, f3, f4, go_sem] | (refine And.intro ?_ ?_; omega) | (refine And.intro (shr_bd ?_ ?_) ?_; omega; omega) | refine sl_list rfl ?_ | refine sd_list rfl ?_ | refine sl_str ?_ | refine sd_str ?_))
        exact ⟨(i + 1, i + 1, out), st3 hok c3 hbi, by simp only; omega, weak_of (fun i => i) (fun i => i) rfl ⟨by simp <;> omega, by simp <;> omega, by simp <;> omega, by simp <;> omega, by simp <;> omega⟩ (by simp <;> omega)⟩
    · have f3 := u8_32 c3
      (repeat' (first | simp -implicitDefEqProofs only [e0, e1, e5, g1, f1, f2, f3, go_sem] | (refine And.intro ?_ ?_; omega) | (refine And.intro (shr_bd ?_ ?_) ?_; omega; omega) | refine sl_list rfl ?_ | refine sd_list rfl ?_ | refine sl_str ?_ | refine sd_str ?_))
      exact ⟨(i + 1, b, out), st1 hok c3, by simp only; omega, weak_of (fun i => i) (fun i => i) rfl ⟨by simp <;> omega, by simp <;> omega, by simp <;> omega, by simp <;> omega, by simp <;> omega⟩ (by simp <;> omega)⟩
  · have e1 : ((i : Int) < l.length) = False := eq_false (by omega)
    obtain rfl : i = l.length := by omega
    by_cases hbi : b < l.length
    · have f4 : ((b : Int) < (l.length : Int)) = True := eq_true (by omega)
      have st := fld_last hx hbi
      repeat' first
        | (first | simp -implicitDefEqProofs only [e0, e1, f4, List.length_map, List.length_append, List.map_append, List.length_cons, List.length_nil, go_sem] | (refine And.intro ?_ ?_; omega) | (refine And.intro (shr_bd ?_ ?_) ?_; omega; omega) | refine sl_list rfl ?_ | refine sd_list rfl ?_ | refine sl_str ?_ | refine sd_str ?_)
      exact ⟨(l.length + 1, l.length + 1, out ++ [(l.drop b).take (l.length - b)]), st, by simp only; omega, weak_of (fun i => i) (fun i => if i = 10 then 52 else i) rfl ⟨by simp [List.map_append, sV] <;> omega, by simp [List.map_append, sV] <;> omega, by simp [List.map_append, sV] <;> omega, by simp [List.map_append, sV] <;> omega, by simp [List.map_append, sV] <;> omega⟩ (by simp [List.map_append, sV] <;> omega)⟩
    · have f4 : ((b : Int) < (l.length : Int)) = False := eq_false (by omega)
      have st := fld_none hx hbi
      (repeat' (first | simp -implicitDefEqProofs only [e0, e1, f4, go_sem] | (refine And.intro ?_ ?_; omega) | (refine And.intro (shr_bd ?_ ?_) ?_; omega; omega) | refine sl_list rfl ?_ | refine sd_list rfl ?_ | refine sl_str ?_ | refine sd_str ?_))
      exact ⟨(l.length + 1, l.length + 1, out), st, by simp only; omega, weak_of (fun i => i) (fun i => i) rfl ⟨by simp <;> omega, by simp <;> omega, by simp <;> omega, by simp <;> omega, by simp <;> omega⟩ (by simp <;> omega)⟩
theorem see_flds (b : Bool) (xs : List Value) : Fin ⟨[], []⟩ ⟨[], [(0, ⟨9, 1, xs, false, true⟩)]⟩ (.t [.c (.o 0), .c (.v (.bool b))]) ⟨[], []⟩ (.t [.c (.l 1 xs), .c (.v (.bool b))]) := by
  refine fin_see ?_
  simp -implicitDefEqProofs only [go_sem]
  exact fin_of (fun i => i) (fun i => i) ⟨by simp <;> omega, by simp <;> omega, by simp <;> omega, by simp <;> omega, by simp <;> omega⟩ (by simp <;> omega) rfl
theorem SplitFields_v (l : List UInt8) (hl : l.length ≤ 1048576) : PC Tryz.prog 43 [] [.c (.v (.string (sB l)))] (.t [.c (.l 1 ((fldsR l).map sV)), .c (.v (.bool (fldsOk l)))]) ⟨[], []⟩ := pc_fin (SplitFields_c 0 l hl) (see_flds _ _)
theorem iSplitFields_v (l : List UInt8) (hl : l.length ≤ 1048576) : PC Tryz.prog 41 [] [.c (.v (.string (sB l)))] (.t [.c (.l 1 ((fldsR l).map sV)), .c (.v (.bool (fldsOk l)))]) ⟨[], []⟩ := pc_fin (iSplitFields_c 0 l hl) (see_flds _ _)
theorem iParseUint_c (l : List UInt8) (hl : l.length ≤ 1048576) : PC Tryz.prog 42 [] [.c (.v (.string (sB l)))] (.t [.c (.v (.int .i64 ((pU l).getD 0))), .c (.v (.bool (pU l).isSome))]) ⟨[], []⟩ := by
  refine pc_lib ⟨_, Tryz.func42, by kernel_rfl, by kernel_rfl⟩ fun g cargs hk ha => ?_
  obtain ⟨u, rfl, hu⟩ := args_1 ha
  have hu : u = .string (sB l) := hu
  subst hu
  exact (parse_calls l (by omega) hk).mono fun e w' ⟨he, hb⟩ => ⟨⟨_, he, fun _ _ => ⟨_, rfl, rfl, rfl, trivial⟩⟩, hb⟩
set_option maxHeartbeats 4000000 in
theorem ParseUint_c (l : List UInt8) (hl : l.length ≤ 1048576) : PC Tryz.prog 152 [] [.c (.v (.string (sB l)))] (.t [.c (.v (.int .i64 ((pU l).getD 0))), .c (.v (.bool (pU l).isSome))]) ⟨[], []⟩ := by
  by_cases h6 : 10 < l.length
  · have e6 : ((10 : Int) < (l.length : Int)) = True := eq_true (by omega)
    rw [pU_long h6]
    refine pc_of Tryz.func152 rfl (by kernel_rfl) _ Tryz.ntmps152 (by simp) ?_
    (repeat' (first | simp -implicitDefEqProofs only [e6, go_sem] | (refine And.intro ?_ ?_; omega) | (refine And.intro (shr_bd ?_ ?_) ?_; omega; omega) | refine sl_list rfl ?_ | refine sd_list rfl ?_ | refine sl_str ?_ | refine sd_str ?_))
    exact fin_scal rfl rfl
  have e6 : ((10 : Int) < (l.length : Int)) = False := eq_false (by omega)
  refine pc_of Tryz.func152 rfl (by kernel_rfl) _ Tryz.ntmps152 (by simp) ?_
  (repeat' (first | simp -implicitDefEqProofs only [e6, go_sem] | (refine And.intro ?_ ?_; omega) | (refine And.intro (shr_bd ?_ ?_) ?_; omega; omega) | refine sl_list rfl ?_ | refine sd_list rfl ?_ | refine sl_str ?_ | refine sd_str ?_))
  refine loop_step (X := Nat × Nat) (fun x => ⟨42, [(0, vS l), (4, vN x.2), (5, vN x.1)], ⟨[], []⟩⟩)
    (fun x => x.1 ≤ l.length ∧ Lib.decFrom 0 (l.take x.1) = some x.2 ∧ x.2 < 10 ^ x.1) (fun x => l.length - x.1) (0, 0) ⟨by simp, by simp [Lib.decFrom], by simp⟩ (weak_of (fun i => i) (fun i => i) rfl ⟨by simp <;> omega, by simp <;> omega, by simp <;> omega, by simp <;> omega, by simp <;> omega⟩ (by simp <;> omega)) (fun x hx => ?_)
  obtain ⟨i, n⟩ := x
  obtain ⟨hi, hd, hn⟩ := hx
  simp only at hi hd hn
  have hp : 10 ^ i ≤ 10 ^ 10 := Nat.pow_le_pow_right (by omega) (by omega)
  have hp2 : (10 : Nat) ^ 10 = 10000000000 := by decide
  by_cases h2 : i < l.length
  · have e1 : ((i : Int) < l.length) = True := eq_true (by omega)
    have g1 : l[i]? = some l[i] := List.getElem?_eq_getElem h2
    have bad := pU_bad g1
    have nx := Lib.decFrom_take l i 0 n l[i] (l[i].toNat - 48) hd g1
    generalize l[i] = c at g1 bad nx
    by_cases c1 : c.toNat < 48
    · have f1 : ((c.toNat : Int) < 48) = True := eq_true (by omega)
      rw [bad (by omega)]
      (repeat' (first | simp -implicitDefEqProofs only [e1, g1, f1, go_sem] | (refine And.intro ?_ ?_; omega) | (refine And.intro (shr_bd ?_ ?_) ?_; omega; omega) | refine sl_list rfl ?_ | refine sd_list rfl ?_ | refine sl_str ?_ | refine sd_str ?_))
      exact fin_scal rfl rfl
    have f1 : ((c.toNat : Int) < 48) = False := eq_false (by omega)
    by_cases c2 : 57 < c.toNat
    · have f2 : ((57 : Int) < (c.toNat : Int)) = True := eq_true (by omega)
      rw [bad (by omega)]
      (repeat' (first | simp -implicitDefEqProofs only [e1, g1, f1, f2, go_sem] | (refine And.intro ?_ ?_; omega) | (refine And.intro (shr_bd ?_ ?_) ?_; omega; omega) | refine sl_list rfl ?_ | refine sd_list rfl ?_ | refine sl_str ?_ | refine sd_str ?_))
      exact fin_scal rfl rfl
    have f2 : ((57 : Int) < (c.toNat : Int)) = False := eq_false (by omega)
    have hdv : Lib.digitVal c = some (c.toNat - 48) := by
      unfold Lib.digitVal
      rw [if_pos (by omega)]
    have nx := nx hdv
    have e5 : (10 * (n : Int) + (c.toNat : Int) - 48) = ((n * 10 + (c.toNat - 48) : Nat) : Int) := by omega
    have hps : (10 : Nat) ^ (i + 1) = 10 ^ i * 10 := Nat.pow_succ ..
    (repeat' (first | simp -implicitDefEqProofs only [e1, g1, f1, f2, go_sem] | (refine And.intro ?_ ?_; omega) | (refine And.intro (shr_bd ?_ ?_) ?_; omega; omega) | refine sl_list rfl ?_ | refine sd_list rfl ?_ | refine sl_str ?_ | refine sd_str ?_))
    exact ⟨(i + 1, n * 10 + (c.toNat - 48)), ⟨by simp only; omega, nx, by simp only; omega⟩, by simp only; omega, weak_of (fun i => i) (fun i => i) rfl ⟨by simp [e5] <;> omega, by simp [e5] <;> omega, by simp [e5] <;> omega, by simp [e5] <;> omega, by simp [e5] <;> omega⟩ (by simp [e5] <;> omega)⟩
  · have e1 : ((i : Int) < l.length) = False := eq_false (by omega)
    obtain rfl : i = l.length := by omega
    rw [List.take_length] at hd
    have e := pU_row hd
    by_cases c1 : (1000000000 : Int) < n
    · have f1 : ((1000000000 : Int) < (n : Int)) = True := eq_true c1
      have e2 : pU l = none := by rw [e, if_neg (fun h => by omega)]
      rw [e2]
      (repeat' (first | simp -implicitDefEqProofs only [e1, f1, go_sem] | (refine And.intro ?_ ?_; omega) | (refine And.intro (shr_bd ?_ ?_) ?_; omega; omega) | refine sl_list rfl ?_ | refine sd_list rfl ?_ | refine sl_str ?_ | refine sd_str ?_))
      exact fin_scal rfl rfl
    have f1 : ((1000000000 : Int) < (n : Int)) = False := eq_false c1
    by_cases c2 : itoa (n : Int) = l
    · have e2 : pU l = some (n : Int) := by rw [e, if_pos ⟨by omega, c2⟩]
      have f2 : (itoa (n : Int) = l) = True := eq_true c2
      rw [e2]
      repeat' first
        | (first | simp -implicitDefEqProofs only [e1, f1, f2, go_sem] | (refine And.intro ?_ ?_; omega) | (refine And.intro (shr_bd ?_ ?_) ?_; omega; omega) | refine sl_list rfl ?_ | refine sd_list rfl ?_ | refine sl_str ?_ | refine sd_str ?_)
        | refine callS (FormatInt_c n (by omega)) rfl rfl rfl ?_
      exact fin_scal rfl rfl
    · have e2 : pU l = none := by rw [e, if_neg (fun h => c2 h.2)]
      have f2 : (itoa (n : Int) = l) = False := eq_false c2
      rw [e2]
      repeat' first
        | (first | simp -implicitDefEqProofs only [e1, f1, f2, go_sem] | (refine And.intro ?_ ?_; omega) | (refine And.intro (shr_bd ?_ ?_) ?_; omega; omega) | refine sl_list rfl ?_ | refine sd_list rfl ?_ | refine sl_str ?_ | refine sd_str ?_)
        | refine callS (FormatInt_c n (by omega)) rfl rfl rfl ?_
      exact fin_scal rfl rfl
theorem l40Number_c (l : List UInt8) (hl : l.length ≤ 1048576) : PC Tryz.prog 98 [] [.c (.v (.string (sB l)))] (.s (.c (.v (.int .i64 (l40 l))))) ⟨[], []⟩ := by
  match l, hl with
  | [], hl =>
    refine pc_of Tryz.func98 rfl (by kernel_rfl) _ Tryz.ntmps98 (by simp) ?_
    repeat' first
      | (first | simp -implicitDefEqProofs only [go_sem] | (refine And.intro ?_ ?_; omega) | (refine And.intro (shr_bd ?_ ?_) ?_; omega; omega) | refine sl_list rfl ?_ | refine sd_list rfl ?_ | refine sl_str ?_ | refine sd_str ?_)
      | refine callS (ParseUint_c [] hl) rfl rfl rfl ?_
    exact fin_scal rfl rfl
  | [x], hl =>
    have e : l40 [x] = (pU [x]).getD 0 := by
      unfold l40
      split
      · rename_i h; simp at h
      · rfl
    rw [e]
    refine pc_of Tryz.func98 rfl (by kernel_rfl) _ Tryz.ntmps98 (by simp) ?_
    repeat' first
      | (first | simp -implicitDefEqProofs only [go_sem] | (refine And.intro ?_ ?_; omega) | (refine And.intro (shr_bd ?_ ?_) ?_; omega; omega) | refine sl_list rfl ?_ | refine sd_list rfl ?_ | refine sl_str ?_ | refine sd_str ?_)
      | refine callS (ParseUint_c [x] hl) rfl rfl rfl ?_
    exact fin_scal rfl rfl
  | x :: c :: r, hl =>
    have e0 : ((1 : Int) < ((x :: c :: r).length : Int)) = True := eq_true (by simp only [List.length_cons]; omega)
    have hl2 : (c :: r).length ≤ 1048576 := by simp only [List.length_cons] at hl ⊢; omega
    have g1 : (x :: c :: r)[0]? = some x := rfl
    have ec : ((x :: c :: r).drop 1).take ((x :: c :: r).length - 1) = c :: r := by
      rw [List.drop_succ_cons, List.drop_zero]
      exact List.take_of_length_le (by simp only [List.length_cons]; omega)
    by_cases h : x = 45
    · have e1 : ((x.toNat : Int) = 45) = True := eq_true (by rw [h]; rfl)
      have e : l40 (x :: c :: r) = -((pU (c :: r)).getD 0) := by rw [h]; rfl
      have hb := pU_bd (l := c :: r)
      rw [e]
      generalize x :: c :: r = L at *
      have hlp : 1 ≤ L.length := by
        have : ((1 : Int) < (L.length : Int)) := of_eq_true e0
        omega
      refine pc_of Tryz.func98 rfl (by kernel_rfl) _ Tryz.ntmps98 (by simp) ?_
      repeat' first
        | (first | simp -implicitDefEqProofs only [e0, e1, g1, ec, go_sem] | (refine And.intro ?_ ?_; omega) | (refine And.intro (shr_bd ?_ ?_) ?_; omega; omega) | refine sl_list rfl ?_ | refine sd_list rfl ?_ | refine sl_str ?_ | refine sd_str ?_)
        | refine callS (ParseUint_c (c :: r) hl2) rfl rfl rfl ?_
      exact fin_scal rfl rfl
    · have e1 : ((x.toNat : Int) = 45) = False := by
        refine eq_false fun e => h ?_
        have e2 : (45 : UInt8).toNat = 45 := rfl
        exact UInt8.toNat_inj.1 (by omega)
      have e : l40 (x :: c :: r) = (pU (x :: c :: r)).getD 0 := by
        unfold l40
        split
        · rename_i h2
          exact absurd (List.cons.inj h2).1 h
        · rfl
      rw [e]
      generalize x :: c :: r = L at *
      refine pc_of Tryz.func98 rfl (by kernel_rfl) _ Tryz.ntmps98 (by simp) ?_
      repeat' first
        | (first | simp -implicitDefEqProofs only [e0, e1, g1, go_sem] | (refine And.intro ?_ ?_; omega) | (refine And.intro (shr_bd ?_ ?_) ?_; omega; omega) | refine sl_list rfl ?_ | refine sd_list rfl ?_ | refine sl_str ?_ | refine sd_str ?_)
        | refine callS (ParseUint_c L hl) rfl rfl rfl ?_
      exact fin_scal rfl rfl
end Go.Proofs.YtahnbliabllflaaGreatDoor
namespace Go.Proofs.YtahnbliabllflaaGreatDoor
open Go.PL
set_option linter.unusedSimpArgs false
set_option linter.unusedVariables false
theorem paL_no {l : List UInt8} (h : fldsOk l = false) : paL l = none := by simp [paL, h]
theorem paL_ok {l : List UInt8} (h : fldsOk l = true) : paL l = pa (flds l) := by simp [paL, h]
theorem paA_no {l : List UInt8} (h : paL l = none) : paA l = noA := by simp [paA, h]
theorem paB_no {l : List UInt8} (h : paL l = none) : paB l = false := by simp [paB, h]
theorem paA_ok {l : List UInt8} {a : Ac} (h : paL l = some a) : paA l = a := by simp [paA, h]
theorem paB_ok {l : List UInt8} {a : Ac} (h : paL l = some a) : paB l = true := by simp [paB, h]
theorem k5 {j : Nat} (h : j < 5) : (1 + (j : Int)) = 1 ∨ (1 + (j : Int)) = 2 ∨ (1 + (j : Int)) = 3 ∨ (1 + (j : Int)) = 4 ∨ (1 + (j : Int)) = 5 := by omega
theorem k5_of {k : Int} (h : k = 1 ∨ k = 2 ∨ k = 3 ∨ k = 4 ∨ k = 5) : ∃ j : Nat, j < 5 ∧ k = 1 + (j : Int) := ⟨(k - 1).toNat, by omega, by omega⟩
def l40s (xs : List (List UInt8)) : List Value := (xs.map l40).map iV
theorem l40s_next {az : List (List UInt8)} {j : Nat} (h : j < az.length) : l40s (az.take (j + 1)) = l40s (az.take j) ++ [iV (l40 az[j])] := by
  unfold l40s
  rw [List.take_succ_eq_append_getElem h, List.map_append, List.map_append]; rfl
theorem l40s_len {xs : List (List UInt8)} : (l40s xs).length = xs.length := by simp [l40s]
theorem l40s_nil : l40s [] = [] := rfl
set_option maxHeartbeats 8000000 in
theorem ParseAct_c (l : List UInt8) (hl : l.length ≤ 1048576) : PC Tryz.prog 44 [] [.c (.v (.string (sB l)))] (.t [.a (actC (paA l)), .c (.v (.bool (paB l)))]) ⟨[], []⟩ := by
  cases hok : fldsOk l with
  | false =>
    have sf := SplitFields_v l hl
    rw [hok, fldsR_no hok] at sf
    rw [paA_no (paL_no hok), paB_no (paL_no hok)]
    refine pc_of Tryz.func44 rfl (by kernel_rfl) _ Tryz.ntmps44 (by simp) ?_
    repeat' first
      | (first | simp -implicitDefEqProofs only [go_sem] | (refine And.intro ?_ ?_; omega) | (refine And.intro (shr_bd ?_ ?_) ?_; omega; omega) | refine sl_list rfl ?_ | refine sd_list rfl ?_ | refine sl_str ?_ | refine sd_str ?_)
      | refine callV sf rfl rfl rfl ?_
    exact fin_scal rfl rfl
  | true =>
    have sf := SplitFields_v l hl
    rw [hok, fldsR_ok hok] at sf
    have eL := paL_ok hok
    have hw := flds_wrd (l := l)
    have hwl := flds_wl (l := l)
    generalize flds l = fs at *
    cases fs with
    | nil =>
      have e : paL l = none := by rw [eL]; rfl
      rw [paA_no e, paB_no e]
      have w0 : within 0 1 3 = false := by decide
      refine pc_of Tryz.func44 rfl (by kernel_rfl) _ Tryz.ntmps44 (by simp) ?_
      repeat' first
        | (first | simp -implicitDefEqProofs only [w0, go_sem] | (refine And.intro ?_ ?_; omega) | (refine And.intro (shr_bd ?_ ?_) ?_; omega; omega) | refine sl_list rfl ?_ | refine sd_list rfl ?_ | refine sl_str ?_ | refine sd_str ?_)
        | refine callV sf rfl rfl rfl ?_
        | refine callS (l01In_c 0 1 3) rfl rfl rfl ?_
      exact fin_scal rfl rfl
    | cons w az =>
      by_cases h3 : 2 < az.length
      · have e : paL l = none := by
          rw [eL]
          cases hp : pa (w :: az) with
          | none => rfl
          | some x => have := (spec_some hp).2.2.2; omega
        have w0 : within ((az.length : Int) + 1) 1 3 = false := by
          cases hh : within ((az.length : Int) + 1) 1 3 with
          | false => rfl
          | true => rw [within_iff] at hh; omega
        rw [paA_no e, paB_no e]
        refine pc_of Tryz.func44 rfl (by kernel_rfl) _ Tryz.ntmps44 (by simp) ?_
        repeat' first
          | (first | simp -implicitDefEqProofs only [w0, List.length_map, go_sem] | (refine And.intro ?_ ?_; omega) | (refine And.intro (shr_bd ?_ ?_) ?_; omega; omega) | refine sl_list rfl ?_ | refine sd_list rfl ?_ | refine sl_str ?_ | refine sd_str ?_)
          | refine callV sf rfl rfl rfl ?_
          | refine callS (l01In_c ((az.length : Int) + 1) 1 3) rfl rfl rfl ?_
        exact fin_scal rfl rfl
      have w0 : within ((az.length : Int) + 1) 1 3 = true := by rw [within_iff]; omega
      have hl600 : l.length ≤ 600 := by
        simp only [fldsOk, Bool.and_eq_true, decide_eq_true_eq] at hok
        exact hok.1
      have hww : wrd w := hw w (by simp)
      have haw : ∀ x ∈ az, wrd x := fun x hx => hw x (by simp [hx])
      have hwL : w.length ≤ 600 := by have := hwl w (by simp); omega
      have haL : ∀ x ∈ az, x.length ≤ 600 := fun x hx => by have := hwl x (by simp [hx]); omega
      have g0 : ((w :: az).map sV)[0]? = some (sV w) := rfl
      have lz : ((w :: az).map sV).length = az.length + 1 := by simp
      have ga : ∀ j (h : j < az.length), ((w :: az).map sV)[1 + j]? = some (sV az[j]) := fun j h => by
        rw [Nat.add_comm, List.map_cons, List.getElem?_cons_succ]
        exact map_get h
      generalize hF : (w :: az).map sV = FV at *
      refine pc_of Tryz.func44 rfl (by kernel_rfl) _ Tryz.ntmps44 (by simp) ?_
      repeat' first
        | (first | simp -implicitDefEqProofs only [w0, lz, g0, go_sem] | (refine And.intro ?_ ?_; omega) | (refine And.intro (shr_bd ?_ ?_) ?_; omega; omega) | refine sl_list rfl ?_ | refine sd_list rfl ?_ | refine sl_str ?_ | refine sd_str ?_)
        | refine callV sf rfl rfl rfl ?_
        | refine callS (l01In_c ((az.length : Int) + 1) 1 3) rfl rfl rfl ?_
      refine loop_step (X := Nat) (fun j => ⟨80, [(2, .s (.c (.p 2 0))), (4, vL 1 FV), (6, vS (w ++ tailT (az.take j))), (7, vO 30), (8, vN (1 + (j : Int)))], ⟨[(2, actC noA)], [(30, ⟨3, 1, l40s (az.take j), false, true⟩)]⟩⟩)
        (fun j => j ≤ az.length) (fun j => az.length - j) 0 (by omega) (weak_of (fun i => i) (fun i => i) rfl ⟨by simp [noA, tailT, l40s_nil] <;> omega, by simp [noA, tailT, l40s_nil] <;> omega, by simp [noA, tailT, l40s_nil] <;> omega, by simp [noA, tailT, l40s_nil] <;> omega, by simp [noA, tailT, l40s_nil] <;> omega⟩ (by simp [noA, tailT, l40s_nil] <;> omega)) (fun j hj => ?_)
      have tlen := tailT_len (m := 600) (az := az.take j) (fun x hx => haL x (List.mem_of_mem_take hx))
      have tk : (az.take j).length = j := List.length_take_of_le hj
      by_cases h1 : j < az.length
      · have e0 : ((1 + (j : Int)) < ((az.length + 1 : Nat) : Int)) = True := eq_true (by omega)
        have gj := ga j h1
        have e4 : (1 + (j : Int)).toNat = 1 + j := by omega
        have n1 := tailT_next h1
        have n2 := l40s_next h1
        have xl := haL az[j] (List.getElem_mem h1)
        have ln := l40Number_c az[j] (by omega)
        generalize az[j] = y at *
        have e9 : 1 + ((j : Int) + 1) = 1 + (j : Int) + 1 := by omega
        repeat' first
          | (first | simp -implicitDefEqProofs only [e0, e4, lz, gj, List.length_append, List.length_map, l40s_len, tk, List.length_cons, List.length_nil, List.append_assoc, List.cons_append, List.nil_append, go_sem] | (refine And.intro ?_ ?_; omega) | (refine And.intro (shr_bd ?_ ?_) ?_; omega; omega) | refine sl_list rfl ?_ | refine sd_list rfl ?_ | refine sl_str ?_ | refine sd_str ?_)
          | refine callS ln rfl rfl rfl ?_
        exact ⟨j + 1, by omega, by omega, weak_of (fun i => i) (fun i => if i = 30 then 51 else i) rfl ⟨by simp [n1, n2, e9, iV, List.append_assoc] <;> omega, by simp [n1, n2, e9, iV, List.append_assoc] <;> omega, by simp [n1, n2, e9, iV, List.append_assoc] <;> omega, by simp [n1, n2, e9, iV, List.append_assoc] <;> omega, by simp [n1, n2, e9, iV, List.append_assoc] <;> omega⟩ (by simp [n1, n2, e9, iV, List.append_assoc] <;> omega)⟩
      · have e0 : ((1 + (j : Int)) < ((az.length + 1 : Nat) : Int)) = False := eq_false (by omega)
        obtain rfl : j = az.length := by omega
        rw [List.take_length] at *
        have p0 : (l40s az ++ [iV 0, iV 0])[0]? = some (iV ((az.map l40).getD 0 0)) := pad0 (az.map l40)
        have p1 : (l40s az ++ [iV 0, iV 0])[1]? = some (iV ((az.map l40).getD 1 0)) := pad1 (az.map l40)
        have sk := fun k => spec_kind (k := k) hww haw
        have ss := fun x => spec_some (w := w) (az := az) (x := x)
        generalize (az.map l40).getD 0 0 = A at *
        generalize (az.map l40).getD 1 0 = B at *
        generalize w ++ tailT az = T at *
        repeat' first
          | (first | simp -implicitDefEqProofs only [e0, lz, List.length_append, l40s_len, List.length_cons, List.length_nil, go_sem] | (refine And.intro ?_ ?_; omega) | (refine And.intro (shr_bd ?_ ?_) ?_; omega; omega) | refine sl_list rfl ?_ | refine sd_list rfl ?_ | refine sl_str ?_ | refine sd_str ?_)
        refine loop_step (X := Nat) (fun j => ⟨80, [(2, .s (.c (.p 2 0))), (6, vS T), (7, vO 54), (9, vN (1 + (j : Int)))], ⟨[(2, actC noA)], [(54, ⟨3, 1, l40s az ++ [iV 0, iV 0], false, true⟩)]⟩⟩)
          (fun j => j ≤ 5 ∧ ∀ m : Nat, m < j → ¬ (actOk (1 + (m : Int)) A B = true ∧ actT ⟨1 + (m : Int), A, B⟩ = T)) (fun j => 5 - j) 0 ⟨by omega, fun m h => by omega⟩ (weak_of (fun i => i) (fun i => i) rfl ⟨by simp [noA, iV] <;> omega, by simp [noA, iV] <;> omega, by simp [noA, iV] <;> omega, by simp [noA, iV] <;> omega, by simp [noA, iV] <;> omega⟩ (by simp [noA, iV] <;> omega)) (fun j hj => ?_)
        obtain ⟨hj5, hjm⟩ := hj
        by_cases h5 : j < 5
        · have e5 : ((1 + (j : Int)) ≤ 5) = True := eq_true (by omega)
          have fa := FormatAct_c ⟨1 + (j : Int), A, B⟩
          have e9 : 1 + ((j : Int) + 1) = 1 + (j : Int) + 1 := by omega
          have z0 : (0 < (l40s az ++ [iV 0, iV 0]).length) = True := eq_true (by simp)
          have z1 : (1 < (l40s az ++ [iV 0, iV 0]).length) = True := eq_true (by simp)
          generalize l40s az ++ [iV 0, iV 0] = NL at *
          cases ho : actOk (1 + (j : Int)) A B with
          | false =>
            simp only [ho] at fa
            repeat' first
              | (first | simp -implicitDefEqProofs only [e5, p0, p1, z0, z1, iV, go_sem] | (refine And.intro ?_ ?_; omega) | (refine And.intro (shr_bd ?_ ?_) ?_; omega; omega) | refine sl_list rfl ?_ | refine sd_list rfl ?_ | refine sl_str ?_ | refine sd_str ?_)
              | refine draw_stepY Tryz.pl_follows (by kernel_rfl) ?_
              | refine callS fa rfl rfl rfl ?_
            exact ⟨j + 1, ⟨by omega, fun m hm => by
              by_cases e : m < j
              · exact hjm m e
              · obtain rfl : m = j := by omega
                rw [ho]; simp⟩, by omega, weak_of (fun i => i) (fun i => i) rfl ⟨by simp [e9, noA] <;> omega, by simp [e9, noA] <;> omega, by simp [e9, noA] <;> omega, by simp [e9, noA] <;> omega, by simp [e9, noA] <;> omega⟩ (by simp [e9, noA] <;> omega)⟩
          | true =>
            simp only [ho] at fa
            by_cases ht : actT ⟨1 + (j : Int), A, B⟩ = T
            · have e : paL l = some ⟨1 + (j : Int), A, B⟩ := by rw [eL]; exact sk _ ho ht
              have t1 : (actT ⟨1 + (j : Int), A, B⟩ = T) = True := eq_true ht
              rw [paA_ok e, paB_ok e]
              repeat' first
                | (first | simp -implicitDefEqProofs only [e5, p0, p1, z0, z1, iV, t1, go_sem] | (refine And.intro ?_ ?_; omega) | (refine And.intro (shr_bd ?_ ?_) ?_; omega; omega) | refine sl_list rfl ?_ | refine sd_list rfl ?_ | refine sl_str ?_ | refine sd_str ?_)
                | refine draw_stepY Tryz.pl_follows (by kernel_rfl) ?_
                | refine callS fa rfl rfl rfl ?_
              exact fin_scal rfl rfl
            · have t1 : (actT ⟨1 + (j : Int), A, B⟩ = T) = False := eq_false ht
              repeat' first
                | (first | simp -implicitDefEqProofs only [e5, p0, p1, z0, z1, iV, t1, go_sem] | (refine And.intro ?_ ?_; omega) | (refine And.intro (shr_bd ?_ ?_) ?_; omega; omega) | refine sl_list rfl ?_ | refine sd_list rfl ?_ | refine sl_str ?_ | refine sd_str ?_)
                | refine draw_stepY Tryz.pl_follows (by kernel_rfl) ?_
                | refine callS fa rfl rfl rfl ?_
              exact ⟨j + 1, ⟨by omega, fun m hm => by
                by_cases e : m < j
                · exact hjm m e
                · obtain rfl : m = j := by omega
                  exact fun h => ht h.2⟩, by omega, weak_of (fun i => i) (fun i => i) rfl ⟨by simp [e9, noA] <;> omega, by simp [e9, noA] <;> omega, by simp [e9, noA] <;> omega, by simp [e9, noA] <;> omega, by simp [e9, noA] <;> omega⟩ (by simp [e9, noA] <;> omega)⟩
        · have e5 : ((1 + (j : Int)) ≤ 5) = False := eq_false (by omega)
          have e : paL l = none := by
            rw [eL]
            cases hp : pa (w :: az) with
            | none => rfl
            | some x =>
              obtain ⟨s1, s2, s3, _⟩ := ss x hp
              obtain ⟨o1, o2, o3⟩ := pa_some hp
              obtain ⟨hk, _⟩ := act_cases o1
              obtain ⟨m, hm, ek⟩ := k5_of hk
              obtain ⟨xk, xa, xb⟩ := x
              simp only at s1 s2 ek o1
              subst s1 s2 ek
              exact absurd ⟨o1, s3⟩ (hjm m (by omega))
          rw [paA_no e, paB_no e]
          (repeat' (first | simp -implicitDefEqProofs only [e5, go_sem] | (refine And.intro ?_ ?_; omega) | (refine And.intro (shr_bd ?_ ?_) ?_; omega; omega) | refine sl_list rfl ?_ | refine sd_list rfl ?_ | refine sl_str ?_ | refine sd_str ?_))
          exact fin_scal rfl rfl
set_option maxHeartbeats 8000000 in
theorem iParseAct_c (l : List UInt8) (hl : l.length ≤ 1048576) : PC Tryz.prog 10 [] [.c (.v (.string (sB l)))] (.t [.a (actC (paA l)), .c (.v (.bool (paB l)))]) ⟨[], []⟩ := by
  cases hok : fldsOk l with
  | false =>
    have sf := iSplitFields_v l hl
    rw [hok, fldsR_no hok] at sf
    rw [paA_no (paL_no hok), paB_no (paL_no hok)]
    refine pc_of Tryz.func10 rfl (by kernel_rfl) _ Tryz.ntmps10 (by simp) ?_
    repeat' first
      | (first | simp -implicitDefEqProofs only [go_sem] | (refine And.intro ?_ ?_; omega) | (refine And.intro (shr_bd ?_ ?_) ?_; omega; omega) | refine sl_list rfl ?_ | refine sd_list rfl ?_ | refine sl_str ?_ | refine sd_str ?_)
      | refine callV sf rfl rfl rfl ?_
    exact fin_scal rfl rfl
  | true =>
    have sf := iSplitFields_v l hl
    rw [hok, fldsR_ok hok] at sf
    have eL := paL_ok hok
    have hwl := flds_wl (l := l)
    have h24 : (flds l).length ≤ 24 := by
      simp only [fldsOk, Bool.and_eq_true, decide_eq_true_eq] at hok
      exact hok.2.2
    generalize flds l = fs at *
    cases fs with
    | nil =>
      have e : paL l = none := by rw [eL]; rfl
      rw [paA_no e, paB_no e]
      refine pc_of Tryz.func10 rfl (by kernel_rfl) _ Tryz.ntmps10 (by simp) ?_
      repeat' first
        | (first | simp -implicitDefEqProofs only [go_sem] | (refine And.intro ?_ ?_; omega) | (refine And.intro (shr_bd ?_ ?_) ?_; omega; omega) | refine sl_list rfl ?_ | refine sd_list rfl ?_ | refine sl_str ?_ | refine sd_str ?_)
        | refine callV sf rfl rfl rfl ?_
      exact fin_scal rfl rfl
    | cons w az =>
      simp only [List.length_cons] at h24
      have haL : ∀ x ∈ az, x.length ≤ 1048576 := fun x hx => by have := hwl x (by simp [hx]); omega
      have g0 : ((w :: az).map sV)[0]? = some (sV w) := rfl
      have lz : ((w :: az).map sV).length = az.length + 1 := by simp
      have ln0 : (((az.length + 1 : Nat) : Int) = 0) = False := eq_false (by omega)
      have lp : (0 < az.length + 1) = True := eq_true (by omega)
      have sd : (((w :: az).map sV).take (az.length + 1)).drop 1 = az.map sV := by
        rw [← lz, List.take_length]; rfl
      generalize hF : (w :: az).map sV = FV at *
      refine pc_of Tryz.func10 rfl (by kernel_rfl) _ Tryz.ntmps10 (by simp) ?_
      repeat' first
        | (first | simp -implicitDefEqProofs only [lz, ln0, sd, List.length_map, go_sem] | (refine And.intro ?_ ?_; omega) | (refine And.intro (shr_bd ?_ ?_) ?_; omega; omega) | refine sl_list rfl ?_ | refine sd_list rfl ?_ | refine sl_str ?_ | refine sd_str ?_)
        | refine callV sf rfl rfl rfl ?_
      refine loop_step (X := Nat × List Int) (fun x => ⟨81, [(2, .s (.c (.p 2 0))), (4, vL 1 FV), (6, vO 26), (28, vL 1 (az.map sV)), (29, vN az.length), (30, vN x.1)], ⟨[(2, actC noA)], [(26, ⟨3, 1, x.2.map iV, false, true⟩)]⟩⟩)
        (fun x => x.1 ≤ az.length ∧ pUs (az.take x.1) = some x.2) (fun x => az.length - x.1) (0, []) ⟨by simp, by simp [pUs]⟩ (weak_of (fun i => i) (fun i => i) rfl ⟨by simp [noA] <;> omega, by simp [noA] <;> omega, by simp [noA] <;> omega, by simp [noA] <;> omega, by simp [noA] <;> omega⟩ (by simp [noA] <;> omega)) (fun x hx => ?_)
      obtain ⟨j, ns⟩ := x
      obtain ⟨hj, hns⟩ := hx
      simp only at hj hns
      have nl := pUs_len hns
      have tk : (az.take j).length = j := List.length_take_of_le hj
      rw [tk] at nl
      by_cases h1 : j < az.length
      · have e0 : ((j : Int) < (az.length : Int)) = True := eq_true (by omega)
        have gj := map_get (f := sV) h1
        have xl := haL az[j] (List.getElem_mem h1)
        have pu := iParseUint_c az[j] xl
        have nx := fun v => pUs_next (v := v) h1 hns
        have bd := pUs_bad h1
        generalize az[j] = y at *
        cases hy : pU y with
        | none =>
          simp only [hy, Option.getD_none, Option.isSome_none] at pu
          have e : paL l = none := by rw [eL]; exact pa_bad (bd hy)
          rw [paA_no e, paB_no e]
          repeat' first
            | (first | simp -implicitDefEqProofs only [e0, gj, h1, go_sem] | (refine And.intro ?_ ?_; omega) | (refine And.intro (shr_bd ?_ ?_) ?_; omega; omega) | refine sl_list rfl ?_ | refine sd_list rfl ?_ | refine sl_str ?_ | refine sd_str ?_)
            | refine callS pu rfl rfl rfl ?_
          exact fin_scal rfl rfl
        | some v =>
          simp only [hy, Option.getD_some, Option.isSome_some] at pu
          have nx := nx v hy
          repeat' first
            | (first | simp -implicitDefEqProofs only [e0, gj, h1, nl, List.length_append, List.length_map, List.length_cons, List.length_nil, go_sem] | (refine And.intro ?_ ?_; omega) | (refine And.intro (shr_bd ?_ ?_) ?_; omega; omega) | refine sl_list rfl ?_ | refine sd_list rfl ?_ | refine sl_str ?_ | refine sd_str ?_)
            | refine callS pu rfl rfl rfl ?_
          exact ⟨(j + 1, ns ++ [v]), ⟨by simp only; omega, nx⟩, by simp only; omega, weak_of (fun i => i) (fun i => if i = 26 then 45 else i) rfl ⟨by simp [List.map_append, iV] <;> omega, by simp [List.map_append, iV] <;> omega, by simp [List.map_append, iV] <;> omega, by simp [List.map_append, iV] <;> omega, by simp [List.map_append, iV] <;> omega⟩ (by simp [List.map_append, iV] <;> omega)⟩
      · have e0 : ((j : Int) < (az.length : Int)) = False := eq_false (by omega)
        obtain rfl : j = az.length := by omega
        rw [List.take_length] at hns
        (repeat' (first | simp -implicitDefEqProofs only [e0, go_sem] | (refine And.intro ?_ ?_; omega) | (refine And.intro (shr_bd ?_ ?_) ?_; omega; omega) | refine sl_list rfl ?_ | refine sd_list rfl ?_ | refine sl_str ?_ | refine sd_str ?_))
        refine loop_step (X := Nat) (fun j => ⟨81, [(2, .s (.c (.p 2 0))), (4, vL 1 FV), (6, vO 26), (11, vN (1 + (j : Int)))], ⟨[(2, actC noA)], [(26, ⟨3, 1, ns.map iV, false, true⟩)]⟩⟩)
          (fun j => j ≤ 5 ∧ ∀ m : Nat, m < j → ¬ (w = wordT (1 + (m : Int)) ∧ ns.length = numsN (1 + (m : Int)))) (fun j => 5 - j) 0 ⟨by omega, fun m h => by omega⟩ (weak_of (fun i => i) (fun i => i) rfl ⟨by simp [noA] <;> omega, by simp [noA] <;> omega, by simp [noA] <;> omega, by simp [noA] <;> omega, by simp [noA] <;> omega⟩ (by simp [noA] <;> omega)) (fun j hj => ?_)
        obtain ⟨hj5, hjm⟩ := hj
        by_cases h5 : j < 5
        · have e5 : ((1 + (j : Int)) ≤ 5) = True := eq_true (by omega)
          have e9 : 1 + ((j : Int) + 1) = 1 + (j : Int) + 1 := by omega
          have aw := actWord_c (1 + (j : Int))
          have an := actNumbers_c (1 + (j : Int))
          by_cases hwk : w = wordT (1 + (j : Int))
          · have t1 : (w = wordT (1 + (j : Int))) = True := eq_true hwk
            by_cases hnk : ns.length = numsN (1 + (j : Int))
            · have t2 : ((az.length : Int) = (numsN (1 + (j : Int)) : Int)) = True := eq_true (by omega)
              have ph := pa_hit (k5 h5) hwk hns hnk
              have p0 := pad0 ns
              have p1 := pad1 ns
              have z0 : (0 < (ns.map iV ++ [iV 0, iV 0]).length) = True := eq_true (by simp)
              have z1 : (1 < (ns.map iV ++ [iV 0, iV 0]).length) = True := eq_true (by simp)
              have zl : (ns.map iV ++ [iV 0, iV 0]).length = az.length + 2 := by simp [nl]
              have ao := iActOk_c (1 + (j : Int)) (ns.getD 0 0) (ns.getD 1 0)
              cases ho : actOk (1 + (j : Int)) (ns.getD 0 0) (ns.getD 1 0) with
              | false =>
                rw [ho] at ao
                have e : paL l = none := by rw [eL, ph, ho]; rfl
                rw [paA_no e, paB_no e]
                repeat' first
                  | (first | simp -implicitDefEqProofs only [e5, g0, lz, lp, t1, t2, nl, List.length_map, go_sem] | (refine And.intro ?_ ?_; omega) | (refine And.intro (shr_bd ?_ ?_) ?_; omega; omega) | refine sl_list rfl ?_ | refine sd_list rfl ?_ | refine sl_str ?_ | refine sd_str ?_)
                  | refine draw_stepY Tryz.pl_follows (by kernel_rfl) ?_
                  | refine callS aw rfl rfl rfl ?_
                  | refine callS an rfl rfl rfl ?_
                  | (generalize ns.map iV ++ [iV 0, iV 0] = NL at *; simp -implicitDefEqProofs only [e5, p0, p1, z0, z1, iV, go_sem])
                  | refine callS ao rfl rfl rfl ?_
                exact fin_scal rfl rfl
              | true =>
                rw [ho] at ao
                have e : paL l = some (actW (1 + (j : Int)) ns) := by rw [eL, ph, ho]; rfl
                rw [paA_ok e, paB_ok e]
                repeat' first
                  | (first | simp -implicitDefEqProofs only [e5, g0, lz, lp, t1, t2, nl, List.length_map, go_sem] | (refine And.intro ?_ ?_; omega) | (refine And.intro (shr_bd ?_ ?_) ?_; omega; omega) | refine sl_list rfl ?_ | refine sd_list rfl ?_ | refine sl_str ?_ | refine sd_str ?_)
                  | refine draw_stepY Tryz.pl_follows (by kernel_rfl) ?_
                  | refine callS aw rfl rfl rfl ?_
                  | refine callS an rfl rfl rfl ?_
                  | (generalize ns.map iV ++ [iV 0, iV 0] = NL at *; simp -implicitDefEqProofs only [e5, p0, p1, z0, z1, iV, go_sem])
                  | refine callS ao rfl rfl rfl ?_
                exact fin_scal rfl rfl
            · have t2 : ((az.length : Int) = (numsN (1 + (j : Int)) : Int)) = False := eq_false (by omega)
              repeat' first
                | (first | simp -implicitDefEqProofs only [e5, g0, lz, lp, t1, t2, nl, List.length_map, go_sem] | (refine And.intro ?_ ?_; omega) | (refine And.intro (shr_bd ?_ ?_) ?_; omega; omega) | refine sl_list rfl ?_ | refine sd_list rfl ?_ | refine sl_str ?_ | refine sd_str ?_)
                | refine draw_stepY Tryz.pl_follows (by kernel_rfl) ?_
                | refine callS aw rfl rfl rfl ?_
                | refine callS an rfl rfl rfl ?_
              exact ⟨j + 1, ⟨by omega, fun m hm => by
                by_cases e : m < j
                · rw [← nl]; exact hjm m e
                · obtain rfl : m = j := by omega
                  exact fun h => hnk (by rw [nl]; exact h.2)⟩, by omega, weak_of (fun i => i) (fun i => i) rfl ⟨by simp [e9, noA] <;> omega, by simp [e9, noA] <;> omega, by simp [e9, noA] <;> omega, by simp [e9, noA] <;> omega, by simp [e9, noA] <;> omega⟩ (by simp [e9, noA] <;> omega)⟩
          · have t1 : (w = wordT (1 + (j : Int))) = False := eq_false hwk
            repeat' first
              | (first | simp -implicitDefEqProofs only [e5, g0, lz, lp, t1, nl, List.length_map, go_sem] | (refine And.intro ?_ ?_; omega) | (refine And.intro (shr_bd ?_ ?_) ?_; omega; omega) | refine sl_list rfl ?_ | refine sd_list rfl ?_ | refine sl_str ?_ | refine sd_str ?_)
              | refine draw_stepY Tryz.pl_follows (by kernel_rfl) ?_
              | refine callS aw rfl rfl rfl ?_
              | refine callS an rfl rfl rfl ?_
            exact ⟨j + 1, ⟨by omega, fun m hm => by
              by_cases e : m < j
              · rw [← nl]; exact hjm m e
              · obtain rfl : m = j := by omega
                exact fun h => hwk h.1⟩, by omega, weak_of (fun i => i) (fun i => i) rfl ⟨by simp [e9, noA] <;> omega, by simp [e9, noA] <;> omega, by simp [e9, noA] <;> omega, by simp [e9, noA] <;> omega, by simp [e9, noA] <;> omega⟩ (by simp [e9, noA] <;> omega)⟩
        · have e5 : ((1 + (j : Int)) ≤ 5) = False := eq_false (by omega)
          have e : paL l = none := by
            rw [eL]
            exact pa_miss hns fun m hm => hjm m (by omega)
          rw [paA_no e, paB_no e]
          (repeat' (first | simp -implicitDefEqProofs only [e5, go_sem] | (refine And.intro ?_ ?_; omega) | (refine And.intro (shr_bd ?_ ?_) ?_; omega; omega) | refine sl_list rfl ?_ | refine sd_list rfl ?_ | refine sl_str ?_ | refine sd_str ?_))
          exact fin_scal rfl rfl
end Go.Proofs.YtahnbliabllflaaGreatDoor
namespace Go.Proofs.YtahnbliabllflaaGreatDoor
open Go.PL
set_option linter.unusedSimpArgs false
set_option linter.unusedVariables false
def lnsG : List UInt8 → List UInt8 → List (List UInt8)
  | cur, [] => [cur]
  | cur, c :: r => if c = 10 then cur :: lnsG [] r else lnsG (cur ++ [c]) r
def lns (l : List UInt8) : List (List UInt8) := lnsG [] l
theorem lnsG_app : ∀ (w cur r : List UInt8), (∀ b ∈ w, b ≠ 10) → lnsG cur (w ++ r) = lnsG (cur ++ w) r
  | [], cur, r, _ => by simp
  | c :: w, cur, r, h => by
    rw [List.cons_append, lnsG, if_neg (h c (by simp)), lnsG_app w (cur ++ [c]) r (fun b hb => h b (by simp [hb]))]
    simp
theorem lns_one {w : List UInt8} (h : ∀ b ∈ w, b ≠ 10) : lns w = [w] := by
  have := lnsG_app w [] [] h
  rw [List.append_nil] at this
  rw [lns, this]; rfl
theorem lns_cons {w r : List UInt8} (h : ∀ b ∈ w, b ≠ 10) : lns (w ++ 10 :: r) = w :: lns r := by
  rw [lns, lnsG_app w [] _ h, lnsG, if_pos rfl]; rfl
theorem lnsG_len : ∀ (l cur : List UInt8), (lnsG cur l).length ≤ l.length + 1
  | [], cur => by simp [lnsG]
  | c :: r, cur => by
    simp only [lnsG]
    split
    · have := lnsG_len r []
      simp only [List.length_cons]; omega
    · have := lnsG_len r (cur ++ [c])
      simp only [List.length_cons]; omega
theorem lns_len {l : List UInt8} : (lns l).length ≤ l.length + 1 := lnsG_len l []
theorem lnsG_wl : ∀ (l cur : List UInt8), ∀ w ∈ lnsG cur l, w.length ≤ cur.length + l.length
  | [], cur, w, hw => by
    rw [lnsG] at hw
    rw [List.mem_singleton.1 hw]; simp
  | c :: r, cur, w, hw => by
    simp only [lnsG] at hw
    split at hw
    · rcases List.mem_cons.1 hw with rfl | hw
      · simp
      · have := lnsG_wl r [] w hw
        simp only [List.length_cons, List.length_nil] at this ⊢; omega
    · have := lnsG_wl r (cur ++ [c]) w hw
      simp only [List.length_cons, List.length_append, List.length_nil] at this ⊢; omega
theorem splitK_lns : ∀ (k : Nat) (s : List UInt8), Lib.count s [10] = k → Lib.splitK [10] 0 k s = lns s := by
  intro k
  induction k with
  | zero =>
    intro s h
    have hm : Lib.index s [10] = -1 := by
      have hge := Lib.index_ge s [10]
      by_cases e : Lib.index s [10] = -1
      · exact e
      · obtain ⟨i, hi⟩ : ∃ i : Nat, Lib.index s [10] = i := ⟨(Lib.index s [10]).toNat, by omega⟩
        have := Lib.count_hit (by simp) hi
        omega
    rw [Lib.index_one] at hm
    rw [Lib.splitK, lns_one]
    intro b hb e
    obtain ⟨j, hj, rfl⟩ := List.mem_iff_getElem.1 hb
    exact Lib.indexByte_none hm j (by rw [List.getElem?_eq_getElem hj, e])
  | succ k ih =>
    intro s h
    have hge := Lib.index_ge s [10]
    have hne : Lib.index s [10] ≠ -1 := fun e => by
      have := Lib.count_miss e
      omega
    obtain ⟨i, hi⟩ : ∃ i : Nat, Lib.index s [10] = i := ⟨(Lib.index s [10]).toNat, by omega⟩
    have hc := Lib.count_hit (by simp) hi
    have hm : ¬ (Lib.index s [10] == -1) = true := fun e => hne (beq_iff_eq.1 e)
    have et : (Lib.index s [10]).toNat = i := by omega
    rw [Lib.splitK, if_neg hm, et, ih _ (by omega)]
    rw [Lib.index_one] at hi
    obtain ⟨h1, h2⟩ := Lib.indexByte_some hi
    obtain ⟨hl, e1⟩ := List.getElem?_eq_some_iff.1 h1
    have es : s = s.take i ++ 10 :: s.drop (i + 1) := by
      have := List.take_append_drop i s
      rw [List.drop_eq_getElem_cons hl, e1] at this
      exact this.symm
    have hw : ∀ b ∈ s.take i, b ≠ 10 := by
      intro b hb e
      obtain ⟨j, hj, rfl⟩ := List.mem_iff_getElem.1 hb
      rw [List.length_take] at hj
      refine h2 j (by omega) ?_
      rw [List.getElem_take] at e
      rw [List.getElem?_eq_getElem (by omega), e]
    have e2 : lns s = s.take i :: lns (s.drop (i + 1)) := by
      conv => lhs; rw [es]
      exact lns_cons hw
    rw [e2]
    rfl
theorem sB_map : ∀ {bs : List ByteArray} {L : List (List UInt8)}, bs.map (·.data.toList) = L → bs = L.map sB
  | [], _, h => by subst h; rfl
  | b :: bs, _, h => by
    subst h
    rw [List.map_cons, List.map_cons, ← sB_map (bs := bs) rfl]
    congr 1
theorem splitB_lns (l : List UInt8) : Lib.splitB (sB [10]) 0 (Lib.countB (sB l) (sB [10])) (sB l) = (lns l).map sB := by
  refine sB_map ?_
  rw [Lib.splitB_data, sB_data, sB_data]
  refine splitK_lns _ _ ?_
  simp only [Lib.countB, sB_data]
theorem countB_lns (l : List UInt8) : Lib.countB (sB l) (sB [10]) + 1 = (lns l).length := by
  have h1 := congrArg List.length (splitB_lns l)
  rw [Lib.splitB_all (sB [10]) (by decide) 0 _ _ rfl, List.length_map] at h1
  exact h1
def blank (l : List UInt8) : Bool := fldsOk l && decide (flds l = [])
def scA : List (List UInt8) → Option (List Ac)
  | [] => some []
  | l :: r => if blank l = true then scA r else match paL l, scA r with
    | some a, some az => some (a :: az)
    | _, _ => none
theorem scA_app : ∀ (a b : List (List UInt8)) {x y : List Ac}, scA a = some x → scA b = some y → scA (a ++ b) = some (x ++ y)
  | [], b, x, y, h1, h2 => by
    simp only [scA, Option.some.injEq] at h1
    subst h1; simpa using h2
  | l :: a, b, x, y, h1, h2 => by
    simp only [scA, List.cons_append] at h1 ⊢
    split at h1
    · rename_i hb
      rw [if_pos hb]
      exact scA_app a b h1 h2
    · rename_i hb
      rw [if_neg hb]
      split at h1
      · rename_i u us e1 e2
        obtain rfl := Option.some.inj h1
        rw [e1, scA_app a b e2 h2]
        rfl
      · cases h1
theorem scA_one {l : List UInt8} {a : Ac} (h : blank l = false) (hp : paL l = some a) : scA [l] = some [a] := by
  simp [scA, h, hp]
theorem scA_blank {l : List UInt8} (h : blank l = true) : scA [l] = some [] := by simp [scA, h]
theorem scA_bad : ∀ {ls : List (List UInt8)} {l : List UInt8}, l ∈ ls → blank l = false → paL l = none → scA ls = none
  | x :: r, l, hm, hb, hp => by
    simp only [scA]
    rcases List.mem_cons.1 hm with rfl | hm
    · rw [if_neg (by simp [hb]), hp]
    · have := scA_bad hm hb hp
      rw [this]
      split
      · rfl
      · split
        · rename_i h; cases h
        · rfl
theorem scA_len : ∀ {ls : List (List UInt8)} {az : List Ac}, scA ls = some az → az.length ≤ ls.length
  | [], az, h => by simp only [scA, Option.some.injEq] at h; subst h; simp
  | l :: r, az, h => by
    simp only [scA] at h
    split at h
    · have := scA_len h
      simp only [List.length_cons]; omega
    · split at h
      · rename_i u us e1 e2
        obtain rfl := Option.some.inj h
        have := scA_len e2
        simp only [List.length_cons]; omega
      · cases h
structure LnAt (l : List UInt8) (i b : Nat) (az : List Ac) : Prop where
  le : i ≤ l.length + 1
  len : az.length ≤ i
  bi : i ≤ l.length → b ≤ i
  sum : i ≤ l.length → ∃ done, scA done = some az ∧ done ++ lnsG ((l.drop b).take (i - b)) (l.drop i) = lns l
  fin : i = l.length + 1 → scA (lns l) = some az
theorem ln_start (l : List UInt8) : LnAt l 0 0 [] := ⟨by omega, by simp, fun _ => Nat.le_refl _, fun _ => ⟨[], rfl, by simp [lns]⟩, fun h => by omega⟩
theorem ln_byte {l : List UInt8} {i b : Nat} {az : List Ac} (h : LnAt l i b az) (hi : i < l.length) (h2 : l[i] ≠ 10) : LnAt l (i + 1) b az := by
  have hb := h.bi (by omega)
  refine ⟨by omega, by have := h.len; omega, fun _ => by omega, fun _ => ?_, fun e => by omega⟩
  obtain ⟨done, h3, h4⟩ := h.sum (by omega)
  refine ⟨done, h3, ?_⟩
  rw [← h4, List.drop_eq_getElem_cons hi, lnsG, if_neg h2, cut_next hi hb]
theorem ln_mem {l : List UInt8} {i b : Nat} {az : List Ac} (h : LnAt l i b az) (hi : i ≤ l.length) (h2 : ∀ c, l[i]? = some c → c = 10) : (l.drop b).take (i - b) ∈ lns l := by
  obtain ⟨done, _, h4⟩ := h.sum hi
  rw [← h4]
  refine List.mem_append.2 (.inr ?_)
  by_cases hl : i < l.length
  · have e := h2 _ (List.getElem?_eq_getElem hl)
    rw [List.drop_eq_getElem_cons hl, lnsG, if_pos e]
    simp
  · have : i = l.length := by omega
    subst this
    rw [List.drop_length, lnsG]; simp
theorem ln_end {l : List UInt8} {i b : Nat} {az ys : List Ac} (h : LnAt l i b az) (hi : i ≤ l.length) (h2 : ∀ c, l[i]? = some c → c = 10) (hy : scA [(l.drop b).take (i - b)] = some ys) (hl : ys.length ≤ 1) : LnAt l (i + 1) (i + 1) (az ++ ys) := by
  obtain ⟨done, h3, h4⟩ := h.sum hi
  have hs := scA_app done _ h3 hy
  refine ⟨by omega, by have := h.len; rw [List.length_append]; omega, fun _ => Nat.le_refl _, fun hle => ?_, fun e => ?_⟩
  · have hlt : i < l.length := by omega
    have e := h2 _ (List.getElem?_eq_getElem hlt)
    refine ⟨_, hs, ?_⟩
    rw [← h4, List.drop_eq_getElem_cons hlt, lnsG, if_pos e]
    simp
  · have : i = l.length := by omega
    subst this
    rw [List.drop_length, lnsG] at h4
    rw [← h4]
    exact hs
theorem ln_done {l : List UInt8} {i b : Nat} {az : List Ac} (h : LnAt l i b az) (hi : l.length < i) : scA (lns l) = some az := h.fin (by have := h.le; omega)
def scR (l : List UInt8) : Option (List Ac) := if l.length ≤ 20000 then match scA (lns l) with
    | some az => if az.length ≤ 40 then some az else none
    | none => none
  else none
theorem scR_long {l : List UInt8} (h : ¬ l.length ≤ 20000) : scR l = none := by rw [scR, if_neg h]
theorem scR_bad {l : List UInt8} (h : scA (lns l) = none) : scR l = none := by
  unfold scR
  rw [h]
  split <;> rfl
theorem scR_many {l : List UInt8} {az : List Ac} (h : scA (lns l) = some az) (hl : ¬ az.length ≤ 40) : scR l = none := by
  unfold scR
  rw [h]
  split
  · simp only; rw [if_neg hl]
  · rfl
theorem scR_ok {l : List UInt8} {az : List Ac} (h0 : l.length ≤ 20000) (h : scA (lns l) = some az) (hl : az.length ≤ 40) : scR l = some az := by
  unfold scR
  rw [h, if_pos h0]
  simp only; rw [if_pos hl]
theorem scR_iff {l : List UInt8} {az : List Ac} (h : scR l = some az) : l.length ≤ 20000 ∧ scA (lns l) = some az ∧ az.length ≤ 40 := by
  unfold scR at h
  split at h
  · rename_i h0
    split at h
    · rename_i bs e
      split at h
      · rename_i hl
        obtain rfl := Option.some.inj h
        exact ⟨h0, e, hl⟩
      · cases h
    · cases h
  · cases h
theorem scA_ok : ∀ {ls : List (List UInt8)} {az : List Ac}, scA ls = some az → ∀ a ∈ az, actOk a.k a.a a.b = true
  | [], az, h, a, ha => by simp only [scA, Option.some.injEq] at h; subst h; simp at ha
  | l :: r, az, h, a, ha => by
    simp only [scA] at h
    split at h
    · exact scA_ok h a ha
    · split at h
      · rename_i u us e1 e2
        obtain rfl := Option.some.inj h
        rcases List.mem_cons.1 ha with rfl | ha
        · unfold paL at e1
          split at e1
          · cases hf : flds l with
            | nil => rw [hf] at e1; simp [pa] at e1
            | cons w ws => rw [hf] at e1; exact (pa_some e1).1
          · cases e1
        · exact scA_ok e2 a ha
      · cases h
theorem paL_text {a : Ac} (h : actOk a.k a.a a.b = true) (pre post : List UInt8) (hpre : pre.all (· == 32) = true) (hpost : post.all (· == 32) = true) (hlen : pre.length + post.length ≤ 100) : paL (pre ++ actT a ++ post) = some a ∧ fldsOk (pre ++ actT a ++ post) = true ∧ flds (pre ++ actT a ++ post) = wordT a.k :: (numsA a).map itoa := by
  have hj := actT_join h
  have hw := numsA_wrd h
  have e0 : flds (actT a) = wordT a.k :: (numsA a).map itoa := by rw [hj]; exact flds_join _ _ word_wrd hw
  have hback : ∀ (post l : List UInt8), post.all (· == 32) = true → flds (l ++ post) = flds l := by
    intro post
    induction post with
    | nil => intro l _; simp
    | cons c r ih =>
      intro l hc
      simp only [List.all_cons, Bool.and_eq_true, beq_iff_eq] at hc
      obtain ⟨rfl, hr⟩ := hc
      have : l ++ 32 :: r = (l ++ [32]) ++ r := by simp
      rw [this, ih _ hr]
      exact flds_back l [] (by simp)
  have hfront : ∀ (pre l : List UInt8), pre.all (· == 32) = true → flds (pre ++ l) = flds l := by
    intro pre
    induction pre with
    | nil => intro l _; simp
    | cons c r ih =>
      intro l hc
      simp only [List.all_cons, Bool.and_eq_true, beq_iff_eq] at hc
      obtain ⟨rfl, hr⟩ := hc
      rw [List.cons_append, flds_sp, ih _ hr]
  have e1 : flds (pre ++ actT a ++ post) = wordT a.k :: (numsA a).map itoa := by rw [hback _ _ hpost, hfront _ _ hpre, e0]
  have hl := actT_len (a := a)
  have hsp : ∀ l : List UInt8, l.all (· == 32) = true → l.all okB = true := fun l hl => by
    rw [List.all_eq_true] at hl ⊢
    intro x hx
    have := hl x hx
    rw [beq_iff_eq] at this
    subst this; rfl
  have hit : ∀ n : Int, 0 ≤ n → (itoa n).all okB = true := fun n hn => by
    obtain ⟨m, rfl⟩ : ∃ m : Nat, n = m := ⟨n.toNat, by omega⟩
    rw [itoa_nat, List.all_eq_true]
    intro b hb
    have := dec_mem hb
    simp only [okB, decide_eq_true_eq]; omega
  have hwd : (wordT a.k).all okB = true := by
    unfold wordT
    repeat' split
    all_goals decide
  have htl : ∀ ns : List Int, (∀ n ∈ ns, 0 ≤ n) → (tailT (ns.map itoa)).all okB = true := by
    intro ns
    induction ns with
    | nil => intro _; rfl
    | cons n ns ih =>
      intro hn
      have h1 := hit n (hn n (by simp))
      have h2 := ih (fun m hm => hn m (by simp [hm]))
      simp only [tailT, List.map_cons, List.flatMap_cons, List.cons_append, List.all_cons, List.all_append] at h2 ⊢
      rw [h1, h2]; rfl
  obtain ⟨_, b1, b2⟩ := act_cases h
  have ha : (actT a).all okB = true := by
    rw [hj, List.all_append, hwd, htl (numsA a) (fun n hn => by
      have hn : n ∈ [a.a, a.b] := List.mem_of_mem_take hn
      rcases List.mem_cons.1 hn with rfl | hn
      · omega
      · rw [List.mem_singleton.1 hn]; omega)]
    rfl
  have hnl : (numsA a).length ≤ 2 := by unfold numsA; rw [List.length_take]; simp only [List.length_cons, List.length_nil]; omega
  have e2 : fldsOk (pre ++ actT a ++ post) = true := by
    unfold fldsOk
    rw [e1, List.all_append, List.all_append, hsp _ hpre, ha, hsp _ hpost]
    have : (pre ++ actT a ++ post).length ≤ 600 := by simp only [List.length_append]; omega
    have h3 : (wordT a.k :: (numsA a).map itoa).length ≤ 24 := by simp only [List.length_cons, List.length_map]; omega
    simp only [this, h3, decide_true, Bool.and_self]
  refine ⟨?_, e2, e1⟩
  unfold paL
  rw [if_pos e2, e1]
  exact pa_actT h
theorem scR_text {az : List Ac} (h : ∀ a ∈ az, actOk a.k a.a a.b = true) (hl : az.length ≤ 40) : scR (az.flatMap fun a => actT a ++ [10]) = some az := by
  have hline : ∀ a : Ac, actOk a.k a.a a.b = true → (∀ b ∈ actT a, b ≠ 10) ∧ blank (actT a) = false ∧ paL (actT a) = some a := fun a ha => by
    obtain ⟨h1, h2, h3⟩ := paL_text ha [] [] rfl rfl (by simp)
    rw [List.nil_append, List.append_nil] at h1 h2 h3
    refine ⟨fun b hb => ?_, ?_, h1⟩
    · have hok : (actT a).all okB = true := by
        have := h2
        simp only [fldsOk, Bool.and_eq_true] at this
        exact this.2.1
      have := List.all_eq_true.1 hok b hb
      rintro rfl
      revert this; decide
    · unfold blank
      rw [h3]; simp
  have hs : ∀ az : List Ac, (∀ a ∈ az, actOk a.k a.a a.b = true) → scA (lns (az.flatMap fun a => actT a ++ [10])) = some az := by
    intro az
    induction az with
    | nil =>
      intro _
      have : blank [] = true := rfl
      show scA [[]] = some []
      simp [scA, this]
    | cons a az ih =>
      intro h
      obtain ⟨h1, h2, h3⟩ := hline a (h a (by simp))
      have e : ((a :: az).flatMap fun a => actT a ++ [10]) = actT a ++ 10 :: (az.flatMap fun a => actT a ++ [10]) := by simp
      rw [e, lns_cons h1]
      simp only [scA]
      rw [if_neg (by simp [h2]), h3, ih (fun b hb => h b (by simp [hb]))]
  have hlen : ∀ az : List Ac, (az.flatMap fun a => actT a ++ [10]).length ≤ 50 * az.length := by
    intro az
    induction az with
    | nil => simp
    | cons a az ih =>
      have := actT_len (a := a)
      simp only [List.flatMap_cons, List.length_append, List.length_cons, List.length_nil] at ih ⊢
      omega
  have := hlen az
  exact scR_ok (by omega) (hs az h) hl
end Go.Proofs.YtahnbliabllflaaGreatDoor
