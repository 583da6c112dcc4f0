/-
  A game in its sweeps: the lists of a list of lists; the longest sweep; is it one sweep.
-/
import Derived.Test.YtahnbliabllflaaWa
import Derived.Test.YtahnbliabllflaaR4
namespace Go.Proofs.Ytahnbliabllflaa
open Go.PL
set_option linter.unusedSimpArgs false
set_option linter.unusedVariables false
theorem info_lines : ∃ it, Try.prog.info? 29 = some it ∧ it.zero = some (.slice none 0 0) := by
  have h : (Try.prog.info? 29).bind (·.zero) = some (.slice none 0 0) := by kernel_rfl
  exact Option.bind_eq_some_iff.1 h
def lsF (g : List Ln) : C := .l 3 (g.map lineV)
/-- the cells of the list of lists: sweeps that are done, the one under way, room -/
def lsA (gs : List (List Ln)) (id m : Nat) : List C := gs.map lsF ++ .o id :: List.replicate m .any
section
variable {gs : List (List Ln)} {id k m : Nat} {x y : C} {fb fl : Nat → Nat} {h : Hp}
theorem csR_any : ∀ m, csR fb fl h (List.replicate m .any) (List.replicate m .any)
  | 0 => trivial
  | m + 1 => ⟨⟨rfl, rfl⟩, csR_any m⟩
theorem csR_ls : ∀ {gs : List (List Ln)} {r r' : List C}, csR fb fl h r r' → csR fb fl h (gs.map lsF ++ r) (gs.map lsF ++ r')
  | [], _, _, hr => hr
  | g :: gs, _, _, hr => ⟨⟨rfl, rfl⟩, csR_ls (gs := gs) hr⟩
theorem csR_lsA (hk : keyC h (.o k) = true) (he : id = fl k) : csR fb fl h (lsA gs id m) (lsA gs k m) := csR_ls ⟨⟨hk, by rw [he]; rfl⟩, csR_any m⟩
theorem lsA_len : (lsA gs id m).length = gs.length + 1 + m := by simp [lsA]; omega
theorem lsA_take : (lsA gs id m).take (gs.length + 1) = gs.map lsF ++ [.o id] := by
  unfold lsA
  rw [List.take_append, List.take_of_length_le (by simp), List.length_map, Nat.add_sub_cancel_left]
  rfl
theorem lsA_drop : (lsA gs id (m + 1)).drop (gs.length + 1 + 1) = List.replicate m .any := by
  unfold lsA
  rw [List.drop_append, List.drop_of_length_le (by simp; omega), List.length_map, List.nil_append, show gs.length + 1 + 1 - gs.length = 2 by omega]
  rfl
theorem lsA_get : (lsA gs id m)[gs.length]? = some (.o id) := by
  unfold lsA
  rw [List.getElem?_append_right (by simp)]
  simp
theorem lsA_set : (lsA gs id m).set gs.length (.o k) = lsA gs k m := by
  unfold lsA
  rw [List.set_append_right _ _ (by simp)]
  simp
/-- the same with a new sweep that is still empty; with its list -/
def lsB (gs : List (List Ln)) (id m : Nat) : List C := gs.map lsF ++ .o id :: .v (.slice none 0 0) :: List.replicate m .any
def lsC (gs : List (List Ln)) (id k m : Nat) : List C := gs.map lsF ++ .o id :: .o k :: List.replicate m .any
theorem app_in : (lsA gs id (m + 1)).take (gs.length + 1) ++ [.v (.slice none 0 0)] ++ (lsA gs id (m + 1)).drop (gs.length + 1 + 1) = lsB gs id m := by
  rw [lsA_take, lsA_drop, lsB]; simp
theorem app_new {r : Nat} : (lsA gs id m).take (gs.length + 1) ++ [.v (.slice none 0 0)] ++ List.replicate r .any = lsB gs id r := by
  rw [lsA_take, lsB]; simp
theorem lsB_get : (lsB gs id m)[gs.length + 1]? = some (.v (.slice none 0 0)) := by
  unfold lsB
  rw [List.getElem?_append_right (by simp)]
  simp
theorem lsB_set : (lsB gs id m).set (gs.length + 1) (.o k) = lsC gs id k m := by
  unfold lsB
  rw [List.set_append_right _ _ (by simp)]
  simp [lsC]
theorem lsB_len : (lsB gs id m).length = gs.length + 2 + m := by simp [lsB]; omega
theorem see_ls {ls : List (Nat × LO)} {ks : List Nat} : ∀ gs : List (List Ln), (gs.map lsF).map (seeC false ks ls) = gs.map lsF
  | [] => rfl
  | g :: gs => by rw [List.map_cons, List.map_cons, see_ls gs]; rfl
theorem see_any {ls : List (Nat × LO)} {ks : List Nat} : (List.replicate m C.any).map (seeC false ks ls) = List.replicate m .any := by
  rw [List.map_replicate]; rfl
theorem see_lsC {ls : List (Nat × LO)} {e : TypeId} {la : List Ln} {pub : Bool} (hf : fnd ls 999 = some ⟨e, 3, la.map lineV, pub, true⟩) : (lsC gs 999 42 m).map (seeC false [999] ls) = lsA (gs ++ [la]) 42 m := by
  have e1 : seeC false [999] ls (.o 999) = lsF la := by simp [seeC, memN, hf, seeO, lsF]
  have e2 : seeC false [999] ls (.o 42) = .o 42 := by simp [seeC, memN]
  simp only [lsC, lsA, List.map_append, List.map_cons, List.map_nil, see_ls, see_any, e1, e2, List.append_assoc, List.cons_append, List.nil_append]
theorem see_lsA {ls : List (Nat × LO)} {e : TypeId} {la : List Ln} {pub : Bool} (hf : fnd ls 999 = some ⟨e, 3, la.map lineV, pub, true⟩) : (lsA gs 999 m).map (seeC false [999] ls) = ((gs ++ [la]).map fun g => g.map lineV).map (fun xs => .l 3 xs) ++ List.replicate m .any := by
  have e1 : seeC false [999] ls (.o 999) = lsF la := by simp [seeC, memN, hf, seeO, lsF]
  have e3 : (gs.map fun g => g.map lineV).map (fun xs => C.l 3 xs) = gs.map lsF := by simp [lsF, Function.comp_def]
  simp only [lsA, List.map_append, List.map_cons, List.map_nil, see_ls, see_any, e1, e3, List.append_assoc, List.cons_append, List.nil_append]
  rfl
end
def spSt (js : List Ln) : Option (Nat × List (List Ln) × List Ln × Nat) → St
  | none => ⟨46, [(0, vL 3 (js.map lineV)), (3, .s (.c (.sb 6 0 0))), (7, vL 3 (js.map lineV)), (8, vN js.length), (9, vI 0)], ⟨[(6, [])], []⟩⟩
  | some (i, gs, la, m) => ⟨46, [(0, vL 3 (js.map lineV)), (3, .s (.c (.sb 6 (gs.length + 1) (gs.length + 1 + m)))), (7, vL 3 (js.map lineV)), (8, vN js.length), (9, vN i)], ⟨[(6, lsA gs 999 m)], [(999, ⟨35, 3, la.map lineV, true, true⟩)]⟩⟩
def spI (js : List Ln) : Option (Nat × List (List Ln) × List Ln × Nat) → Prop
  | none => True
  | some (i, gs, la, m) => i ≠ 0 ∧ i ≤ js.length ∧ splS (js.take i) = gs ++ [la] ∧ gs.length + 1 + m ≤ maxLen ∧ gs.length < i ∧ la.length ≤ i
def spM (js : List Ln) : Option (Nat × List (List Ln) × List Ln × Nat) → Nat
  | none => js.length + 1
  | some (i, _) => js.length - i
set_option maxRecDepth 20000 in
set_option maxHeartbeats 8000000 in
theorem SplitSweeps_c (js : List Ln) (hn : js.length ≤ 1000000) : PC Try.prog 11 [] [.c (.l 3 (js.map lineV))] (.s (.c (.ll 3 ((splS js).map fun g => g.map lineV)))) ⟨[], []⟩ := by
  obtain ⟨it, hi, hz⟩ := info_lines
  refine pc_of Try.func11 rfl (by kernel_rfl) _ Try.ntmps11 (by simp) ?_
  (repeat' (first | simp -implicitDefEqProofs only [go_sem] | (refine And.intro ?_ ?_; omega) | (refine And.intro (shr_bd ?_ ?_) ?_; omega; omega) | refine sl_list rfl ?_ | refine sd_list rfl ?_ | refine sl_str ?_ | refine sd_str ?_))
  refine loop_step (X := Option (Nat × List (List Ln) × List Ln × Nat)) (spSt js) (spI js) (spM js) none trivial (weak_of (fun i => i) (fun i => i) rfl ⟨by simp [spSt] <;> omega, by simp [spSt] <;> omega, by simp [spSt] <;> omega, by simp [spSt] <;> omega, by simp [spSt] <;> omega⟩ (by simp [spSt] <;> omega)) (fun x hx => ?_)
  cases x with
  | none =>
    show RunC _ _ _ _ _ ⟨46, [(0, vL 3 (js.map lineV)), (3, .s (.c (.sb 6 0 0))), (7, vL 3 (js.map lineV)), (8, vN js.length), (9, vI 0)], ⟨[(6, [])], []⟩⟩
    by_cases h0 : 0 < js.length
    · have e0 : ((0 : Int) < (js.length : Int)) = True := eq_true (by omega)
      have g1 : (js.map lineV)[0]? = some (lineV js[0]) := by simp [h0]
      have es : splS (js.take (0 + 1)) = [[js[0]]] := by rw [splS_next h0]; simp [splS, addS]
      generalize js[0] = l at *
      repeat' first
        | (first | simp -implicitDefEqProofs only [e0, g1, lineV, go_sem] | (refine And.intro ?_ ?_; omega) | (refine And.intro (shr_bd ?_ ?_) ?_; omega; omega) | refine sl_list rfl ?_ | refine sd_list rfl ?_ | refine sl_str ?_ | refine sd_str ?_)
        | refine draw_step Try.pl_follows (by kernel_rfl) ?_
      refine app_step (e := 29) (b := 24) (it := it) (by kernel_rfl) hi hz (by omega) (by omega) rfl rfl rfl (by omega) rfl rfl (fun h => absurd h (by omega)) (fun _ cap' hc hm => ?_)
      repeat' first
        | (first | simp -implicitDefEqProofs only [lineV, go_sem] | (refine And.intro ?_ ?_; omega) | (refine And.intro (shr_bd ?_ ?_) ?_; omega; omega) | refine sl_list rfl ?_ | refine sd_list rfl ?_ | refine sl_str ?_ | refine sd_str ?_)
        | refine draw_stepZ Try.pl_follows (by kernel_rfl) (by kernel_rfl) (by kernel_rfl) ?_
      exact ⟨some (1, [], [l], cap' - 1), ⟨by omega, by omega, by simpa using es, by simp only [List.length_nil]; omega, by simp, by simp⟩, by simp only [spM]; omega, weak_pub (weak_of (fun i => if i = 6 then 29 else i) (fun i => if i = 999 then 42 else i) rfl ⟨by simp [spSt, lsA, csR_any], by simp [spSt, pubAll, lineV], by simp [spSt], by simp [spSt], by simp⟩ (by simp [spSt]; omega))⟩
    · have e0 : ((0 : Int) < (js.length : Int)) = False := eq_false (by omega)
      have : js = [] := List.eq_nil_of_length_eq_zero (by omega)
      subst this
      (repeat' (first | simp -implicitDefEqProofs only [e0, go_sem] | (refine And.intro ?_ ?_; omega) | (refine And.intro (shr_bd ?_ ?_) ?_; omega; omega) | refine sl_list rfl ?_ | refine sd_list rfl ?_ | refine sl_str ?_ | refine sd_str ?_))
      exact fin_ll (xss := []) (rest := []) rfl rfl rfl (by simp [maxLen])
  | some y =>
    obtain ⟨i, gs, la, m⟩ := y
    obtain ⟨i0, i1, i2, i3, i4, i5⟩ := hx
    show RunC _ _ _ _ _ ⟨46, [(0, vL 3 (js.map lineV)), (3, .s (.c (.sb 6 (gs.length + 1) (gs.length + 1 + m)))), (7, vL 3 (js.map lineV)), (8, vN js.length), (9, vN i)], ⟨[(6, lsA gs 999 m)], [(999, ⟨35, 3, la.map lineV, true, true⟩)]⟩⟩
    by_cases hlt : i < js.length
    · have e0 : ((i : Int) < (js.length : Int)) = True := eq_true (by omega)
      have g1 := map_get (f := lineV) hlt
      have hlt' : i - 1 < js.length := by omega
      have g2 := map_get (f := lineV) hlt'
      have ei : ((i : Int) - 1).toNat = i - 1 := by omega
      have i0' : ((i : Int) = 0) = False := eq_false (by omega)
      have en := newAt_eq (js := js) i0 hlt
      have sp := spl_at (js := js) i i1
      have sx := splS_next hlt
      have t1 : (((gs.length + 1 : Nat) : Int) - 1).toNat = gs.length := by omega
      have t2 : (((gs.length + 1 + 1 : Nat) : Int) - 1).toNat = gs.length + 1 := by omega
      have l1 := lsA_len (gs := gs) (id := 999) (m := m)
      have l2 := lsA_get (gs := gs) (id := 999) (m := m)
      have l3 := lsA_set (gs := gs) (id := 999) (k := 42) (m := m)
      rw [i2] at sp sx
      by_cases hq : js[i].f = (js[i - 1]'hlt').t
      · have hq2 : ((js[i - 1]'hlt').t = js[i].f) = True := eq_true hq.symm
        obtain ⟨init, g, e1, _, e2, _⟩ := spl_on sp hlt (by rw [en]; simp [hq])
        obtain ⟨rfl, e3⟩ := List.append_inj' e1 rfl
        obtain rfl : la = g := by simpa using e3
        rw [e2] at sx
        clear e2 e1 e3 sp en hq
        generalize js[i] = l at *
        generalize js[i - 1]'hlt' = l' at *
        (repeat' (first | simp -implicitDefEqProofs only [e0, g1, g2, hlt, hlt', ei, i0', hq2, lineV, go_sem] | (refine And.intro ?_ ?_; omega) | (refine And.intro (shr_bd ?_ ?_) ?_; omega; omega) | refine sl_list rfl ?_ | refine sd_list rfl ?_ | refine sl_str ?_ | refine sd_str ?_))
        refine draw_step Try.pl_follows (by kernel_rfl) ?_
        repeat' first
          | (first | simp -implicitDefEqProofs only [e0, g1, g2, hlt, hlt', ei, i0', hq2, lineV, t1, l1, l2, l3, List.length_map, List.length_append, List.length_cons, List.length_nil, go_sem] | (refine And.intro ?_ ?_; omega) | (refine And.intro (shr_bd ?_ ?_) ?_; omega; omega) | refine sl_list rfl ?_ | refine sd_list rfl ?_ | refine sl_str ?_ | refine sd_str ?_)
          | refine draw_stepZ Try.pl_follows (by kernel_rfl) (by kernel_rfl) (by kernel_rfl) ?_
        exact ⟨some (i + 1, gs, la ++ [l], m), ⟨by omega, by omega, sx, i3, by omega, by simp; omega⟩, by simp only [spM]; omega, weak_of (fun i => i) (fun i => if i = 999 then 42 else i) rfl ⟨⟨csR_lsA rfl rfl, trivial⟩, by simp [spSt, lineV], by simp [spSt], by simp [spSt], by simp⟩ (by simp [spSt]; try omega)⟩
      · have hq2 : ((js[i - 1]'hlt').t = js[i].f) = False := eq_false fun h => hq h.symm
        obtain ⟨e2, _⟩ := spl_new sp hlt (by rw [en]; simp [hq])
        rw [e2] at sx
        clear e2 sp en hq
        generalize js[i] = l at *
        generalize js[i - 1]'hlt' = l' at *
        (repeat' (first | simp -implicitDefEqProofs only [e0, g1, g2, hlt, hlt', ei, i0', hq2, lineV, go_sem] | (refine And.intro ?_ ?_; omega) | (refine And.intro (shr_bd ?_ ?_) ?_; omega; omega) | refine sl_list rfl ?_ | refine sd_list rfl ?_ | refine sl_str ?_ | refine sd_str ?_))
        refine draw_step Try.pl_follows (by kernel_rfl) ?_
        (repeat' (first | simp -implicitDefEqProofs only [e0, g1, g2, hlt, hlt', ei, i0', hq2, lineV, go_sem] | (refine And.intro ?_ ?_; omega) | (refine And.intro (shr_bd ?_ ?_) ?_; omega; omega) | refine sl_list rfl ?_ | refine sd_list rfl ?_ | refine sl_str ?_ | refine sd_str ?_))
        refine app_step (e := 29) (b := 24) (it := it) (by kernel_rfl) hi hz (by omega) (by omega) rfl rfl lsA_len (by omega) rfl rfl (fun hroom => ?_) (fun hroom cap' hc hm => ?_)
        · obtain ⟨m', rfl⟩ : ∃ m', m = m' + 1 := ⟨m - 1, by omega⟩
          have b1 := lsB_len (gs := gs) (id := 999) (m := m')
          have b2 := lsB_get (gs := gs) (id := 999) (m := m')
          have b3 := lsB_set (gs := gs) (id := 999) (k := 42) (m := m')
          rw [app_in]
          repeat' first
            | (first | simp -implicitDefEqProofs only [e0, g1, g2, hlt, hlt', ei, i0', hq2, lineV, t2, b1, b2, b3, List.length_map, List.length_append, List.length_cons, List.length_nil, go_sem] | (refine And.intro ?_ ?_; omega) | (refine And.intro (shr_bd ?_ ?_) ?_; omega; omega) | refine sl_list rfl ?_ | refine sd_list rfl ?_ | refine sl_str ?_ | refine sd_str ?_)
            | refine draw_stepZ Try.pl_follows (by kernel_rfl) (by kernel_rfl) (by kernel_rfl) ?_
          refine ⟨some (i + 1, gs ++ [la], [l], m'), ⟨by omega, by omega, by rw [sx], by simp <;> omega, by simp <;> omega, by simp <;> omega⟩, by simp only [spM]; omega, weak_see [999] ?_⟩
          simp -implicitDefEqProofs only [go_sem]
          rw [see_lsC rfl]
          exact weak_of (fun i => i) (fun i => if i = 999 then 42 else i) rfl ⟨⟨csR_lsA rfl rfl, trivial⟩, by simp [spSt, lineV], by simp [spSt], by simp [spSt], by simp⟩ (by simp [spSt]; try omega)
        · have b1 := lsB_len (gs := gs) (id := 999) (m := cap' - (gs.length + 1 + 1))
          have b2 := lsB_get (gs := gs) (id := 999) (m := cap' - (gs.length + 1 + 1))
          have b3 := lsB_set (gs := gs) (id := 999) (k := 42) (m := cap' - (gs.length + 1 + 1))
          rw [app_new]
          repeat' first
            | (first | simp -implicitDefEqProofs only [e0, g1, g2, hlt, hlt', ei, i0', hq2, lineV, t2, b1, b2, b3, List.length_map, List.length_append, List.length_cons, List.length_nil, go_sem] | (refine And.intro ?_ ?_; omega) | (refine And.intro (shr_bd ?_ ?_) ?_; omega; omega) | refine sl_list rfl ?_ | refine sd_list rfl ?_ | refine sl_str ?_ | refine sd_str ?_)
            | refine draw_stepZ Try.pl_follows (by kernel_rfl) (by kernel_rfl) (by kernel_rfl) ?_
          refine ⟨some (i + 1, gs ++ [la], [l], cap' - (gs.length + 1 + 1)), ⟨by omega, by omega, by rw [sx], by simp <;> omega, by simp <;> omega, by simp <;> omega⟩, by simp only [spM]; omega, weak_see [999] ?_⟩
          simp -implicitDefEqProofs only [go_sem]
          rw [see_lsC rfl]
          exact weak_of (fun i => if i = 6 then 29 else i) (fun i => if i = 999 then 42 else i) rfl ⟨⟨csR_lsA rfl rfl, trivial⟩, by simp [spSt, lineV], by simp [spSt], by simp [spSt], by simp⟩ (by simp [spSt]; try omega)
    · have e0 : ((i : Int) < (js.length : Int)) = False := eq_false (by omega)
      obtain rfl : i = js.length := by omega
      rw [List.take_length] at i2
      (repeat' (first | simp -implicitDefEqProofs only [e0, go_sem] | (refine And.intro ?_ ?_; omega) | (refine And.intro (shr_bd ?_ ?_) ?_; omega; omega) | refine sl_list rfl ?_ | refine sd_list rfl ?_ | refine sl_str ?_ | refine sd_str ?_))
      rw [i2]
      refine fin_seeB [999] ?_ (fun {g v} hr => ?_)
      · exact fin_ll (rest := List.replicate m .any) (by simp only [reB, List.map_cons, List.map_nil, fnd, if_true]; rw [see_lsA rfl]) (by simp) (by simp) i3
      · obtain ⟨⟨cs, hm⟩, e⟩ := hr
        exact ⟨⟨_, mem_reB' hm⟩, e⟩
def lngN (xs : List (List Ln)) (k : Nat) : Int := (xs.take k).foldl (fun a g => max a (g.length : Int)) 0
theorem lngN_next {xs : List (List Ln)} {k : Nat} (h : k < xs.length) : lngN xs (k + 1) = max (lngN xs k) (xs[k].length : Int) := by
  unfold lngN
  rw [List.take_succ_eq_append_getElem h, List.foldl_append]; rfl
theorem map_lists {xs : List (List Ln)} {k : Nat} (h : k < xs.length) : (xs.map fun g => g.map lineV)[k]? = some (xs[k].map lineV) := by simp [h]
theorem spl_lenle {js : List Ln} : (splS js).length ≤ js.length := by
  rw [spl_len]
  exact sw_le (js := js) (i := js.length)
set_option maxHeartbeats 4000000 in
theorem LongestSweep_c (js : List Ln) (hn : js.length ≤ 1000000) : PC Try.prog 13 [] [.c (.l 3 (js.map lineV))] (vI (lngN (splS js) (splS js).length)) ⟨[], []⟩ := by
  have ss := SplitSweeps_c js hn
  have sl := spl_lenle (js := js)
  generalize splS js = SP at *
  refine pc_of Try.func13 rfl (by kernel_rfl) _ Try.ntmps13 (by simp) ?_
  repeat' first
    | (first | simp -implicitDefEqProofs only [List.length_map, go_sem] | (refine And.intro ?_ ?_; omega) | (refine And.intro (shr_bd ?_ ?_) ?_; omega; omega) | refine sl_list rfl ?_ | refine sd_list rfl ?_ | refine sl_str ?_ | refine sd_str ?_)
    | refine callV ss rfl rfl rfl ?_
  refine loop_step (X := Nat) (fun k => ⟨19, [(3, vI (lngN SP k)), (7, .s (.c (.ll 3 (SP.map fun g => g.map lineV)))), (8, vN SP.length), (9, vN k)], ⟨[], []⟩⟩)
    (fun k => k ≤ SP.length) (fun k => SP.length - k) 0 (by omega) (weak_of (fun i => i) (fun i => i) rfl ⟨by simp [lngN] <;> omega, by simp [lngN] <;> omega, by simp [lngN] <;> omega, by simp [lngN] <;> omega, by simp [lngN] <;> omega⟩ (by simp [lngN] <;> omega)) (fun k hk => ?_)
  by_cases hlt : k < SP.length
  · have e0 : ((k : Int) < (SP.length : Int)) = True := eq_true (by omega)
    have g1 := map_lists hlt
    have nx := lngN_next hlt
    (repeat' (first | simp -implicitDefEqProofs only [e0, g1, go_sem] | (refine And.intro ?_ ?_; omega) | (refine And.intro (shr_bd ?_ ?_) ?_; omega; omega) | refine sl_list rfl ?_ | refine sd_list rfl ?_ | refine sl_str ?_ | refine sd_str ?_))
    exact ⟨k + 1, by omega, by omega, weak_of (fun i => i) (fun i => i) rfl ⟨by simp [nx] <;> omega, by simp [nx] <;> omega, by simp [nx] <;> omega, by simp [nx] <;> omega, by simp [nx] <;> omega⟩ (by simp [nx] <;> omega)⟩
  · have e0 : ((k : Int) < (SP.length : Int)) = False := eq_false (by omega)
    obtain rfl : k = SP.length := by omega
    (repeat' (first | simp -implicitDefEqProofs only [e0, go_sem] | (refine And.intro ?_ ?_; omega) | (refine And.intro (shr_bd ?_ ?_) ?_; omega; omega) | refine sl_list rfl ?_ | refine sd_list rfl ?_ | refine sl_str ?_ | refine sd_str ?_))
    exact fin_scal rfl rfl
theorem IsOneSweep_c (js : List Ln) (hn : js.length ≤ 4194304) : PC Try.prog 10 [] [.c (.l 3 (js.map lineV))] (vB (decide ((sweeps js : Int) = 1))) ⟨[], []⟩ := by
  refine pc_of Try.func10 rfl (by kernel_rfl) _ Try.ntmps10 (by simp) ?_
  repeat' first
    | (first | simp -implicitDefEqProofs only [go_sem] | (refine And.intro ?_ ?_; omega) | (refine And.intro (shr_bd ?_ ?_) ?_; omega; omega) | refine sl_list rfl ?_ | refine sd_list rfl ?_ | refine sl_str ?_ | refine sd_str ?_)
    | refine callS (iCountSweeps_c js hn) rfl rfl rfl ?_
  exact fin_scal rfl rfl
end Go.Proofs.Ytahnbliabllflaa
