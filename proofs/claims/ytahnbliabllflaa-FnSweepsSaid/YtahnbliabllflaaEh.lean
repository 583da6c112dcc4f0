/-
  Regions that draw their order and hold operations that change memory: these follow one another in every order, so the order of the text serves every order.
-/
import Derived.Test.YtahnbliabllflaaEe
namespace Go.PL
open Go.RowKit
set_option linter.unusedSimpArgs false
set_option linter.unusedVariables false

/-! ### operations that change memory -/
def isEff : Op → Bool
  | .call c => (match c.callee with
    | .value (.func _) => true
    | .builtin .append => true
    | _ => false)
  | .store .. => true
  | .alloc _ => true
  | .box .. => true
  | .makeSlice .. => true
  | .buildSlice _ n _ => n == 0
  | _ => false
theorem opE_ex {P : Program} {σ : St} {o : Oper} {K : St → Prop} (he : isEff o.op = true) (hc : opK P o.op o.dst σ K) : ∃ pv h', K ({ σ with h := h' }.put o.dst pv) ∧ EYields P σ.h σ.ev o pv h' := by
  obtain ⟨dst, op, type, pos, after, guard⟩ := o
  cases op
  case box t x =>
    simp only [opK] at hc
    obtain ⟨y, hy, hc⟩ := v1K_ex hc
    obtain ⟨cs, hcs, hc⟩ := optK_ex hc
    obtain ⟨d, hd, hdk, hK⟩ := optK_ex hc
    subst hd
    refine ⟨_, _, hK, fun g0 pk g a hk wf hρ next Q hn => ?_⟩
    have hx := hρ x (by simp [Op.operands])
    rw [hy] at hx
    obtain ⟨h1, h2⟩ := cells1_rep wf.ov hcs hx
    obtain ⟨g', hw, hbx, hov, hk', he⟩ := hk.addBox hdk t h1 h2
    unfold Oper.wp
    have hr : (execOp a.eval ⟨some d, .box t x, type, pos, after, guard⟩).run P g.w = .ok (.value (.pointer (some ⟨g.w.heap.size, 0, none⟩))) g'.w := by
      rw [hw]
      simp [execOp, Instr.box, newVar, newRow]
    rw [hr]
    exact hn g' _ hk' ⟨fun id lo hm => by rw [hov]; exact wf.ov id lo hm, wf.nd⟩ he ⟨⟨cs, by simp⟩, by rw [hbx]⟩
  case alloc t =>
    simp only [opK] at hc
    obtain ⟨zs, hzs, hc⟩ := optK_ex hc
    obtain ⟨d, hd, ⟨hone, hdk⟩, hK⟩ := optK_ex hc
    subst hd
    unfold zeroCs at hzs
    split at hzs
    · rename_i i hi
      cases hz : i.zero with
      | none => simp [hz] at hzs
      | some z =>
        simp [hz] at hzs
        subst hzs
        refine ⟨_, _, hK, fun g0 pk g a hk wf hρ next Q hn => ?_⟩
        obtain ⟨g', hw, hbx, hov, hk', he⟩ := hk.addBox hdk (cs := z.cells.toList.map .v) (arr := z.cells) t (All2.of_v _) (List.all_eq_true.1 hone)
        unfold Oper.wp
        have hr : (execOp a.eval ⟨some d, .alloc t, type, pos, after, guard⟩).run P g.w = .ok (.value (.pointer (some ⟨g.w.heap.size, 0, none⟩))) g'.w := by
          rw [hw]
          simp [execOp, Instr.alloc, newVar, newRow, zeroValue, typeInfo, hi, hz]
        rw [hr]
        exact hn g' _ hk' ⟨fun id lo hm => by rw [hov]; exact wf.ov id lo hm, wf.nd⟩ he ⟨⟨z.cells.toList.map .v, by simp⟩, by rw [hbx]⟩
    · cases hzs
  case store t ad x =>
    simp only [opK] at hc
    obtain ⟨p, hp, hc⟩ := c1K_ex hc
    obtain ⟨y, hy, hc⟩ := v1K_ex hc
    obtain ⟨cs, hcs, hc⟩ := optK_ex hc
    obtain ⟨n, hn, hlen, hc⟩ := optK_ex hc
    obtain ⟨h', hK, hrun⟩ := storeK_sound hn hlen hcs hc
    refine ⟨_, _, hK, fun g0 pk g a hk wf hρ next Q hn => ?_⟩
    have h1 := hρ ad (by simp [Op.operands])
    have h2 := hρ x (by simp [Op.operands])
    rw [hp] at h1
    rw [hy] at h2
    obtain ⟨g', hr, hk', hwf, he⟩ := hrun g0 pk g _ _ hk wf h1 h2
    unfold Oper.wp
    have hr' : (execOp a.eval ⟨dst, .store t ad x, type, pos, after, guard⟩).run P g.w = .ok .skip g'.w := by simp [execOp, hr]
    rw [hr']
    exact hn g' _ hk' hwf he rfl
  case makeSlice t l c =>
    simp only [opK] at hc
    obtain ⟨cl, hl, hc⟩ := c1K_ex hc
    obtain ⟨cc, hcc, hc⟩ := c1K_ex hc
    split at hc
    · rename_i lv cv _
      obtain ⟨d, hd, hc2⟩ := optK_ex hc
      subst hd
      obtain ⟨h', hK, hrun⟩ := msK_sound hc2
      refine ⟨_, _, hK, fun g0 pk g a hk wf hρ next Q hn => ?_⟩
      obtain ⟨v, g', hr, hk', hwf, he, hrep⟩ := hrun g0 pk g hk wf
      have h1 := hρ l (by simp [Op.operands])
      have h2 := hρ c (by simp [Op.operands])
      rw [hl] at h1
      rw [hcc] at h2
      have e1 : a.eval l = lv := h1
      have e2 : a.eval c = cv := h2
      unfold Oper.wp
      have hr' : (execOp a.eval ⟨some d, .makeSlice t l c, type, pos, after, guard⟩).run P g.w = .ok (.value v) g'.w := by simp [execOp, e1, e2, hr]
      rw [hr']
      exact hn g' _ hk' hwf he hrep
    · exact hc.elim
  case buildSlice t n parts =>
    simp only [opK] at hc
    obtain ⟨d, hd, hc2⟩ := optK_ex hc
    subst hd
    obtain ⟨h', hK, hrun⟩ := bsK_sound hc2
    refine ⟨_, _, hK, fun g0 pk g a hk wf hρ next Q hn => ?_⟩
    obtain ⟨v, g', hr, hk', hwf, he, hrep⟩ := hrun g0 pk g a.eval hk wf (fun p hp => hρ p.2 (by simp only [Op.operands]; simp; exact ⟨p.1, by simpa using hp⟩))
    unfold Oper.wp
    have hr' : (execOp a.eval ⟨some d, .buildSlice t n parts, type, pos, after, guard⟩).run P g.w = .ok (.value v) g'.w := by simp [execOp, hr]
    rw [hr']
    exact hn g' _ hk' hwf he hrep
  case call c =>
    simp only [opK, callOp] at hc
    split at hc
    · rename_i hce
      split at hc
      · rename_i sx x t t' hargs htys
        obtain ⟨vs, hs, hc⟩ := c1K_ex hc
        obtain ⟨vx, hx, hc⟩ := c1K_ex hc
        obtain ⟨ei, hei, hc⟩ := optK_ex hc
        obtain ⟨d, hd, hc⟩ := optK_ex hc
        obtain ⟨sy, hsy, ⟨ht, hsz, hdk⟩, hc2⟩ := optK_ex hc
        subst hd
        obtain ⟨h', hK, hrun⟩ := appendK_sound (P := P) (ty := type) hei ht hdk (sz := sy.1) (ys := sy.2) (by rw [hsy]) hsz hc2
        refine ⟨_, _, hK, fun g0 pk g a hk wf hρ next Q hn => ?_⟩
        have ha : c.args = #[sx, x] := by apply Array.ext'; simpa using hargs
        have hty : c.argTypes = #[t, t'] := by apply Array.ext'; simpa using htys
        have h1 := hρ sx (by simp [Op.operands, Call.operands, ha])
        have h2 := hρ x (by simp [Op.operands, Call.operands, ha])
        rw [hs] at h1
        rw [hx] at h2
        obtain ⟨v, g', hr, hk', hwf, he, hrep⟩ := hrun g0 pk g _ _ hk wf h1 h2
        unfold Oper.wp
        have hr' : (execOp a.eval ⟨some d, .call c, type, pos, after, guard⟩).run P g.w = .ok (.value v) g'.w := by simp [execOp, resolve, hce, invoke, builtin, ha, hty, hr]
        rw [hr']
        exact hn g' _ hk' hwf he hrep
      · exact hc.elim
    · rename_i f hce
      rcases hc with ⟨r, ⟨hf, hcall⟩, hK⟩ | ⟨tmp, bxs, ins, vs, r, h', hpc, hbx, hin, hnd, hv, hok, hfl, hfb, htm, hK⟩
      · refine ⟨r, σ.h, hK, fun g0 pk g a hk wf hρ next Q hn => ?_⟩
        have hfv : a.eval (.func f) = .func (.func f) #[] #[] := rfl
        have hall : All2 (RepPV g σ.h) (c.args.toList.map σ.ev) (c.args.map a.eval).toList := by
          rw [Array.toList_map]
          exact all2_args _ fun x hx => hρ x (by simp only [Op.operands, Call.operands]; simp; exact .inr (by simpa using hx))
        unfold Oper.wp
        rw [call_exec hf a.eval _ c rfl hce hfv]
        refine (hcall g0 pk g (c.args.map a.eval) hk wf hall).mono fun e w' he => ?_
        obtain ⟨g', v, rfl, rfl, h1, h2, h3⟩ := he
        exact hn g' v h1 (wf.ext h2) h2 h3
      · refine ⟨r, _, hK, fun g0 pk g a hk wf hρ next Q hn => ?_⟩
        have hfv : a.eval (.func f) = .func (.func f) #[] #[] := rfl
        have hall : All2 (RepPV g σ.h) (c.args.toList.map σ.ev) (c.args.map a.eval).toList := by
          rw [Array.toList_map]
          exact all2_args _ fun x hx => hρ x (by simp only [Op.operands, Call.operands]; simp; exact .inr (by simpa using hx))
        unfold Oper.wp
        rw [call_exec hpc.1 a.eval _ c rfl hce hfv]
        refine (callG_ok tmp hpc hbx hin hnd hv hok hfl hfb htm hk wf hall).mono fun e w' he => ?_
        obtain ⟨g', v, rfl, rfl, h1, h2, h3, h4⟩ := he
        exact hn g' v h1 h2 h3 h4
    · rename_i h1 h2
      exfalso
      simp only [isEff] at he
      first
        | cases he
        | (split at he
           · rename_i f hf; exact h2 f hf
           · rename_i hf; exact h1 hf
           · cases he)
  all_goals (simp [isEff] at he)

/-! ### new blocks -/
theorem new_ex {P : Program} {σ : St} {o : Oper} {K : St → Prop} (ha : isNew o.op = true) (hc : opK P o.op o.dst σ K) : ∃ pv h' arr ty val, K ({ σ with h := h' }.put o.dst pv) ∧ FlY P σ.h o pv h' arr ty val := by
  obtain ⟨dst, op, type, pos, after, guard⟩ := o
  cases op <;> simp only [isNew, Bool.false_eq_true] at ha
  case alloc t =>
    simp only [opK] at hc
    obtain ⟨zs, hzs, hc⟩ := optK_ex hc
    obtain ⟨d, hd, ⟨hone, hdk⟩, hK⟩ := optK_ex hc
    subst hd
    unfold zeroCs at hzs
    split at hzs
    · rename_i i hi
      cases hz : i.zero with
      | none => simp [hz] at hzs
      | some z =>
        simp [hz] at hzs
        subst hzs
        refine ⟨_, _, z.cells, some t, fun b => .pointer (some ⟨b, 0, none⟩), hK, fun ρ w => ?_, fun g0 pk g b hk wf l => ?_⟩
        · simp [execOp, Instr.alloc, newVar, newRow, zeroValue, typeInfo, hi, hz, obOf]
        · obtain ⟨g', h1, h2, h3, h4, h5, h6⟩ := l.land hk hdk (cs := z.cells.toList.map .v) (All2.of_v _) (List.all_eq_true.1 hone)
          exact ⟨g', h1, h4, ⟨fun id lo hm => by rw [h3]; exact wf.ov id lo hm, wf.nd⟩, h5, ⟨⟨_, List.mem_cons_self ..⟩, by rw [h2]⟩, h6⟩
    · cases hzs
  case buildSlice t n parts =>
    simp only [Bool.and_eq_true, beq_iff_eq, List.isEmpty_iff] at ha
    obtain ⟨hn, hp⟩ := ha
    subst hn
    simp only [opK, hp] at hc
    obtain ⟨d, hd, hc2⟩ := optK_ex hc
    subst hd
    obtain ⟨ei, hei, hc3⟩ := optK_ex hc2
    obtain ⟨xs, hxs, ⟨hseq, hlen, hall, hone, hpos, hle, hdk⟩, hK⟩ := optK_ex hc3
    obtain rfl := List.eq_nil_of_length_eq_zero hlen
    have hpe : parts = #[] := by apply Array.ext'; simpa using hp
    subst hpe
    refine ⟨_, _, #[], some ei.1, fun b => .slice (some ⟨b, 0, none⟩) 0 0, hK, fun ρ w => ?_, fun g0 pk g b hk wf l => ?_⟩
    · obtain ⟨hrun, _⟩ := bs_run (parts := #[]) (xs := []) (ρ := σ.ev) hei hxs (by rfl) (by simp) hpos (by simp) (g := ⟨w, fun _ _ => False, fun _ => 0, fun _ => undef, fun _ _ => False⟩) (h := ⟨[], []⟩) ρ (by simp)
      simp only [List.length_nil, flat, List.flatMap_nil] at hrun
      have hrun' : (Instr.buildSlice t 0 #[]).run P w = .ok (.slice (some ⟨w.heap.size, 0, none⟩) 0 0) (w.alloc (.cells #[] ei.1)) := by simpa using hrun
      simp [execOp, hrun', obOf]
    · obtain ⟨g', h1, h2, h3, h4, h5, h6⟩ := l.landL hk wf hdk hpos
      exact ⟨g', h1, h3, h4, h5, ⟨⟨_, List.mem_cons_self ..⟩, h2.symm⟩, h6⟩
theorem new_eff {o : Op} (h : isNew o = true) : isEff o = true := by
  cases o <;> simp only [isNew, Bool.false_eq_true] at h
  case alloc => rfl
  case buildSlice t n ps =>
    simp only [Bool.and_eq_true] at h
    exact h.1
theorem new_y {P : Program} {h : Hp} {ρ : Operand → PV} {o : Oper} {v : PV} {h' : Hp} {arr : Array Value} {ty : Option TypeId} {val : Nat → Value} (hf : FlY P h o v h' arr ty val) : EYields P h ρ o v h' := by
  intro g0 pk g a hk wf hρ next Q hn
  obtain ⟨g1, hw1, hk1, he1, hl1, _⟩ := hk.newLone arr ty
  obtain ⟨g2, hw2, hk2, wf2, he2, hr2, _⟩ := hf.2 g0 pk g1 _ hk1 (wf.ext he1) hl1
  unfold Oper.wp
  rw [hf.1 a.eval g.w, ← hw1, ← hw2]
  exact hn g2 _ hk2 wf2 (he1.trans he2) hr2
theorem opF_ex {P : Program} {σ : St} {o : Oper} {K : St → Prop} (he : isEff o.op = true) (hc : opK P o.op o.dst σ K) : ∃ pv h', K ({ σ with h := h' }.put o.dst pv) ∧ EYields P σ.h σ.ev o pv h' ∧ (isNew o.op = true → ∃ arr ty val, FlY P σ.h o pv h' arr ty val) := by
  by_cases ha : isNew o.op = true
  · obtain ⟨pv, h', arr, ty, val, h1, h2⟩ := new_ex ha hc
    exact ⟨pv, h', h1, new_y h2, fun _ => ⟨arr, ty, val, h2⟩⟩
  · obtain ⟨pv, h', h1, h2⟩ := opE_ex he hc
    exact ⟨pv, h', h1, h2, fun h => absurd h ha⟩

/-! ### operations that no memory bears on -/
def isSens : Op → Bool
  | .move _ => false
  | .assign _ => false
  | .pick .. => false
  | .binOp .. => false
  | .extract .. => false
  | .field .. => false
  | .fieldAddr .. => false
  | .slice .. => false
  | _ => true
theorem binV_det {P : Program} {op : BinOp} {t : TypeId} {x y : V1} {K : Value → Prop} (h : binV P op t x y K) : ∃ v, K v ∧ binV P op t x y (fun u => u = v) := by
  have pb : ∀ x y, PureB P op t x y K → ∃ v, K v ∧ PureB P op t x y (fun u => u = v) := fun x y ⟨vx, vy, v, h1, h2, h3, h4⟩ => ⟨v, h4, vx, vy, v, h1, h2, h3, rfl⟩
  unfold binV at h ⊢
  split at h
  · unfold binC at h ⊢
    split at h
    · rename_i k a k' b
      split at h
      · rename_i hs
        obtain ⟨v, h1, h2⟩ : ∃ v, K v ∧ shI op k a b (fun u => u = v) := by
          cases op <;> simp only [shI] at h ⊢ <;> first | exact h.elim | exact ⟨_, h.2, h.1, rfl⟩
        exact ⟨v, h1, by simp only [hs, if_true]; exact h2⟩
      · rename_i hs
        obtain ⟨hk, h⟩ := h
        obtain ⟨v, h1, h2⟩ : ∃ v, K v ∧ binI op k a b (fun u => u = v) := by
          cases op <;> simp only [binI] at h ⊢ <;> first | exact h.elim | exact ⟨_, h.2, h.1, rfl⟩ | exact ⟨_, h, rfl⟩
        exact ⟨v, h1, by simp only [hs]; exact ⟨hk, h2⟩⟩
    · obtain ⟨hk, h⟩ := h
      rename_i a b
      obtain ⟨v, h1, h2⟩ : ∃ v, K v ∧ boolI op a b (fun u => u = v) := by
        cases op <;> simp only [boolI] at h ⊢ <;> first | exact h.elim | exact ⟨_, h, rfl⟩
      exact ⟨v, h1, hk, h2⟩
    · rename_i a b
      obtain ⟨v, h1, h2⟩ : ∃ v, K v ∧ strI op a b (fun u => u = v) := by
        cases op <;> simp only [strI] at h ⊢ <;> first | exact h.elim | exact ⟨_, h.2, h.1, rfl⟩ | exact ⟨_, h, rfl⟩
      exact ⟨v, h1, h2⟩
    · rename_i n1 n2 n3
      obtain ⟨v, h1, h2⟩ := pb _ _ h
      exact ⟨v, h1, h2⟩
  · exact pb _ _ h
theorem loadC_det {n : Option Nat} {cs : List C} {off : Nat} {K : PV → Prop} (h : loadC n cs off K) : ∃ v, K v ∧ loadC n cs off (fun u => u = v) := by
  cases n with
  | none => obtain ⟨c, hc, h⟩ := optK_ex h; exact ⟨_, h, by simp only [loadC, hc]; rfl⟩
  | some n => exact ⟨_, h.2, h.1, rfl⟩
theorem opD_det {P : Program} {h : Hp} {ρ : Operand → PV} {op : Op} {K : PV → Prop} (hs : isSens op = false) (hc : opD P h ρ op K) : ∃ v, K v ∧ ∀ h', opD P h' ρ op (fun u => u = v) := by
  cases op <;> simp only [isSens, Bool.true_eq_false] at hs
  case move x => exact ⟨_, hc, fun _ => rfl⟩
  case assign x => exact ⟨_, hc, fun _ => rfl⟩
  case pick c a b =>
    obtain ⟨y, hy, hc⟩ := c1K_ex (show c1K (ρ c) _ from hc)
    unfold pickK at hc
    split at hc
    · rename_i t
      cases t with
      | true => exact ⟨ρ a, hc.1 rfl, fun h' => by simp only [opD, opA, hy, c1K, pickK]; simp⟩
      | false => exact ⟨ρ b, hc.2 rfl, fun h' => by simp only [opD, opA, hy, c1K, pickK]; simp⟩
    · exact hc.elim
  case binOp op t x y t' =>
    obtain ⟨a, ha, hc⟩ := v1K_ex (show v1K (ρ x) _ from hc)
    obtain ⟨b, hb, hc⟩ := v1K_ex hc
    obtain ⟨v, h1, h2⟩ := binV_det hc
    refine ⟨vV v, h1, fun h' => ?_⟩
    have hm : ∀ {K1 K2 : Value → Prop}, (∀ u, K1 u → K2 u) → binV P op t a b K1 → binV P op t a b K2 := by
      intro K1 K2 hk h3
      obtain ⟨u, h4, h5⟩ := binV_det h3
      have e : K2 = fun w => K2 w := rfl
      have : ∀ {K : Value → Prop}, K u → binV P op t a b (fun w => w = u) → binV P op t a b K := by
        intro K hK h6
        clear h3 h4 h5 h1 h2 hk
        have pb : ∀ x y, PureB P op t x y (fun w => w = u) → PureB P op t x y K := fun x y ⟨vx, vy, v, h1, h2, h3, h4⟩ => ⟨vx, vy, v, h1, h2, h3, by rw [h4]; exact hK⟩
        unfold binV at h6 ⊢
        split at h6
        · unfold binC at h6 ⊢
          split at h6
          · split at h6
            · rename_i hs
              simp only [hs, if_true]
              cases op <;> simp only [shI] at h6 ⊢ <;> first | exact h6.elim | exact ⟨h6.1, by rw [h6.2]; exact hK⟩
            · rename_i hs
              simp only [hs]
              refine ⟨h6.1, ?_⟩
              have h6 := h6.2
              cases op <;> simp only [binI] at h6 ⊢ <;> first | exact h6.elim | exact ⟨h6.1, by rw [h6.2]; exact hK⟩ | (rw [h6]; exact hK)
          · refine ⟨h6.1, ?_⟩
            have h6 := h6.2
            cases op <;> simp only [boolI] at h6 ⊢ <;> first | exact h6.elim | (rw [h6]; exact hK)
          · cases op <;> simp only [strI] at h6 ⊢ <;> first | exact h6.elim | exact ⟨h6.1, by rw [h6.2]; exact hK⟩ | (rw [h6]; exact hK)
          · exact pb _ _ h6
        · exact pb _ _ h6
      exact this (hk u h4) h5
    simp only [opD, opA, ha, hb, v1K]
    exact hm (fun u hu => by rw [hu]) h2
  case extract x i =>
    simp only [opD, opA] at hc ⊢
    split at hc
    · rename_i xs hx
      obtain ⟨y, hy, hK⟩ := optK_ex hc
      exact ⟨_, hK, fun _ => by simp only [hy]; rfl⟩
    · exact hc.elim
  case field t x f =>
    obtain ⟨a, ha, hc⟩ := v1K_ex (show v1K (ρ x) _ from hc)
    obtain ⟨fp, hf, hc⟩ := optK_ex hc
    unfold fieldV at hc
    split at hc
    · obtain ⟨v, h1, h2⟩ := loadC_det hc
      exact ⟨v, h1, fun _ => by simp only [opD, opA, ha, hf, v1K]; exact h2⟩
    · exact hc.elim
  case fieldAddr t x f =>
    obtain ⟨a, ha, hc⟩ := c1K_ex (show c1K (ρ x) _ from hc)
    obtain ⟨fo, hf, hc⟩ := optK_ex hc
    unfold fieldP at hc
    split at hc
    · exact ⟨_, hc.2, fun _ => by simp only [opD, opA, ha, hf, c1K]; exact ⟨hc.1, rfl⟩⟩
    · exact ⟨_, hc.2, fun _ => by simp only [opD, opA, ha, hf, c1K]; exact ⟨hc.1, rfl⟩⟩
    · exact ⟨_, hc.2, fun _ => by simp only [opD, opA, ha, hf, c1K]; exact ⟨hc.1, rfl⟩⟩
    · exact hc.elim
  case slice t x lo hi mx =>
    obtain ⟨hmx, hc⟩ := (show mx.isNone = true ∧ c1K (ρ x) _ from hc)
    obtain ⟨a, ha, hc⟩ := c1K_ex hc
    unfold sliceD at hc
    split at hc
    · rename_i s lo' hi' K' hu hlo hhi
      obtain ⟨b, hb, _, hb2⟩ := hiK_ex hc
      obtain ⟨c, hc2, hc3⟩ := loK_ex hb
      refine ⟨_, hc2.2, fun h' => ⟨hmx, ?_⟩⟩
      simp only [ha, c1K, hu, sliceD]
      rcases hb2 with ⟨e1, e2⟩ | ⟨k, n, e1, e2, e3⟩ <;> rcases hc3 with ⟨f1, f2⟩ | ⟨k', n', f1, f2, f3⟩ <;> simp only [e1, f1, hiK, loK] <;> subst_vars <;> simp_all <;> omega
    · rename_i sz xs lo' hi' K' hu hlo hhi
      obtain ⟨he, hc⟩ := hc
      obtain ⟨b, hb, _, hb2⟩ := hiK_ex hc
      obtain ⟨c, hc2, hc3⟩ := loK_ex hb
      refine ⟨_, hc2.2, fun h' => ⟨hmx, ?_⟩⟩
      simp only [ha, c1K, hu, sliceD]
      refine ⟨he, ?_⟩
      rcases hb2 with ⟨e1, e2⟩ | ⟨k, n, e1, e2, e3⟩ <;> rcases hc3 with ⟨f1, f2⟩ | ⟨k', n', f1, f2, f3⟩ <;> simp only [e1, f1, hiK, loK] <;> subst_vars <;> simp_all <;> omega
    · exact hc.elim

/-! ### the region in the order of the text; what is read is noted, to be read again in every memory of the region -/
/-- what the operation reads is there -/
def opKey (h : Hp) (ρ : Operand → PV) : Op → Bool
  | .load _ x => keyPV h (ρ x)
  | .indexAddr _ x _ => keyPV h (ρ x)
  | .call c => c.args.toList.all fun x => keyPV h (ρ x)
  | _ => true
theorem repC_key {g : Gh} {h : Hp} {x : C} {u : Value} (hr : RepC g h x u) : keyC h x = true := by
  cases x with
  | o id => obtain ⟨⟨lo, hm⟩, _⟩ := hr; exact hasKey_of_mem hm
  | p id off => obtain ⟨⟨lo, hm⟩, _⟩ := hr; exact hasKey_of_mem hm
  | e id sz idx off => obtain ⟨⟨lo, hm⟩, _⟩ := hr; exact hasKey_of_mem hm
  | sb id n cap => obtain ⟨⟨lo, hm⟩, _⟩ := hr; exact hasKey_of_mem hm
  | _ => rfl
theorem all2_key {α β : Type} {R : α → β → Prop} {q : α → Bool} (h : ∀ x y, R x y → q x = true) : ∀ {l : List α} {m : List β}, All2 R l m → l.all q = true
  | [], [], _ => rfl
  | x :: l, y :: m, ⟨h1, h2⟩ => by simp only [List.all_cons, h x y h1, all2_key h h2, Bool.and_self]
  | [], _ :: _, h => h.elim
  | _ :: _, [], h => h.elim
theorem repV1_key {g : Gh} {h : Hp} {x : V1} {u : Value} (hr : RepV1 g h x u) : keyV1 h x = true := by
  cases x with
  | c x => exact repC_key hr
  | a xs => obtain ⟨cs, _, h2⟩ := hr; exact all2_key (R := RepC g h) (fun _ _ hr => repC_key hr) h2
theorem repPV_key {g : Gh} {h : Hp} {x : PV} {u : Value} (hr : RepPV g h x u) : keyPV h x = true := by
  cases x with
  | s x => exact repV1_key hr
  | t xs => obtain ⟨cs, _, h2⟩ := hr; exact all2_key (R := RepV1 g h) (fun _ _ hr => repV1_key hr) h2
theorem opKey_y {P : Program} {h : Hp} {ρ : Operand → PV} {o : Oper} {pv : PV} (hk : opKey h ρ o.op = false) : DYields P h ρ o pv := by
  intro g0 pk g a _ _ hρ next Q _
  exfalso
  cases ho : o.op <;> rw [ho] at hk hρ <;> simp only [opKey, Bool.true_eq_false] at hk
  case load t x => rw [repPV_key (hρ x (by simp [Op.operands]))] at hk; cases hk
  case indexAddr t x y => rw [repPV_key (hρ x (by simp [Op.operands]))] at hk; cases hk
  case call c =>
    have : (c.args.toList.all fun x => keyPV h (ρ x)) = true := List.all_eq_true.2 fun x hx => repPV_key (hρ x (by simp only [Op.operands, Call.operands]; simp; exact .inr (by simpa using hx)))
    rw [this] at hk; cases hk
def oblO (P : Program) (h : Hp) (ρ : Operand → PV) (op : Op) (pv : PV) : Prop := if opKey h ρ op = true then opD P h ρ op (fun u => u = pv) else True
theorem oblO_y {P : Program} {h : Hp} {ρ : Operand → PV} {o : Oper} {pv : PV} (hfu : ∀ f, ρ (.func f) = vV (.func (.func f) #[] #[])) (hc : oblO P h ρ o.op pv) : DYields P h ρ o pv := by
  unfold oblO at hc
  split at hc
  · obtain ⟨pv', e, hy'⟩ := opD_sound hfu hc
    rw [← e]; exact hy'
  · rename_i hk
    exact opKey_y (by simpa using hk)
def oblA (P : Program) (σ : St) (op : Op) (pv : PV) : List Hp → Prop
  | [] => True
  | h :: hs => oblO P h σ.ev op pv ∧ oblA P σ op pv hs
def oblP (P : Program) (hs : List Hp) : List (St × Op × PV) → Prop
  | [] => True
  | (σ, op, pv) :: r => oblA P σ op pv hs ∧ oblP P hs r
theorem oblA_mem {P : Program} {σ : St} {op : Op} {pv : PV} : ∀ {hs : List Hp}, oblA P σ op pv hs → ∀ h ∈ hs, oblO P h σ.ev op pv
  | h :: hs, ⟨h1, h2⟩, k, hk => by
    rcases List.mem_cons.1 hk with rfl | hk
    · exact h1
    · exact oblA_mem h2 k hk
theorem oblP_mem {P : Program} {hs : List Hp} {acc : List (St × Op × PV)} (ho : oblP P hs acc) : ∀ σ op pv, (σ, op, pv) ∈ acc → ∀ h ∈ hs, oblO P h σ.ev op pv := by
  induction acc with
  | nil => intro σ op pv hq; cases hq
  | cons x r ih =>
    intro σ' op' pv' hq h hh
    obtain ⟨σ, op, pv⟩ := x
    have ho' : oblA P σ op pv hs ∧ oblP P hs r := ho
    rcases List.mem_cons.1 hq with hq | hq
    · have e1 := (Prod.mk.inj hq).1
      have e2 := (Prod.mk.inj (Prod.mk.inj hq).2).1
      have e3 := (Prod.mk.inj (Prod.mk.inj hq).2).2
      subst e1 e2 e3
      exact oblA_mem ho'.1 h hh
    · exact ih ho'.2 σ' op' pv' hq h hh
def finY (P : Program) (strict : Bool) (acc : List (St × Op × PV)) (hs : List Hp) (σ : St) (K : St → Prop) : Prop := (if strict = true then True else oblP P (σ.h :: hs) acc) ∧ K σ
def opsY (P : Program) (ops : Array Oper) (strict : Bool) : List Oper → List (St × Op × PV) → List Hp → (St → Prop) → St → Prop
  | [], acc, hs, K, σ => finY P strict acc hs σ K
  | o :: rest, acc, hs, K, σ => match o.guard with
    | none => if isEff o.op = true then opK P o.op o.dst σ (opsY P ops strict rest acc (σ.h :: hs) K)
        else if isSens o.op = true then opD P σ.h σ.ev o.op (fun pv => opsY P ops strict rest ((σ, o.op, pv) :: acc) hs K (σ.put o.dst pv))
        else opD P σ.h σ.ev o.op (fun pv => opsY P ops strict rest acc hs K (σ.put o.dst pv))
    | some (j, want) => guardK (gv ops σ j) want
        (if isEff o.op = true then opK P o.op o.dst σ (opsY P ops strict rest acc (σ.h :: hs) K)
        else if isSens o.op = true then opD P σ.h σ.ev o.op (fun pv => opsY P ops strict rest ((σ, o.op, pv) :: acc) hs K (σ.put o.dst pv))
        else opD P σ.h σ.ev o.op (fun pv => opsY P ops strict rest acc hs K (σ.put o.dst pv)))
        (opsY P ops strict rest acc hs K (σ.put o.dst uV))

/-- one operation in the order of the text: at the memory h, to the memory h'; a reading one in every memory of HS -/
def RunY (P : Program) (HS : Hp → Prop) (h : Hp) (σ : St) (o : Oper) (v : PV) (h' : Hp) : Prop :=
  if isEff o.op = true then EYields P h σ.ev o v h' ∧ (isNew o.op = true → ∃ arr ty val, FlY P h o v h' arr ty val) else h' = h ∧ DYields P h σ.ev o v ∧ ∀ k, HS k → DYields P k σ.ev o v
def StepY (P : Program) (ops : Array Oper) (HS : Hp → Prop) (h : Hp) (σ : St) (o : Oper) (v : PV) (h' : Hp) : Prop :=
  match o.guard with
  | none => RunY P HS h σ o v h'
  | some (j, want) => (∃ t, gv ops σ j = vB t ∧ ((t = want ∧ RunY P HS h σ o v h') ∨ (t ≠ want ∧ v = uV ∧ h' = h))) ∨ (∃ vs, gv ops σ j = vV (.tuple vs) ∧ v = uV ∧ h' = h)
def StepsY (P : Program) (ops : Array Oper) (HS : Hp → Prop) : St → List Oper → List PV → List Hp → Prop
  | σ, o :: l, v :: vs, h :: hs => StepY P ops HS σ.h σ o v h ∧ StepsY P ops HS ({ σ with h := h }.put o.dst v) l vs hs
  | _, [], [], [] => True
  | _, _, _, _ => False
def endH (h : Hp) : List Hp → Hp
  | [] => h
  | h' :: hs => endH h' hs
theorem put_setH (σ : St) (h : Hp) (d : Option Nat) (v : PV) : ({ σ with h := h } : St).put d v = { σ.put d v with h := h } := by cases d <;> rfl
theorem puts_setH : ∀ (l : List Oper) (vs : List PV) (σ : St) (h : Hp), puts { σ with h := h } l vs = { puts σ l vs with h := h }
  | [], vs, σ, h => by cases vs <;> rfl
  | o :: l, [], σ, h => rfl
  | o :: l, v :: vs, σ, h => by simp only [puts, put_setH]; exact puts_setH l vs _ h
theorem opsY_ex {P : Program} {ops : Array Oper} {strict : Bool} {K : St → Prop} : ∀ (l : List Oper) (acc : List (St × Op × PV)) (hs0 : List Hp) (σ : St), opsY P ops strict l acc hs0 K σ →
    ∃ vs hs, StepsY P ops (fun k => strict = false ∧ (k ∈ σ.h :: hs ∨ k ∈ hs0)) σ l vs hs ∧ K { puts σ l vs with h := endH σ.h hs } ∧ (strict = false → ∀ σ' op pv, (σ', op, pv) ∈ acc → ∀ k, (k ∈ σ.h :: hs ∨ k ∈ hs0) → oblO P k σ'.ev op pv)
  | [], acc, hs0, σ, h => ⟨[], [], trivial, h.2, fun hst σ' op pv hq k hk => by
      have h1 := h.1
      rw [hst] at h1
      simp only [Bool.false_eq_true, if_false] at h1
      exact oblP_mem h1 σ' op pv hq k (by simpa using hk)⟩
  | o :: l, acc, hs0, σ, h => by
    have run : (if isEff o.op = true then opK P o.op o.dst σ (opsY P ops strict l acc (σ.h :: hs0) K)
        else if isSens o.op = true then opD P σ.h σ.ev o.op (fun pv => opsY P ops strict l ((σ, o.op, pv) :: acc) hs0 K (σ.put o.dst pv))
        else opD P σ.h σ.ev o.op (fun pv => opsY P ops strict l acc hs0 K (σ.put o.dst pv))) →
        ∃ v h' vs hs, RunY P (fun k => strict = false ∧ (k ∈ σ.h :: h' :: hs ∨ k ∈ hs0)) σ.h σ o v h' ∧ StepsY P ops (fun k => strict = false ∧ (k ∈ σ.h :: h' :: hs ∨ k ∈ hs0)) ({ σ with h := h' }.put o.dst v) l vs hs ∧ K { puts ({ σ with h := h' }.put o.dst v) l vs with h := endH h' hs } ∧
          (strict = false → ∀ σ' op pv, (σ', op, pv) ∈ acc → ∀ k, (k ∈ σ.h :: h' :: hs ∨ k ∈ hs0) → oblO P k σ'.ev op pv) := by
      intro h
      split at h
      · rename_i he
        obtain ⟨pv, h', hK, hy, hal⟩ := opF_ex he h
        obtain ⟨vs, hs, h1, h2, h3⟩ := opsY_ex l acc _ _ hK
        have e1 : (({ σ with h := h' } : St).put o.dst pv).h = h' := put_h _ _ _
        rw [e1] at h1 h2 h3
        have hiff : ∀ k, (k ∈ h' :: hs ∨ k ∈ σ.h :: hs0) ↔ (k ∈ σ.h :: h' :: hs ∨ k ∈ hs0) := fun k => by
          simp only [List.mem_cons]
          constructor
          · rintro ((h | h) | h | h) <;> simp [h]
          · rintro ((h | h | h) | h) <;> simp [h]
        simp only [hiff] at h1 h3
        exact ⟨pv, h', vs, hs, by simp only [RunY, he, if_true]; exact ⟨hy, hal⟩, h1, h2, h3⟩
      · rename_i he
        split at h
        · obtain ⟨pv, hK, hy⟩ := opD_sound (fun f => rfl) h
          obtain ⟨vs, hs, h1, h2, h3⟩ := opsY_ex l _ _ _ hK
          rw [put_h] at h1 h2 h3
          have hiff : ∀ k, (k ∈ σ.h :: hs ∨ k ∈ hs0) ↔ (k ∈ σ.h :: σ.h :: hs ∨ k ∈ hs0) := fun k => by simp
          simp only [hiff] at h1 h3
          refine ⟨pv, σ.h, vs, hs, ?_, h1, h2, fun hst σ' op pv hq => h3 hst σ' op pv (List.mem_cons_of_mem _ hq)⟩
          simp only [RunY, he]
          refine ⟨trivial, hy, fun k hk => ?_⟩
          exact oblO_y (fun f => rfl) (h3 hk.1 σ o.op pv (by simp) k hk.2)
        · rename_i hs
          have hs' : isSens o.op = false := by simpa using hs
          obtain ⟨pv, hK, hall⟩ := opD_det hs' h
          obtain ⟨vs, hs, h1, h2, h3⟩ := opsY_ex l _ _ _ hK
          rw [put_h] at h1 h2 h3
          have hiff : ∀ k, (k ∈ σ.h :: hs ∨ k ∈ hs0) ↔ (k ∈ σ.h :: σ.h :: hs ∨ k ∈ hs0) := fun k => by simp
          simp only [hiff] at h1 h3
          have hy : ∀ k, DYields P k σ.ev o pv := fun k => by
            obtain ⟨pv', e, hy'⟩ := opD_sound (o := o) (fun f => rfl) (hall k)
            rw [← e]; exact hy'
          refine ⟨pv, σ.h, vs, hs, ?_, h1, h2, h3⟩
          simp only [RunY, he]
          exact ⟨trivial, hy _, fun k _ => hy k⟩
    have skip : opsY P ops strict l acc hs0 K (σ.put o.dst uV) → ∃ vs hs, StepsY P ops (fun k => strict = false ∧ (k ∈ σ.h :: σ.h :: hs ∨ k ∈ hs0)) (σ.put o.dst uV) l vs hs ∧ K { puts (σ.put o.dst uV) l vs with h := endH σ.h hs } ∧
          (strict = false → ∀ σ' op pv, (σ', op, pv) ∈ acc → ∀ k, (k ∈ σ.h :: σ.h :: hs ∨ k ∈ hs0) → oblO P k σ'.ev op pv) := by
      intro h
      obtain ⟨vs, hs, h1, h2, h3⟩ := opsY_ex l _ _ _ h
      rw [put_h] at h1 h2 h3
      have hiff : ∀ k, (k ∈ σ.h :: hs ∨ k ∈ hs0) ↔ (k ∈ σ.h :: σ.h :: hs ∨ k ∈ hs0) := fun k => by simp
      simp only [hiff] at h1 h3
      exact ⟨vs, hs, h1, h2, h3⟩
    unfold opsY at h
    cases hg : o.guard with
    | none =>
      simp only [hg] at h
      obtain ⟨v, h', vs, hs, h1, h2, h3, h4⟩ := run h
      exact ⟨v :: vs, h' :: hs, ⟨by simp only [StepY, hg]; exact h1, h2⟩, by simpa [puts, endH, put_setH, puts_setH] using h3, h4⟩
    | some jw =>
      obtain ⟨j, want⟩ := jw
      simp only [hg] at h
      rcases guardK_cases h with ⟨t, hgv, ⟨ht, h⟩ | ⟨ht, h⟩⟩ | ⟨us, hgv, h⟩
      · obtain ⟨v, h', vs, hs, h1, h2, h3, h4⟩ := run h
        exact ⟨v :: vs, h' :: hs, ⟨by simp only [StepY, hg]; exact .inl ⟨t, hgv, .inl ⟨ht, h1⟩⟩, h2⟩, by simpa [puts, endH, put_setH, puts_setH] using h3, h4⟩
      · obtain ⟨vs, hs, h2, h3, h4⟩ := skip h
        exact ⟨uV :: vs, σ.h :: hs, ⟨by simp only [StepY, hg]; exact .inl ⟨t, hgv, .inr ⟨ht, trivial, trivial⟩⟩, h2⟩, by simpa [puts, endH] using h3, h4⟩
      · obtain ⟨vs, hs, h2, h3, h4⟩ := skip h
        exact ⟨uV :: vs, σ.h :: hs, ⟨by simp only [StepY, hg]; exact .inr ⟨us, hgv, trivial, trivial⟩, h2⟩, by simpa [puts, endH] using h3, h4⟩

/-- the memory ahead of operation number i -/
def hAt (h : Hp) (hs : List Hp) : Nat → Hp
  | 0 => h
  | i + 1 => (hs[i]?).getD h
theorem endH_at : ∀ (hs : List Hp) (h : Hp), endH h hs = hAt h hs hs.length
  | [], h => rfl
  | h' :: hs, h => by
    rw [endH, endH_at hs h']
    cases hs with
    | nil => rfl
    | cons x r => simp [hAt]
theorem gv_setH {ops : Array Oper} {σ : St} {h : Hp} {j : Nat} : gv ops { σ with h := h } j = gv ops σ j := by unfold gv; cases (ops[j]?).bind (·.dst) <;> rfl
theorem ev_setH {σ : St} {h : Hp} : ({ σ with h := h } : St).ev = σ.ev := by funext x; cases x <;> rfl
theorem StepY.setH {P : Program} {ops : Array Oper} {HS : Hp → Prop} {h k h' : Hp} {σ : St} {o : Oper} {v : PV} (hy : StepY P ops HS h { σ with h := k } o v h') : StepY P ops HS h σ o v h' := by
  unfold StepY RunY at *
  simp only [gv_setH, ev_setH] at hy
  exact hy
theorem stepsY_at {P : Program} {ops : Array Oper} {HS : Hp → Prop} : ∀ {l : List Oper} {vs : List PV} {hs : List Hp} {σ : St}, StepsY P ops HS σ l vs hs →
    l.length = vs.length ∧ l.length = hs.length ∧ ∀ i o, l[i]? = some o → ∃ v, vs[i]? = some v ∧ StepY P ops HS (hAt σ.h hs i) (stAt σ l vs i) o v (hAt σ.h hs (i + 1))
  | [], [], [], σ, _ => ⟨rfl, rfl, fun i o h => by simp at h⟩
  | o :: l, v :: vs, h :: hs, σ, ⟨h1, h2⟩ => by
    obtain ⟨h3, h3', h4⟩ := stepsY_at h2
    refine ⟨by simp [h3], by simp [h3'], fun i o' ho => ?_⟩
    cases i with
    | zero => simp at ho; subst ho; exact ⟨v, by simp, by simpa [hAt, stAt, puts] using h1⟩
    | succ i =>
      obtain ⟨u, h5, h6⟩ := h4 i o' (by simpa using ho)
      refine ⟨u, by simpa using h5, ?_⟩
      have e1 : (({ σ with h := h } : St).put o.dst v).h = h := put_h _ _ _
      rw [e1] at h6
      have hlt : i < l.length := (List.getElem?_eq_some_iff.1 (by simpa using ho : l[i]? = some o')).1
      have e2 : hAt h hs i = hAt σ.h (h :: hs) (i + 1) := by
        cases i with
        | zero => simp [hAt]
        | succ i => simp [hAt, show i < hs.length by omega]
      have e3 : hAt h hs (i + 1) = hAt σ.h (h :: hs) (i + 1 + 1) := by simp [hAt, show i < hs.length by omega]
      rw [← e2, ← e3]
      have e4 : stAt (({ σ with h := h } : St).put o.dst v) l vs i = { stAt (σ.put o.dst v) l vs i with h := h } := by
        unfold stAt
        rw [put_setH, puts_setH]
      rw [e4] at h6
      have := h6.setH
      simpa [stAt, puts] using this
  | [], _ :: _, _, _, h => h.elim
  | [], [], _ :: _, _, h => h.elim
  | _ :: _, [], _, _, h => h.elim
  | _ :: _, _ :: _, [], _, h => h.elim

/-! ### the check -/
def effAt (ops : Array Oper) (i : Nat) : Bool := match ops[i]? with
  | some o => isEff o.op
  | none => false
/-- an operation that makes a new box or an empty list, unguarded, that only changing operations look at: it may come early -/
def flAt (ops : Array Oper) (j : Nat) : Bool := match ops[j]? with
  | some o => isNew o.op && o.guard.isNone && (List.range ops.size).all fun i => match ops[i]?, o.dst with
    | some oi, some t => isEff oi.op || !(oi.looksAt ops).contains t
    | _, _ => true
  | none => false
/-- the operation follows that of number i, by at most so many steps between them -/
def preB (ops : Array Oper) : Nat → Oper → Nat → Bool
  | 0, o, i => afterOn o i
  | n + 1, o, i => afterOn o i || (List.range ops.size).any fun k => afterOn o k && match ops[k]? with
    | some ok => preB ops n ok i
    | none => false
theorem preB_S {ops : Array Oper} {S : Nat → Prop} (hcl : ∀ (j : Nat) (oj : Oper), ops[j]? = some oj → S j → ∀ i, afterOn oj i = true → S i) : ∀ (n : Nat) (o : Oper) (i : Nat), (∀ i', afterOn o i' = true → S i') → preB ops n o i = true → S i
  | 0, o, i, h, hp => h i hp
  | n + 1, o, i, h, hp => by
    simp only [preB, Bool.or_eq_true] at hp
    rcases hp with hp | hp
    · exact h i hp
    · obtain ⟨k, _, hk⟩ := List.any_eq_true.1 hp
      simp only [Bool.and_eq_true] at hk
      cases hok : ops[k]? with
      | none => rw [hok] at hk; cases hk.2
      | some ok =>
        rw [hok] at hk
        exact preB_S hcl n ok i (fun i' hi' => hcl k ok hok (h k hk.1) i' hi') hk.2
/-- the changing operations follow one another; but for new ones, which only have to come before what follows them in the text -/
def chainOk (ops : Array Oper) : Bool :=
  (List.range ops.size).all fun j => !effAt ops j || flAt ops j || (List.range j).all fun i => !effAt ops i || match ops[j]? with
    | none => true
    | some oj => preB ops 2 oj i || (List.range j).any fun k => decide (i < k) && effAt ops k && !flAt ops k && preB ops 2 oj k
/-- every other operation stands at its place between them -/
def ordOk (ops : Array Oper) : Bool :=
  (List.range ops.size).all fun i => effAt ops i || (List.range ops.size).all fun j => !effAt ops j || match ops[i]?, ops[j]? with
    | some oi, some oj => if j < i then afterOn oi j else afterOn oj i
    | _, _ => true
def drawOkY (strict : Bool) (ops : Array Oper) : Bool := drawOk ops && chainOk ops && (!strict || ordOk ops)

/-- the last operation changes memory and comes behind all others -/
def lastOk (ops : Array Oper) : Bool := match ops[ops.size - 1]? with
  | some o => isEff o.op && (List.range (ops.size - 1)).all fun i => afterOn o i
  | none => false
theorem cK_drawG {P : Program} {pk : Pk} {id : Nat} {ops : Array Oper} {Q : Exit → St → Prop} {σ : St} (strict : Bool) (hm : P.follows .mixedOrders = true) (hok0 : drawOkY strict ops = true)
    {HS : Hp → Prop} {vs : List PV} {hs : List Hp} (hst : StepsY P ops HS σ ops.toList vs hs) (hK : Q .normal { puts σ ops.toList vs with h := endH σ.h hs })
    (hHSc : strict = false → ∀ c, c < ops.size → HS (hAt σ.h hs c)) (hlast : (strict = false → HS (hAt σ.h hs ops.size)) ∨ lastOk ops = true) : CodeW P pk (.region id ops true) Q σ := by
  intro g0 a w s
  simp only [drawOkY, Bool.and_eq_true] at hok0
  obtain ⟨⟨hok, hch⟩, hord⟩ := hok0
  obtain ⟨hlen, hlenh, hat⟩ := stepsY_at hst
  obtain ⟨hA, hB, hC⟩ := drawOk_spec hok
  rw [endH_at, ← hlenh] at hK
  have heff : ∀ i o, ops[i]? = some o → effAt ops i = isEff o.op := fun i o ho => by simp [effAt, ho]
  have hsame1 : ∀ i, effAt ops i = false → hAt σ.h hs (i + 1) = hAt σ.h hs i ∨ ops.size ≤ i := fun i hne => by
    rcases Nat.lt_or_ge i ops.size with hlt | hge
    · left
      have ho : ops[i]? = some ops[i] := Array.getElem?_eq_getElem hlt
      obtain ⟨v, _, hy⟩ := hat i ops[i] (by simp)
      rw [heff i _ ho] at hne
      unfold StepY RunY at hy
      simp only [hne] at hy
      split at hy
      · exact hy.1
      · rcases hy with ⟨t, _, ⟨_, h1⟩ | ⟨_, _, h1⟩⟩ | ⟨_, _, _, h1⟩
        · exact h1.1
        · exact h1
        · exact h1
    · exact .inr hge
  have hsame : ∀ d c, c + d ≤ ops.size → (∀ j, c ≤ j → j < c + d → effAt ops j = false) → hAt σ.h hs (c + d) = hAt σ.h hs c := by
    intro d
    induction d with
    | zero => intro c _ _; rfl
    | succ d ih =>
      intro c hle hne
      rcases hsame1 (c + d) (hne _ (by omega) (by omega)) with h1 | h1
      · rw [← Nat.add_assoc, h1]; exact ih c (by omega) fun j h1 h2 => hne j h1 (by omega)
      · omega
  have hsm : ∀ c d, c ≤ ops.size → d ≤ ops.size → (∀ j, c ≤ j → j < d → effAt ops j = false) → (∀ j, d ≤ j → j < c → effAt ops j = false) → hAt σ.h hs c = hAt σ.h hs d := by
    intro c d hc hd h1 h2
    rcases Nat.le_total c d with hle | hle
    · have := hsame (d - c) c (by omega) (fun j h3 h4 => h1 j h3 (by omega))
      rw [show c + (d - c) = d by omega] at this
      exact this.symm
    · have := hsame (c - d) d (by omega) (fun j h3 h4 => h2 j h3 (by omega))
      rw [show d + (c - d) = c by omega] at this
      exact this
  have hflo : ∀ (j : Nat) (o : Oper), ops[j]? = some o → flAt ops j = true → isNew o.op = true ∧ o.guard = none ∧ ∀ (i : Nat) (oi : Oper) (t : Nat), ops[i]? = some oi → o.dst = some t → t ∈ oi.looksAt ops → isEff oi.op = true := fun j o hj hf => by
    simp only [flAt, hj, Bool.and_eq_true] at hf
    refine ⟨hf.1.1, by simpa using hf.1.2, fun i oi t hi ht hl => ?_⟩
    have h1 := List.all_eq_true.1 hf.2 i (List.mem_range.2 (Array.getElem?_eq_some_iff.1 hi).1)
    simp only [hi, ht, Bool.or_eq_true, Bool.not_eq_true'] at h1
    rcases h1 with h1 | h1
    · exact h1
    · have : (oi.looksAt ops).contains t = true := by simpa using hl
      rw [this] at h1; cases h1
  have hfleff : ∀ j, flAt ops j = true → effAt ops j = true := fun j hf => by
    cases hj : ops[j]? with
    | none => simp [flAt, hj] at hf
    | some o =>
      rw [heff j o hj]
      exact new_eff (hflo j o hj hf).1
  have hchain : ∀ (S : Nat → Prop), (∀ j oj, ops[j]? = some oj → S j → ∀ i, afterOn oj i = true → S i) → ∀ j oj, ops[j]? = some oj → effAt ops j = true → flAt ops j = false → (∀ i, afterOn oj i = true → S i) → ∀ i, i < j → effAt ops i = true → S i := by
    intro S hcl j
    induction j using Nat.strongRecOn with
    | _ j ih =>
      intro oj hj hej hfj haf i hij hei
      have hjlt := (Array.getElem?_eq_some_iff.1 hj).1
      have h1 := List.all_eq_true.1 hch j (List.mem_range.2 hjlt)
      simp only [hej, hfj, Bool.not_true, Bool.false_or] at h1
      have h2 := List.all_eq_true.1 h1 i (List.mem_range.2 hij)
      simp only [hei, Bool.not_true, Bool.false_or, hj, Bool.or_eq_true] at h2
      rcases h2 with h2 | h2
      · exact preB_S hcl 2 oj i haf h2
      · obtain ⟨k, hk, h3⟩ := List.any_eq_true.1 h2
        simp only [Bool.and_eq_true, decide_eq_true_eq, Bool.not_eq_true'] at h3
        have hkj := List.mem_range.1 hk
        have hkS := preB_S hcl 2 oj k haf h3.2
        have hok : ops[k]? = some ops[k] := Array.getElem?_eq_getElem (by omega)
        exact ih k hkj ops[k] hok h3.1.1.2 h3.1.2 (fun i' hi' => hcl k _ hok hkS i' hi') i h3.1.1.1 hei
  have hop : ∀ i : Nat, ops.toList[i]? = ops[i]? := fun i => by simp
  let envOf : Array Bool → Nat → PV := fun listed t => match (List.range ops.size).find? (fun j => listed.getD j false && ((ops[j]?).bind (·.dst)) == some t) with
    | some j => (vs[j]?).getD (.s (.c .any))
    | none => σ.get t
  have env1 : ∀ (listed : Array Bool) (t j : Nat) (oj : Oper) (v : PV), ops[j]? = some oj → oj.dst = some t → listed.getD j false = true → vs[j]? = some v → envOf listed t = v := by
    intro listed t j oj v hj hd hl hv
    have hjm : j ∈ List.range ops.size := List.mem_range.2 (Array.getElem?_eq_some_iff.1 hj).1
    simp only [envOf]
    cases hf : (List.range ops.size).find? (fun j => listed.getD j false && ((ops[j]?).bind (·.dst)) == some t) with
    | none =>
      have := List.find?_eq_none.1 hf j hjm
      simp [hl, hj, hd] at this
    | some k =>
      have hk := List.find?_some hf
      simp only [Bool.and_eq_true, beq_iff_eq] at hk
      cases hok' : ops[k]? with
      | none => simp [hok'] at hk
      | some ok =>
        simp [hok'] at hk
        have := hB k j ok oj t hok' hj hk.2 hd
        subst this
        simp [hv]
  have env0 : ∀ (listed : Array Bool) (t : Nat), (∀ (j : Nat) (oj : Oper), ops[j]? = some oj → oj.dst = some t → listed.getD j false = false) → envOf listed t = σ.get t := by
    intro listed t hn
    simp only [envOf]
    cases hf : (List.range ops.size).find? (fun j => listed.getD j false && ((ops[j]?).bind (·.dst)) == some t) with
    | none => rfl
    | some k =>
      have hk := List.find?_some hf
      simp only [Bool.and_eq_true, beq_iff_eq] at hk
      cases hok' : ops[k]? with
      | none => simp [hok'] at hk
      | some ok =>
        simp [hok'] at hk
        simp [show listed[k]?.getD false = false by simpa using hn k ok hok' hk.2] at hk
  -- the slots that an operation looks at hold what they hold in the order of the text
  have agree : ∀ (listed : Array Bool) (i : Nat) (o : Oper), ops[i]? = some o → listed.getD i false = false → (∀ e ∈ o.after, Region.binds .any e = true → listed.getD e.on false = true) →
      (∀ (j : Nat) (oj : Oper), ops[j]? = some oj → listed.getD j false = true → ∀ e ∈ oj.after, Region.binds .any e = true → listed.getD e.on false = true) →
      ∀ t ∈ o.looksAt ops, t < σ.n → envOf listed t = (stAt σ ops.toList vs i).get t := by
    intro listed i o hi hun haft hcl t ht htn
    have hu : ∀ (p q : Nat) (oi oj : Oper), (ops.toList.take i)[p]? = some oi → (ops.toList.take i)[q]? = some oj → oi.dst = some t → oj.dst = some t → p = q := fun p q oi oj h1 h2 h3 h4 => by
      rw [List.getElem?_take] at h1 h2
      split at h1
      · split at h2
        · exact hB p q oi oj t (by rw [← hop]; exact h1) (by rw [← hop]; exact h2) h3 h4
        · cases h2
      · cases h1
    obtain ⟨g1, g2⟩ := get_puts (σ := σ) (t := t) (l := ops.toList.take i) (vs := vs.take i) (by simp only [List.length_take, hlen]) hu
    by_cases hex : ∃ (j : Nat) (oj : Oper), ops[j]? = some oj ∧ oj.dst = some t
    · obtain ⟨j, oj, hj, hd⟩ := hex
      obtain ⟨hne, hcase⟩ := hC i o t hi ht j oj hj hd
      rcases hcase with ⟨hlt, haf⟩ | ⟨hlt, haf⟩
      · have hlj : listed.getD j false = true := by
          unfold afterOn at haf
          obtain ⟨e, he', hbe⟩ := List.any_eq_true.1 haf
          have he : e ∈ o.after := by simpa using he'
          simp only [Bool.and_eq_true, beq_iff_eq] at hbe
          rw [← hbe.2]
          exact haft e he hbe.1
        obtain ⟨v, hv, _⟩ := hat j oj (by rw [hop]; exact hj)
        rw [env1 listed t j oj v hj hd hlj hv]
        exact (g1 j oj v (by rw [List.getElem?_take, if_pos hlt, hop]; exact hj) (by rw [List.getElem?_take, if_pos hlt]; exact hv) hd htn).symm
      · rw [env0 listed t fun k ok hk' hdk => ?_]
        · refine (g2 fun k ok h1 h2 => ?_).symm
          rw [List.getElem?_take] at h1
          split at h1
          · have := hB k j ok oj t (by rw [← hop]; exact h1) hj h2 hd
            omega
          · cases h1
        · have := hB k j ok oj t hk' hj hdk hd
          subst this
          cases hl : listed.getD k false with
          | false => rfl
          | true =>
            unfold afterOn at haf
            obtain ⟨e, he', hbe⟩ := List.any_eq_true.1 haf
            have he : e ∈ oj.after := by simpa using he'
            simp only [Bool.and_eq_true, beq_iff_eq] at hbe
            have := hcl k oj hj hl e he hbe.1
            rw [hbe.2, hun] at this
            cases this
    · rw [env0 listed t fun k ok hk' hdk => absurd ⟨k, ok, hk', hdk⟩ hex]
      refine (g2 fun k ok h1 h2 => ?_).symm
      rw [List.getElem?_take] at h1
      split at h1
      · exact hex ⟨k, ok, by rw [← hop]; exact h1, h2⟩
      · cases h1
  -- a new block in the order of the text
  have hal : ∀ j, ∃ (arr : Array Value) (ty : Option TypeId) (val : Nat → Value), ∀ o : Oper, ops[j]? = some o → flAt ops j = true → ∃ v, vs[j]? = some v ∧ FlY P (hAt σ.h hs j) o v (hAt σ.h hs (j + 1)) arr ty val := by
    intro j
    by_cases hh : ∃ o, ops[j]? = some o ∧ flAt ops j = true
    · obtain ⟨o, hj, hf⟩ := hh
      obtain ⟨ha, hg, _⟩ := hflo j o hj hf
      obtain ⟨v, hv, hy⟩ := hat j o (by rw [hop]; exact hj)
      have hee : isEff o.op = true := new_eff ha
      unfold StepY at hy
      simp only [hg] at hy
      unfold RunY at hy
      rw [if_pos hee] at hy
      obtain ⟨arr, ty, val, h1⟩ := hy.2 ha
      refine ⟨arr, ty, val, fun o' ho' _ => ⟨v, hv, ?_⟩⟩
      rw [hj] at ho'
      obtain rfl := Option.some.inj ho'
      exact h1
    · exact ⟨#[], none, fun _ => undef, fun o ho hf => absurd ⟨o, ho, hf⟩ hh⟩
  let A : Nat → Array Value := fun j => (hal j).choose
  let T : Nat → Option TypeId := fun j => (hal j).choose_spec.choose
  let U : Nat → Nat → Value := fun j => (hal j).choose_spec.choose_spec.choose
  have hfl : ∀ (j : Nat) (o : Oper), ops[j]? = some o → flAt ops j = true → ∃ v, vs[j]? = some v ∧ FlY P (hAt σ.h hs j) o v (hAt σ.h hs (j + 1)) (A j) (T j) (U j) := fun j => (hal j).choose_spec.choose_spec.choose_spec
  -- which memory it is: the changing operations ahead of c have been carried out; of those behind, only new boxes
  let S : Array Bool → Nat → Nat → Prop := fun listed c j => flAt ops j = true ∧ listed.getD j false = true ∧ c ≤ j
  let HpIs : Array Bool → Nat → Prop := fun listed c => c ≤ ops.size ∧ (∀ j, j < ops.size → effAt ops j = true → flAt ops j = false → listed.getD j false = true → j < c) ∧ ∀ j, j < c → effAt ops j = true → listed.getD j false = true
  let Inv : Array Bool → Act → Nat → (Nat → Nat) → Gh → Prop := fun listed a' c β g' => HpIs listed c ∧ HeapOk g0 pk g' (hAt σ.h hs c) ∧ WfG g' (hAt σ.h hs c) ∧
    (∀ j, S listed c j → Lone g0 g' (hAt σ.h hs c) (β j) (A j) (T j) ∧ ∀ o d, ops[j]? = some o → o.dst = some d → d < σ.n → a'.tmps.getD d undef = U j (β j)) ∧
    (∀ i j, S listed c i → S listed c j → i ≠ j → β i ≠ β j) ∧
    ∀ t, t < σ.n → (∀ j oj, S listed c j → ops[j]? = some oj → oj.dst ≠ some t) → RepPV g' (hAt σ.h hs c) (envOf listed t) (a'.tmps.getD t undef)
  have adv1 : ∀ listed a' c β g', Inv listed a' c β g' → c < ops.size → (effAt ops c = true → flAt ops c = true ∧ listed.getD c false = true) → ∃ g2 : Gh, g2.w = g'.w ∧ Inv listed a' (c + 1) β g2 := by
    intro listed a' c β g' ⟨⟨hc1, hc2, hc3⟩, hk, hwf, hL, hβ, henv⟩ hlt hcond
    cases hec : effAt ops c with
    | false =>
      have hh : hAt σ.h hs (c + 1) = hAt σ.h hs c := (hsame1 c hec).resolve_right (by omega)
      have hS : ∀ j, S listed (c + 1) j → S listed c j := fun j hj => ⟨hj.1, hj.2.1, by have := hj.2.2; omega⟩
      refine ⟨g', rfl, ⟨by omega, fun j h1 h2 h3 h4 => by have := hc2 j h1 h2 h3 h4; omega, fun j h1 h2 => ?_⟩, by rw [hh]; exact hk, by rw [hh]; exact hwf, fun j hj => by rw [hh]; exact hL j (hS j hj), fun i j hi hj => hβ i j (hS i hi) (hS j hj), fun t ht hn => by
        rw [hh]
        refine henv t ht fun j oj hj => ?_
        by_cases e : j = c
        · have h5 := hfleff j hj.1
          rw [e, hec] at h5; cases h5
        · exact hn j oj ⟨hj.1, hj.2.1, by have := hj.2.2; omega⟩⟩
      by_cases e : j = c
      · rw [e, hec] at h2; cases h2
      · exact hc3 j (by omega) h2
    | true =>
      obtain ⟨hf, hl⟩ := hcond hec
      have hSc : S listed c c := ⟨hf, hl, Nat.le_refl _⟩
      have ho : ops[c]? = some ops[c] := Array.getElem?_eq_getElem hlt
      obtain ⟨v, h6, _, hland⟩ := hfl c _ ho hf
      obtain ⟨hlone, hptr⟩ := hL c hSc
      obtain ⟨g2, hw2, hk2, hwf2, he2, hr2, hot⟩ := hland g0 pk g' _ hk hwf hlone
      have hS : ∀ j, S listed (c + 1) j → S listed c j ∧ j ≠ c := fun j hj => ⟨⟨hj.1, hj.2.1, by have := hj.2.2; omega⟩, by have := hj.2.2; omega⟩
      refine ⟨g2, hw2, ⟨by omega, fun j h1 h2 h3 h4 => by have := hc2 j h1 h2 h3 h4; omega, fun j hj1 hj2 => ?_⟩, hk2, hwf2, fun j hj => ?_, fun i j hi hj => hβ i j (hS i hi).1 (hS j hj).1, fun t' ht hn => ?_⟩
      · by_cases e : j = c
        · rw [e]; exact hl
        · exact hc3 j (by omega) hj2
      · obtain ⟨h9, h10⟩ := hL j (hS j hj).1
        exact ⟨hot _ _ _ (hβ j c (hS j hj).1 hSc (hS j hj).2) h9, h10⟩
      · by_cases e : ops[c].dst = some t'
        · rw [env1 listed t' c _ _ ho e hl h6, hptr _ t' ho e ht]
          exact hr2
        · refine (henv t' ht fun j oj hj hoj hd => ?_).ext he2
          by_cases ej : j = c
          · subst ej
            rw [ho] at hoj
            obtain rfl := Option.some.inj hoj
            exact e hd
          · exact hn j oj ⟨hj.1, hj.2.1, by have := hj.2.2; omega⟩ hoj hd
  have adv : ∀ m listed a' c β g', Inv listed a' c β g' → c + m ≤ ops.size → (∀ j, c ≤ j → j < c + m → effAt ops j = true → flAt ops j = true ∧ listed.getD j false = true) → ∃ g2 : Gh, g2.w = g'.w ∧ Inv listed a' (c + m) β g2 := by
    intro m
    induction m with
    | zero => intro listed a' c β g' hI _ _; exact ⟨g', rfl, hI⟩
    | succ m ih =>
      intro listed a' c β g' hI hle hcond
      obtain ⟨g1, hw1, hI1⟩ := ih listed a' c β g' hI (by omega) fun j h1 h2 => hcond j h1 (by omega)
      obtain ⟨g2, hw2, hI2⟩ := adv1 listed a' (c + m) β g1 hI1 (by omega) fun he => hcond (c + m) (by omega) (by omega) he
      exact ⟨g2, hw2.trans hw1, hI2⟩
  -- at the end: the state of the text's order
  have fin : ∀ (listed : Array Bool) (a' : Act) (g' : Gh) (c : Nat) (β : Nat → Nat), Inv listed a' c β g' → (∀ j, j < ops.size → listed.getD j false = true) → a'.defers = [] → a'.tmps.size = σ.n → lift g0 pk Q .normal a' g'.w := by
    intro listed a' g' c β hI hall hd hs'
    have hcle := hI.1.1
    obtain ⟨g2, hw2, hI2⟩ := adv (ops.size - c) listed a' c β g' hI (by omega) fun j h1 h2 he => by
      refine ⟨?_, hall j (by omega)⟩
      cases hf : flAt ops j with
      | true => rfl
      | false => have := hI.1.2.1 j (by omega) he hf (hall j (by omega)); omega
    rw [show c + (ops.size - c) = ops.size by omega] at hI2
    obtain ⟨_, hk, hwf, _, _, henv⟩ := hI2
    obtain ⟨p1, p2⟩ := puts_h σ ops.toList vs
    have e : hAt σ.h hs ops.size = hAt σ.h hs ops.toList.length := by simp
    rw [e] at hk hwf
    refine ⟨{ puts σ ops.toList vs with h := hAt σ.h hs ops.toList.length }, ⟨g2, hw2, hd, by show _ = (puts σ ops.toList vs).n; rw [p2]; exact hs', hk, hwf, fun t ht => ?_⟩, hK⟩
    have ht : t < (puts σ ops.toList vs).n := ht
    rw [p2] at ht
    show RepPV g2 _ ((puts σ ops.toList vs).get t) _
    have hget : (puts σ ops.toList vs).get t = envOf listed t := by
      obtain ⟨g1, g2⟩ := get_puts (σ := σ) (t := t) (l := ops.toList) (vs := vs) hlen (fun p q oi oj h1 h2 h3 h4 => hB p q oi oj t (by rw [← hop]; exact h1) (by rw [← hop]; exact h2) h3 h4)
      by_cases hex : ∃ (j : Nat) (oj : Oper), ops[j]? = some oj ∧ oj.dst = some t
      · obtain ⟨j, oj, hj, hdj⟩ := hex
        obtain ⟨v, hv, _⟩ := hat j oj (by rw [hop]; exact hj)
        rw [g1 j oj v (by rw [hop]; exact hj) hv hdj ht, env1 listed t j oj v hj hdj (hall j (Array.getElem?_eq_some_iff.1 hj).1) hv]
      · rw [g2 fun k ok h1 h2 => hex ⟨k, ok, by rw [← hop]; exact h1, h2⟩, env0 listed t fun k ok hk' hdk => absurd ⟨k, ok, hk', hdk⟩ hex]
    rw [hget, ← e]
    refine henv t ht fun j oj hj hoj _ => ?_
    have := (Array.getElem?_eq_some_iff.1 hoj).1
    have := hj.2.2
    omega
  have allListed : ∀ listed : Array Bool, Region.ready .any ops listed = [] → ∀ j, j < ops.size → listed.getD j true = true := by
    intro listed hr j
    induction j using Nat.strongRecOn with
    | _ j ih =>
      intro hj
      cases hl : listed.getD j true with
      | true => rfl
      | false =>
        have hmem : j ∈ Region.ready .any ops listed := mem_ready.2 ⟨hl, ops[j], Array.getElem?_eq_getElem hj, fun e he hb => by
          have hlt := hA j ops[j] (Array.getElem?_eq_getElem hj) e he hb
          have h1 := ih e.on hlt (by omega)
          rcases Nat.lt_or_ge e.on listed.size with h2 | h2
          · simpa [h2] using h1
          · exfalso
            have : listed.getD j true = true := by simp [Array.getElem?_eq_none (show listed.size ≤ j by omega)]
            rw [this] at hl
            cases hl⟩
        rw [hr] at hmem
        cases hmem
  have main : ∀ (fuel : Nat) (listed : Array Bool) (a' : Act) (g' : Gh) (c : Nat) (β : Nat → Nat), Inv listed a' c β g' → listed.size = ops.size → ((List.range ops.size).filter fun j => !listed.getD j true).length ≤ fuel →
      (∀ (j : Nat) (oj : Oper), ops[j]? = some oj → listed.getD j false = true → ∀ e ∈ oj.after, Region.binds .any e = true → listed.getD e.on false = true) →
      a'.defers = [] → a'.tmps.size = σ.n →
      wpAny P .any ops (lift g0 pk Q) fuel listed a' g'.w := by
    intro fuel
    have conv : ∀ (listed : Array Bool), listed.size = ops.size → ∀ j, j < ops.size → listed.getD j true = true → listed.getD j false = true := fun listed hs j hj h => by
      have : j < listed.size := by omega
      simpa [this] using h
    induction fuel with
    | zero =>
      intro listed a' g' c β hI hs' hfu hcl hd hsz
      have hnil : (List.range ops.size).filter (fun j => !listed.getD j true) = [] := List.eq_nil_of_length_eq_zero (Nat.le_zero.1 hfu)
      have hall : ∀ j, j < ops.size → listed.getD j true = true := fun j hj => by
        have := List.filter_eq_nil_iff.1 hnil j (List.mem_range.2 hj)
        simpa using this
      refine ⟨?_, fin listed a' g' c β hI (fun j hj => conv listed hs' j hj (hall j hj)) hd hsz⟩
      cases hr : Region.ready .any ops listed with
      | nil => rfl
      | cons x r =>
        have hx : x ∈ Region.ready .any ops listed := by rw [hr]; simp
        obtain ⟨h1, o, ho, _⟩ := mem_ready.1 hx
        rw [hall x (Array.getElem?_eq_some_iff.1 ho).1] at h1
        cases h1
    | succ fuel ih =>
      intro listed a' g' c β hI hs' hfu hcl hd hsz
      refine ⟨fun hr => fin listed a' g' c β hI (fun j hj => conv listed hs' j hj (allListed listed hr j hj)) hd hsz, fun i hi => ?_⟩
      obtain ⟨hun, o, ho, haft⟩ := mem_ready.1 hi
      have hilt : i < ops.size := (Array.getElem?_eq_some_iff.1 ho).1
      have hun' : listed.getD i false = false := by
        have : i < listed.size := by omega
        simpa [this] using hun
      obtain ⟨v, hv, hstep⟩ := hat i o (by rw [hop]; exact ho)
      have hag := agree listed i o ho hun' haft hcl
      obtain ⟨q1, q2⟩ := puts_h σ (ops.toList.take i) (vs.take i)
      have hstn : (stAt σ ops.toList vs i).n = σ.n := q2
      have hset : ∀ j, (listed.setIfInBounds i true).getD j false = true ↔ (j = i ∨ listed.getD j false = true) := fun j => by
        by_cases hji : j = i
        · subst hji
          have : j < listed.size := by omega
          simp [this]
        · rw [getD_set_ne false (Ne.symm hji)]
          simp [hji]
      -- what follows
      have next : ∀ (g2 : Gh) (u : Value) (c2 : Nat) (β2 : Nat → Nat), Inv (listed.setIfInBounds i true) (a'.put o.dst u) c2 β2 g2 → wpAny P .any ops (lift g0 pk Q) fuel (listed.setIfInBounds i true) (a'.put o.dst u) g2.w := by
        intro g2 u c2 β2 hI2
        refine ih (listed.setIfInBounds i true) (a'.put o.dst u) g2 c2 β2 hI2 (by simpa using hs') ?_ ?_ (by cases o.dst <;> exact hd) (by cases o.dst <;> simpa [Act.put] using hsz)
        · have hlt : ((List.range ops.size).filter fun j => !(listed.setIfInBounds i true).getD j true).length < ((List.range ops.size).filter fun j => !listed.getD j true).length := by
            have e : (List.range ops.size).filter (fun j => !(listed.setIfInBounds i true).getD j true) = ((List.range ops.size).filter fun j => !listed.getD j true).filter fun j => decide (j ≠ i) := by
              rw [List.filter_filter]
              apply List.filter_congr
              intro j hj
              by_cases hji : j = i
              · subst hji
                have : j < listed.size := by omega
                simp [this]
              · rw [getD_set_ne true (Ne.symm hji)]
                simp [hji]
            rw [e]
            exact List.length_filter_lt_length_iff_exists.2 ⟨i, List.mem_filter.2 ⟨List.mem_range.2 hilt, by simp [hun]⟩, by simp⟩
          omega
        · intro j oj hj hl e he hb
          by_cases hji : j = i
          · subst hji
            rw [ho] at hj
            cases hj
            exact getD_set_true (haft e he hb)
          · rw [getD_set_ne false (Ne.symm hji)] at hl
            exact getD_set_true (hcl j oj hj hl e he hb)
      -- the slots behind the operation
      have tmpD : ∀ (u : Value) (t : Nat), t < σ.n → o.dst = some t → (a'.put o.dst u).tmps.getD t undef = u := fun u t ht hdt => by
        rw [hdt]
        have : t < a'.tmps.size := by omega
        simp [Act.put, this]
      have tmpN : ∀ (u : Value) (t : Nat), o.dst ≠ some t → (a'.put o.dst u).tmps.getD t undef = a'.tmps.getD t undef := fun u t hdt => by
        cases hod : o.dst with
        | none => rfl
        | some d =>
          have hne : ¬ d = t := fun e => hdt (by rw [hod, e])
          simp [Act.put, Array.getElem?_setIfInBounds_ne hne]
      have envD : ∀ t, o.dst = some t → envOf (listed.setIfInBounds i true) t = v := fun t hdt => env1 _ t i o v ho hdt ((hset i).2 (.inl rfl)) hv
      have envN : ∀ t, o.dst ≠ some t → envOf (listed.setIfInBounds i true) t = envOf listed t := fun t hdt => by
        by_cases hex : ∃ (j : Nat) (oj : Oper), ops[j]? = some oj ∧ oj.dst = some t ∧ listed.getD j false = true
        · obtain ⟨j, oj, hj, hdj, hl⟩ := hex
          obtain ⟨vj, hvj, _⟩ := hat j oj (by rw [hop]; exact hj)
          rw [env1 listed t j oj vj hj hdj hl hvj, env1 _ t j oj vj hj hdj (getD_set_true hl) hvj]
        · rw [env0 listed t fun k ok hk' hdk => by
              cases hl : listed.getD k false with
              | false => rfl
              | true => exact absurd ⟨k, ok, hk', hdk, hl⟩ hex,
            env0 _ t fun k ok hk' hdk => by
              have hki : k ≠ i := fun e => by subst e; rw [ho] at hk'; cases hk'; exact hdt hdk
              rw [getD_set_ne false (Ne.symm hki)]
              cases hl : listed.getD k false with
              | false => rfl
              | true => exact absurd ⟨k, ok, hk', hdk, hl⟩ hex]
      have haftS : ∀ i', afterOn o i' = true → listed.getD i' false = true := fun i' hi' => by
        unfold afterOn at hi'
        obtain ⟨e, he', hbe⟩ := List.any_eq_true.1 hi'
        simp only [Bool.and_eq_true, beq_iff_eq] at hbe
        rw [← hbe.2]
        exact haft e (by simpa using he') hbe.1
      have hclS : ∀ j oj, ops[j]? = some oj → listed.getD j false = true → ∀ i', afterOn oj i' = true → listed.getD i' false = true := fun j oj hj hl i' hi' => by
        unfold afterOn at hi'
        obtain ⟨e, he', hbe⟩ := List.any_eq_true.1 hi'
        simp only [Bool.and_eq_true, beq_iff_eq] at hbe
        rw [← hbe.2]
        exact hcl j oj hj hl e (by simpa using he') hbe.1
      -- no slot that is looked at is that of a new box without a name
      have noS : ∀ c' : Nat, (isEff o.op = true → i ≤ c') → ∀ t ∈ o.looksAt ops, ∀ j oj, S listed c' j → ops[j]? = some oj → oj.dst ≠ some t := fun c' hc' t ht j oj hj hoj hdj => by
        have hee := (hflo j oj hoj hj.1).2.2 i o t ho hdj ht
        obtain ⟨hne, hcase⟩ := hC i o t ho ht j oj hoj hdj
        rcases hcase with ⟨hlt, _⟩ | ⟨_, haf⟩
        · have := hj.2.2
          have := hc' hee
          omega
        · have := hclS j oj hoj hj.2.1 i haf
          rw [hun'] at this; cases this
      have looked : ∀ (c' : Nat) (g1 : Gh) (β' : Nat → Nat), Inv listed a' c' β' g1 → (isEff o.op = true → i ≤ c') → ∀ x ∈ o.op.operands, RepPV g1 (hAt σ.h hs c') ((stAt σ ops.toList vs i).ev x) (a'.eval x) := by
        intro c' g1 β' hI1 hc' x hx
        cases x with
        | tmp t =>
          by_cases ht : t < σ.n
          · have hl : t ∈ o.looksAt ops := List.mem_append_left _ (List.mem_filterMap.2 ⟨.tmp t, by simpa using hx, rfl⟩)
            simp only [St.ev]
            rw [← hag t hl ht]
            exact hI1.2.2.2.2.2 t ht (noS c' hc' t hl)
          · have : (stAt σ ops.toList vs i).ev (.tmp t) = .s (.c .any) := by simp [St.ev, St.get, hstn, ht]
            rw [this]
            trivial
        | const c => cases c <;> simp only [St.ev, constPV, Act.eval] <;> first | rfl | exact ⟨_, rfl, All2.of_v _⟩
        | global g => rfl
        | func f => rfl
      have guardv : ∀ (c' : Nat) (g1 : Gh) (β' : Nat → Nat), Inv listed a' c' β' g1 → (isEff o.op = true → i ≤ c') → ∀ j want, o.guard = some (j, want) → (∀ t, gv ops (stAt σ ops.toList vs i) j = vB t → yielded ops a'.tmps j = some t) ∧ (∀ us, gv ops (stAt σ ops.toList vs i) j = vV (.tuple us) → yielded ops a'.tmps j = none) := by
        intro c' g1 β' hI1 hc' j want hg
        unfold gv yielded
        cases hdj : (ops[j]?).bind (·.dst) with
        | none => exact ⟨fun t h => by simp at h, fun us h => by simp at h⟩
        | some d =>
          simp only [Option.bind_some]
          by_cases hlt : d < σ.n
          · have hl : d ∈ o.looksAt ops := List.mem_append_right _ (by simp [hg, hdj])
            have hr := hI1.2.2.2.2.2 d hlt (noS c' hc' d hl)
            rw [hag d hl hlt] at hr
            have he : a'.tmps[d]? = some (a'.tmps.getD d undef) := by
              have : d < a'.tmps.size := by rw [hsz]; exact hlt
              simp [this, Array.getD]
            rw [he]
            refine ⟨fun t h => ?_, fun us h => ?_⟩
            · rw [h] at hr
              simp only [RepPV, RepV1, RepC] at hr
              rw [hr]
            · rw [h] at hr
              simp only [RepPV, RepV1, RepC] at hr
              rw [hr]
          · have : (stAt σ ops.toList vs i).get d = .s (.c .any) := by simp [St.get, hstn, hlt]
            rw [this]
            exact ⟨fun t h => by simp at h, fun us h => by simp at h⟩
      -- behind an operation that leaves the memory's place
      have stay : ∀ (c' : Nat) (g1 g2 : Gh) (β' : Nat → Nat) (u : Value), isEff o.op = false → Inv listed a' c' β' g1 → HeapOk g0 pk g2 (hAt σ.h hs c') → WfG g2 (hAt σ.h hs c') → Ext g1 (hAt σ.h hs c') g2 (hAt σ.h hs c') → (∀ b arr ty, Lone g0 g1 (hAt σ.h hs c') b arr ty → Lone g0 g2 (hAt σ.h hs c') b arr ty) → RepPV g2 (hAt σ.h hs c') v u →
          Inv (listed.setIfInBounds i true) (a'.put o.dst u) c' β' g2 := by
        intro c' g1 g2 β' u hne ⟨⟨hc1, hc2, hc3⟩, hk1, hwf1, hL1, hβ1, henv1⟩ hk2 hwf2 he2 hlo hr2
        have hnf : flAt ops i = false := by
          cases hf : flAt ops i with
          | false => rfl
          | true => have := hfleff i hf; rw [heff i o ho, hne] at this; cases this
        have hS : ∀ j, S (listed.setIfInBounds i true) c' j → S listed c' j := fun j hj => ⟨hj.1, ((hset j).1 hj.2.1).resolve_left (fun e => by have := hj.1; rw [e, hnf] at this; cases this), hj.2.2⟩
        have hS' : ∀ j, S listed c' j → S (listed.setIfInBounds i true) c' j := fun j hj => ⟨hj.1, (hset j).2 (.inr hj.2.1), hj.2.2⟩
        refine ⟨⟨hc1, fun j h1 h2 h3 h4 => ?_, fun j h1 h2 => (hset j).2 (.inr (hc3 j h1 h2))⟩, hk2, hwf2, fun j hj => ?_, fun p q hp hq => hβ1 p q (hS p hp) (hS q hq), fun t ht hn => ?_⟩
        · rcases (hset j).1 h4 with e | h5
          · rw [e, heff i o ho, hne] at h2; cases h2
          · exact hc2 j h1 h2 h3 h5
        · obtain ⟨h5, h6⟩ := hL1 j (hS j hj)
          refine ⟨hlo _ _ _ h5, fun o' d a1 hdd hdn => ?_⟩
          rw [tmpN u d fun e => ?_]
          · exact h6 o' d a1 hdd hdn
          · have := hB i j o o' d ho a1 e hdd
            rw [this] at hnf
            rw [hj.1] at hnf; cases hnf
        · by_cases hdt : o.dst = some t
          · rw [envD t hdt, tmpD u t ht hdt]; exact hr2
          · rw [envN t hdt, tmpN u t hdt]
            exact (henv1 t ht fun j oj hj hoj => hn j oj (hS' j hj) hoj).ext he2
      -- behind an operation that changes the memory
      have move : ∀ (g1 g2 : Gh) (β' : Nat → Nat) (u : Value), isEff o.op = true → flAt ops i = false → Inv listed a' i β' g1 → HeapOk g0 pk g2 (hAt σ.h hs (i + 1)) → WfG g2 (hAt σ.h hs (i + 1)) → Ext g1 (hAt σ.h hs i) g2 (hAt σ.h hs (i + 1)) → (∀ b arr ty, Lone g0 g1 (hAt σ.h hs i) b arr ty → Lone g0 g2 (hAt σ.h hs (i + 1)) b arr ty) → RepPV g2 (hAt σ.h hs (i + 1)) v u →
          Inv (listed.setIfInBounds i true) (a'.put o.dst u) (i + 1) β' g2 := by
        intro g1 g2 β' u hee hnf ⟨⟨hc1, hc2, hc3⟩, hk1, hwf1, hL1, hβ1, henv1⟩ hk2 hwf2 he2 hlo hr2
        have hS : ∀ j, S (listed.setIfInBounds i true) (i + 1) j → S listed i j := fun j hj => ⟨hj.1, ((hset j).1 hj.2.1).resolve_left (fun e => by have := hj.1; rw [e, hnf] at this; cases this), by have := hj.2.2; omega⟩
        have hS' : ∀ j, S listed i j → S (listed.setIfInBounds i true) (i + 1) j := fun j hj => ⟨hj.1, (hset j).2 (.inr hj.2.1), by
          have := hj.2.2
          by_cases e : j = i
          · have h5 := hj.1; rw [e, hnf] at h5; cases h5
          · omega⟩
        refine ⟨⟨by omega, fun j h1 h2 h3 h4 => ?_, fun j h1 h2 => (hset j).2 ?_⟩, hk2, hwf2, fun j hj => ?_, fun p q hp hq => hβ1 p q (hS p hp) (hS q hq), fun t ht hn => ?_⟩
        · rcases (hset j).1 h4 with e | h5
          · omega
          · have := hc2 j h1 h2 h3 h5; omega
        · by_cases e : j = i
          · exact .inl e
          · exact .inr (hc3 j (by omega) h2)
        · obtain ⟨h5, h6⟩ := hL1 j (hS j hj)
          refine ⟨hlo _ _ _ h5, fun o' d a1 hdd hdn => ?_⟩
          rw [tmpN u d fun e => ?_]
          · exact h6 o' d a1 hdd hdn
          · have := hB i j o o' d ho a1 e hdd
            rw [this] at hnf
            rw [hj.1] at hnf; cases hnf
        · by_cases hdt : o.dst = some t
          · rw [envD t hdt, tmpD u t ht hdt]; exact hr2
          · rw [envN t hdt, tmpN u t hdt]
            exact (henv1 t ht fun j oj hj hoj => hn j oj (hS' j hj) hoj).ext he2
      -- to the operation's own place
      have reach : isEff o.op = true → flAt ops i = false → ∃ g1 : Gh, g1.w = g'.w ∧ Inv listed a' i β g1 := fun hee hnf => by
        have hei : effAt ops i = true := by rw [heff _ _ ho]; exact hee
        have before : ∀ j, j < i → effAt ops j = true → listed.getD j false = true := hchain (fun j => listed.getD j false = true) hclS i o ho hei hnf haftS
        have hci : c ≤ i := by
          rcases Nat.lt_or_ge i c with h1 | h1
          · have := hI.1.2.2 i h1 hei; rw [hun'] at this; cases this
          · exact h1
        obtain ⟨g1, hw1, hI1⟩ := adv (i - c) listed a' c β g' hI (by omega) fun j h1 h2 he => by
          have hlj := before j (by omega) he
          refine ⟨?_, hlj⟩
          cases hf : flAt ops j with
          | true => rfl
          | false => have := hI.1.2.1 j (by omega) he hf hlj; omega
        rw [show c + (i - c) = i by omega] at hI1
        exact ⟨g1, hw1, hI1⟩
      have run : RunY P HS (hAt σ.h hs i) (stAt σ ops.toList vs i) o v (hAt σ.h hs (i + 1)) → o.wp P a' g'.w (wpAny P .any ops (lift g0 pk Q) fuel (listed.setIfInBounds i true)) (lift g0 pk Q) := fun hy => by
        unfold RunY at hy
        split at hy
        · rename_i hee
          cases hnf : flAt ops i with
          | false =>
            obtain ⟨g1, hw1, hI1⟩ := reach hee hnf
            rw [← hw1]
            exact hy.1.beside hI1.2.1 hI1.2.2.1 (looked i g1 β hI1 fun _ => Nat.le_refl _) _ _ fun g2 u hk2 hwf2 he2 hlo hr2 => next g2 u (i + 1) β (move g1 g2 β u hee hnf hI1 hk2 hwf2 he2 hlo hr2)
          | true =>
            -- a new box, perhaps early
            obtain ⟨v', _, hrun, _⟩ := hfl i o ho hnf
            have hei : effAt ops i = true := hfleff i hnf
            have hci : c ≤ i := by
              rcases Nat.lt_or_ge i c with h1 | h1
              · have := hI.1.2.2 i h1 hei; rw [hun'] at this; cases this
              · exact h1
            obtain ⟨⟨hc1, hc2, hc3⟩, hk1, hwf1, hL1, hβ1, henv1⟩ := hI
            obtain ⟨g2, hw2, hk2, he2, hln, hlo⟩ := hk1.newLone (A i) (T i)
            unfold Oper.wp
            rw [hrun a'.eval g'.w, ← hw2]
            have hSi : ∀ j, S (listed.setIfInBounds i true) c j → j = i ∨ S listed c j := fun j hj => ((hset j).1 hj.2.1).imp (fun e => e) fun hl => ⟨hj.1, hl, hj.2.2⟩
            refine next g2 _ c (fun j => if j = i then g'.w.heap.size else β j) ⟨⟨hc1, fun j k1 k2 k3 k4 => ?_, fun j k1 k2 => (hset j).2 (.inr (hc3 j k1 k2))⟩, hk2, hwf1.ext he2, fun j hj => ?_, fun p q hp hq hpq => ?_, fun t' ht hn => ?_⟩
            · rcases (hset j).1 k4 with e | k5
              · rw [e, hnf] at k3; cases k3
              · exact hc2 j k1 k2 k3 k5
            · by_cases e : j = i
              · subst e
                simp only [if_true]
                exact ⟨hln, fun o' d' a1 hd' hdn => by
                  rw [ho] at a1
                  obtain rfl := Option.some.inj a1
                  exact tmpD _ d' hdn hd'⟩
              · simp only [if_neg e]
                have hSj := (hSi j hj).resolve_left e
                obtain ⟨k5, k6⟩ := hL1 j hSj
                refine ⟨(hlo _ _ _ k5).2, fun o' d' a1 hd' hdn => ?_⟩
                rw [tmpN _ d' fun e' => e (hB i j o o' d' ho a1 e' hd').symm]
                exact k6 o' d' a1 hd' hdn
            · have lone : ∀ j, S listed c j → β j ≠ g'.w.heap.size := fun j hj => (hlo _ _ _ (hL1 j hj).1).1
              by_cases e1 : p = i
              · have e2 : q ≠ i := fun e => hpq (e1.trans e.symm)
                simp only [e1, e2, if_true, if_false]
                exact (lone q ((hSi q hq).resolve_left e2)).symm
              · by_cases e2 : q = i
                · simp only [e1, e2, if_true, if_false]
                  exact lone p ((hSi p hp).resolve_left e1)
                · simp only [e1, e2, if_false]
                  exact hβ1 p q ((hSi p hp).resolve_left e1) ((hSi q hq).resolve_left e2) hpq
            · have hne : o.dst ≠ some t' := hn i o ⟨hnf, (hset i).2 (.inl rfl), hci⟩ ho
              rw [envN t' hne, tmpN _ t' hne]
              exact (henv1 t' ht fun j oj hj hoj => hn j oj ⟨hj.1, (hset j).2 (.inr hj.2.1), hj.2.2⟩ hoj).ext he2
        · rename_i hee
          have hee : isEff o.op = false := by simpa using hee
          have hne : isEff o.op = true → i ≤ c := fun h => by rw [hee] at h; cases h
          cases hstr : strict with
          | false =>
            have hmem : HS (hAt σ.h hs c) := by
              rcases Nat.lt_or_ge c ops.size with hc | hc
              · exact hHSc hstr c hc
              · have ec : c = ops.size := Nat.le_antisymm hI.1.1 hc
                rcases hlast with hl | hl
                · rw [ec]; exact hl hstr
                · exfalso
                  unfold lastOk at hl
                  split at hl
                  · rename_i ol hol
                    simp only [Bool.and_eq_true] at hl
                    have hsz := (Array.getElem?_eq_some_iff.1 hol).1
                    have hel : effAt ops (ops.size - 1) = true := by rw [heff _ _ hol]; exact hl.1
                    have h5 := hI.1.2.2 (ops.size - 1) (by omega) hel
                    have hne : i ≠ ops.size - 1 := fun e => by rw [e, hol] at ho; obtain rfl := Option.some.inj ho; rw [hl.1] at hee; cases hee
                    have h6 := hclS _ ol hol h5 i (List.all_eq_true.1 hl.2 i (List.mem_range.2 (by omega)))
                    rw [hun'] at h6; cases h6
                  · cases hl
            have hD := hy.2.2 _ hmem
            exact hD.toE.beside hI.2.1 hI.2.2.1 (looked c g' β hI hne) _ _ fun g2 u hk2 hwf2 he2 hlo hr2 => next g2 u c β (stay c g' g2 β u hee hI hk2 hwf2 he2 hlo hr2)
          | true =>
            have hei : effAt ops i = false := by rw [heff _ _ ho]; exact hee
            rw [hstr] at hord
            simp only [Bool.not_true, Bool.false_or] at hord
            have hcon : ∀ j, j < ops.size → effAt ops j = true → (if j < i then afterOn o j else afterOn (ops[j]?.getD o) i) = true := fun j hj he => by
              have h1 := List.all_eq_true.1 hord i (List.mem_range.2 hilt)
              simp only [hei, Bool.false_or] at h1
              have h2 := List.all_eq_true.1 h1 j (List.mem_range.2 hj)
              have hoj : ops[j]? = some ops[j] := Array.getElem?_eq_getElem hj
              simp only [he, Bool.not_true, Bool.false_or, ho, hoj] at h2
              simpa [hoj] using h2
            have hbef : ∀ j, j < i → effAt ops j = true → listed.getD j false = true := fun j hj he => by
              have h3 := hcon j (by omega) he
              rw [if_pos hj] at h3
              exact haftS j h3
            have hbeh : ∀ j, i ≤ j → j < ops.size → effAt ops j = true → listed.getD j false = false := fun j hij hj he => by
              cases hl : listed.getD j false with
              | false => rfl
              | true =>
                have h3 := hcon j hj he
                have hoj : ops[j]? = some ops[j] := Array.getElem?_eq_getElem hj
                rw [if_neg (by omega), hoj] at h3
                have := hclS j _ hoj hl i h3
                rw [hun'] at this; cases this
            obtain ⟨c1, g1, hw1, hI1, hh⟩ : ∃ (c1 : Nat) (g1 : Gh), g1.w = g'.w ∧ Inv listed a' c1 β g1 ∧ hAt σ.h hs c1 = hAt σ.h hs i := by
              rcases Nat.le_total c i with hle | hle
              · obtain ⟨g1, hw1, hI1⟩ := adv (i - c) listed a' c β g' hI (by omega) fun j k1 k2 he => by
                  have hlj := hbef j (by omega) he
                  refine ⟨?_, hlj⟩
                  cases hf : flAt ops j with
                  | true => rfl
                  | false => have := hI.1.2.1 j (by omega) he hf hlj; omega
                rw [show c + (i - c) = i by omega] at hI1
                exact ⟨i, g1, hw1, hI1, rfl⟩
              · refine ⟨c, g', rfl, hI, hsm _ _ hI.1.1 (by omega) (fun j k1 k2 => by omega) fun j k1 k2 => ?_⟩
                cases he : effAt ops j with
                | false => rfl
                | true =>
                  have h5 := hI.1.2.2 j k2 he
                  rw [hbeh j k1 (by have := hI.1.1; omega) he] at h5; cases h5
            have hne1 : isEff o.op = true → i ≤ c1 := fun h => by rw [hee] at h; cases h
            have hD : DYields P (hAt σ.h hs c1) (stAt σ ops.toList vs i).ev o v := by rw [hh]; exact hy.2.1
            rw [← hw1]
            exact hD.toE.beside hI1.2.1 hI1.2.2.1 (looked c1 g1 β hI1 hne1) _ _ fun g2 u hk2 hwf2 he2 hlo hr2 => next g2 u c1 β (stay c1 g1 g2 β u hee hI1 hk2 hwf2 he2 hlo hr2)
      have skip : o.guard ≠ none → v = uV → hAt σ.h hs (i + 1) = hAt σ.h hs i → wpAny P .any ops (lift g0 pk Q) fuel (listed.setIfInBounds i true) (a'.put o.dst undef) g'.w := fun hgn hvu hh => by
        cases hee : isEff o.op with
        | false => exact next g' undef c β (stay c g' g' β undef hee hI hI.2.1 hI.2.2.1 (Ext.refl _ _) (fun _ _ _ h => h) (by rw [hvu]; rfl))
        | true =>
          have hnf : flAt ops i = false := by
            cases hf : flAt ops i with
            | false => rfl
            | true => exact absurd (hflo i o ho hf).2.1 hgn
          obtain ⟨g1, hw1, hI1⟩ := reach hee hnf
          rw [← hw1]
          exact next g1 undef (i + 1) β (move g1 g1 β undef hee hnf hI1 (by rw [hh]; exact hI1.2.1) (by rw [hh]; exact hI1.2.2.1) (by rw [hh]; exact Ext.refl _ _) (fun b arr ty l => by rw [hh]; exact l) (by rw [hvu]; rfl))
      unfold wpOp
      simp only [ho]
      unfold StepY at hstep
      cases hg : o.guard with
      | none =>
        simp only [hg] at hstep
        rw [if_pos (by simp [Region.wanted, hg])]
        exact .inl (run hstep)
      | some jw =>
        obtain ⟨j, want⟩ := jw
        simp only [hg] at hstep
        have hgn : o.guard ≠ none := by rw [hg]; simp
        have gd : (∀ t, gv ops (stAt σ ops.toList vs i) j = vB t → yielded ops a'.tmps j = some t) ∧ (∀ us, gv ops (stAt σ ops.toList vs i) j = vV (.tuple us) → yielded ops a'.tmps j = none) := by
          cases hee : isEff o.op with
          | false => exact guardv c g' β hI (fun h => by rw [hee] at h; cases h) j want hg
          | true =>
            have hnf : flAt ops i = false := by
              cases hf : flAt ops i with
              | false => rfl
              | true => exact absurd (hflo i o ho hf).2.1 hgn
            obtain ⟨g1, hw1, hI1⟩ := reach hee hnf
            exact guardv i g1 β hI1 (fun _ => Nat.le_refl _) j want hg
        obtain ⟨hy1, hy2⟩ := gd
        rcases hstep with ⟨t, hgv, ⟨ht, hd'⟩ | ⟨ht, hvu, hh⟩⟩ | ⟨us, hgv, hvu, hh⟩
        · rw [if_pos (by simp [Region.wanted, hg, hy1 t hgv, ht])]
          exact .inl (run hd')
        · rw [if_neg (by simp [Region.wanted, hg, hy1 t hgv, ht])]
          exact skip hgn hvu hh
        · rw [if_neg (by simp [Region.wanted, hg, hy2 us hgv])]
          exact skip hgn hvu hh
  obtain ⟨g, rfl, s⟩ := s
  refine wp_region_any hm ?_
  have hst2 := s.heap.step g.w.drew g.V rfl rfl rfl (Nat.le_refl _) (fun _ _ => rfl) (fun _ _ h => h) (fun _ _ _ h => h) (fun b o hv => s.heap.vin b o hv)
  have hrep : ∀ j : Nat, (Array.replicate ops.size false).getD j false = false := fun j => by
    by_cases hj : j < ops.size
    · simp [hj]
    · simp [Array.getElem?_eq_none (show (Array.replicate ops.size false).size ≤ j by simp; omega)]
  refine main ops.size (Array.replicate ops.size false) a { g with w := g.w.drew } 0 (fun _ => 0) ⟨⟨Nat.zero_le _, fun j hj _ _ hl => (by rw [hrep j] at hl; cases hl), fun j hj => absurd hj (Nat.not_lt_zero j)⟩, hst2.1, ⟨s.wf.ov, s.wf.nd⟩, fun j hj => (by have := hj.2.1; rw [hrep j] at this; cases this), fun i j hi => (by have := hi.2.1; rw [hrep i] at this; cases this), fun t ht _ => ?_⟩ (by simp) (Nat.le_trans (List.length_filter_le _ _) (by simp)) (fun j oj hj hl => by rw [hrep j] at hl; cases hl) s.defers s.size
  rw [env0 _ t fun k ok _ _ => hrep k]
  exact (s.env t ht).ext hst2.2

theorem mem_hAt {h : Hp} {hs : List Hp} {c : Nat} (hc : c ≤ hs.length) : hAt h hs c ∈ h :: hs := by
  cases c with
  | zero => exact List.mem_cons_self ..
  | succ c =>
    have : c < hs.length := by omega
    simp [hAt, this]
theorem cK_drawY {P : Program} {pk : Pk} {id : Nat} {ops : Array Oper} {Q : Exit → St → Prop} {σ : St} (strict : Bool) (hm : P.follows .mixedOrders = true) (hok0 : drawOkY strict ops = true)
    (h : opsY P ops strict ops.toList [] [] (fun σ' => Q .normal σ') σ) : CodeW P pk (.region id ops true) Q σ := by
  obtain ⟨vs, hs, hst, hK, _⟩ := opsY_ex _ _ _ _ h
  obtain ⟨_, hlenh, _⟩ := stepsY_at hst
  rw [Array.length_toList] at hlenh
  exact cK_drawG strict hm hok0 hst hK (fun he c hc => ⟨he, .inl (mem_hAt (by omega))⟩) (.inl fun he => ⟨he, .inl (mem_hAt (by omega))⟩)
/-- the last operation, behind all others -/
def lastY (P : Program) (K : St → Prop) : Option Oper → St → Prop
  | some o, σ => opK P o.op o.dst σ K
  | none, _ => False
theorem stepsY_snoc {P : Program} {ops : Array Oper} {HS : Hp → Prop} {o : Oper} {v : PV} {h' : Hp} : ∀ {l : List Oper} {vs : List PV} {hs : List Hp} {σ : St}, StepsY P ops HS σ l vs hs →
    StepY P ops HS (endH σ.h hs) { puts σ l vs with h := endH σ.h hs } o v h' → StepsY P ops HS σ (l ++ [o]) (vs ++ [v]) (hs ++ [h'])
  | [], [], [], σ, _, h => ⟨h, trivial⟩
  | p :: l, u :: vs, k :: hs, σ, ⟨h1, h2⟩, h => by
    refine ⟨h1, stepsY_snoc h2 ?_⟩
    have e1 : (({ σ with h := k } : St).put p.dst u).h = k := put_h _ _ _
    rw [e1]
    have e2 : ({ puts (({ σ with h := k } : St).put p.dst u) l vs with h := endH k hs } : St) = { puts σ (p :: l) (u :: vs) with h := endH σ.h (k :: hs) } := by
      simp only [puts, endH, put_setH, puts_setH]
    rw [e2]
    exact h
  | [], [], _ :: _, _, h, _ => h.elim
  | [], _ :: _, _, _, h, _ => h.elim
  | _ :: _, [], _, _, h, _ => h.elim
  | _ :: _, _ :: _, [], _, h, _ => h.elim
theorem puts_snoc {o : Oper} {v : PV} : ∀ {l : List Oper} {vs : List PV} {σ : St}, l.length = vs.length → puts σ (l ++ [o]) (vs ++ [v]) = (puts σ l vs).put o.dst v
  | [], [], _, _ => rfl
  | p :: l, u :: vs, σ, h => by
    simp only [List.cons_append, puts]
    exact puts_snoc (by simpa using h)
  | [], _ :: _, _, h => by simp at h
  | _ :: _, [], _, h => by simp at h
theorem endH_snoc {h h' : Hp} : ∀ {hs : List Hp}, endH h (hs ++ [h']) = h'
  | [] => rfl
  | k :: hs => by simp only [List.cons_append, endH]; exact endH_snoc
/-- a region whose last operation changes memory behind all others: what is read need not be there in the last memory -/
theorem cK_drawZ {P : Program} {pk : Pk} {id : Nat} {ops : Array Oper} {Q : Exit → St → Prop} {σ : St} (hm : P.follows .mixedOrders = true) (hok0 : drawOkY false ops = true) (hlast : lastOk ops = true) (hg : (ops.toList.getLast?.map (·.guard.isNone)) = some true)
    (h : opsY P ops false ops.toList.dropLast [] [] (lastY P (fun σ' => Q .normal σ') ops.toList.getLast?) σ) : CodeW P pk (.region id ops true) Q σ := by
  obtain ⟨vs, hs, hst, hK, _⟩ := opsY_ex _ _ _ _ h
  obtain ⟨hlenv, hlenh, _⟩ := stepsY_at hst
  have hne : ops.toList ≠ [] := fun e => by rw [e] at hg; simp at hg
  have hsz : 0 < ops.size := by rw [← Array.length_toList]; exact List.length_pos_iff.2 hne
  obtain ⟨o, ho⟩ : ∃ o, ops.toList.getLast? = some o := ⟨ops.toList.getLast hne, List.getLast?_eq_some_getLast hne⟩
  have hl : ops.toList = ops.toList.dropLast ++ [o] := by
    have := List.dropLast_concat_getLast hne
    rw [List.getLast?_eq_some_getLast hne] at ho
    rw [← Option.some.inj ho]; exact this.symm
  rw [ho] at hK hg
  have hgn : o.guard = none := by simpa using hg
  have hi : ops[ops.size - 1]? = some o := by
    rw [← Array.getElem?_toList, hl, List.getElem?_append_right (by simp)]
    simp
  have heo : isEff o.op = true := by
    unfold lastOk at hlast
    rw [hi] at hlast
    simp only [Bool.and_eq_true] at hlast
    exact hlast.1
  obtain ⟨pv, h', hK2, hy, hal⟩ := opF_ex heo hK
  have hlen2 : hs.length = ops.size - 1 := by rw [← hlenh]; simp
  have hstep : StepsY P ops (fun k => false = false ∧ (k ∈ σ.h :: hs ∨ k ∈ ([] : List Hp))) σ ops.toList (vs ++ [pv]) (hs ++ [h']) := by
    have := stepsY_snoc (o := o) (v := pv) (h' := h') hst (by simp only [StepY, hgn, RunY, heo, if_true]; exact ⟨hy, hal⟩)
    rw [← hl] at this
    exact this
  refine cK_drawG false hm hok0 hstep ?_ (fun _ c hc => ?_) (.inr hlast)
  · have e1 : puts σ ops.toList (vs ++ [pv]) = (puts σ ops.toList.dropLast vs).put o.dst pv := by
      conv => lhs; rw [hl]
      exact puts_snoc hlenv
    rw [e1, endH_snoc, ← put_setH]
    exact hK2
  · have : hAt σ.h (hs ++ [h']) c = hAt σ.h hs c := by
      cases c with
      | zero => rfl
      | succ c => simp [hAt, List.getElem?_append_left (show c < hs.length by omega)]
    rw [this]
    exact ⟨rfl, .inl (mem_hAt (by omega))⟩
end Go.PL
