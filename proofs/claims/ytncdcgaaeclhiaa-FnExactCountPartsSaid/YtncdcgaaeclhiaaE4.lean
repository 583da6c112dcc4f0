/-
  Every operation of the class that changes no box and no own list does what its abstract rule says.
-/
import Derived.Test.YtncdcgaaeclhiaaE3
namespace Go.PL
set_option linter.unusedSimpArgs false
set_option linter.unusedVariables false

theorem unC_run {op : UnOp} {x : C} {K : PV → Prop} {P : Program} (h : unC op x K) : ∃ pv, K pv ∧ ∀ g hp c, RepC g hp x c → ∃ v, (Op.unary op c).run P g.w = .ok v g.w ∧ RepPV g hp pv v := by
  unfold unC at h
  split at h
  · obtain ⟨rfl, h⟩ := h
    refine ⟨_, h, fun g hp c hc => ?_⟩
    simp only [RepC] at hc
    subst hc
    exact ⟨_, by simp [Op.unary], rfl⟩
  · obtain ⟨rfl, hin, h⟩ := h
    refine ⟨_, h, fun g hp c hc => ?_⟩
    simp only [RepC] at hc
    subst hc
    rename_i k n
    have : 0 - n = -n := by omega
    exact ⟨_, by simp [Op.unary, Op.intArith, this, wrap_in hin], rfl⟩
  · exact h.elim

theorem bytesL_map : ∀ {xs : List Value} {ns : List Int}, bytesL xs = some ns → xs = ns.map (.int .u8)
  | [], ns, h => by simp [bytesL] at h; subst h; rfl
  | x :: xs, ns, h => by
    simp only [bytesL, List.mapM_cons] at h
    split at h
    · rename_i n
      simp only [Option.bind_eq_bind, Option.bind_some, Option.pure_def] at h
      cases hm : bytesL xs with
      | none => unfold bytesL at hm; rw [hm] at h; cases h
      | some ms =>
        have := bytesL_map hm
        unfold bytesL at hm
        rw [hm] at h
        simp at h
        rw [← h, this]
        rfl
    · cases h
theorem flat_bytes (ns : List Int) : flat (ns.map (.int .u8)) = ns.map (.int .u8) := by
  induction ns with
  | nil => rfl
  | cons n ns ih => simp only [flat, List.map_cons, List.flatMap_cons] at ih ⊢; rw [ih]; rfl

theorem run_bytes {P : Program} {g : Gh} {b off : Nat} {ns : List Int} (h : ∀ j (u : Value), (ns.map (Value.int .u8))[j]? = some u → g.w.cell? ⟨b, off + j, none⟩ = some u) (cap : Nat) :
    (Conv.bytesToString (.slice (some ⟨b, off, none⟩) ns.length cap)).run P g.w = .ok (.string (strOf ns)) g.w := by
  refine run_bytesToString g.w _ _ _ ns ?_
  have := run_loadCells_list (P := P) g.w ⟨b, off, none⟩ (ns.map (Value.int .u8)) (fun j u hu => by rw [Addr.add_lit]; exact h j u hu)
  simpa using this
theorem run_bytes0 {P : Program} {w : World} {a : Option Addr} (cap : Nat) : (Conv.bytesToString (.slice a 0 cap)).run P w = .ok (.string (strOf [])) w := by
  cases a with
  | none => rfl
  | some a => simp [Conv.bytesToString, loadCells, loadCellsFrom, strOf]

theorem convD_run {P : Program} {h : Hp} {s d : TypeId} {x : C} {K : PV → Prop} (hc : convD P h (P.underlying s) (P.underlying d) x K) :
    ∃ pv, K pv ∧ ∀ g0 pk g c, HeapOk g0 pk g h → RepC g h x c → ∃ v, (convert s d c).run P g.w = .ok v g.w ∧ RepPV g h pv v := by
  unfold convD at hc
  split at hc
  · rename_i K ds k _ n h1 h2
    obtain ⟨hin, hK⟩ := hc
    refine ⟨_, hK, fun g0 pk g c hk hr => ?_⟩
    simp only [RepC] at hr
    subst hr
    exact ⟨_, by simp [convert, run_underlying h1, run_underlying h2, Conv.intToInt, wrap_in hin], rfl⟩
  · rename_i K ds _ n h1 h2
    refine ⟨_, hc, fun g0 pk g c hk hr => ?_⟩
    simp only [RepC] at hr
    subst hr
    exact ⟨_, by simp [convert, run_underlying h1, run_underlying h2, Conv.intToString], rfl⟩
  · rename_i K e sz xs h1 h2
    obtain ⟨he, hc⟩ := hc
    obtain ⟨ns, hns, hK⟩ := optK_ex hc
    refine ⟨_, hK, fun g0 pk g c hk hr => ⟨.string (strOf ns), ?_, rfl⟩⟩
    obtain ⟨a, cap, rfl, _, _, _, _, ha, hrow⟩ := hr
    rw [run_convert_bytes_string g.w s d e a _ cap h1 he h2]
    have hx := bytesL_map hns
    subst hx
    rw [flat_bytes] at hrow
    cases a with
    | none =>
      have := ha rfl
      cases ns with
      | nil => exact run_bytes0 cap
      | cons n ns => simp at *; omega
    | some ad =>
      obtain ⟨hs, hrow⟩ := hrow ad rfl
      obtain ⟨b, off, sp⟩ := ad
      simp at hs
      subst hs
      rw [List.length_map]
      exact run_bytes (fun j u hu => by
        obtain ⟨hj, e⟩ := List.getElem?_eq_some_iff.1 hu
        rw [← e]; exact (hrow j hj).1) cap
  · rename_i K e id h1 h2
    obtain ⟨he, hc⟩ := hc
    obtain ⟨lo, hlo, hl, hc⟩ := optK_ex hc
    obtain ⟨ns, hns, hK⟩ := optK_ex hc
    refine ⟨_, hK, fun g0 pk g c hk hr => ⟨.string (strOf ns), ?_, rfl⟩⟩
    obtain ⟨_, rfl⟩ := hr
    have hL := hk.lists id lo (fnd_mem hlo) hl
    have hx := bytesL_map hns
    have hown := hL.own
    rw [hx, flat_bytes, List.length_map] at hown
    rcases hown.2 with ⟨hv, hz⟩ | ⟨gg, cap, cur, hv, _⟩
    · rw [hv, run_convert_bytes_string g.w s d e none _ _ h1 he h2]
      have : ns = [] := List.eq_nil_of_length_eq_zero hz
      subst this
      exact run_bytes0 0
    · rw [hv, run_convert_bytes_string g.w s d e _ _ cap h1 he h2]
      exact run_bytes (fun j u hu => by
        have := hown.cells (g := gg) (by rw [hv]; rfl) j u hu
        rwa [Addr.add_lit] at this) cap
  · exact hc.elim

theorem loadP_run {P : Program} {h : Hp} {t : TypeId} {n : Option Nat} {x : C} {K : PV → Prop} (hn : aggN P t = some n) (hc : loadP h n x K) :
    ∃ pv, K pv ∧ ∀ g0 pk g c, HeapOk g0 pk g h → RepC g h x c → ∃ v, (Instr.loadAt t c).run P g.w = .ok v g.w ∧ RepPV g h pv v := by
  unfold loadP at hc
  split at hc
  · rename_i K id off
    obtain ⟨cs, hcs, hc⟩ := optK_ex hc
    obtain ⟨pv, hK, hs⟩ := loadC_sound (P := P) hn hc
    refine ⟨pv, hK, fun g0 pk g c hk hr => ?_⟩
    obtain ⟨_, rfl⟩ := hr
    obtain ⟨v, h1, h2⟩ := hs g h (g.bx id) 0 (box_cells hk (fnd_mem hcs))
    rw [Nat.zero_add] at h1
    exact ⟨v, by simp [Instr.loadAt, Instr.sureAddr, h1], h2⟩
  · rename_i K cs
    obtain ⟨pv, hK, hs⟩ := loadC_sound (P := P) hn hc
    refine ⟨pv, hK, fun g0 pk g c hk hr => ?_⟩
    obtain ⟨b, off, rfl, hrow⟩ := hr
    obtain ⟨v, h1, h2⟩ := hs g h b off hrow.cells
    rw [Nat.add_zero] at h1
    exact ⟨v, by simp [Instr.loadAt, Instr.sureAddr, h1], h2⟩
  · rename_i K id sz idx off
    obtain ⟨lo, hlo, ⟨hl, hsz⟩, hc2⟩ := optK_ex hc
    subst hsz
    obtain ⟨x, hx, hc3⟩ := optK_ex hc2
    obtain ⟨pv, hK, hs⟩ := loadC_sound (P := P) hn hc3
    refine ⟨pv, hK, fun g0 pk g c hk hr => ?_⟩
    obtain ⟨_, b, n, cap, hv, rfl⟩ := hr
    obtain ⟨v, h1, h2⟩ := hs g h b (idx * lo.sz) (list_cells hk (fnd_mem hlo) hl hv hx)
    exact ⟨v, by simp [Instr.loadAt, Instr.sureAddr, h1], h2⟩
  · exact hc.elim

theorem fieldP_run {P : Program} {h : Hp} {t : TypeId} {f : Nat} {fo : Nat × Nat} {x : C} {K : PV → Prop} (hf : fOff P t f = some fo) (hc : fieldP fo x K) :
    ∃ pv, K pv ∧ ∀ g c, RepC g h x c → ∃ v, (Instr.fieldAt t c f).run P g.w = .ok v g.w ∧ RepPV g h pv v := by
  unfold fOff at hf
  split at hf
  · rename_i fs hu
    split at hf
    · rename_i fd hfd
      simp at hf
      obtain ⟨i, hi, rfl⟩ := hf
      unfold fieldP at hc
      split at hc
      · obtain ⟨hz, hK⟩ := hc
        refine ⟨_, hK, fun g c hr => ?_⟩
        obtain ⟨hm, rfl⟩ := hr
        have hz' : ¬ i.size = 0 := hz
        refine ⟨_, by simp [Instr.fieldAt, Instr.sureAddr, run_underlying hu, hfd, fieldPlace, sizeOf, typeInfo, hi, hz', Addr.add_lit], hm, rfl⟩
      · obtain ⟨hz, hK⟩ := hc
        refine ⟨_, hK, fun g c hr => ?_⟩
        obtain ⟨b, off, rfl, hrow⟩ := hr
        have hz' : ¬ i.size = 0 := hz
        exact ⟨_, by simp [Instr.fieldAt, Instr.sureAddr, run_underlying hu, hfd, fieldPlace, sizeOf, typeInfo, hi, hz', Addr.add_lit], b, off + fd.offset, rfl, hrow.drop _⟩
      · obtain ⟨hz, hK⟩ := hc
        refine ⟨_, hK, fun g c hr => ?_⟩
        obtain ⟨hm, b, n, cap, hv, rfl⟩ := hr
        have hz' : ¬ i.size = 0 := hz
        exact ⟨.pointer (some ⟨b, _, none⟩), by simp [Instr.fieldAt, Instr.sureAddr, run_underlying hu, hfd, fieldPlace, sizeOf, typeInfo, hi, hz', Addr.add_lit]; rfl, hm, b, n, cap, hv, by simp [Nat.add_assoc]⟩
      · exact hc.elim
    · cases hf
  · cases hf

theorem fieldV_run {P : Program} {h : Hp} {t : TypeId} {f : Nat} {fp : Nat × Option Nat} {x : V1} {K : PV → Prop} (hf : fPart P t f = some fp) (hc : fieldV fp x K) :
    ∃ pv, K pv ∧ ∀ g c, RepV1 g h x c → ∃ v, (Instr.field t c f).run P g.w = .ok v g.w ∧ RepPV g h pv v := by
  unfold fPart at hf
  split at hf
  · rename_i fs hu
    split at hf
    · rename_i fd hfd
      simp at hf
      obtain ⟨n, hn, rfl⟩ := hf
      unfold fieldV at hc
      split at hc
      · rename_i K cs
        cases n with
        | none =>
          obtain ⟨c, hc, hK⟩ := optK_ex hc
          refine ⟨_, hK, fun g u hr => ?_⟩
          obtain ⟨us, rfl, h2⟩ := hr
          obtain ⟨y, hy, hR⟩ := h2.get _ _ hc
          have hy' : us[fd.offset]? = some y := by simpa using hy
          exact ⟨y, by simp [Instr.field, run_underlying hu, hfd, asAgg, part, (run_isAgg hn g.w).1, hy'], hR⟩
        | some n =>
          obtain ⟨hle, hK⟩ := hc
          refine ⟨_, hK, fun g u hr => ?_⟩
          obtain ⟨us, rfl, h2⟩ := hr
          refine ⟨.agg (us.extract fd.offset (fd.offset + n)), by simp [Instr.field, run_underlying hu, hfd, asAgg, part, (run_isAgg hn g.w).1, (run_isAgg hn g.w).2 n rfl], _, rfl, ?_⟩
          have := (h2.drop fd.offset).take n
          simpa [Array.toList_extract, List.extract_eq_take_drop, Nat.add_sub_cancel_left] using this
      · exact hc.elim
    · cases hf
  · cases hf

theorem indexP_run {P : Program} {h : Hp} {t : TypeId} {es : TypeId × Nat} {x i : C} {K : PV → Prop} (he : eSz P t = some es) (hc : indexP h es.2 x i K) :
    ∃ pv, K pv ∧ ∀ g0 pk g c ci, HeapOk g0 pk g h → RepC g h x c → RepC g h i ci → ∃ v, (Instr.indexAt t c ci).run P g.w = .ok v g.w ∧ RepPV g h pv v := by
  unfold eSz at he
  split at he
  · rename_i e hu
    simp at he
    obtain ⟨inf, hi, rfl⟩ := he
    unfold indexP at hc
    split at hc
    · rename_i K sz xs k n
      obtain ⟨rfl, h0, hc⟩ := hc
      obtain ⟨x, hx, hK⟩ := optK_ex hc
      refine ⟨_, hK, fun g0 pk g c ci hk hr hri => ?_⟩
      simp only [RepC] at hri
      subst hri
      obtain ⟨a, cap, rfl, hlc, _, _, hsz, ha, hrow⟩ := hr
      have hlt : n.toNat < xs.length := (List.getElem?_eq_some_iff.1 hx).1
      cases a with
      | none => have := ha rfl; omega
      | some ad =>
        obtain ⟨hs, hrow⟩ := hrow ad rfl
        obtain ⟨b, off, sp⟩ := ad
        simp at hs
        subst hs
        have hcond : 0 ≤ n ∧ n < (xs.length : Int) := by omega
        refine ⟨.pointer (some ⟨b, off + n.toNat * inf.size, none⟩), by simp [Instr.indexAt, asIntOf, run_underlying hu, hcond, sizeOf, typeInfo, hi, Addr.add_lit], b, off + n.toNat * inf.size, rfl, ?_⟩
        have := hrow.drop (n.toNat * inf.size)
        rw [flat_get hsz hx] at this
        exact this.left
    · rename_i K id k n
      obtain ⟨lo, hlo, ⟨hl, hes⟩, h0, hc⟩ := optK_ex hc
      obtain ⟨x, hx, hK⟩ := optK_ex hc
      refine ⟨_, hK, fun g0 pk g c ci hk hr hri => ?_⟩
      simp only [RepC] at hri
      subst hri
      obtain ⟨hm, rfl⟩ := hr
      have hL := hk.lists id lo (fnd_mem hlo) hl
      have hlt : n.toNat < lo.xs.length := (List.getElem?_eq_some_iff.1 hx).1
      rcases hL.own.2 with ⟨hv, hz⟩ | ⟨gg, cap, cur, hv, _⟩
      · omega
      · have hcond : 0 ≤ n ∧ n < (lo.xs.length : Int) := by omega
        exact ⟨.pointer (some ⟨gg, n.toNat * inf.size, none⟩), by simp [hv, Instr.indexAt, asIntOf, run_underlying hu, hcond, sizeOf, typeInfo, hi, Addr.add_lit], hm, gg, _, _, hv, by simp⟩
    · exact hc.elim
  · cases he

theorem indexS_run {P : Program} {h : Hp} {t : TypeId} {x i : C} {K : PV → Prop} (hu : P.underlying t = some .string) (hc : indexS x i K) :
    ∃ pv, K pv ∧ ∀ g c ci, RepC g h x c → RepC g h i ci → ∃ v, (Instr.index t c ci).run P g.w = .ok v g.w ∧ RepPV g h pv v := by
  unfold indexS at hc
  split at hc
  · obtain ⟨h0, hc⟩ := hc
    obtain ⟨b, hb, hK⟩ := optK_ex hc
    refine ⟨_, hK, fun g c ci hr hri => ?_⟩
    simp only [RepC] at hr hri
    subst hr hri
    exact ⟨_, by simp [Instr.index, asIntOf, run_underlying hu, h0, hb], rfl⟩
  · exact hc.elim

theorem lenK_run {P : Program} {h : Hp} {t ty : TypeId} {x : C} {K : PV → Prop} (hc : lenK h (P.underlying t) x K) :
    ∃ pv, K pv ∧ ∀ g0 pk g c, HeapOk g0 pk g h → RepC g h x c → ∃ v, (Builtin.len_ #[t] ty #[c]).run P g.w = .ok v g.w ∧ RepPV g h pv v := by
  unfold lenK at hc
  split at hc
  · rename_i hu
    refine ⟨_, hc, fun g0 pk g c hk hr => ?_⟩
    simp only [RepC] at hr
    subst hr
    exact ⟨_, by simp [Builtin.len_, run_underlying hu, goInt], rfl⟩
  · rename_i e hu
    obtain ⟨n, hn, hK⟩ := optK_ex hc
    refine ⟨_, hK, fun g0 pk g c hk hr => ?_⟩
    unfold lenC at hn
    split at hn
    · simp at hn
      subst hn
      obtain ⟨a, cap, rfl, _⟩ := hr
      exact ⟨_, by simp [Builtin.len_, run_underlying hu, goInt], rfl⟩
    · rename_i id
      split at hn
      · rename_i lo hlo
        split at hn
        · rename_i hl
          simp at hn
          subst hn
          obtain ⟨hm, rfl⟩ := hr
          have hL := hk.lists id lo (fnd_mem hlo) hl
          rcases hL.own.2 with ⟨hv, hz⟩ | ⟨gg, cap, cur, hv, _⟩
          · rw [hv, hz]
            exact ⟨_, by simp [Builtin.len_, run_underlying hu, goInt], rfl⟩
          · rw [hv]
            exact ⟨_, by simp [Builtin.len_, run_underlying hu, goInt], rfl⟩
        · cases hn
      · cases hn
    · simp at hn
      subst hn
      simp only [RepC] at hr
      subst hr
      exact ⟨_, by simp [Builtin.len_, run_underlying hu, goInt], rfl⟩
    · cases hn
  · exact hc.elim

theorem loK_ex {lo : Option PV} {K : Nat → Prop} (h : loK lo K) : ∃ a, K a ∧ ((lo = none ∧ a = 0) ∨ ∃ k n, lo = some (vV (.int k n)) ∧ 0 ≤ n ∧ a = n.toNat) := by
  unfold loK at h
  split at h
  · exact ⟨0, h, .inl ⟨rfl, rfl⟩⟩
  · exact ⟨_, h.2, .inr ⟨_, _, rfl, h.1, rfl⟩⟩
  · exact h.elim
theorem hiK_ex {len : Nat} {hi : Option PV} {K : Nat → Prop} (h : hiK len hi K) : ∃ b, K b ∧ b ≤ len ∧ ((hi = none ∧ b = len) ∨ ∃ k n, hi = some (vV (.int k n)) ∧ 0 ≤ n ∧ b = n.toNat) := by
  unfold hiK at h
  split at h
  · exact ⟨len, h, Nat.le_refl _, .inl ⟨rfl, rfl⟩⟩
  · exact ⟨_, h.2.2, by omega, .inr ⟨_, _, rfl, h.1, rfl⟩⟩
  · exact h.elim

theorem bounds_run {P : Program} {isS : Bool} {len cap a b : Nat} {lo hi : Option PV} {clo chi : Option Value} {g : Gh} {h : Hp}
    (hlo : (lo = none ∧ a = 0) ∨ ∃ k n, lo = some (vV (.int k n)) ∧ 0 ≤ n ∧ a = n.toNat)
    (hhi : (hi = none ∧ b = len) ∨ ∃ k n, hi = some (vV (.int k n)) ∧ 0 ≤ n ∧ b = n.toNat) (hab : a ≤ b) (hbc : b ≤ cap)
    (h1 : ∀ x, lo = some x → ∃ c, clo = some c ∧ RepPV g h x c) (h1n : lo = none → clo = none)
    (h2 : ∀ x, hi = some x → ∃ c, chi = some c ∧ RepPV g h x c) (h2n : hi = none → chi = none) (w : World) :
    (Instr.sliceBounds isS len cap clo chi none).run P w = .ok (a, b, cap) w := by
  rcases hlo with ⟨rfl, rfl⟩ | ⟨k, n, rfl, h0, rfl⟩ <;> rcases hhi with ⟨rfl, rfl⟩ | ⟨k', n', rfl, h0', rfl⟩
  · rw [h1n rfl, h2n rfl]
    simp [Instr.sliceBounds]
  · obtain ⟨c, rfl, hc⟩ := h2 _ rfl
    simp only [RepPV, RepV1, RepC] at hc
    subst hc
    rw [h1n rfl]
    have : 0 ≤ n' ∧ n' ≤ (cap : Int) := by omega
    simp [Instr.sliceBounds, Instr.sliceBound, asIntOf, this]
  · obtain ⟨c, rfl, hc⟩ := h1 _ rfl
    simp only [RepPV, RepV1, RepC] at hc
    subst hc
    rw [h2n rfl]
    have : 0 ≤ n ∧ n ≤ (b : Int) := by omega
    simp [Instr.sliceBounds, Instr.sliceBound, asIntOf, this]
  · obtain ⟨c, rfl, hc⟩ := h1 _ rfl
    simp only [RepPV, RepV1, RepC] at hc
    subst hc
    obtain ⟨c, rfl, hc⟩ := h2 _ rfl
    simp only [RepPV, RepV1, RepC] at hc
    subst hc
    have e1 : 0 ≤ n' ∧ n' ≤ (cap : Int) := by omega
    have e2 : 0 ≤ n ∧ n ≤ max n' 0 := by omega
    simp [Instr.sliceBounds, Instr.sliceBound, asIntOf, e1, e2]

theorem sliceD_run {P : Program} {h : Hp} {t : TypeId} {x : C} {lo hi : Option PV} {K : PV → Prop} (hc : sliceD h (eSz P t) (P.underlying t) x lo hi K) :
    ∃ pv, K pv ∧ ∀ g c clo chi, RepC g h x c → (∀ x, lo = some x → ∃ c, clo = some c ∧ RepPV g h x c) → (lo = none → clo = none) →
      (∀ x, hi = some x → ∃ c, chi = some c ∧ RepPV g h x c) → (hi = none → chi = none) → ∃ v, (Instr.sliceAt t c clo chi none).run P g.w = .ok v g.w ∧ RepPV g h pv v := by
  unfold sliceD at hc
  split at hc
  · rename_i K s hu
    obtain ⟨b, hc, hbl, hhi⟩ := hiK_ex hc
    obtain ⟨a, ⟨hab, hK⟩, hlo⟩ := loK_ex hc
    refine ⟨_, hK, fun g c clo chi hr h1 h1n h2 h2n => ?_⟩
    simp only [RepC] at hr
    subst hr
    have hb := bounds_run (P := P) (isS := false) (len := s.size) (cap := s.size) hlo hhi hab hbl h1 h1n h2 h2n g.w
    exact ⟨_, by simp [Instr.sliceAt, Instr.slice, run_underlying hu, hb], rfl⟩
  · rename_i K e sz xs hu
    obtain ⟨hes, hc⟩ := hc
    obtain ⟨b, hc, hbl, hhi⟩ := hiK_ex hc
    obtain ⟨a, ⟨hab, hK⟩, hlo⟩ := loK_ex hc
    refine ⟨_, hK, fun g c clo chi hr h1 h1n h2 h2n => ?_⟩
    simp only [eSz, hu, Option.map_map, Option.map_eq_some_iff] at hes
    obtain ⟨inf, hi, hsz'⟩ := hes
    simp only [Function.comp] at hsz'
    obtain ⟨ad, cap, rfl, hlc, hm, hpos, hsz, ha, hrow⟩ := hr
    have hb := bounds_run (P := P) (isS := true) (len := xs.length) (cap := cap) hlo hhi hab (by omega) h1 h1n h2 h2n g.w
    have hlen : ((xs.take b).drop a).length = b - a := by simp; omega
    refine ⟨.slice (if cap = a then ad else ad.map (·.add (a * sz))) (b - a) (cap - a), by simp [Instr.sliceAt, Instr.slice, run_underlying hu, hb, sizeOf, typeInfo, hi, hsz'], ?_⟩
    refine ⟨_, _, by rw [hlen], by omega, by omega, ⟨hpos.1, fun u hu => ?_⟩, fun x hx => hsz x (List.mem_of_mem_take (List.mem_of_mem_drop hx)), ?_, ?_⟩
    · obtain ⟨x, hx, hux⟩ := List.mem_flatMap.1 hu
      exact hpos.2 u (List.mem_flatMap.2 ⟨x, List.mem_of_mem_take (List.mem_of_mem_drop hx), hux⟩)
    · intro hn
      cases ad with
      | none => have := ha rfl; omega
      | some ad => split at hn
                   · omega
                   · simp at hn
    · intro ad' had
      have hfl : flat ((xs.take b).drop a) = ((flat xs).take (b * sz)).drop (a * sz) := by
        rw [flat_take hsz, flat_drop (fun x hx => hsz x (List.mem_of_mem_take hx))]
      split at had
      · subst had
        obtain ⟨hs, hrow⟩ := hrow ad' rfl
        have hba : b = a := by omega
        subst hba
        refine ⟨hs, ?_⟩
        have : (xs.take b).drop b = [] := by simp
        rw [this]
        intro j hj
        simp [flat] at hj
      · cases ad with
        | none => simp at had
        | some ad =>
          obtain ⟨hs, hrow⟩ := hrow ad rfl
          obtain ⟨bb, off, sp⟩ := ad
          simp at hs
          subst hs
          simp only [Option.map_some, Addr.add_lit, Option.some.injEq] at had
          subst had
          refine ⟨rfl, ?_⟩
          rw [hfl]
          exact (hrow.take _).drop _
  · exact hc.elim

theorem nilK_run {P : Program} {h : Hp} {x : C} {K : PV → Prop} {o : Oper} {X : Operand} (hc : nilK x K) (ho : o.op = .nilCheck X) :
    ∃ pv, K pv ∧ ∀ g (ρ : Operand → Value), RepC g h x (ρ X) → ∃ v, (execOp ρ o).run P g.w = .ok (.value v) g.w ∧ RepPV g h pv v := by
  unfold nilK at hc
  split at hc
  · refine ⟨_, hc, fun g ρ hr => ⟨ρ X, ?_, hr⟩⟩
    obtain ⟨_, e⟩ := hr
    simp [execOp, ho, e]
  · refine ⟨_, hc, fun g ρ hr => ⟨ρ X, ?_, hr⟩⟩
    obtain ⟨b, off, e, _⟩ := hr
    simp [execOp, ho, e]
  · exact hc.elim

end Go.PL
