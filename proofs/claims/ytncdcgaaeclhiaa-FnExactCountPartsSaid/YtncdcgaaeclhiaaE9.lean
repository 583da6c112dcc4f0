/-
  Slice literals, new variables, slices of own lists; calls by their contracts.
-/
import Derived.Test.YtncdcgaaeclhiaaE8
namespace Go.PL
open Go.RowKit
set_option linter.unusedSimpArgs false
set_option linter.unusedVariables false

/-! ### slice literals -/
def numbered : Nat → List Value → List (Nat × Value)
  | _, [] => []
  | k, x :: xs => (k, x) :: numbered (k + 1) xs
def seqParts : Nat → List (Nat × Operand) → Bool
  | _, [] => true
  | k, (i, _) :: r => if i = k then seqParts (k + 1) r else false
theorem splice_two (l : List Value) (p : Nat) (a b : List Value) (h : p + (a.length + b.length) ≤ l.length) : splice (splice l p a) (p + a.length) b = splice l p (a ++ b) := by
  have h1 : l = l.take p ++ (l.drop p).take (a.length + b.length) ++ l.drop (p + (a.length + b.length)) := by
    rw [List.append_assoc, ← List.drop_drop, List.take_append_drop, List.take_append_drop]
  unfold splice
  apply List.ext_getElem?
  intro j
  have m1 : min p l.length = p := by omega
  simp only [List.getElem?_append, List.getElem?_take, List.getElem?_drop, List.length_append, List.length_take, List.length_drop, m1]
  have m2 : min (p + a.length) (p + a.length + (l.length - (p + a.length))) = p + a.length := by omega
  simp only [m2]
  by_cases j1 : j < p
  · have : j < p + a.length := by omega
    have h3 : j < p + a.length + b.length := by omega
    have h4 : j < p + (a.length + b.length) := by omega
    simp [j1, this, h3, h4]
  · by_cases j2 : j < p + a.length
    · have h3 : j < p + a.length + b.length := by omega
      have h4 : j < p + (a.length + b.length) := by omega
      have h5 : j - p < a.length := by omega
      simp [j1, j2, h3, h4, h5]
    · by_cases j3 : j < p + a.length + b.length
      · have h4 : j < p + (a.length + b.length) := by omega
        have h5 : ¬ j - p < a.length := by omega
        have h6 : j - p - a.length = j - (p + a.length) := by omega
        simp [j1, j2, j3, h4, h5, h6]
      · have h4 : ¬ j < p + (a.length + b.length) := by omega
        have h5 : ¬ (p + a.length + b.length + (j - (p + a.length + b.length)) < p) := by omega
        have h6 : ¬ (p + a.length + b.length + (j - (p + a.length + b.length)) < p + a.length) := by omega
        simp only [j2, j3, h4, h5, h6, if_false]
        congr 1
        omega
theorem fill_seq (sz : Nat) : ∀ (l : List Value) (k : Nat) (arr : Array Value), (∀ x ∈ l, x.cells.size = sz) → (k + l.length) * sz ≤ arr.size →
    ∃ arr', Instr.fill (fun i => some (i * sz, sz)) arr (numbered k l) = some arr' ∧ arr'.toList = splice arr.toList (k * sz) (flat l)
  | [], k, arr, _, _ => ⟨arr, rfl, by simp [splice, flat]⟩
  | x :: l, k, arr, hsz, hle => by
    have hx := hsz x (by simp)
    have hb : (k + 1) * sz + l.length * sz ≤ arr.size := by
      have : (k + (l.length + 1)) * sz = (k + 1) * sz + l.length * sz := by rw [← Nat.add_mul]; congr 1; omega
      simp only [List.length_cons] at hle
      omega
    have hb1 : (k + 1) * sz = k * sz + sz := by rw [Nat.add_mul, Nat.one_mul]
    have hf := foldl_splice x.cells.toList 0 (k * sz) arr (by simp; omega)
    have e : x.cells.zipIdx.foldl (fun cs x => cs.setIfInBounds (k * sz + x.2) x.1) arr = (x.cells.toList.zipIdx 0).foldl (fun cs (y : Value × Nat) => cs.setIfInBounds (k * sz + y.2) y.1) arr := by
      rw [← Array.foldl_toList, Array.toList_zipIdx]
    have hsize : ((x.cells.toList.zipIdx 0).foldl (fun cs (y : Value × Nat) => cs.setIfInBounds (k * sz + y.2) y.1) arr).size = arr.size := by
      have := congrArg List.length hf
      rw [splice_len _ _ _ (by simp; omega)] at this
      simpa using this
    obtain ⟨arr', h1, h2⟩ := fill_seq sz l (k + 1) ((x.cells.toList.zipIdx 0).foldl (fun cs (y : Value × Nat) => cs.setIfInBounds (k * sz + y.2) y.1) arr) (fun y hy => hsz y (by simp [hy])) (by
      rw [hsize, Nat.add_mul]
      exact hb)
    refine ⟨arr', ?_, ?_⟩
    · simp only [numbered, Instr.fill]
      rw [if_neg (by simp; omega), e]
      exact h1
    · rw [h2, hf, hb1]
      have hxl : x.cells.toList.length = sz := by simpa using hx
      have := splice_two arr.toList (k * sz) x.cells.toList (flat l) (by
        rw [hxl, flat_len (fun y hy => hsz y (by simp [hy]))]
        simp
        omega)
      rw [hxl] at this
      simp only [Nat.add_zero]
      rw [this]
      simp [flat]

theorem partsV_exact {g : Gh} {h : Hp} {ρ : Operand → PV} {a : Operand → Value} : ∀ (parts : List (Nat × Operand)) (k : Nat) (xs : List Value), partsV ρ parts = some xs → seqParts k parts = true → (∀ p ∈ parts, RepPV g h (ρ p.2) (a p.2)) →
    parts.map (fun p => (p.1, a p.2)) = numbered k xs
  | [], k, xs, h1, _, _ => by simp [partsV] at h1; subst h1; rfl
  | (i, x) :: parts, k, xs, h1, h2, h3 => by
    simp only [partsV] at h1
    simp only [seqParts] at h2
    split at h2
    · rename_i hik
      cases hx : exactPV (ρ x) with
      | none => simp [hx] at h1
      | some u =>
        cases hr : partsV ρ parts with
        | none => simp [hx, hr] at h1
        | some us =>
          simp [hx, hr] at h1
          subst h1
          have hxr := h3 (i, x) (by simp)
          simp only at hxr
          have : a x = u := by
            unfold exactPV at hx
            split at hx
            · rename_i y hy
              rw [hy] at hxr
              exact exactV1_rep hx hxr
            · cases hx
          simp only [List.map_cons, numbered]
          rw [partsV_exact parts (k + 1) us hr h2 (fun p hp => h3 p (by simp [hp])), this, hik]
    · cases h2

def bsK (P : Program) (h : Hp) (ρ : Operand → PV) (t n d : Nat) (parts : List (Nat × Operand)) (K : Hp → Prop) : Prop :=
  optK (eInf P t) fun ei => optK (partsV ρ parts) fun xs =>
    (seqParts 0 parts = true ∧ xs.length = n ∧ (xs.all fun x => decide (x.cells.size = ei.2.1)) = true ∧ ((flat xs).all Value.oneCell') = true ∧ 0 < ei.2.1 ∧ n * ei.2.1 ≤ 16777216 ∧ hasKey h.lists d = false) ∧
    K { h with lists := (d, { e := ei.1, sz := ei.2.1, xs := xs, pub := false, live := true }) :: h.lists }

theorem newList {g0 : Gh} {pk : Pk} {g : Gh} {h : Hp} (hk : HeapOk g0 pk g h) (wf : WfG g h) {d : Nat} (hd : hasKey h.lists d = false) {e sz : Nat} {xs : List Value} {cells : Array Value} (cap : Nat)
    (hcells : cells.toList.take (xs.length * sz) = flat xs) (hsize : cells.size = cap * sz) (hcap : xs.length ≤ cap) (hmax : cap ≤ maxLen) (hsz : ∀ x ∈ xs, x.cells.size = sz) (hone : ∀ c ∈ flat xs, c.oneCell' = true) (hpos : 0 < sz) :
    ∃ g', g'.w = g.w.alloc (.cells cells e) ∧ HeapOk g0 pk g' { h with lists := (d, { e := e, sz := sz, xs := xs, pub := false, live := true }) :: h.lists } ∧
      WfG g' { h with lists := (d, { e := e, sz := sz, xs := xs, pub := false, live := true }) :: h.lists } ∧ Ext g h g' { h with lists := (d, { e := e, sz := sz, xs := xs, pub := false, live := true }) :: h.lists } ∧
      RepC g' { h with lists := (d, { e := e, sz := sz, xs := xs, pub := false, live := true }) :: h.lists } (.o d) (.slice (some ⟨g.w.heap.size, 0, none⟩) xs.length cap) := by
  have hown : (g.w.alloc (.cells cells e)).ownsRow 0 e sz (.slice (some ⟨g.w.heap.size, 0, none⟩) xs.length cap) xs.length (flat xs) :=
    ⟨flat_len hsz, .inr ⟨g.w.heap.size, cap, cells, rfl, Nat.zero_le _, heap_alloc_new g.w _, hcap, hmax, hsize, hcells⟩⟩
  obtain ⟨g', hg1, hg2, hk', hext, hovs⟩ := hk.putList hd h.lists none (fun id' lo' hm hl' => ⟨hm, by simp⟩) (fun id' lo' hm => ⟨lo', hm⟩) (fun id' lo' hm => ⟨lo', hm⟩) (by simp)
    (v := .slice (some ⟨g.w.heap.size, 0, none⟩) xs.length cap) (w' := g.w.alloc (.cells cells e)) (lo := { e := e, sz := sz, xs := xs, pub := false, live := true }) rfl hown hsz hpos hone rfl rfl rfl (by simp)
    (fun k hk' _ => heap_alloc_old g.w _ hk') (by simp) (fun b hb => .inr (by simp [Value.ownBlock] at hb; omega))
  refine ⟨g', hg1, hk', ⟨fun id' lo' hm => ?_, ⟨hd, wf.nd⟩⟩, hext, ⟨_, List.mem_cons_self ..⟩, hg2.symm⟩
  rcases List.mem_cons.1 hm with hm | hm
  · rw [(Prod.mk.inj hm).1, hg2]; rfl
  · by_cases hid : id' = d
    · rw [hid, hg2]; rfl
    · rw [hovs id' hid]; exact wf.ov id' lo' hm

theorem bs_run {P : Program} {ρ : Operand → PV} {t : TypeId} {ei : TypeId × Nat × Nat} {parts : Array (Nat × Operand)} {xs : List Value} (hei : eInf P t = some ei) (hxs : partsV ρ parts.toList = some xs) (hseq : seqParts 0 parts.toList = true)
    (hsz : ∀ x ∈ xs, x.cells.size = ei.2.1) (hpos : 0 < ei.2.1) (hle : xs.length * ei.2.1 ≤ 16777216) {g : Gh} {h : Hp} (a : Operand → Value) (hρ : ∀ p ∈ parts.toList, RepPV g h (ρ p.2) (a p.2)) :
    (Instr.buildSlice t xs.length (parts.map fun p => (p.1, a p.2))).run P g.w = .ok (.slice (some ⟨g.w.heap.size, 0, none⟩) xs.length xs.length) (g.w.alloc (.cells (flat xs).toArray ei.1)) ∧ xs.length ≤ maxLen := by
  obtain ⟨i, z, hu, hi, hz, hs1, hb1, hzs⟩ := eInf_ex hei
  have hparts := partsV_exact parts.toList 0 xs hxs hseq hρ
  have hfl : (flat xs).length = xs.length * ei.2.1 := flat_len hsz
  have hfill : ∀ zc : Array Value, zc.size = xs.length * ei.2.1 → Instr.fill (fun i => some (i * ei.2.1, ei.2.1)) zc (numbered 0 xs) = some (flat xs).toArray := fun zc hzc => by
    obtain ⟨arr', h1, h2⟩ := fill_seq ei.2.1 xs 0 zc hsz (by rw [hzc]; simp)
    rw [h1]
    congr 1
    apply Array.ext'
    rw [h2]
    simp [splice]
    omega
  have hmax : xs.length ≤ maxLen := by
    have : xs.length * 1 ≤ xs.length * ei.2.1 := Nat.mul_le_mul_left _ hpos
    simp only [maxLen]
    omega
  refine ⟨?_, hmax⟩
  have hn : ¬ (16777216 < xs.length * ei.2.1) := by omega
  by_cases h0 : xs.length * ei.2.1 = 0
  · have hf := hfill (Array.map (fun _ => default) (Array.range 0)) (by simp [h0])
    simp [Instr.buildSlice, run_underlying hu, sizeOf, typeInfo, hi, hs1, hn, h0, zeroValue, hz, newRow, hparts]
    simp only [Array.range_zero', Array.map_empty] at hf ⊢
    rw [hf]
    simp
  · have hf := hfill (Array.map (fun x => z.cells[x % z.cells.size]!) (Array.range (xs.length * ei.2.1))) (by simp)
    simp [Instr.buildSlice, run_underlying hu, sizeOf, typeInfo, hi, hs1, hn, h0, zeroValue, hz, newRow, hparts]
    rw [hf]
    simp

theorem bsK_sound {P : Program} {h : Hp} {ρ : Operand → PV} {t n d : Nat} {parts : Array (Nat × Operand)} {K : Hp → Prop} (hc : bsK P h ρ t n d parts.toList K) :
    ∃ h', K h' ∧ ∀ g0 pk g (a : Operand → Value), HeapOk g0 pk g h → WfG g h → (∀ p ∈ parts.toList, RepPV g h (ρ p.2) (a p.2)) →
      ∃ v g', (Instr.buildSlice t n (parts.map fun p => (p.1, a p.2))).run P g.w = .ok v g'.w ∧ HeapOk g0 pk g' h' ∧ WfG g' h' ∧ Ext g h g' h' ∧ RepC g' h' (.o d) v := by
  obtain ⟨ei, hei, hc⟩ := optK_ex hc
  obtain ⟨xs, hxs, ⟨hseq, hlen, hall, hone, hpos, hle, hd⟩, hK⟩ := optK_ex hc
  refine ⟨_, hK, fun g0 pk g a hk hwf hρ => ?_⟩
  have hsz : ∀ x ∈ xs, x.cells.size = ei.2.1 := by simpa using hall
  have hone' : ∀ c ∈ flat xs, c.oneCell' = true := by simpa using hone
  subst hlen
  have hfl : (flat xs).length = xs.length * ei.2.1 := flat_len hsz
  obtain ⟨hrun, hmax⟩ := bs_run hei hxs hseq hsz hpos hle a hρ
  obtain ⟨g', hg1, hk', hwf', hext, hrep⟩ := newList hk hwf hd (e := ei.1) (cells := (flat xs).toArray) xs.length (by simp [← hfl]) (by simpa using hfl) (Nat.le_refl _) hmax hsz hone' hpos
  exact ⟨_, g', by rw [hg1]; exact hrun, hk', hwf', hext, hrep⟩

/-! ### make -/
def zeroV (P : Program) (e : TypeId) : Option Value := (P.info? e).bind (·.zero)
def msK (P : Program) (h : Hp) (t d : Nat) (l c : Value) (K : Hp → Prop) : Prop :=
  match l, c with
  | .int _ l, .int _ c => optK (eInf P t) fun ei => optK (zeroV P ei.1) fun z =>
    (0 ≤ l ∧ l ≤ c ∧ (ei.2.2 : Int) * c ≤ 281474976710656 ∧ c ≤ 9223372036854775807 ∧ 0 < ei.2.1 ∧ (z.cells.toList.all Value.oneCell') = true ∧ hasKey h.lists d = false) ∧
    K { h with lists := (d, { e := ei.1, sz := ei.2.1, xs := List.replicate l.toNat z, pub := false, live := true }) :: h.lists }
  | _, _ => False
theorem flat_replicate_made {z : Value} : ∀ (n : Nat), (madeCells z.cells (n * z.cells.size)).toList = flat (List.replicate n z)
  | 0 => by simp [madeCells, flat]
  | n + 1 => by
    have ih := flat_replicate_made (z := z) n
    have e1 : (madeCells z.cells ((n + 1) * z.cells.size)).toList = (madeCells z.cells (n * z.cells.size)).toList ++ z.cells.toList := by
      simp only [madeCells, Array.toList_map, Array.toList_range, Nat.succ_mul]
      rw [List.range_add, List.map_append, List.map_map]
      congr 1
      apply List.ext_getElem?
      intro j
      by_cases hj : j < z.cells.size
      · simp [hj, Nat.mod_eq_of_lt hj]
      · simp [hj]
    rw [e1, ih, List.replicate_succ']
    simp [flat]
theorem msK_sound {P : Program} {h : Hp} {t d : Nat} {l c : Value} {K : Hp → Prop} (hc : msK P h t d l c K) :
    ∃ h', K h' ∧ ∀ g0 pk g, HeapOk g0 pk g h → WfG g h → ∃ v g', (Instr.makeSlice t l c).run P g.w = .ok v g'.w ∧ HeapOk g0 pk g' h' ∧ WfG g' h' ∧ Ext g h g' h' ∧ RepC g' h' (.o d) v := by
  unfold msK at hc
  split at hc
  · rename_i kl l kc c
    obtain ⟨ei, hei, hc⟩ := optK_ex hc
    obtain ⟨z0, hz0, ⟨h0, hlc, hb, h63, hpos, hone, hd⟩, hK⟩ := optK_ex hc
    refine ⟨_, hK, fun g0 pk g hk hwf => ?_⟩
    obtain ⟨i, z, hu, hi, hz, hs1, hb1, hzs⟩ := eInf_ex hei
    have hzz : z0 = z := by simp [zeroV, hi, hz] at hz0; exact hz0.symm
    subst hzz
    have hrun := run_make (P := P) g.w t ei.1 i z0 hu hi hz kl kc l c h0 hlc (by rw [hb1]; exact hb) h63
    have hcells : (madeCells z0.cells (c.toNat * i.size)).toList = flat (List.replicate c.toNat z0) := by
      rw [hs1, ← hzs]; exact flat_replicate_made _
    have hlc' : l.toNat ≤ c.toNat := Int.toNat_le_toNat hlc
    have hone' : ∀ u ∈ z0.cells.toList, u.oneCell' = true := List.all_eq_true.1 hone
    have hsz : ∀ x ∈ List.replicate l.toNat z0, x.cells.size = ei.2.1 := fun x hx => by rw [List.eq_of_mem_replicate hx]; exact hzs
    obtain ⟨g', hg1, hk', hwf', hext, hrep⟩ := newList hk hwf hd (e := ei.1) (sz := ei.2.1) (xs := List.replicate l.toNat z0) (cells := madeCells z0.cells (c.toNat * i.size)) c.toNat (by
      rw [hcells, List.length_replicate]
      have e2 : List.replicate c.toNat z0 = List.replicate l.toNat z0 ++ List.replicate (c.toNat - l.toNat) z0 := by rw [List.replicate_append_replicate, Nat.add_sub_of_le hlc']
      have e3 : flat (List.replicate c.toNat z0) = flat (List.replicate l.toNat z0) ++ flat (List.replicate (c.toNat - l.toNat) z0) := by rw [e2]; exact List.flatMap_append
      have e4 : (flat (List.replicate l.toNat z0)).length = l.toNat * ei.2.1 := by rw [flat_len hsz, List.length_replicate]
      rw [e3, ← e4, List.take_left' rfl]) (by rw [size_madeCells, hs1]) (by simpa using hlc') (by simp only [maxLen]; omega) hsz (fun u hu => by
        simp only [flat, List.mem_flatMap] at hu
        obtain ⟨x, hx, hu⟩ := hu
        rw [List.eq_of_mem_replicate hx] at hu
        exact hone' u hu) hpos
    refine ⟨_, g', by rw [hg1]; exact hrun, hk', hwf', hext, ?_⟩
    simpa using hrep
  · exact hc.elim

end Go.PL
