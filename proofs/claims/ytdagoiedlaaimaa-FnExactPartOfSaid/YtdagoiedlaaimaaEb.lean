/-
  Calls that hand back own lists or boxes, or write boxes that they were given.
-/
import Derived.Test.YtdagoiedlaaimaaEa
namespace Go.PL
open Go.RowKit
set_option linter.unusedSimpArgs false
set_option linter.unusedVariables false

def dropK {α : Type} (ks : List Nat) : List (Nat × α) → List (Nat × α)
  | [] => []
  | (k, x) :: r => if k ∈ ks then dropK ks r else (k, x) :: dropK ks r
theorem mem_dropK {α : Type} {ks : List Nat} {l : List (Nat × α)} {k : Nat} {x : α} : (k, x) ∈ dropK ks l ↔ (k, x) ∈ l ∧ k ∉ ks := by
  induction l with
  | nil => simp [dropK]
  | cons y r ih =>
    obtain ⟨k', y⟩ := y
    simp only [dropK]
    split
    · rename_i hk
      rw [ih]
      constructor
      · exact fun h => ⟨List.mem_cons_of_mem _ h.1, h.2⟩
      · rintro ⟨h1, h2⟩
        rcases List.mem_cons.1 h1 with h | h
        · rw [(Prod.mk.inj h).1] at h2; exact absurd hk h2
        · exact ⟨h, h2⟩
    · rename_i hk
      rw [List.mem_cons, ih]
      constructor
      · rintro (h | h)
        · rw [h]; exact ⟨by simp, by rw [(Prod.mk.inj h).1]; exact hk⟩
        · exact ⟨List.mem_cons_of_mem _ h.1, h.2⟩
      · rintro ⟨h1, h2⟩
        rcases List.mem_cons.1 h1 with h | h
        · exact .inl h
        · exact .inr ⟨h, h2⟩
theorem dropK_nil {α : Type} (l : List (Nat × α)) : dropK [] l = l := by
  induction l with
  | nil => rfl
  | cons y r ih => obtain ⟨k', y⟩ := y; simp [dropK, ih]
theorem hasKey_append {α : Type} (l m : List (Nat × α)) (k : Nat) : hasKey (l ++ m) k = (hasKey l k || hasKey m k) := by
  induction l with
  | nil => simp [hasKey]
  | cons y r ih =>
    obtain ⟨k', y⟩ := y
    simp only [List.cons_append, hasKey]
    split
    · simp
    · exact ih
theorem noDup_append {α : Type} : ∀ {l m : List (Nat × α)}, noDup l → noDup m → (∀ k x, (k, x) ∈ l → hasKey m k = false) → noDup (l ++ m)
  | [], _, _, h, _ => h
  | (k, x) :: l, m, ⟨h1, h2⟩, hm, hd => by
    refine ⟨?_, noDup_append h2 hm fun k' x' h => hd k' x' (List.mem_cons_of_mem _ h)⟩
    show hasKey (l ++ m) k = false
    rw [hasKey_append, h1, hd k x (by simp)]
    rfl
theorem key_of_has {α : Type} {l : List (Nat × α)} {k : Nat} (h : hasKey l k = true) : ∃ x, (k, x) ∈ l := by
  induction l with
  | nil => simp [hasKey] at h
  | cons y r ih =>
    obtain ⟨k', y⟩ := y
    simp only [hasKey] at h
    split at h
    · rename_i hk; exact ⟨y, by simp [hk]⟩
    · obtain ⟨x, hx⟩ := ih h; exact ⟨x, List.mem_cons_of_mem _ hx⟩

/-- the memory behind a call -/
def mergeH (h : Hp) (bxs : List (Nat × List C)) (h' : Hp) : Hp :=
  { boxes := h'.boxes ++ dropK (bxs.map Prod.fst) h.boxes, lists := h'.lists ++ pubAll h.lists }
def plainC : C → Bool
  | .v _ => true
  | .l .. => true
  | .q _ => true
  | .any => true
  | _ => false
theorem plainC_rep {g : Gh} {h h' : Hp} {x : C} {u : Value} (hp : plainC x = true) (hr : RepC g h x u) : RepC g h' x u := by
  cases x <;> first | exact hr | (simp [plainC] at hp)

theorem callB_ok {P : Program} {f : FuncId} {bxs : List (Nat × List C)} {vs : List V1} {r : PV} {h h' : Hp} {args : List PV} (hc : PCalls P f bxs vs r h')
    (hbx : ∀ id cs, (id, cs) ∈ bxs → (id, cs) ∈ h.boxes ∧ cs.all plainC = true) (hv : viewArgs h args = some vs) (hok : vs.all (okV1 (bxs.map Prod.fst)) = true)
    (hfl : ∀ id lo, (id, lo) ∈ h'.lists → hasKey h.lists id = false) (hfb : ∀ id cs, (id, cs) ∈ h'.boxes → id ∈ bxs.map Prod.fst ∨ hasKey h.boxes id = false)
    {g0 : Gh} {pk : List Nat} {g : Gh} {cargs : Array Value} (hk : HeapOk g0 pk g h) (wf : WfG g h) (ha : All2 (RepPV g h) args cargs.toList) :
    Calls P f cargs g.w fun e w' => ∃ g' v, e = .returned v ∧ g'.w = w' ∧ HeapOk g0 pk g' (mergeH h bxs h') ∧ WfG g' (mergeH h bxs h') ∧ Ext g h g' (mergeH h bxs h') ∧ RepPV g' (mergeH h bxs h') r v := by
  obtain ⟨hk1, he1⟩ := hk.pub' wf
  have hent : HeapOk (pubG g h) (bxs.map Prod.fst) (pubG g h) ⟨bxs, []⟩ := by
    refine ⟨rfl, rfl, rfl, Nat.le_refl _, fun _ _ _ => rfl, fun _ _ h => ⟨h, rfl⟩, fun _ _ _ h => h, hk1.vin, fun id hid => ?_, fun id cs hm => ?_, fun _ _ h => by simp at h, fun id cs id' cs' hm hm' hne => ?_, fun _ _ _ _ h => by simp at h, fun _ _ _ _ h => by simp at h⟩
    · obtain ⟨⟨i, cs⟩, h5, rfl⟩ := List.mem_map.1 hid
      exact ⟨cs, h5⟩
    · have hb := hk1.boxes id cs (hbx id cs hm).1
      obtain ⟨arr, ty, h1, h2, h3⟩ := hb.cells
      exact ⟨.inr ⟨List.mem_map.2 ⟨_, hm, rfl⟩, rfl⟩, hb.hid, arr, ty, h1, all2_all (fun _ _ => plainC_rep) (hbx id cs hm).2 h2, h3⟩
    · exact hk1.sepB id cs id' cs' (hbx id cs hm).1 (hbx id' cs' hm').1 hne
  have hargs := viewArgs_rep hk wf (fun id cs hm => (hbx id cs hm).1) hv hok ha
  refine (hc.2 (pubG g h) cargs hent hargs).mono fun e w' hx => ?_
  obtain ⟨g', v, rfl, rfl, h1, h2, h3⟩ := hx
  generalize hg1 : pubG g h = g1 at *
  let gm : Gh := { w := g'.w, V := g'.V, bx := fun id => if hasKey h'.boxes id = true then g'.bx id else g1.bx id, ov := fun id => if hasKey h'.lists id = true then g'.ov id else g1.ov id }
  have gbx' : ∀ id cs, (id, cs) ∈ h'.boxes → gm.bx id = g'.bx id := fun id cs hm => by simp [gm, hasKey_of_mem hm]
  have gov' : ∀ id lo, (id, lo) ∈ h'.lists → gm.ov id = g'.ov id := fun id lo hm => by simp [gm, hasKey_of_mem hm]
  have gov : ∀ id lo, (id, lo) ∈ pubAll h.lists → gm.ov id = g1.ov id ∧ hasKey h'.lists id = false := fun id lo hm => by
    obtain ⟨lo0, hm0, _⟩ := mem_pubAll hm
    have : hasKey h'.lists id = false := by
      cases hh : hasKey h'.lists id with
      | false => rfl
      | true =>
        obtain ⟨x, hx⟩ := key_of_has hh
        have := hfl id x hx
        rw [hasKey_of_mem hm0] at this
        cases this
    exact ⟨by simp [gm, this], this⟩
  have gbx : ∀ id cs, (id, cs) ∈ h.boxes → id ∉ bxs.map Prod.fst → gm.bx id = g1.bx id := fun id cs hm hn => by
    have : hasKey h'.boxes id = false := by
      cases hh : hasKey h'.boxes id with
      | false => rfl
      | true =>
        obtain ⟨x, hx⟩ := key_of_has hh
        rcases hfb id x hx with h5 | h5
        · exact absurd h5 hn
        · rw [hasKey_of_mem hm] at h5; cases h5
    simp [gm, this]
  have bxk : ∀ id ∈ bxs.map Prod.fst, ∃ cs, (id, cs) ∈ bxs := fun id hm => by
    obtain ⟨⟨i, cs⟩, h5, rfl⟩ := List.mem_map.1 hm
    exact ⟨cs, h5⟩
  have gbxk : ∀ id cs, (id, cs) ∈ h'.boxes → id ∈ bxs.map Prod.fst → g'.bx id = g1.bx id := fun id cs hm hin => by
    rcases (h1.boxes id cs hm).own with ⟨h5, _⟩ | ⟨_, h5⟩
    · exact absurd hin h5
    · exact h5
  have hsame : ∀ k, k < g1.w.heap.size → (∀ id ∈ bxs.map Prod.fst, g1.bx id ≠ k) → g'.w.heap[k]? = g1.w.heap[k]? := h1.frame
  have hold : ∀ b o, b < g1.w.heap.size → (g'.V b o ↔ g1.V b o) := fun b o hb => ⟨h1.old b o hb, fun hv => (h1.vis b o hv).1⟩
  have hmB : ∀ id cs, (id, cs) ∈ (mergeH h bxs h').boxes → (id, cs) ∈ h'.boxes ∨ ((id, cs) ∈ h.boxes ∧ id ∉ bxs.map Prod.fst) := fun id cs hm => by
    rcases List.mem_append.1 hm with h5 | h5
    · exact .inl h5
    · exact .inr (mem_dropK.1 h5)
  have hmL : ∀ id lo, (id, lo) ∈ (mergeH h bxs h').lists → (id, lo) ∈ h'.lists ∨ (id, lo) ∈ pubAll h.lists := fun id lo hm => List.mem_append.1 hm
  -- what the callee shows is shown
  have he' : Ext g' h' gm (mergeH h bxs h') := ⟨fun b o hv => ⟨hv, rfl⟩, fun id cs hm => ⟨⟨cs, List.mem_append_left _ hm⟩, gbx' id cs hm⟩, fun id lo hm => ⟨⟨lo, List.mem_append_left _ hm⟩, gov' id lo hm⟩⟩
  -- what was shown before the call is shown
  have he2 : Ext g1 { h with lists := pubAll h.lists } gm (mergeH h bxs h') := by
    refine ⟨fun b o hv => h1.vis b o hv, fun id cs hm => ?_, fun id lo hm => ⟨⟨lo, List.mem_append_right _ hm⟩, (gov id lo hm).1⟩⟩
    by_cases hin : id ∈ bxs.map Prod.fst
    · obtain ⟨cs', hm'⟩ := h1.pkin id hin
      exact ⟨⟨cs', List.mem_append_left _ hm'⟩, (gbx' id cs' hm').trans (gbxk id cs' hm' hin)⟩
    · exact ⟨⟨cs, List.mem_append_right _ (mem_dropK.2 ⟨hm, hin⟩)⟩, gbx id cs hm hin⟩
  have keepB : ∀ id cs, (id, cs) ∈ h.boxes → id ∉ bxs.map Prod.fst → g'.w.heap[g1.bx id]? = g1.w.heap[g1.bx id]? := fun id cs hm hn => by
    refine hsame _ (hk1.boxes id cs hm).lt fun id' hid' e => ?_
    obtain ⟨cs', h5⟩ := bxk id' hid'
    exact hk1.sepB id' cs' id cs (hbx id' cs' h5).1 hm (fun e' => hn (e' ▸ hid')) e
  have keepL : ∀ id lo, (id, lo) ∈ pubAll h.lists → lo.live = true → ∀ b, blk g1 id = some b → g'.w.heap[b]? = g1.w.heap[b]? := fun id lo hm hl b hb => by
    refine hsame _ ((hk1.lists id lo hm hl).lt hb).2 fun id' hid' e => ?_
    obtain ⟨cs', h5⟩ := bxk id' hid'
    exact hk1.sepX id lo id' cs' hm (hbx id' cs' h5).1 hl (by rw [hb, e])
  have blk' : ∀ id lo, (id, lo) ∈ h'.lists → blk gm id = blk g' id := fun id lo hm => by simp only [blk, gov' id lo hm]
  have blk1 : ∀ id lo, (id, lo) ∈ pubAll h.lists → blk gm id = blk g1 id := fun id lo hm => by simp only [blk, (gov id lo hm).1]
  have bxcase : ∀ id cs, (id, cs) ∈ h'.boxes → g1.w.heap.size ≤ g'.bx id ∨ ∃ cs0, (id, cs0) ∈ bxs ∧ g'.bx id = g1.bx id := fun id cs hm => by
    rcases (h1.boxes id cs hm).own with ⟨_, h5⟩ | ⟨h5, h6⟩
    · exact .inl h5
    · obtain ⟨cs0, h7⟩ := bxk id h5
      exact .inr ⟨cs0, h7, h6⟩
  have hkm : HeapOk g0 pk gm (mergeH h bxs h') := by
    refine ⟨h1.os.trans hk1.os, h1.tape.trans hk1.tape, h1.output.trans hk1.output, Nat.le_trans hk1.size h1.size, ?_, ?_, ?_, h1.vin, ?_, ?_, ?_, ?_, ?_, ?_⟩
    · intro k hlt hne
      rw [← hk1.frame k hlt hne]
      refine hsame k (Nat.lt_of_lt_of_le hlt hk1.size) fun id hid e => ?_
      obtain ⟨cs', h5⟩ := bxk id hid
      rcases (hk1.boxes id cs' (hbx id cs' h5).1).own with ⟨_, h6⟩ | ⟨h6, h7⟩
      · omega
      · exact hne id h6 (by rw [← h7, e])
    · intro b o hv
      have h5 := hk1.vis b o hv
      have h6 := h1.vis b o h5.1
      exact ⟨h6.1, h6.2.trans h5.2⟩
    · intro b o hb hv
      exact hk1.old b o hb ((hold b o (Nat.lt_of_lt_of_le hb hk1.size)).1 hv)
    · intro id hid
      obtain ⟨cs, hm⟩ := hk1.pkin id hid
      exact (he2.box id cs hm).1
    · intro id cs hm
      rcases hmB id cs hm with hm | ⟨hm, hn⟩
      · have hb := h1.boxes id cs hm
        obtain ⟨arr, ty, h5, h6, h7⟩ := hb.cells
        refine ⟨?_, ?_, arr, ty, ?_, h6.mono fun _ _ => RepC.ext he', h7⟩
        · rw [gbx' id cs hm]
          rcases bxcase id cs hm with h8 | ⟨cs0, h8, h9⟩
          · left
            refine ⟨fun hin => ?_, Nat.le_trans hk1.size h8⟩
            obtain ⟨cs1, hm1⟩ := hk1.pkin id hin
            rcases hfb id cs hm with h10 | h10
            · rw [gbxk id cs hm h10] at h8
              have := (hk1.boxes id cs1 hm1).lt
              omega
            · rw [hasKey_of_mem hm1] at h10; cases h10
          · rw [h9]
            exact (hk1.boxes id cs0 (hbx id cs0 h8).1).own
        · rw [gbx' id cs hm]; exact hb.hid
        · rw [gbx' id cs hm]; exact h5
      · have hb := hk1.boxes id cs hm
        exact hb.keep he2 (gbx id cs hm hn) (keepB id cs hm hn) fun o hv => hb.hid o ((hold _ o hb.lt).1 hv)
    · intro id lo hm hl
      rcases hmL id lo hm with hm | hm
      · have hb := h1.lists id lo hm hl
        refine ⟨?_, hb.sz, hb.pos, hb.one, fun b hb' o => hb.vis b (by rw [← blk' id lo hm]; exact hb') o⟩
        rw [gov' id lo hm]
        refine ⟨hb.own.1, ?_⟩
        rcases hb.own.2 with h5 | ⟨gg, cap, cur, h5, h6, r⟩
        · exact .inl h5
        · exact .inr ⟨gg, cap, cur, h5, Nat.le_trans hk1.size h6, r⟩
      · have hb := hk1.lists id lo hm hl
        exact hb.keep (gov id lo hm).1 (keepL id lo hm hl) fun b hb' o => hold b o (hb.lt hb').2
    · intro id cs id' cs' hm hm' hne
      rcases hmB id cs hm with h5 | ⟨h5, hn⟩ <;> rcases hmB id' cs' hm' with h6 | ⟨h6, hn'⟩
      · rw [gbx' _ _ h5, gbx' _ _ h6]; exact h1.sepB id cs id' cs' h5 h6 hne
      · rw [gbx' _ _ h5, gbx _ _ h6 hn']
        rcases bxcase id cs h5 with h7 | ⟨cs0, h7, h8⟩
        · have := (hk1.boxes id' cs' h6).lt; omega
        · rw [h8]; exact hk1.sepB id cs0 id' cs' (hbx id cs0 h7).1 h6 hne
      · rw [gbx _ _ h5 hn, gbx' _ _ h6]
        rcases bxcase id' cs' h6 with h7 | ⟨cs0, h7, h8⟩
        · have := (hk1.boxes id cs h5).lt; omega
        · rw [h8]; exact hk1.sepB id cs id' cs0 h5 (hbx id' cs0 h7).1 hne
      · rw [gbx _ _ h5 hn, gbx _ _ h6 hn']; exact hk1.sepB id cs id' cs' h5 h6 hne
    · intro id lo id' lo' hm hm' hl hl' hne b hb
      rcases hmL id lo hm with h5 | h5 <;> rcases hmL id' lo' hm' with h6 | h6
      · rw [blk' _ _ h5] at hb; rw [blk' _ _ h6]; exact h1.sepL id lo id' lo' h5 h6 hl hl' hne b hb
      · rw [blk' _ _ h5] at hb
        rw [blk1 _ _ h6]
        intro e
        have h7 := ((h1.lists id lo h5 hl).lt hb).1
        have h8 := ((hk1.lists id' lo' h6 hl').lt e).2
        omega
      · rw [blk1 _ _ h5] at hb
        rw [blk' _ _ h6]
        intro e
        have h7 := ((h1.lists id' lo' h6 hl').lt e).1
        have h8 := ((hk1.lists id lo h5 hl).lt hb).2
        omega
      · rw [blk1 _ _ h5] at hb; rw [blk1 _ _ h6]; exact hk1.sepL id lo id' lo' h5 h6 hl hl' hne b hb
    · intro id lo id' cs hm hm' hl
      rcases hmL id lo hm with h5 | h5 <;> rcases hmB id' cs hm' with h6 | ⟨h6, hn'⟩
      · rw [blk' _ _ h5, gbx' _ _ h6]; exact h1.sepX id lo id' cs h5 h6 hl
      · rw [blk' _ _ h5, gbx _ _ h6 hn']
        intro e
        have h7 := ((h1.lists id lo h5 hl).lt e).1
        have h8 := (hk1.boxes id' cs h6).lt
        omega
      · rw [blk1 _ _ h5, gbx' _ _ h6]
        intro e
        rcases bxcase id' cs h6 with h7 | ⟨cs0, h7, h8⟩
        · have h8 := ((hk1.lists id lo h5 hl).lt e).2
          omega
        · exact hk1.sepX id lo id' cs0 h5 (hbx id' cs0 h7).1 hl (by rw [e, h8])
      · rw [blk1 _ _ h5, gbx _ _ h6 hn']; exact hk1.sepX id lo id' cs h5 h6 hl
  have hwf : WfG gm (mergeH h bxs h') := by
    refine ⟨fun id lo hm => ?_, noDup_append h2.nd wf.nd.pubAll fun k x hm => by rw [hasKey_pubAll]; exact hfl k x hm⟩
    rcases hmL id lo hm with h5 | h5
    · rw [gov' id lo h5]; exact h2.ov id lo h5
    · rw [(gov id lo h5).1, ← hg1]
      obtain ⟨lo0, h6, _⟩ := mem_pubAll h5
      exact wf.ov id lo0 h6
  exact ⟨gm, v, rfl, rfl, hkm, hwf, Ext.trans (hg1 ▸ he1) he2, h3.ext he'⟩

end Go.PL
