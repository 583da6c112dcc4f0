/-
  Code on abstract values; loops; a function's beginning and end.
-/
import Derived.Test.YtncdcgaaeclhiaaEc
namespace Go.PL
open Go.RowKit
set_option linter.unusedSimpArgs false
set_option linter.unusedVariables false

def thenE (f : St → Prop) (Q : Exit → St → Prop) : Exit → St → Prop
  | .normal, σ => f σ
  | e, σ => Q e σ
def blockE (id : Nat) (Q : Exit → St → Prop) : Exit → St → Prop
  | .exit id', σ => if id' = id then Q .normal σ else Q (.exit id') σ
  | e, σ => Q e σ
def lift (g0 : Gh) (pk : Pk) (Q : Exit → St → Prop) : Exit → Act → World → Prop := fun e a w => ∃ σ, Sim g0 pk σ a w ∧ Q e σ
/-- the meaning: from every memory that fits -/
def CodeW (P : Program) (pk : Pk) (c : Code) (Q : Exit → St → Prop) (σ : St) : Prop := ∀ g0 a w, Sim g0 pk σ a w → c.wp P (lift g0 pk Q) a w
def condK : PV → Prop → Prop → Prop
  | .s (.c (.v (.bool t))), A, B => (t = true → A) ∧ (t = false → B)
  | _, _, _ => False
def cK (P : Program) (pk : Pk) : Code → (Exit → St → Prop) → St → Prop
  | .skip, Q, σ => Q .normal σ
  | .region id ops draw, Q, σ => if draw = true then CodeW P pk (.region id ops true) Q σ else opsK P ops ops.toList σ fun σ' => Q .normal σ'
  | .seq a b, Q, σ => cK P pk a (thenE (fun σ' => cK P pk b Q σ') Q) σ
  | .cond c a b, Q, σ => condK (σ.ev c) (cK P pk a Q σ) (cK P pk b Q σ)
  | .block id b, Q, σ => cK P pk b (blockE id Q) σ
  | .exit id, Q, σ => Q (.exit id) σ
  | .ret, Q, σ => Q .ret σ
  | c, Q, σ => CodeW P pk c Q σ

theorem cK_sound {P : Program} {pk : Pk} : ∀ (c : Code) (Q : Exit → St → Prop) (σ : St), cK P pk c Q σ → CodeW P pk c Q σ := by
  intro c
  induction c with
  | skip => exact fun Q σ h g0 a w s => wp_skip ⟨σ, s, h⟩
  | region id ops draw =>
    intro Q σ h
    simp only [cK] at h
    cases draw with
    | true => exact h
    | false =>
      intro g0 a w s
      exact wp_region_list (opsK_sound ops.toList σ _ a w h s fun σ' a' w' h1 h2 => ⟨σ', h2, h1⟩)
  | seq x y ihx ihy =>
    intro Q σ h g0 a w s
    refine wp_seq (wp_mono (ihx _ σ h g0 a w s) fun e a' w' hq => ?_)
    obtain ⟨σ', s', hq⟩ := hq
    cases e with
    | normal => exact ihy Q σ' hq g0 a' w' s'
    | _ => exact ⟨σ', s', hq⟩
  | cond c x y ihx ihy =>
    intro Q σ h g0 a w s
    simp only [cK] at h
    unfold condK at h
    split at h
    · rename_i t hc
      obtain ⟨g, rfl, s'⟩ := s
      have hv := s'.ev c
      rw [hc] at hv
      simp only [RepPV, RepV1, RepC] at hv
      cases t with
      | true => exact wp_cond_true hv (ihx Q σ (h.1 rfl) g0 a g.w ⟨g, rfl, s'⟩)
      | false => exact wp_cond_false hv (ihy Q σ (h.2 rfl) g0 a g.w ⟨g, rfl, s'⟩)
    · exact h.elim
  | block id b ih =>
    intro Q σ h g0 a w s
    refine wp_block (wp_mono (ih _ σ h g0 a w s) fun e a' w' hq => ?_)
    obtain ⟨σ', s', hq⟩ := hq
    cases e with
    | exit id' =>
      by_cases hid : id' = id
      · simp only [blockE, Exit.inBlock, hid, if_true] at hq ⊢
        exact ⟨σ', s', hq⟩
      · simp only [blockE, Exit.inBlock, hid, if_false] at hq ⊢
        exact ⟨σ', s', hq⟩
    | _ => exact ⟨σ', s', hq⟩
  | exit id => exact fun Q σ h g0 a w s => wp_exit ⟨σ, s, h⟩
  | ret => exact fun Q σ h g0 a w s => wp_ret ⟨σ, s, h⟩
  | _ => exact fun Q σ h => h

/-! ### forgetting and renaming -/
def renC (fb fl : Nat → Nat) : C → C
  | .o id => .o (fl id)
  | .p id off => .p (fb id) off
  | .e id sz idx off => .e (fl id) sz idx off
  | x => x
def renV1 (fb fl : Nat → Nat) : V1 → V1
  | .c x => .c (renC fb fl x)
  | .a xs => .a (xs.map (renC fb fl))
def renPV (fb fl : Nat → Nat) : PV → PV
  | .s x => .s (renV1 fb fl x)
  | .t xs => .t (xs.map (renV1 fb fl))
def keyC (h : Hp) : C → Bool
  | .o id => hasKey h.lists id
  | .p id _ => hasKey h.boxes id
  | .e id .. => hasKey h.lists id
  | _ => true
def keyV1 (h : Hp) : V1 → Bool
  | .c x => keyC h x
  | .a xs => xs.all (keyC h)
def keyPV (h : Hp) : PV → Bool
  | .s x => keyV1 h x
  | .t xs => xs.all (keyV1 h)
def csR (fb fl : Nat → Nat) (h' : Hp) : List C → List C → Prop
  | [], [] => True
  | x0 :: r0, x :: r => (keyC h' x = true ∧ x0 = renC fb fl x) ∧ csR fb fl h' r0 r
  | _, _ => False
def boxesR (fb fl : Nat → Nat) (h h' : Hp) : List (Nat × List C) → Prop
  | [] => True
  | (id, cs) :: r => optK (fnd h.boxes (fb id)) (fun cs0 => csR fb fl h' cs0 cs) ∧ boxesR fb fl h h' r
def listsR (fl : Nat → Nat) (h : Hp) : List (Nat × LO) → Prop
  | [] => True
  | (id, lo) :: r => fnd h.lists (fl id) = some lo ∧ listsR fl h r
structure RenOk (pk : Pk) (fb fl : Nat → Nat) (h h' : Hp) : Prop where
  boxes : boxesR fb fl h h' h'.boxes
  lists : listsR fl h h'.lists
  injB : (h'.boxes.map fun x => fb x.1).Nodup
  injL : (h'.lists.map fun x => fl x.1).Nodup
  pk : (∀ id ∈ pk.bs, fb id = id ∧ hasKey h'.boxes id = true) ∧ (∀ id ∈ pk.ls, fl id = id ∧ hasKey h'.lists id = true)

theorem boxesR_mem {fb fl : Nat → Nat} {h h' : Hp} : ∀ {l : List (Nat × List C)}, boxesR fb fl h h' l → ∀ id cs, (id, cs) ∈ l → ∃ cs0, (fb id, cs0) ∈ h.boxes ∧ csR fb fl h' cs0 cs
  | [], _, _, _, hm => by simp at hm
  | (i, c) :: r, ⟨h1, h2⟩, id, cs, hm => by
    rcases List.mem_cons.1 hm with hm | hm
    · obtain ⟨rfl, rfl⟩ := Prod.mk.inj hm
      obtain ⟨cs0, h3, h4⟩ := optK_ex h1
      exact ⟨cs0, fnd_mem h3, h4⟩
    · exact boxesR_mem h2 id cs hm
theorem listsR_mem {fl : Nat → Nat} {h : Hp} : ∀ {l : List (Nat × LO)}, listsR fl h l → ∀ id lo, (id, lo) ∈ l → (fl id, lo) ∈ h.lists
  | [], _, _, _, hm => by simp at hm
  | (i, c) :: r, ⟨h1, h2⟩, id, cs, hm => by
    rcases List.mem_cons.1 hm with hm | hm
    · obtain ⟨rfl, rfl⟩ := Prod.mk.inj hm
      exact fnd_mem h1
    · exact listsR_mem h2 id cs hm
theorem nodup_inj {α : Type} {f : Nat → Nat} : ∀ {l : List (Nat × α)}, (l.map fun x => f x.1).Nodup → ∀ i x j y, (i, x) ∈ l → (j, y) ∈ l → f i = f j → i = j
  | [], _, _, _, _, _, hm, _, _ => by simp at hm
  | (k, z) :: r, hn, i, x, j, y, hi, hj, e => by
    simp only [List.map_cons, List.nodup_cons] at hn
    rcases List.mem_cons.1 hi with hi | hi <;> rcases List.mem_cons.1 hj with hj | hj
    · rw [(Prod.mk.inj hi).1, (Prod.mk.inj hj).1]
    · exact absurd (List.mem_map.2 ⟨(j, y), hj, by rw [← e, (Prod.mk.inj hi).1]⟩) hn.1
    · exact absurd (List.mem_map.2 ⟨(i, x), hi, by rw [e, (Prod.mk.inj hj).1]⟩) hn.1
    · exact nodup_inj hn.2 i x j y hi hj e

def renG (fb fl : Nat → Nat) (g : Gh) : Gh := { g with bx := fun id => g.bx (fb id), ov := fun id => g.ov (fl id) }
theorem RepC.ren {fb fl : Nat → Nat} {g : Gh} {h h' : Hp} {x : C} {u : Value} (hkx : keyC h' x = true) (hr : RepC g h (renC fb fl x) u) : RepC (renG fb fl g) h' x u := by
  cases x with
  | v x => exact hr
  | l sz xs => exact hr
  | o id => exact ⟨key_of_has hkx, hr.2⟩
  | p id off => exact ⟨key_of_has hkx, hr.2⟩
  | q cs => exact hr
  | e id sz idx off => exact ⟨key_of_has hkx, hr.2⟩
  | any => trivial
theorem csR_rep {fb fl : Nat → Nat} {g : Gh} {h h' : Hp} : ∀ {cs0 cs : List C} {us : List Value}, csR fb fl h' cs0 cs → All2 (RepC g h) cs0 us → All2 (RepC (renG fb fl g) h') cs us
  | [], [], [], _, _ => trivial
  | x0 :: r0, x :: r, u :: us, ⟨⟨h1, h2⟩, h3⟩, ⟨h4, h5⟩ => ⟨RepC.ren h1 (by rw [← h2]; exact h4), csR_rep h3 h5⟩
  | [], _ :: _, _, h, _ => h.elim
  | _ :: _, [], _, h, _ => h.elim
  | [], [], _ :: _, _, h => h.elim
  | _ :: _, _ :: _, [], _, h => h.elim
theorem all2_ren {fb fl : Nat → Nat} {g : Gh} {h h' : Hp} : ∀ {xs : List C} {us : List Value}, xs.all (keyC h') = true → All2 (RepC g h) (xs.map (renC fb fl)) us → All2 (RepC (renG fb fl g) h') xs us
  | [], [], _, _ => trivial
  | x :: xs, u :: us, hk, ⟨h1, h2⟩ => by
    simp only [List.all_cons, Bool.and_eq_true] at hk
    exact ⟨RepC.ren hk.1 h1, all2_ren hk.2 h2⟩
  | [], _ :: _, _, h => h.elim
  | _ :: _, [], _, h => h.elim
theorem RepV1.ren {fb fl : Nat → Nat} {g : Gh} {h h' : Hp} {x : V1} {u : Value} (hkx : keyV1 h' x = true) (hr : RepV1 g h (renV1 fb fl x) u) : RepV1 (renG fb fl g) h' x u := by
  cases x with
  | c x => exact RepC.ren hkx hr
  | a xs => obtain ⟨cs, rfl, h2⟩ := hr; exact ⟨cs, rfl, all2_ren hkx h2⟩
theorem all2_renV {fb fl : Nat → Nat} {g : Gh} {h h' : Hp} : ∀ {xs : List V1} {us : List Value}, xs.all (keyV1 h') = true → All2 (RepV1 g h) (xs.map (renV1 fb fl)) us → All2 (RepV1 (renG fb fl g) h') xs us
  | [], [], _, _ => trivial
  | x :: xs, u :: us, hk, ⟨h1, h2⟩ => by
    simp only [List.all_cons, Bool.and_eq_true] at hk
    exact ⟨RepV1.ren hk.1 h1, all2_renV hk.2 h2⟩
  | [], _ :: _, _, h => h.elim
  | _ :: _, [], _, h => h.elim
theorem RepPV.ren {fb fl : Nat → Nat} {g : Gh} {h h' : Hp} {x : PV} {u : Value} (hkx : keyPV h' x = true) (hr : RepPV g h (renPV fb fl x) u) : RepPV (renG fb fl g) h' x u := by
  cases x with
  | s x => exact RepV1.ren hkx hr
  | t xs => obtain ⟨cs, rfl, h2⟩ := hr; exact ⟨cs, rfl, all2_renV hkx h2⟩

theorem HeapOk.ren {g0 : Gh} {pk : Pk} {g : Gh} {h h' : Hp} (hk : HeapOk g0 pk g h) {fb fl : Nat → Nat} (hr : RenOk pk fb fl h h') : HeapOk g0 pk (renG fb fl g) h' := by
  have hB : ∀ id cs, (id, cs) ∈ h'.boxes → ∃ cs0, (fb id, cs0) ∈ h.boxes ∧ csR fb fl h' cs0 cs := fun id cs hm => boxesR_mem hr.boxes id cs hm
  have hL : ∀ id lo, (id, lo) ∈ h'.lists → (fl id, lo) ∈ h.lists := fun id lo hm => listsR_mem hr.lists id lo hm
  refine ⟨hk.os, hk.tape, hk.output, hk.size, hk.frame, hk.vis, hk.old, hk.vin, ?_, ?_, ?_, ?_, ?_, ?_, ?_⟩
  · intro id hid
    exact key_of_has (hr.pk.1 id hid).2
  · intro id hid
    obtain ⟨e, hkey⟩ := hr.pk.2 id hid
    exact ⟨key_of_has hkey, by show g.ov (fl id) = _; rw [e]; exact (hk.lsin id hid).2⟩
  · intro id cs hm
    obtain ⟨cs0, hm0, hcs⟩ := hB id cs hm
    have hb := hk.boxes _ _ hm0
    obtain ⟨arr, ty, h1, h2, h3⟩ := hb.cells
    refine ⟨?_, hb.hid, arr, ty, h1, csR_rep hcs h2, h3⟩
    by_cases hid : id ∈ pk.bs
    · right
      refine ⟨hid, ?_⟩
      have e := (hr.pk.1 id hid).1
      rcases hb.own with ⟨h5, _⟩ | ⟨_, h5⟩
      · rw [e] at h5; exact absurd hid h5
      · rw [e] at h5; show g.bx (fb id) = _; rw [e]; exact h5
    · left
      refine ⟨hid, ?_⟩
      rcases hb.own with ⟨_, h5⟩ | ⟨h5, _⟩
      · exact h5
      · obtain ⟨e, hkey⟩ := hr.pk.1 _ h5
        obtain ⟨cs1, hm1⟩ := key_of_has hkey
        have := nodup_inj hr.injB _ _ _ _ hm1 hm e
        rw [this] at h5
        exact absurd h5 hid
  · intro id lo hm hl
    exact ⟨(hk.lists _ _ (hL id lo hm) hl).own, (hk.lists _ _ (hL id lo hm) hl).mine, (hk.lists _ _ (hL id lo hm) hl).sz, (hk.lists _ _ (hL id lo hm) hl).pos, (hk.lists _ _ (hL id lo hm) hl).one, (hk.lists _ _ (hL id lo hm) hl).vis⟩
  · intro id cs id' cs' hm hm' hne
    obtain ⟨cs0, hm0, _⟩ := hB id cs hm
    obtain ⟨cs1, hm1, _⟩ := hB id' cs' hm'
    exact hk.sepB _ _ _ _ hm0 hm1 fun e => hne (nodup_inj hr.injB _ _ _ _ hm hm' e)
  · intro id lo id' lo' hm hm' hl hl' hne
    exact hk.sepL _ _ _ _ (hL id lo hm) (hL id' lo' hm') hl hl' fun e => hne (nodup_inj hr.injL _ _ _ _ hm hm' e)
  · intro id lo id' cs hm hm' hl
    obtain ⟨cs1, hm1, _⟩ := hB id' cs hm'
    exact hk.sepX _ _ _ _ (hL id lo hm) hm1 hl
theorem noDup_of_nodup {α : Type} {f : Nat → Nat} : ∀ {l : List (Nat × α)}, (l.map fun x => f x.1).Nodup → noDup l
  | [], _ => trivial
  | (k, z) :: r, hn => by
    simp only [List.map_cons, List.nodup_cons] at hn
    refine ⟨?_, noDup_of_nodup hn.2⟩
    cases hh : hasKey r k with
    | false => rfl
    | true =>
      obtain ⟨x, hx⟩ := key_of_has hh
      exact absurd (List.mem_map.2 ⟨(k, x), hx, rfl⟩) hn.1
theorem WfG.ren {pk : Pk} {g : Gh} {h h' : Hp} (wf : WfG g h) {fb fl : Nat → Nat} (hr : RenOk pk fb fl h h') : WfG (renG fb fl g) h' :=
  ⟨fun id lo hm => wf.ov _ _ (listsR_mem hr.lists id lo hm), noDup_of_nodup hr.injL⟩

def envR (fb fl : Nat → Nat) (σ : St) (h' : Hp) : List (Nat × PV) → Prop
  | [] => True
  | (t, pv) :: r => (keyPV h' pv = true ∧ σ.get t = renPV fb fl pv) ∧ envR fb fl σ h' r
/-- what is known in σ is enough for τ -/
def Weak (pk : Pk) (σ τ : St) : Prop := ∀ g0 a w, Sim g0 pk σ a w → Sim g0 pk τ a w
theorem envR_fnd {fb fl : Nat → Nat} {σ : St} {h' : Hp} : ∀ {l : List (Nat × PV)}, envR fb fl σ h' l → ∀ t pv, fnd l t = some pv → keyPV h' pv = true ∧ σ.get t = renPV fb fl pv
  | [], _, _, _, h => by simp [fnd] at h
  | (k, x) :: r, ⟨h1, h2⟩, t, pv, h => by
    simp only [fnd] at h
    split at h
    · rename_i hk; simp at h; subst h; subst hk; exact h1
    · exact envR_fnd h2 t pv h
theorem weak_of {pk : Pk} {σ τ : St} (fb fl : Nat → Nat) (hn : σ.n = τ.n) (hr : RenOk pk fb fl σ.h τ.h) (he : envR fb fl σ τ.h τ.env) : Weak pk σ τ := by
  intro g0 a w s
  obtain ⟨g, rfl, s⟩ := s
  refine ⟨renG fb fl g, rfl, s.defers, s.size.trans hn, s.heap.ren hr, s.wf.ren hr, fun t ht => ?_⟩
  have ht' : t < σ.n := by omega
  unfold St.get
  rw [if_pos ht]
  cases hf : fnd τ.env t with
  | none => trivial
  | some pv =>
    obtain ⟨h1, h2⟩ := envR_fnd he t pv hf
    have := s.env t ht'
    rw [h2] at this
    exact RepPV.ren h1 this

/-- a loop: what stands at the head of every round is of the form 'mk x' -/
theorem cK_loop {P : Program} {pk : Pk} {c : Code} {Q : Exit → St → Prop} {σ : St} {X : Type} (mk : X → St) (I : X → Prop) (μ : X → Nat) (x0 : X) (hI : I x0) (hw : Weak pk σ (mk x0))
    (round : ∀ x, I x → cK P pk c (thenE (fun σ' => ∃ x', I x' ∧ μ x' < μ x ∧ Weak pk σ' (mk x')) Q) (mk x)) : cK P pk (.loop c) Q σ := by
  show CodeW P pk (.loop c) Q σ
  intro g0 a w s
  have key : ∀ n x a w, μ x = n → I x → Sim g0 pk (mk x) a w → ∀ (b : Frame) (k : List Item) (cs : List Frame), ∃ e a' w', lift g0 pk Q e a' w' ∧ Arrives P (lone (b.at a (.code c :: .inLoop c :: k)) cs w) b k cs e a' w' := by
    intro n
    induction n using Nat.strongRecOn with
    | _ n ih =>
      intro x a w hn hI s b k cs
      obtain ⟨e, a₁, w₁, hq, harr⟩ := cK_sound c _ (mk x) (round x hI) g0 a w s b (.inLoop c :: k) cs
      obtain ⟨σ', s', hq⟩ := hq
      cases e with
      | normal =>
        obtain ⟨x', hI', hlt, hw'⟩ := hq
        obtain ⟨e₂, a₂, w₂, hq₂, harr₂⟩ := ih (μ x') (hn ▸ hlt) x' a₁ w₁ rfl hI' (hw' g0 a₁ w₁ s') b k cs
        exact ⟨e₂, a₂, w₂, hq₂, .of_steps (Steps.trans harr (.one step_inLoop)) harr₂⟩
      | exit id => exact ⟨_, a₁, w₁, ⟨σ', s', hq⟩, .pass (x := .inLoop c) rfl (fun _ _ => .inl (by simp)) harr⟩
      | goto l => exact ⟨_, a₁, w₁, ⟨σ', s', hq⟩, .pass (x := .inLoop c) rfl (fun _ _ => .inl (by simp)) harr⟩
      | ret => exact ⟨_, a₁, w₁, ⟨σ', s', hq⟩, .pass (x := .inLoop c) rfl (fun _ _ => .inl (by simp)) harr⟩
      | panic ch => exact ⟨_, a₁, w₁, ⟨σ', s', hq⟩, .pass (x := .inLoop c) rfl (fun _ _ => .inl (by simp)) harr⟩
      | outgrown => exact ⟨_, a₁, w₁, ⟨σ', s', hq⟩, .pass (x := .inLoop c) rfl (fun _ _ => .inl (by simp)) harr⟩
  intro b k cs
  obtain ⟨e, a', w', hq, harr⟩ := key _ x0 a w rfl hI (hw g0 a w s) b k cs
  exact ⟨e, a', w', hq, .of_steps (.one step_loop) harr⟩

/-! ### a function -/
def envOf : Nat → List V1 → List (Nat × PV)
  | _, [] => []
  | k, x :: xs => (k, .s x) :: envOf (k + 1) xs
/-- the results, out of the slots -/
def resK (P : Program) (σ : St) : List ResultVar → (List V1 → Prop) → Prop
  | [], K => K []
  | .tmp t :: r, K => v1K (σ.get t) fun x => resK P σ r fun xs => K (x :: xs)
  | .cell a t :: r, K => c1K (σ.get a) fun p => optK (aggN P t) fun n => loadP σ.h n p fun pv => v1K pv fun x => resK P σ r fun xs => K (x :: xs)
def retOf : List V1 → PV
  | [x] => .s x
  | xs => .t xs
/-- memory and result at the end are as the contract says -/
def Fin (pk : Pk) (h : Hp) (pv : PV) (h' : Hp) (r : PV) : Prop :=
  ∀ g0 g v, HeapOk g0 pk g h → WfG g h → RepPV g h pv v → ∃ g', g'.w = g.w ∧ HeapOk g0 pk g' h' ∧ WfG g' h' ∧ RepPV g' h' r v
theorem fin_of {pk : Pk} {h h' : Hp} {pv r : PV} (fb fl : Nat → Nat) (hr : RenOk pk fb fl h h') (hkey : keyPV h' r = true) (he : pv = renPV fb fl r) : Fin pk h pv h' r :=
  fun g0 g v hk wf hrep => ⟨renG fb fl g, rfl, hk.ren hr, wf.ren hr, RepPV.ren hkey (by rw [← he]; exact hrep)⟩
/-- a result that hangs on no memory -/
theorem fin_scal {h : Hp} {pv r : PV} (hs : scalPV r = true) (he : pv = r) : Fin ⟨[], []⟩ h pv ⟨[], []⟩ r :=
  fun g0 g v hk wf hrep => ⟨g, rfl, by
    subst he
    exact ⟨hk.os, hk.tape, hk.output, hk.size, hk.frame, hk.vis, hk.old, hk.vin, by simp, by simp, fun _ _ h => by simp at h, fun _ _ h => by simp at h, fun _ _ _ _ h => by simp at h, fun _ _ _ _ h => by simp at h, fun _ _ _ _ h => by simp at h⟩,
    ⟨fun _ _ h => by simp at h, trivial⟩, by subst he; exact scalPV_rep hs hrep⟩
/-- nil as an empty own list -/
def adC (d : Nat) : C → C → Prop
  | .v (.slice none 0 0), y => y = .v (.slice none 0 0) ∨ y = .o d
  | x, y => y = x
def adCs (d : Nat) : List C → List C → Prop
  | [], [] => True
  | x :: xs, y :: ys => adC d x y ∧ adCs d xs ys
  | _, _ => False
def adV1 (d : Nat) : V1 → V1 → Prop
  | .c x, .c y => adC d x y
  | .a xs, .a ys => adCs d xs ys
  | _, _ => False
def adVs (d : Nat) : List V1 → List V1 → Prop
  | [], [] => True
  | x :: xs, y :: ys => adV1 d x y ∧ adVs d xs ys
  | _, _ => False
def adPV (d : Nat) : PV → PV → Prop
  | .s x, .s y => adV1 d x y
  | .t xs, .t ys => adVs d xs ys
  | _, _ => False
section
variable {g g' : Gh} {h h' : Hp} {d : Nat} (he : Ext g h g' h') (hd : ∃ lo, (d, lo) ∈ h'.lists) (ho : g'.ov d = .slice none 0 0)
include he hd ho
theorem adC_rep {x y : C} {u : Value} (ha : adC d x y) (hr : RepC g h x u) : RepC g' h' y u := by
  unfold adC at ha
  split at ha
  · rcases ha with rfl | rfl
    · exact hr
    · have : u = .slice none 0 0 := hr
      exact ⟨hd, by rw [this, ho]⟩
  · subst ha; exact hr.ext he
theorem adCs_rep : ∀ {xs ys : List C} {us : List Value}, adCs d xs ys → All2 (RepC g h) xs us → All2 (RepC g' h') ys us
  | [], [], [], _, _ => trivial
  | x :: xs, y :: ys, u :: us, ⟨h1, h2⟩, ⟨h3, h4⟩ => ⟨adC_rep he hd ho h1 h3, adCs_rep h2 h4⟩
  | [], _ :: _, _, h, _ => h.elim
  | _ :: _, [], _, h, _ => h.elim
  | [], [], _ :: _, _, h => h.elim
  | _ :: _, _ :: _, [], _, h => h.elim
theorem adV1_rep {x y : V1} {u : Value} (ha : adV1 d x y) (hr : RepV1 g h x u) : RepV1 g' h' y u := by
  cases x with
  | c x => cases y with
    | c y => exact adC_rep he hd ho ha hr
    | a _ => exact ha.elim
  | a xs => cases y with
    | c _ => exact ha.elim
    | a ys => obtain ⟨cs, rfl, h2⟩ := hr; exact ⟨cs, rfl, adCs_rep he hd ho ha h2⟩
theorem adVs_rep : ∀ {xs ys : List V1} {us : List Value}, adVs d xs ys → All2 (RepV1 g h) xs us → All2 (RepV1 g' h') ys us
  | [], [], [], _, _ => trivial
  | x :: xs, y :: ys, u :: us, ⟨h1, h2⟩, ⟨h3, h4⟩ => ⟨adV1_rep he hd ho h1 h3, adVs_rep h2 h4⟩
  | [], _ :: _, _, h, _ => h.elim
  | _ :: _, [], _, h, _ => h.elim
  | [], [], _ :: _, _, h => h.elim
  | _ :: _, _ :: _, [], _, h => h.elim
theorem adPV_rep {x y : PV} {u : Value} (ha : adPV d x y) (hr : RepPV g h x u) : RepPV g' h' y u := by
  cases x with
  | s x => cases y with
    | s y => exact adV1_rep he hd ho ha hr
    | t _ => exact ha.elim
  | t xs => cases y with
    | s _ => exact ha.elim
    | t ys => obtain ⟨cs, rfl, h2⟩ := hr; exact ⟨cs, rfl, adVs_rep he hd ho ha h2⟩
end
/-- nil becomes an empty own list -/
theorem adopt {g0 : Gh} {pk : Pk} {g : Gh} {h : Hp} (hk : HeapOk g0 pk g h) (wf : WfG g h) {d : Nat} (hd : hasKey h.lists d = false) (e sz : Nat) (hsz : 0 < sz) :
    ∃ g', g'.w = g.w ∧ HeapOk g0 pk g' { h with lists := (d, ⟨e, sz, [], false, true⟩) :: h.lists } ∧ WfG g' { h with lists := (d, ⟨e, sz, [], false, true⟩) :: h.lists } ∧
      Ext g h g' { h with lists := (d, ⟨e, sz, [], false, true⟩) :: h.lists } ∧ g'.ov d = .slice none 0 0 := by
  obtain ⟨g', hg1, hg2, hk', hext, hovs⟩ := hk.putList hd h.lists none (fun id' lo' hm hl' => ⟨hm, by simp⟩) (fun id' lo' hm => ⟨lo', hm⟩) (fun id' lo' hm => ⟨lo', hm⟩) (by simp)
    (v := .slice none 0 0) (w' := g.w) (lo := ⟨e, sz, [], false, true⟩) rfl (by simpa [flat] using World.ownsRow_nil g.w 0 e sz) (by simp) hsz (by simp [flat]) rfl rfl rfl (Nat.le_refl _)
    (fun k hk' _ => rfl) (by simp) (fun b hb => by simp [Value.ownBlock] at hb)
  refine ⟨g', hg1, hk', ⟨fun id' lo' hm => ?_, ⟨hd, wf.nd⟩⟩, hext, hg2⟩
  rcases List.mem_cons.1 hm with hm | hm
  · rw [(Prod.mk.inj hm).1, hg2]; rfl
  · by_cases hid : id' = d
    · rw [hid, hg2]; rfl
    · rw [hovs id' hid]; exact wf.ov id' lo' hm
theorem fin_adopt {pk : Pk} {h h' : Hp} {pv pv' r : PV} (d e sz : Nat) (hd : hasKey h.lists d = false) (hsz : 0 < sz) (ha : adPV d pv pv')
    (hf : Fin pk { h with lists := (d, ⟨e, sz, [], false, true⟩) :: h.lists } pv' h' r) : Fin pk h pv h' r := by
  intro g0 g v hk wf hrep
  obtain ⟨g', e1, hk', wf', he, ho⟩ := adopt hk wf hd e sz hsz
  obtain ⟨g2, e2, r2⟩ := hf g0 g' v hk' wf' (adPV_rep he ⟨_, List.mem_cons_self ..⟩ ho ha hrep)
  exact ⟨g2, e2.trans e1, r2⟩
def retE (P : Program) (pk : Pk) (rs : List ResultVar) (h' : Hp) (r : PV) : Exit → St → Prop
  | .ret, σ => resK P σ rs fun xs => Fin pk σ.h (retOf xs) h' r
  | .normal, σ => resK P σ rs fun xs => Fin pk σ.h (retOf xs) h' r
  | _, _ => False

def resS (a : Act) : ResultVar → Sem Value
  | .tmp t => pure (a.tmps.getD t undef)
  | .cell ad t => do loadVar t (← asAddr (a.tmps.getD ad undef))
theorem resK_sound {P : Program} {g0 : Gh} {pk : Pk} {g : Gh} {σ : St} {a : Act} (s : SimG g0 pk g σ a) : ∀ (rs : List ResultVar) (K : List V1 → Prop), resK P σ rs K →
    ∃ xs, K xs ∧ ∃ vs : List Value, (rs.mapM (resS a)).run P g.w = .ok vs g.w ∧ All2 (RepV1 g σ.h) xs vs
  | [], K, h => ⟨[], h, [], by simp, trivial⟩
  | .tmp t :: r, K, h => by
    obtain ⟨x, hx, h⟩ := v1K_ex h
    obtain ⟨xs, hK, vs, h1, h2⟩ := resK_sound s r _ h
    have hv := s.ev (.tmp t)
    simp only [St.ev] at hv
    rw [hx] at hv
    refine ⟨x :: xs, hK, a.tmps.getD t undef :: vs, ?_, hv, h2⟩
    simp only [List.mapM_cons, resS, Sem.run_bind, Sem.run_pure, Result.andThen_ok, h1]
  | .cell ad t :: r, K, h => by
    obtain ⟨p, hp, h⟩ := c1K_ex h
    obtain ⟨n, hn, h⟩ := optK_ex h
    obtain ⟨pv, h, hrun⟩ := loadP_run (P := P) hn h
    obtain ⟨x, rfl, h⟩ := v1K_ex h
    obtain ⟨xs, hK, vs, h1, h2⟩ := resK_sound s r _ h
    have hv := s.ev (.tmp ad)
    simp only [St.ev] at hv
    rw [hp] at hv
    obtain ⟨v, h3, h4⟩ := hrun g0 pk g _ s.heap hv
    refine ⟨x :: xs, hK, v :: vs, ?_, h4, h2⟩
    have hptr : ∃ a1, (Act.eval a (.tmp ad)) = .pointer (some a1) := by
      cases hh : Act.eval a (.tmp ad) with
      | pointer o => cases o with
        | some a1 => exact ⟨a1, rfl⟩
        | none => rw [hh] at h3; simp [Instr.loadAt, Instr.sureAddr] at h3
      | _ => rw [hh] at h3; simp [Instr.loadAt, Instr.sureAddr] at h3
    obtain ⟨a1, ha1⟩ := hptr
    have ha1' : a.tmps.getD ad undef = .pointer (some a1) := ha1
    rw [ha1] at h3
    simp only [Instr.loadAt, Instr.sureAddr, Sem.run_bind, Sem.run_pure, Result.andThen_ok] at h3
    simp only [List.mapM_cons, resS, Sem.run_bind, Sem.run_pure, Result.andThen_ok, ha1', asAddr, h3, h1]

theorem fnd_envOf {g : Gh} {h : Hp} : ∀ (args : List V1) (cargs : List Value) (k t : Nat), All2 (RepV1 g h) args cargs → RepPV g h ((fnd (envOf k args) (k + t)).getD (.s (.c .any))) ((cargs[t]?).getD undef)
  | [], [], k, t, _ => by simp [envOf, fnd]; trivial
  | x :: xs, c :: cs, k, 0, h => by simp [envOf, fnd]; exact h.1
  | x :: xs, c :: cs, k, t + 1, h => by
    have := fnd_envOf xs cs (k + 1) t h.2
    have hne : ¬ k = k + (t + 1) := by omega
    simp only [envOf, fnd, hne, if_false, List.getElem?_cons_succ]
    rw [show k + (t + 1) = k + 1 + t by omega]
    exact this
  | [], _ :: _, _, _, h => h.elim
  | _ :: _, [], _, _, h => h.elim

theorem pcalls_of {P : Program} {f : FuncId} {fn : Func} {c : Code} {bxs : List (Nat × List C)} {ins : List (Nat × LO)} {args : List V1} {r : PV} {h' : Hp} (hf : P.funcs[f]? = some fn) (hb : fn.body = some c)
    (hname : (fn.name == "runtime.NumGoroutine") = false) (n : Nat) (hn : fn.ntmps = n) (hargs : args.length ≤ n)
    (h : cK P ⟨bxs.map Prod.fst, ins.map Prod.fst⟩ c (retE P ⟨bxs.map Prod.fst, ins.map Prod.fst⟩ fn.results.toList h' r) { n := n, env := envOf 0 args, h := ⟨bxs, ins⟩ }) : PCalls P f bxs ins args r h' := by
  refine ⟨⟨fn, hf, hname, by simp [hb]⟩, fun g cargs hent hwe ha => ?_⟩
  have hlen := ha.length
  simp only [Array.length_toList] at hlen
  refine calls_of_wp hf hb ?_
  have hsim : Sim g ⟨bxs.map Prod.fst, ins.map Prod.fst⟩ { n := n, env := envOf 0 args, h := ⟨bxs, ins⟩ } { tmps := cargs ++ Array.replicate (fn.ntmps - cargs.size) undef, defers := [] } g.w := by
    refine ⟨g, rfl, rfl, by simp; omega, hent, hwe, fun t ht => ?_⟩
    have h1 := fnd_envOf args cargs.toList 0 t ha
    rw [Nat.zero_add] at h1
    have h2 : (cargs ++ Array.replicate (fn.ntmps - cargs.size) undef).getD t undef = (cargs.toList[t]?).getD undef := by
      simp only [Array.getD_eq_getD_getElem?, Array.getElem?_append, Array.getElem?_toList]
      by_cases hlt : t < cargs.size
      · simp [hlt]
      · simp only [hlt, if_false]
        rw [Array.getElem?_eq_none (xs := cargs) (by omega)]
        simp only [Array.getElem?_replicate]
        split <;> rfl
    rw [h2]
    have h3 : t < n := ht
    simp only [St.get, h3, if_true]
    exact h1
  refine wp_mono (cK_sound c _ _ h g _ _ hsim) fun e a w hq => ?_
  obtain ⟨σ, ⟨g', rfl, s⟩, hq⟩ := hq
  have fin : resK P σ fn.results.toList (fun xs => Fin ⟨bxs.map Prod.fst, ins.map Prod.fst⟩ σ.h (retOf xs) h' r) → a.defers = [] ∧ ∃ v, (results fn a.tmps).run P g'.w = .ok v g'.w ∧
      ∃ g2 v2, Ending.returned v = .returned v2 ∧ g2.w = g'.w ∧ HeapOk g ⟨bxs.map Prod.fst, ins.map Prod.fst⟩ g2 h' ∧ WfG g2 h' ∧ RepPV g2 h' r v2 := by
    intro hq
    obtain ⟨xs, hfin, vs, h1, h2⟩ := resK_sound s _ _ hq
    have hrun : (results fn a.tmps).run P g'.w = .ok (if h : vs.length = 1 then vs[0] else .tuple vs.toArray) g'.w := by
      have e : results fn a.tmps = (do
          let vs ← fn.results.mapM (resS a)
          pure (if h : vs.size = 1 then vs[0] else .tuple vs)) := by
        unfold results
        congr 1
      rw [e, Array.mapM_eq_mapM_toList]
      simp only [Sem.run_bind, Sem.run_map, h1, Result.andThen_ok]
      simp
    have hrep : RepPV g' σ.h (retOf xs) (if h : vs.length = 1 then vs[0] else .tuple vs.toArray) := by
      have hl := h2.length
      match xs, vs, h2 with
      | [], [], _ => exact ⟨#[], rfl, trivial⟩
      | [x], [v], h2 => exact h2.1
      | x :: y :: xs, v :: u :: vs, h2 => exact ⟨_, rfl, by simpa using h2⟩
    obtain ⟨g2, e1, e2, e3, e4⟩ := hfin g g' _ s.heap s.wf hrep
    exact ⟨s.defers, _, hrun, g2, _, rfl, e1, e2, e3, e4⟩
  cases e with
  | normal => exact fin hq
  | ret => exact fin hq
  | _ => exact hq.elim

end Go.PL
