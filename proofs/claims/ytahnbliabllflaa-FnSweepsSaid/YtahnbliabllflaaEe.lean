/-
  Code on abstract values; loops; a function's beginning and end.
  Regions that draw their order: where every operation hands back a value and changes no box and no own list, the order of the text serves every order.
  New boxes that nothing names yet: what runs beside them leaves them alone; they are named later.
-/
import Derived.Test.YtahnbliabllflaaEa
import Derived.Still
namespace Go.PL
open Go.RowKit
set_option linter.unusedSimpArgs false
set_option linter.unusedVariables false

def thenE (f : St → Prop) (Q : Exit → St → Prop) : Exit → St → Prop
  | .normal, σ => f σ
  | e, σ => Q e σ
def blockE (id : Nat) (Q : Exit → St → Prop) : Exit → St → Prop
  | .exit id', σ => if id' = id then Q .normal σ else Q (.exit id') σ
  | e, σ => Q e σ
def lift (g0 : Gh) (pk : Pk) (Q : Exit → St → Prop) : Exit → Act → World → Prop := fun e a w => ∃ σ, Sim g0 pk σ a w ∧ Q e σ
/-- the meaning: from every memory that fits -/
def CodeW (P : Program) (pk : Pk) (c : Code) (Q : Exit → St → Prop) (σ : St) : Prop := ∀ g0 a w, Sim g0 pk σ a w → c.wp P (lift g0 pk Q) a w
def condK : PV → Prop → Prop → Prop
  | .s (.c (.v (.bool t))), A, B => (t = true → A) ∧ (t = false → B)
  | _, _, _ => False
def cK (P : Program) (pk : Pk) : Code → (Exit → St → Prop) → St → Prop
  | .skip, Q, σ => Q .normal σ
  | .region id ops draw, Q, σ => if draw = true then CodeW P pk (.region id ops true) Q σ else opsK P ops ops.toList σ fun σ' => Q .normal σ'
  | .seq a b, Q, σ => cK P pk a (thenE (fun σ' => cK P pk b Q σ') Q) σ
  | .cond c a b, Q, σ => condK (σ.ev c) (cK P pk a Q σ) (cK P pk b Q σ)
  | .block id b, Q, σ => cK P pk b (blockE id Q) σ
  | .exit id, Q, σ => Q (.exit id) σ
  | .ret, Q, σ => Q .ret σ
  | c, Q, σ => CodeW P pk c Q σ

theorem cK_sound {P : Program} {pk : Pk} : ∀ (c : Code) (Q : Exit → St → Prop) (σ : St), cK P pk c Q σ → CodeW P pk c Q σ := by
  intro c
  induction c with
  | skip => exact fun Q σ h g0 a w s => wp_skip ⟨σ, s, h⟩
  | region id ops draw =>
    intro Q σ h
    simp only [cK] at h
    cases draw with
    | true => exact h
    | false =>
      intro g0 a w s
      exact wp_region_list (opsK_sound ops.toList σ _ a w h s fun σ' a' w' h1 h2 => ⟨σ', h2, h1⟩)
  | seq x y ihx ihy =>
    intro Q σ h g0 a w s
    refine wp_seq (wp_mono (ihx _ σ h g0 a w s) fun e a' w' hq => ?_)
    obtain ⟨σ', s', hq⟩ := hq
    cases e with
    | normal => exact ihy Q σ' hq g0 a' w' s'
    | _ => exact ⟨σ', s', hq⟩
  | cond c x y ihx ihy =>
    intro Q σ h g0 a w s
    simp only [cK] at h
    unfold condK at h
    split at h
    · rename_i t hc
      obtain ⟨g, rfl, s'⟩ := s
      have hv := s'.ev c
      rw [hc] at hv
      simp only [RepPV, RepV1, RepC] at hv
      cases t with
      | true => exact wp_cond_true hv (ihx Q σ (h.1 rfl) g0 a g.w ⟨g, rfl, s'⟩)
      | false => exact wp_cond_false hv (ihy Q σ (h.2 rfl) g0 a g.w ⟨g, rfl, s'⟩)
    · exact h.elim
  | block id b ih =>
    intro Q σ h g0 a w s
    refine wp_block (wp_mono (ih _ σ h g0 a w s) fun e a' w' hq => ?_)
    obtain ⟨σ', s', hq⟩ := hq
    cases e with
    | exit id' =>
      by_cases hid : id' = id
      · simp only [blockE, Exit.inBlock, hid, if_true] at hq ⊢
        exact ⟨σ', s', hq⟩
      · simp only [blockE, Exit.inBlock, hid, if_false] at hq ⊢
        exact ⟨σ', s', hq⟩
    | _ => exact ⟨σ', s', hq⟩
  | exit id => exact fun Q σ h g0 a w s => wp_exit ⟨σ, s, h⟩
  | ret => exact fun Q σ h g0 a w s => wp_ret ⟨σ, s, h⟩
  | _ => exact fun Q σ h => h

/-! ### forgetting and renaming -/
def renC (fb fl : Nat → Nat) : C → C
  | .o id => .o (fl id)
  | .p id off => .p (fb id) off
  | .e id sz idx off => .e (fl id) sz idx off
  | .sb id n cap => .sb (fb id) n cap
  | x => x
def renV1 (fb fl : Nat → Nat) : V1 → V1
  | .c x => .c (renC fb fl x)
  | .a xs => .a (xs.map (renC fb fl))
def renPV (fb fl : Nat → Nat) : PV → PV
  | .s x => .s (renV1 fb fl x)
  | .t xs => .t (xs.map (renV1 fb fl))
def keyC (h : Hp) : C → Bool
  | .o id => hasKey h.lists id
  | .p id _ => hasKey h.boxes id
  | .e id .. => hasKey h.lists id
  | .sb id .. => hasKey h.boxes id
  | _ => true
def keyV1 (h : Hp) : V1 → Bool
  | .c x => keyC h x
  | .a xs => xs.all (keyC h)
def keyPV (h : Hp) : PV → Bool
  | .s x => keyV1 h x
  | .t xs => xs.all (keyV1 h)
def csR (fb fl : Nat → Nat) (h' : Hp) : List C → List C → Prop
  | [], [] => True
  | x0 :: r0, x :: r => (keyC h' x = true ∧ x0 = renC fb fl x) ∧ csR fb fl h' r0 r
  | _, _ => False
def boxesR (fb fl : Nat → Nat) (h h' : Hp) : List (Nat × List C) → Prop
  | [] => True
  | (id, cs) :: r => optK (fnd h.boxes (fb id)) (fun cs0 => csR fb fl h' cs0 cs) ∧ boxesR fb fl h h' r
def listsR (fl : Nat → Nat) (h : Hp) : List (Nat × LO) → Prop
  | [] => True
  | (id, lo) :: r => fnd h.lists (fl id) = some lo ∧ listsR fl h r
structure RenOk (pk : Pk) (fb fl : Nat → Nat) (h h' : Hp) : Prop where
  boxes : boxesR fb fl h h' h'.boxes
  lists : listsR fl h h'.lists
  injB : (h'.boxes.map fun x => fb x.1).Nodup
  injL : (h'.lists.map fun x => fl x.1).Nodup
  pk : (∀ id ∈ pk.bs, fb id = id ∧ hasKey h'.boxes id = true) ∧ (∀ id ∈ pk.ls, fl id = id ∧ hasKey h'.lists id = true)

theorem boxesR_mem {fb fl : Nat → Nat} {h h' : Hp} : ∀ {l : List (Nat × List C)}, boxesR fb fl h h' l → ∀ id cs, (id, cs) ∈ l → ∃ cs0, (fb id, cs0) ∈ h.boxes ∧ csR fb fl h' cs0 cs
  | [], _, _, _, hm => by simp at hm
  | (i, c) :: r, ⟨h1, h2⟩, id, cs, hm => by
    rcases List.mem_cons.1 hm with hm | hm
    · obtain ⟨rfl, rfl⟩ := Prod.mk.inj hm
      obtain ⟨cs0, h3, h4⟩ := optK_ex h1
      exact ⟨cs0, fnd_mem h3, h4⟩
    · exact boxesR_mem h2 id cs hm
theorem listsR_mem {fl : Nat → Nat} {h : Hp} : ∀ {l : List (Nat × LO)}, listsR fl h l → ∀ id lo, (id, lo) ∈ l → (fl id, lo) ∈ h.lists
  | [], _, _, _, hm => by simp at hm
  | (i, c) :: r, ⟨h1, h2⟩, id, cs, hm => by
    rcases List.mem_cons.1 hm with hm | hm
    · obtain ⟨rfl, rfl⟩ := Prod.mk.inj hm
      exact fnd_mem h1
    · exact listsR_mem h2 id cs hm
theorem nodup_inj {α : Type} {f : Nat → Nat} : ∀ {l : List (Nat × α)}, (l.map fun x => f x.1).Nodup → ∀ i x j y, (i, x) ∈ l → (j, y) ∈ l → f i = f j → i = j
  | [], _, _, _, _, _, hm, _, _ => by simp at hm
  | (k, z) :: r, hn, i, x, j, y, hi, hj, e => by
    simp only [List.map_cons, List.nodup_cons] at hn
    rcases List.mem_cons.1 hi with hi | hi <;> rcases List.mem_cons.1 hj with hj | hj
    · rw [(Prod.mk.inj hi).1, (Prod.mk.inj hj).1]
    · exact absurd (List.mem_map.2 ⟨(j, y), hj, by rw [← e, (Prod.mk.inj hi).1]⟩) hn.1
    · exact absurd (List.mem_map.2 ⟨(i, x), hi, by rw [e, (Prod.mk.inj hj).1]⟩) hn.1
    · exact nodup_inj hn.2 i x j y hi hj e

def renG (fb fl : Nat → Nat) (g : Gh) : Gh := { g with bx := fun id => g.bx (fb id), ov := fun id => g.ov (fl id) }
theorem RepC.ren {fb fl : Nat → Nat} {g : Gh} {h h' : Hp} {x : C} {u : Value} (hkx : keyC h' x = true) (hr : RepC g h (renC fb fl x) u) : RepC (renG fb fl g) h' x u := by
  cases x with
  | v x => exact hr
  | l sz xs => exact hr
  | o id => exact ⟨key_of_has hkx, hr.2⟩
  | p id off => exact ⟨key_of_has hkx, hr.2⟩
  | q cs => exact hr
  | e id sz idx off => exact ⟨key_of_has hkx, hr.2⟩
  | any => trivial
  | mk R => exact hr
  | sb id n cap => exact ⟨key_of_has hkx, hr.2⟩
  | ll sz xs => exact hr
  | ql sz xs => exact hr
theorem csR_rep {fb fl : Nat → Nat} {g : Gh} {h h' : Hp} : ∀ {cs0 cs : List C} {us : List Value}, csR fb fl h' cs0 cs → All2 (RepC g h) cs0 us → All2 (RepC (renG fb fl g) h') cs us
  | [], [], [], _, _ => trivial
  | x0 :: r0, x :: r, u :: us, ⟨⟨h1, h2⟩, h3⟩, ⟨h4, h5⟩ => ⟨RepC.ren h1 (by rw [← h2]; exact h4), csR_rep h3 h5⟩
  | [], _ :: _, _, h, _ => h.elim
  | _ :: _, [], _, h, _ => h.elim
  | [], [], _ :: _, _, h => h.elim
  | _ :: _, _ :: _, [], _, h => h.elim
theorem all2_ren {fb fl : Nat → Nat} {g : Gh} {h h' : Hp} : ∀ {xs : List C} {us : List Value}, xs.all (keyC h') = true → All2 (RepC g h) (xs.map (renC fb fl)) us → All2 (RepC (renG fb fl g) h') xs us
  | [], [], _, _ => trivial
  | x :: xs, u :: us, hk, ⟨h1, h2⟩ => by
    simp only [List.all_cons, Bool.and_eq_true] at hk
    exact ⟨RepC.ren hk.1 h1, all2_ren hk.2 h2⟩
  | [], _ :: _, _, h => h.elim
  | _ :: _, [], _, h => h.elim
theorem RepV1.ren {fb fl : Nat → Nat} {g : Gh} {h h' : Hp} {x : V1} {u : Value} (hkx : keyV1 h' x = true) (hr : RepV1 g h (renV1 fb fl x) u) : RepV1 (renG fb fl g) h' x u := by
  cases x with
  | c x => exact RepC.ren hkx hr
  | a xs => obtain ⟨cs, rfl, h2⟩ := hr; exact ⟨cs, rfl, all2_ren hkx h2⟩
theorem all2_renV {fb fl : Nat → Nat} {g : Gh} {h h' : Hp} : ∀ {xs : List V1} {us : List Value}, xs.all (keyV1 h') = true → All2 (RepV1 g h) (xs.map (renV1 fb fl)) us → All2 (RepV1 (renG fb fl g) h') xs us
  | [], [], _, _ => trivial
  | x :: xs, u :: us, hk, ⟨h1, h2⟩ => by
    simp only [List.all_cons, Bool.and_eq_true] at hk
    exact ⟨RepV1.ren hk.1 h1, all2_renV hk.2 h2⟩
  | [], _ :: _, _, h => h.elim
  | _ :: _, [], _, h => h.elim
theorem RepPV.ren {fb fl : Nat → Nat} {g : Gh} {h h' : Hp} {x : PV} {u : Value} (hkx : keyPV h' x = true) (hr : RepPV g h (renPV fb fl x) u) : RepPV (renG fb fl g) h' x u := by
  cases x with
  | s x => exact RepV1.ren hkx hr
  | t xs => obtain ⟨cs, rfl, h2⟩ := hr; exact ⟨cs, rfl, all2_renV hkx h2⟩

theorem HeapOk.ren {g0 : Gh} {pk : Pk} {g : Gh} {h h' : Hp} (hk : HeapOk g0 pk g h) {fb fl : Nat → Nat} (hr : RenOk pk fb fl h h') : HeapOk g0 pk (renG fb fl g) h' := by
  have hB : ∀ id cs, (id, cs) ∈ h'.boxes → ∃ cs0, (fb id, cs0) ∈ h.boxes ∧ csR fb fl h' cs0 cs := fun id cs hm => boxesR_mem hr.boxes id cs hm
  have hL : ∀ id lo, (id, lo) ∈ h'.lists → (fl id, lo) ∈ h.lists := fun id lo hm => listsR_mem hr.lists id lo hm
  refine ⟨hk.os, hk.tape, hk.output, hk.size, hk.frame, hk.vis, hk.old, hk.vin, ?_, ?_, ?_, ?_, ?_, ?_, ?_, hk.tab, hk.maps, hk.mold, hk.mkept⟩
  · intro id hid
    exact key_of_has (hr.pk.1 id hid).2
  · intro id hid
    obtain ⟨e, hkey⟩ := hr.pk.2 id hid
    exact ⟨key_of_has hkey, by show g.ov (fl id) = _; rw [e]; exact (hk.lsin id hid).2⟩
  · intro id cs hm
    obtain ⟨cs0, hm0, hcs⟩ := hB id cs hm
    have hb := hk.boxes _ _ hm0
    obtain ⟨arr, ty, h1, h2, h3⟩ := hb.cells
    refine ⟨?_, hb.hid, arr, ty, h1, csR_rep hcs h2, h3⟩
    by_cases hid : id ∈ pk.bs
    · right
      refine ⟨hid, ?_⟩
      have e := (hr.pk.1 id hid).1
      rcases hb.own with ⟨h5, _⟩ | ⟨_, h5⟩
      · rw [e] at h5; exact absurd hid h5
      · rw [e] at h5; show g.bx (fb id) = _; rw [e]; exact h5
    · left
      refine ⟨hid, ?_⟩
      rcases hb.own with ⟨_, h5⟩ | ⟨h5, _⟩
      · exact h5
      · obtain ⟨e, hkey⟩ := hr.pk.1 _ h5
        obtain ⟨cs1, hm1⟩ := key_of_has hkey
        have := nodup_inj hr.injB _ _ _ _ hm1 hm e
        rw [this] at h5
        exact absurd h5 hid
  · intro id lo hm hl
    exact ⟨(hk.lists _ _ (hL id lo hm) hl).own, (hk.lists _ _ (hL id lo hm) hl).mine, (hk.lists _ _ (hL id lo hm) hl).sz, (hk.lists _ _ (hL id lo hm) hl).pos, (hk.lists _ _ (hL id lo hm) hl).one, (hk.lists _ _ (hL id lo hm) hl).vis⟩
  · intro id cs id' cs' hm hm' hne
    obtain ⟨cs0, hm0, _⟩ := hB id cs hm
    obtain ⟨cs1, hm1, _⟩ := hB id' cs' hm'
    exact hk.sepB _ _ _ _ hm0 hm1 fun e => hne (nodup_inj hr.injB _ _ _ _ hm hm' e)
  · intro id lo id' lo' hm hm' hl hl' hne
    exact hk.sepL _ _ _ _ (hL id lo hm) (hL id' lo' hm') hl hl' fun e => hne (nodup_inj hr.injL _ _ _ _ hm hm' e)
  · intro id lo id' cs hm hm' hl
    obtain ⟨cs1, hm1, _⟩ := hB id' cs hm'
    exact hk.sepX _ _ _ _ (hL id lo hm) hm1 hl
theorem noDup_of_nodup {α : Type} {f : Nat → Nat} : ∀ {l : List (Nat × α)}, (l.map fun x => f x.1).Nodup → noDup l
  | [], _ => trivial
  | (k, z) :: r, hn => by
    simp only [List.map_cons, List.nodup_cons] at hn
    refine ⟨?_, noDup_of_nodup hn.2⟩
    cases hh : hasKey r k with
    | false => rfl
    | true =>
      obtain ⟨x, hx⟩ := key_of_has hh
      exact absurd (List.mem_map.2 ⟨(k, x), hx, rfl⟩) hn.1
theorem WfG.ren {pk : Pk} {g : Gh} {h h' : Hp} (wf : WfG g h) {fb fl : Nat → Nat} (hr : RenOk pk fb fl h h') : WfG (renG fb fl g) h' :=
  ⟨fun id lo hm => wf.ov _ _ (listsR_mem hr.lists id lo hm), noDup_of_nodup hr.injL⟩

def envR (fb fl : Nat → Nat) (σ : St) (h' : Hp) : List (Nat × PV) → Prop
  | [] => True
  | (t, pv) :: r => (keyPV h' pv = true ∧ σ.get t = renPV fb fl pv) ∧ envR fb fl σ h' r
/-- what is known in σ is enough for τ -/
def Weak (pk : Pk) (σ τ : St) : Prop := ∀ g0 a w, Sim g0 pk σ a w → Sim g0 pk τ a w
theorem envR_fnd {fb fl : Nat → Nat} {σ : St} {h' : Hp} : ∀ {l : List (Nat × PV)}, envR fb fl σ h' l → ∀ t pv, fnd l t = some pv → keyPV h' pv = true ∧ σ.get t = renPV fb fl pv
  | [], _, _, _, h => by simp [fnd] at h
  | (k, x) :: r, ⟨h1, h2⟩, t, pv, h => by
    simp only [fnd] at h
    split at h
    · rename_i hk; simp at h; subst h; subst hk; exact h1
    · exact envR_fnd h2 t pv h
theorem weak_of {pk : Pk} {σ τ : St} (fb fl : Nat → Nat) (hn : σ.n = τ.n) (hr : RenOk pk fb fl σ.h τ.h) (he : envR fb fl σ τ.h τ.env) : Weak pk σ τ := by
  intro g0 a w s
  obtain ⟨g, rfl, s⟩ := s
  refine ⟨renG fb fl g, rfl, s.defers, s.size.trans hn, s.heap.ren hr, s.wf.ren hr, fun t ht => ?_⟩
  have ht' : t < σ.n := by omega
  unfold St.get
  rw [if_pos ht]
  cases hf : fnd τ.env t with
  | none => trivial
  | some pv =>
    obtain ⟨h1, h2⟩ := envR_fnd he t pv hf
    have := s.env t ht'
    rw [h2] at this
    exact RepPV.ren h1 this

/-- a loop: what stands at the head of every round is of the form 'mk x' -/
theorem cK_loop {P : Program} {pk : Pk} {c : Code} {Q : Exit → St → Prop} {σ : St} {X : Type} (mk : X → St) (I : X → Prop) (μ : X → Nat) (x0 : X) (hI : I x0) (hw : Weak pk σ (mk x0))
    (round : ∀ x, I x → cK P pk c (thenE (fun σ' => ∃ x', I x' ∧ μ x' < μ x ∧ Weak pk σ' (mk x')) Q) (mk x)) : cK P pk (.loop c) Q σ := by
  show CodeW P pk (.loop c) Q σ
  intro g0 a w s
  have key : ∀ n x a w, μ x = n → I x → Sim g0 pk (mk x) a w → ∀ (b : Frame) (k : List Item) (cs : List Frame), ∃ e a' w', lift g0 pk Q e a' w' ∧ Arrives P (lone (b.at a (.code c :: .inLoop c :: k)) cs w) b k cs e a' w' := by
    intro n
    induction n using Nat.strongRecOn with
    | _ n ih =>
      intro x a w hn hI s b k cs
      obtain ⟨e, a₁, w₁, hq, harr⟩ := cK_sound c _ (mk x) (round x hI) g0 a w s b (.inLoop c :: k) cs
      obtain ⟨σ', s', hq⟩ := hq
      cases e with
      | normal =>
        obtain ⟨x', hI', hlt, hw'⟩ := hq
        obtain ⟨e₂, a₂, w₂, hq₂, harr₂⟩ := ih (μ x') (hn ▸ hlt) x' a₁ w₁ rfl hI' (hw' g0 a₁ w₁ s') b k cs
        exact ⟨e₂, a₂, w₂, hq₂, .of_steps (Steps.trans harr (.one step_inLoop)) harr₂⟩
      | exit id => exact ⟨_, a₁, w₁, ⟨σ', s', hq⟩, .pass (x := .inLoop c) rfl (fun _ _ => .inl (by simp)) harr⟩
      | goto l => exact ⟨_, a₁, w₁, ⟨σ', s', hq⟩, .pass (x := .inLoop c) rfl (fun _ _ => .inl (by simp)) harr⟩
      | ret => exact ⟨_, a₁, w₁, ⟨σ', s', hq⟩, .pass (x := .inLoop c) rfl (fun _ _ => .inl (by simp)) harr⟩
      | panic ch => exact ⟨_, a₁, w₁, ⟨σ', s', hq⟩, .pass (x := .inLoop c) rfl (fun _ _ => .inl (by simp)) harr⟩
      | outgrown => exact ⟨_, a₁, w₁, ⟨σ', s', hq⟩, .pass (x := .inLoop c) rfl (fun _ _ => .inl (by simp)) harr⟩
  intro b k cs
  obtain ⟨e, a', w', hq, harr⟩ := key _ x0 a w rfl hI (hw g0 a w s) b k cs
  exact ⟨e, a', w', hq, .of_steps (.one step_loop) harr⟩

/-! ### a function -/
def envOf : Nat → List V1 → List (Nat × PV)
  | _, [] => []
  | k, x :: xs => (k, .s x) :: envOf (k + 1) xs
/-- the results, out of the slots -/
def resK (P : Program) (σ : St) : List ResultVar → (List V1 → Prop) → Prop
  | [], K => K []
  | .tmp t :: r, K => v1K (σ.get t) fun x => resK P σ r fun xs => K (x :: xs)
  | .cell a t :: r, K => c1K (σ.get a) fun p => optK (aggN P t) fun n => loadP σ.h n p fun pv => v1K pv fun x => resK P σ r fun xs => K (x :: xs)
def retOf : List V1 → PV
  | [x] => .s x
  | xs => .t xs
/-- memory and result at the end are as the contract says -/
def Fin (pk : Pk) (h : Hp) (pv : PV) (h' : Hp) (r : PV) : Prop :=
  ∀ g0 g v, HeapOk g0 pk g h → WfG g h → RepPV g h pv v → ∃ g', g'.w = g.w ∧ HeapOk g0 pk g' h' ∧ WfG g' h' ∧ RepPV g' h' r v
theorem fin_of {pk : Pk} {h h' : Hp} {pv r : PV} (fb fl : Nat → Nat) (hr : RenOk pk fb fl h h') (hkey : keyPV h' r = true) (he : pv = renPV fb fl r) : Fin pk h pv h' r :=
  fun g0 g v hk wf hrep => ⟨renG fb fl g, rfl, hk.ren hr, wf.ren hr, RepPV.ren hkey (by rw [← he]; exact hrep)⟩
/-- a result that hangs on no memory -/
theorem fin_scal {h : Hp} {pv r : PV} (hs : scalPV r = true) (he : pv = r) : Fin ⟨[], []⟩ h pv ⟨[], []⟩ r :=
  fun g0 g v hk wf hrep => ⟨g, rfl, by
    subst he
    exact ⟨hk.os, hk.tape, hk.output, hk.size, hk.frame, hk.vis, hk.old, hk.vin, by simp, by simp, fun _ _ h => by simp at h, fun _ _ h => by simp at h, fun _ _ _ _ h => by simp at h, fun _ _ _ _ h => by simp at h, fun _ _ _ _ h => by simp at h, hk.tab, hk.maps, hk.mold, hk.mkept⟩,
    ⟨fun _ _ h => by simp at h, trivial⟩, by subst he; exact scalPV_rep hs hrep⟩
/-- nil as an empty own list -/
def adC (d : Nat) : C → C → Prop
  | .v (.slice none 0 0), y => y = .v (.slice none 0 0) ∨ y = .o d
  | x, y => y = x
def adCs (d : Nat) : List C → List C → Prop
  | [], [] => True
  | x :: xs, y :: ys => adC d x y ∧ adCs d xs ys
  | _, _ => False
def adV1 (d : Nat) : V1 → V1 → Prop
  | .c x, .c y => adC d x y
  | .a xs, .a ys => adCs d xs ys
  | _, _ => False
def adVs (d : Nat) : List V1 → List V1 → Prop
  | [], [] => True
  | x :: xs, y :: ys => adV1 d x y ∧ adVs d xs ys
  | _, _ => False
def adPV (d : Nat) : PV → PV → Prop
  | .s x, .s y => adV1 d x y
  | .t xs, .t ys => adVs d xs ys
  | _, _ => False
section
variable {g g' : Gh} {h h' : Hp} {d : Nat} (he : Ext g h g' h') (hd : ∃ lo, (d, lo) ∈ h'.lists) (ho : g'.ov d = .slice none 0 0)
include he hd ho
theorem adC_rep {x y : C} {u : Value} (ha : adC d x y) (hr : RepC g h x u) : RepC g' h' y u := by
  unfold adC at ha
  split at ha
  · rcases ha with rfl | rfl
    · exact hr
    · have : u = .slice none 0 0 := hr
      exact ⟨hd, by rw [this, ho]⟩
  · subst ha; exact hr.ext he
theorem adCs_rep : ∀ {xs ys : List C} {us : List Value}, adCs d xs ys → All2 (RepC g h) xs us → All2 (RepC g' h') ys us
  | [], [], [], _, _ => trivial
  | x :: xs, y :: ys, u :: us, ⟨h1, h2⟩, ⟨h3, h4⟩ => ⟨adC_rep he hd ho h1 h3, adCs_rep h2 h4⟩
  | [], _ :: _, _, h, _ => h.elim
  | _ :: _, [], _, h, _ => h.elim
  | [], [], _ :: _, _, h => h.elim
  | _ :: _, _ :: _, [], _, h => h.elim
theorem adV1_rep {x y : V1} {u : Value} (ha : adV1 d x y) (hr : RepV1 g h x u) : RepV1 g' h' y u := by
  cases x with
  | c x => cases y with
    | c y => exact adC_rep he hd ho ha hr
    | a _ => exact ha.elim
  | a xs => cases y with
    | c _ => exact ha.elim
    | a ys => obtain ⟨cs, rfl, h2⟩ := hr; exact ⟨cs, rfl, adCs_rep he hd ho ha h2⟩
theorem adVs_rep : ∀ {xs ys : List V1} {us : List Value}, adVs d xs ys → All2 (RepV1 g h) xs us → All2 (RepV1 g' h') ys us
  | [], [], [], _, _ => trivial
  | x :: xs, y :: ys, u :: us, ⟨h1, h2⟩, ⟨h3, h4⟩ => ⟨adV1_rep he hd ho h1 h3, adVs_rep h2 h4⟩
  | [], _ :: _, _, h, _ => h.elim
  | _ :: _, [], _, h, _ => h.elim
  | [], [], _ :: _, _, h => h.elim
  | _ :: _, _ :: _, [], _, h => h.elim
theorem adPV_rep {x y : PV} {u : Value} (ha : adPV d x y) (hr : RepPV g h x u) : RepPV g' h' y u := by
  cases x with
  | s x => cases y with
    | s y => exact adV1_rep he hd ho ha hr
    | t _ => exact ha.elim
  | t xs => cases y with
    | s _ => exact ha.elim
    | t ys => obtain ⟨cs, rfl, h2⟩ := hr; exact ⟨cs, rfl, adVs_rep he hd ho ha h2⟩
end
/-- nil becomes an empty own list -/
theorem adopt {g0 : Gh} {pk : Pk} {g : Gh} {h : Hp} (hk : HeapOk g0 pk g h) (wf : WfG g h) {d : Nat} (hd : hasKey h.lists d = false) (e sz : Nat) (hsz : 0 < sz) :
    ∃ g', g'.w = g.w ∧ HeapOk g0 pk g' { h with lists := (d, ⟨e, sz, [], false, true⟩) :: h.lists } ∧ WfG g' { h with lists := (d, ⟨e, sz, [], false, true⟩) :: h.lists } ∧
      Ext g h g' { h with lists := (d, ⟨e, sz, [], false, true⟩) :: h.lists } ∧ g'.ov d = .slice none 0 0 := by
  obtain ⟨g', hg1, hg2, hk', hext, hovs⟩ := hk.putList hd h.lists none (fun id' lo' hm hl' => ⟨hm, by simp⟩) (fun id' lo' hm => ⟨lo', hm⟩) (fun id' lo' hm => ⟨lo', hm⟩) (by simp)
    (v := .slice none 0 0) (w' := g.w) (lo := ⟨e, sz, [], false, true⟩) rfl (by simpa [flat] using World.ownsRow_nil g.w 0 e sz) (by simp) hsz (by simp [flat]) rfl rfl rfl (Nat.le_refl _)
    (fun k hk' _ => rfl) (by simp) (fun b hb => by simp [Value.ownBlock] at hb)
  refine ⟨g', hg1, hk', ⟨fun id' lo' hm => ?_, ⟨hd, wf.nd⟩⟩, hext, hg2⟩
  rcases List.mem_cons.1 hm with hm | hm
  · rw [(Prod.mk.inj hm).1, hg2]; rfl
  · by_cases hid : id' = d
    · rw [hid, hg2]; rfl
    · rw [hovs id' hid]; exact wf.ov id' lo' hm
theorem fin_adopt {pk : Pk} {h h' : Hp} {pv pv' r : PV} (d e sz : Nat) (hd : hasKey h.lists d = false) (hsz : 0 < sz) (ha : adPV d pv pv')
    (hf : Fin pk { h with lists := (d, ⟨e, sz, [], false, true⟩) :: h.lists } pv' h' r) : Fin pk h pv h' r := by
  intro g0 g v hk wf hrep
  obtain ⟨g', e1, hk', wf', he, ho⟩ := adopt hk wf hd e sz hsz
  obtain ⟨g2, e2, r2⟩ := hf g0 g' v hk' wf' (adPV_rep he ⟨_, List.mem_cons_self ..⟩ ho ha hrep)
  exact ⟨g2, e2.trans e1, r2⟩
def retE (P : Program) (pk : Pk) (rs : List ResultVar) (h' : Hp) (r : PV) : Exit → St → Prop
  | .ret, σ => resK P σ rs fun xs => Fin pk σ.h (retOf xs) h' r
  | .normal, σ => resK P σ rs fun xs => Fin pk σ.h (retOf xs) h' r
  | _, _ => False

def resS (a : Act) : ResultVar → Sem Value
  | .tmp t => pure (a.tmps.getD t undef)
  | .cell ad t => do loadVar t (← asAddr (a.tmps.getD ad undef))
theorem resK_sound {P : Program} {g0 : Gh} {pk : Pk} {g : Gh} {σ : St} {a : Act} (s : SimG g0 pk g σ a) : ∀ (rs : List ResultVar) (K : List V1 → Prop), resK P σ rs K →
    ∃ xs, K xs ∧ ∃ vs : List Value, (rs.mapM (resS a)).run P g.w = .ok vs g.w ∧ All2 (RepV1 g σ.h) xs vs
  | [], K, h => ⟨[], h, [], by simp, trivial⟩
  | .tmp t :: r, K, h => by
    obtain ⟨x, hx, h⟩ := v1K_ex h
    obtain ⟨xs, hK, vs, h1, h2⟩ := resK_sound s r _ h
    have hv := s.ev (.tmp t)
    simp only [St.ev] at hv
    rw [hx] at hv
    refine ⟨x :: xs, hK, a.tmps.getD t undef :: vs, ?_, hv, h2⟩
    simp only [List.mapM_cons, resS, Sem.run_bind, Sem.run_pure, Result.andThen_ok, h1]
  | .cell ad t :: r, K, h => by
    obtain ⟨p, hp, h⟩ := c1K_ex h
    obtain ⟨n, hn, h⟩ := optK_ex h
    obtain ⟨pv, h, hrun⟩ := loadP_run (P := P) hn h
    obtain ⟨x, rfl, h⟩ := v1K_ex h
    obtain ⟨xs, hK, vs, h1, h2⟩ := resK_sound s r _ h
    have hv := s.ev (.tmp ad)
    simp only [St.ev] at hv
    rw [hp] at hv
    obtain ⟨v, h3, h4⟩ := hrun g0 pk g _ s.heap hv
    refine ⟨x :: xs, hK, v :: vs, ?_, h4, h2⟩
    have hptr : ∃ a1, (Act.eval a (.tmp ad)) = .pointer (some a1) := by
      cases hh : Act.eval a (.tmp ad) with
      | pointer o => cases o with
        | some a1 => exact ⟨a1, rfl⟩
        | none => rw [hh] at h3; simp [Instr.loadAt, Instr.sureAddr] at h3
      | _ => rw [hh] at h3; simp [Instr.loadAt, Instr.sureAddr] at h3
    obtain ⟨a1, ha1⟩ := hptr
    have ha1' : a.tmps.getD ad undef = .pointer (some a1) := ha1
    rw [ha1] at h3
    simp only [Instr.loadAt, Instr.sureAddr, Sem.run_bind, Sem.run_pure, Result.andThen_ok] at h3
    simp only [List.mapM_cons, resS, Sem.run_bind, Sem.run_pure, Result.andThen_ok, ha1', asAddr, h3, h1]

theorem fnd_envOf {g : Gh} {h : Hp} : ∀ (args : List V1) (cargs : List Value) (k t : Nat), All2 (RepV1 g h) args cargs → RepPV g h ((fnd (envOf k args) (k + t)).getD (.s (.c .any))) ((cargs[t]?).getD undef)
  | [], [], k, t, _ => by simp [envOf, fnd]; trivial
  | x :: xs, c :: cs, k, 0, h => by simp [envOf, fnd]; exact h.1
  | x :: xs, c :: cs, k, t + 1, h => by
    have := fnd_envOf xs cs (k + 1) t h.2
    have hne : ¬ k = k + (t + 1) := by omega
    simp only [envOf, fnd, hne, if_false, List.getElem?_cons_succ]
    rw [show k + (t + 1) = k + 1 + t by omega]
    exact this
  | [], _ :: _, _, _, h => h.elim
  | _ :: _, [], _, _, h => h.elim

theorem pcalls_ofW {P : Program} {f : FuncId} {fn : Func} {c : Code} {bxs : List (Nat × List C)} {ins : List (Nat × LO)} {args : List V1} {r : PV} {h' : Hp} (hf : P.funcs[f]? = some fn) (hb : fn.body = some c)
    (hname : (fn.name == "runtime.NumGoroutine") = false) (n : Nat) (hn : fn.ntmps = n) (hargs : args.length ≤ n)
    (h : CodeW P ⟨bxs.map Prod.fst, ins.map Prod.fst⟩ c (retE P ⟨bxs.map Prod.fst, ins.map Prod.fst⟩ fn.results.toList h' r) { n := n, env := envOf 0 args, h := ⟨bxs, ins⟩ }) : PCalls P f bxs ins args r h' := by
  refine ⟨⟨fn, hf, hname, by simp [hb]⟩, fun g cargs hent hwe ha => ?_⟩
  have hlen := ha.length
  simp only [Array.length_toList] at hlen
  refine calls_of_wp hf hb ?_
  have hsim : Sim g ⟨bxs.map Prod.fst, ins.map Prod.fst⟩ { n := n, env := envOf 0 args, h := ⟨bxs, ins⟩ } { tmps := cargs ++ Array.replicate (fn.ntmps - cargs.size) undef, defers := [] } g.w := by
    refine ⟨g, rfl, rfl, by simp; omega, hent, hwe, fun t ht => ?_⟩
    have h1 := fnd_envOf args cargs.toList 0 t ha
    rw [Nat.zero_add] at h1
    have h2 : (cargs ++ Array.replicate (fn.ntmps - cargs.size) undef).getD t undef = (cargs.toList[t]?).getD undef := by
      simp only [Array.getD_eq_getD_getElem?, Array.getElem?_append, Array.getElem?_toList]
      by_cases hlt : t < cargs.size
      · simp [hlt]
      · simp only [hlt, if_false]
        rw [Array.getElem?_eq_none (xs := cargs) (by omega)]
        simp only [Array.getElem?_replicate]
        split <;> rfl
    rw [h2]
    have h3 : t < n := ht
    simp only [St.get, h3, if_true]
    exact h1
  refine wp_mono (h g _ _ hsim) fun e a w hq => ?_
  obtain ⟨σ, ⟨g', rfl, s⟩, hq⟩ := hq
  have fin : resK P σ fn.results.toList (fun xs => Fin ⟨bxs.map Prod.fst, ins.map Prod.fst⟩ σ.h (retOf xs) h' r) → a.defers = [] ∧ ∃ v, (results fn a.tmps).run P g'.w = .ok v g'.w ∧
      ∃ g2 v2, Ending.returned v = .returned v2 ∧ g2.w = g'.w ∧ HeapOk g ⟨bxs.map Prod.fst, ins.map Prod.fst⟩ g2 h' ∧ WfG g2 h' ∧ RepPV g2 h' r v2 := by
    intro hq
    obtain ⟨xs, hfin, vs, h1, h2⟩ := resK_sound s _ _ hq
    have hrun : (results fn a.tmps).run P g'.w = .ok (if h : vs.length = 1 then vs[0] else .tuple vs.toArray) g'.w := by
      have e : results fn a.tmps = (do
          let vs ← fn.results.mapM (resS a)
          pure (if h : vs.size = 1 then vs[0] else .tuple vs)) := by
        unfold results
        congr 1
      rw [e, Array.mapM_eq_mapM_toList]
      simp only [Sem.run_bind, Sem.run_map, h1, Result.andThen_ok]
      simp
    have hrep : RepPV g' σ.h (retOf xs) (if h : vs.length = 1 then vs[0] else .tuple vs.toArray) := by
      have hl := h2.length
      match xs, vs, h2 with
      | [], [], _ => exact ⟨#[], rfl, trivial⟩
      | [x], [v], h2 => exact h2.1
      | x :: y :: xs, v :: u :: vs, h2 => exact ⟨_, rfl, by simpa using h2⟩
    obtain ⟨g2, e1, e2, e3, e4⟩ := hfin g g' _ s.heap s.wf hrep
    exact ⟨s.defers, _, hrun, g2, _, rfl, e1, e2, e3, e4⟩
  cases e with
  | normal => exact fin hq
  | ret => exact fin hq
  | _ => exact hq.elim
theorem pcalls_of {P : Program} {f : FuncId} {fn : Func} {c : Code} {bxs : List (Nat × List C)} {ins : List (Nat × LO)} {args : List V1} {r : PV} {h' : Hp} (hf : P.funcs[f]? = some fn) (hb : fn.body = some c)
    (hname : (fn.name == "runtime.NumGoroutine") = false) (n : Nat) (hn : fn.ntmps = n) (hargs : args.length ≤ n)
    (h : cK P ⟨bxs.map Prod.fst, ins.map Prod.fst⟩ c (retE P ⟨bxs.map Prod.fst, ins.map Prod.fst⟩ fn.results.toList h' r) { n := n, env := envOf 0 args, h := ⟨bxs, ins⟩ }) : PCalls P f bxs ins args r h' :=
  pcalls_ofW hf hb hname n hn hargs (cK_sound c _ _ h)

end Go.PL
namespace Go.PL
open Go.RowKit
set_option linter.unusedSimpArgs false
set_option linter.unusedVariables false

def DYields (P : Program) (h : Hp) (ρ : Operand → PV) (o : Oper) (pv : PV) : Prop :=
  ∀ g0 pk g (a : Act), HeapOk g0 pk g h → WfG g h → (∀ x ∈ o.op.operands, RepPV g h (ρ x) (a.eval x)) →
    ∀ (next : Act → World → Prop) (Q : Exit → Act → World → Prop),
      (∀ g' v, HeapOk g0 pk g' h → Ext g h g' h → RepPV g' h pv v → next (a.put o.dst v) g'.w) → o.wp P a g.w next Q

def bsL (P : Program) (ρ : Operand → PV) (t n : Nat) (parts : List (Nat × Operand)) (K : PV → Prop) : Prop :=
  optK (eInf P t) fun ei => optK (partsV ρ parts) fun xs =>
    (seqParts 0 parts = true ∧ xs.length = n ∧ (xs.all fun x => decide (x.cells.size = ei.2.1)) = true ∧ ((flat xs).all Value.oneCell') = true ∧ 0 < ei.2.1 ∧ n * ei.2.1 ≤ 16777216) ∧ K (.s (.c (.l ei.2.1 xs)))
def opD (P : Program) (h : Hp) (ρ : Operand → PV) (op : Op) (K : PV → Prop) : Prop :=
  match op with
  | .buildSlice t n parts => bsL P ρ t n parts.toList K
  | .makeMap _ r => r.isNone = true ∧ ∃ R, K (.s (.c (.mk R)))
  | op => opA P h ρ op K

theorem opD_sound {P : Program} {h : Hp} {ρ : Operand → PV} {o : Oper} {K : PV → Prop} (hfu : ∀ f, ρ (.func f) = vV (.func (.func f) #[] #[])) (hc : opD P h ρ o.op K) : ∃ pv, K pv ∧ DYields P h ρ o pv := by
  by_cases hb : ∃ t n parts, o.op = .buildSlice t n parts
  · obtain ⟨t, n, parts, ho⟩ := hb
    rw [ho] at hc
    obtain ⟨ei, hei, hc⟩ := optK_ex hc
    obtain ⟨xs, hxs, ⟨hseq, hlen, hall, hone, hpos, hle⟩, hK⟩ := optK_ex hc
    refine ⟨_, hK, fun g0 pk g a hk hwf hρ next Q hn => ?_⟩
    have hsz : ∀ x ∈ xs, x.cells.size = ei.2.1 := by simpa using hall
    have hone' : ∀ c ∈ flat xs, c.oneCell' = true := by simpa using hone
    subst hlen
    have hρ' : ∀ p ∈ parts.toList, RepPV g h (ρ p.2) (a.eval p.2) := fun p hp => hρ p.2 (by rw [ho]; simp only [Op.operands]; simp; exact ⟨p.1, by simpa using hp⟩)
    obtain ⟨hrun, hmax⟩ := bs_run hei hxs hseq hsz hpos hle a.eval hρ'
    let V' : Nat → Nat → Prop := fun b j => g.V b j ∨ (b = g.w.heap.size ∧ j < (flat xs).length)
    have hst := hk.step (g.w.alloc (.cells (flat xs).toArray ei.1)) V' rfl rfl rfl (by simp) (fun k hlt => heap_alloc_old g.w _ hlt) (fun _ _ h => .inl h)
      (fun b j hb hv => by rcases hv with h1 | ⟨h1, _⟩; exact h1; omega) (fun b j hv => by rcases hv with h1 | ⟨h1, _⟩; have := hk.vin b j h1; simp; omega; simp; omega)
    have hx := hn { g with w := g.w.alloc (.cells (flat xs).toArray ei.1), V := V' } (.slice (some ⟨g.w.heap.size, 0, none⟩) xs.length xs.length) hst.1 hst.2
      ⟨some ⟨g.w.heap.size, 0, none⟩, xs.length, rfl, Nat.le_refl _, hmax, ⟨hpos, hone'⟩, hsz, fun h => (by cases h), fun ad had => (by
        cases had
        exact ⟨rfl, fun j hj => ⟨by simp [World.cell?_alloc_new, hj], .inr ⟨rfl, by simpa using hj⟩⟩⟩)⟩
    unfold Oper.wp
    have hr : (execOp a.eval o).run P g.w = .ok (.value (.slice (some ⟨g.w.heap.size, 0, none⟩) xs.length xs.length)) (g.w.alloc (.cells (flat xs).toArray ei.1)) := by simp [execOp, ho, hrun]
    rw [hr]
    exact hx
  by_cases hm : ∃ t r, o.op = .makeMap t r
  · obtain ⟨t, r, ho⟩ := hm
    rw [ho] at hc
    obtain ⟨hr, R, hK⟩ := hc
    have hr' : r = none := by simpa using hr
    subst hr'
    refine ⟨_, hK, fun g0 pk g a hk hwf hρ next Q hn => ?_⟩
    obtain ⟨g1, hw1, _, hk1, he1, hl1⟩ := hk.newMap (GR R) (fun _ h => by simp at h)
    unfold Oper.wp
    have hx : (execOp a.eval o).run P g.w = .ok (.value (.map (some g.w.heap.size))) g1.w := by
      rw [hw1]
      simp only [execOp, ho]
      rfl
    rw [hx]
    exact hn g1 _ hk1 he1 ⟨_, rfl, hl1⟩
  · have hc' : opA P h ρ o.op K := by
      cases ho : o.op <;> rw [ho] at hc <;> first | exact hc | (refine absurd ?_ hm; exact ⟨_, _, ho⟩) | (refine absurd ?_ hb; exact ⟨_, _, _, ho⟩)
    obtain ⟨pv, hK, hy⟩ := opA_sound hfu hc'
    exact ⟨pv, hK, hy⟩

def opsD (P : Program) (ops : Array Oper) : List Oper → St → (St → Prop) → Prop
  | [], σ, K => K σ
  | o :: rest, σ, K => match o.guard with
    | none => opD P σ.h σ.ev o.op fun pv => opsD P ops rest (σ.put o.dst pv) K
    | some (j, want) => guardK (gv ops σ j) want (opD P σ.h σ.ev o.op fun pv => opsD P ops rest (σ.put o.dst pv) K) (opsD P ops rest (σ.put o.dst uV) K)

/-- what the order of the text does: one operation -/
def StepAt (P : Program) (ops : Array Oper) (σ : St) (o : Oper) (v : PV) : Prop :=
  match o.guard with
  | none => DYields P σ.h σ.ev o v
  | some (j, want) => (∃ t, gv ops σ j = vB t ∧ ((t = want ∧ DYields P σ.h σ.ev o v) ∨ (t ≠ want ∧ v = uV))) ∨ (∃ vs, gv ops σ j = vV (.tuple vs) ∧ v = uV)
def puts (σ : St) : List Oper → List PV → St
  | o :: l, v :: vs => puts (σ.put o.dst v) l vs
  | _, _ => σ
def StepsOk (P : Program) (ops : Array Oper) : St → List Oper → List PV → Prop
  | σ, o :: l, v :: vs => StepAt P ops σ o v ∧ StepsOk P ops (σ.put o.dst v) l vs
  | _, [], [] => True
  | _, _, _ => False
theorem put_h (σ : St) (d : Option Nat) (v : PV) : (σ.put d v).h = σ.h := by cases d <;> rfl
theorem put_n (σ : St) (d : Option Nat) (v : PV) : (σ.put d v).n = σ.n := by cases d <;> rfl
theorem opsD_ex {P : Program} {ops : Array Oper} {K : St → Prop} : ∀ (l : List Oper) (σ : St), opsD P ops l σ K → ∃ vs, StepsOk P ops σ l vs ∧ K (puts σ l vs)
  | [], σ, h => ⟨[], trivial, h⟩
  | o :: l, σ, h => by
    unfold opsD at h
    cases hg : o.guard with
    | none =>
      simp only [hg] at h
      obtain ⟨pv, h1, h2⟩ := opD_sound (fun f => rfl) h
      obtain ⟨vs, h3, h4⟩ := opsD_ex l _ h1
      exact ⟨pv :: vs, ⟨by simp only [StepAt, hg]; exact h2, h3⟩, h4⟩
    | some jw =>
      obtain ⟨j, want⟩ := jw
      simp only [hg] at h
      rcases guardK_cases h with ⟨t, hgv, ⟨ht, h⟩ | ⟨ht, h⟩⟩ | ⟨vs, hgv, h⟩
      · obtain ⟨pv, h1, h2⟩ := opD_sound (fun f => rfl) h
        obtain ⟨vs, h3, h4⟩ := opsD_ex l _ h1
        exact ⟨pv :: vs, ⟨by simp only [StepAt, hg]; exact .inl ⟨t, hgv, .inl ⟨ht, h2⟩⟩, h3⟩, h4⟩
      · obtain ⟨vs, h3, h4⟩ := opsD_ex l _ h
        exact ⟨uV :: vs, ⟨by simp only [StepAt, hg]; exact .inl ⟨t, hgv, .inr ⟨ht, trivial⟩⟩, h3⟩, h4⟩
      · obtain ⟨us, h3, h4⟩ := opsD_ex l _ h
        exact ⟨uV :: us, ⟨by simp only [StepAt, hg]; exact .inr ⟨vs, hgv, trivial⟩, h3⟩, h4⟩

/-- the state in the order of the text ahead of operation number i -/
def stAt (σ : St) (l : List Oper) (vs : List PV) (i : Nat) : St := puts σ (l.take i) (vs.take i)
theorem puts_h (σ : St) : ∀ (l : List Oper) (vs : List PV), (puts σ l vs).h = σ.h ∧ (puts σ l vs).n = σ.n := by
  intro l
  induction l generalizing σ with
  | nil => intro vs; cases vs <;> exact ⟨rfl, rfl⟩
  | cons o l ih =>
    intro vs
    cases vs with
    | nil => exact ⟨rfl, rfl⟩
    | cons v vs => simp only [puts]; rw [(ih _ vs).1, (ih _ vs).2, put_h, put_n]; exact ⟨rfl, rfl⟩
theorem steps_at {P : Program} {ops : Array Oper} : ∀ {l : List Oper} {vs : List PV} {σ : St}, StepsOk P ops σ l vs → l.length = vs.length ∧ ∀ i o, l[i]? = some o → ∃ v, vs[i]? = some v ∧ StepAt P ops (stAt σ l vs i) o v
  | [], [], σ, _ => ⟨rfl, fun i o h => by simp at h⟩
  | o :: l, v :: vs, σ, ⟨h1, h2⟩ => by
    obtain ⟨h3, h4⟩ := steps_at h2
    refine ⟨by simp [h3], fun i o' ho => ?_⟩
    cases i with
    | zero => simp at ho; subst ho; exact ⟨v, by simp, h1⟩
    | succ i =>
      obtain ⟨u, h5, h6⟩ := h4 i o' (by simpa using ho)
      exact ⟨u, by simpa using h5, by simpa [stAt, puts] using h6⟩
  | [], _ :: _, _, h => h.elim
  | _ :: _, [], _, h => h.elim
/-- a slot in the order of the text -/
theorem get_puts {t : Nat} : ∀ {l : List Oper} {vs : List PV} {σ : St}, l.length = vs.length → (∀ (i j : Nat) (oi oj : Oper), l[i]? = some oi → l[j]? = some oj → oi.dst = some t → oj.dst = some t → i = j) →
    (∀ (j : Nat) (oj : Oper) (v : PV), l[j]? = some oj → vs[j]? = some v → oj.dst = some t → t < σ.n → (puts σ l vs).get t = v) ∧ ((∀ (j : Nat) (oj : Oper), l[j]? = some oj → oj.dst ≠ some t) → (puts σ l vs).get t = σ.get t)
  | [], [], σ, _, _ => ⟨fun j oj v h => by simp at h, fun _ => rfl⟩
  | o :: l, v :: vs, σ, hl, hu => by
    have hl' : l.length = vs.length := by simpa using hl
    have hu' : ∀ (i j : Nat) (oi oj : Oper), l[i]? = some oi → l[j]? = some oj → oi.dst = some t → oj.dst = some t → i = j := fun i j oi oj h1 h2 h3 h4 => by
      have := hu (i + 1) (j + 1) oi oj (by simpa using h1) (by simpa using h2) h3 h4
      omega
    obtain ⟨ih1, ih2⟩ := get_puts (σ := σ.put o.dst v) hl' hu'
    constructor
    · intro j oj u h1 h2 h3 h4
      simp only [puts]
      cases j with
      | zero =>
        simp at h1 h2
        subst h1 h2
        rw [ih2 fun j' oj' h5 h6 => by
          have := hu 0 (j' + 1) o oj' (by simp) (by simpa using h5) h3 h6
          omega]
        rw [h3]
        simp [St.put, St.get, h4, fnd]
      | succ j => exact ih1 j oj u (by simpa using h1) (by simpa using h2) h3 (by rw [put_n]; exact h4)
    · intro h
      simp only [puts]
      rw [ih2 fun j oj h1 => h (j + 1) oj (by simpa using h1)]
      have h0 := h 0 o (by simp)
      cases hd : o.dst with
      | none => rfl
      | some d =>
        have hne : ¬ d = t := fun e => h0 (by rw [hd, e])
        simp [St.put, St.get, fnd, hne]
  | [], _ :: _, _, h, _ => by simp at h
  | _ :: _, [], _, h, _ => by simp at h

/-! ### the check of a region -/
def afterOn (o : Oper) (i : Nat) : Bool := o.after.toList.any fun e => Region.binds .any e && e.on == i
def drawOk (ops : Array Oper) : Bool :=
  (List.range ops.size).all fun i => match ops[i]? with
    | none => true
    | some o => (o.after.all fun e => !Region.binds .any e || decide (e.on < i)) &&
      (List.range ops.size).all fun j => match ops[j]? with
        | none => true
        | some oj => match oj.dst with
          | none => true
          | some t => (if i = j then !(o.looksAt ops).contains t else o.dst != some t) &&
            (!(o.looksAt ops).contains t || (decide (j < i) && afterOn o j) || (decide (i < j) && afterOn oj i))

theorem drawOk_spec {ops : Array Oper} (h : drawOk ops = true) :
    (∀ (i : Nat) (o : Oper), ops[i]? = some o → ∀ e ∈ o.after, Region.binds .any e = true → e.on < i) ∧
    (∀ (i j : Nat) (oi oj : Oper) (t : Nat), ops[i]? = some oi → ops[j]? = some oj → oi.dst = some t → oj.dst = some t → i = j) ∧
    (∀ (i : Nat) (o : Oper) (t : Nat), ops[i]? = some o → t ∈ o.looksAt ops → ∀ (j : Nat) (oj : Oper), ops[j]? = some oj → oj.dst = some t → j ≠ i ∧ ((j < i ∧ afterOn o j = true) ∨ (i < j ∧ afterOn oj i = true))) := by
  have lt : ∀ (i : Nat) (o : Oper), ops[i]? = some o → i ∈ List.range ops.size := fun i o hi => List.mem_range.2 (Array.getElem?_eq_some_iff.1 hi).1
  have get : ∀ (i : Nat) (o : Oper), ops[i]? = some o → (∀ e ∈ o.after, Region.binds .any e = true → e.on < i) ∧ ∀ (j : Nat) (oj : Oper) (t : Nat), ops[j]? = some oj → oj.dst = some t →
      ((if i = j then !(o.looksAt ops).contains t else o.dst != some t) = true ∧ ((!(o.looksAt ops).contains t || (decide (j < i) && afterOn o j) || (decide (i < j) && afterOn oj i)) = true)) := by
    intro i o hi
    unfold drawOk at h
    have h1 := List.all_eq_true.1 h i (lt i o hi)
    simp only [hi, Bool.and_eq_true] at h1
    refine ⟨fun e he hb => ?_, fun j oj t hj hd => ?_⟩
    · have := Array.all_eq_true_iff_forall_mem.1 h1.1 e he
      simpa [hb] using this
    · have h2 := List.all_eq_true.1 h1.2 j (lt j oj hj)
      simp only [hj, hd, Bool.and_eq_true] at h2
      exact h2
  refine ⟨fun i o hi => (get i o hi).1, fun i j oi oj t hi hj hdi hdj => ?_, fun i o t hi ht j oj hj hd => ?_⟩
  · have h1 := ((get i oi hi).2 j oj t hj hdj).1
    by_cases hij : i = j
    · exact hij
    · simp [hij, hdi] at h1
  · obtain ⟨h1, h2⟩ := (get i o hi).2 j oj t hj hd
    have hc : (o.looksAt ops).contains t = true := by simpa using ht
    have hne : j ≠ i := fun e => by subst e; simp [hc] at h1; exact h1 ht
    refine ⟨hne, ?_⟩
    simp only [hc, Bool.not_true, Bool.false_or, Bool.or_eq_true, Bool.and_eq_true, decide_eq_true_eq] at h2
    exact h2

theorem cK_drawS {P : Program} {pk : Pk} {id : Nat} {ops : Array Oper} {Q : Exit → St → Prop} {σ : St} (hm : P.follows .mixedOrders = true) (hok : drawOk ops = true)
    {vs : List PV} (hst : StepsOk P ops σ ops.toList vs) (hK : Q .normal (puts σ ops.toList vs)) : CodeW P pk (.region id ops true) Q σ := by
  intro g0 a w s
  obtain ⟨hlen, hat⟩ := steps_at hst
  obtain ⟨hA, hB, hC⟩ := drawOk_spec hok
  have hop : ∀ i : Nat, ops.toList[i]? = ops[i]? := fun i => by simp
  let envOf : Array Bool → Nat → PV := fun listed t => match (List.range ops.size).find? (fun j => listed.getD j false && ((ops[j]?).bind (·.dst)) == some t) with
    | some j => (vs[j]?).getD (.s (.c .any))
    | none => σ.get t
  have env1 : ∀ (listed : Array Bool) (t j : Nat) (oj : Oper) (v : PV), ops[j]? = some oj → oj.dst = some t → listed.getD j false = true → vs[j]? = some v → envOf listed t = v := by
    intro listed t j oj v hj hd hl hv
    have hjm : j ∈ List.range ops.size := List.mem_range.2 (Array.getElem?_eq_some_iff.1 hj).1
    simp only [envOf]
    cases hf : (List.range ops.size).find? (fun j => listed.getD j false && ((ops[j]?).bind (·.dst)) == some t) with
    | none =>
      have := List.find?_eq_none.1 hf j hjm
      simp [hl, hj, hd] at this
    | some k =>
      have hk := List.find?_some hf
      simp only [Bool.and_eq_true, beq_iff_eq] at hk
      cases hok' : ops[k]? with
      | none => simp [hok'] at hk
      | some ok =>
        simp [hok'] at hk
        have := hB k j ok oj t hok' hj hk.2 hd
        subst this
        simp [hv]
  have env0 : ∀ (listed : Array Bool) (t : Nat), (∀ (j : Nat) (oj : Oper), ops[j]? = some oj → oj.dst = some t → listed.getD j false = false) → envOf listed t = σ.get t := by
    intro listed t hn
    simp only [envOf]
    cases hf : (List.range ops.size).find? (fun j => listed.getD j false && ((ops[j]?).bind (·.dst)) == some t) with
    | none => rfl
    | some k =>
      have hk := List.find?_some hf
      simp only [Bool.and_eq_true, beq_iff_eq] at hk
      cases hok' : ops[k]? with
      | none => simp [hok'] at hk
      | some ok =>
        simp [hok'] at hk
        simp [show listed[k]?.getD false = false by simpa using hn k ok hok' hk.2] at hk
  -- the slots that an operation looks at hold what they hold in the order of the text
  have agree : ∀ (listed : Array Bool) (i : Nat) (o : Oper), ops[i]? = some o → listed.getD i false = false → (∀ e ∈ o.after, Region.binds .any e = true → listed.getD e.on false = true) →
      (∀ (j : Nat) (oj : Oper), ops[j]? = some oj → listed.getD j false = true → ∀ e ∈ oj.after, Region.binds .any e = true → listed.getD e.on false = true) →
      ∀ t ∈ o.looksAt ops, t < σ.n → envOf listed t = (stAt σ ops.toList vs i).get t := by
    intro listed i o hi hun haft hcl t ht htn
    have hu : ∀ (p q : Nat) (oi oj : Oper), (ops.toList.take i)[p]? = some oi → (ops.toList.take i)[q]? = some oj → oi.dst = some t → oj.dst = some t → p = q := fun p q oi oj h1 h2 h3 h4 => by
      rw [List.getElem?_take] at h1 h2
      split at h1
      · split at h2
        · exact hB p q oi oj t (by rw [← hop]; exact h1) (by rw [← hop]; exact h2) h3 h4
        · cases h2
      · cases h1
    obtain ⟨g1, g2⟩ := get_puts (σ := σ) (t := t) (l := ops.toList.take i) (vs := vs.take i) (by simp only [List.length_take, hlen]) hu
    by_cases hex : ∃ (j : Nat) (oj : Oper), ops[j]? = some oj ∧ oj.dst = some t
    · obtain ⟨j, oj, hj, hd⟩ := hex
      obtain ⟨hne, hcase⟩ := hC i o t hi ht j oj hj hd
      rcases hcase with ⟨hlt, haf⟩ | ⟨hlt, haf⟩
      · have hlj : listed.getD j false = true := by
          unfold afterOn at haf
          obtain ⟨e, he', hbe⟩ := List.any_eq_true.1 haf
          have he : e ∈ o.after := by simpa using he'
          simp only [Bool.and_eq_true, beq_iff_eq] at hbe
          rw [← hbe.2]
          exact haft e he hbe.1
        obtain ⟨v, hv, _⟩ := hat j oj (by rw [hop]; exact hj)
        rw [env1 listed t j oj v hj hd hlj hv]
        exact (g1 j oj v (by rw [List.getElem?_take, if_pos hlt, hop]; exact hj) (by rw [List.getElem?_take, if_pos hlt]; exact hv) hd htn).symm
      · rw [env0 listed t fun k ok hk' hdk => ?_]
        · refine (g2 fun k ok h1 h2 => ?_).symm
          rw [List.getElem?_take] at h1
          split at h1
          · have := hB k j ok oj t (by rw [← hop]; exact h1) hj h2 hd
            omega
          · cases h1
        · have := hB k j ok oj t hk' hj hdk hd
          subst this
          cases hl : listed.getD k false with
          | false => rfl
          | true =>
            unfold afterOn at haf
            obtain ⟨e, he', hbe⟩ := List.any_eq_true.1 haf
            have he : e ∈ oj.after := by simpa using he'
            simp only [Bool.and_eq_true, beq_iff_eq] at hbe
            have := hcl k oj hj hl e he hbe.1
            rw [hbe.2, hun] at this
            cases this
    · rw [env0 listed t fun k ok hk' hdk => absurd ⟨k, ok, hk', hdk⟩ hex]
      refine (g2 fun k ok h1 h2 => ?_).symm
      rw [List.getElem?_take] at h1
      split at h1
      · exact hex ⟨k, ok, by rw [← hop]; exact h1, h2⟩
      · cases h1
  -- at the end: the state of the text's order
  have fin : ∀ (listed : Array Bool) (a' : Act) (w' : World) (g' : Gh), g'.w = w' → (∀ j, j < ops.size → listed.getD j false = true) → a'.defers = [] → a'.tmps.size = σ.n → HeapOk g0 pk g' σ.h → WfG g' σ.h →
      (∀ t, t < σ.n → RepPV g' σ.h (envOf listed t) (a'.tmps.getD t undef)) → lift g0 pk Q .normal a' w' := by
    intro listed a' w' g' hw' hall hd hs hk hwf henv
    obtain ⟨p1, p2⟩ := puts_h σ ops.toList vs
    refine ⟨puts σ ops.toList vs, ⟨g', hw', hd, by rw [p2]; exact hs, by rw [p1]; exact hk, by rw [p1]; exact hwf, fun t ht => ?_⟩, hK⟩
    rw [p2] at ht
    rw [p1]
    have hget : (puts σ ops.toList vs).get t = envOf listed t := by
      obtain ⟨g1, g2⟩ := get_puts (σ := σ) (t := t) (l := ops.toList) (vs := vs) hlen (fun p q oi oj h1 h2 h3 h4 => hB p q oi oj t (by rw [← hop]; exact h1) (by rw [← hop]; exact h2) h3 h4)
      by_cases hex : ∃ (j : Nat) (oj : Oper), ops[j]? = some oj ∧ oj.dst = some t
      · obtain ⟨j, oj, hj, hdj⟩ := hex
        obtain ⟨v, hv, _⟩ := hat j oj (by rw [hop]; exact hj)
        rw [g1 j oj v (by rw [hop]; exact hj) hv hdj ht, env1 listed t j oj v hj hdj (hall j (Array.getElem?_eq_some_iff.1 hj).1) hv]
      · rw [g2 fun k ok h1 h2 => hex ⟨k, ok, by rw [← hop]; exact h1, h2⟩, env0 listed t fun k ok hk' hdk => absurd ⟨k, ok, hk', hdk⟩ hex]
    rw [hget]
    exact henv t ht
  have allListed : ∀ listed : Array Bool, Region.ready .any ops listed = [] → ∀ j, j < ops.size → listed.getD j true = true := by
    intro listed hr j
    induction j using Nat.strongRecOn with
    | _ j ih =>
      intro hj
      cases hl : listed.getD j true with
      | true => rfl
      | false =>
        have hmem : j ∈ Region.ready .any ops listed := mem_ready.2 ⟨hl, ops[j], Array.getElem?_eq_getElem hj, fun e he hb => by
          have hlt := hA j ops[j] (Array.getElem?_eq_getElem hj) e he hb
          have h1 := ih e.on hlt (by omega)
          rcases Nat.lt_or_ge e.on listed.size with h2 | h2
          · simpa [h2] using h1
          · exfalso
            have : listed.getD j true = true := by simp [Array.getElem?_eq_none (show listed.size ≤ j by omega)]
            rw [this] at hl
            cases hl⟩
        rw [hr] at hmem
        cases hmem
  have main : ∀ (fuel : Nat) (listed : Array Bool) (a' : Act) (g' : Gh), listed.size = ops.size → ((List.range ops.size).filter fun j => !listed.getD j true).length ≤ fuel →
      (∀ (j : Nat) (oj : Oper), ops[j]? = some oj → listed.getD j false = true → ∀ e ∈ oj.after, Region.binds .any e = true → listed.getD e.on false = true) →
      a'.defers = [] → a'.tmps.size = σ.n → HeapOk g0 pk g' σ.h → WfG g' σ.h → (∀ t, t < σ.n → RepPV g' σ.h (envOf listed t) (a'.tmps.getD t undef)) →
      wpAny P .any ops (lift g0 pk Q) fuel listed a' g'.w := by
    intro fuel
    have conv : ∀ (listed : Array Bool), listed.size = ops.size → ∀ j, j < ops.size → listed.getD j true = true → listed.getD j false = true := fun listed hs j hj h => by
      have : j < listed.size := by omega
      simpa [this] using h
    induction fuel with
    | zero =>
      intro listed a' g' hs hfu hcl hd hsz hk hwf henv
      have hnil : (List.range ops.size).filter (fun j => !listed.getD j true) = [] := List.eq_nil_of_length_eq_zero (Nat.le_zero.1 hfu)
      have hall : ∀ j, j < ops.size → listed.getD j true = true := fun j hj => by
        have := List.filter_eq_nil_iff.1 hnil j (List.mem_range.2 hj)
        simpa using this
      refine ⟨?_, fin listed a' g'.w g' rfl (fun j hj => conv listed hs j hj (hall j hj)) hd hsz hk hwf henv⟩
      cases hr : Region.ready .any ops listed with
      | nil => rfl
      | cons x r =>
        have hx : x ∈ Region.ready .any ops listed := by rw [hr]; simp
        obtain ⟨h1, o, ho, _⟩ := mem_ready.1 hx
        rw [hall x (Array.getElem?_eq_some_iff.1 ho).1] at h1
        cases h1
    | succ fuel ih =>
      intro listed a' g' hs hfu hcl hd hsz hk hwf henv
      refine ⟨fun hr => fin listed a' g'.w g' rfl (fun j hj => conv listed hs j hj (allListed listed hr j hj)) hd hsz hk hwf henv, fun i hi => ?_⟩
      obtain ⟨hun, o, ho, haft⟩ := mem_ready.1 hi
      have hilt : i < ops.size := (Array.getElem?_eq_some_iff.1 ho).1
      have hun' : listed.getD i false = false := by
        have : i < listed.size := by omega
        simpa [this] using hun
      obtain ⟨v, hv, hstep⟩ := hat i o (by rw [hop]; exact ho)
      have hag := agree listed i o ho hun' haft hcl
      obtain ⟨q1, q2⟩ := puts_h σ (ops.toList.take i) (vs.take i)
      have hsth : (stAt σ ops.toList vs i).h = σ.h := q1
      have hstn : (stAt σ ops.toList vs i).n = σ.n := q2
      -- what follows
      have next : ∀ (g2 : Gh) (u : Value), HeapOk g0 pk g2 σ.h → Ext g' σ.h g2 σ.h → RepPV g2 σ.h v u → wpAny P .any ops (lift g0 pk Q) fuel (listed.setIfInBounds i true) (a'.put o.dst u) g2.w := by
        intro g2 u hk2 he2 hr2
        refine ih (listed.setIfInBounds i true) (a'.put o.dst u) g2 (by simpa using hs) ?_ ?_ (by cases o.dst <;> exact hd) (by cases o.dst <;> simpa [Act.put] using hsz) hk2 (hwf.ext he2) fun t ht => ?_
        · have hlt : ((List.range ops.size).filter fun j => !(listed.setIfInBounds i true).getD j true).length < ((List.range ops.size).filter fun j => !listed.getD j true).length := by
            have e : (List.range ops.size).filter (fun j => !(listed.setIfInBounds i true).getD j true) = ((List.range ops.size).filter fun j => !listed.getD j true).filter fun j => decide (j ≠ i) := by
              rw [List.filter_filter]
              apply List.filter_congr
              intro j hj
              by_cases hji : j = i
              · subst hji
                have : j < listed.size := by omega
                simp [this]
              · rw [getD_set_ne true (Ne.symm hji)]
                simp [hji]
            rw [e]
            exact List.length_filter_lt_length_iff_exists.2 ⟨i, List.mem_filter.2 ⟨List.mem_range.2 hilt, by simp [hun]⟩, by simp⟩
          omega
        · intro j oj hj hl e he hb
          by_cases hji : j = i
          · subst hji
            rw [ho] at hj
            cases hj
            exact getD_set_true (haft e he hb)
          · rw [getD_set_ne false (Ne.symm hji)] at hl
            exact getD_set_true (hcl j oj hj hl e he hb)
        · by_cases hdt : o.dst = some t
          · have hset : (listed.setIfInBounds i true).getD i false = true := by
              have : i < listed.size := by omega
              simp [this]
            rw [env1 _ t i o v ho hdt hset hv]
            have : (a'.put o.dst u).tmps.getD t undef = u := by
              rw [hdt]
              have : t < a'.tmps.size := by omega
              simp [Act.put, this]
            rw [this]
            exact hr2
          · have h1 : (a'.put o.dst u).tmps.getD t undef = a'.tmps.getD t undef := by
              cases hod : o.dst with
              | none => rfl
              | some d =>
                have hne : ¬ d = t := fun e => hdt (by rw [hod, e])
                simp [Act.put, Array.getElem?_setIfInBounds_ne hne]
            have h2 : envOf (listed.setIfInBounds i true) t = envOf listed t := by
              by_cases hex : ∃ (j : Nat) (oj : Oper), ops[j]? = some oj ∧ oj.dst = some t ∧ listed.getD j false = true
              · obtain ⟨j, oj, hj, hdj, hl⟩ := hex
                obtain ⟨vj, hvj, _⟩ := hat j oj (by rw [hop]; exact hj)
                rw [env1 listed t j oj vj hj hdj hl hvj, env1 _ t j oj vj hj hdj (getD_set_true hl) hvj]
              · rw [env0 listed t fun k ok hk' hdk => by
                    cases hl : listed.getD k false with
                    | false => rfl
                    | true => exact absurd ⟨k, ok, hk', hdk, hl⟩ hex,
                  env0 _ t fun k ok hk' hdk => by
                    have hki : k ≠ i := fun e => by subst e; rw [ho] at hk'; cases hk'; exact hdt hdk
                    rw [getD_set_ne false (Ne.symm hki)]
                    cases hl : listed.getD k false with
                    | false => rfl
                    | true => exact absurd ⟨k, ok, hk', hdk, hl⟩ hex]
            rw [h1, h2]
            exact (henv t ht).ext he2
      -- the slots that are looked at
      have looked : ∀ x ∈ o.op.operands, RepPV g' σ.h ((stAt σ ops.toList vs i).ev x) (a'.eval x) := by
        intro x hx
        cases x with
        | tmp t =>
          by_cases ht : t < σ.n
          · have hl : t ∈ o.looksAt ops := List.mem_append_left _ (List.mem_filterMap.2 ⟨.tmp t, by simpa using hx, rfl⟩)
            simp only [St.ev]
            rw [← hag t hl ht]
            exact henv t ht
          · have : (stAt σ ops.toList vs i).ev (.tmp t) = .s (.c .any) := by simp [St.ev, St.get, hstn, ht]
            rw [this]
            trivial
        | const c => cases c <;> simp only [St.ev, constPV, Act.eval] <;> first | rfl | exact ⟨_, rfl, All2.of_v _⟩
        | global g => rfl
        | func f => rfl
      have guardv : ∀ j want, o.guard = some (j, want) → (∀ t, gv ops (stAt σ ops.toList vs i) j = vB t → yielded ops a'.tmps j = some t) ∧ (∀ us, gv ops (stAt σ ops.toList vs i) j = vV (.tuple us) → yielded ops a'.tmps j = none) := by
        intro j want hg
        unfold gv yielded
        cases hdj : (ops[j]?).bind (·.dst) with
        | none => exact ⟨fun t h => by simp at h, fun us h => by simp at h⟩
        | some d =>
          simp only [Option.bind_some]
          by_cases hlt : d < σ.n
          · have hl : d ∈ o.looksAt ops := List.mem_append_right _ (by simp [hg, hdj])
            have hr := henv d hlt
            rw [hag d hl hlt] at hr
            have he : a'.tmps[d]? = some (a'.tmps.getD d undef) := by
              have : d < a'.tmps.size := by rw [hsz]; exact hlt
              simp [this, Array.getD]
            rw [he]
            refine ⟨fun t h => ?_, fun us h => ?_⟩
            · rw [h] at hr
              simp only [RepPV, RepV1, RepC] at hr
              rw [hr]
            · rw [h] at hr
              simp only [RepPV, RepV1, RepC] at hr
              rw [hr]
          · have : (stAt σ ops.toList vs i).get d = .s (.c .any) := by simp [St.get, hstn, hlt]
            rw [this]
            exact ⟨fun t h => by simp at h, fun us h => by simp at h⟩
      have run : DYields P (stAt σ ops.toList vs i).h (stAt σ ops.toList vs i).ev o v → o.wp P a' g'.w (wpAny P .any ops (lift g0 pk Q) fuel (listed.setIfInBounds i true)) (lift g0 pk Q) := fun hy => by
        rw [hsth] at hy
        exact hy g0 pk g' a' hk hwf looked _ _ fun g2 u hk2 he2 hr2 => next g2 u hk2 he2 hr2
      have skip : v = uV → wpAny P .any ops (lift g0 pk Q) fuel (listed.setIfInBounds i true) (a'.put o.dst undef) g'.w := fun hvu => by
        subst hvu
        exact next g' undef hk (Ext.refl _ _) rfl
      unfold wpOp
      simp only [ho]
      unfold StepAt at hstep
      cases hg : o.guard with
      | none =>
        simp only [hg] at hstep
        rw [if_pos (by simp [Region.wanted, hg])]
        exact .inl (run hstep)
      | some jw =>
        obtain ⟨j, want⟩ := jw
        simp only [hg] at hstep
        obtain ⟨hy1, hy2⟩ := guardv j want hg
        rcases hstep with ⟨t, hgv, ⟨ht, hd'⟩ | ⟨ht, hvu⟩⟩ | ⟨us, hgv, hvu⟩
        · rw [if_pos (by simp [Region.wanted, hg, hy1 t hgv, ht])]
          exact .inl (run hd')
        · rw [if_neg (by simp [Region.wanted, hg, hy1 t hgv, ht])]
          exact skip hvu
        · rw [if_neg (by simp [Region.wanted, hg, hy2 us hgv])]
          exact skip hvu
  obtain ⟨g, rfl, s⟩ := s
  refine wp_region_any hm ?_
  have hst2 := s.heap.step g.w.drew g.V rfl rfl rfl (Nat.le_refl _) (fun _ _ => rfl) (fun _ _ h => h) (fun _ _ _ h => h) (fun b o hv => s.heap.vin b o hv)
  have hrep : ∀ j : Nat, (Array.replicate ops.size false).getD j false = false := fun j => by
    by_cases hj : j < ops.size
    · simp [hj]
    · simp [Array.getElem?_eq_none (show (Array.replicate ops.size false).size ≤ j by simp; omega)]
  refine main ops.size (Array.replicate ops.size false) a { g with w := g.w.drew } (by simp) (Nat.le_trans (List.length_filter_le _ _) (by simp)) (fun j oj hj hl => by rw [hrep j] at hl; cases hl) s.defers s.size hst2.1 ⟨s.wf.ov, s.wf.nd⟩ fun t ht => ?_
  rw [env0 _ t fun k ok _ _ => hrep k]
  exact (s.env t ht).ext hst2.2

theorem cK_draw {P : Program} {pk : Pk} {id : Nat} {ops : Array Oper} {Q : Exit → St → Prop} {σ : St} (hm : P.follows .mixedOrders = true) (hok : drawOk ops = true)
    (h : opsD P ops ops.toList σ fun σ' => Q .normal σ') : CodeW P pk (.region id ops true) Q σ := by
  obtain ⟨vs, hst, hK⟩ := opsD_ex _ _ h
  exact cK_drawS hm hok hst hK

end Go.PL
namespace Go.PL
open Go.RowKit
set_option linter.unusedSimpArgs false
set_option linter.unusedVariables false

def EYields (P : Program) (h : Hp) (ρ : Operand → PV) (o : Oper) (pv : PV) (h' : Hp) : Prop :=
  ∀ g0 pk g (a : Act), HeapOk g0 pk g h → WfG g h → (∀ x ∈ o.op.operands, RepPV g h (ρ x) (a.eval x)) →
    ∀ (next : Act → World → Prop) (Q : Exit → Act → World → Prop),
      (∀ g' v, HeapOk g0 pk g' h' → WfG g' h' → Ext g h g' h' → RepPV g' h' pv v → next (a.put o.dst v) g'.w) → o.wp P a g.w next Q
theorem DYields.toE {P : Program} {h : Hp} {ρ : Operand → PV} {o : Oper} {pv : PV} (hD : DYields P h ρ o pv) : EYields P h ρ o pv h :=
  fun g0 pk g a hk wf hρ next Q hn => hD g0 pk g a hk wf hρ next Q fun g' v hk' he hr => hn g' v hk' (wf.ext he) he hr

/-- all that is there, taken as handed in -/
def pkAll (h : Hp) : Pk := ⟨h.boxes.map Prod.fst, (h.lists.filter fun x => x.2.live).map Prod.fst⟩
theorem pkAll_b {h : Hp} {id : Nat} : id ∈ (pkAll h).bs ↔ ∃ cs, (id, cs) ∈ h.boxes := by
  simp [pkAll]
theorem pkAll_l {h : Hp} {id : Nat} : id ∈ (pkAll h).ls ↔ ∃ lo, (id, lo) ∈ h.lists ∧ lo.live = true := by
  simp [pkAll]
theorem HeapOk.self {g0 : Gh} {pk : Pk} {g : Gh} {h : Hp} (hk : HeapOk g0 pk g h) : HeapOk g (pkAll h) g h :=
  ⟨rfl, rfl, rfl, Nat.le_refl _, fun _ _ _ _ _ => rfl, fun b o hv => ⟨hv, rfl⟩, fun b o _ _ hv => hv, hk.vin,
   fun id hid => pkAll_b.1 hid, fun id hid => by obtain ⟨lo, hm, _⟩ := pkAll_l.1 hid; exact ⟨⟨lo, hm⟩, rfl⟩,
   fun id cs hm => by have hb := hk.boxes id cs hm; exact ⟨.inr ⟨pkAll_b.2 ⟨cs, hm⟩, rfl⟩, hb.hid, hb.cells⟩,
   fun id lo hm hl => by have hb := hk.lists id lo hm hl; exact ⟨hb.own, fun b hb' => .inr ⟨id, pkAll_l.2 ⟨lo, hm, hl⟩, hb'⟩, hb.sz, hb.pos, hb.one, hb.vis⟩,
   hk.sepB, hk.sepL, hk.sepX, by
    obtain ⟨rows, h1, h2⟩ := hk.tabAt
    exact ⟨rows, h1, fun x hx => ⟨(h2 x hx).1, fun id hid => by obtain ⟨cs, hm⟩ := pkAll_b.1 hid; exact (h2 x hx).2.1 id cs hm, fun id hid => by obtain ⟨lo, hm, hl⟩ := pkAll_l.1 hid; exact (h2 x hx).2.2 id lo hm hl, (h2 x hx).1.noMap hk.maps⟩⟩, hk.maps, fun _ _ _ h => h, fun _ _ h => h⟩
theorem HeapOk.trans {g0 : Gh} {pk : Pk} {g g' : Gh} {h h' : Hp} (hk : HeapOk g0 pk g h) (hk' : HeapOk g (pkAll h) g' h') (he : Ext g h g' h') : HeapOk g0 pk g' h' := by
  have nb : ∀ b, b < g0.w.heap.size → (∀ id ∈ pk.ls, blk g0 id ≠ some b) → ∀ id ∈ (pkAll h).ls, blk g id ≠ some b := fun b hlt hn id hid e => by
    obtain ⟨lo, hm, hl⟩ := pkAll_l.1 hid
    rcases (hk.lists id lo hm hl).mine b e with h1 | ⟨id', h1, h2⟩
    · omega
    · exact hn id' h1 h2
  refine ⟨hk'.os.trans hk.os, hk'.tape.trans hk.tape, hk'.output.trans hk.output, Nat.le_trans hk.size hk'.size, ?_, ?_, ?_, hk'.vin, ?_, ?_, ?_, ?_, hk'.sepB, hk'.sepL, hk'.sepX, hk.tab, hk'.maps, fun b G hb hM => hk.mold b G hb (hk'.mold b G (Nat.lt_of_lt_of_le hb hk.size) hM), fun b G hM => hk'.mkept b G (hk.mkept b G hM)⟩
  · intro k hlt hne hne2 hnm
    rw [hk'.frame k (Nat.lt_of_lt_of_le hlt hk.size) (fun id hid e => ?_) (nb k hlt hne2) (fun G hG => hnm G (hk.mold k G hlt hG))]
    · exact hk.frame k hlt hne hne2 hnm
    · obtain ⟨cs, hm⟩ := pkAll_b.1 hid
      rcases (hk.boxes id cs hm).own with ⟨_, h1⟩ | ⟨h1, h2⟩
      · omega
      · exact hne id h1 (by rw [← h2, e])
  · intro b o hv
    have h1 := hk.vis b o hv
    have h2 := hk'.vis b o h1.1
    exact ⟨h2.1, h2.2.trans h1.2⟩
  · intro b o hb hn hv
    exact hk.old b o hb hn (hk'.old b o (Nat.lt_of_lt_of_le hb hk.size) (nb b hb hn) hv)
  · intro id hid
    obtain ⟨cs, hm⟩ := hk.pkin id hid
    exact (he.box id cs hm).1
  · intro id hid
    obtain ⟨⟨lo, hm⟩, e⟩ := hk.lsin id hid
    exact ⟨(he.lst id lo hm).1, (he.lst id lo hm).2.trans e⟩
  · intro id cs hm
    have hb := hk'.boxes id cs hm
    refine ⟨?_, hb.hid, hb.cells⟩
    rcases hb.own with ⟨h1, h2⟩ | ⟨h1, h2⟩
    · exact .inl ⟨fun hin => h1 (pkAll_b.2 (hk.pkin id hin)), Nat.le_trans hk.size h2⟩
    · obtain ⟨cs0, hm0⟩ := pkAll_b.1 h1
      rcases (hk.boxes id cs0 hm0).own with ⟨h3, h4⟩ | ⟨h3, h4⟩
      · exact .inl ⟨h3, by rw [h2]; exact h4⟩
      · exact .inr ⟨h3, h2.trans h4⟩
  · intro id lo hm hl
    have hb := hk'.lists id lo hm hl
    refine ⟨hb.own, fun b hb' => ?_, hb.sz, hb.pos, hb.one, hb.vis⟩
    rcases hb.mine b hb' with h1 | ⟨id', h1, h2⟩
    · exact .inl (Nat.le_trans hk.size h1)
    · obtain ⟨lo', hm', hl'⟩ := pkAll_l.1 h1
      exact (hk.lists id' lo' hm' hl').mine b h2

/-- the block that holds these cells; without a type: an empty map -/
def obOf (arr : Array Value) : Option TypeId → Obj
  | some ty => .cells arr ty (0, 0)
  | none => .map #[] 0
/-- a block that holds these cells and that nothing names -/
structure Lone (g0 : Gh) (g : Gh) (h : Hp) (b : Nat) (arr : Array Value) (ty : Option TypeId) : Prop where
  new : g0.w.heap.size ≤ b
  hid : ∀ o, ¬ g.V b o
  cells : g.w.heap[b]? = some (obOf arr ty)
  nm : ∀ G, ¬ g.M b G
  sepB : ∀ id cs, (id, cs) ∈ h.boxes → g.bx id ≠ b
  sepL : ∀ id lo, (id, lo) ∈ h.lists → lo.live = true → blk g id ≠ some b
theorem Lone.lt {g0 g : Gh} {h : Hp} {b : Nat} {arr : Array Value} {ty : Option TypeId} (l : Lone g0 g h b arr ty) : b < g.w.heap.size := (Array.getElem?_eq_some_iff.1 l.cells).1
theorem Lone.run {g0 : Gh} {g g' : Gh} {h h' : Hp} {b : Nat} {arr : Array Value} {ty : Option TypeId} (l : Lone g0 g h b arr ty) (hk' : HeapOk g (pkAll h) g' h') : Lone g0 g' h' b arr ty := by
  have hlt := l.lt
  have nb : ∀ id ∈ (pkAll h).bs, g.bx id ≠ b := fun id hid => by obtain ⟨cs, hm⟩ := pkAll_b.1 hid; exact l.sepB id cs hm
  have nl : ∀ id ∈ (pkAll h).ls, blk g id ≠ some b := fun id hid => by obtain ⟨lo, hm, hl⟩ := pkAll_l.1 hid; exact l.sepL id lo hm hl
  refine ⟨l.new, fun o hv => l.hid o (hk'.old b o hlt nl hv), ?_, fun G hM => l.nm G (hk'.mold b G hlt hM), ?_, ?_⟩
  · rw [hk'.frame b hlt nb nl l.nm]; exact l.cells
  · intro id cs hm e
    rcases (hk'.boxes id cs hm).own with ⟨_, h1⟩ | ⟨h1, h2⟩
    · omega
    · exact nb id h1 (by rw [← h2, e])
  · intro id lo hm hl e
    rcases (hk'.lists id lo hm hl).mine b e with h1 | ⟨id', h1, h2⟩
    · omega
    · exact nl id' h1 h2
/-- the block gets a name: a map that is shared and whose entries keep a law -/
theorem Lone.landM {g0 : Gh} {pk : Pk} {g : Gh} {h : Hp} {b : Nat} {arr : Array Value} (l : Lone g0 g h b arr none) (hk : HeapOk g0 pk g h) (wf : WfG g h) (G : List MapEntry → Prop) (hG : G []) :
    ∃ g', g'.w = g.w ∧ g'.M b G ∧ HeapOk g0 pk g' h ∧ WfG g' h ∧ Ext g h g' h ∧ ∀ b' arr' ty', b' ≠ b → Lone g0 g h b' arr' ty' → Lone g0 g' h b' arr' ty' := by
  have hx := hk.nameM l.new l.cells l.nm G hG
  refine ⟨{ g with M := fun b' G' => g.M b' G' ∨ (b' = b ∧ G' = G) }, rfl, .inr ⟨rfl, rfl⟩, hx.1, ⟨wf.ov, wf.nd⟩, hx.2, fun b' arr' ty' hne l' => ⟨l'.new, l'.hid, l'.cells, fun G' hM => ?_, l'.sepB, l'.sepL⟩⟩
  rcases hM with hM | ⟨h1, _⟩
  · exact l'.nm G' hM
  · exact hne h1
theorem EYields.beside {P : Program} {h h' : Hp} {ρ : Operand → PV} {o : Oper} {pv : PV} (hy : EYields P h ρ o pv h') {g0 : Gh} {pk : Pk} {g : Gh} {a : Act} (hk : HeapOk g0 pk g h) (wf : WfG g h) (hρ : ∀ x ∈ o.op.operands, RepPV g h (ρ x) (a.eval x))
    (next : Act → World → Prop) (Q : Exit → Act → World → Prop)
    (hn : ∀ g' v, HeapOk g0 pk g' h' → WfG g' h' → Ext g h g' h' → (∀ b arr ty, Lone g0 g h b arr ty → Lone g0 g' h' b arr ty) → RepPV g' h' pv v → next (a.put o.dst v) g'.w) : o.wp P a g.w next Q :=
  hy g (pkAll h) g a hk.self wf hρ next Q fun g' v hk' wf' he hr => hn g' v (hk.trans hk' he) wf' he (fun b arr ty l => l.run hk') hr
/-- the block gets a name: a box -/
theorem Lone.land {g0 : Gh} {pk : Pk} {g : Gh} {h : Hp} {b : Nat} {arr : Array Value} {ty : TypeId} {d : Nat} {cs : List C} (l : Lone g0 g h b arr (some ty)) (hk : HeapOk g0 pk g h) (hd : hasKey h.boxes d = false) (hr : All2 (RepC g h) cs arr.toList) (h1 : ∀ u ∈ arr.toList, u.oneCell' = true) :
    ∃ g', g'.w = g.w ∧ g'.bx d = b ∧ g'.ov = g.ov ∧ HeapOk g0 pk g' { h with boxes := (d, cs) :: h.boxes } ∧ Ext g h g' { h with boxes := (d, cs) :: h.boxes } ∧
      ∀ b' arr' ty', b' ≠ b → Lone g0 g h b' arr' ty' → Lone g0 g' { h with boxes := (d, cs) :: h.boxes } b' arr' ty' := by
  let g' : Gh := { w := g.w, V := g.V, bx := fun i => if i = d then b else g.bx i, ov := g.ov, M := g.M }
  have hbx : ∀ id cs', (id, cs') ∈ h.boxes → g'.bx id = g.bx id := fun id cs' hm => by
    have := ne_of_noKey hd hm
    simp [g', this]
  have c : Chg g0 pk g h g' { h with boxes := (d, cs) :: h.boxes } none :=
    ⟨rfl, rfl, rfl, Nat.le_refl _, fun k hlt _ => rfl, by simp, by simp, fun _ _ h => h, fun _ _ _ h => h, hk.vin,
      fun id cs' hm => ⟨⟨cs', List.mem_cons_of_mem _ hm⟩, hbx id cs' hm⟩, fun id lo hm => ⟨⟨lo, hm⟩, rfl⟩, rfl, by simp⟩
  have he := c.ext hk
  have hbd : g'.bx d = b := by simp [g']
  refine ⟨g', rfl, hbd, rfl, c.ok hk ?_ ?_ ?_ ?_ ?_, he, ?_⟩
  · intro id cs' hm
    rcases List.mem_cons.1 hm with hm | hm
    · obtain ⟨rfl, rfl⟩ := Prod.mk.inj hm
      exact ⟨.inl ⟨fun hin => by obtain ⟨cs1, hm1⟩ := hk.pkin _ hin; exact ne_of_noKey hd hm1 rfl, by rw [hbd]; exact l.new⟩, fun o hv => by rw [hbd] at hv; exact l.hid o hv, arr, ty, by rw [hbd]; exact l.cells, hr.mono fun _ _ => RepC.ext he, h1⟩
    · have hb := hk.boxes id cs' hm
      exact hb.keep he (hbx id cs' hm) rfl hb.hid
  · intro id lo hm hl
    have hb := hk.lists id lo hm hl
    exact hb.keep rfl (fun b hb' => rfl) fun _ _ _ => Iff.rfl
  · intro id cs1 id' cs2 hm hm' hne
    rcases List.mem_cons.1 hm with h1 | h1 <;> rcases List.mem_cons.1 hm' with h2 | h2
    · exact absurd ((Prod.mk.inj h1).1.trans (Prod.mk.inj h2).1.symm) hne
    · obtain ⟨rfl, rfl⟩ := Prod.mk.inj h1
      rw [hbx _ _ h2, hbd]
      exact (l.sepB _ _ h2).symm
    · obtain ⟨rfl, rfl⟩ := Prod.mk.inj h2
      rw [hbx _ _ h1, hbd]
      exact l.sepB _ _ h1
    · rw [hbx _ _ h1, hbx _ _ h2]
      exact hk.sepB _ _ _ _ h1 h2 hne
  · exact fun id lo id' lo' hm hm' hl hl' hne b hb => hk.sepL id lo id' lo' hm hm' hl hl' hne b hb
  · intro id lo id' cs' hm hm' hl
    rcases List.mem_cons.1 hm' with hm' | hm'
    · obtain ⟨rfl, rfl⟩ := Prod.mk.inj hm'
      rw [hbd]
      exact l.sepL id lo hm hl
    · rw [hbx _ _ hm']
      exact hk.sepX id lo id' cs' hm hm' hl
  · intro b' arr' ty' hne l'
    refine ⟨l'.new, l'.hid, l'.cells, l'.nm, fun id cs' hm => ?_, l'.sepL⟩
    rcases List.mem_cons.1 hm with hm | hm
    · obtain ⟨rfl, rfl⟩ := Prod.mk.inj hm
      rw [hbd]; exact hne.symm
    · rw [hbx _ _ hm]; exact l'.sepB _ _ hm
/-- the block gets a name: an empty own list -/
theorem Lone.landL {g0 : Gh} {pk : Pk} {g : Gh} {h : Hp} {b : Nat} {ty : TypeId} {d sz : Nat} (l : Lone g0 g h b #[] (some ty)) (hk : HeapOk g0 pk g h) (wf : WfG g h) (hd : hasKey h.lists d = false) (hsz : 0 < sz) :
    ∃ g', g'.w = g.w ∧ g'.ov d = .slice (some ⟨b, 0, none⟩) 0 0 ∧ HeapOk g0 pk g' { h with lists := (d, { e := ty, sz := sz, xs := [], pub := false, live := true }) :: h.lists } ∧ WfG g' { h with lists := (d, { e := ty, sz := sz, xs := [], pub := false, live := true }) :: h.lists } ∧
      Ext g h g' { h with lists := (d, { e := ty, sz := sz, xs := [], pub := false, live := true }) :: h.lists } ∧
      ∀ b' arr' ty', b' ≠ b → Lone g0 g h b' arr' ty' → Lone g0 g' { h with lists := (d, { e := ty, sz := sz, xs := [], pub := false, live := true }) :: h.lists } b' arr' ty' := by
  let g' : Gh := { w := g.w, V := g.V, bx := g.bx, ov := fun i => if i = d then .slice (some ⟨b, 0, none⟩) 0 0 else g.ov i, M := g.M }
  have hov : ∀ id lo, (id, lo) ∈ h.lists → g'.ov id = g.ov id := fun id lo hm => by
    have := ne_of_noKey hd hm
    simp [g', this]
  have hblk : ∀ id lo, (id, lo) ∈ h.lists → blk g' id = blk g id := fun id lo hm => by simp only [blk, hov id lo hm]
  have hod : g'.ov d = .slice (some ⟨b, 0, none⟩) 0 0 := by simp [g']
  have hbd : blk g' d = some b := by simp [blk, hod, Value.ownBlock]
  have c : Chg g0 pk g h g' { h with lists := (d, { e := ty, sz := sz, xs := [], pub := false, live := true }) :: h.lists } none :=
    ⟨rfl, rfl, rfl, Nat.le_refl _, fun k hlt _ => rfl, by simp, by simp, fun _ _ h => h, fun _ _ _ h => h, hk.vin,
      fun id cs' hm => ⟨⟨cs', hm⟩, rfl⟩, fun id lo hm => ⟨⟨lo, List.mem_cons_of_mem _ hm⟩, hov id lo hm⟩, rfl, by simp⟩
  have he := c.ext hk
  refine ⟨g', rfl, hod, c.ok hk ?_ ?_ ?_ ?_ ?_, ⟨fun id lo hm => ?_, hd, wf.nd⟩, he, ?_⟩
  · intro id cs' hm
    have hb := hk.boxes id cs' hm
    exact hb.keep he rfl rfl hb.hid
  · intro id lo hm hl
    rcases List.mem_cons.1 hm with hm | hm
    · obtain ⟨rfl, rfl⟩ := Prod.mk.inj hm
      refine ⟨⟨by simp [flat], .inr ⟨b, 0, #[], hod, Nat.zero_le _, l.cells, Nat.le_refl _, Nat.zero_le _, by simp, by simp [flat]⟩⟩, fun b' hb' => ?_, by simp, hsz, by simp [flat], fun b' hb' o => ?_⟩
      · rw [hbd] at hb'
        obtain rfl := Option.some.inj hb'
        exact .inl l.new
      · rw [hbd] at hb'
        obtain rfl := Option.some.inj hb'
        exact ⟨fun hv => absurd hv (l.hid o), fun h => by cases h.1⟩
    · have hb := hk.lists id lo hm hl
      exact hb.keep (hov id lo hm) (fun b hb' => rfl) fun _ _ _ => Iff.rfl
  · exact hk.sepB
  · intro id lo id' lo' hm hm' hl hl' hne b' hb'
    rcases List.mem_cons.1 hm with h1 | h1 <;> rcases List.mem_cons.1 hm' with h2 | h2
    · exact absurd ((Prod.mk.inj h1).1.trans (Prod.mk.inj h2).1.symm) hne
    · obtain ⟨rfl, rfl⟩ := Prod.mk.inj h1
      rw [hbd] at hb'
      obtain rfl := Option.some.inj hb'
      rw [hblk _ _ h2]
      exact l.sepL _ _ h2 hl'
    · obtain ⟨rfl, rfl⟩ := Prod.mk.inj h2
      rw [hblk _ _ h1] at hb'
      rw [hbd]
      intro e
      obtain rfl := Option.some.inj e
      exact l.sepL _ _ h1 hl hb'
    · rw [hblk _ _ h1] at hb'
      rw [hblk _ _ h2]
      exact hk.sepL _ _ _ _ h1 h2 hl hl' hne b' hb'
  · intro id lo id' cs' hm hm' hl
    rcases List.mem_cons.1 hm with hm | hm
    · obtain ⟨rfl, rfl⟩ := Prod.mk.inj hm
      rw [hbd]
      exact fun e => l.sepB id' cs' hm' (Option.some.inj e).symm
    · rw [hblk _ _ hm]
      exact hk.sepX id lo id' cs' hm hm' hl
  · rcases List.mem_cons.1 hm with hm | hm
    · obtain ⟨rfl, rfl⟩ := Prod.mk.inj hm
      rw [hod]; rfl
    · rw [hov id lo hm]; exact wf.ov id lo hm
  · intro b' arr' ty' hne l'
    refine ⟨l'.new, l'.hid, l'.cells, l'.nm, l'.sepB, fun id lo hm hl => ?_⟩
    rcases List.mem_cons.1 hm with hm | hm
    · obtain ⟨rfl, rfl⟩ := Prod.mk.inj hm
      rw [hbd]; exact fun e => hne (Option.some.inj e).symm
    · rw [hblk _ _ hm]; exact l'.sepL _ _ hm hl
/-- a new block -/
theorem HeapOk.newLone {g0 : Gh} {pk : Pk} {g : Gh} {h : Hp} (hk : HeapOk g0 pk g h) (arr : Array Value) (t : Option TypeId) :
    ∃ g', g'.w = g.w.alloc (obOf arr t) ∧ HeapOk g0 pk g' h ∧ Ext g h g' h ∧ Lone g0 g' h g.w.heap.size arr t ∧ ∀ b' arr' ty', Lone g0 g h b' arr' ty' → b' ≠ g.w.heap.size ∧ Lone g0 g' h b' arr' ty' := by
  have hst := hk.step (g.w.alloc (obOf arr t)) g.V rfl rfl rfl (by simp) (fun k hlt => heap_alloc_old g.w _ hlt) (fun _ _ h => h) (fun b o _ hv => hv) (fun b o hv => by have := hk.vin b o hv; simp; omega)
  refine ⟨{ g with w := g.w.alloc (obOf arr t), V := g.V }, rfl, hst.1, hst.2, ⟨hk.size, fun o hv => ?_, heap_alloc_new g.w _, fun G hM => ?_, fun id cs hm e => ?_, fun id lo hm hl e => ?_⟩, fun b' arr' ty' l' => ⟨by have := l'.lt; omega, l'.new, l'.hid, ?_, l'.nm, l'.sepB, l'.sepL⟩⟩
  · have := hk.vin _ _ hv
    omega
  · obtain ⟨es, ck, h1, _⟩ := hk.maps _ _ hM
    have := (Array.getElem?_eq_some_iff.1 h1).1
    omega
  · have := (hk.boxes id cs hm).lt
    have e : g.bx id = g.w.heap.size := e
    omega
  · have := ((hk.lists id lo hm hl).lt e).2
    omega
  · rw [← l'.cells]; exact heap_alloc_old g.w _ l'.lt
/-- an operation that makes a block that nothing names yet; its name comes later -/
def FlY (P : Program) (h : Hp) (o : Oper) (v : PV) (h' : Hp) (arr : Array Value) (ty : Option TypeId) (val : Nat → Value) : Prop :=
  (∀ (ρ : Operand → Value) (w : World), (execOp ρ o).run P w = .ok (.value (val w.heap.size)) (w.alloc (obOf arr ty))) ∧
  ∀ g0 pk g b, HeapOk g0 pk g h → WfG g h → Lone g0 g h b arr ty → ∃ g', g'.w = g.w ∧ HeapOk g0 pk g' h' ∧ WfG g' h' ∧ Ext g h g' h' ∧ RepPV g' h' v (val b) ∧ ∀ b' arr' ty', b' ≠ b → Lone g0 g h b' arr' ty' → Lone g0 g' h' b' arr' ty'
def isNew : Op → Bool
  | .alloc _ => true
  | .buildSlice _ n ps => n == 0 && ps.toList.isEmpty
  | _ => false
end Go.PL
