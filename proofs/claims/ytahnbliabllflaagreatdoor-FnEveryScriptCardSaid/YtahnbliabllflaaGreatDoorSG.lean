/-
  The law on histories: the game is what its jumps make of the start, its key never changes, everything can be undone.
-/
import Derived.Test.YtahnbliabllflaaGreatDoorSH
import Derived.Test.YtahnbliabllflaaGreatDoorDA
import Derived.Test.YtahnbliabllflaaGreatDoorSZ
import Derived.Test.YtahnbliabllflaaGreatDoorP2
import Derived.Test.YtahnbliabllflaaGreatDoorSY
namespace Go.Proofs.YtahnbliabllflaaGreatDoor
open Go.PL
set_option linter.unusedSimpArgs false
set_option linter.unusedVariables false
theorem IsSol_c (b : Brd) (p q : Int) (ls : List Ln) (p2 : p ≤ 9223372036854775807) (hn : ls.length ≤ 1048576) : PC Tryz.prog 29 [] [.a (brdC b), .c (.v (.int .i64 p)), .c (.v (.int .i64 q)), .c (.l 3 (ls.map lineV))] (vB (isSol b p q ls)) ⟨[], []⟩ := by
  refine pc_of Tryz.func29 rfl (by kernel_rfl) _ Tryz.ntmps29 (by simp) ?_
  cases h : (playAll b p ls).isSome with
  | true =>
    repeat' first
      | (first | simp -implicitDefEqProofs only [h, go_sem] | (refine And.intro ?_ ?_; omega) | (refine And.intro (shr_bd ?_ ?_) ?_; omega; omega) | refine sl_list rfl ?_ | refine sd_list rfl ?_ | refine sl_str ?_ | refine sd_str ?_)
      | refine callS (PlayAll_c b p ls (by omega) (by omega)) rfl rfl rfl ?_
    exact fin_scal rfl (by simp [isSol, h])
  | false =>
    repeat' first
      | (first | simp -implicitDefEqProofs only [h, go_sem] | (refine And.intro ?_ ?_; omega) | (refine And.intro (shr_bd ?_ ?_) ?_; omega; omega) | refine sl_list rfl ?_ | refine sd_list rfl ?_ | refine sl_str ?_ | refine sd_str ?_)
      | refine callS (PlayAll_c b p ls (by omega) (by omega)) rfl rfl rfl ?_
    exact fin_scal rfl (by simp [isSol, h])
structure TopN (t : Tb) (s p : Nat) : Prop where
  st : t.g.x.s = s
  now : nowOf t.g = p
  ps : positionOk t.g.x.b (s : Int) = true
  pos : positionOk t.g.x.b (p : Int) = true
  sol : isSol t.g.x.b (s : Int) (p : Int) t.g.j = true
  key : sameKey t.g.x.b (s : Int) (p : Int) = true
  cnt : (pegs p : Int) = (pegs s : Int) - (t.g.j.length : Int)
  aud : auditOk t = true
  und : undoAll t.g.x.b (p : Int) t.g.j = some (s : Int)
  len : t.g.j.length ≤ 60
  h : 0 ≤ t.g.h ∧ t.g.h ≤ 1000
theorem topN {t : Tb} (ht : tableOk t = true) : ∃ s p : Nat, TopN t s p := by
  obtain ⟨p, P⟩ := gameT ht
  have Q := topAt ht P
  obtain ⟨_, s0, _⟩ := pos_sub P.ps
  obtain ⟨_, p0, _⟩ := pos_sub P.pos
  obtain ⟨sn, es⟩ : ∃ n : Nat, t.g.x.s = n := ⟨t.g.x.s.toNat, by omega⟩
  obtain ⟨pn, ep⟩ : ∃ n : Nat, p = n := ⟨p.toNat, by omega⟩
  subst ep
  have a1 := P.ps
  have a2 := Q.sol
  have a3 := Q.key
  have a4 := Q.cnt
  have a5 := Q.und
  rw [es] at a1 a2 a3 a4 a5
  rw [Int.toNat_natCast, Int.toNat_natCast] at a4
  exact ⟨sn, pn, es, P.now, a1, P.pos, a2, a3, a4, Q.aud, a5, P.len, P.h⟩
theorem runT_x {t : Tb} {l : List Ac} : (runT t l).g.x = t.g.x := by
  induction l generalizing t with
  | nil => rfl
  | cons a l ih => simp only [runT]; rw [ih, doT_x]
end Go.Proofs.YtahnbliabllflaaGreatDoor
