import Derived.Test.YtleofbpepfmfgaaGreatDoorVxEvT
import Derived.Test.YtleofbpepfmfgaaGreatDoorVxEvI
import Derived.Test.YtleofbpepfmfgaaGreatDoorVxCalls
set_option linter.unusedVariables false
set_option maxRecDepth 100000
namespace Go.Proofs.YtleofbpepfmfgaaGreatDoor
open Go Go.Vx Go.Vx.Ev
def cells0 : List Value := [i 17, i 0, .string ⟨#[99, 111, 110, 115, 116]⟩, i 3, i 0, .string ⟨#[109, 111, 118, 101]⟩, i 7, i 0, .string ⟨#[97, 100, 100]⟩, i 7, i 0, .string ⟨#[115, 117, 98]⟩, i 7, i 0, .string ⟨#[97, 110, 100]⟩, i 7, i 0, .string ⟨#[111, 114]⟩, i 7, i 0, .string ⟨#[120, 111, 114]⟩, i 7, i 0, .string ⟨#[115, 104, 108]⟩, i 7, i 0, .string ⟨#[115, 104, 114]⟩, i 7, i 0, .string ⟨#[108, 101, 115, 115]⟩, i 7, i 0, .string ⟨#[101, 113, 117, 97, 108]⟩, i 15, i 0, .string ⟨#[112, 105, 99, 107]⟩, i 7, i 1, .string ⟨#[109, 117, 108]⟩, i 7, i 1, .string ⟨#[100, 105, 118]⟩, i 7, i 1, .string ⟨#[114, 101, 109]⟩, i 35, i 2, .string ⟨#[108, 111, 97, 100]⟩, i 38, i 2, .string ⟨#[115, 116, 111, 114, 101]⟩, i 65, i 2, .string ⟨#[102, 101, 116, 99, 104]⟩, i 66, i 2, .string ⟨#[107, 101, 101, 112]⟩, i 2, i 3, .string ⟨#[112, 114, 105, 110, 116]⟩, i 130, i 3, .string ⟨#[101, 120, 105, 116]⟩, i 2, i 3, .string ⟨#[99, 104, 101, 99, 107]⟩, i 7, i 1, .string ⟨#[100, 105, 118, 115]⟩, i 7, i 1, .string ⟨#[114, 101, 109, 115]⟩, i 35, i 2, .string ⟨#[108, 111, 97, 100, 115]⟩]
def ro0 (T : Nat) : St := Tr.set (.bl cells0 T 1) 40 .lf 0
def G0 : Ghost := fun k => if k = 0 then some (0, 1, 75) else none
theorem ro0_get (T k : Nat) : (ro0 T).get k = if k = 0 then some (.bl cells0 T 1) else none := by
 unfold ro0
 by_cases e : k = 0
 ·subst e; rw [if_pos rfl, Tr.get_set_eq _ _ _ _ (by omega)]
 ·rw [if_neg e, Tr.get_set_ne _ _ _ _ _ e]; rfl
theorem start {m : Mem} {T : Nat} {fr : Nat × Nat} (hm : m 0 = some (.cells ⟨cells0⟩ T fr)) : Inv Tryz.prog [0] m G0 ⟨[], [ro0 T]⟩ .lf m := by
 have hget : ∀ k, Cx.get ⟨[], [ro0 T]⟩ .lf k = if k = 0 then some (.bl cells0 T 1) else none := fun k => by
  rw [← ro0_get]; unfold Cx.get; simp only [Tr.get_lf, getL]; cases (ro0 T).get k <;> rfl
 refine ⟨fun g hg => ?_, fun k => ?_, fun k cs T' sz hk => ?_, fun k k' cs T1 sz cs' T' sz' b s1 L1 s2 L2 hk hk' _ _ => ?_, fun k cs hk => ?_, fun k c ps a a' hk ho => ?_, fun _ _ h => h, fun k b s L hk => ?_⟩
 ·have : g = 0 := by
   simp only [memN, Bool.or_false] at hg; exact beq_ff hg
  subst this; exact ⟨1, 75, rfl⟩
 ·rw [hget]; unfold G0; by_cases e : k = 0 <;> simp [e]
 ·rw [hget] at hk
  by_cases e : k = 0
  ·rw [if_pos e] at hk; cases hk; subst e
   exact ⟨0, 75, cells0, fr, rfl, hm, (fun hh => by cases hh), rfl, cells0, [], flatL_self cells0 rfl, by simp⟩
  ·rw [if_neg e] at hk; cases hk
 ·rw [hget] at hk hk'
  by_cases e : k = 0
  ·by_cases e' : k' = 0
   ·rw [e, e']
   ·rw [if_neg e'] at hk'; cases hk'
  ·rw [if_neg e] at hk; cases hk
 ·rw [hget] at hk
  by_cases e : k = 0
  ·rw [if_pos e] at hk; cases hk
  ·rw [if_neg e] at hk; cases hk
 ·cases ho
 ·cases hk
end Go.Proofs.YtleofbpepfmfgaaGreatDoor
