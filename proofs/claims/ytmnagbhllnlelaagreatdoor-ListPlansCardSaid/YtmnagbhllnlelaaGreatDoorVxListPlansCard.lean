/- ListPlans returns true for every input: the tied card. Conditions: those of the row and of its card as they are given. -/
import Derived.Test.YtmnagbhllnlelaaGreatDoorVxListPlansRow
import Derived.Test.YtmnagbhllnlelaaGreatDoorVxOrd
set_option maxRecDepth 100000
namespace Go.Proofs.YtmnagbhllnlelaaGreatDoor
open Go
theorem listPlans_wf : Rows.listPlansRow.wfByText (OpenSpec.ofChange Rows.listPlansSpec) = true := by kernel_rfl
theorem listPlans_goes : false = Rows.listPlansRow.goesBy Tryz.pinned.checked.prog := by kernel_rfl
theorem listPlans_at : Tryz.prog.funcNamed "bireme/biremelaw21.ListPlans" = some 8 := by kernel_rfl
theorem listPlans_card : Rows.ListPlansCardSaid :=
 Claim7.holds_tied_plain_at .later [] [.widerDeep] true mainSha true
  listPlans_holds (fun _ h => by cases h) listPlans_wf (fun _ h => by cases h) listPlans_row_tie rfl ⟨rfl, rfl⟩ jk_main rfl
  (fun f fn hf hfn => by
   obtain rfl : f = 8 := Option.some.inj (listPlans_at.symm.trans hf) |>.symm
   obtain rfl : fn = Tryz.f8 := (Option.some.inj (Tryz.func8.symm.trans hfn)).symm
   exact ⟨jk_looks, fun j t ht => by
    rw [Tryz.params8] at ht
    have hm : t ∈ [3, 46, 47, 29] := by simpa using Array.mem_of_getElem? ht
    simp only [List.mem_cons, List.not_mem_nil, or_false] at hm
    rcases hm with rfl | rfl | rfl | rfl <;> exact no_stand (by decide)⟩)
  listPlans_goes
#print axioms listPlans_card
end Go.Proofs.YtmnagbhllnlelaaGreatDoor
