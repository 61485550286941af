/- OrderHolds returns true for every input: the tied card. Conditions: those of the row and of its card as they are given. -/
import Derived.Test.YtmnagbhllnlelaaGreatDoorVxOrdHoldsRow
import Derived.Test.YtmnagbhllnlelaaGreatDoorVxCardKit
set_option maxRecDepth 100000
namespace Go.Proofs.YtmnagbhllnlelaaGreatDoor
open Go
theorem orderHolds_wf : Rows.orderHoldsRow.wfByText (OpenSpec.ofChange Rows.orderHoldsSpec) = true := by kernel_rfl
theorem orderHolds_goes : false = Rows.orderHoldsRow.goesBy Tryz.pinned.checked.prog := by kernel_rfl
theorem orderHolds_at : Tryz.prog.funcNamed "bireme/biremelaw20.OrderHolds" = some 5 := by kernel_rfl
theorem orderHolds_card : Rows.OrderHoldsCardSaid :=
  Claim7.holds_tied_plain_at .later [] [.widerDeep] true mainSha true
    orderHolds_holds (fun _ h => by cases h) orderHolds_wf (fun _ h => by cases h) orderHolds_row_tie rfl ⟨rfl, rfl⟩ jk_main rfl
    (fun f fn hf hfn => by
      obtain rfl : f = 5 := Option.some.inj (orderHolds_at.symm.trans hf) |>.symm
      obtain rfl : fn = Tryz.f5 := (Option.some.inj (Tryz.func5.symm.trans hfn)).symm
      exact ⟨jk_looks, fun j t ht => by
        rw [Tryz.params5] at ht
        have hm : t ∈ [29, 22, 3] := by simpa using Array.mem_of_getElem? ht
        simp only [List.mem_cons, List.not_mem_nil, or_false] at hm
        rcases hm with rfl | rfl | rfl <;> exact no_stand (by decide)⟩)
    orderHolds_goes
#print axioms orderHolds_card
end Go.Proofs.YtmnagbhllnlelaaGreatDoor
