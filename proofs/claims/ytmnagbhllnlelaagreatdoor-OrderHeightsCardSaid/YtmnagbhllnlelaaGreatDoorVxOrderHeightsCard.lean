/- OrderHeights returns true for every input: the tied card. Conditions: those of the row and of its card as they are given. -/
import Derived.Test.YtmnagbhllnlelaaGreatDoorVxOrderHeightsRow
import Derived.Test.YtmnagbhllnlelaaGreatDoorVxCardKit
set_option maxRecDepth 100000
namespace Go.Proofs.YtmnagbhllnlelaaGreatDoor
open Go
theorem orderHeights_wf : Rows.orderHeightsRow.wfByText (OpenSpec.ofChange Rows.orderHeightsSpec) = true := by kernel_rfl
theorem orderHeights_goes : false = Rows.orderHeightsRow.goesBy Tryz.pinned.checked.prog := by kernel_rfl
theorem orderHeights_at : Tryz.prog.funcNamed "bireme/biremelaw20.OrderHeights" = some 6 := by kernel_rfl
theorem orderHeights_card : Rows.OrderHeightsCardSaid :=
  Claim7.holds_tied_plain_at .later [] [.widerDeep] true mainSha true
    orderHeights_holds (fun _ h => by cases h) orderHeights_wf (fun _ h => by cases h) orderHeights_row_tie rfl ⟨rfl, rfl⟩ jk_main rfl
    (fun f fn hf hfn => by
      obtain rfl : f = 6 := Option.some.inj (orderHeights_at.symm.trans hf) |>.symm
      obtain rfl : fn = Tryz.f6 := (Option.some.inj (Tryz.func6.symm.trans hfn)).symm
      exact ⟨jk_looks, fun j t ht => by
        rw [Tryz.params6] at ht
        have hm : t ∈ [3, 29] := by simpa using Array.mem_of_getElem? ht
        simp only [List.mem_cons, List.not_mem_nil, or_false] at hm
        rcases hm with rfl | rfl <;> exact no_stand (by decide)⟩)
    orderHeights_goes
#print axioms orderHeights_card
end Go.Proofs.YtmnagbhllnlelaaGreatDoor
