/- OrderFalls returns true for every input: the tied card. Conditions: those of the row and of its card as they are given. -/
import Derived.Test.YtmnagbhllnlelaaGreatDoorVxOrderFallsRow
import Derived.Test.YtmnagbhllnlelaaGreatDoorVxCardKit
set_option maxRecDepth 100000
namespace Go.Proofs.YtmnagbhllnlelaaGreatDoor
open Go
theorem orderFalls_wf : Rows.orderFallsRow.wfByText (OpenSpec.ofChange Rows.orderFallsSpec) = true := by kernel_rfl
theorem orderFalls_goes : false = Rows.orderFallsRow.goesBy Tryz.pinned.checked.prog := by kernel_rfl
theorem orderFalls_at : Tryz.prog.funcNamed "bireme/biremelaw20.OrderFalls" = some 7 := by kernel_rfl
theorem orderFalls_card : Rows.OrderFallsCardSaid :=
  Claim7.holds_tied_plain_at .later [] [.widerDeep] true mainSha true
    orderFalls_holds (fun _ h => by cases h) orderFalls_wf (fun _ h => by cases h) orderFalls_row_tie rfl ⟨rfl, rfl⟩ jk_main rfl
    (fun f fn hf hfn => by
      obtain rfl : f = 7 := Option.some.inj (orderFalls_at.symm.trans hf) |>.symm
      obtain rfl : fn = Tryz.f7 := (Option.some.inj (Tryz.func7.symm.trans hfn)).symm
      exact ⟨jk_looks, fun j t ht => by
        rw [Tryz.params7] at ht
        have hm : t ∈ [3, 29] := by simpa using Array.mem_of_getElem? ht
        simp only [List.mem_cons, List.not_mem_nil, or_false] at hm
        rcases hm with rfl | rfl <;> exact no_stand (by decide)⟩)
    orderFalls_goes
#print axioms orderFalls_card
end Go.Proofs.YtmnagbhllnlelaaGreatDoor
