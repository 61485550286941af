/- LeastSolves returns true for every input: the tied card. Conditions: those of the row and of its card as they are given. -/
import Derived.Test.YtmnagbhllnlelaaGreatDoorVxLeastSolvesRow
import Derived.Test.YtmnagbhllnlelaaGreatDoorVxCardKit
set_option maxRecDepth 100000
namespace Go.Proofs.YtmnagbhllnlelaaGreatDoor
open Go
theorem leastSolves_wf : Rows.leastSolvesRow.wfByText (OpenSpec.ofChange Rows.leastSolvesSpec) = true := by kernel_rfl
theorem leastSolves_goes : false = Rows.leastSolvesRow.goesBy Tryz.pinned.checked.prog := by kernel_rfl
theorem leastSolves_at : Tryz.prog.funcNamed "bireme/biremelaw24.LeastSolves" = some 10 := by kernel_rfl
theorem leastSolves_card : Rows.LeastSolvesCardSaid :=
  Claim7.holds_tied_plain_at .later [] [.widerDeep] true mainSha true
    leastSolves_holds (fun _ h => by cases h) leastSolves_wf (fun _ h => by cases h) leastSolves_row_tie rfl ⟨rfl, rfl⟩ jk_main rfl
    (fun f fn hf hfn => by
      obtain rfl : f = 10 := Option.some.inj (leastSolves_at.symm.trans hf) |>.symm
      obtain rfl : fn = Tryz.f10 := (Option.some.inj (Tryz.func10.symm.trans hfn)).symm
      exact ⟨jk_looks, fun j t ht => by
        rw [Tryz.params10] at ht
        have hm : t ∈ [22, 29, 3] := by simpa using Array.mem_of_getElem? ht
        simp only [List.mem_cons, List.not_mem_nil, or_false] at hm
        rcases hm with rfl | rfl | rfl <;> exact no_stand (by decide)⟩)
    leastSolves_goes
#print axioms leastSolves_card
end Go.Proofs.YtmnagbhllnlelaaGreatDoor
