/- LeastSolved returns true for every input: the tied card. Conditions: those of the row and of its card as they are given. -/
import Derived.Test.YtmnagbhllnlelaaGreatDoorVxLeastSolvedRow
import Derived.Test.YtmnagbhllnlelaaGreatDoorVxCardKit
set_option maxRecDepth 100000
namespace Go.Proofs.YtmnagbhllnlelaaGreatDoor
open Go
theorem leastSolved_wf : Rows.leastSolvedRow.wfByText (OpenSpec.ofChange Rows.leastSolvedSpec) = true := by kernel_rfl
theorem leastSolved_goes : false = Rows.leastSolvedRow.goesBy Tryz.pinned.checked.prog := by kernel_rfl
theorem leastSolved_at : Tryz.prog.funcNamed "bireme/biremelaw24.LeastSolved" = some 11 := by kernel_rfl
theorem leastSolved_card : Rows.LeastSolvedCardSaid :=
  Claim7.holds_tied_plain_at .later [] [.widerDeep] true mainSha true
    leastSolved_holds (fun _ h => by cases h) leastSolved_wf (fun _ h => by cases h) leastSolved_row_tie rfl ⟨rfl, rfl⟩ jk_main rfl
    (fun f fn hf hfn => by
      obtain rfl : f = 11 := Option.some.inj (leastSolved_at.symm.trans hf) |>.symm
      obtain rfl : fn = Tryz.f11 := (Option.some.inj (Tryz.func11.symm.trans hfn)).symm
      exact ⟨jk_looks, fun j t ht => by
        rw [Tryz.params11] at ht
        have hm : t ∈ [22, 29, 3, 64] := by simpa using Array.mem_of_getElem? ht
        simp only [List.mem_cons, List.not_mem_nil, or_false] at hm
        rcases hm with rfl | rfl | rfl | rfl <;> exact no_stand (by decide)⟩)
    leastSolved_goes
#print axioms leastSolved_card
end Go.Proofs.YtmnagbhllnlelaaGreatDoor
