/- ModuloStages returns true for every input: the tied card. Conditions: those of the row and of its card as they are given. -/
import Derived.Test.YtmnagbhllnlelaaGreatDoorVxModuloStagesRow
import Derived.Test.YtmnagbhllnlelaaGreatDoorVxCardKit
set_option maxRecDepth 100000
namespace Go.Proofs.YtmnagbhllnlelaaGreatDoor
open Go
theorem moduloStages_wf : Rows.moduloStagesRow.wfByText (OpenSpec.ofChange Rows.moduloStagesSpec) = true := by kernel_rfl
theorem moduloStages_goes : false = Rows.moduloStagesRow.goesBy Tryz.pinned.checked.prog := by kernel_rfl
theorem moduloStages_at : Tryz.prog.funcNamed "bireme/biremelaw23.ModuloStages" = some 3 := by kernel_rfl
theorem moduloStages_card : Rows.ModuloStagesCardSaid :=
  Claim7.holds_tied_plain_at .later [] [.widerDeep] true mainSha true
    moduloStages_holds (fun _ h => by cases h) moduloStages_wf (fun _ h => by cases h) moduloStages_row_tie rfl ⟨rfl, rfl⟩ jk_main rfl
    (fun f fn hf hfn => by
      obtain rfl : f = 3 := Option.some.inj (moduloStages_at.symm.trans hf) |>.symm
      obtain rfl : fn = Tryz.f3 := (Option.some.inj (Tryz.func3.symm.trans hfn)).symm
      exact ⟨jk_looks, fun j t ht => by
        rw [Tryz.params3] at ht
        have hm : t ∈ [22, 3] := by simpa using Array.mem_of_getElem? ht
        simp only [List.mem_cons, List.not_mem_nil, or_false] at hm
        rcases hm with rfl | rfl <;> exact no_stand (by decide)⟩)
    moduloStages_goes
#print axioms moduloStages_card
end Go.Proofs.YtmnagbhllnlelaaGreatDoor
