/- ModuloRings returns true for every input: the tied card. Conditions: those of the row and of its card as they are given. -/
import Derived.Test.YtmnagbhllnlelaaGreatDoorVxModuloRingsRow
import Derived.Test.YtmnagbhllnlelaaGreatDoorVxCardKit
set_option maxRecDepth 100000
namespace Go.Proofs.YtmnagbhllnlelaaGreatDoor
open Go
theorem moduloRings_wf : Rows.moduloRingsRow.wfByText (OpenSpec.ofChange Rows.moduloRingsSpec) = true := by kernel_rfl
theorem moduloRings_goes : false = Rows.moduloRingsRow.goesBy Tryz.pinned.checked.prog := by kernel_rfl
theorem moduloRings_at : Tryz.prog.funcNamed "bireme/biremelaw23.ModuloRings" = some 4 := by kernel_rfl
theorem moduloRings_card : Rows.ModuloRingsCardSaid :=
  Claim7.holds_tied_plain_at .later [] [.widerDeep] true mainSha true
    moduloRings_holds (fun _ h => by cases h) moduloRings_wf (fun _ h => by cases h) moduloRings_row_tie rfl ⟨rfl, rfl⟩ jk_main rfl
    (fun f fn hf hfn => by
      obtain rfl : f = 4 := Option.some.inj (moduloRings_at.symm.trans hf) |>.symm
      obtain rfl : fn = Tryz.f4 := (Option.some.inj (Tryz.func4.symm.trans hfn)).symm
      exact ⟨jk_looks, fun j t ht => by
        rw [Tryz.params4] at ht
        have hm : t ∈ [3, 29] := by simpa using Array.mem_of_getElem? ht
        simp only [List.mem_cons, List.not_mem_nil, or_false] at hm
        rcases hm with rfl | rfl <;> exact no_stand (by decide)⟩)
    moduloRings_goes
#print axioms moduloRings_card
end Go.Proofs.YtmnagbhllnlelaaGreatDoor
