import Derived.Test.YtleofbpepfmfgaaGreatDoorVxSimOneRow
set_option maxRecDepth 100000
namespace Go.Proofs.YtleofbpepfmfgaaGreatDoor
open Go
theorem simOne_wf : Rows.simOneRow.wfByText (OpenSpec.ofChange Rows.simOneSpec) = true := by kernel_rfl
theorem simOne_goes : false = Rows.simOneRow.goesBy Tryz.pinned.checked.prog := by kernel_rfl
theorem simOne_at : Tryz.prog.funcNamed "bireme/biremelaw27.SimOne" = some 7 := by kernel_rfl
theorem simOne_card : Rows.SimOneCardSaid :=
 Claim7.holds_tied_plain_at .later [] [.widerDeep] true mainSha true
  simOne_holds (fun _ h => by cases h) simOne_wf (fun _ h => by cases h) simOne_row_tie rfl ⟨rfl, rfl⟩ jk_main rfl
  (fun f fn hf hfn => by
   obtain rfl : f = 7 := Option.some.inj (simOne_at.symm.trans hf) |>.symm
   obtain rfl : fn = Tryz.f7 := (Option.some.inj (Tryz.func7.symm.trans hfn)).symm
   exact ⟨jk_looks, fun j t ht => by
    rw [Tryz.params7] at ht
    have hm : t ∈ [25, 28] := by simpa using Array.mem_of_getElem? ht
    simp only [List.mem_cons, List.not_mem_nil, or_false] at hm
    rcases hm with rfl | rfl <;> exact no_stand (by decide)⟩)
  simOne_goes
#print axioms simOne_card
end Go.Proofs.YtleofbpepfmfgaaGreatDoor
