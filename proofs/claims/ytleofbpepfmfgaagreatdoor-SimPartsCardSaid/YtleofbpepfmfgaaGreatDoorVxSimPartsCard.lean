import Derived.Test.YtleofbpepfmfgaaGreatDoorVxSimPartsRow
set_option maxRecDepth 100000
namespace Go.Proofs.YtleofbpepfmfgaaGreatDoor
open Go
theorem simParts_wf:Rows.simPartsRow.wfByText (OpenSpec.ofChange Rows.simPartsSpec) = true:=by kernel_rfl
theorem simParts_goes:false = Rows.simPartsRow.goesBy Tryz.pinned.checked.prog:=by kernel_rfl
theorem simParts_at : Tryz.prog.funcNamed "bireme/biremelaw27.SimParts" = some 9 := by kernel_rfl
theorem simParts_card:Rows.SimPartsCardSaid :=
 Claim7.holds_tied_plain_at .later [] [.widerDeep] true mainSha true
  simParts_holds (fun _ h=>by cases h) simParts_wf (fun _ h=>by cases h) simParts_row_tie rfl ⟨rfl,rfl⟩ jk_main rfl
  (fun f fn hf hfn=>by
   obtain rfl:f = 9:=Option.some.inj (simParts_at.symm.trans hf) |>.symm
   obtain rfl:fn = Tryz.f9:=(Option.some.inj (Tryz.func9.symm.trans hfn)).symm
   exact ⟨jk_looks,fun j t ht=>by
    rw [Tryz.params9] at ht
    have hm:t ∈ [25,28,29,22,60]:=by simpa using Array.mem_of_getElem? ht
    simp only [List.mem_cons,List.not_mem_nil,or_false] at hm
    rcases hm with rfl | rfl | rfl | rfl | rfl <;> exact no_stand (by decide)⟩)
  simParts_goes
#print axioms simParts_card
end Go.Proofs.YtleofbpepfmfgaaGreatDoor
