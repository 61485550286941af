import Derived.Test.YtleofbpepfmfgaaGreatDoorVxSimWhateverRow
set_option maxRecDepth 100000
namespace Go.Proofs.YtleofbpepfmfgaaGreatDoor
open Go
theorem simWhatever_wf:Rows.simWhateverRow.wfByText (OpenSpec.ofChange Rows.simWhateverSpec) = true:=by kernel_rfl
theorem simWhatever_goes:false = Rows.simWhateverRow.goesBy Tryz.pinned.checked.prog:=by kernel_rfl
theorem simWhatever_at : Tryz.prog.funcNamed "bireme/biremelaw27.SimWhatever" = some 5 := by kernel_rfl
theorem simWhatever_card:Rows.SimWhateverCardSaid :=
 Claim7.holds_tied_plain_at .later [] [.widerDeep] true mainSha true
  simWhatever_holds (fun _ h=>by cases h) simWhatever_wf (fun _ h=>by cases h) simWhatever_row_tie rfl ⟨rfl,rfl⟩ jk_main rfl
  (fun f fn hf hfn=>by
   obtain rfl:f = 5:=Option.some.inj (simWhatever_at.symm.trans hf) |>.symm
   obtain rfl:fn = Tryz.f5:=(Option.some.inj (Tryz.func5.symm.trans hfn)).symm
   exact ⟨jk_looks,fun j t ht=>by
    rw [Tryz.params5] at ht
    have hm:t ∈ [25,28,29,22,22]:=by simpa using Array.mem_of_getElem? ht
    simp only [List.mem_cons,List.not_mem_nil,or_false] at hm
    rcases hm with rfl | rfl | rfl | rfl | rfl <;> exact no_stand (by decide)⟩)
  simWhatever_goes
#print axioms simWhatever_card
end Go.Proofs.YtleofbpepfmfgaaGreatDoor
