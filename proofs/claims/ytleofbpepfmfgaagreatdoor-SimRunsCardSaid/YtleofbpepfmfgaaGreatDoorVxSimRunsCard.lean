import Derived.Test.YtleofbpepfmfgaaGreatDoorVxSimRunsRow
set_option maxRecDepth 100000
namespace Go.Proofs.YtleofbpepfmfgaaGreatDoor
open Go
theorem simRuns_wf:Rows.simRunsRow.wfByText (OpenSpec.ofChange Rows.simRunsSpec)=true:=by kernel_rfl
theorem simRuns_goes:false=Rows.simRunsRow.goesBy Tryz.pinned.checked.prog:=by kernel_rfl
theorem simRuns_at : Tryz.prog.funcNamed "bireme/biremelaw27.SimRuns" = some 3 := by kernel_rfl
theorem simRuns_card:Rows.SimRunsCardSaid :=
 Claim7.holds_tied_plain_at .later [] [.widerDeep] true mainSha true
  simRuns_holds (fun _ h=>by cases h) simRuns_wf (fun _ h=>by cases h) simRuns_row_tie rfl ⟨rfl,rfl⟩ jk_main rfl
  (fun f fn hf hfn=>by
   obtain rfl:f=3:=Option.some.inj (simRuns_at.symm.trans hf) |>.symm
   obtain rfl:fn=Tryz.f3:=(Option.some.inj (Tryz.func3.symm.trans hfn)).symm
   exact ⟨jk_looks,fun j t ht=>by
    rw [Tryz.params3] at ht
    have hm:t∈[25,28,29,3,22]:=by simpa using Array.mem_of_getElem? ht
    simp only [List.mem_cons,List.not_mem_nil,or_false] at hm
    rcases hm with rfl | rfl | rfl | rfl | rfl<;>exact no_stand (by decide)⟩)
  simRuns_goes
#print axioms simRuns_card
end Go.Proofs.YtleofbpepfmfgaaGreatDoor
