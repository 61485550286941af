import Derived.Test.YtleofbpepfmfgaaGreatDoorVxSimStrictsRow
set_option maxRecDepth 100000
namespace Go.Proofs.YtleofbpepfmfgaaGreatDoor
open Go
theorem simStricts_wf:Rows.simStrictsRow.wfByText (OpenSpec.ofChange Rows.simStrictsSpec) = true:=by kernel_rfl
theorem simStricts_goes:false = Rows.simStrictsRow.goesBy Tryz.pinned.checked.prog:=by kernel_rfl
theorem simStricts_at : Tryz.prog.funcNamed "bireme/biremelaw27.SimStricts" = some 4 := by kernel_rfl
theorem simStricts_card:Rows.SimStrictsCardSaid :=
 Claim7.holds_tied_plain_at .later [] [.widerDeep] true mainSha true
  simStricts_holds (fun _ h=>by cases h) simStricts_wf (fun _ h=>by cases h) simStricts_row_tie rfl ⟨rfl,rfl⟩ jk_main rfl
  (fun f fn hf hfn=>by
   obtain rfl:f = 4:=Option.some.inj (simStricts_at.symm.trans hf) |>.symm
   obtain rfl:fn = Tryz.f4:=(Option.some.inj (Tryz.func4.symm.trans hfn)).symm
   exact ⟨jk_looks,fun j t ht=>by
    rw [Tryz.params4] at ht
    have hm:t ∈ [25,28,3]:=by simpa using Array.mem_of_getElem? ht
    simp only [List.mem_cons,List.not_mem_nil,or_false] at hm
    rcases hm with rfl | rfl | rfl <;> exact no_stand (by decide)⟩)
  simStricts_goes
#print axioms simStricts_card
end Go.Proofs.YtleofbpepfmfgaaGreatDoor
