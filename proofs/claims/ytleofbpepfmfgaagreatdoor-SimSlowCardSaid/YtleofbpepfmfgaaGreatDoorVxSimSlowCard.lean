import Derived.Test.YtleofbpepfmfgaaGreatDoorVxSimSlowRow
import Derived.Test.YtleofbpepfmfgaaGreatDoorVxOpenC
set_option maxRecDepth 100000
namespace Go.Proofs.YtleofbpepfmfgaaGreatDoor
open Go
theorem simSlow_wf:Rows.simSlowRow.wfByText (OpenSpec.ofChange Rows.simSlowSpec) = true:=by kernel_rfl
theorem simSlow_goes:false = Rows.simSlowRow.goesBy Tryz.pinned.checked.prog:=by kernel_rfl
theorem simSlow_at : Tryz.prog.funcNamed "bireme/biremelaw27.SimSlow" = some 6 := by kernel_rfl
theorem simSlow_card:Rows.SimSlowCardSaid :=
 Claim7.holds_tied_plain_at .later [] [.widerDeep] true mainSha true
  simSlow_holds (fun _ h=>by cases h) simSlow_wf (fun _ h=>by cases h) simSlow_row_tie rfl ⟨rfl,rfl⟩ jk_main rfl
  (fun f fn hf hfn=>by
   obtain rfl:f = 6:=Option.some.inj (simSlow_at.symm.trans hf) |>.symm
   obtain rfl:fn = Tryz.f6:=(Option.some.inj (Tryz.func6.symm.trans hfn)).symm
   exact ⟨jk_looks,fun j t ht=>by
    rw [Tryz.params6] at ht
    have hm:t ∈ [25,28,29,57]:=by simpa using Array.mem_of_getElem? ht
    simp only [List.mem_cons,List.not_mem_nil,or_false] at hm
    rcases hm with rfl | rfl | rfl | rfl <;> exact no_stand (by decide)⟩)
  simSlow_goes
#print axioms simSlow_card
end Go.Proofs.YtleofbpepfmfgaaGreatDoor
