import Derived.Test.YtleofbpepfmfgaaGreatDoorVxSimSettledRow
set_option maxRecDepth 100000
namespace Go.Proofs.YtleofbpepfmfgaaGreatDoor
open Go
theorem simSettled_wf:Rows.simSettledRow.wfByText (OpenSpec.ofChange Rows.simSettledSpec) = true:=by kernel_rfl
theorem simSettled_goes:false = Rows.simSettledRow.goesBy Tryz.pinned.checked.prog:=by kernel_rfl
theorem simSettled_at : Tryz.prog.funcNamed "bireme/biremelaw27.SimSettled" = some 8 := by kernel_rfl
theorem simSettled_card:Rows.SimSettledCardSaid :=
 Claim7.holds_tied_plain_at .later [] [.widerDeep] true mainSha true
  simSettled_holds (fun _ h=>by cases h) simSettled_wf (fun _ h=>by cases h) simSettled_row_tie rfl ⟨rfl,rfl⟩ jk_main rfl
  (fun f fn hf hfn=>by
   obtain rfl:f = 8:=Option.some.inj (simSettled_at.symm.trans hf) |>.symm
   obtain rfl:fn = Tryz.f8:=(Option.some.inj (Tryz.func8.symm.trans hfn)).symm
   exact ⟨jk_looks,fun j t ht=>by
    rw [Tryz.params8] at ht
    have hm:t ∈ [25,28,29,22,60]:=by simpa using Array.mem_of_getElem? ht
    simp only [List.mem_cons,List.not_mem_nil,or_false] at hm
    rcases hm with rfl | rfl | rfl | rfl | rfl <;> exact no_stand (by decide)⟩)
  simSettled_goes
#print axioms simSettled_card
end Go.Proofs.YtleofbpepfmfgaaGreatDoor
