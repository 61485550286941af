import Derived.Test.YtleofbpepfmfgaaGreatDoorVxSimPlaysRow
set_option maxRecDepth 100000
namespace Go.Proofs.YtleofbpepfmfgaaGreatDoor
open Go
theorem j7d:Rows.simPlaysRow.wfByText (OpenSpec.ofChange Rows.simPlaysSpec)=true:=by kernel_rfl
theorem k3p:false=Rows.simPlaysRow.goesBy Tryz.pinned.checked.prog:=by kernel_rfl
theorem v9m : Tryz.prog.funcNamed "bireme/biremelaw27.SimPlays" = some 10 := by kernel_rfl
theorem simPlays_card:Rows.SimPlaysCardSaid :=
 Claim7.holds_tied_plain_at .later [] [.widerDeep] true z9y true
  simPlays_holds (fun _ h=>by cases h) j7d (fun _ h=>by cases h) simPlays_row_tie rfl ⟨rfl,rfl⟩ k9f rfl
  (fun f fn hf hfn=>by
   obtain rfl:f=10:=Option.some.inj (v9m.symm.trans hf) |>.symm
   obtain rfl:fn=Tryz.f10:=(Option.some.inj (Tryz.func10.symm.trans hfn)).symm
   exact ⟨v8a,fun j t ht=>by
    rw [Tryz.params10] at ht
    have hm:t∈[25,28,29,22,69,26]:=by simpa using Array.mem_of_getElem? ht
    simp only [List.mem_cons,List.not_mem_nil,or_false] at hm
    rcases hm with rfl | rfl | rfl | rfl | rfl | rfl<;>exact j2l (by decide)⟩)
  k3p
#print axioms simPlays_card
end Go.Proofs.YtleofbpepfmfgaaGreatDoor
