/- SimNobody returns true for every input: the tied card. Conditions: those of the row and of its card as they are given. -/
import Derived.Test.YtleofbpepfmfgaaGreatDoorVxNobodyRow
import Derived.Test.YtleofbpepfmfgaaGreatDoorTie
import Derived.Test.YtleofbpepfmfgaaGreatDoorCards
import Derived.SevenTiedAt
set_option maxRecDepth 100000
namespace Go.Proofs.YtleofbpepfmfgaaGreatDoor
open Go
theorem simNobody_card : Rows.SimNobodyCardSaid :=
  Claim7.holds_tied_plain_at .later [] [.widerDeep] true (true, "df85d65f2da84bc1e3710418a0942af33b3a71b46afada8500d8c4d100323101") true
    simNobody_holds (fun _ h => by cases h) (by kernel_rfl) (fun _ h => by cases h) simNobody_row_tie rfl ⟨rfl, rfl⟩ (by kernel_rfl) rfl
    (fun f fn hf hfn => by
      obtain rfl : f = 11 := Option.some.inj ((show Tryz.prog.funcNamed "bireme/biremelaw27.SimNobody" = some 11 by kernel_rfl).symm.trans hf) |>.symm
      obtain rfl : fn = Tryz.f11 := (Option.some.inj (Tryz.func11.symm.trans hfn)).symm
      exact ⟨by kernel_rfl, fun j t ht => by
        rw [Tryz.params11] at ht
        have hm : t ∈ [3] := by simpa using Array.mem_of_getElem? ht
        have hall : ([3].all fun u => !Tryz.prog.wantsStandIn u) = true := by kernel_rfl
        exact (show Tryz.prog.wantsStandIn t = false by simpa using List.all_eq_true.1 hall t hm)⟩)
    (by kernel_rfl)
#print axioms simNobody_card
end Go.Proofs.YtleofbpepfmfgaaGreatDoor
