/- What the cards of a seat share. -/
import Derived.Test.YtmnagbhllnlelaaGreatDoorVxRowKit
import Derived.Test.YtmnagbhllnlelaaGreatDoorTie
import Derived.Test.YtmnagbhllnlelaaGreatDoorCards
import Derived.SevenTiedAt
set_option maxRecDepth 100000
namespace Go.Proofs.YtmnagbhllnlelaaGreatDoor
open Go
def mainSha : Bool × String := (true, "abea8301d435cf848077fae55245b0e4751b673ef60fee3ffea75b884d47bb4e")
theorem jk_main : Tryz.pinned.checked.prog.mainIs = some (mainSha.1, mainSha.2.toList) := by kernel_rfl
theorem jk_looks : true = Tryz.prog.looks [] := by kernel_rfl
theorem jk_stand : ([3, 4, 22, 29, 46, 47, 64].all fun u => !Tryz.prog.wantsStandIn u) = true := by kernel_rfl
theorem no_stand {t : TypeId} (h : t ∈ [3, 4, 22, 29, 46, 47, 64]) : Tryz.prog.wantsStandIn t = false := by simpa using List.all_eq_true.1 jk_stand t h
end Go.Proofs.YtmnagbhllnlelaaGreatDoor
