/-
  DERIVED. GIVEN WITH THE SEED: THE CARDS: each row of YtmnagbhllnlelaaGreatDoorRows.lean that lists a variable, with what it lists TIED to the program's text (the seventh form; the later family's looks); each row that meets fmt, with fmt's text TOLD by the authors' own Lean function (tested against real Go, not proved from fmt's source: count such statements apart). THE CARD IS WHAT COUNTS. Prove the row's statement (the work); the ties are given (YtmnagbhllnlelaaGreatDoorTie.lean); close each card by the builder's one call (the guide's Derived/Test/ToyasCard.lean, 'card_holds'). Laid BY PROGRAM, IN A SANDBOX (cutbox-door.mjs). By AI agents, Wed Nov 11 2026. No macro, syntax, notation, axiom, sorry.
-/
import Derived.Test.YtmnagbhllnlelaaGreatDoorRows
import GoSem.ClaimSeven
namespace Go.Proofs.YtmnagbhllnlelaaGreatDoor
namespace Rows

/-- THE TIED CARD OF 'biremelaw23.ModuloStages'. -/
def moduloStagesCard : Claim7 := { stood := { row := moduloStagesRow, standIns := [], harness := (true, "abea8301d435cf848077fae55245b0e4751b673ef60fee3ffea75b884d47bb4e"), looks := true }, kinds := [], alts := [], laidByText := true, laidKinds := [.widerDeep], laidTests := true, laidLooks := .later }
def ModuloStagesCardSaid : Prop := Claim7.holds Tryz.pinned (.plain (OpenSpec.ofChange moduloStagesSpec)) moduloStagesCard

/-- THE TIED CARD OF 'biremelaw23.ModuloRings'. -/
def moduloRingsCard : Claim7 := { stood := { row := moduloRingsRow, standIns := [], harness := (true, "abea8301d435cf848077fae55245b0e4751b673ef60fee3ffea75b884d47bb4e"), looks := true }, kinds := [], alts := [], laidByText := true, laidKinds := [.widerDeep], laidTests := true, laidLooks := .later }
def ModuloRingsCardSaid : Prop := Claim7.holds Tryz.pinned (.plain (OpenSpec.ofChange moduloRingsSpec)) moduloRingsCard

/-- THE TIED CARD OF 'biremelaw20.OrderHolds'. -/
def orderHoldsCard : Claim7 := { stood := { row := orderHoldsRow, standIns := [], harness := (true, "abea8301d435cf848077fae55245b0e4751b673ef60fee3ffea75b884d47bb4e"), looks := true }, kinds := [], alts := [], laidByText := true, laidKinds := [.widerDeep], laidTests := true, laidLooks := .later }
def OrderHoldsCardSaid : Prop := Claim7.holds Tryz.pinned (.plain (OpenSpec.ofChange orderHoldsSpec)) orderHoldsCard

/-- THE TIED CARD OF 'biremelaw20.OrderHeights'. -/
def orderHeightsCard : Claim7 := { stood := { row := orderHeightsRow, standIns := [], harness := (true, "abea8301d435cf848077fae55245b0e4751b673ef60fee3ffea75b884d47bb4e"), looks := true }, kinds := [], alts := [], laidByText := true, laidKinds := [.widerDeep], laidTests := true, laidLooks := .later }
def OrderHeightsCardSaid : Prop := Claim7.holds Tryz.pinned (.plain (OpenSpec.ofChange orderHeightsSpec)) orderHeightsCard

/-- THE TIED CARD OF 'biremelaw20.OrderFalls'. -/
def orderFallsCard : Claim7 := { stood := { row := orderFallsRow, standIns := [], harness := (true, "abea8301d435cf848077fae55245b0e4751b673ef60fee3ffea75b884d47bb4e"), looks := true }, kinds := [], alts := [], laidByText := true, laidKinds := [.widerDeep], laidTests := true, laidLooks := .later }
def OrderFallsCardSaid : Prop := Claim7.holds Tryz.pinned (.plain (OpenSpec.ofChange orderFallsSpec)) orderFallsCard

/-- THE TIED CARD OF 'biremelaw21.ListPlans'. -/
def listPlansCard : Claim7 := { stood := { row := listPlansRow, standIns := [], harness := (true, "abea8301d435cf848077fae55245b0e4751b673ef60fee3ffea75b884d47bb4e"), looks := true }, kinds := [], alts := [], laidByText := true, laidKinds := [.widerDeep], laidTests := true, laidLooks := .later }
def ListPlansCardSaid : Prop := Claim7.holds Tryz.pinned (.plain (OpenSpec.ofChange listPlansSpec)) listPlansCard

/-- THE TIED CARD OF 'biremelaw22.ExactSearches'. -/
def exactSearchesCard : Claim7 := { stood := { row := exactSearchesRow, standIns := [], harness := (true, "abea8301d435cf848077fae55245b0e4751b673ef60fee3ffea75b884d47bb4e"), looks := true }, kinds := [], alts := [], laidByText := true, laidKinds := [.widerDeep], laidTests := true, laidLooks := .later }
def ExactSearchesCardSaid : Prop := Claim7.holds Tryz.pinned (.plain (OpenSpec.ofChange exactSearchesSpec)) exactSearchesCard

/-- THE TIED CARD OF 'biremelaw24.LeastSolves'. -/
def leastSolvesCard : Claim7 := { stood := { row := leastSolvesRow, standIns := [], harness := (true, "abea8301d435cf848077fae55245b0e4751b673ef60fee3ffea75b884d47bb4e"), looks := true }, kinds := [], alts := [], laidByText := true, laidKinds := [.widerDeep], laidTests := true, laidLooks := .later }
def LeastSolvesCardSaid : Prop := Claim7.holds Tryz.pinned (.plain (OpenSpec.ofChange leastSolvesSpec)) leastSolvesCard

/-- THE TIED CARD OF 'biremelaw24.LeastSolved'. -/
def leastSolvedCard : Claim7 := { stood := { row := leastSolvedRow, standIns := [], harness := (true, "abea8301d435cf848077fae55245b0e4751b673ef60fee3ffea75b884d47bb4e"), looks := true }, kinds := [], alts := [], laidByText := true, laidKinds := [.widerDeep], laidTests := true, laidLooks := .later }
def LeastSolvedCardSaid : Prop := Claim7.holds Tryz.pinned (.plain (OpenSpec.ofChange leastSolvedSpec)) leastSolvedCard

/-- THE SECOND FORM's CARD OF 'biremelaw23.ModuloStages'. -/
def moduloStagesUptoCard : Claim7 := { stood := { row := moduloStagesUptoRow, standIns := [], harness := (true, "abea8301d435cf848077fae55245b0e4751b673ef60fee3ffea75b884d47bb4e"), looks := true }, kinds := [], alts := [], laidByText := true, laidKinds := [.widerDeep], laidTests := true, laidLooks := .later }
def ModuloStagesUptoCardSaid : Prop := Claim7.holds Tryz.pinned (.plain (OpenSpec.upto moduloStagesSpec)) moduloStagesUptoCard

/-- THE SECOND FORM's CARD OF 'biremelaw23.ModuloRings'. -/
def moduloRingsUptoCard : Claim7 := { stood := { row := moduloRingsUptoRow, standIns := [], harness := (true, "abea8301d435cf848077fae55245b0e4751b673ef60fee3ffea75b884d47bb4e"), looks := true }, kinds := [], alts := [], laidByText := true, laidKinds := [.widerDeep], laidTests := true, laidLooks := .later }
def ModuloRingsUptoCardSaid : Prop := Claim7.holds Tryz.pinned (.plain (OpenSpec.upto moduloRingsSpec)) moduloRingsUptoCard

/-- THE SECOND FORM's CARD OF 'biremelaw20.OrderHolds'. -/
def orderHoldsUptoCard : Claim7 := { stood := { row := orderHoldsUptoRow, standIns := [], harness := (true, "abea8301d435cf848077fae55245b0e4751b673ef60fee3ffea75b884d47bb4e"), looks := true }, kinds := [], alts := [], laidByText := true, laidKinds := [.widerDeep], laidTests := true, laidLooks := .later }
def OrderHoldsUptoCardSaid : Prop := Claim7.holds Tryz.pinned (.plain (OpenSpec.upto orderHoldsSpec)) orderHoldsUptoCard

/-- THE SECOND FORM's CARD OF 'biremelaw20.OrderHeights'. -/
def orderHeightsUptoCard : Claim7 := { stood := { row := orderHeightsUptoRow, standIns := [], harness := (true, "abea8301d435cf848077fae55245b0e4751b673ef60fee3ffea75b884d47bb4e"), looks := true }, kinds := [], alts := [], laidByText := true, laidKinds := [.widerDeep], laidTests := true, laidLooks := .later }
def OrderHeightsUptoCardSaid : Prop := Claim7.holds Tryz.pinned (.plain (OpenSpec.upto orderHeightsSpec)) orderHeightsUptoCard

/-- THE SECOND FORM's CARD OF 'biremelaw20.OrderFalls'. -/
def orderFallsUptoCard : Claim7 := { stood := { row := orderFallsUptoRow, standIns := [], harness := (true, "abea8301d435cf848077fae55245b0e4751b673ef60fee3ffea75b884d47bb4e"), looks := true }, kinds := [], alts := [], laidByText := true, laidKinds := [.widerDeep], laidTests := true, laidLooks := .later }
def OrderFallsUptoCardSaid : Prop := Claim7.holds Tryz.pinned (.plain (OpenSpec.upto orderFallsSpec)) orderFallsUptoCard

/-- THE SECOND FORM's CARD OF 'biremelaw21.ListPlans'. -/
def listPlansUptoCard : Claim7 := { stood := { row := listPlansUptoRow, standIns := [], harness := (true, "abea8301d435cf848077fae55245b0e4751b673ef60fee3ffea75b884d47bb4e"), looks := true }, kinds := [], alts := [], laidByText := true, laidKinds := [.widerDeep], laidTests := true, laidLooks := .later }
def ListPlansUptoCardSaid : Prop := Claim7.holds Tryz.pinned (.plain (OpenSpec.upto listPlansSpec)) listPlansUptoCard

/-- THE SECOND FORM's CARD OF 'biremelaw22.ExactSearches'. -/
def exactSearchesUptoCard : Claim7 := { stood := { row := exactSearchesUptoRow, standIns := [], harness := (true, "abea8301d435cf848077fae55245b0e4751b673ef60fee3ffea75b884d47bb4e"), looks := true }, kinds := [], alts := [], laidByText := true, laidKinds := [.widerDeep], laidTests := true, laidLooks := .later }
def ExactSearchesUptoCardSaid : Prop := Claim7.holds Tryz.pinned (.plain (OpenSpec.upto exactSearchesSpec)) exactSearchesUptoCard

/-- THE SECOND FORM's CARD OF 'biremelaw24.LeastSolves'. -/
def leastSolvesUptoCard : Claim7 := { stood := { row := leastSolvesUptoRow, standIns := [], harness := (true, "abea8301d435cf848077fae55245b0e4751b673ef60fee3ffea75b884d47bb4e"), looks := true }, kinds := [], alts := [], laidByText := true, laidKinds := [.widerDeep], laidTests := true, laidLooks := .later }
def LeastSolvesUptoCardSaid : Prop := Claim7.holds Tryz.pinned (.plain (OpenSpec.upto leastSolvesSpec)) leastSolvesUptoCard

/-- THE SECOND FORM's CARD OF 'biremelaw24.LeastSolved'. -/
def leastSolvedUptoCard : Claim7 := { stood := { row := leastSolvedUptoRow, standIns := [], harness := (true, "abea8301d435cf848077fae55245b0e4751b673ef60fee3ffea75b884d47bb4e"), looks := true }, kinds := [], alts := [], laidByText := true, laidKinds := [.widerDeep], laidTests := true, laidLooks := .later }
def LeastSolvedUptoCardSaid : Prop := Claim7.holds Tryz.pinned (.plain (OpenSpec.upto leastSolvedSpec)) leastSolvedUptoCard
end Rows
end Go.Proofs.YtmnagbhllnlelaaGreatDoor
