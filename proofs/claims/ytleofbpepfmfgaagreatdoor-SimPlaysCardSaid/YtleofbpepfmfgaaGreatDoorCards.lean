/-
  DERIVED. GIVEN WITH THE SEED: THE CARDS: each row of YtleofbpepfmfgaaGreatDoorRows.lean that lists a variable, with what it lists TIED to the program's text (the seventh form; the later family's looks); each row that meets fmt, with fmt's text TOLD by the authors' own Lean function (tested against real Go, not proved from fmt's source: count such statements apart). THE CARD IS WHAT COUNTS. Prove the row's statement (the work); the ties are given (YtleofbpepfmfgaaGreatDoorTie.lean); close each card by the builder's one call (the guide's Derived/Test/ToyasCard.lean, 'card_holds'). Laid BY PROGRAM, IN A SANDBOX (cutbox-door.mjs). By AI agents, Wed Nov 11 2026. No macro, syntax, notation, axiom, sorry.
-/
import Derived.Test.YtleofbpepfmfgaaGreatDoorRows
import GoSem.ClaimSeven
namespace Go.Proofs.YtleofbpepfmfgaaGreatDoor
namespace Rows

/-- THE TIED CARD OF 'biremelaw27.SimRuns'. -/
def simRunsCard : Claim7 := { stood := { row := simRunsRow, standIns := [], harness := (true, "df85d65f2da84bc1e3710418a0942af33b3a71b46afada8500d8c4d100323101"), looks := true }, kinds := [], alts := [], laidByText := true, laidKinds := [.widerDeep], laidTests := true, laidLooks := .later }
def SimRunsCardSaid : Prop := Claim7.holds Tryz.pinned (.plain (OpenSpec.ofChange simRunsSpec)) simRunsCard

/-- THE TIED CARD OF 'biremelaw27.SimStricts'. -/
def simStrictsCard : Claim7 := { stood := { row := simStrictsRow, standIns := [], harness := (true, "df85d65f2da84bc1e3710418a0942af33b3a71b46afada8500d8c4d100323101"), looks := true }, kinds := [], alts := [], laidByText := true, laidKinds := [.widerDeep], laidTests := true, laidLooks := .later }
def SimStrictsCardSaid : Prop := Claim7.holds Tryz.pinned (.plain (OpenSpec.ofChange simStrictsSpec)) simStrictsCard

/-- THE TIED CARD OF 'biremelaw27.SimWhatever'. -/
def simWhateverCard : Claim7 := { stood := { row := simWhateverRow, standIns := [], harness := (true, "df85d65f2da84bc1e3710418a0942af33b3a71b46afada8500d8c4d100323101"), looks := true }, kinds := [], alts := [], laidByText := true, laidKinds := [.widerDeep], laidTests := true, laidLooks := .later }
def SimWhateverCardSaid : Prop := Claim7.holds Tryz.pinned (.plain (OpenSpec.ofChange simWhateverSpec)) simWhateverCard

/-- THE TIED CARD OF 'biremelaw27.SimSlow'. -/
def simSlowCard : Claim7 := { stood := { row := simSlowRow, standIns := [], harness := (true, "df85d65f2da84bc1e3710418a0942af33b3a71b46afada8500d8c4d100323101"), looks := true }, kinds := [], alts := [], laidByText := true, laidKinds := [.widerDeep], laidTests := true, laidLooks := .later }
def SimSlowCardSaid : Prop := Claim7.holds Tryz.pinned (.plain (OpenSpec.ofChange simSlowSpec)) simSlowCard

/-- THE TIED CARD OF 'biremelaw27.SimOne'. -/
def simOneCard : Claim7 := { stood := { row := simOneRow, standIns := [], harness := (true, "df85d65f2da84bc1e3710418a0942af33b3a71b46afada8500d8c4d100323101"), looks := true }, kinds := [], alts := [], laidByText := true, laidKinds := [.widerDeep], laidTests := true, laidLooks := .later }
def SimOneCardSaid : Prop := Claim7.holds Tryz.pinned (.plain (OpenSpec.ofChange simOneSpec)) simOneCard

/-- THE TIED CARD OF 'biremelaw27.SimSettled'. -/
def simSettledCard : Claim7 := { stood := { row := simSettledRow, standIns := [], harness := (true, "df85d65f2da84bc1e3710418a0942af33b3a71b46afada8500d8c4d100323101"), looks := true }, kinds := [], alts := [], laidByText := true, laidKinds := [.widerDeep], laidTests := true, laidLooks := .later }
def SimSettledCardSaid : Prop := Claim7.holds Tryz.pinned (.plain (OpenSpec.ofChange simSettledSpec)) simSettledCard

/-- THE TIED CARD OF 'biremelaw27.SimParts'. -/
def simPartsCard : Claim7 := { stood := { row := simPartsRow, standIns := [], harness := (true, "df85d65f2da84bc1e3710418a0942af33b3a71b46afada8500d8c4d100323101"), looks := true }, kinds := [], alts := [], laidByText := true, laidKinds := [.widerDeep], laidTests := true, laidLooks := .later }
def SimPartsCardSaid : Prop := Claim7.holds Tryz.pinned (.plain (OpenSpec.ofChange simPartsSpec)) simPartsCard

/-- THE TIED CARD OF 'biremelaw27.SimPlays'. -/
def simPlaysCard : Claim7 := { stood := { row := simPlaysRow, standIns := [], harness := (true, "df85d65f2da84bc1e3710418a0942af33b3a71b46afada8500d8c4d100323101"), looks := true }, kinds := [], alts := [], laidByText := true, laidKinds := [.widerDeep], laidTests := true, laidLooks := .later }
def SimPlaysCardSaid : Prop := Claim7.holds Tryz.pinned (.plain (OpenSpec.ofChange simPlaysSpec)) simPlaysCard

/-- THE TIED CARD OF 'biremelaw27.SimNobody'. -/
def simNobodyCard : Claim7 := { stood := { row := simNobodyRow, standIns := [], harness := (true, "df85d65f2da84bc1e3710418a0942af33b3a71b46afada8500d8c4d100323101"), looks := true }, kinds := [], alts := [], laidByText := true, laidKinds := [.widerDeep], laidTests := true, laidLooks := .later }
def SimNobodyCardSaid : Prop := Claim7.holds Tryz.pinned (.plain (OpenSpec.ofChange simNobodySpec)) simNobodyCard

/-- THE TIED CARD OF 'biremelaw27.SimReached'. -/
def simReachedCard : Claim7 := { stood := { row := simReachedRow, standIns := [], harness := (true, "df85d65f2da84bc1e3710418a0942af33b3a71b46afada8500d8c4d100323101"), looks := true }, kinds := [], alts := [], laidByText := true, laidKinds := [.widerDeep], laidTests := true, laidLooks := .later }
def SimReachedCardSaid : Prop := Claim7.holds Tryz.pinned (.plain (OpenSpec.ofChange simReachedSpec)) simReachedCard

/-- THE SECOND FORM's CARD OF 'biremelaw27.SimRuns'. -/
def simRunsUptoCard : Claim7 := { stood := { row := simRunsUptoRow, standIns := [], harness := (true, "df85d65f2da84bc1e3710418a0942af33b3a71b46afada8500d8c4d100323101"), looks := true }, kinds := [], alts := [], laidByText := true, laidKinds := [.widerDeep], laidTests := true, laidLooks := .later }
def SimRunsUptoCardSaid : Prop := Claim7.holds Tryz.pinned (.plain (OpenSpec.upto simRunsSpec)) simRunsUptoCard

/-- THE SECOND FORM's CARD OF 'biremelaw27.SimStricts'. -/
def simStrictsUptoCard : Claim7 := { stood := { row := simStrictsUptoRow, standIns := [], harness := (true, "df85d65f2da84bc1e3710418a0942af33b3a71b46afada8500d8c4d100323101"), looks := true }, kinds := [], alts := [], laidByText := true, laidKinds := [.widerDeep], laidTests := true, laidLooks := .later }
def SimStrictsUptoCardSaid : Prop := Claim7.holds Tryz.pinned (.plain (OpenSpec.upto simStrictsSpec)) simStrictsUptoCard

/-- THE SECOND FORM's CARD OF 'biremelaw27.SimWhatever'. -/
def simWhateverUptoCard : Claim7 := { stood := { row := simWhateverUptoRow, standIns := [], harness := (true, "df85d65f2da84bc1e3710418a0942af33b3a71b46afada8500d8c4d100323101"), looks := true }, kinds := [], alts := [], laidByText := true, laidKinds := [.widerDeep], laidTests := true, laidLooks := .later }
def SimWhateverUptoCardSaid : Prop := Claim7.holds Tryz.pinned (.plain (OpenSpec.upto simWhateverSpec)) simWhateverUptoCard

/-- THE SECOND FORM's CARD OF 'biremelaw27.SimSlow'. -/
def simSlowUptoCard : Claim7 := { stood := { row := simSlowUptoRow, standIns := [], harness := (true, "df85d65f2da84bc1e3710418a0942af33b3a71b46afada8500d8c4d100323101"), looks := true }, kinds := [], alts := [], laidByText := true, laidKinds := [.widerDeep], laidTests := true, laidLooks := .later }
def SimSlowUptoCardSaid : Prop := Claim7.holds Tryz.pinned (.plain (OpenSpec.upto simSlowSpec)) simSlowUptoCard

/-- THE SECOND FORM's CARD OF 'biremelaw27.SimOne'. -/
def simOneUptoCard : Claim7 := { stood := { row := simOneUptoRow, standIns := [], harness := (true, "df85d65f2da84bc1e3710418a0942af33b3a71b46afada8500d8c4d100323101"), looks := true }, kinds := [], alts := [], laidByText := true, laidKinds := [.widerDeep], laidTests := true, laidLooks := .later }
def SimOneUptoCardSaid : Prop := Claim7.holds Tryz.pinned (.plain (OpenSpec.upto simOneSpec)) simOneUptoCard

/-- THE SECOND FORM's CARD OF 'biremelaw27.SimSettled'. -/
def simSettledUptoCard : Claim7 := { stood := { row := simSettledUptoRow, standIns := [], harness := (true, "df85d65f2da84bc1e3710418a0942af33b3a71b46afada8500d8c4d100323101"), looks := true }, kinds := [], alts := [], laidByText := true, laidKinds := [.widerDeep], laidTests := true, laidLooks := .later }
def SimSettledUptoCardSaid : Prop := Claim7.holds Tryz.pinned (.plain (OpenSpec.upto simSettledSpec)) simSettledUptoCard

/-- THE SECOND FORM's CARD OF 'biremelaw27.SimParts'. -/
def simPartsUptoCard : Claim7 := { stood := { row := simPartsUptoRow, standIns := [], harness := (true, "df85d65f2da84bc1e3710418a0942af33b3a71b46afada8500d8c4d100323101"), looks := true }, kinds := [], alts := [], laidByText := true, laidKinds := [.widerDeep], laidTests := true, laidLooks := .later }
def SimPartsUptoCardSaid : Prop := Claim7.holds Tryz.pinned (.plain (OpenSpec.upto simPartsSpec)) simPartsUptoCard

/-- THE SECOND FORM's CARD OF 'biremelaw27.SimPlays'. -/
def simPlaysUptoCard : Claim7 := { stood := { row := simPlaysUptoRow, standIns := [], harness := (true, "df85d65f2da84bc1e3710418a0942af33b3a71b46afada8500d8c4d100323101"), looks := true }, kinds := [], alts := [], laidByText := true, laidKinds := [.widerDeep], laidTests := true, laidLooks := .later }
def SimPlaysUptoCardSaid : Prop := Claim7.holds Tryz.pinned (.plain (OpenSpec.upto simPlaysSpec)) simPlaysUptoCard

/-- THE SECOND FORM's CARD OF 'biremelaw27.SimNobody'. -/
def simNobodyUptoCard : Claim7 := { stood := { row := simNobodyUptoRow, standIns := [], harness := (true, "df85d65f2da84bc1e3710418a0942af33b3a71b46afada8500d8c4d100323101"), looks := true }, kinds := [], alts := [], laidByText := true, laidKinds := [.widerDeep], laidTests := true, laidLooks := .later }
def SimNobodyUptoCardSaid : Prop := Claim7.holds Tryz.pinned (.plain (OpenSpec.upto simNobodySpec)) simNobodyUptoCard

/-- THE SECOND FORM's CARD OF 'biremelaw27.SimReached'. -/
def simReachedUptoCard : Claim7 := { stood := { row := simReachedUptoRow, standIns := [], harness := (true, "df85d65f2da84bc1e3710418a0942af33b3a71b46afada8500d8c4d100323101"), looks := true }, kinds := [], alts := [], laidByText := true, laidKinds := [.widerDeep], laidTests := true, laidLooks := .later }
def SimReachedUptoCardSaid : Prop := Claim7.holds Tryz.pinned (.plain (OpenSpec.upto simReachedSpec)) simReachedUptoCard
end Rows
end Go.Proofs.YtleofbpepfmfgaaGreatDoor
