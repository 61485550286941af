/-
  NARROWER THAN 'FOR EVERY INPUT', by the rows' own cells (each row's printed sentence says how): SimRuns: laid · SimStricts: laid · SimWhatever: laid · SimSlow: laid · SimOne: laid · SimSettled: laid · SimParts: laid · SimPlays: laid · SimNobody: laid · SimReached: laid.
  DERIVED. THE GIVEN ROWS OF THIS SEAT. 10 by the template 'for every input the law returns true; each argument reads behind the call as it read before'; 0 by the template 'total and deterministic' (their statements: YtleofbpepfmfgaaGreatDoorTotals.lean).
  GIVEN WITH THE SEED: the statements are not yours to turn. If you find one false, say at which input.
  Laid BY PROGRAM, IN A SANDBOX (cutbox-rows.mjs): the forced cells as the released guide's own fill.sh prints them over the translation 85ed30c67b1393a1… (all of the seat's roots in one cut). By AI agents, Wed Nov 11 2026. No macro, syntax, notation, axiom, sorry.
-/
import Derived.Test.YtleofbpepfmfgaaGreatDoorChecked
import GoSem.Claim
import GoSem.ClaimJoined
import GoSem.ClaimMapViews
import Derived.JoinedTies
import Derived.KernelRfl
namespace Go.Proofs.YtleofbpepfmfgaaGreatDoor
/- THE CELL 'sum', in the pinned program and in every row, IS THE sha256 OF THE DUMP (.gsa) THAT YtleofbpepfmfgaaGreatDoorProg.lean LOADS. Nothing in Lean hashes anything: it is a label: what it is worth is what the hold of that sum in a sandbox is worth. -/
noncomputable def Tryz.pinned : Pinned := { name := "ytleofbpepfmfgaagreatdoor", sum := "85ed30c67b1393a18fdf1f61bff6da7afcb3b7a666a5f68b1b74699770e17bf0", checked := Tryz.checked }
namespace Rows
def none {H : Type} : Left H := { results := [], args := [] }

/- WHAT THE LISTED PACKAGE-LEVEL VARIABLES READ AS WHEN THE CALL BEGINS. Each datum BY PROGRAM (the guide's laid-datum.mjs) off the statement by which the dump's own 'gosem.cut.vars' lays the variable. In a bare row this is a premise. The card (YtleofbpepfmfgaaGreatDoorCards.lean) ties it to the program's text. -/
def laid_bireme_code_forms {H : Type} : DataW H := .agg [.agg [.lit (.int .i64 17), .lit (.int .i64 0), .lit (.string [99, 111, 110, 115, 116])], .agg [.lit (.int .i64 3), .lit (.int .i64 0), .lit (.string [109, 111, 118, 101])], .agg [.lit (.int .i64 7), .lit (.int .i64 0), .lit (.string [97, 100, 100])], .agg [.lit (.int .i64 7), .lit (.int .i64 0), .lit (.string [115, 117, 98])], .agg [.lit (.int .i64 7), .lit (.int .i64 0), .lit (.string [97, 110, 100])], .agg [.lit (.int .i64 7), .lit (.int .i64 0), .lit (.string [111, 114])], .agg [.lit (.int .i64 7), .lit (.int .i64 0), .lit (.string [120, 111, 114])], .agg [.lit (.int .i64 7), .lit (.int .i64 0), .lit (.string [115, 104, 108])], .agg [.lit (.int .i64 7), .lit (.int .i64 0), .lit (.string [115, 104, 114])], .agg [.lit (.int .i64 7), .lit (.int .i64 0), .lit (.string [108, 101, 115, 115])], .agg [.lit (.int .i64 7), .lit (.int .i64 0), .lit (.string [101, 113, 117, 97, 108])], .agg [.lit (.int .i64 15), .lit (.int .i64 0), .lit (.string [112, 105, 99, 107])], .agg [.lit (.int .i64 7), .lit (.int .i64 1), .lit (.string [109, 117, 108])], .agg [.lit (.int .i64 7), .lit (.int .i64 1), .lit (.string [100, 105, 118])], .agg [.lit (.int .i64 7), .lit (.int .i64 1), .lit (.string [114, 101, 109])], .agg [.lit (.int .i64 35), .lit (.int .i64 2), .lit (.string [108, 111, 97, 100])], .agg [.lit (.int .i64 38), .lit (.int .i64 2), .lit (.string [115, 116, 111, 114, 101])], .agg [.lit (.int .i64 65), .lit (.int .i64 2), .lit (.string [102, 101, 116, 99, 104])], .agg [.lit (.int .i64 66), .lit (.int .i64 2), .lit (.string [107, 101, 101, 112])], .agg [.lit (.int .i64 2), .lit (.int .i64 3), .lit (.string [112, 114, 105, 110, 116])], .agg [.lit (.int .i64 130), .lit (.int .i64 3), .lit (.string [101, 120, 105, 116])], .agg [.lit (.int .i64 2), .lit (.int .i64 3), .lit (.string [99, 104, 101, 99, 107])], .agg [.lit (.int .i64 7), .lit (.int .i64 1), .lit (.string [100, 105, 118, 115])], .agg [.lit (.int .i64 7), .lit (.int .i64 1), .lit (.string [114, 101, 109, 115])], .agg [.lit (.int .i64 35), .lit (.int .i64 2), .lit (.string [108, 111, 97, 100, 115])]]

/-- 'biremelaw27.SimRuns': WHATEVER THE INPUT: true; the input reads as it did. -/
def simRunsSpec : ChangeSpec := { name := "simRuns", fn := fun _ => fun
  | [d1, d2, d3, d4, d5] => { results := [.lit (.bool true)], args := [d1, d2, d3, d4, d5] }
  | _ => none }
def simRunsRow : OpenClaim := { program := "ytleofbpepfmfgaagreatdoor", sum := "85ed30c67b1393a18fdf1f61bff6da7afcb3b7a666a5f68b1b74699770e17bf0", func := "bireme/biremelaw27.SimRuns", spec := "simRuns", unfollowed := true, recurses := true, named := ["bireme/code.forms"], apart := false, laid := [("bireme/code.forms", laid_bireme_code_forms)] }
def SimRunsSaid : Prop := simRunsRow.holds Tryz.pinned (OpenSpec.ofChange simRunsSpec)

/-- ITS FALSE NEIGHBOUR: 'it returns false'. Refute it at one input. -/
def simRunsWrong : ChangeSpec := { name := "simRuns", fn := fun _ => fun
  | [d1, d2, d3, d4, d5] => { results := [.lit (.bool false)], args := [d1, d2, d3, d4, d5] }
  | _ => none }
def SimRunsWrongFalsely : Prop := simRunsRow.holds Tryz.pinned (OpenSpec.ofChange simRunsWrong)

/-- 'biremelaw27.SimStricts': WHATEVER THE INPUT: true; the input reads as it did. -/
def simStrictsSpec : ChangeSpec := { name := "simStricts", fn := fun _ => fun
  | [d1, d2, d3] => { results := [.lit (.bool true)], args := [d1, d2, d3] }
  | _ => none }
def simStrictsRow : OpenClaim := { program := "ytleofbpepfmfgaagreatdoor", sum := "85ed30c67b1393a18fdf1f61bff6da7afcb3b7a666a5f68b1b74699770e17bf0", func := "bireme/biremelaw27.SimStricts", spec := "simStricts", unfollowed := true, recurses := true, named := ["bireme/code.forms"], apart := false, laid := [("bireme/code.forms", laid_bireme_code_forms)] }
def SimStrictsSaid : Prop := simStrictsRow.holds Tryz.pinned (OpenSpec.ofChange simStrictsSpec)

/-- ITS FALSE NEIGHBOUR: 'it returns false'. Refute it at one input. -/
def simStrictsWrong : ChangeSpec := { name := "simStricts", fn := fun _ => fun
  | [d1, d2, d3] => { results := [.lit (.bool false)], args := [d1, d2, d3] }
  | _ => none }
def SimStrictsWrongFalsely : Prop := simStrictsRow.holds Tryz.pinned (OpenSpec.ofChange simStrictsWrong)

/-- 'biremelaw27.SimWhatever': WHATEVER THE INPUT: true; the input reads as it did. -/
def simWhateverSpec : ChangeSpec := { name := "simWhatever", fn := fun _ => fun
  | [d1, d2, d3, d4, d5] => { results := [.lit (.bool true)], args := [d1, d2, d3, d4, d5] }
  | _ => none }
def simWhateverRow : OpenClaim := { program := "ytleofbpepfmfgaagreatdoor", sum := "85ed30c67b1393a18fdf1f61bff6da7afcb3b7a666a5f68b1b74699770e17bf0", func := "bireme/biremelaw27.SimWhatever", spec := "simWhatever", unfollowed := true, recurses := true, named := ["bireme/code.forms"], apart := false, laid := [("bireme/code.forms", laid_bireme_code_forms)] }
def SimWhateverSaid : Prop := simWhateverRow.holds Tryz.pinned (OpenSpec.ofChange simWhateverSpec)

/-- ITS FALSE NEIGHBOUR: 'it returns false'. Refute it at one input. -/
def simWhateverWrong : ChangeSpec := { name := "simWhatever", fn := fun _ => fun
  | [d1, d2, d3, d4, d5] => { results := [.lit (.bool false)], args := [d1, d2, d3, d4, d5] }
  | _ => none }
def SimWhateverWrongFalsely : Prop := simWhateverRow.holds Tryz.pinned (OpenSpec.ofChange simWhateverWrong)

/-- 'biremelaw27.SimSlow': WHATEVER THE INPUT: true; the input reads as it did. -/
def simSlowSpec : ChangeSpec := { name := "simSlow", fn := fun _ => fun
  | [d1, d2, d3, d4] => { results := [.lit (.bool true)], args := [d1, d2, d3, d4] }
  | _ => none }
def simSlowRow : OpenClaim := { program := "ytleofbpepfmfgaagreatdoor", sum := "85ed30c67b1393a18fdf1f61bff6da7afcb3b7a666a5f68b1b74699770e17bf0", func := "bireme/biremelaw27.SimSlow", spec := "simSlow", unfollowed := true, recurses := true, named := ["bireme/code.forms"], apart := false, laid := [("bireme/code.forms", laid_bireme_code_forms)] }
def SimSlowSaid : Prop := simSlowRow.holds Tryz.pinned (OpenSpec.ofChange simSlowSpec)

/-- ITS FALSE NEIGHBOUR: 'it returns false'. Refute it at one input. -/
def simSlowWrong : ChangeSpec := { name := "simSlow", fn := fun _ => fun
  | [d1, d2, d3, d4] => { results := [.lit (.bool false)], args := [d1, d2, d3, d4] }
  | _ => none }
def SimSlowWrongFalsely : Prop := simSlowRow.holds Tryz.pinned (OpenSpec.ofChange simSlowWrong)

/-- 'biremelaw27.SimOne': WHATEVER THE INPUT: true; the input reads as it did. -/
def simOneSpec : ChangeSpec := { name := "simOne", fn := fun _ => fun
  | [d1, d2] => { results := [.lit (.bool true)], args := [d1, d2] }
  | _ => none }
def simOneRow : OpenClaim := { program := "ytleofbpepfmfgaagreatdoor", sum := "85ed30c67b1393a18fdf1f61bff6da7afcb3b7a666a5f68b1b74699770e17bf0", func := "bireme/biremelaw27.SimOne", spec := "simOne", unfollowed := true, recurses := true, named := ["bireme/code.forms"], apart := false, laid := [("bireme/code.forms", laid_bireme_code_forms)] }
def SimOneSaid : Prop := simOneRow.holds Tryz.pinned (OpenSpec.ofChange simOneSpec)

/-- ITS FALSE NEIGHBOUR: 'it returns false'. Refute it at one input. -/
def simOneWrong : ChangeSpec := { name := "simOne", fn := fun _ => fun
  | [d1, d2] => { results := [.lit (.bool false)], args := [d1, d2] }
  | _ => none }
def SimOneWrongFalsely : Prop := simOneRow.holds Tryz.pinned (OpenSpec.ofChange simOneWrong)

/-- 'biremelaw27.SimSettled': WHATEVER THE INPUT: true; the input reads as it did. -/
def simSettledSpec : ChangeSpec := { name := "simSettled", fn := fun _ => fun
  | [d1, d2, d3, d4, d5] => { results := [.lit (.bool true)], args := [d1, d2, d3, d4, d5] }
  | _ => none }
def simSettledRow : OpenClaim := { program := "ytleofbpepfmfgaagreatdoor", sum := "85ed30c67b1393a18fdf1f61bff6da7afcb3b7a666a5f68b1b74699770e17bf0", func := "bireme/biremelaw27.SimSettled", spec := "simSettled", unfollowed := true, recurses := true, named := ["bireme/code.forms"], apart := false, laid := [("bireme/code.forms", laid_bireme_code_forms)] }
def SimSettledSaid : Prop := simSettledRow.holds Tryz.pinned (OpenSpec.ofChange simSettledSpec)

/-- ITS FALSE NEIGHBOUR: 'it returns false'. Refute it at one input. -/
def simSettledWrong : ChangeSpec := { name := "simSettled", fn := fun _ => fun
  | [d1, d2, d3, d4, d5] => { results := [.lit (.bool false)], args := [d1, d2, d3, d4, d5] }
  | _ => none }
def SimSettledWrongFalsely : Prop := simSettledRow.holds Tryz.pinned (OpenSpec.ofChange simSettledWrong)

/-- 'biremelaw27.SimParts': WHATEVER THE INPUT: true; the input reads as it did. -/
def simPartsSpec : ChangeSpec := { name := "simParts", fn := fun _ => fun
  | [d1, d2, d3, d4, d5] => { results := [.lit (.bool true)], args := [d1, d2, d3, d4, d5] }
  | _ => none }
def simPartsRow : OpenClaim := { program := "ytleofbpepfmfgaagreatdoor", sum := "85ed30c67b1393a18fdf1f61bff6da7afcb3b7a666a5f68b1b74699770e17bf0", func := "bireme/biremelaw27.SimParts", spec := "simParts", unfollowed := true, recurses := true, named := ["bireme/code.forms"], apart := false, laid := [("bireme/code.forms", laid_bireme_code_forms)] }
def SimPartsSaid : Prop := simPartsRow.holds Tryz.pinned (OpenSpec.ofChange simPartsSpec)

/-- ITS FALSE NEIGHBOUR: 'it returns false'. Refute it at one input. -/
def simPartsWrong : ChangeSpec := { name := "simParts", fn := fun _ => fun
  | [d1, d2, d3, d4, d5] => { results := [.lit (.bool false)], args := [d1, d2, d3, d4, d5] }
  | _ => none }
def SimPartsWrongFalsely : Prop := simPartsRow.holds Tryz.pinned (OpenSpec.ofChange simPartsWrong)

/-- 'biremelaw27.SimPlays': WHATEVER THE INPUT: true; the input reads as it did. -/
def simPlaysSpec : ChangeSpec := { name := "simPlays", fn := fun _ => fun
  | [d1, d2, d3, d4, d5, d6] => { results := [.lit (.bool true)], args := [d1, d2, d3, d4, d5, d6] }
  | _ => none }
def simPlaysRow : OpenClaim := { program := "ytleofbpepfmfgaagreatdoor", sum := "85ed30c67b1393a18fdf1f61bff6da7afcb3b7a666a5f68b1b74699770e17bf0", func := "bireme/biremelaw27.SimPlays", spec := "simPlays", unfollowed := true, recurses := true, named := ["bireme/code.forms"], apart := false, laid := [("bireme/code.forms", laid_bireme_code_forms)] }
def SimPlaysSaid : Prop := simPlaysRow.holds Tryz.pinned (OpenSpec.ofChange simPlaysSpec)

/-- ITS FALSE NEIGHBOUR: 'it returns false'. Refute it at one input. -/
def simPlaysWrong : ChangeSpec := { name := "simPlays", fn := fun _ => fun
  | [d1, d2, d3, d4, d5, d6] => { results := [.lit (.bool false)], args := [d1, d2, d3, d4, d5, d6] }
  | _ => none }
def SimPlaysWrongFalsely : Prop := simPlaysRow.holds Tryz.pinned (OpenSpec.ofChange simPlaysWrong)

/-- 'biremelaw27.SimNobody': WHATEVER THE INPUT: true; the input reads as it did. -/
def simNobodySpec : ChangeSpec := { name := "simNobody", fn := fun _ => fun
  | [d] => { results := [.lit (.bool true)], args := [d] }
  | _ => none }
def simNobodyRow : OpenClaim := { program := "ytleofbpepfmfgaagreatdoor", sum := "85ed30c67b1393a18fdf1f61bff6da7afcb3b7a666a5f68b1b74699770e17bf0", func := "bireme/biremelaw27.SimNobody", spec := "simNobody", unfollowed := true, recurses := true, named := ["bireme/code.forms"], apart := false, laid := [("bireme/code.forms", laid_bireme_code_forms)] }
def SimNobodySaid : Prop := simNobodyRow.holds Tryz.pinned (OpenSpec.ofChange simNobodySpec)

/-- ITS FALSE NEIGHBOUR: 'it returns false'. Refute it at one input. -/
def simNobodyWrong : ChangeSpec := { name := "simNobody", fn := fun _ => fun
  | [d] => { results := [.lit (.bool false)], args := [d] }
  | _ => none }
def SimNobodyWrongFalsely : Prop := simNobodyRow.holds Tryz.pinned (OpenSpec.ofChange simNobodyWrong)

/-- 'biremelaw27.SimReached': WHATEVER THE INPUT: true; the input reads as it did. -/
def simReachedSpec : ChangeSpec := { name := "simReached", fn := fun _ => fun
  | [d1, d2, d3] => { results := [.lit (.bool true)], args := [d1, d2, d3] }
  | _ => none }
def simReachedRow : OpenClaim := { program := "ytleofbpepfmfgaagreatdoor", sum := "85ed30c67b1393a18fdf1f61bff6da7afcb3b7a666a5f68b1b74699770e17bf0", func := "bireme/biremelaw27.SimReached", spec := "simReached", unfollowed := true, recurses := true, named := ["bireme/code.forms"], apart := false, laid := [("bireme/code.forms", laid_bireme_code_forms)] }
def SimReachedSaid : Prop := simReachedRow.holds Tryz.pinned (OpenSpec.ofChange simReachedSpec)

/-- ITS FALSE NEIGHBOUR: 'it returns false'. Refute it at one input. -/
def simReachedWrong : ChangeSpec := { name := "simReached", fn := fun _ => fun
  | [d1, d2, d3] => { results := [.lit (.bool false)], args := [d1, d2, d3] }
  | _ => none }
def SimReachedWrongFalsely : Prop := simReachedRow.holds Tryz.pinned (OpenSpec.ofChange simReachedWrong)

/- THE SECOND FORM. 'bulk': how many values and letters a reading holds, each counted each time it is reached (what is shared counts as often as it is met; a slice's spare places count too). A statement '..UptoSaid' is the law's where the arguments, and the package variables that the reading takes, are together of bulk at most 1048576: NARROWER than '..Said'. Prove '..Said' where nothing that the law and all that it calls make is longer than what came in: it says more and counts as full. Else prove '..UptoSaid'. A law counts once. -/
mutual
def uptoBulk {H : Type} : DataW H → Nat
  | .lit (.string bytes) => bytes.length + 1
  | .lit _ => 1
  | .nil => 1
  | .ptr d => uptoBulk d + 1
  | .slice elems spare => uptoBulkAll elems + uptoBulkAll spare + 1
  | .agg parts => uptoBulkAll parts + 1
  | .iface _ d => uptoBulk d + 1
  | .map entries => uptoBulkEntries entries + 1
  | .held _ => 1
def uptoBulkAll {H : Type} : List (DataW H) → Nat
  | [] => 0
  | d :: r => uptoBulk d + uptoBulkAll r
def uptoBulkEntries {H : Type} : List (Lit × DataW H) → Nat
  | [] => 0
  | x :: r => uptoBulkEntry x + uptoBulkEntries r
def uptoBulkEntry {H : Type} : Lit × DataW H → Nat
  | (.string bytes, d) => bytes.length + uptoBulk d + 1
  | (_, d) => uptoBulk d + 1
 end
def uptoSmall : (H : Type) → List (DataW H) → Bool := fun _ ds => decide (uptoBulkAll ds ≤ 1048576)
def OpenSpec.upto (s : _root_.Go.ChangeSpec) : _root_.Go.OpenSpec := { _root_.Go.OpenSpec.ofChange s with cond := some uptoSmall }

/-- 'biremelaw27.SimRuns', WHERE WHAT IT READS IS OF BULK AT MOST 1048576: true; the input reads as it did. -/
def simRunsUptoRow : OpenClaim := { program := "ytleofbpepfmfgaagreatdoor", sum := "85ed30c67b1393a18fdf1f61bff6da7afcb3b7a666a5f68b1b74699770e17bf0", func := "bireme/biremelaw27.SimRuns", spec := "simRuns", unfollowed := true, recurses := true, named := ["bireme/code.forms"], apart := false, laid := [("bireme/code.forms", laid_bireme_code_forms)], narrowed := true }
def SimRunsUptoSaid : Prop := simRunsUptoRow.holds Tryz.pinned (OpenSpec.upto simRunsSpec)

/-- 'biremelaw27.SimStricts', WHERE WHAT IT READS IS OF BULK AT MOST 1048576: true; the input reads as it did. -/
def simStrictsUptoRow : OpenClaim := { program := "ytleofbpepfmfgaagreatdoor", sum := "85ed30c67b1393a18fdf1f61bff6da7afcb3b7a666a5f68b1b74699770e17bf0", func := "bireme/biremelaw27.SimStricts", spec := "simStricts", unfollowed := true, recurses := true, named := ["bireme/code.forms"], apart := false, laid := [("bireme/code.forms", laid_bireme_code_forms)], narrowed := true }
def SimStrictsUptoSaid : Prop := simStrictsUptoRow.holds Tryz.pinned (OpenSpec.upto simStrictsSpec)

/-- 'biremelaw27.SimWhatever', WHERE WHAT IT READS IS OF BULK AT MOST 1048576: true; the input reads as it did. -/
def simWhateverUptoRow : OpenClaim := { program := "ytleofbpepfmfgaagreatdoor", sum := "85ed30c67b1393a18fdf1f61bff6da7afcb3b7a666a5f68b1b74699770e17bf0", func := "bireme/biremelaw27.SimWhatever", spec := "simWhatever", unfollowed := true, recurses := true, named := ["bireme/code.forms"], apart := false, laid := [("bireme/code.forms", laid_bireme_code_forms)], narrowed := true }
def SimWhateverUptoSaid : Prop := simWhateverUptoRow.holds Tryz.pinned (OpenSpec.upto simWhateverSpec)

/-- 'biremelaw27.SimSlow', WHERE WHAT IT READS IS OF BULK AT MOST 1048576: true; the input reads as it did. -/
def simSlowUptoRow : OpenClaim := { program := "ytleofbpepfmfgaagreatdoor", sum := "85ed30c67b1393a18fdf1f61bff6da7afcb3b7a666a5f68b1b74699770e17bf0", func := "bireme/biremelaw27.SimSlow", spec := "simSlow", unfollowed := true, recurses := true, named := ["bireme/code.forms"], apart := false, laid := [("bireme/code.forms", laid_bireme_code_forms)], narrowed := true }
def SimSlowUptoSaid : Prop := simSlowUptoRow.holds Tryz.pinned (OpenSpec.upto simSlowSpec)

/-- 'biremelaw27.SimOne', WHERE WHAT IT READS IS OF BULK AT MOST 1048576: true; the input reads as it did. -/
def simOneUptoRow : OpenClaim := { program := "ytleofbpepfmfgaagreatdoor", sum := "85ed30c67b1393a18fdf1f61bff6da7afcb3b7a666a5f68b1b74699770e17bf0", func := "bireme/biremelaw27.SimOne", spec := "simOne", unfollowed := true, recurses := true, named := ["bireme/code.forms"], apart := false, laid := [("bireme/code.forms", laid_bireme_code_forms)], narrowed := true }
def SimOneUptoSaid : Prop := simOneUptoRow.holds Tryz.pinned (OpenSpec.upto simOneSpec)

/-- 'biremelaw27.SimSettled', WHERE WHAT IT READS IS OF BULK AT MOST 1048576: true; the input reads as it did. -/
def simSettledUptoRow : OpenClaim := { program := "ytleofbpepfmfgaagreatdoor", sum := "85ed30c67b1393a18fdf1f61bff6da7afcb3b7a666a5f68b1b74699770e17bf0", func := "bireme/biremelaw27.SimSettled", spec := "simSettled", unfollowed := true, recurses := true, named := ["bireme/code.forms"], apart := false, laid := [("bireme/code.forms", laid_bireme_code_forms)], narrowed := true }
def SimSettledUptoSaid : Prop := simSettledUptoRow.holds Tryz.pinned (OpenSpec.upto simSettledSpec)

/-- 'biremelaw27.SimParts', WHERE WHAT IT READS IS OF BULK AT MOST 1048576: true; the input reads as it did. -/
def simPartsUptoRow : OpenClaim := { program := "ytleofbpepfmfgaagreatdoor", sum := "85ed30c67b1393a18fdf1f61bff6da7afcb3b7a666a5f68b1b74699770e17bf0", func := "bireme/biremelaw27.SimParts", spec := "simParts", unfollowed := true, recurses := true, named := ["bireme/code.forms"], apart := false, laid := [("bireme/code.forms", laid_bireme_code_forms)], narrowed := true }
def SimPartsUptoSaid : Prop := simPartsUptoRow.holds Tryz.pinned (OpenSpec.upto simPartsSpec)

/-- 'biremelaw27.SimPlays', WHERE WHAT IT READS IS OF BULK AT MOST 1048576: true; the input reads as it did. -/
def simPlaysUptoRow : OpenClaim := { program := "ytleofbpepfmfgaagreatdoor", sum := "85ed30c67b1393a18fdf1f61bff6da7afcb3b7a666a5f68b1b74699770e17bf0", func := "bireme/biremelaw27.SimPlays", spec := "simPlays", unfollowed := true, recurses := true, named := ["bireme/code.forms"], apart := false, laid := [("bireme/code.forms", laid_bireme_code_forms)], narrowed := true }
def SimPlaysUptoSaid : Prop := simPlaysUptoRow.holds Tryz.pinned (OpenSpec.upto simPlaysSpec)

/-- 'biremelaw27.SimNobody', WHERE WHAT IT READS IS OF BULK AT MOST 1048576: true; the input reads as it did. -/
def simNobodyUptoRow : OpenClaim := { program := "ytleofbpepfmfgaagreatdoor", sum := "85ed30c67b1393a18fdf1f61bff6da7afcb3b7a666a5f68b1b74699770e17bf0", func := "bireme/biremelaw27.SimNobody", spec := "simNobody", unfollowed := true, recurses := true, named := ["bireme/code.forms"], apart := false, laid := [("bireme/code.forms", laid_bireme_code_forms)], narrowed := true }
def SimNobodyUptoSaid : Prop := simNobodyUptoRow.holds Tryz.pinned (OpenSpec.upto simNobodySpec)

/-- 'biremelaw27.SimReached', WHERE WHAT IT READS IS OF BULK AT MOST 1048576: true; the input reads as it did. -/
def simReachedUptoRow : OpenClaim := { program := "ytleofbpepfmfgaagreatdoor", sum := "85ed30c67b1393a18fdf1f61bff6da7afcb3b7a666a5f68b1b74699770e17bf0", func := "bireme/biremelaw27.SimReached", spec := "simReached", unfollowed := true, recurses := true, named := ["bireme/code.forms"], apart := false, laid := [("bireme/code.forms", laid_bireme_code_forms)], narrowed := true }
def SimReachedUptoSaid : Prop := simReachedUptoRow.holds Tryz.pinned (OpenSpec.upto simReachedSpec)

end Rows
end Go.Proofs.YtleofbpepfmfgaaGreatDoor
