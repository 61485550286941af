/-
  NARROWER THAN 'FOR EVERY INPUT', by the rows' own cells (each row's printed sentence says how): ModuloStages: laid · ModuloRings: laid · OrderHolds: laid · OrderHeights: laid · OrderFalls: laid · ListPlans: laid · ExactSearches: laid · LeastSolves: laid · LeastSolved: laid.
  DERIVED. THE GIVEN ROWS OF THIS SEAT. 9 by the template 'for every input the law returns true; each argument reads behind the call as it read before'; 0 by the template 'total and deterministic' (their statements: YtmnagbhllnlelaaGreatDoorTotals.lean).
  GIVEN WITH THE SEED: the statements are not yours to turn. If you find one false, say at which input.
  Laid BY PROGRAM, IN A SANDBOX (cutbox-rows.mjs): the forced cells as the released guide's own fill.sh prints them over the translation 40f9a655d72a233e… (all of the seat's roots in one cut). By AI agents, Wed Nov 11 2026. No macro, syntax, notation, axiom, sorry.
-/
import Derived.Test.YtmnagbhllnlelaaGreatDoorChecked
import GoSem.Claim
import GoSem.ClaimJoined
import GoSem.ClaimMapViews
import Derived.JoinedTies
import Derived.KernelRfl
namespace Go.Proofs.YtmnagbhllnlelaaGreatDoor
/- THE CELL 'sum', in the pinned program and in every row, IS THE sha256 OF THE DUMP (.gsa) THAT YtmnagbhllnlelaaGreatDoorProg.lean LOADS. Nothing in Lean hashes anything: it is a label: what it is worth is what the hold of that sum in a sandbox is worth. -/
noncomputable def Tryz.pinned : Pinned := { name := "ytmnagbhllnlelaagreatdoor", sum := "40f9a655d72a233e8ba4e582a11a4a73958e709913ffb189b8c0b7b5666b5141", checked := Tryz.checked }
namespace Rows
def none {H : Type} : Left H := { results := [], args := [] }

/- WHAT THE LISTED PACKAGE-LEVEL VARIABLES READ AS WHEN THE CALL BEGINS. Each datum BY PROGRAM (the guide's laid-datum.mjs) off the statement by which the dump's own 'gosem.cut.vars' lays the variable. In a bare row this is a premise. The card (YtmnagbhllnlelaaGreatDoorCards.lean) ties it to the program's text. -/
def laid_bireme_code_forms {H : Type} : DataW H := .agg [.agg [.lit (.int .i64 17), .lit (.int .i64 0), .lit (.string [99, 111, 110, 115, 116])], .agg [.lit (.int .i64 3), .lit (.int .i64 0), .lit (.string [109, 111, 118, 101])], .agg [.lit (.int .i64 7), .lit (.int .i64 0), .lit (.string [97, 100, 100])], .agg [.lit (.int .i64 7), .lit (.int .i64 0), .lit (.string [115, 117, 98])], .agg [.lit (.int .i64 7), .lit (.int .i64 0), .lit (.string [97, 110, 100])], .agg [.lit (.int .i64 7), .lit (.int .i64 0), .lit (.string [111, 114])], .agg [.lit (.int .i64 7), .lit (.int .i64 0), .lit (.string [120, 111, 114])], .agg [.lit (.int .i64 7), .lit (.int .i64 0), .lit (.string [115, 104, 108])], .agg [.lit (.int .i64 7), .lit (.int .i64 0), .lit (.string [115, 104, 114])], .agg [.lit (.int .i64 7), .lit (.int .i64 0), .lit (.string [108, 101, 115, 115])], .agg [.lit (.int .i64 7), .lit (.int .i64 0), .lit (.string [101, 113, 117, 97, 108])], .agg [.lit (.int .i64 15), .lit (.int .i64 0), .lit (.string [112, 105, 99, 107])], .agg [.lit (.int .i64 7), .lit (.int .i64 1), .lit (.string [109, 117, 108])], .agg [.lit (.int .i64 7), .lit (.int .i64 1), .lit (.string [100, 105, 118])], .agg [.lit (.int .i64 7), .lit (.int .i64 1), .lit (.string [114, 101, 109])], .agg [.lit (.int .i64 35), .lit (.int .i64 2), .lit (.string [108, 111, 97, 100])], .agg [.lit (.int .i64 38), .lit (.int .i64 2), .lit (.string [115, 116, 111, 114, 101])], .agg [.lit (.int .i64 65), .lit (.int .i64 2), .lit (.string [102, 101, 116, 99, 104])], .agg [.lit (.int .i64 66), .lit (.int .i64 2), .lit (.string [107, 101, 101, 112])], .agg [.lit (.int .i64 2), .lit (.int .i64 3), .lit (.string [112, 114, 105, 110, 116])], .agg [.lit (.int .i64 130), .lit (.int .i64 3), .lit (.string [101, 120, 105, 116])], .agg [.lit (.int .i64 2), .lit (.int .i64 3), .lit (.string [99, 104, 101, 99, 107])], .agg [.lit (.int .i64 7), .lit (.int .i64 1), .lit (.string [100, 105, 118, 115])], .agg [.lit (.int .i64 7), .lit (.int .i64 1), .lit (.string [114, 101, 109, 115])], .agg [.lit (.int .i64 35), .lit (.int .i64 2), .lit (.string [108, 111, 97, 100, 115])]]

/-- 'biremelaw23.ModuloStages': WHATEVER THE INPUT: true; the input reads as it did. -/
def moduloStagesSpec : ChangeSpec := { name := "moduloStages", fn := fun _ => fun
  | [d1, d2] => { results := [.lit (.bool true)], args := [d1, d2] }
  | _ => none }
def moduloStagesRow : OpenClaim := { program := "ytmnagbhllnlelaagreatdoor", sum := "40f9a655d72a233e8ba4e582a11a4a73958e709913ffb189b8c0b7b5666b5141", func := "bireme/biremelaw23.ModuloStages", spec := "moduloStages", unfollowed := true, recurses := true, named := ["bireme/code.forms"], plainKeys := false, apart := false, laid := [("bireme/code.forms", laid_bireme_code_forms)] }
def ModuloStagesSaid : Prop := moduloStagesRow.holds Tryz.pinned (OpenSpec.ofChange moduloStagesSpec)

/-- ITS FALSE NEIGHBOUR: 'it returns false'. Refute it at one input. -/
def moduloStagesWrong : ChangeSpec := { name := "moduloStages", fn := fun _ => fun
  | [d1, d2] => { results := [.lit (.bool false)], args := [d1, d2] }
  | _ => none }
def ModuloStagesWrongFalsely : Prop := moduloStagesRow.holds Tryz.pinned (OpenSpec.ofChange moduloStagesWrong)

/-- 'biremelaw23.ModuloRings': WHATEVER THE INPUT: true; the input reads as it did. -/
def moduloRingsSpec : ChangeSpec := { name := "moduloRings", fn := fun _ => fun
  | [d1, d2] => { results := [.lit (.bool true)], args := [d1, d2] }
  | _ => none }
def moduloRingsRow : OpenClaim := { program := "ytmnagbhllnlelaagreatdoor", sum := "40f9a655d72a233e8ba4e582a11a4a73958e709913ffb189b8c0b7b5666b5141", func := "bireme/biremelaw23.ModuloRings", spec := "moduloRings", unfollowed := true, recurses := true, named := ["bireme/code.forms"], plainKeys := false, apart := false, laid := [("bireme/code.forms", laid_bireme_code_forms)] }
def ModuloRingsSaid : Prop := moduloRingsRow.holds Tryz.pinned (OpenSpec.ofChange moduloRingsSpec)

/-- ITS FALSE NEIGHBOUR: 'it returns false'. Refute it at one input. -/
def moduloRingsWrong : ChangeSpec := { name := "moduloRings", fn := fun _ => fun
  | [d1, d2] => { results := [.lit (.bool false)], args := [d1, d2] }
  | _ => none }
def ModuloRingsWrongFalsely : Prop := moduloRingsRow.holds Tryz.pinned (OpenSpec.ofChange moduloRingsWrong)

/-- 'biremelaw20.OrderHolds': WHATEVER THE INPUT: true; the input reads as it did. -/
def orderHoldsSpec : ChangeSpec := { name := "orderHolds", fn := fun _ => fun
  | [d1, d2, d3] => { results := [.lit (.bool true)], args := [d1, d2, d3] }
  | _ => none }
def orderHoldsRow : OpenClaim := { program := "ytmnagbhllnlelaagreatdoor", sum := "40f9a655d72a233e8ba4e582a11a4a73958e709913ffb189b8c0b7b5666b5141", func := "bireme/biremelaw20.OrderHolds", spec := "orderHolds", unfollowed := true, recurses := true, named := ["bireme/code.forms"], plainKeys := false, apart := false, laid := [("bireme/code.forms", laid_bireme_code_forms)] }
def OrderHoldsSaid : Prop := orderHoldsRow.holds Tryz.pinned (OpenSpec.ofChange orderHoldsSpec)

/-- ITS FALSE NEIGHBOUR: 'it returns false'. Refute it at one input. -/
def orderHoldsWrong : ChangeSpec := { name := "orderHolds", fn := fun _ => fun
  | [d1, d2, d3] => { results := [.lit (.bool false)], args := [d1, d2, d3] }
  | _ => none }
def OrderHoldsWrongFalsely : Prop := orderHoldsRow.holds Tryz.pinned (OpenSpec.ofChange orderHoldsWrong)

/-- 'biremelaw20.OrderHeights': WHATEVER THE INPUT: true; the input reads as it did. -/
def orderHeightsSpec : ChangeSpec := { name := "orderHeights", fn := fun _ => fun
  | [d1, d2] => { results := [.lit (.bool true)], args := [d1, d2] }
  | _ => none }
def orderHeightsRow : OpenClaim := { program := "ytmnagbhllnlelaagreatdoor", sum := "40f9a655d72a233e8ba4e582a11a4a73958e709913ffb189b8c0b7b5666b5141", func := "bireme/biremelaw20.OrderHeights", spec := "orderHeights", unfollowed := true, recurses := true, named := ["bireme/code.forms"], plainKeys := false, apart := false, laid := [("bireme/code.forms", laid_bireme_code_forms)] }
def OrderHeightsSaid : Prop := orderHeightsRow.holds Tryz.pinned (OpenSpec.ofChange orderHeightsSpec)

/-- ITS FALSE NEIGHBOUR: 'it returns false'. Refute it at one input. -/
def orderHeightsWrong : ChangeSpec := { name := "orderHeights", fn := fun _ => fun
  | [d1, d2] => { results := [.lit (.bool false)], args := [d1, d2] }
  | _ => none }
def OrderHeightsWrongFalsely : Prop := orderHeightsRow.holds Tryz.pinned (OpenSpec.ofChange orderHeightsWrong)

/-- 'biremelaw20.OrderFalls': WHATEVER THE INPUT: true; the input reads as it did. -/
def orderFallsSpec : ChangeSpec := { name := "orderFalls", fn := fun _ => fun
  | [d1, d2] => { results := [.lit (.bool true)], args := [d1, d2] }
  | _ => none }
def orderFallsRow : OpenClaim := { program := "ytmnagbhllnlelaagreatdoor", sum := "40f9a655d72a233e8ba4e582a11a4a73958e709913ffb189b8c0b7b5666b5141", func := "bireme/biremelaw20.OrderFalls", spec := "orderFalls", unfollowed := true, recurses := true, named := ["bireme/code.forms"], plainKeys := false, apart := false, laid := [("bireme/code.forms", laid_bireme_code_forms)] }
def OrderFallsSaid : Prop := orderFallsRow.holds Tryz.pinned (OpenSpec.ofChange orderFallsSpec)

/-- ITS FALSE NEIGHBOUR: 'it returns false'. Refute it at one input. -/
def orderFallsWrong : ChangeSpec := { name := "orderFalls", fn := fun _ => fun
  | [d1, d2] => { results := [.lit (.bool false)], args := [d1, d2] }
  | _ => none }
def OrderFallsWrongFalsely : Prop := orderFallsRow.holds Tryz.pinned (OpenSpec.ofChange orderFallsWrong)

/-- 'biremelaw21.ListPlans': WHATEVER THE INPUT: true; the input reads as it did. -/
def listPlansSpec : ChangeSpec := { name := "listPlans", fn := fun _ => fun
  | [d1, d2, d3, d4] => { results := [.lit (.bool true)], args := [d1, d2, d3, d4] }
  | _ => none }
def listPlansRow : OpenClaim := { program := "ytmnagbhllnlelaagreatdoor", sum := "40f9a655d72a233e8ba4e582a11a4a73958e709913ffb189b8c0b7b5666b5141", func := "bireme/biremelaw21.ListPlans", spec := "listPlans", unfollowed := true, recurses := true, named := ["bireme/code.forms"], plainKeys := false, apart := false, laid := [("bireme/code.forms", laid_bireme_code_forms)] }
def ListPlansSaid : Prop := listPlansRow.holds Tryz.pinned (OpenSpec.ofChange listPlansSpec)

/-- ITS FALSE NEIGHBOUR: 'it returns false'. Refute it at one input. -/
def listPlansWrong : ChangeSpec := { name := "listPlans", fn := fun _ => fun
  | [d1, d2, d3, d4] => { results := [.lit (.bool false)], args := [d1, d2, d3, d4] }
  | _ => none }
def ListPlansWrongFalsely : Prop := listPlansRow.holds Tryz.pinned (OpenSpec.ofChange listPlansWrong)

/-- 'biremelaw22.ExactSearches': WHATEVER THE INPUT: true; the input reads as it did. -/
def exactSearchesSpec : ChangeSpec := { name := "exactSearches", fn := fun _ => fun
  | [d1, d2, d3, d4, d5] => { results := [.lit (.bool true)], args := [d1, d2, d3, d4, d5] }
  | _ => none }
def exactSearchesRow : OpenClaim := { program := "ytmnagbhllnlelaagreatdoor", sum := "40f9a655d72a233e8ba4e582a11a4a73958e709913ffb189b8c0b7b5666b5141", func := "bireme/biremelaw22.ExactSearches", spec := "exactSearches", unfollowed := true, recurses := true, named := ["bireme/code.forms"], plainKeys := false, apart := false, laid := [("bireme/code.forms", laid_bireme_code_forms)] }
def ExactSearchesSaid : Prop := exactSearchesRow.holds Tryz.pinned (OpenSpec.ofChange exactSearchesSpec)

/-- ITS FALSE NEIGHBOUR: 'it returns false'. Refute it at one input. -/
def exactSearchesWrong : ChangeSpec := { name := "exactSearches", fn := fun _ => fun
  | [d1, d2, d3, d4, d5] => { results := [.lit (.bool false)], args := [d1, d2, d3, d4, d5] }
  | _ => none }
def ExactSearchesWrongFalsely : Prop := exactSearchesRow.holds Tryz.pinned (OpenSpec.ofChange exactSearchesWrong)

/-- 'biremelaw24.LeastSolves': WHATEVER THE INPUT: true; the input reads as it did. -/
def leastSolvesSpec : ChangeSpec := { name := "leastSolves", fn := fun _ => fun
  | [d1, d2, d3] => { results := [.lit (.bool true)], args := [d1, d2, d3] }
  | _ => none }
def leastSolvesRow : OpenClaim := { program := "ytmnagbhllnlelaagreatdoor", sum := "40f9a655d72a233e8ba4e582a11a4a73958e709913ffb189b8c0b7b5666b5141", func := "bireme/biremelaw24.LeastSolves", spec := "leastSolves", unfollowed := true, recurses := true, named := ["bireme/code.forms"], plainKeys := false, apart := false, laid := [("bireme/code.forms", laid_bireme_code_forms)] }
def LeastSolvesSaid : Prop := leastSolvesRow.holds Tryz.pinned (OpenSpec.ofChange leastSolvesSpec)

/-- ITS FALSE NEIGHBOUR: 'it returns false'. Refute it at one input. -/
def leastSolvesWrong : ChangeSpec := { name := "leastSolves", fn := fun _ => fun
  | [d1, d2, d3] => { results := [.lit (.bool false)], args := [d1, d2, d3] }
  | _ => none }
def LeastSolvesWrongFalsely : Prop := leastSolvesRow.holds Tryz.pinned (OpenSpec.ofChange leastSolvesWrong)

/-- 'biremelaw24.LeastSolved': WHATEVER THE INPUT: true; the input reads as it did. -/
def leastSolvedSpec : ChangeSpec := { name := "leastSolved", fn := fun _ => fun
  | [d1, d2, d3, d4] => { results := [.lit (.bool true)], args := [d1, d2, d3, d4] }
  | _ => none }
def leastSolvedRow : OpenClaim := { program := "ytmnagbhllnlelaagreatdoor", sum := "40f9a655d72a233e8ba4e582a11a4a73958e709913ffb189b8c0b7b5666b5141", func := "bireme/biremelaw24.LeastSolved", spec := "leastSolved", unfollowed := true, recurses := true, named := ["bireme/code.forms"], plainKeys := false, apart := false, laid := [("bireme/code.forms", laid_bireme_code_forms)] }
def LeastSolvedSaid : Prop := leastSolvedRow.holds Tryz.pinned (OpenSpec.ofChange leastSolvedSpec)

/-- ITS FALSE NEIGHBOUR: 'it returns false'. Refute it at one input. -/
def leastSolvedWrong : ChangeSpec := { name := "leastSolved", fn := fun _ => fun
  | [d1, d2, d3, d4] => { results := [.lit (.bool false)], args := [d1, d2, d3, d4] }
  | _ => none }
def LeastSolvedWrongFalsely : Prop := leastSolvedRow.holds Tryz.pinned (OpenSpec.ofChange leastSolvedWrong)

/- THE SECOND FORM. 'bulk': how many values and letters a reading holds, each counted each time it is reached (what is shared counts as often as it is met; a slice's spare places count too). A statement '..UptoSaid' is the law's where the arguments, and the package variables that the reading takes, are together of bulk at most 1048576: NARROWER than '..Said'. Prove '..Said' where nothing that the law and all that it calls make is longer than what came in: it says more and counts as full. Else prove '..UptoSaid'. A law counts once. -/
mutual
def uptoBulk {H : Type} : DataW H → Nat
  | .lit (.string bytes) => bytes.length + 1
  | .lit _ => 1
  | .nil => 1
  | .ptr d => uptoBulk d + 1
  | .slice elems spare => uptoBulkAll elems + uptoBulkAll spare + 1
  | .agg parts => uptoBulkAll parts + 1
  | .iface _ d => uptoBulk d + 1
  | .map entries => uptoBulkEntries entries + 1
  | .held _ => 1
def uptoBulkAll {H : Type} : List (DataW H) → Nat
  | [] => 0
  | d :: r => uptoBulk d + uptoBulkAll r
def uptoBulkEntries {H : Type} : List (Lit × DataW H) → Nat
  | [] => 0
  | x :: r => uptoBulkEntry x + uptoBulkEntries r
def uptoBulkEntry {H : Type} : Lit × DataW H → Nat
  | (.string bytes, d) => bytes.length + uptoBulk d + 1
  | (_, d) => uptoBulk d + 1
 end
def uptoSmall : (H : Type) → List (DataW H) → Bool := fun _ ds => decide (uptoBulkAll ds ≤ 1048576)
def OpenSpec.upto (s : _root_.Go.ChangeSpec) : _root_.Go.OpenSpec := { _root_.Go.OpenSpec.ofChange s with cond := some uptoSmall }

/-- 'biremelaw23.ModuloStages', WHERE WHAT IT READS IS OF BULK AT MOST 1048576: true; the input reads as it did. -/
def moduloStagesUptoRow : OpenClaim := { program := "ytmnagbhllnlelaagreatdoor", sum := "40f9a655d72a233e8ba4e582a11a4a73958e709913ffb189b8c0b7b5666b5141", func := "bireme/biremelaw23.ModuloStages", spec := "moduloStages", unfollowed := true, recurses := true, named := ["bireme/code.forms"], plainKeys := false, apart := false, laid := [("bireme/code.forms", laid_bireme_code_forms)], narrowed := true }
def ModuloStagesUptoSaid : Prop := moduloStagesUptoRow.holds Tryz.pinned (OpenSpec.upto moduloStagesSpec)

/-- 'biremelaw23.ModuloRings', WHERE WHAT IT READS IS OF BULK AT MOST 1048576: true; the input reads as it did. -/
def moduloRingsUptoRow : OpenClaim := { program := "ytmnagbhllnlelaagreatdoor", sum := "40f9a655d72a233e8ba4e582a11a4a73958e709913ffb189b8c0b7b5666b5141", func := "bireme/biremelaw23.ModuloRings", spec := "moduloRings", unfollowed := true, recurses := true, named := ["bireme/code.forms"], plainKeys := false, apart := false, laid := [("bireme/code.forms", laid_bireme_code_forms)], narrowed := true }
def ModuloRingsUptoSaid : Prop := moduloRingsUptoRow.holds Tryz.pinned (OpenSpec.upto moduloRingsSpec)

/-- 'biremelaw20.OrderHolds', WHERE WHAT IT READS IS OF BULK AT MOST 1048576: true; the input reads as it did. -/
def orderHoldsUptoRow : OpenClaim := { program := "ytmnagbhllnlelaagreatdoor", sum := "40f9a655d72a233e8ba4e582a11a4a73958e709913ffb189b8c0b7b5666b5141", func := "bireme/biremelaw20.OrderHolds", spec := "orderHolds", unfollowed := true, recurses := true, named := ["bireme/code.forms"], plainKeys := false, apart := false, laid := [("bireme/code.forms", laid_bireme_code_forms)], narrowed := true }
def OrderHoldsUptoSaid : Prop := orderHoldsUptoRow.holds Tryz.pinned (OpenSpec.upto orderHoldsSpec)

/-- 'biremelaw20.OrderHeights', WHERE WHAT IT READS IS OF BULK AT MOST 1048576: true; the input reads as it did. -/
def orderHeightsUptoRow : OpenClaim := { program := "ytmnagbhllnlelaagreatdoor", sum := "40f9a655d72a233e8ba4e582a11a4a73958e709913ffb189b8c0b7b5666b5141", func := "bireme/biremelaw20.OrderHeights", spec := "orderHeights", unfollowed := true, recurses := true, named := ["bireme/code.forms"], plainKeys := false, apart := false, laid := [("bireme/code.forms", laid_bireme_code_forms)], narrowed := true }
def OrderHeightsUptoSaid : Prop := orderHeightsUptoRow.holds Tryz.pinned (OpenSpec.upto orderHeightsSpec)

/-- 'biremelaw20.OrderFalls', WHERE WHAT IT READS IS OF BULK AT MOST 1048576: true; the input reads as it did. -/
def orderFallsUptoRow : OpenClaim := { program := "ytmnagbhllnlelaagreatdoor", sum := "40f9a655d72a233e8ba4e582a11a4a73958e709913ffb189b8c0b7b5666b5141", func := "bireme/biremelaw20.OrderFalls", spec := "orderFalls", unfollowed := true, recurses := true, named := ["bireme/code.forms"], plainKeys := false, apart := false, laid := [("bireme/code.forms", laid_bireme_code_forms)], narrowed := true }
def OrderFallsUptoSaid : Prop := orderFallsUptoRow.holds Tryz.pinned (OpenSpec.upto orderFallsSpec)

/-- 'biremelaw21.ListPlans', WHERE WHAT IT READS IS OF BULK AT MOST 1048576: true; the input reads as it did. -/
def listPlansUptoRow : OpenClaim := { program := "ytmnagbhllnlelaagreatdoor", sum := "40f9a655d72a233e8ba4e582a11a4a73958e709913ffb189b8c0b7b5666b5141", func := "bireme/biremelaw21.ListPlans", spec := "listPlans", unfollowed := true, recurses := true, named := ["bireme/code.forms"], plainKeys := false, apart := false, laid := [("bireme/code.forms", laid_bireme_code_forms)], narrowed := true }
def ListPlansUptoSaid : Prop := listPlansUptoRow.holds Tryz.pinned (OpenSpec.upto listPlansSpec)

/-- 'biremelaw22.ExactSearches', WHERE WHAT IT READS IS OF BULK AT MOST 1048576: true; the input reads as it did. -/
def exactSearchesUptoRow : OpenClaim := { program := "ytmnagbhllnlelaagreatdoor", sum := "40f9a655d72a233e8ba4e582a11a4a73958e709913ffb189b8c0b7b5666b5141", func := "bireme/biremelaw22.ExactSearches", spec := "exactSearches", unfollowed := true, recurses := true, named := ["bireme/code.forms"], plainKeys := false, apart := false, laid := [("bireme/code.forms", laid_bireme_code_forms)], narrowed := true }
def ExactSearchesUptoSaid : Prop := exactSearchesUptoRow.holds Tryz.pinned (OpenSpec.upto exactSearchesSpec)

/-- 'biremelaw24.LeastSolves', WHERE WHAT IT READS IS OF BULK AT MOST 1048576: true; the input reads as it did. -/
def leastSolvesUptoRow : OpenClaim := { program := "ytmnagbhllnlelaagreatdoor", sum := "40f9a655d72a233e8ba4e582a11a4a73958e709913ffb189b8c0b7b5666b5141", func := "bireme/biremelaw24.LeastSolves", spec := "leastSolves", unfollowed := true, recurses := true, named := ["bireme/code.forms"], plainKeys := false, apart := false, laid := [("bireme/code.forms", laid_bireme_code_forms)], narrowed := true }
def LeastSolvesUptoSaid : Prop := leastSolvesUptoRow.holds Tryz.pinned (OpenSpec.upto leastSolvesSpec)

/-- 'biremelaw24.LeastSolved', WHERE WHAT IT READS IS OF BULK AT MOST 1048576: true; the input reads as it did. -/
def leastSolvedUptoRow : OpenClaim := { program := "ytmnagbhllnlelaagreatdoor", sum := "40f9a655d72a233e8ba4e582a11a4a73958e709913ffb189b8c0b7b5666b5141", func := "bireme/biremelaw24.LeastSolved", spec := "leastSolved", unfollowed := true, recurses := true, named := ["bireme/code.forms"], plainKeys := false, apart := false, laid := [("bireme/code.forms", laid_bireme_code_forms)], narrowed := true }
def LeastSolvedUptoSaid : Prop := leastSolvedUptoRow.holds Tryz.pinned (OpenSpec.upto leastSolvedSpec)

end Rows
end Go.Proofs.YtmnagbhllnlelaaGreatDoor
