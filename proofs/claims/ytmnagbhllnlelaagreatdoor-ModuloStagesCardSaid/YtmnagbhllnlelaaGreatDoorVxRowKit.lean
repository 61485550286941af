/- What the rows of a seat share: the laid variable, its cells. -/
import Derived.Test.YtmnagbhllnlelaaGreatDoorRows
import Derived.Test.YtmnagbhllnlelaaGreatDoorVxEvRun
import Derived.Test.YtmnagbhllnlelaaGreatDoorVxLaid
import Derived.WalkKit
import Derived.ProofKit
import Derived.LaidMore
import Derived.OpenShut
import Derived.Stop.Joined
import Derived.Below
import Derived.ChangeOld
import Derived.SizedLaws
import Derived.Carry
import Derived.JoinedOf
set_option maxRecDepth 100000
namespace Go.Proofs.YtmnagbhllnlelaaGreatDoor
open Go.ChangeShapes Go.WideShapes Go.ChangeAt Go.RowKit
open Go Go.Vx

theorem own : ownKnob Tryz.prog.godebug = none := by kernel_rfl
theorem gForms : Tryz.prog.globalNamed "bireme/code.forms" = some 0 := by kernel_rfl
def laid1 : List (String × DataW Unit) := [("bireme/code.forms", Rows.laid_bireme_code_forms)]
theorem door_met (os : Os) (args : Array Value) : laidMetH Tryz.prog laid1 ((World.doorLaid Tryz.prog 400 os).forCall (fun _ _ => 0) ⟨#[], args, []⟩).memory :=
  laidMetH_of_parts3 (fuel := 8) (laidMet_of_run' 8 (by kernel_rfl) (by kernel_rfl)) (by kernel_rfl) (by kernel_rfl)
theorem plainForms : ((Tryz.prog.globals[0]?).map (·.type)).map (okPlain Tryz.prog 4) = some true := by kernel_rfl
theorem cellsForms : cellsD (H := Unit) Rows.laid_bireme_code_forms = cells0 := by kernel_rfl
theorem of_laid {W : World} (h : laidMetH Tryz.prog laid1 W) : ∃ T fr, W.heap[0]? = some (.cells ⟨cells0⟩ T fr) := by
  rw [MakeChecks.laidMetH_plain _ _ _ (by kernel_rfl)] at h
  obtain ⟨ps, ⟨g0, t0, cs0, f0, p0, q0, hg0, ht0, hv0, hd0, _, _⟩, _, _⟩ := h
  obtain rfl := Option.some.inj (gForms.symm.trans hg0)
  have hp := plainForms
  rw [ht0] at hp
  have hc := trod_cells 4 t0 f0 cs0.toList _ p0 (Option.some.inj hp) hd0
  rw [cellsForms] at hc
  unfold World.var? at hv0
  rw [hg0] at hv0
  simp only [Option.bind_some] at hv0
  split at hv0 <;> try (cases hv0; done)
  rename_i cs T fr hh
  cases hv0
  exact ⟨T, fr, by rw [hh]; congr 2; exact Array.ext' hc⟩
theorem step_below {m : Mem} {W W' : World} (hs : Sub m W) (h : Step m W m W') : Below W.heap.size W W' :=
  ⟨h.os, h.tape, h.out, h.size, fun k hk => by
    cases hm : m k with
    | none => exact (h.keep k hk hm).2
    | some o => rw [h.sub k o hm, hs k o hm]⟩
theorem step_below' {W W' : World} (h : Step (fun b => W.heap[b]?) W (fun b => W.heap[b]?) W') : Below W.heap.size W W' := step_below (fun _ _ h => h) h
theorem laidOut : laidOutB Tryz.prog = true := by kernel_rfl
theorem jk_maps : mapsRowed Tryz.prog = true := by kernel_rfl
theorem jk_heard : Tryz.prog.stopsHeard = true := by kernel_rfl
theorem jk_enter : Tryz.prog.mayEnter = true := by kernel_rfl
theorem jk_lifts : Tryz.prog.liftsFinal = false := by kernel_rfl
theorem jk_plain : Tryz.prog.plainKeys = false := by kernel_rfl
end Go.Proofs.YtmnagbhllnlelaaGreatDoor
