/- SimNobody returns true for every input: the row. -/
import Derived.Test.YtleofbpepfmfgaaGreatDoorRows
import Derived.Test.YtleofbpepfmfgaaGreatDoorVxNobody
import Derived.Test.YtleofbpepfmfgaaGreatDoorVxLaid
import Derived.WalkKit
import Derived.ProofKit
import Derived.LaidMore
import Derived.OpenShut
import Derived.Stop.Joined
import Derived.Below
set_option maxRecDepth 100000
namespace Go.Proofs.YtleofbpepfmfgaaGreatDoor
open Go.ChangeShapes Go.WideShapes Go.ChangeAt Go.RowKit
open Go Go.Vx

theorem own : ownKnob Tryz.prog.godebug = none := by kernel_rfl
theorem gForms : Tryz.prog.globalNamed "bireme/code.forms" = some 0 := by kernel_rfl
def laid1 : List (String × DataW Unit) := [("bireme/code.forms", Rows.laid_bireme_code_forms)]
theorem door_met (os : Os) (args : Array Value) : laidMetH Tryz.prog laid1 ((World.doorLaid Tryz.prog 400 os).forCall (fun _ _ => 0) ⟨#[], args, []⟩).memory :=
  laidMetH_of_parts3 (fuel := 8) (laidMet_of_run' 8 (by kernel_rfl) (by kernel_rfl)) (by kernel_rfl) (by kernel_rfl)
theorem plainForms : ((Tryz.prog.globals[0]?).map (·.type)).map (okPlain Tryz.prog 4) = some true := by kernel_rfl
theorem cellsForms : cellsD (H := Unit) Rows.laid_bireme_code_forms = cells0 := by kernel_rfl
theorem of_laid {W : World} (h : laidMetH Tryz.prog laid1 W) : ∃ T fr, W.heap[0]? = some (.cells ⟨cells0⟩ T fr) := by
  rw [MakeChecks.laidMetH_plain _ _ _ (by kernel_rfl)] at h
  obtain ⟨ps, ⟨g0, t0, cs0, f0, p0, q0, hg0, ht0, hv0, hd0, _, _⟩, _, _⟩ := h
  obtain rfl := Option.some.inj (gForms.symm.trans hg0)
  have hp := plainForms
  rw [ht0] at hp
  have hc := trod_cells 4 t0 f0 cs0.toList _ p0 (Option.some.inj hp) hd0
  rw [cellsForms] at hc
  unfold World.var? at hv0
  rw [hg0] at hv0
  simp only [Option.bind_some] at hv0
  split at hv0 <;> try (cases hv0; done)
  rename_i cs T fr hh
  cases hv0
  exact ⟨T, fr, by rw [hh]; congr 2; exact Array.ext' hc⟩
theorem step_below {m : Mem} {W W' : World} (hs : Sub m W) (h : Step m W m W') : Below W.heap.size W W' :=
  ⟨h.os, h.tape, h.out, h.size, fun k hk => by
    cases hm : m k with
    | none => exact (h.keep k hk hm).2
    | some o => rw [h.sub k o hm, hs k o hm]⟩
theorem nobody_any (n : Int) (W : World) {T : Nat} {fr : Nat × Nat} (hW : W.heap[0]? = some (.cells ⟨cells0⟩ T fr)) :
    Calls Tryz.prog 11 #[.int .i64 n] W fun e W' => e = .returned (.bool true) ∧ Below W.heap.size W W' := by
  have hs : Sub (fun b => if b = 0 then some (.cells ⟨cells0⟩ T fr) else none) W := fun b o hb => by
    by_cases e : b = 0
    · subst e; simp only [if_pos rfl] at hb; cases hb; exact hW
    · simp only [if_neg e] at hb; cases hb
  refine ((nobody_calls (m := fun b => if b = 0 then some (.cells ⟨cells0⟩ T fr) else none) (T := T) (fr := fr) rfl n).2 W hs).mono fun e W' hR => ?_
  obtain ⟨m', h1, h2, rfl⟩ := hR
  exact ⟨h2, step_below hs h1⟩
theorem nobody_lifted (os : Os) (started : os.Started) (H : Type) (enc : TypeId × Value → H) :
    ReturnsInHanded {} Tryz.checked os 11 .any (fun w args => (Rows.simNobodySpec.pre enc Tryz.prog Tryz.f11 [] false w args ∧ laidMetH Tryz.prog laid1 w) ∧ sizedMet enc Tryz.prog Tryz.f11 (OpenSpec.ofChange Rows.simNobodySpec) false w args)
      (Rows.simNobodySpec.post enc Tryz.prog Tryz.f11 false true false false) := by
  refine returnsInHanded_of_change_and (C := Tryz.checked) (X := fun w _ => laidMetH Tryz.prog laid1 w) (fun _ _ _ hh h => h.of_heap hh) own started (by kernel_rfl) Tryz.func11
    (ChangeSpec.witness_shaped (enc := enc) (C := Tryz.checked) (os := os) (X := fun w _ => laidMetH Tryz.prog laid1 w) false (World.doorLaid Tryz.prog 400 os) #[.int .i64 0] 8 rfl (World.shaped_of_RefB (by kernel_rfl) (by kernel_rfl)) (by kernel_rfl) (by kernel_rfl) (by kernel_rfl) (door_met os _)) ?_
  intro W base args ds gs before hval0 hW _ _ hL _
  have hval : ∀ (j : Nat) t v, Tryz.f11.params[j]? = some t → args[j]? = some v → Value.okWide Tryz.prog W .any base t v := hval0
  have hW' := hW
  obtain ⟨p, q, hA0, hV, rfl, hfz, hnd⟩ := hW
  have hA : DataW.TrodAll enc Tryz.prog W 0 (fun _ => true) true Tryz.f11.params.toList args.toList ds p := hA0
  rw [Tryz.params11] at hA hval
  obtain ⟨v0, d0, rfl, rfl, h0⟩ := trodAll_one hA
  obtain ⟨rfl, rfl⟩ := trodVars_none hV
  obtain ⟨n, rfl, rfl, rfl, hwn⟩ := open_int Tryz.underlying3 (hval 0 3 v0 rfl rfl) h0
  obtain ⟨T, fr, hT⟩ := of_laid hL
  clear hA0 hval0
  simp only [List.append_nil] at hW'
  refine (nobody_any n W hT).mono fun e W' ⟨he, hb⟩ => ?_
  subst he
  refine ⟨_, rfl, _, _, _, [], [], [], hW', ?_, ?_, ?_, hb.frame _, fun h => by cases h⟩
  · exact trodAll_mk1 (shut_bool Tryz.underlying4 true)
  · exact trodAll_mk1 (shut_int Tryz.underlying3 hwn)
  · rfl
theorem simNobody_holds : Rows.SimNobodySaid :=
  OpenClaim.holds_of_wide 11 Tryz.f11 rfl rfl rfl rfl rfl rfl rfl ⟨rfl, rfl, rfl, rfl, rfl⟩ rfl rfl rfl rfl rfl (by kernel_rfl) Tryz.func11 (by kernel_rfl)
    (of_decide_eq_true (by kernel_rfl)) (by unfold Func.isWrapper; rw [if_neg (of_decide_eq_false (by kernel_rfl))]; exact ⟨rfl, rfl⟩)
    (fun os started H enc _ => nobody_lifted os started H enc)
#print axioms simNobody_holds
end Go.Proofs.YtleofbpepfmfgaaGreatDoor
