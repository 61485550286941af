/- ModuloStages returns true for every input: the row. -/
import Derived.Test.YtmnagbhllnlelaaGreatDoorRows
import Derived.Test.YtmnagbhllnlelaaGreatDoorVxStagesLaw
import Derived.Test.YtmnagbhllnlelaaGreatDoorVxOpenE
import Derived.Test.YtmnagbhllnlelaaGreatDoorVxRowKit
set_option linter.unusedVariables false
set_option maxRecDepth 100000
namespace Go.Proofs.YtmnagbhllnlelaaGreatDoor
open Go.ChangeShapes Go.WideShapes Go.ChangeAt Go.RowKit
open Go Go.Vx
theorem moduloStages_lifted (os : Os) (started : os.Started) (H : Type) (enc : TypeId × Value → H) :
    ReturnsInHanded {} Tryz.checked os 3 .any (fun w args => (Rows.moduloStagesSpec.pre enc Tryz.prog Tryz.f3 [] false w args ∧ laidMetH Tryz.prog laid1 w) ∧ sizedMet enc Tryz.prog Tryz.f3 (OpenSpec.ofChange Rows.moduloStagesSpec) false w args)
      (Rows.moduloStagesSpec.post enc Tryz.prog Tryz.f3 false true false false) := by
  refine returnsInHanded_of_change_and (C := Tryz.checked) (X := fun w _ => laidMetH Tryz.prog laid1 w) (fun _ _ _ hh h => h.of_heap hh) own started (by kernel_rfl) Tryz.func3
    (ChangeSpec.witness_shaped (enc := enc) (C := Tryz.checked) (os := os) (X := fun w _ => laidMetH Tryz.prog laid1 w) false (World.doorLaid Tryz.prog 400 os) #[.slice none 0 0, .int .i64 0] 8 rfl (World.shaped_of_RefB (by kernel_rfl) (by kernel_rfl)) (by kernel_rfl) (by kernel_rfl) (by kernel_rfl) (door_met os _)) ?_
  intro W base args ds gs before hval0 hW _ _ hL _
  have hval : ∀ (j : Nat) t v, Tryz.f3.params[j]? = some t → args[j]? = some v → Value.okWide Tryz.prog W .any base t v := hval0
  have hW' := hW
  obtain ⟨p, q, hA0, hV, rfl, hfz, hnd⟩ := hW
  have hA : DataW.TrodAll enc Tryz.prog W 0 (fun _ => true) true Tryz.f3.params.toList args.toList ds p := hA0
  rw [Tryz.params3] at hA hval
  obtain ⟨v0, vs0, d0, ds0, p0, q0, hargs, rfl, rfl, h0, r0⟩ := trodAll_cons hA
  obtain ⟨v1, vs1, d1, ds1, p1, q1, rfl, rfl, rfl, h1, r1⟩ := trodAll_cons r0
  obtain ⟨rfl, rfl, rfl⟩ := trodAll_nil r1
  obtain rfl : args = #[v0, v1] := by cases args; simp_all
  obtain ⟨rfl, rfl⟩ := trodVars_none hV
  obtain ⟨a0, len0, cap0, e0⟩ := okWide_slice Tryz.underlying22 (hval 0 22 v0 rfl rfl)
  have k0 := h0
  have lt0 : ∀ x ∈ p0, x.block < W.heap.size := by obtain ⟨m, hm⟩ := k0; exact DataW.trod_lt m _ _ _ hm
  obtain ⟨C0, hC0, hCl0⟩ : ∃ C, IAt (memOf W) v0 C ∧ C.length < 2 ^ 63 := by obtain ⟨fuel, hf⟩ := h0; exact iat_of (open_is hf) e0
  obtain ⟨n1, rfl, rfl, rfl, w1⟩ := open_int Tryz.underlying3 (hval 1 3 v1 rfl rfl) h1
  obtain ⟨T, fr, hT⟩ := of_laid hL
  clear hA0 hval0
  have hcall : Calls Tryz.prog 3 #[v0, i n1] W fun e W' => e = .returned (.bool true) ∧ Below W.heap.size W W' := by
    refine ((moduloStages_ok hC0 hCl0 (T := T) (fr := fr) hT).2 W (memOf_sub W)).mono fun e W' hR => ?_
    obtain ⟨m', h1, rfl, h2⟩ := hR
    exact ⟨rfl, step_below' (h1.forget h2)⟩
  refine hcall.mono fun e W' ⟨he, bel⟩ => ?_
  subst he
  exact ⟨_, rfl, _, _, _, [], _, [], hW', trodAll_mk1 (shut_bool Tryz.underlying4 _), (trodAll_cons_mk (Below.trod laidOut (by kernel_rfl) (of_decide_eq_true (by kernel_rfl)) k0 bel lt0) (trodAll_cons_mk (shut_int Tryz.underlying3 w1) trodAll_mk0)), rfl, bel.frame _, fun h => by cases h⟩
theorem moduloStages_place : (Rows.moduloStagesRow.inPlace == Tryz.prog.inPlace 3) = true := by kernel_rfl
theorem moduloStages_unf : (Rows.moduloStagesRow.unfollowed == Tryz.prog.unfollowed 3) = true := by kernel_rfl
theorem moduloStages_rec : (Rows.moduloStagesRow.recurses == Tryz.prog.recurses 3) = true := by kernel_rfl
theorem moduloStages_named : (Rows.moduloStagesRow.named == Tryz.prog.varsNamed 3) = true := by kernel_rfl
theorem moduloStages_facts : joinedFacts Tryz.prog 3 Tryz.f3 Rows.moduloStagesSpec Rows.moduloStagesRow = true := by
  simp only [joinedFacts, laidOut, jk_maps, jk_heard, jk_enter, jk_lifts, jk_plain, moduloStages_place, moduloStages_unf, moduloStages_rec, moduloStages_named, Bool.and_true]
  kernel_rfl
theorem moduloStages_holds : Rows.ModuloStagesSaid :=
  OpenClaim.holds_of_wide 3 Tryz.f3 rfl rfl rfl rfl rfl rfl rfl ⟨rfl, rfl, rfl, rfl, rfl⟩ rfl rfl rfl rfl rfl (by kernel_rfl) Tryz.func3 moduloStages_facts
    (of_decide_eq_true (by kernel_rfl)) (by unfold Func.isWrapper; rw [if_neg (of_decide_eq_false (by kernel_rfl))]; exact ⟨rfl, rfl⟩)
    (fun os started H enc _ => moduloStages_lifted os started H enc)
end Go.Proofs.YtmnagbhllnlelaaGreatDoor
