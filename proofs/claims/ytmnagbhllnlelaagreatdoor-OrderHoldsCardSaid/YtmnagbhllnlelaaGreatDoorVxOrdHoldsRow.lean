/- OrderHolds returns true for every input: the row. -/
import Derived.Test.YtmnagbhllnlelaaGreatDoorRows
import Derived.Test.YtmnagbhllnlelaaGreatDoorVxOrdHolds
import Derived.Test.YtmnagbhllnlelaaGreatDoorVxOpenE
import Derived.Test.YtmnagbhllnlelaaGreatDoorVxRowKit
set_option maxRecDepth 100000
namespace Go.Proofs.YtmnagbhllnlelaaGreatDoor
open Go.ChangeShapes Go.WideShapes Go.ChangeAt Go.RowKit
open Go Go.Vx
theorem orderHolds_any {v u : Value} {E : List Edg} {C : List Int} {I : Int} {W : World} (hv : EAt (memOf W) v E) (hu : IAt (memOf W) u C) (hlen : E.length < 2 ^ 63) (hlenC : C.length < 2 ^ 63) {T : Nat} {fr : Nat × Nat} (hW : W.heap[0]? = some (.cells ⟨cells0⟩ T fr)) :
    Calls Tryz.prog 5 #[v, u, i I] W fun e W' => e = .returned (.bool true) ∧ Below W.heap.size W W' := by
  refine ((orderHolds_ok hv hu hlen hlenC (I := I) hW).2 W (memOf_sub W)).mono fun e W' hR => ?_
  obtain ⟨m', h1, rfl, h2⟩ := hR
  exact ⟨rfl, step_below' (h1.forget h2)⟩
theorem orderHolds_lifted (os : Os) (started : os.Started) (H : Type) (enc : TypeId × Value → H) :
    ReturnsInHanded {} Tryz.checked os 5 .any (fun w args => (Rows.orderHoldsSpec.pre enc Tryz.prog Tryz.f5 [] false w args ∧ laidMetH Tryz.prog laid1 w) ∧ sizedMet enc Tryz.prog Tryz.f5 (OpenSpec.ofChange Rows.orderHoldsSpec) false w args)
      (Rows.orderHoldsSpec.post enc Tryz.prog Tryz.f5 false true false false) := by
  refine returnsInHanded_of_change_and (C := Tryz.checked) (X := fun w _ => laidMetH Tryz.prog laid1 w) (fun _ _ _ hh h => h.of_heap hh) own started (by kernel_rfl) Tryz.func5
    (ChangeSpec.witness_shaped (enc := enc) (C := Tryz.checked) (os := os) (X := fun w _ => laidMetH Tryz.prog laid1 w) false (World.doorLaid Tryz.prog 400 os) #[.slice none 0 0, .slice none 0 0, .int .i64 0] 8 rfl (World.shaped_of_RefB (by kernel_rfl) (by kernel_rfl)) (by kernel_rfl) (by kernel_rfl) (by kernel_rfl) (door_met os _)) ?_
  intro W base args ds gs before hval0 hW _ _ hL _
  have hval : ∀ (j : Nat) t v, Tryz.f5.params[j]? = some t → args[j]? = some v → Value.okWide Tryz.prog W .any base t v := hval0
  have hW' := hW
  obtain ⟨p, q, hA0, hV, rfl, hfz, hnd⟩ := hW
  have hA : DataW.TrodAll enc Tryz.prog W 0 (fun _ => true) true Tryz.f5.params.toList args.toList ds p := hA0
  rw [Tryz.params5] at hA hval
  obtain ⟨v0, vs0, d0, ds0, p0, q0, hargs, rfl, rfl, h0, r0⟩ := trodAll_cons hA
  obtain ⟨v1, vs1, d1, ds1, p1, q1, rfl, rfl, rfl, h1, r1⟩ := trodAll_cons r0
  obtain ⟨v2, vs2, d2, ds2, p2, q2, rfl, rfl, rfl, h2, r2⟩ := trodAll_cons r1
  obtain ⟨rfl, rfl, rfl⟩ := trodAll_nil r2
  obtain rfl : args = #[v0, v1, v2] := by cases args; simp_all
  obtain ⟨rfl, rfl⟩ := trodVars_none hV
  obtain ⟨a0, len0, cap0, e0⟩ := okWide_slice Tryz.underlying29 (hval 0 29 v0 rfl rfl)
  obtain ⟨a1, len1, cap1, e1⟩ := okWide_slice Tryz.underlying22 (hval 1 22 v1 rfl rfl)
  obtain ⟨n, rfl, rfl, rfl, hwn⟩ := open_int Tryz.underlying3 (hval 2 3 v2 rfl rfl) h2
  have k0 := h0
  have k1 := h1
  have lt0 : ∀ x ∈ p0, x.block < W.heap.size := by obtain ⟨m, hm⟩ := k0; exact DataW.trod_lt m _ _ _ hm
  have lt1 : ∀ x ∈ p1, x.block < W.heap.size := by obtain ⟨m, hm⟩ := k1; exact DataW.trod_lt m _ _ _ hm
  obtain ⟨E, hE, hEl⟩ : ∃ E, EAt (memOf W) v0 E ∧ E.length < 2 ^ 63 := by obtain ⟨fuel, hf⟩ := h0; exact eat_of (open_edges hf) e0
  obtain ⟨C, hC, hCl⟩ : ∃ C, IAt (memOf W) v1 C ∧ C.length < 2 ^ 63 := by obtain ⟨fuel, hf⟩ := h1; exact iat_of (open_is hf) e1
  obtain ⟨T, fr, hT⟩ := of_laid hL
  clear hA0 hval0
  refine (orderHolds_any hE hC hEl hCl hT).mono fun e W' ⟨he, bel⟩ => ?_
  subst he
  exact ⟨_, rfl, _, _, _, [], _, [], hW', trodAll_mk1 (shut_bool Tryz.underlying4 _), trodAll_cons_mk (Below.trod laidOut (by kernel_rfl) (of_decide_eq_true (by kernel_rfl)) k0 bel lt0) (trodAll_cons_mk (Below.trod laidOut (by kernel_rfl) (of_decide_eq_true (by kernel_rfl)) k1 bel lt1) (trodAll_cons_mk (shut_int Tryz.underlying3 hwn) trodAll_mk0)), rfl, bel.frame _, fun h => by cases h⟩
theorem orderHolds_place : (Rows.orderHoldsRow.inPlace == Tryz.prog.inPlace 5) = true := by kernel_rfl
theorem orderHolds_unf : (Rows.orderHoldsRow.unfollowed == Tryz.prog.unfollowed 5) = true := by kernel_rfl
theorem orderHolds_rec : (Rows.orderHoldsRow.recurses == Tryz.prog.recurses 5) = true := by kernel_rfl
theorem orderHolds_named : (Rows.orderHoldsRow.named == Tryz.prog.varsNamed 5) = true := by kernel_rfl
theorem orderHolds_facts : joinedFacts Tryz.prog 5 Tryz.f5 Rows.orderHoldsSpec Rows.orderHoldsRow = true := by
  simp only [joinedFacts, laidOut, jk_maps, jk_heard, jk_enter, jk_lifts, jk_plain, orderHolds_place, orderHolds_unf, orderHolds_rec, orderHolds_named, Bool.true_and, Bool.and_true]
  kernel_rfl
theorem orderHolds_holds : Rows.OrderHoldsSaid :=
  OpenClaim.holds_of_wide 5 Tryz.f5 rfl rfl rfl rfl rfl rfl rfl ⟨rfl, rfl, rfl, rfl, rfl⟩ rfl rfl rfl rfl rfl (by kernel_rfl) Tryz.func5 orderHolds_facts
    (of_decide_eq_true (by kernel_rfl)) (by unfold Func.isWrapper; rw [if_neg (of_decide_eq_false (by kernel_rfl))]; exact ⟨rfl, rfl⟩)
    (fun os started H enc _ => orderHolds_lifted os started H enc)
end Go.Proofs.YtmnagbhllnlelaaGreatDoor
