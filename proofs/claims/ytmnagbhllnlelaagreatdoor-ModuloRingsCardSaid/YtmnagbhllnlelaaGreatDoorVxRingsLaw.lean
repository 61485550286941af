/- The law ModuloRings. -/
import Derived.Test.YtmnagbhllnlelaaGreatDoorVxRing
import Derived.Test.YtmnagbhllnlelaaGreatDoorVxAl23

set_option linter.unusedSimpArgs false
set_option linter.unusedVariables false
set_option maxRecDepth 100000
namespace Go.Proofs.YtmnagbhllnlelaaGreatDoor
open Go Go.Vx
open Go.Vx.IOp Go.Vx.IR Go.Vx.Opd
def ringV (k cd : Int) : Value := .tuple ⟨[i k, i cd]⟩
theorem rightS_zero {n : Int} {E : List Edg} (h : rightS n 2147483648 E = 0) : 0 ≤ n ∧ n ≤ 401 ∧ E.length ≤ 200000 ∧ firstCode (cdW n false) E = 0 := by
  unfold rightS at h
  by_cases c1 : n > 401 ∨ E.length > 200000
  · rw [if_pos c1] at h; cases h
  · by_cases c2 : n < 0
    · rw [if_neg c1, if_pos c2] at h; cases h
    · have h2 := right_wrong E (n := n) (by omega) (by omega) (by omega)
      unfold rightS at h2
      rw [h] at h2
      exact ⟨by omega, by omega, by omega, h2.symm⟩
theorem ringTop_ok {m : Mem} {v : Value} {n : Int} {E : List Edg} (hv : EAt m v E) (hlE : E.length < 2 ^ 63) :
    CallsM Tryz.prog 15 [i n, v] m fun e m' => ∃ k, e = .returned (ringV k (rightS n 2147483648 E)) ∧ Mem.le m m' ∧ (rightS n 2147483648 E ≠ 0 → k = 0) ∧ (rightS n 2147483648 E = 0 → IsRing n.toNat E k) := by
  obtain ⟨a, c, rfl⟩ := hv.slice
  refine calls_of mixed Tryz.func15 ok_modulo_Ring rfl ?_
  conv => whnf
  refine WCall.pure (right_ok hv hlE n 2147483648) ?_
  conv => whnf
  refine Br.mk (fun hb => ?_) (fun hb => ?_)
  · have hne : rightS n 2147483648 E ≠ 0 := by simpa using hb
    conv => whnf
    exact WRet.same ⟨0, rfl, Mem.le.refl _, fun _ => rfl, fun h => absurd h hne⟩
  · have he : rightS n 2147483648 E = 0 := by simpa using hb
    obtain ⟨h1, h2, h3, h4⟩ := rightS_zero he
    obtain ⟨N, rfl⟩ : ∃ N : Nat, n = N := ⟨n.toNat, by omega⟩
    conv => whnf
    refine WCall.mk (ring_ok hv h3 (by omega) (rightE_of h4)) ?_
    rintro _ m1 ⟨R, rfl, hR, hle1⟩
    conv => whnf
    refine WRet.same ⟨R, by rw [he]; rfl, hle1, fun h => absurd he h, fun _ => by simpa using hR⟩
theorem moduloRings_law {m : Mem} {v : Value} {n : Int} {E0 : List Edg} (hv : EAt m v E0) (hlen : E0.length < 2 ^ 63)
    (hal : ∀ m', Mem.le m m' → PureM Tryz.prog 13 [] m' (.bool true)) :
    CallsM Tryz.prog 4 [i n, v] m fun e m' => e = .returned (.bool true) ∧ Mem.le m m' := by
  obtain ⟨a, c, rfl, h0, h1, hcap⟩ := hv
  refine calls_of mixed Tryz.func4 ok_biremelaw23_ModuloRings rfl ?_
  conv => whnf
  refine WNew.mk fun b1 hb1 => ?_
  conv => whnf
  refine WSl.mk ⟨Int.le_refl _, ?_, ?_⟩ ?_
  · show (0 : Int) ≤ if (60 : Int) < E0.length then 60 else (E0.length : Int)
    split <;> omega
  · show (if (60 : Int) < E0.length then 60 else (E0.length : Int)) ≤ (c : Int)
    split <;> omega
  conv => whnf
  refine WApp.copy hb1 (A := a) (n := (E0.take 60).length) (if_map rfl) ?_ (ecs (E0.take 60)) ⟨ecs_len _, fun ad ha => ?_⟩ (fun ha => by rw [h0 ha]; rfl) ?_ fun b cb m1 hle1 hcb hbm hcells => ?_
  · show (if (60 : Int) < E0.length then 60 else (E0.length : Int)).toNat - 0 = _
    rw [List.length_take]; split <;> omega
  · rw [take_cells]; exact CellsAt.take (h1 ad ha) _
  · rw [List.length_take]; omega
  have hl0 : (E0.take 60).length ≤ 60 := by rw [List.length_take]; omega
  generalize E0.take 60 = E at *
  have hv1 : EAt m1 (.slice (some ⟨b, 0, none⟩) E.length cb) E := ⟨_, _, rfl, (fun h => by cases h), (fun ad ha => by cases ha; exact hcells), hcb⟩
  conv => whnf
  refine WNew.mk fun b2 hb2 => ?_
  conv => whnf
  refine WApp.copy hb2 rfl rfl (ecs E) ⟨ecs_len _, fun ad ha => by cases ha; exact hcells⟩ (fun ha => by cases ha) (by omega) fun b3 c3 m3 hle3 hc3 hbm3 hcells3 => ?_
  have hv3 : EAt m3 (.slice (some ⟨b3, 0, none⟩) E.length c3) E := ⟨_, _, rfl, (fun h => by cases h), (fun ad ha => by cases ha; exact hcells3), hc3⟩
  conv => whnf
  refine WCall.mk (ringTop_ok hv3 (by omega)) ?_
  rintro _ m4 ⟨k, rfl, hle4, hk1, hk2⟩
  have hv4 := (hv1.mono hle3).mono hle4
  have hle := (hle1.trans hle3).trans hle4
  have fin : ∀ m', Mem.le m4 m' → PureM Tryz.prog 13 [] m' (.bool true) := fun m' h => hal m' (hle.trans h)
  conv => whnf
  refine Br.mk (fun hb4 => ?_) (fun hb4 => ?_)
  · have hn : n > 401 := by simpa using hb4
    have hr : rightS n 2147483648 E = 3 := by unfold rightS; rw [if_pos (.inl hn)]
    rw [hr] at hk1 ⊢
    obtain rfl := hk1 (by decide)
    conv => whnf
    refine Br.mk (fun hb5 => ?_) (fun hb5 => by cases hb5)
    conv => whnf
    refine WSc.mk (v := true) (fun _ => And.intro (Mem.le.refl _) rfl) ?_
    conv => whnf
    refine WSc.mk (v := true) (fun _ => ?_) ?_
    · conv => whnf
      refine WCall.pure (fin _ (Mem.le.refl _)) ?_
      exact And.intro (Mem.le.refl _) rfl
    conv => whnf
    exact WRet.same ⟨rfl, hle⟩
  have hn : n ≤ 401 := by simp only [decide_eq_false_iff_not] at hb4; omega
  conv => whnf
  refine Br.mk (fun hb5 => ?_) (fun hb5 => ?_)
  · have hn2 : n < 0 := by simpa using hb5
    have hr : rightS n 2147483648 E = 2 := by unfold rightS; rw [if_neg (by omega), if_pos hn2]
    rw [hr] at hk1 ⊢
    obtain rfl := hk1 (by decide)
    conv => whnf
    refine Br.mk (fun hb5 => ?_) (fun hb5 => by cases hb5)
    conv => whnf
    refine WSc.mk (v := true) (fun _ => And.intro (Mem.le.refl _) rfl) ?_
    conv => whnf
    refine WSc.mk (v := true) (fun _ => ?_) ?_
    · conv => whnf
      refine WCall.pure (fin _ (Mem.le.refl _)) ?_
      exact And.intro (Mem.le.refl _) rfl
    conv => whnf
    exact WRet.same ⟨rfl, hle⟩
  have hn2 : 0 ≤ n := by simp only [decide_eq_false_iff_not] at hb5; omega
  have hr := right_wrong E hn2 hn (by omega)
  conv => whnf
  refine WCall.pure (wrong_ok hv4 (by omega) n false) ?_
  rw [hr] at hk1 hk2 ⊢
  conv => whnf
  refine Br.mk (fun hb6 => ?_) (fun hb6 => ?_)
  · have hne : firstCode (cdW n false) E ≠ 0 := by simpa using hb6
    obtain rfl := hk1 hne
    conv => whnf
    refine WSc.mk (fun _ => And.intro (Mem.le.refl _) rfl) ?_
    conv => whnf
    refine WSc.mk (v := true) (fun _ => ?_) ?_
    · conv => whnf
      refine WCall.pure (fin _ (Mem.le.refl _)) ?_
      exact And.intro (Mem.le.refl _) rfl
    conv => whnf
    refine WRet.same ⟨?_, hle⟩
    simp [scB, resVal]
  · have he : firstCode (cdW n false) E = 0 := by simpa using hb6
    have hR := hk2 he
    obtain ⟨N, rfl⟩ : ∃ N : Nat, n = N := ⟨n.toNat, by omega⟩
    rw [he]
    conv => whnf
    refine WSc.mk (v := true) (fun _ => ?_) ?_
    · conv => whnf
      refine WCall.mk (refRing_ok hv4 (by omega) (by omega) (rightE_of he)) ?_
      rintro _ m5 ⟨R, rfl, hR2, hle5⟩
      have := isRing_eq (by simpa using hR) hR2
      subst this
      conv => whnf
      refine And.intro hle5 ?_
      show some (Value.bool (k == k)) = some (Value.bool true)
      rw [beq_self_eq_true]
    conv => whnf
    refine WSc.mk (v := true) (fun _ => ?_) ?_
    · conv => whnf
      refine WCall.pure (fin _ (Mem.le.refl _)) ?_
      exact And.intro (Mem.le.refl _) rfl
    conv => whnf
    refine WRet.same ⟨?_, hle⟩
    simp [scB, resVal]
theorem moduloRings_ok {m : Mem} {v : Value} {n : Int} {E0 : List Edg} (hv : EAt m v E0) (hlen : E0.length < 2 ^ 63) {T : Nat} {fr : Nat × Nat} (hm : m 0 = some (.cells ⟨cells0⟩ T fr)) :
    CallsM Tryz.prog 4 [i n, v] m fun e m' => e = .returned (.bool true) ∧ Mem.le m m' := moduloRings_law hv hlen fun _ h => alive23_calls (h _ _ hm)
end Go.Proofs.YtmnagbhllnlelaaGreatDoor
