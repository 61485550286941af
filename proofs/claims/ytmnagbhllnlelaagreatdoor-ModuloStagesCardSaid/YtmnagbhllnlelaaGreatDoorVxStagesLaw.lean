/- The law ModuloStages. -/
import Derived.Test.YtmnagbhllnlelaaGreatDoorVxStages
import Derived.Test.YtmnagbhllnlelaaGreatDoorVxAl23
set_option linter.unusedSimpArgs false
set_option linter.unusedVariables false
set_option maxRecDepth 100000
namespace Go.Proofs.YtmnagbhllnlelaaGreatDoor
open Go Go.Vx
open Go.Vx.IOp Go.Vx.IR Go.Vx.Opd
theorem moduloStages_law {m : Mem} {u : Value} {C : List Int} {I : Int} (hu : IAt m u C) (hlenC : C.length < 2 ^ 63)
    (hal : ∀ m', Mem.le m m' → PureM Tryz.prog 13 [] m' (.bool true)) :
    CallsM Tryz.prog 3 [u, i I] m fun e m' => e = .returned (.bool true) ∧ Mem.le m m' := by
  obtain ⟨a2, c2, rfl, q0, q1, hcap2⟩ := hu
  refine calls_of mixed Tryz.func3 ok_biremelaw23_ModuloStages rfl ?_
  conv => whnf
  refine WNew.mk fun b1 hb1 => ?_
  conv => whnf
  refine WSl.mk ⟨Int.le_refl _, ?_, ?_⟩ ?_
  · show (0 : Int) ≤ if (402 : Int) < C.length then 402 else (C.length : Int)
    split <;> omega
  · show (if (402 : Int) < C.length then 402 else (C.length : Int)) ≤ (c2 : Int)
    split <;> omega
  conv => whnf
  refine WApp.copy hb1 (A := a2) (n := (C.take 402).length) (if_map rfl) ?_ ((C.take 402).map i) ⟨by simp, fun ad ha => ?_⟩ (fun ha => by rw [q0 ha]; rfl) ?_ fun b cb m1 hle1 hcb hbm hcells => ?_
  · show (if (402 : Int) < C.length then 402 else (C.length : Int)).toNat - 0 = _
    rw [List.length_take]; split <;> omega
  · rw [List.map_take]; exact CellsAt.take (q1 ad ha) _
  · rw [List.length_take]; omega
  have hl0 : (C.take 402).length ≤ 402 := by rw [List.length_take]; omega
  generalize C.take 402 = C0 at *
  have hu1 : IAt m1 (.slice (some ⟨b, 0, none⟩) C0.length cb) C0 := ⟨_, _, rfl, (fun h => by cases h), (fun ad ha => by cases ha; exact hcells), hcb⟩
  conv => whnf
  refine WNew.mk fun b2 hb2 => ?_
  conv => whnf
  refine WApp.copy hb2 rfl rfl (C0.map i) ⟨by simp, fun ad ha => by cases ha; exact hcells⟩ (fun ha => by cases ha) (by omega) fun b3 c3 m3 hle3 hc3 hbm3 hcells3 => ?_
  have hown : IAt m3 (.slice (some ⟨b3, 0, none⟩) C0.length c3) C0 := ⟨_, _, rfl, (fun h => by cases h), (fun ad ha => by cases ha; exact hcells3), hc3⟩
  have hu3 := hu1.mono hle3
  have hle := hle1.trans hle3
  conv => whnf
  refine WCall.pure (stages_ok hown (by omega)) ?_
  conv => whnf
  refine Br.mk (fun hb2 => ?_) (fun hb2 => ?_)
  · have hr : stagesS C0 I = (0, 3) := by
      simp only [decide_eq_true_eq] at hb2
      unfold stagesS; rw [if_pos (by omega)]
    rw [hr]
    conv => whnf
    refine WLoop.mk Unit (fun _ => [(8, .val (i 3)), (9, .val (i 0))]) (fun _ m' => m3 = m') (fun _ => 0) () ⟨rfl, rfl, trivial⟩ rfl ?_
    rintro _ m6 rfl
    conv => whnf
    refine WSc.mk (fun _ => And.intro (Mem.le.refl _) rfl) ?_
    conv => whnf
    refine Br.mk (fun hb6 => ?_) (fun hb6 => ?_)
    · exfalso; simp [scB] at hb6
    conv => whnf
    refine Br.mk (fun hb6 => ?_) (fun hb6 => by cases hb6)
    conv => whnf
    refine WSc.mk (v := true) (fun _ => And.intro (Mem.le.refl _) rfl) ?_
    conv => whnf
    refine WSc.mk (v := true) (fun _ => ?_) ?_
    · conv => whnf
      refine WCall.pure (hal _ hle) ?_
      exact And.intro (Mem.le.refl _) rfl
    conv => whnf
    exact WRet.same ⟨rfl, hle⟩
  have hc1 : ¬ C0.length > 401 := by simp only [decide_eq_false_iff_not] at hb2; omega
  conv => whnf
  refine WSc.mk (fun _ => And.intro (Mem.le.refl _) rfl) ?_
  conv => whnf
  refine WSc.mk (fun _ => And.intro (Mem.le.refl _) rfl) ?_
  conv => whnf
  refine Br.mk (fun hb3 => ?_) (fun hb3 => ?_)
  · have hr : stagesS C0 I = (0, 2) := by
      simp only [scB, Bool.or_eq_true, decide_eq_true_eq, beq_iff_eq] at hb3
      unfold stagesS; rw [if_neg hc1, if_pos (by rcases hb3 with (h | h) | h
                                                 · exact .inl (by omega)
                                                 · exact .inr (.inr (.inl h))
                                                 · exact .inr (.inr (.inr h)))]
    rw [hr]
    conv => whnf
    refine WLoop.mk Unit (fun _ => [(8, .val (i 2)), (9, .val (i 0))]) (fun _ m' => m3 = m') (fun _ => 0) () ⟨rfl, rfl, trivial⟩ rfl ?_
    rintro _ m6 rfl
    conv => whnf
    refine WSc.mk (fun _ => And.intro (Mem.le.refl _) rfl) ?_
    conv => whnf
    refine Br.mk (fun hb6 => ?_) (fun hb6 => ?_)
    · exfalso; simp [scB] at hb6
    conv => whnf
    refine Br.mk (fun hb6 => ?_) (fun hb6 => by cases hb6)
    conv => whnf
    refine WSc.mk (v := true) (fun _ => And.intro (Mem.le.refl _) rfl) ?_
    conv => whnf
    refine WSc.mk (v := true) (fun _ => ?_) ?_
    · conv => whnf
      refine WCall.pure (hal _ hle) ?_
      exact And.intro (Mem.le.refl _) rfl
    conv => whnf
    exact WRet.same ⟨rfl, hle⟩
  have hI : C0.length ≠ 0 ∧ 1 ≤ I ∧ I ≤ 4194304 := by
    simp only [scB, Bool.or_eq_false_iff, decide_eq_false_iff_not, beq_eq_false_iff_ne] at hb3; omega
  conv => whnf
  refine WLoop.mk (Nat × Bool) (fun s => [(8, .val (i (bif s.2 then 2 else 0))), (9, .val (i s.1))]) (fun s m' => m3 = m' ∧ s.1 ≤ C0.length ∧ (C0.take s.1).any cycBad = s.2) (fun s => C0.length - s.1) (0, false) ⟨rfl, rfl, trivial⟩ ⟨rfl, Nat.zero_le _, rfl⟩ ?_
  rintro ⟨k, bad⟩ m6 ⟨rfl, g1, g2⟩
  simp only at g1 g2
  conv => whnf
  refine WSc.mk (fun _ => And.intro (Mem.le.refl _) rfl) ?_
  conv => whnf
  refine Br.mk (fun hb6 => ?_) (fun hb6 => ?_)
  · have hk : k < C0.length ∧ bad = false := by
      simp only [scB] at hb6
      cases bad with
      | true => simp at hb6
      | false => simp at hb6; exact ⟨by omega, rfl⟩
    obtain ⟨hk, rfl⟩ := hk
    have hcell : CellAt m3 ((⟨b, 0, none⟩ : Addr).add k) (i C0[k]) := (IAt.cell hcells hk).mono hle3
    have htk : (C0.take (k + 1)).any cycBad = cycBad C0[k] := by
      rw [List.take_succ_eq_append_getElem hk, List.any_append, g2]; simp
    conv => whnf
    refine WIdx.mk ⟨b, 0, none⟩ rfl ⟨by omega, by simpa using hk⟩ ?_
    conv => whnf
    refine WLd.mk (i C0[k]) (by simpa using hcell) ?_
    conv => whnf
    refine WSc.mk (v := decide (C0[k] > 4194304)) (fun _ => ?_) ?_
    · conv => whnf
      refine WIdx.mk ⟨b, 0, none⟩ rfl ⟨by omega, by simpa using hk⟩ ?_
      conv => whnf
      refine WLd.mk (i C0[k]) (by simpa using hcell) ?_
      conv => whnf
      exact And.intro (Mem.le.refl _) rfl
    conv => whnf
    refine Br.mk (fun hb7 => ?_) (fun hb7 => ?_)
    · conv => whnf
      refine WRng.mk (by apply wrap_i64 <;> omega) ?_
      conv => whnf
      exact ⟨(k + 1, true), ⟨rfl, rfl, trivial⟩, ⟨rfl, hk, by simp only; rw [htk]; exact hb7⟩, by simp only; omega⟩
    · conv => whnf
      refine WRng.mk (by apply wrap_i64 <;> omega) ?_
      conv => whnf
      exact ⟨(k + 1, false), ⟨rfl, rfl, trivial⟩, ⟨rfl, hk, by simp only; rw [htk]; exact hb7⟩, by simp only; omega⟩
  cases bad with
  | true =>
    have hr : stagesS C0 I = (0, 2) := by
      have h3 : C0.any cycBad = true := by
        obtain ⟨x, hx, hx2⟩ := List.any_eq_true.1 g2
        exact List.any_eq_true.2 ⟨x, List.mem_of_mem_take hx, hx2⟩
      unfold stagesS; rw [if_neg hc1, if_pos (.inr (.inl h3))]
    rw [hr]
    conv => whnf
    refine Br.mk (fun hb6 => ?_) (fun hb6 => by cases hb6)
    conv => whnf
    refine WSc.mk (v := true) (fun _ => And.intro (Mem.le.refl _) rfl) ?_
    conv => whnf
    refine WSc.mk (v := true) (fun _ => ?_) ?_
    · conv => whnf
      refine WCall.pure (hal _ hle) ?_
      exact And.intro (Mem.le.refl _) rfl
    conv => whnf
    exact WRet.same ⟨rfl, hle⟩
  | false =>
    have hk : k = C0.length := by
      simp only [scB] at hb6
      simp at hb6; omega
    subst hk
    rw [List.take_length] at g2
    have hr : stagesS C0 I = (stagesN C0 I, 0) := by
      unfold stagesS; rw [if_neg hc1, if_neg (by
        rintro (h | h | h | h)
        · omega
        · rw [g2] at h; cases h
        · omega
        · omega)]
    rw [hr]
    conv => whnf
    refine Br.mk (fun hb6 => by cases hb6) (fun hb6 => ?_)
    conv => whnf
    refine WSc.mk (v := true) (fun _ => ?_) ?_
    · conv => whnf
      refine WCall.pure (refStages_ok hu3 (by omega) hI.1 g2 hI.2.1 hI.2.2) ?_
      conv => whnf
      refine And.intro (Mem.le.refl _) ?_
      show some (Value.bool (stagesN C0 I == stagesN C0 I)) = some (Value.bool true)
      rw [beq_self_eq_true]
    conv => whnf
    refine WSc.mk (v := true) (fun _ => ?_) ?_
    · conv => whnf
      refine WCall.pure (hal _ hle) ?_
      exact And.intro (Mem.le.refl _) rfl
    conv => whnf
    exact WRet.same ⟨rfl, hle⟩
theorem moduloStages_ok {m : Mem} {u : Value} {C : List Int} {I : Int} (hu : IAt m u C) (hlenC : C.length < 2 ^ 63) {T : Nat} {fr : Nat × Nat} (hm : m 0 = some (.cells ⟨cells0⟩ T fr)) :
    CallsM Tryz.prog 3 [u, i I] m fun e m' => e = .returned (.bool true) ∧ Mem.le m m' := moduloStages_law hu hlenC fun _ h => alive23_calls (h _ _ hm)
end Go.Proofs.YtmnagbhllnlelaaGreatDoor
