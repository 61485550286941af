/- Contracts of modulo.Stages and its reference. -/
import Derived.Test.YtmnagbhllnlelaaGreatDoorVxOrd
set_option linter.unusedSimpArgs false
set_option linter.unusedVariables false
set_option maxRecDepth 100000
namespace Go.Proofs.YtmnagbhllnlelaaGreatDoor
open Go Go.Vx
open Go.Vx.IOp Go.Vx.IR Go.Vx.Opd
theorem cyc2_ok (m : Mem) (x : Int) : PureM Tryz.prog 42 [i x] m (.bool (cycBad x)) := by
  refine calls_of mixed Tryz.func42 ok_modulo_Stages_1 rfl ?_
  conv => whnf
  refine WSc.mk (fun _ => And.intro (Mem.le.refl _) rfl) ?_
  conv => whnf
  exact WRet.same ⟨rfl, rfl⟩
/-- What Stages returns of right cycles. -/
def stagesN (C : List Int) (I : Int) : Int := (C.getD (C.length - 1) 0 + I).tdiv I
def stagesS (C : List Int) (I : Int) : Int × Int :=
  if C.length > 401 then (0, 3) else if C.length = 0 ∨ C.any cycBad = true ∨ I < 1 ∨ I > 4194304 then (0, 2) else (stagesN C I, 0)
def holdsV' (r : Int × Int) : Value := .tuple ⟨[i r.1, i r.2]⟩
theorem refStages_ok {m : Mem} {u : Value} {C : List Int} {I : Int} (hu : IAt m u C) (h1 : C.length ≤ 401) (h0 : C.length ≠ 0) (hc : C.any cycBad = false) (hI : 1 ≤ I) (hI2 : I ≤ 4194304) :
    PureM Tryz.prog 14 [u, i I] m (i (stagesN C I)) := by
  obtain ⟨a, c, rfl, q0, q1, hcap⟩ := hu
  have hk : C.length - 1 < C.length := by omega
  have hg : C.getD (C.length - 1) 0 = C[C.length - 1] := by rw [List.getD_eq_getElem?_getD, List.getElem?_eq_getElem hk]; rfl
  have hb : 0 ≤ C[C.length - 1] ∧ C[C.length - 1] ≤ 4194304 := by
    have := List.any_eq_false.1 hc _ (List.getElem_mem hk)
    simp only [cycBad, Bool.or_eq_true, decide_eq_true_eq, not_or] at this
    omega
  refine calls_of mixed Tryz.func14 ok_biremeref23_Stages rfl ?_
  conv => whnf
  refine WRng.mk (by apply wrap_i64 <;> omega) ?_
  conv => whnf
  cases a with
  | none => rw [q0 rfl] at h0; simp at h0
  | some ad =>
    refine WIdx.mk ad rfl ⟨by omega, by omega⟩ ?_
    conv => whnf
    refine WLd.mk (i C[C.length - 1]) ?_ ?_
    · have := IAt.cell (q1 ad rfl) hk
      have e : (((C.length : Int) - 1).toNat * 1) = C.length - 1 := by omega
      rw [e]; exact this
    conv => whnf
    refine WRng.mk (by apply wrap_i64 <;> omega) ?_
    conv => whnf
    refine WNe.mk (by omega) ?_
    conv => whnf
    refine WRet.same ⟨?_, rfl⟩
    have hq : (C[C.length - 1] + I).tdiv I = (C[C.length - 1] + I) / I := Int.tdiv_eq_ediv_of_nonneg (by omega)
    have hq2 : 0 ≤ (C[C.length - 1] + I) / I := Int.ediv_nonneg (by omega) (by omega)
    have hq3 : (C[C.length - 1] + I) / I ≤ C[C.length - 1] + I := Int.ediv_le_self _ (by omega)
    show Ending.returned (i (IntKind.i64.wrap ((C[C.length - 1] + I).tdiv I))) = _
    rw [wrap_i64 (by omega) (by omega)]
    unfold stagesN; rw [hg]
theorem stages_ok {m : Mem} {u : Value} {C : List Int} {I : Int} (hu : IAt m u C) (hlen : C.length < 2 ^ 63) :
    PureM Tryz.prog 12 [u, i I] m (holdsV' (stagesS C I)) := by
  obtain ⟨a, c, rfl, q0, q1, hcap⟩ := hu
  have hu : IAt m (.slice a C.length c) C := ⟨a, c, rfl, q0, q1, hcap⟩
  refine calls_of mixed Tryz.func12 ok_modulo_Stages rfl ?_
  unfold stagesS
  conv => whnf
  refine Br.mk (fun hb => ?_) (fun hb => ?_)
  · conv => whnf
    refine WRet.same ⟨?_, rfl⟩
    simp only [decide_eq_true_eq] at hb
    rw [if_pos (by omega)]; rfl
  simp only [decide_eq_false_iff_not] at hb
  rw [if_neg (by omega)]
  conv => whnf
  refine WSc.mk (v := C.any cycBad) (fun _ => ?_) ?_
  · conv => whnf
    refine WCall.pure (contains_int hu hlen cycBad (fun x _ => cyc2_ok m x)) ?_
    exact And.intro (Mem.le.refl _) rfl
  conv => whnf
  refine WSc.mk (fun _ => And.intro (Mem.le.refl _) rfl) ?_
  conv => whnf
  refine WSc.mk (fun _ => And.intro (Mem.le.refl _) rfl) ?_
  conv => whnf
  refine Br.mk (fun hb2 => ?_) (fun hb2 => ?_)
  · conv => whnf
    refine WRet.same ⟨?_, rfl⟩
    simp only [scB, Bool.or_eq_true, decide_eq_true_eq, beq_iff_eq] at hb2
    rw [if_pos (by rcases hb2 with ((h | h) | h) | h
                   · exact .inl (by omega)
                   · exact .inr (.inl h)
                   · exact .inr (.inr (.inl h))
                   · exact .inr (.inr (.inr h)))]
    rfl
  simp only [scB, Bool.or_eq_false_iff, decide_eq_false_iff_not, beq_eq_false_iff_ne] at hb2
  obtain ⟨⟨⟨b1, b2⟩, b3⟩, b4⟩ := hb2
  have h0 : C.length ≠ 0 := by omega
  rw [if_neg (by rintro (h | h | h | h)
                 · exact h0 h
                 · rw [b2] at h; cases h
                 · exact b3 h
                 · exact b4 h)]
  have hk : C.length - 1 < C.length := by omega
  have hg : C.getD (C.length - 1) 0 = C[C.length - 1] := by rw [List.getD_eq_getElem?_getD, List.getElem?_eq_getElem hk]; rfl
  have hbd : 0 ≤ C[C.length - 1] ∧ C[C.length - 1] ≤ 4194304 := by
    have := List.any_eq_false.1 b2 _ (List.getElem_mem hk)
    simp only [cycBad, Bool.or_eq_true, decide_eq_true_eq, not_or] at this
    omega
  conv => whnf
  refine WRng.mk (by apply wrap_i64 <;> omega) ?_
  conv => whnf
  cases a with
  | none => rw [q0 rfl] at h0; simp at h0
  | some ad =>
    refine WIdx.mk ad rfl ⟨by omega, by omega⟩ ?_
    conv => whnf
    refine WLd.mk (i C[C.length - 1]) ?_ ?_
    · have := IAt.cell (q1 ad rfl) hk
      have e : (((C.length : Int) - 1).toNat * 1) = C.length - 1 := by omega
      rw [e]; exact this
    conv => whnf
    refine WRng.mk (by apply wrap_i64 <;> omega) ?_
    conv => whnf
    refine WNe.mk (by omega) ?_
    conv => whnf
    refine WRet.same ⟨?_, rfl⟩
    have hq : (C[C.length - 1] + I).tdiv I = (C[C.length - 1] + I) / I := Int.tdiv_eq_ediv_of_nonneg (by omega)
    have hq2 : 0 ≤ (C[C.length - 1] + I) / I := Int.ediv_nonneg (by omega) (by omega)
    have hq3 : (C[C.length - 1] + I) / I ≤ C[C.length - 1] + I := Int.ediv_le_self _ (by omega)
    show Ending.returned (.tuple ⟨[i (IntKind.i64.wrap ((C[C.length - 1] + I).tdiv I)), i 0]⟩) = _
    rw [wrap_i64 (by omega) (by omega)]
    unfold stagesN; rw [hg]; rfl
end Go.Proofs.YtmnagbhllnlelaaGreatDoor
