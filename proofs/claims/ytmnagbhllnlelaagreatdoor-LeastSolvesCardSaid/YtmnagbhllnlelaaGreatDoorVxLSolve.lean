/- Contracts of least.Solve and of the comparing of lists. -/
import Derived.Test.YtmnagbhllnlelaaGreatDoorVxRing
set_option linter.unusedSimpArgs false
set_option linter.unusedVariables false
set_option maxRecDepth 100000
namespace Go.Proofs.YtmnagbhllnlelaaGreatDoor
open Go Go.Vx
open Go.Vx.IOp Go.Vx.IR Go.Vx.Opd
def resBad (I x : Int) : Bool := decide (x < 0) || decide (x ≥ I)
theorem resBad_ok {m : Mem} {b : Nat} {I : Int} (hb : CellAt m ⟨b, 0, none⟩ (i I)) (x : Int) : PureM Tryz.prog 76 ([] ++ [i x] ++ [.pointer (some ⟨b, 0, none⟩)]) m (.bool (resBad I x)) := by
  refine calls_of mixed Tryz.func76 ok_least_Solve_1 rfl ?_
  conv => whnf
  refine WSc.mk (v := decide (x ≥ I)) (fun _ => ?_) ?_
  · conv => whnf
    refine WLd.mk (i I) hb ?_
    exact And.intro (Mem.le.refl _) rfl
  conv => whnf
  exact WRet.same ⟨rfl, rfl⟩
/-- What is wrong with what Solve is handed. -/
def lsCode (C : List Int) (E : List Edg) (I : Int) : Int :=
  if C.length > 401 ∨ E.length > 200000 then 3 else if I < 1 ∨ I > 4194304 ∨ C.any (resBad I) = true then 2 else firstCode (cdW C.length false) E
def lsV (w : Value) (b : Bool) (cd : Int) : Value := .tuple ⟨[w, .bool b, i cd]⟩
theorem IAt.slice {m : Mem} {v : Value} {C : List Int} (h : IAt m v C) : ∃ a c, v = .slice a C.length c := by obtain ⟨a, c, e, _⟩ := h; exact ⟨a, c, e⟩
theorem nilAt (m : Mem) : IAt m ns [] := ⟨none, 0, rfl, fun _ => rfl, (fun ad h => by cases h), Nat.le_refl _⟩
theorem lsCode_zero {C : List Int} {E : List Edg} {I : Int} (h : lsCode C E I = 0) : C.length ≤ 401 ∧ E.length ≤ 200000 ∧ 1 ≤ I ∧ I ≤ 4194304 ∧ (∀ x ∈ C, 0 ≤ x ∧ x < I) ∧ firstCode (cdW C.length false) E = 0 := by
  unfold lsCode at h
  by_cases c1 : C.length > 401 ∨ E.length > 200000
  · rw [if_pos c1] at h; cases h
  · rw [if_neg c1] at h
    by_cases c2 : I < 1 ∨ I > 4194304 ∨ C.any (resBad I) = true
    · rw [if_pos c2] at h; cases h
    · rw [if_neg c2] at h
      refine ⟨by omega, by omega, by omega, by omega, fun x hx => ?_, h⟩
      have h3 : ¬ C.any (resBad I) = true := fun hh => c2 (.inr (.inr hh))
      have h4 := List.any_eq_false.1 (Bool.not_eq_true _ ▸ h3 : C.any (resBad I) = false) x hx
      simp only [resBad, Bool.or_eq_true, decide_eq_true_eq, not_or] at h4
      omega
theorem leastSolve_ok {m : Mem} {u v : Value} {C : List Int} {E : List Edg} {I : Int} (hu : IAt m u C) (hv : EAt m v E) (hlC : C.length < 2 ^ 63) (hlE : E.length < 2 ^ 63) :
    CallsM Tryz.prog 36 [u, v, i I] m fun e m' => ∃ w ok, e = .returned (lsV w ok (lsCode C E I)) ∧ Mem.le m m' ∧ (lsCode C E I ≠ 0 → w = ns ∧ ok = false) ∧
      (lsCode C E I = 0 → ok = (solveS I I E (C.length + 1) C).isSome ∧ IAt m' w ((solveS I I E (C.length + 1) C).getD [])) := by
  obtain ⟨a, c, rfl⟩ := hv.slice
  obtain ⟨a2, c2, rfl⟩ := hu.slice
  refine calls_of mixed Tryz.func36 ok_least_Solve rfl ?_
  conv => whnf
  refine WNew.mk fun b hb => ?_
  have hcell : CellAt (m.set b (Cells (cellsL (i I)) 3)) ⟨b, 0, none⟩ (i I) := ⟨_, _, _, Mem.set_same _ _ _, rfl, rfl⟩
  have hle1 : Mem.le m (m.set b (Cells (cellsL (i I)) 3)) := Mem.le_set hb
  have hu1 := hu.mono hle1
  have hv1 := hv.mono hle1
  generalize hm1 : m.set b (Cells (cellsL (i I)) 3) = m1 at *
  conv => whnf
  refine WSc.mk (fun _ => And.intro (Mem.le.refl _) rfl) ?_
  conv => whnf
  refine Br.mk (fun hb2 => ?_) (fun hb2 => ?_)
  · have hc : lsCode C E I = 3 := by
      simp only [scB, Bool.or_eq_true, decide_eq_true_eq] at hb2
      unfold lsCode; rw [if_pos (by omega)]
    conv => whnf
    exact WRet.same ⟨ns, false, by rw [hc]; rfl, hle1, fun _ => ⟨rfl, rfl⟩, fun h => by rw [hc] at h; cases h⟩
  have hc1 : ¬ (C.length > 401 ∨ E.length > 200000) := by
    simp only [scB, Bool.or_eq_false_iff, decide_eq_false_iff_not] at hb2; omega
  conv => whnf
  refine WLd.mk (i I) hcell ?_
  conv => whnf
  refine WSc.mk (v := decide (I > 4194304)) (fun _ => ?_) ?_
  · conv => whnf
    refine WLd.mk (i I) hcell ?_
    exact And.intro (Mem.le.refl _) rfl
  conv => whnf
  refine WSc.mk (v := C.any (resBad I)) (fun _ => ?_) ?_
  · conv => whnf
    refine WCall.pure (contains_int hu1 hlC (resBad I) (fun x _ => resBad_ok hcell x)) ?_
    exact And.intro (Mem.le.refl _) rfl
  conv => whnf
  refine Br.mk (fun hb3 => ?_) (fun hb3 => ?_)
  · have hc : lsCode C E I = 2 := by
      simp only [scB, Bool.or_eq_true, decide_eq_true_eq] at hb3
      unfold lsCode; rw [if_neg hc1, if_pos (by rcases hb3 with (h | h) | h
                                                · exact .inl h
                                                · exact .inr (.inl h)
                                                · exact .inr (.inr h))]
    conv => whnf
    exact WRet.same ⟨ns, false, by rw [hc]; rfl, hle1, fun _ => ⟨rfl, rfl⟩, fun h => by rw [hc] at h; cases h⟩
  have hc2 : ¬ (I < 1 ∨ I > 4194304 ∨ C.any (resBad I) = true) := by
    simp only [scB, Bool.or_eq_false_iff, decide_eq_false_iff_not] at hb3
    obtain ⟨⟨h1, h2⟩, h3⟩ := hb3
    rintro (h | h | h)
    · exact h1 h
    · exact h2 h
    · rw [h3] at h; cases h
  conv => whnf
  refine WCall.pure (right_ok hv1 hlE C.length 2147483648) ?_
  have hr := right_wrong E (n := C.length) (by omega) (by omega) (by omega)
  have hls : lsCode C E I = firstCode (cdW C.length false) E := by unfold lsCode; rw [if_neg hc1, if_neg hc2]
  rw [hr, ← hls]
  conv => whnf
  refine Br.mk (fun hb4 => ?_) (fun hb4 => ?_)
  · have hne : lsCode C E I ≠ 0 := by simpa using hb4
    conv => whnf
    exact WRet.same ⟨ns, false, rfl, hle1, fun _ => ⟨rfl, rfl⟩, fun h => absurd h hne⟩
  · have he : lsCode C E I = 0 := by simpa using hb4
    obtain ⟨z1, z2, z3, z4, z5, z6⟩ := lsCode_zero he
    conv => whnf
    refine WLd.mk (i I) hcell ?_
    conv => whnf
    refine WCall.mk (solve_ok hu1 hv1 z2 z1 z3 z4 z5 (rightE_of z6)) ?_
    rintro _ m2 ⟨w, rfl, hle2, hw⟩
    conv => whnf
    exact WRet.same ⟨w, _, by rw [he]; rfl, hle1.trans hle2, fun h => absurd he h, fun _ => ⟨rfl, hw⟩⟩
theorem ints24_ok {m : Mem} {v u : Value} {A B : List Int} (hv : IAt m v A) (hu : IAt m u B) (hlen : A.length < 2 ^ 63) :
    PureM Tryz.prog 39 [v, u] m (.bool (decide (A = B))) := by
  obtain ⟨a, c, rfl, h0, h1, hcap⟩ := hv
  obtain ⟨a2, c2, rfl, q0, q1, hcap2⟩ := hu
  refine calls_of mixed Tryz.func39 ok_biremelaw24_ints rfl ?_
  conv => whnf
  refine Br.mk (fun hb => ?_) (fun hb => ?_)
  · conv => whnf
    refine WRet.same ⟨?_, rfl⟩
    have : A ≠ B := fun e => by subst e; simp at hb
    rw [decide_eq_false this]; rfl
  have hlE : A.length = B.length := by simp at hb; omega
  conv => whnf
  refine WLoop.mk Nat (fun k => [(5, .val (i k))]) (fun k m' => m = m' ∧ k ≤ A.length ∧ ∀ j (hj : j < A.length), j < k → A[j] = B[j]) (fun k => A.length - k) 0 ⟨rfl, trivial⟩ ⟨rfl, Nat.zero_le _, fun j hj h => by omega⟩ ?_
  rintro k m' ⟨rfl, hk, hq⟩
  conv => whnf
  refine Br.mk (fun hb => ?_) (fun hb => ?_)
  · have hk2 : k < A.length := by simpa using hb
    cases a with
    | none => rw [h0 rfl] at hk2; simp at hk2
    | some ad =>
      cases a2 with
      | none => rw [q0 rfl] at hlE; simp at hlE; rw [hlE] at hk2; simp at hk2
      | some ad2 =>
        conv => whnf
        refine WIdx.mk ad rfl ⟨by omega, by simpa using hk2⟩ ?_
        conv => whnf
        refine WLd.mk (i A[k]) (by simpa using IAt.cell (h1 ad rfl) hk2) ?_
        conv => whnf
        refine WIdx.mk ad2 rfl ⟨by omega, by have : k < B.length := by omega
                                             simpa using this⟩ ?_
        conv => whnf
        refine WLd.mk (i B[k]) (by simpa using IAt.cell (q1 ad2 rfl) (show k < B.length by omega)) ?_
        conv => whnf
        refine Br.mk (fun hb2 => ?_) (fun hb2 => ?_)
        · conv => whnf
          refine WRet.same ⟨?_, rfl⟩
          have : A ≠ B := fun e => by subst e; simp at hb2
          rw [decide_eq_false this]; rfl
        · conv => whnf
          refine WRng.mk (by apply wrap_i64 <;> omega) ?_
          conv => whnf
          refine ⟨k + 1, ⟨rfl, trivial⟩, ⟨rfl, hk2, fun j hj h => ?_⟩, by omega⟩
          by_cases e : j = k
          · subst e; simpa using hb2
          · exact hq j hj (by omega)
  · have hk2 : ¬ k < A.length := by simpa using hb
    conv => whnf
    refine WRet.same ⟨?_, rfl⟩
    have : A = B := List.ext_getElem hlE fun j h h' => hq j h (by omega)
    rw [decide_eq_true this]; rfl
end Go.Proofs.YtmnagbhllnlelaaGreatDoor
