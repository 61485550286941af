/- The law LeastSolves. -/
import Derived.Test.YtmnagbhllnlelaaGreatDoorVxLSolve
import Derived.Test.YtmnagbhllnlelaaGreatDoorVxAl24
set_option linter.unusedSimpArgs false
set_option linter.unusedVariables false
set_option maxRecDepth 100000
namespace Go.Proofs.YtmnagbhllnlelaaGreatDoor
open Go Go.Vx
open Go.Vx.IOp Go.Vx.IR Go.Vx.Opd
theorem IAt.cutTo {m : Mem} {a : Option Addr} {n c : Nat} {C : List Int} (h : IAt m (.slice a n c) C) {k n' c' : Nat} {A' : Option Addr} (hA : A' = a) (hk : k ≤ C.length) (hn : n' = k) (hc : c' = c) : IAt m (.slice A' n' c') (C.take k) := by
  subst hA; subst hn; subst hc
  obtain ⟨a2, c2, e, h0, h1, hcap⟩ := h
  cases e
  refine ⟨_, _, by rw [List.length_take]; congr 1; omega, fun e => by rw [h0 e]; exact List.take_nil, fun ad ha => ?_, by rw [List.length_take]; omega⟩
  rw [List.map_take]; exact CellsAt.take (h1 ad ha) _
theorem leastSolves_law {m : Mem} {u v : Value} {C : List Int} {E0 : List Edg} {I : Int} (hu : IAt m u C) (hv : EAt m v E0) (hlenC : C.length < 2 ^ 63) (hlen : E0.length < 2 ^ 63)
    (hal : ∀ m', Mem.le m m' → PureM Tryz.prog 37 [] m' (.bool true)) :
    CallsM Tryz.prog 10 [u, v, i I] m fun e m' => e = .returned (.bool true) ∧ Mem.le m m' := by
  obtain ⟨a, c, rfl, h0, h1, hcap⟩ := hv
  obtain ⟨a2, c2, rfl, q0, q1, hcap2⟩ := hu
  refine calls_of mixed Tryz.func10 ok_biremelaw24_LeastSolves rfl ?_
  conv => whnf
  refine WNew.mk fun b1 hb1 => ?_
  conv => whnf
  refine WSl.mk ⟨Int.le_refl _, ?_, ?_⟩ ?_
  · show (0 : Int) ≤ if (402 : Int) < C.length then 402 else (C.length : Int)
    split <;> omega
  · show (if (402 : Int) < C.length then 402 else (C.length : Int)) ≤ (c2 : Int)
    split <;> omega
  conv => whnf
  refine WApp.copy hb1 (A := a2) (n := (C.take 402).length) (if_map rfl) ?_ ((C.take 402).map i) ⟨by simp, fun ad ha => ?_⟩ (fun ha => by rw [q0 ha]; rfl) ?_ fun b cb m1 hle1 hcb hbm hcells => ?_
  · show (if (402 : Int) < C.length then 402 else (C.length : Int)).toNat - 0 = _
    rw [List.length_take]; split <;> omega
  · rw [List.map_take]; exact CellsAt.take (q1 ad ha) _
  · rw [List.length_take]; omega
  generalize hC0 : C.take 402 = C0 at *
  have hl0 : C0.length ≤ 402 := by rw [← hC0, List.length_take]; omega
  have hu1 : IAt m1 (.slice (some ⟨b, 0, none⟩) C0.length cb) C0 := ⟨_, _, rfl, (fun h => by cases h), (fun ad ha => by cases ha; exact hcells), hcb⟩
  conv => whnf
  refine WSc.mk (fun _ => And.intro (Mem.le.refl _) rfl) ?_
  conv => whnf
  refine Br.mk (fun hb => ?yes) (fun hb => ?no)
  case' yes =>
    simp only [scB, Bool.and_eq_true, decide_eq_true_eq] at hb
    conv => whnf
    refine WSl.mk ⟨Int.le_refl _, by decide, by omega⟩ ?_
    conv => whnf
    have hu2 := IAt.cutTo (k := 40) (n' := (40 : Int).toNat - (0 : Int).toNat) (c' := cb - (0 : Int).toNat) (A' := if (cb : Int) = 0 then some ⟨b, 0, none⟩ else (some ⟨b, 0, none⟩ : Option Addr).map (·.add ((0 : Int).toNat * 1))) hu1 (if_map rfl) (by omega) rfl rfl
    have hl2 : (C0.take 40).length ≤ 402 := by rw [List.length_take]; omega
    generalize C0.take 40 = C1 at hu2 hl2
  case' no =>
    conv => whnf
    have hu2 := hu1
    have hl2 : C0.length ≤ 402 := hl0
    clear hC0 hb hcells hu1 hl0 hcb
    revert C0
    intro C1
    intros
    rename _ ≤ 402 => hl2
    rename IAt _ _ _ => hu2
  all_goals
    obtain ⟨aa, cc, ee, p0, p1, pcap⟩ := hu2
    rw [ee]
    have hu3 : IAt m1 (.slice aa C1.length cc) C1 := ⟨aa, cc, rfl, p0, p1, pcap⟩
    clear ee
    -- the edges
    refine WNew.mk fun b4 hb4 => ?_
    conv => whnf
    refine WSl.mk ⟨Int.le_refl _, ?_, ?_⟩ ?_
    · show (0 : Int) ≤ if (60 : Int) < E0.length then 60 else (E0.length : Int)
      split <;> omega
    · show (if (60 : Int) < E0.length then 60 else (E0.length : Int)) ≤ (c : Int)
      split <;> omega
    conv => whnf
    refine WApp.copy hb4 (A := a) (n := (E0.take 60).length) (if_map rfl) ?_ (ecs (E0.take 60)) ⟨ecs_len _, fun ad ha => ?_⟩ (fun ha => by rw [h0 ha]; rfl) ?_ fun be ce m2 hle2 hce hbe hcellse => ?_
    · show (if (60 : Int) < E0.length then 60 else (E0.length : Int)).toNat - 0 = _
      rw [List.length_take]; split <;> omega
    · rw [take_cells]; exact CellsAt.take ((h1 ad ha).mono hle1) _
    · rw [List.length_take]; omega
    have hlE : (E0.take 60).length ≤ 60 := by rw [List.length_take]; omega
    generalize E0.take 60 = E at *
    have hv2 : EAt m2 (.slice (some ⟨be, 0, none⟩) E.length ce) E := ⟨_, _, rfl, (fun h => by cases h), (fun ad ha => by cases ha; exact hcellse), hce⟩
    have hu4 := hu3.mono hle2
    conv => whnf
    refine WNew.mk fun b5 hb5 => ?_
    conv => whnf
    refine WApp.copy hb5 rfl rfl (C1.map i) ⟨by simp, fun ad ha => (p1 ad ha).mono hle2⟩ (fun ha => by rw [p0 ha]; rfl) (by omega) fun b6 c6 m3 hle3 hc6 hb6 hcells6 => ?_
    have hu5 : IAt m3 (.slice (some ⟨b6, 0, none⟩) C1.length c6) C1 := ⟨_, _, rfl, (fun h => by cases h), (fun ad ha => by cases ha; exact hcells6), hc6⟩
    conv => whnf
    refine WNew.mk fun b7 hb7 => ?_
    conv => whnf
    refine WApp.copy hb7 rfl rfl (ecs E) ⟨ecs_len _, fun ad ha => by cases ha; exact hcellse.mono hle3⟩ (fun ha => by cases ha) (by omega) fun b8 c8 m4 hle4 hc8 hb8 hcells8 => ?_
    have hv5 : EAt m4 (.slice (some ⟨b8, 0, none⟩) E.length c8) E := ⟨_, _, rfl, (fun h => by cases h), (fun ad ha => by cases ha; exact hcells8), hc8⟩
    conv => whnf
    refine WCall.mk (leastSolve_ok (hu5.mono hle4) hv5 (by omega) (by omega)) ?_
    rintro _ m5 ⟨w, ok, rfl, hle5, hk1, hk2⟩
    have hle : Mem.le m m5 := (((hle1.trans hle2).trans hle3).trans hle4).trans hle5
    have hu6 := ((hu4.mono hle3).mono hle4).mono hle5
    have hv6 := ((hv2.mono hle3).mono hle4).mono hle5
    have fin : ∀ m', Mem.le m5 m' → PureM Tryz.prog 37 [] m' (.bool true) := fun m' h => hal m' (hle.trans h)
    have p1' : ∀ ad, aa = some ad → CellsAt m5 ad (C1.map i) := fun ad ha => ((((p1 ad ha).mono hle2).mono hle3).mono hle4).mono hle5
    clear hu3 hu4 hu5 hv2 hv5 hcells6 hcells8 hcellse hle1 hle2 hle3 hle4 hle5 hbe hce hc8 hc6 hb5 hb6 hb7 hb8 hb4
    clear p1
    conv => whnf
    refine Br.mk (fun hb2 => ?_) (fun hb2 => ?_)
    · have hr : lsCode C1 E I = 3 := by
        simp only [decide_eq_true_eq] at hb2
        unfold lsCode; rw [if_pos (.inl (by omega))]
      rw [hr] at hk1 hk2 ⊢
      obtain ⟨rfl, rfl⟩ := hk1 (by decide)
      conv => whnf
      refine WLoop.mk Unit (fun _ => [(12, .val (i 3)), (13, .val (i 0))]) (fun _ m' => m5 = m') (fun _ => 0) () ⟨rfl, rfl, trivial⟩ rfl ?_
      rintro _ m6 rfl
      conv => whnf
      refine WSc.mk (fun _ => And.intro (Mem.le.refl _) rfl) ?_
      conv => whnf
      refine Br.mk (fun hb6 => ?_) (fun hb6 => ?_)
      · exfalso; simp [scB] at hb6
      conv => whnf
      refine Br.mk (fun hb6 => by cases hb6) (fun hb6 => ?_)
      conv => whnf
      refine Br.mk (fun hb6 => ?_) (fun hb6 => by cases hb6)
      conv => whnf
      refine WSc.mk (v := true) (fun _ => And.intro (Mem.le.refl _) rfl) ?_
      conv => whnf
      refine WSc.mk (v := true) (fun _ => And.intro (Mem.le.refl _) rfl) ?_
      conv => whnf
      refine WSc.mk (v := true) (fun _ => ?_) ?_
      · conv => whnf
        refine WCall.pure (fin _ (Mem.le.refl _)) ?_
        exact And.intro (Mem.le.refl _) rfl
      conv => whnf
      exact WRet.same ⟨rfl, hle⟩
    have hc1 : ¬ (C1.length > 401 ∨ E.length > 200000) := by simp only [decide_eq_false_iff_not] at hb2; omega
    conv => whnf
    refine WSc.mk (fun _ => And.intro (Mem.le.refl _) rfl) ?_
    conv => whnf
    refine Br.mk (fun hb3 => ?_) (fun hb3 => ?_)
    · have hr : lsCode C1 E I = 2 := by
        simp only [scB, Bool.or_eq_true, decide_eq_true_eq] at hb3
        unfold lsCode; rw [if_neg hc1, if_pos (by rcases hb3 with h | h
                                                  · exact .inl h
                                                  · exact .inr (.inl h))]
      rw [hr] at hk1 hk2 ⊢
      obtain ⟨rfl, rfl⟩ := hk1 (by decide)
      conv => whnf
      refine WLoop.mk Unit (fun _ => [(12, .val (i 2)), (13, .val (i 0))]) (fun _ m' => m5 = m') (fun _ => 0) () ⟨rfl, rfl, trivial⟩ rfl ?_
      rintro _ m6 rfl
      conv => whnf
      refine WSc.mk (fun _ => And.intro (Mem.le.refl _) rfl) ?_
      conv => whnf
      refine Br.mk (fun hb6 => ?_) (fun hb6 => ?_)
      · exfalso; simp [scB] at hb6
      conv => whnf
      refine Br.mk (fun hb6 => by cases hb6) (fun hb6 => ?_)
      conv => whnf
      refine Br.mk (fun hb6 => ?_) (fun hb6 => by cases hb6)
      conv => whnf
      refine WSc.mk (v := true) (fun _ => And.intro (Mem.le.refl _) rfl) ?_
      conv => whnf
      refine WSc.mk (v := true) (fun _ => And.intro (Mem.le.refl _) rfl) ?_
      conv => whnf
      refine WSc.mk (v := true) (fun _ => ?_) ?_
      · conv => whnf
        refine WCall.pure (fin _ (Mem.le.refl _)) ?_
        exact And.intro (Mem.le.refl _) rfl
      conv => whnf
      exact WRet.same ⟨rfl, hle⟩
    have hI : 1 ≤ I ∧ I ≤ 4194304 := by
      simp only [scB, Bool.or_eq_false_iff, decide_eq_false_iff_not] at hb3; omega
    conv => whnf
    refine WLoop.mk (Nat × Bool) (fun s => [(12, .val (i (bif s.2 then 2 else 0))), (13, .val (i s.1))]) (fun s m' => m5 = m' ∧ s.1 ≤ C1.length ∧ (C1.take s.1).any (resBad I) = s.2) (fun s => C1.length - s.1) (0, false) ⟨rfl, rfl, trivial⟩ ⟨rfl, Nat.zero_le _, rfl⟩ ?_
    rintro ⟨k, bad⟩ m6 ⟨rfl, g1, g2⟩
    simp only at g1 g2
    conv => whnf
    refine WSc.mk (fun _ => And.intro (Mem.le.refl _) rfl) ?_
    conv => whnf
    refine Br.mk (fun hb6 => ?_) (fun hb6 => ?_)
    · have hk : k < C1.length ∧ bad = false := by
        simp only [scB] at hb6
        cases bad with
        | true => simp at hb6
        | false => simp at hb6; exact ⟨by omega, rfl⟩
      obtain ⟨hk, rfl⟩ := hk
      obtain ⟨ad, rfl⟩ : ∃ ad, aa = some ad := by
        cases aa with
        | none => rw [p0 rfl] at hk; simp at hk
        | some ad => exact ⟨ad, rfl⟩
      have hcell : CellAt m5 (ad.add k) (i C1[k]) := IAt.cell (p1' ad rfl) hk
      have htk : (C1.take (k + 1)).any (resBad I) = resBad I C1[k] := by
        rw [List.take_succ_eq_append_getElem hk, List.any_append, g2]; simp
      conv => whnf
      refine WIdx.mk ad rfl ⟨by omega, by simpa using hk⟩ ?_
      conv => whnf
      refine WLd.mk (i C1[k]) (by simpa using hcell) ?_
      conv => whnf
      refine WSc.mk (v := decide (C1[k] ≥ I)) (fun _ => ?_) ?_
      · conv => whnf
        refine WIdx.mk ad rfl ⟨by omega, by simpa using hk⟩ ?_
        conv => whnf
        refine WLd.mk (i C1[k]) (by simpa using hcell) ?_
        conv => whnf
        exact And.intro (Mem.le.refl _) rfl
      conv => whnf
      refine Br.mk (fun hb7 => ?_) (fun hb7 => ?_)
      · conv => whnf
        refine WRng.mk (by apply wrap_i64 <;> omega) ?_
        conv => whnf
        exact ⟨(k + 1, true), ⟨rfl, rfl, trivial⟩, ⟨rfl, hk, by simp only; rw [htk]; exact hb7⟩, by simp only; omega⟩
      · conv => whnf
        refine WRng.mk (by apply wrap_i64 <;> omega) ?_
        conv => whnf
        exact ⟨(k + 1, false), ⟨rfl, rfl, trivial⟩, ⟨rfl, hk, by simp only; rw [htk]; exact hb7⟩, by simp only; omega⟩
    cases bad with
    | true =>
      have hr : lsCode C1 E I = 2 := by
        have h3 : C1.any (resBad I) = true := by
          obtain ⟨x, hx, hx2⟩ := List.any_eq_true.1 g2
          exact List.any_eq_true.2 ⟨x, List.mem_of_mem_take hx, hx2⟩
        unfold lsCode; rw [if_neg hc1, if_pos (.inr (.inr h3))]
      rw [hr] at hk1 hk2 ⊢
      obtain ⟨rfl, rfl⟩ := hk1 (by decide)
      conv => whnf
      refine Br.mk (fun hb6 => by cases hb6) (fun hb6 => ?_)
      conv => whnf
      refine Br.mk (fun hb6 => ?_) (fun hb6 => by cases hb6)
      conv => whnf
      refine WSc.mk (v := true) (fun _ => And.intro (Mem.le.refl _) rfl) ?_
      conv => whnf
      refine WSc.mk (v := true) (fun _ => And.intro (Mem.le.refl _) rfl) ?_
      conv => whnf
      refine WSc.mk (v := true) (fun _ => ?_) ?_
      · conv => whnf
        refine WCall.pure (fin _ (Mem.le.refl _)) ?_
        exact And.intro (Mem.le.refl _) rfl
      conv => whnf
      exact WRet.same ⟨rfl, hle⟩
    | false =>
      have hk : k = C1.length := by
        simp only [scB] at hb6
        simp at hb6; omega
      subst hk
      rw [List.take_length] at g2
      have hr : lsCode C1 E I = firstCode (cdW C1.length false) E := by
        unfold lsCode; rw [if_neg hc1, if_neg (by
          rintro (h | h | h)
          · omega
          · omega
          · rw [g2] at h; cases h)]
      conv => whnf
      refine Br.mk (fun hb7 => ?_) (fun hb7 => by cases hb7)
      conv => whnf
      refine WCall.pure (wrong_ok hv6 (by omega) C1.length false) ?_
      rw [hr] at hk1 hk2 ⊢
      conv => whnf
      refine Br.mk (fun hb8 => ?_) (fun hb8 => ?_)
      · have hne : firstCode (cdW C1.length false) E ≠ 0 := by simpa using hb8
        obtain ⟨rfl, rfl⟩ := hk1 hne
        conv => whnf
        refine WSc.mk (v := true) (fun _ => And.intro (Mem.le.refl _) rfl) ?_
        conv => whnf
        refine WSc.mk (v := true) (fun _ => And.intro (Mem.le.refl _) rfl) ?_
        conv => whnf
        refine WSc.mk (v := true) (fun _ => ?_) ?_
        · conv => whnf
          refine WCall.pure (fin _ (Mem.le.refl _)) ?_
          exact And.intro (Mem.le.refl _) rfl
        conv => whnf
        refine WRet.same ⟨?_, hle⟩
        simp [scB, resVal]
      · have he : firstCode (cdW C1.length false) E = 0 := by simpa using hb8
        obtain ⟨rfl, hw⟩ := hk2 he
        have hls : lsCode C1 E I = 0 := by rw [hr, he]
        obtain ⟨z1, z2, z3, z4, z5, z6⟩ := lsCode_zero hls
        rw [he]
        conv => whnf
        refine WCall.mk (refSolve_ok hu6 hv6 z2 z1 z3 z4 z5 (rightE_of z6)) ?_
        rintro _ m7 ⟨w2, rfl, hle7, hw2⟩
        have hwm := hw.mono hle7
        have hSl : ((solveS I I E (C1.length + 1) C1).getD []).length ≤ 401 := by
          cases hS : solveS I I E (C1.length + 1) C1 with
          | none => simp
          | some y =>
            have := (solve_least (M := I) (by omega) rfl (rightE_of z6) hS).1
            simp only [Option.getD_some]; omega
        generalize (solveS I I E (C1.length + 1) C1) = S at *
        conv => whnf
        refine WSc.mk (v := true) (fun _ => ?_) ?_
        · conv => whnf
          generalize S.isSome = z
          cases z <;> exact And.intro (Mem.le.refl _) rfl
        conv => whnf
        refine WSc.mk (v := true) (fun _ => ?_) ?_
        · conv => whnf
          refine WCall.pure (ints24_ok hwm hw2 (by omega)) ?_
          rw [decide_eq_true rfl]
          exact And.intro (Mem.le.refl _) rfl
        conv => whnf
        refine WSc.mk (v := true) (fun _ => ?_) ?_
        · conv => whnf
          refine WCall.pure (fin _ hle7) ?_
          exact And.intro (Mem.le.refl _) rfl
        conv => whnf
        refine WRet.same ⟨?_, hle.trans hle7⟩
        simp [scB, resVal]
theorem leastSolves_ok {m : Mem} {u v : Value} {C : List Int} {E0 : List Edg} {I : Int} (hu : IAt m u C) (hv : EAt m v E0) (hlenC : C.length < 2 ^ 63) (hlen : E0.length < 2 ^ 63) {T : Nat} {fr : Nat × Nat} (hm : m 0 = some (.cells ⟨cells0⟩ T fr)) :
    CallsM Tryz.prog 10 [u, v, i I] m fun e m' => e = .returned (.bool true) ∧ Mem.le m m' := leastSolves_law hu hv hlenC hlen fun _ h => alive24_calls (h _ _ hm)
end Go.Proofs.YtmnagbhllnlelaaGreatDoor
