/- OrderHolds: the law returns true. -/
import Derived.Test.YtmnagbhllnlelaaGreatDoorVxOrd
import Derived.Test.YtmnagbhllnlelaaGreatDoorVxAl20
set_option linter.unusedSimpArgs false
set_option linter.unusedVariables false
set_option maxRecDepth 100000
namespace Go.Proofs.YtmnagbhllnlelaaGreatDoor
open Go Go.Vx
open Go.Vx.IOp Go.Vx.IR Go.Vx.Opd
theorem IAt.cut {m : Mem} {a : Option Addr} {n c : Nat} {C : List Int} (h : IAt m (.slice a n c) C) {k n' c' : Nat} {A' : Option Addr} (hA : A' = a) (hk : k ≤ C.length) (hn : n' = k) (hc : c' = c) : IAt m (.slice A' n' c') (C.take k) := by
  subst hA; subst hn; subst hc
  obtain ⟨a2, c2, e, h0, h1, hcap⟩ := h
  cases e
  refine ⟨_, _, by rw [List.length_take]; congr 1; omega, fun e => by rw [h0 e]; exact List.take_nil, fun ad ha => ?_, by rw [List.length_take]; omega⟩
  rw [List.map_take]; exact CellsAt.take (h1 ad ha) _
theorem orderHolds_ok {m : Mem} {v u : Value} {E : List Edg} {C : List Int} {I : Int} (hv : EAt m v E) (hu : IAt m u C) (hlen : E.length < 2 ^ 63) (hlenC : C.length < 2 ^ 63) {T : Nat} {fr : Nat × Nat} (hm : m 0 = some (.cells ⟨cells0⟩ T fr)) :
    CallsM Tryz.prog 5 [v, u, i I] m fun e m' => e = .returned (.bool true) ∧ Mem.le m m' := by
  obtain ⟨a2, c2, rfl, q0, q1, hcap2⟩ := hu
  have hu : IAt m (.slice a2 C.length c2) C := ⟨a2, c2, rfl, q0, q1, hcap2⟩
  refine calls_of mixed Tryz.func5 ok_biremelaw20_OrderHolds rfl ?_
  conv => whnf
  refine WNew.mk fun b1 hb1 => ?_
  conv => whnf
  refine WSl.mk ⟨Int.le_refl _, ?_, ?_⟩ ?_
  · show (0 : Int) ≤ if (402 : Int) < C.length then 402 else (C.length : Int)
    split <;> omega
  · show (if (402 : Int) < C.length then 402 else (C.length : Int)) ≤ (c2 : Int)
    split <;> omega
  conv => whnf
  refine WApp.copy hb1 (A := a2) (n := (C.take 402).length) (if_map rfl) ?_ ((C.take 402).map i) ⟨by simp, fun ad ha => ?_⟩ (fun ha => by rw [q0 ha]; rfl) ?_ fun b cb m1 hle1 hcb hbm hcells => ?_
  · show (if (402 : Int) < C.length then 402 else (C.length : Int)).toNat - 0 = _
    rw [List.length_take]; split <;> omega
  · rw [List.map_take]; exact CellsAt.take (q1 ad ha) _
  · rw [List.length_take]; omega
  generalize hC0 : C.take 402 = C0 at *
  have hl0 : C0.length ≤ 402 := by rw [← hC0, List.length_take]; omega
  have hu1 : IAt m1 (.slice (some ⟨b, 0, none⟩) C0.length cb) C0 := ⟨_, _, rfl, (fun h => by cases h), (fun ad ha => by cases ha; exact hcells), hcb⟩
  conv => whnf
  refine WSc.mk (fun _ => And.intro (Mem.le.refl _) rfl) ?_
  conv => whnf
  refine Br.mk (fun hb => ?yes) (fun hb => ?no)
  case' yes =>
    simp only [scB, Bool.and_eq_true, decide_eq_true_eq] at hb
    conv => whnf
    refine WSl.mk ⟨Int.le_refl _, by decide, by omega⟩ ?_
    conv => whnf
    have hu2 := IAt.cut (k := 40) (n' := (40 : Int).toNat - (0 : Int).toNat) (c' := cb - (0 : Int).toNat) (A' := if (cb : Int) = 0 then some ⟨b, 0, none⟩ else (some ⟨b, 0, none⟩ : Option Addr).map (·.add ((0 : Int).toNat * 1))) hu1 (if_map rfl) (by omega) rfl rfl
    have hl2 : (C0.take 40).length ≤ 402 := by rw [List.length_take]; omega
    generalize C0.take 40 = C1 at hu2 hl2
  case' no =>
    conv => whnf
    have hu2 := hu1
    have hl2 : C0.length ≤ 402 := hl0
    clear hC0 hb hcells hu1 hl0 hcb
    revert C0
    intro C1
    intros
    rename _ ≤ 402 => hl2
    rename IAt _ _ _ => hu2
  all_goals
    obtain ⟨aa, cc, ee, p0, p1, pcap⟩ := hu2
    rw [ee]
    have hu3 : IAt m1 (.slice aa C1.length cc) C1 := ⟨aa, cc, rfl, p0, p1, pcap⟩
    refine WCall.mk (few_ok (hv.mono hle1) hlen) ?_
    rintro _ m2 ⟨g, rfl, hle2, hg⟩
    conv => whnf
    refine WNew.mk fun b2 hb2 => ?_
    conv => whnf
    refine WApp.copy hb2 rfl rfl (C1.map i) ⟨by simp, fun ad ha => (p1 ad ha).mono hle2⟩ (fun ha => by rw [p0 ha]; rfl) (by omega) fun b3 c3 m3 hle3 hc3 hbm3 hcells3 => ?_
    have hown : IAt m3 (.slice (some ⟨b3, 0, none⟩) C1.length c3) C1 := ⟨_, _, rfl, (fun h => by cases h), (fun ad ha => by cases ha; exact hcells3), hc3⟩
    have hl200 : (E.take 200).length < 2 ^ 63 := by rw [List.length_take]; omega
    have hu4 := (hu3.mono hle2).mono hle3
    conv => whnf
    refine WCall.pure (holds_ok (hg.mono hle3) hu4 hl200 (by omega)) ?_
    conv => whnf
    refine WCall.mk (few_ok (((hv.mono hle1).mono hle2).mono hle3) hlen) ?_
    rintro _ m4 ⟨g4, rfl, hle4, hg4⟩
    conv => whnf
    refine WCall.pure (refHolds_ok hg4 (hown.mono hle4) hl200 (by omega)) ?_
    conv => whnf
    refine WLoop.mk Nat (fun k => [(14, .val (i k))]) (fun k m' => m4 = m' ∧ k ≤ C1.length) (fun k => C1.length - k) 0 ⟨rfl, trivial⟩ ⟨rfl, Nat.zero_le _⟩ ?_
    rintro k m' ⟨rfl, hk⟩
    conv => whnf
    refine Br.mk (fun hb0 => ?_) (fun hb0 => ?_)
    · have hk2 : k < C1.length := by simpa using hb0
      conv => whnf
      obtain ⟨ad, rfl⟩ : ∃ ad, aa = some ad := by
        cases aa with
        | none => rw [p0 rfl] at hk2; simp at hk2
        | some ad => exact ⟨ad, rfl⟩
      refine WIdx.mk ad rfl ⟨by omega, by simpa using hk2⟩ ?_
      conv => whnf
      refine WLd.mk (i C1[k]) ?_ ?_
      · have := (((IAt.cell (p1 ad rfl) hk2).mono hle2).mono hle3).mono hle4
        simpa using this
      conv => whnf
      refine WIdx.mk ⟨b3, 0, none⟩ rfl ⟨by omega, by simpa using hk2⟩ ?_
      conv => whnf
      refine WLd.mk (i C1[k]) ?_ ?_
      · have := (IAt.cell hcells3 hk2).mono hle4
        simpa using this
      conv => whnf
      refine Br.mk (fun hb0 => ?_) (fun hb0 => ?_)
      · simp at hb0
      conv => whnf
      refine WRng.mk (by apply wrap_i64 <;> omega) ?_
      conv => whnf
      exact ⟨k + 1, ⟨rfl, trivial⟩, ⟨rfl, hk2⟩, by omega⟩
    conv => whnf
    refine WSc.mk (fun _ => And.intro (Mem.le.refl _) rfl) ?_
    conv => whnf
    refine WSc.mk (v := true) (fun _ => ?_) ?_
    · conv => whnf
      refine WCall.mk (few_ok ((((hv.mono hle1).mono hle2).mono hle3).mono hle4) hlen) ?_
      rintro _ m5 ⟨g5, rfl, hle5, hg5⟩
      conv => whnf
      refine WCall.pure (edges_ok ((hg.mono (hle3.trans hle4)).mono hle5) hg5 hl200) ?_
      rw [decide_eq_true rfl]
      exact And.intro hle5 rfl
    conv => whnf
    refine WSc.mk (v := true) (fun _ => ?_) ?_
    · conv => whnf
      refine WCall.pure (alive20_calls (T := T) (fr := fr) (hle4 _ _ (hle3 _ _ (hle2 _ _ (hle1 _ _ hm))))) ?_
      exact And.intro (Mem.le.refl _) rfl
    conv => whnf
    refine WRet.same ⟨?_, ((hle1.trans hle2).trans hle3).trans hle4⟩
    simp [scB, resVal]
end Go.Proofs.YtmnagbhllnlelaaGreatDoor
