/- The law LeastSolved. -/
import Derived.Test.YtmnagbhllnlelaaGreatDoorVxLSolve
import Derived.Test.YtmnagbhllnlelaaGreatDoorVxPush
import Derived.Test.YtmnagbhllnlelaaGreatDoorVxOpenB
import Derived.Test.YtmnagbhllnlelaaGreatDoorVxAl24
set_option linter.unusedSimpArgs false
set_option linter.unusedVariables false
set_option maxRecDepth 100000
namespace Go.Proofs.YtmnagbhllnlelaaGreatDoor
open Go Go.Vx
open Go.Vx.IOp Go.Vx.IR Go.Vx.Opd
/-! Later cycles with the same residues. -/
def turnsB (B : List Int) (j : Nat) : Int := if j < B.length then (B.getD j 0).tmod 4 else 0
def laterS (C B : List Int) (I : Int) (k : Nat) : List Int := (List.range k).map fun j => C.getD j 0 + turnsB B j * I
theorem laterS_len {C B : List Int} {I : Int} {k : Nat} : (laterS C B I k).length = k := by unfold laterS; simp
theorem laterS_succ {C B : List Int} {I : Int} {k : Nat} : laterS C B I (k + 1) = laterS C B I k ++ [C.getD k 0 + turnsB B k * I] := by
  unfold laterS; rw [List.range_succ, List.map_append]; rfl
theorem laterS_get {C B : List Int} {I : Int} {k j : Nat} (hj : j < k) : (laterS C B I k).getD j 0 = C.getD j 0 + turnsB B j * I := by
  unfold laterS
  rw [List.getD_eq_getElem?_getD, List.getElem?_map, List.getElem?_range hj]; rfl
theorem turns_in {B : List Int} (hB : ∀ x ∈ B, 0 ≤ x ∧ x ≤ 255) (j : Nat) : 0 ≤ turnsB B j ∧ turnsB B j ≤ 3 := by
  unfold turnsB
  split
  · rename_i h
    have : B.getD j 0 = B[j] := by rw [List.getD_eq_getElem?_getD, List.getElem?_eq_getElem h]; rfl
    rw [this]
    have := hB _ (List.getElem_mem h)
    rw [Int.tmod_eq_emod_of_nonneg this.1]; omega
  · omega
theorem later_sol {C B : List Int} {E : List Edg} {I : Int} (hI : 1 ≤ I) (hB : ∀ x ∈ B, 0 ≤ x ∧ x ≤ 255) (h : E.any (heldN (laterS C B I C.length) I) = false) : Walk.Sol I (E.map (wE I)) (C.getD · 0) ((laterS C B I C.length).getD · 0) := by
  have hout : ∀ j, ¬ j < C.length → (laterS C B I C.length).getD j 0 = 0 ∧ C.getD j 0 = 0 := fun j hj => by
    rw [List.getD_eq_getElem?_getD, List.getD_eq_getElem?_getD, List.getElem?_eq_none (by rw [laterS_len]; omega), List.getElem?_eq_none (by omega)]; exact ⟨rfl, rfl⟩
  refine ⟨fun j => ?_, fun j => ?_, held_feas.1 h⟩
  · show C.getD j 0 ≤ (laterS C B I C.length).getD j 0
    by_cases hj : j < C.length
    · rw [laterS_get hj]
      have := Int.mul_nonneg (turns_in hB j).1 (show 0 ≤ I by omega)
      omega
    · rw [(hout j hj).1, (hout j hj).2]; exact Int.le_refl _
  · show I ∣ (laterS C B I C.length).getD j 0 - C.getD j 0
    by_cases hj : j < C.length
    · rw [laterS_get hj]
      exact ⟨turnsB B j, by rw [Int.mul_comm]; omega⟩
    · rw [(hout j hj).1, (hout j hj).2]; exact Int.dvd_zero _
theorem fit_big {C : List Int} {I : Int} {E : List Edg} (h1 : C.length ≤ 401) (h2 : ∀ x ∈ C, 0 ≤ x ∧ x ≤ 1125899906842624) (hI : 1 ≤ I) (hI2 : I ≤ 4194304) (hE : ∀ e ∈ E, RightE C.length e) : Fit C I E := by
  refine ⟨h1, h2, ⟨by omega, by omega⟩, fun e he => ?_⟩
  obtain ⟨a1, a2, a3, a4, a5, a6, a7, a8⟩ := hE e he
  exact ⟨a1, a2, a3, a4, a5, a6, a7, a8⟩
theorem In.mem {n : Nat} {B : Int} {C : List Int} (h : In n B C) : ∀ x ∈ C, 0 ≤ x ∧ x ≤ B := fun x hx => by
  obtain ⟨j, hj, rfl⟩ := List.getElem_of_mem hx
  have := h.2 j
  rw [List.getD_eq_getElem?_getD, List.getElem?_eq_getElem hj] at this
  exact this
theorem solved_in {C y : List Int} {E : List Edg} {I : Int} (hI : 1 ≤ I) (hI2 : I ≤ 4194304) (hC : ∀ x ∈ C, 0 ≤ x ∧ x < I) (hn : C.length ≤ 401) (hl : E.length ≤ 200000) (hE : ∀ e ∈ E, RightE C.length e) (h : solveS I I E (C.length + 1) C = some y) : In C.length 1125899906842624 y := by
  obtain ⟨j, hj, _, rfl⟩ := solve_some _ _ _ h
  have := st_small (M := I) (I := I) (by omega) hI2 (by omega) (In_of hC hI2) hn hl hE (k := j + 1) (by omega) (j := 0) (Nat.zero_le _) false
  exact this
theorem IAt.cellAt {m : Mem} {a : Option Addr} {n c : Nat} {C : List Int} (h : IAt m (.slice a n c) C) {k : Nat} (hk : k < C.length) : n = C.length ∧ ∃ ad, a = some ad ∧ CellAt m (ad.add k) (i (C.getD k 0)) := by
  obtain ⟨a2, c2, e, h0, h1, hcap⟩ := h
  cases e
  cases a with
  | none => rw [h0 rfl] at hk; simp at hk
  | some ad =>
    have e : C.getD k 0 = C[k] := by rw [List.getD_eq_getElem?_getD, List.getElem?_eq_getElem hk]; rfl
    exact ⟨rfl, ad, rfl, by rw [e]; exact IAt.cell (h1 ad rfl) hk⟩
theorem wp_skip {P : Program} {K : Env → Mem → Prop} {Q : Post} {e : Env} {m : Mem} (h : K e m) : wpI P .skip (thenE K Q) e m := h
theorem wp_seq {P : Program} {a b : IR} {Q : Post} {e : Env} {m : Mem} (h : wpI P a (thenE (fun e' m' => wpI P b Q e' m') Q) e m) : wpI P (.seq a b) Q e m := h
theorem wp_block {P : Program} {n : Nat} {a : IR} {Q : Post} {e : Env} {m : Mem} (h : wpI P a (blockE n Q) e m) : wpI P (.block n a) Q e m := h
theorem wp_tree {P : Program} {l : List E} {r : RT} {Q : Post} {e : Env} {m : Mem} (h : treeI P l (Q .normal) (fun ch m' => Q (.panic ch) (fun _ => none) m') r e m) : wpI P (.tree l r) Q e m := h
theorem tree_step {P : Program} {l : List E} {j : Nat} {r : RT} {K : Env → Mem → Prop} {X : List PanicEntry → Mem → Prop} {e : Env} {m : Mem} {x : E} (hx : l[j]? = some x) (h : stepE P x e m (fun e' m' => treeI P l K X r e' m') X) : treeI P l K X (.pure j r) e m := by
  show (match l[j]? with | some x => stepE P x e m (fun e' m' => treeI P l K X r e' m') X | none => False)
  rw [hx]; exact h
theorem leastSolved_law {m : Mem} {u v z : Value} {C0 : List Int} {E0 : List Edg} {B : List Int} {I : Int} (hu : IAt m u C0) (hv : EAt m v E0) (hz : BAt m z B) (hlenC : C0.length < 2 ^ 63) (hlen : E0.length < 2 ^ 63) (hlenB : B.length < 2 ^ 63)
    (hal : ∀ m', Mem.le m m' → PureM Tryz.prog 37 [] m' (.bool true)) :
    CallsM Tryz.prog 11 [u, v, i I, z] m fun e m' => e = .returned (.bool true) ∧ Mem.le m m' := by
  obtain ⟨a, c, rfl, h0, h1, hcap⟩ := hv
  obtain ⟨a2, c2, rfl, q0, q1, hcap2⟩ := hu
  obtain ⟨a3, c3, rfl, y0, y1, hcap3, hB⟩ := hz
  refine calls_of mixed Tryz.func11 ok_biremelaw24_LeastSolved rfl ?_
  conv => whnf
  refine WNew.mk fun b1 hb1 => ?_
  conv => whnf
  refine WSl.mk ⟨Int.le_refl _, ?_, ?_⟩ ?_
  · show (0 : Int) ≤ if (12 : Int) < C0.length then 12 else (C0.length : Int)
    split <;> omega
  · show (if (12 : Int) < C0.length then 12 else (C0.length : Int)) ≤ (c2 : Int)
    split <;> omega
  conv => whnf
  refine WApp.copy hb1 (A := a2) (n := (C0.take 12).length) (if_map rfl) ?_ ((C0.take 12).map i) ⟨by simp, fun ad ha => ?_⟩ (fun ha => by rw [q0 ha]; rfl) ?_ fun b cb m1 hle1 hcb hbm hcells => ?_
  · show (if (12 : Int) < C0.length then 12 else (C0.length : Int)).toNat - 0 = _
    rw [List.length_take]; split <;> omega
  · rw [List.map_take]; exact CellsAt.take (q1 ad ha) _
  · rw [List.length_take]; omega
  have hl0 : (C0.take 12).length ≤ 12 := by rw [List.length_take]; omega
  generalize C0.take 12 = C at *
  conv => whnf
  refine WNew.mk fun b4 hb4 => ?_
  conv => whnf
  refine WSl.mk ⟨Int.le_refl _, ?_, ?_⟩ ?_
  · show (0 : Int) ≤ if (40 : Int) < E0.length then 40 else (E0.length : Int)
    split <;> omega
  · show (if (40 : Int) < E0.length then 40 else (E0.length : Int)) ≤ (c : Int)
    split <;> omega
  conv => whnf
  refine WApp.copy hb4 (A := a) (n := (E0.take 40).length) (if_map rfl) ?_ (ecs (E0.take 40)) ⟨ecs_len _, fun ad ha => ?_⟩ (fun ha => by rw [h0 ha]; rfl) ?_ fun be ce m2 hle2 hce hbe hcellse => ?_
  · show (if (40 : Int) < E0.length then 40 else (E0.length : Int)).toNat - 0 = _
    rw [List.length_take]; split <;> omega
  · rw [take_cells]; exact CellsAt.take ((h1 ad ha).mono hle1) _
  · rw [List.length_take]; omega
  have hlE : (E0.take 40).length ≤ 40 := by rw [List.length_take]; omega
  generalize E0.take 40 = E at *
  conv => whnf
  refine WNew.mk fun b5 hb5 => ?_
  conv => whnf
  refine WApp.copy hb5 rfl rfl (C.map i) ⟨by simp, fun ad ha => by cases ha; exact hcells.mono hle2⟩ (fun ha => by cases ha) (by omega) fun b6 c6 m3 hle3 hc6 hb6 hcells6 => ?_
  have hu5 : IAt m3 (.slice (some ⟨b6, 0, none⟩) C.length c6) C := ⟨_, _, rfl, (fun h => by cases h), (fun ad ha => by cases ha; exact hcells6), hc6⟩
  conv => whnf
  refine WNew.mk fun b7 hb7 => ?_
  conv => whnf
  refine WApp.copy hb7 rfl rfl (ecs E) ⟨ecs_len _, fun ad ha => by cases ha; exact hcellse.mono hle3⟩ (fun ha => by cases ha) (by omega) fun b8 c8 m4 hle4 hc8 hb8 hcells8 => ?_
  have hv5 : EAt m4 (.slice (some ⟨b8, 0, none⟩) E.length c8) E := ⟨_, _, rfl, (fun h => by cases h), (fun ad ha => by cases ha; exact hcells8), hc8⟩
  conv => whnf
  refine WCall.mk (leastSolve_ok (hu5.mono hle4) hv5 (by omega) (by omega)) ?_
  rintro _ m5 ⟨w, ok, rfl, hle5, hk1, hk2⟩
  have hle : Mem.le m m5 := (((hle1.trans hle2).trans hle3).trans hle4).trans hle5
  have hcr : CellsAt m5 ⟨b, 0, none⟩ (C.map i) := (((hcells.mono hle2).mono hle3).mono hle4).mono hle5
  have hv6 : EAt m5 (.slice (some ⟨be, 0, none⟩) E.length ce) E := ⟨_, _, rfl, (fun h => by cases h), (fun ad ha => by cases ha; exact ((hcellse.mono hle3).mono hle4).mono hle5), hce⟩
  have hcz : ∀ ad, a3 = some ad → CellsAt m5 ad (B.map (Value.int .u8)) := fun ad ha => (y1 ad ha).mono hle
  have fin : ∀ m', Mem.le m5 m' → PureM Tryz.prog 37 [] m' (.bool true) := fun m' h => hal m' (hle.trans h)
  clear hu5 hv5 hcells6 hcells8 hcellse hcells
  conv => whnf
  refine Br.mk (fun hb2 => ?_) (fun hb2 => ?_)
  · conv => whnf
    refine WCall.pure (fin _ (Mem.le.refl _)) ?_
    conv => whnf
    exact WRet.same ⟨rfl, hle⟩
  have hls : lsCode C E I = 0 := by simpa using hb2
  obtain ⟨z1, z2, z3, z4, z5, z6⟩ := lsCode_zero hls
  have hE := rightE_of z6
  obtain ⟨rfl, hw⟩ := hk2 hls
  rw [hls]
  have hCg : ∀ k, k < C.length → CellAt m5 ((⟨b, 0, none⟩ : Addr).add k) (i (C.getD k 0)) ∧ 0 ≤ C.getD k 0 ∧ C.getD k 0 < I := fun k hk => by
    have e : C.getD k 0 = C[k] := by rw [List.getD_eq_getElem?_getD, List.getElem?_eq_getElem hk]; rfl
    rw [e]; exact ⟨IAt.cell hcr hk, z5 _ (List.getElem_mem hk)⟩
  have hcase : solveS I I E (C.length + 1) C = none ∨ ∃ y, solveS I I E (C.length + 1) C = some y := by
    cases solveS I I E (C.length + 1) C with
    | none => exact .inl rfl
    | some y => exact .inr ⟨y, rfl⟩
  rcases hcase with hS | ⟨y, hS⟩
  · have hok : (solveS I I E (C.length + 1) C).isSome = false := by rw [hS]; rfl
    rw [hok]
    conv => whnf
    refine WLoop.mk (Nat × Option Addr × Nat) (fun s => [(15, .val (i s.1)), (14, .val (.slice s.2.1 s.1 s.2.2))]) (fun s m' => Mem.le m5 m' ∧ PushI m5 m' s.2.1 s.2.2 (laterS C B I s.1) ∧ s.1 ≤ C.length) (fun s => C.length - s.1) (0, none, 0) ⟨rfl, rfl, trivial⟩ ⟨Mem.le.refl _, .inl ⟨rfl, rfl, rfl⟩, Nat.zero_le _⟩ ?_
    rintro ⟨k, A, cA⟩ m6 ⟨g1, g2, g3⟩
    simp only at g2 g3
    conv => whnf
    refine Br.mk (fun hb3 => ?_) (fun hb3 => ?_)
    · have hk : k < C.length := by
        have : (k : Int) < C.length := of_decide_eq_true hb3
        omega
      obtain ⟨r1, r2, r3⟩ := hCg k hk
      have r1' := r1.mono g1
      refine wp_skip ?_
      refine wp_seq ?_
      refine wp_block ?_
      refine wp_seq ?_
      refine wp_seq ?_
      refine wp_tree ?_
      refine tree_step rfl ?_
      conv => whnf
      refine Br.mk (fun h => by cases h) (fun _ => ?_)
      conv => whnf
      refine Br.mk (fun h => by cases h) (fun _ => ?_)
      conv => whnf
      refine Br.mk (fun h => by cases h) (fun _ => ?_)
      conv => whnf
      -- how many turns later
      obtain ⟨t1, t2⟩ := turns_in hB k
      have t3 : turnsB B k * I ≤ 3 * I := Int.mul_le_mul_of_nonneg_right t2 (by omega)
      have t4 : 0 ≤ turnsB B k * I := Int.mul_nonneg t1 (by omega)
      refine Br.mk (fun hb4 => ?_) (fun hb4 => ?_)
      · -- yes
        have hkB : k < B.length := by have : (k : Int) < B.length := of_decide_eq_true hb4; omega
        obtain ⟨ad, rfl⟩ : ∃ ad, a3 = some ad := by
          cases a3 with
          | none => rw [y0 rfl] at hkB; simp at hkB
          | some ad => exact ⟨ad, rfl⟩
        have hx : CellAt m6 (ad.add k) (.int .u8 B[k]) := (hcz ad rfl k _ (by simp [hkB])).mono g1
        have hx2 := hB _ (List.getElem_mem hkB)
        have htb : turnsB B k = B[k].tmod 4 := by unfold turnsB; rw [if_pos hkB, List.getD_eq_getElem?_getD, List.getElem?_eq_getElem hkB]; rfl
        conv => whnf
        refine WIdx.mk ad rfl ⟨by omega, by simpa using hkB⟩ ?_
        conv => whnf
        refine WLd.mk (.int .u8 B[k]) (by simpa using hx) ?_
        conv => whnf
        refine WNe.mk (by decide) ?_
        conv => whnf
        rw [htb] at t1 t2 t3 t4
        refine WRng.mk (by apply wrap_i64 <;> omega) ?_
        have hsucc : laterS C B I (k + 1) = laterS C B I k ++ [C.getD k 0 + B[k].tmod 4 * I] := by rw [laterS_succ, htb]
        conv => whnf
        refine WIdx.mk ⟨b, 0, none⟩ rfl ⟨by omega, by simpa using hk⟩ ?_
        conv => whnf
        refine WLd.mk (i (C.getD k 0)) (by simpa using r1') ?_
        conv => whnf
        refine WRng.mk (by apply wrap_i64 <;> omega) ?_
        conv => whnf
        refine WRng.mk (by apply wrap_i64 <;> omega) ?_
        conv => whnf
        refine WNew.mk fun bx hbx => ?_
        conv => whnf
        have hle7 := g1.trans (Mem.le_set (o := Cells [i (C.getD k 0 + B[k].tmod 4 * I)] 3) hbx)
        refine push_ok (L := laterS C B I k) (z := C.getD k 0 + B[k].tmod 4 * I) hle7 (g2.mono (Mem.le_set hbx)) (Mem.set_same _ _ _) laterS_len.symm (by rw [laterS_len]; omega) fun a' c' m' hle8 hp8 => ?_
        rw [← hsucc] at hp8
        rw [laterS_len]
        conv => whnf
        refine WRng.mk (by apply wrap_i64 <;> omega) ?_
        conv => whnf
        exact ⟨(k + 1, a', c'), ⟨rfl, rfl, trivial⟩, ⟨hle8, hp8, hk⟩, by simp only; omega⟩
      · -- no
        have hkB : ¬ k < B.length := by have : ¬ ((k : Int) < B.length) := of_decide_eq_false hb4; omega
        have htb : turnsB B k = 0 := by unfold turnsB; rw [if_neg hkB]
        rw [htb] at t1 t2 t3 t4
        have hsucc : laterS C B I (k + 1) = laterS C B I k ++ [C.getD k 0 + (0 : Int) * I] := by rw [laterS_succ, htb]
        conv => whnf
        refine WIdx.mk ⟨b, 0, none⟩ rfl ⟨by omega, by simpa using hk⟩ ?_
        conv => whnf
        refine WLd.mk (i (C.getD k 0)) (by simpa using r1') ?_
        conv => whnf
        refine WRng.mk (by apply wrap_i64 <;> omega) ?_
        conv => whnf
        refine WRng.mk (by apply wrap_i64 <;> omega) ?_
        conv => whnf
        refine WNew.mk fun bx hbx => ?_
        conv => whnf
        have hle7 := g1.trans (Mem.le_set (o := Cells [i (C.getD k 0 + (0 : Int) * I)] 3) hbx)
        refine push_ok (L := laterS C B I k) (z := C.getD k 0 + (0 : Int) * I) hle7 (g2.mono (Mem.le_set hbx)) (Mem.set_same _ _ _) laterS_len.symm (by rw [laterS_len]; omega) fun a' c' m' hle8 hp8 => ?_
        rw [← hsucc] at hp8
        rw [laterS_len]
        conv => whnf
        refine WRng.mk (by apply wrap_i64 <;> omega) ?_
        conv => whnf
        exact ⟨(k + 1, a', c'), ⟨rfl, rfl, trivial⟩, ⟨hle8, hp8, hk⟩, by simp only; omega⟩
    have hk : k = C.length := by
      have : ¬ ((k : Int) < C.length) := of_decide_eq_false hb3
      omega
    subst hk
    have hmore := g2.iat
    rw [laterS_len] at hmore
    have hlb : ∀ x ∈ laterS C B I C.length, 0 ≤ x ∧ x ≤ 1125899906842624 := fun x hx => by
      obtain ⟨j, hj, rfl⟩ := List.getElem_of_mem hx
      rw [laterS_len] at hj
      have e := laterS_get (C := C) (B := B) (I := I) hj
      rw [List.getD_eq_getElem?_getD, List.getElem?_eq_getElem (by rw [laterS_len]; exact hj)] at e
      obtain ⟨_, r2, r3⟩ := hCg j hj
      obtain ⟨t1, t2⟩ := turns_in hB j
      have t3 : turnsB B j * I ≤ 3 * I := Int.mul_le_mul_of_nonneg_right t2 (by omega)
      have t4 : 0 ≤ turnsB B j * I := Int.mul_nonneg t1 (by omega)
      simp only [Option.getD_some] at e
      rw [e]; omega
    have hfitL : Fit (laterS C B I C.length) I E := fit_big (by rw [laterS_len]; exact z1) hlb z3 z4 (by rw [laterS_len]; exact hE)
    conv => whnf
    refine WSc.mk (v := false) (fun h => by cases h) ?_
    conv => whnf
    refine Br.mk (fun h => by cases h) (fun _ => ?_)
    conv => whnf
    refine WCall.pure (held_ok (hv6.mono g1) hmore (by omega) hfitL) ?_
    conv => whnf
    refine Br.mk (fun hb5 => ?_) (fun hb5 => ?_)
    · conv => whnf
      refine WCall.pure (fin _ g1) ?_
      conv => whnf
      exact WRet.same ⟨rfl, hle.trans g1⟩
    · exfalso
      have hany : E.any (heldN (laterS C B I C.length) I) = false := by simpa using hb5
      exact solve_settles (M := I) (by omega) rfl hE (later_sol z3 hB hany) hS
  · have hok : (solveS I I E (C.length + 1) C).isSome = true := by rw [hS]; rfl
    rw [hok]
    rw [hS] at hw
    have hw : IAt m5 w y := hw
    obtain ⟨hyl, hsol, hmin⟩ := solve_least (M := I) (by omega) rfl hE hS
    have hyin := solved_in z3 z4 z5 z1 z2 hE hS
    have hfitY : Fit y I E := fit_big (by omega) hyin.mem z3 z4 (by rw [hyl]; exact hE)
    have hyr : ∀ k, k < C.length → 0 ≤ y.getD k 0 ∧ (y.getD k 0).tmod I = C.getD k 0 := fun k hk => by
      obtain ⟨_, r2, r3⟩ := hCg k hk
      have g1 := hsol.ge k
      have g2 := hsol.cg k
      exact ⟨by omega, mod_of r2 r3 g1 g2⟩
    obtain ⟨aw, cw, rfl⟩ := hw.slice
    conv => whnf
    refine WLoop.mk (Nat × Option Addr × Nat) (fun s => [(15, .val (i s.1)), (14, .val (.slice s.2.1 s.1 s.2.2))]) (fun s m' => Mem.le m5 m' ∧ PushI m5 m' s.2.1 s.2.2 (laterS C B I s.1) ∧ s.1 ≤ C.length) (fun s => C.length - s.1) (0, none, 0) ⟨rfl, rfl, trivial⟩ ⟨Mem.le.refl _, .inl ⟨rfl, rfl, rfl⟩, Nat.zero_le _⟩ ?_
    rintro ⟨k, A, cA⟩ m6 ⟨g1, g2, g3⟩
    simp only at g2 g3
    conv => whnf
    refine Br.mk (fun hb3 => ?_) (fun hb3 => ?_)
    · have hk : k < C.length := by
        have : (k : Int) < C.length := of_decide_eq_true hb3
        omega
      obtain ⟨r1, r2, r3⟩ := hCg k hk
      have r1' := r1.mono g1
      obtain ⟨_, ad1, rfl, hy1⟩ := IAt.cellAt (hw.mono g1) (show k < y.length by omega)
      obtain ⟨hy2, hy3⟩ := hyr k hk
      have hneq : ((y.getD k 0).tmod I != C.getD k 0) = false := by
        rw [hy3]; simp
      refine wp_skip ?_
      refine wp_seq ?_
      refine wp_block ?_
      refine wp_seq ?_
      refine wp_seq ?_
      refine wp_tree ?_
      refine tree_step rfl ?_
      conv => whnf
      refine Br.mk (fun _ => ?_) (fun h => by cases h)
      conv => whnf
      refine WIdx.mk ad1 rfl ⟨by omega, by omega⟩ ?_
      conv => whnf
      refine WLd.mk (i (y.getD k 0)) (by simpa using hy1) ?_
      conv => whnf
      refine WNe.mk (by omega) ?_
      conv => whnf
      refine WIdx.mk ⟨b, 0, none⟩ rfl ⟨by omega, by simpa using hk⟩ ?_
      conv => whnf
      refine WLd.mk (i (C.getD k 0)) (by simpa using r1') ?_
      conv => whnf
      refine Br.mk (fun h => by rw [hneq] at h; cases h) (fun _ => ?_)
      conv => whnf
      refine WIdx.mk ad1 rfl ⟨by omega, by omega⟩ ?_
      conv => whnf
      refine WLd.mk (i (y.getD k 0)) (by simpa using hy1) ?_
      conv => whnf
      refine Br.mk (fun h => by cases h) (fun _ => ?_)
      conv => whnf
      refine Br.mk (fun _ => ?_) (fun h => by cases h)
      conv => whnf
      refine Br.mk (fun h => ?_) (fun _ => ?_)
      · exfalso; have : y.getD k 0 < 0 := of_decide_eq_true h; omega
      conv => whnf
      -- how many turns later
      obtain ⟨t1, t2⟩ := turns_in hB k
      have t3 : turnsB B k * I ≤ 3 * I := Int.mul_le_mul_of_nonneg_right t2 (by omega)
      have t4 : 0 ≤ turnsB B k * I := Int.mul_nonneg t1 (by omega)
      refine Br.mk (fun hb4 => ?_) (fun hb4 => ?_)
      · -- yes
        have hkB : k < B.length := by have : (k : Int) < B.length := of_decide_eq_true hb4; omega
        obtain ⟨ad, rfl⟩ : ∃ ad, a3 = some ad := by
          cases a3 with
          | none => rw [y0 rfl] at hkB; simp at hkB
          | some ad => exact ⟨ad, rfl⟩
        have hx : CellAt m6 (ad.add k) (.int .u8 B[k]) := (hcz ad rfl k _ (by simp [hkB])).mono g1
        have hx2 := hB _ (List.getElem_mem hkB)
        have htb : turnsB B k = B[k].tmod 4 := by unfold turnsB; rw [if_pos hkB, List.getD_eq_getElem?_getD, List.getElem?_eq_getElem hkB]; rfl
        conv => whnf
        refine WIdx.mk ad rfl ⟨by omega, by simpa using hkB⟩ ?_
        conv => whnf
        refine WLd.mk (.int .u8 B[k]) (by simpa using hx) ?_
        conv => whnf
        refine WNe.mk (by decide) ?_
        conv => whnf
        rw [htb] at t1 t2 t3 t4
        refine WRng.mk (by apply wrap_i64 <;> omega) ?_
        have hsucc : laterS C B I (k + 1) = laterS C B I k ++ [C.getD k 0 + B[k].tmod 4 * I] := by rw [laterS_succ, htb]
        conv => whnf
        refine WIdx.mk ⟨b, 0, none⟩ rfl ⟨by omega, by simpa using hk⟩ ?_
        conv => whnf
        refine WLd.mk (i (C.getD k 0)) (by simpa using r1') ?_
        conv => whnf
        refine WRng.mk (by apply wrap_i64 <;> omega) ?_
        conv => whnf
        refine WRng.mk (by apply wrap_i64 <;> omega) ?_
        conv => whnf
        refine WNew.mk fun bx hbx => ?_
        conv => whnf
        have hle7 := g1.trans (Mem.le_set (o := Cells [i (C.getD k 0 + B[k].tmod 4 * I)] 3) hbx)
        refine push_ok (L := laterS C B I k) (z := C.getD k 0 + B[k].tmod 4 * I) hle7 (g2.mono (Mem.le_set hbx)) (Mem.set_same _ _ _) laterS_len.symm (by rw [laterS_len]; omega) fun a' c' m' hle8 hp8 => ?_
        rw [← hsucc] at hp8
        rw [laterS_len]
        conv => whnf
        refine WRng.mk (by apply wrap_i64 <;> omega) ?_
        conv => whnf
        exact ⟨(k + 1, a', c'), ⟨rfl, rfl, trivial⟩, ⟨hle8, hp8, hk⟩, by simp only; omega⟩
      · -- no
        have hkB : ¬ k < B.length := by have : ¬ ((k : Int) < B.length) := of_decide_eq_false hb4; omega
        have htb : turnsB B k = 0 := by unfold turnsB; rw [if_neg hkB]
        rw [htb] at t1 t2 t3 t4
        have hsucc : laterS C B I (k + 1) = laterS C B I k ++ [C.getD k 0 + (0 : Int) * I] := by rw [laterS_succ, htb]
        conv => whnf
        refine WIdx.mk ⟨b, 0, none⟩ rfl ⟨by omega, by simpa using hk⟩ ?_
        conv => whnf
        refine WLd.mk (i (C.getD k 0)) (by simpa using r1') ?_
        conv => whnf
        refine WRng.mk (by apply wrap_i64 <;> omega) ?_
        conv => whnf
        refine WRng.mk (by apply wrap_i64 <;> omega) ?_
        conv => whnf
        refine WNew.mk fun bx hbx => ?_
        conv => whnf
        have hle7 := g1.trans (Mem.le_set (o := Cells [i (C.getD k 0 + (0 : Int) * I)] 3) hbx)
        refine push_ok (L := laterS C B I k) (z := C.getD k 0 + (0 : Int) * I) hle7 (g2.mono (Mem.le_set hbx)) (Mem.set_same _ _ _) laterS_len.symm (by rw [laterS_len]; omega) fun a' c' m' hle8 hp8 => ?_
        rw [← hsucc] at hp8
        rw [laterS_len]
        conv => whnf
        refine WRng.mk (by apply wrap_i64 <;> omega) ?_
        conv => whnf
        exact ⟨(k + 1, a', c'), ⟨rfl, rfl, trivial⟩, ⟨hle8, hp8, hk⟩, by simp only; omega⟩
    have hk : k = C.length := by
      have : ¬ ((k : Int) < C.length) := of_decide_eq_false hb3
      omega
    subst hk
    have hmore := g2.iat
    rw [laterS_len] at hmore
    have hlb : ∀ x ∈ laterS C B I C.length, 0 ≤ x ∧ x ≤ 1125899906842624 := fun x hx => by
      obtain ⟨j, hj, rfl⟩ := List.getElem_of_mem hx
      rw [laterS_len] at hj
      have e := laterS_get (C := C) (B := B) (I := I) hj
      rw [List.getD_eq_getElem?_getD, List.getElem?_eq_getElem (by rw [laterS_len]; exact hj)] at e
      obtain ⟨_, r2, r3⟩ := hCg j hj
      obtain ⟨t1, t2⟩ := turns_in hB j
      have t3 : turnsB B j * I ≤ 3 * I := Int.mul_le_mul_of_nonneg_right t2 (by omega)
      have t4 : 0 ≤ turnsB B j * I := Int.mul_nonneg t1 (by omega)
      simp only [Option.getD_some] at e
      rw [e]; omega
    have hfitL : Fit (laterS C B I C.length) I E := fit_big (by rw [laterS_len]; exact z1) hlb z3 z4 (by rw [laterS_len]; exact hE)
    conv => whnf
    refine WSc.mk (v := false) (fun _ => ?_) ?_
    · conv => whnf
      refine WCall.pure (held_ok (hv6.mono g1) (hw.mono g1) (by omega) hfitY) ?_
      rw [held_feas.2 hsol.feas]
      exact And.intro (Mem.le.refl _) rfl
    conv => whnf
    refine Br.mk (fun h => by cases h) (fun _ => ?_)
    conv => whnf
    refine WCall.pure (held_ok (hv6.mono g1) hmore (by omega) hfitL) ?_
    conv => whnf
    refine Br.mk (fun hb5 => ?_) (fun hb5 => ?_)
    · conv => whnf
      refine WCall.pure (fin _ g1) ?_
      conv => whnf
      exact WRet.same ⟨rfl, hle.trans g1⟩
    have hany : E.any (heldN (laterS C B I C.length) I) = false := by simpa using hb5
    have hbest := hmin _ (later_sol z3 hB hany)
    conv => whnf
    refine WLoop.mk Nat (fun k => [(17, .val (i k))]) (fun k m' => m6 = m' ∧ k ≤ C.length) (fun k => C.length - k) 0 ⟨rfl, trivial⟩ ⟨rfl, Nat.zero_le _⟩ ?_
    rintro k m7 ⟨rfl, q3⟩
    conv => whnf
    refine Br.mk (fun hb6 => ?_) (fun hb6 => ?_)
    · have hk : k < C.length := by
        have : (k : Int) < C.length := of_decide_eq_true hb6
        omega
      obtain ⟨_, ad1, rfl, hy1⟩ := IAt.cellAt (hw.mono g1) (show k < y.length by omega)
      obtain ⟨_, ad2, rfl, hy4⟩ := IAt.cellAt hmore (show k < (laterS C B I C.length).length by rw [laterS_len]; exact hk)
      refine wp_skip ?_
      refine wp_seq ?_
      refine wp_block ?_
      refine wp_seq ?_
      refine wp_tree ?_
      refine tree_step rfl ?_
      conv => whnf
      refine Br.mk (fun h => by cases h) (fun _ => ?_)
      conv => whnf
      refine WIdx.mk ad2 rfl ⟨by omega, by omega⟩ ?_
      conv => whnf
      refine WLd.mk (i ((laterS C B I C.length).getD k 0)) (by simpa using hy4) ?_
      conv => whnf
      refine WIdx.mk ad1 rfl ⟨by omega, by omega⟩ ?_
      conv => whnf
      refine WLd.mk (i (y.getD k 0)) (by simpa using hy1) ?_
      conv => whnf
      refine Br.mk (fun h => by cases h) (fun _ => ?_)
      conv => whnf
      refine Br.mk (fun h => ?_) (fun _ => ?_)
      · exfalso
        have h1 : (laterS C B I C.length).getD k 0 < y.getD k 0 := of_decide_eq_true h
        have h2 := hbest k
        omega
      conv => whnf
      refine WRng.mk (by apply wrap_i64 <;> omega) ?_
      conv => whnf
      exact ⟨k + 1, ⟨rfl, trivial⟩, ⟨rfl, hk⟩, by omega⟩
    conv => whnf
    refine WCall.pure (fin _ g1) ?_
    conv => whnf
    exact WRet.same ⟨rfl, hle.trans g1⟩
theorem leastSolved_ok {m : Mem} {u v z : Value} {C0 : List Int} {E0 : List Edg} {B : List Int} {I : Int} (hu : IAt m u C0) (hv : EAt m v E0) (hz : BAt m z B) (hlenC : C0.length < 2 ^ 63) (hlen : E0.length < 2 ^ 63) (hlenB : B.length < 2 ^ 63) {T : Nat} {fr : Nat × Nat} (hm : m 0 = some (.cells ⟨cells0⟩ T fr)) :
    CallsM Tryz.prog 11 [u, v, i I, z] m fun e m' => e = .returned (.bool true) ∧ Mem.le m m' := leastSolved_law hu hv hz hlenC hlen hlenB fun _ h => alive24_calls (h _ _ hm)
end Go.Proofs.YtmnagbhllnlelaaGreatDoor
