/- Contracts of Solve's rounds: its own and the reference's. -/
import Derived.Test.YtmnagbhllnlelaaGreatDoorVxSolveN
set_option linter.unusedSimpArgs false
set_option linter.unusedVariables false
set_option maxRecDepth 100000
namespace Go.Proofs.YtmnagbhllnlelaaGreatDoor
open Go Go.Vx
open Go.Vx.IOp Go.Vx.IR Go.Vx.Opd
/-- append([]T{}, s...), with the block that it lies in. -/
theorem WApp.copyB {m : Mem} {T sz bytes : Nat} {zero : List Value} {b1 : Nat} {A A' : Option Addr} {n n' : Nat} {K : Value → Mem → Prop} (hb1 : m b1 = none) (hA' : A' = A) (hn : n' = n) (new : List Value) (h : FirstCells m A (n * sz) new) (hA : A = none → n = 0)
    (hb : n * bytes ≤ 35184372088832) (k : ∀ b c m' rest, Mem.le m m' → n ≤ c → m b = none → m' b = some (Cells (new ++ rest) T) → K (.slice (some ⟨b, 0, none⟩) n c) m') :
    WApp (m.set b1 (Cells [] T)) T sz bytes zero (some ⟨b1, 0, none⟩) 0 0 A' n' K := by
  subst hA'; subst hn
  have hle := Mem.le_set (o := Cells [] T) hb1
  have hf : FirstCells (m.set b1 (Cells [] T)) A' (n' * sz) new := ⟨h.1, fun ad ha => (h.2 ad ha).mono hle⟩
  by_cases h0 : n' = 0
  · subst h0
    have hnew : new = [] := List.length_eq_zero_iff.1 (by rw [h.1]; simp)
    subst hnew
    refine WApp.in [] hf (fun _ => rfl) [] T (by omega) (Mem.set_same _ _ _) rfl (by simp) rfl ?_
    refine k b1 0 _ [] (fun b o hbo => ?_) (Nat.le_refl _) hb1 (Mem.set_same _ _ _)
    have : b ≠ b1 := fun e => by subst e; rw [hb1] at hbo; cases hbo
    rw [Mem.set_other _ _ this, Mem.set_other _ _ this]; exact hbo
  · refine WApp.grow new hf hA (by omega) (by rw [Nat.zero_add]; exact hb) [] ⟨by simp, fun ad _ j v hj => by simp at hj⟩ (fun _ => rfl) fun b c hbn hc => ?_
    have hbb : b ≠ b1 := fun e => by subst e; rw [Mem.set_same] at hbn; cases hbn
    have hbm : m b = none := by rw [Mem.set_other _ _ hbb] at hbn; exact hbn
    rw [Nat.zero_add]
    exact k b c _ _ (hle.trans (Mem.le_set hbn)) (by omega) hbm (Mem.set_same _ _ _)
/-- A slice of ints of one's own: its block is new. -/
def OwnI (m m' : Mem) (A : Option Addr) (n : Nat) (x : List Int) : Prop := x.length = n ∧ (n ≠ 0 → ∃ b rest, A = some ⟨b, 0, none⟩ ∧ m b = none ∧ m' b = some (Cells (x.map i ++ rest) 3))
theorem OwnI.iat {m m' : Mem} {A : Option Addr} {n c : Nat} {x : List Int} (h : OwnI m m' A n x) (hc : n ≤ c) : IAt m' (.slice A n c) x := by
  obtain ⟨h1, h2⟩ := h
  by_cases h0 : n = 0
  · subst h0
    obtain rfl := List.length_eq_zero_iff.1 h1
    exact ⟨A, c, rfl, fun _ => rfl, fun ad _ j v hj => by simp at hj, Nat.zero_le _⟩
  · obtain ⟨b, rest, rfl, h3, h4⟩ := h2 h0
    refine ⟨_, c, by rw [h1], (fun h => by cases h), fun ad ha => ?_, by omega⟩
    cases ha
    refine CellsAt.blk h4 fun q v hq => ?_
    rw [Nat.zero_add, List.getElem?_append_left (List.getElem?_eq_some_iff.1 hq).1]; exact hq
theorem cell_r {m : Mem} {b z : Nat} {o : List Int} {rest : List Value} {T : TypeId} (h : m b = some (Cells (o.map i ++ rest) T)) (hz : z < o.length) : CellAt m ⟨b, z, none⟩ (i (o.getD z 0)) := by
  have h2 : (o.map i ++ rest)[z]? = some (i (o.getD z 0)) := by
    rw [List.getElem?_append_left (by simpa using hz)]; simp [List.getD_eq_getElem?_getD, hz]
  exact ⟨_, _, _, h, rfl, by simpa using h2⟩
theorem set_r {o : List Int} {rest : List Value} {z z' : Nat} {v : Int} (hz : z' = z) (h : z < o.length) : spliceL (o.map i ++ rest) z' (cellsL (i v)) = (o.set z v).map i ++ rest := by
  subst hz
  show (o.map i ++ rest).set z' _ = _
  rw [List.set_append_left _ _ (by simpa using h), List.map_set]
theorem fold_succ {α β : Type} {f : β → α → β} {E : List α} {s : β} {j : Nat} (hj : j < E.length) : (E.take (j + 1)).foldl f s = f ((E.take j).foldl f s) E[j] := by
  rw [List.take_succ_eq_append_getElem hj, List.foldl_append]; rfl
theorem clone_ok {m : Mem} {v : Value} {C : List Int} (hv : IAt m v C) (hlen : C.length ≤ 4398046511104) :
    CallsM Tryz.prog 122 [v] m fun e m' => ∃ A c, e = .returned (.slice A C.length c) ∧ C.length ≤ c ∧ Mem.le m m' ∧ OwnI m m' A C.length C := by
  obtain ⟨a, c, rfl, q0, q1, hcap⟩ := hv
  refine calls_of mixed Tryz.func122 ok_slices_Clone_int_int rfl ?_
  conv => whnf
  cases a with
  | none =>
    have h0 := q0 rfl
    subst h0
    conv => whnf
    refine Br.mk (fun hb => ?_) (fun hb => by cases hb)
    conv => whnf
    exact WRet.same ⟨none, 0, rfl, Nat.le_refl _, Mem.le.refl _, rfl, fun h => absurd rfl h⟩
  | some ad =>
    conv => whnf
    refine Br.mk (fun hb => by cases hb) (fun hb => ?_)
    conv => whnf
    refine WNew.mk fun b1 hb1 => ?_
    conv => whnf
    refine WApp.copyB hb1 (A := some ad) (n := C.length) rfl rfl (C.map i) ⟨by simp, fun ad' ha => q1 ad' ha⟩ (fun ha => by cases ha) (by omega) fun b cb m1 rest hle1 hcb hbm hcells => ?_
    conv => whnf
    exact WRet.same ⟨_, cb, rfl, hcb, hle1, rfl, fun _ => ⟨b, rest, rfl, hbm, hcells⟩⟩
def solvedV (w : Value) (b : Bool) : Value := .tuple ⟨[w, .bool b]⟩
theorem In_of {C : List Int} {I : Int} (hC : ∀ x ∈ C, 0 ≤ x ∧ x < I) (hI2 : I ≤ 4194304) : In C.length 4194304 C := ⟨rfl, fun j => by
  rw [List.getD_eq_getElem?_getD]
  by_cases h : j < C.length
  · rw [List.getElem?_eq_getElem h]; have := hC _ (List.getElem_mem h); simp; omega
  · rw [List.getElem?_eq_none (by omega)]; simp⟩
theorem solve_ok {m : Mem} {u v : Value} {C : List Int} {E : List Edg} {I : Int} (hu : IAt m u C) (hv : EAt m v E) (hlE : E.length ≤ 200000) (hlC : C.length ≤ 401) (hI : 1 ≤ I) (hI2 : I ≤ 4194304)
    (hC : ∀ x ∈ C, 0 ≤ x ∧ x < I) (hE : ∀ e ∈ E, RightE C.length e) :
    CallsM Tryz.prog 77 [u, v, i I] m fun e m' => ∃ w, e = .returned (solvedV w (solveS I I E (C.length + 1) C).isSome) ∧ Mem.le m m' ∧ IAt m' w ((solveS I I E (C.length + 1) C).getD []) := by
  obtain ⟨a, c, rfl, h0, h1, hcap⟩ := hv
  have hin0 := In_of hC hI2
  refine calls_of mixed Tryz.func77 ok_least_solve rfl ?_
  conv => whnf
  refine WCall.mk (clone_ok hu (by omega)) ?_
  rintro _ m1 ⟨A, cc, rfl, hcc, hle1, hown⟩
  have hul : ∃ U cu, u = .slice U C.length cu := by obtain ⟨U, cu, e, _⟩ := hu; exact ⟨U, cu, e⟩
  obtain ⟨U, cu, rfl⟩ := hul
  conv => whnf
  refine WRng.mk (by apply wrap_i64 <;> omega) ?_
  conv => whnf
  refine WLoop.mk Nat (fun k => [(18, .val (i k))]) (fun k m' => Mem.le m m' ∧ OwnI m m' A C.length (stS I I E C k) ∧ k ≤ C.length + 1 ∧ solveS I I E (C.length + 1) C = solveS I I E (C.length + 1 - k) (stS I I E C k)) (fun k => C.length + 1 - k) 0
    ⟨rfl, trivial⟩ ⟨hle1, hown, Nat.zero_le _, rfl⟩ ?_
  rintro k m2 ⟨g1, g2, g3, g4⟩
  conv => whnf
  refine Br.mk (fun hb => ?_) (fun hb => ?_)
  · have hk : k < C.length + 1 := by simp only [decide_eq_true_eq] at hb; omega
    conv => whnf
    refine WLoop.mk Nat (fun j => [(22, .val (i j)), (9, .val (.bool ((E.take j).foldl (growS I I) (stS I I E C k, false)).2))]) (fun j m' => Mem.le m m' ∧ OwnI m m' A C.length ((E.take j).foldl (growS I I) (stS I I E C k, false)).1 ∧ j ≤ E.length) (fun j => E.length - j) 0
      ⟨rfl, rfl, trivial⟩ ⟨g1, g2, Nat.zero_le _⟩ ?_
    rintro j m3 ⟨q1, q2, q3⟩
    conv => whnf
    refine Br.mk (fun hb2 => ?_) (fun hb2 => ?_)
    · have hj : j < E.length := by simp only [decide_eq_true_eq] at hb2; omega
      have he := hE E[j] (List.getElem_mem hj)
      have f0 := he.f0
      have fn := he.fn
      have t0 := he.t0
      have tn := he.tn
      have d0 := he.d0
      have d8 := he.d8
      have hmul := mul_bound (by omega : 0 ≤ I) hI2 he.r0 he.r2
      have hF := fold_succ (f := growS I I) (s := (stS I I E C k, false)) hj
      have hin := st_small (M := I) (I := I) (by omega) hI2 (by omega) hin0 hlC hlE hE (k := k) (by omega) (j := j) (by omega) false
      generalize (E.take j).foldl (growS I I) (stS I I E C k, false) = s at *
      obtain ⟨x, g⟩ := s
      simp only at hin q2
      obtain ⟨xl, q4⟩ := q2
      obtain ⟨b, rest, rfl, hbm, hcell⟩ := q4 (by omega)
      have xf := hin.2 (E[j]).f.toNat
      have xt := hin.2 (E[j]).t.toNat
      cases a with
      | none => rw [h0 rfl] at hj; simp at hj
      | some ad =>
        conv => whnf
        refine WIdx.mk ad rfl ⟨by omega, by simpa using hj⟩ ?_
        conv => whnf
        refine WLds.mk (E[j]).cells (by simpa using (EAt.cells (h1 ad rfl) hj).mono q1) rfl ?_
        conv => whnf
        refine WIdx.mk ⟨b, 0, none⟩ rfl ⟨f0, by omega⟩ ?_
        conv => whnf
        refine WLd.mk (i (x.getD (E[j]).f.toNat 0)) (cell_add (cell_r hcell (by omega)) (by omega)) ?_
        conv => whnf
        refine WRng.mk (by apply wrap_i64 <;> omega) ?_
        conv => whnf
        refine WRng.mk (by apply wrap_i64 <;> omega) ?_
        conv => whnf
        refine WRng.mk (by apply wrap_i64 <;> omega) ?_
        conv => whnf
        refine WIdx.mk ⟨b, 0, none⟩ rfl ⟨t0, by omega⟩ ?_
        conv => whnf
        refine WLd.mk (i (x.getD (E[j]).t.toNat 0)) (cell_add (cell_r hcell (by omega)) (by omega)) ?_
        conv => whnf
        have hneed : needS I x E[j] = x.getD (E[j]).f.toNat 0 + (E[j]).d - I * (E[j]).r := rfl
        refine Br.mk (fun hb3 => ?_) (fun hb3 => ?_)
        · have hle : needS I x E[j] ≤ x.getD (E[j]).t.toNat 0 := by simp only [decide_eq_true_eq] at hb3; omega
          rw [grow_no hle] at hF
          conv => whnf
          refine WRng.mk (by apply wrap_i64 <;> omega) ?_
          conv => whnf
          refine ⟨j + 1, ⟨rfl, by rw [hF]; rfl, trivial⟩, ⟨q1, ?_, hj⟩, by omega⟩
          rw [hF]
          exact ⟨xl, fun _ => ⟨b, rest, rfl, hbm, hcell⟩⟩
        · have hlt : x.getD (E[j]).t.toNat 0 < needS I x E[j] := by simp only [decide_eq_false_iff_not] at hb3; omega
          rw [grow_yes hlt] at hF
          obtain ⟨u0, u1, u2, u3⟩ := up_div (M := I) (a := needS I x E[j] - x.getD (E[j]).t.toNat 0) (by omega) (by omega)
          have hlift : liftS I I x E[j] = x.getD (E[j]).t.toNat 0 + (needS I x E[j] - x.getD (E[j]).t.toNat 0 + I - 1).tdiv I * I := rfl
          rw [hneed] at u0 u1 u2 u3 hlt hlift
          conv => whnf
          refine WIdx.mk ⟨b, 0, none⟩ rfl ⟨t0, by omega⟩ ?_
          conv => whnf
          refine WLd.mk (i (x.getD (E[j]).t.toNat 0)) (cell_add (cell_r hcell (by omega)) (by omega)) ?_
          conv => whnf
          refine WIdx.mk ⟨b, 0, none⟩ rfl ⟨t0, by omega⟩ ?_
          conv => whnf
          refine WLd.mk (i (x.getD (E[j]).t.toNat 0)) (cell_add (cell_r hcell (by omega)) (by omega)) ?_
          conv => whnf
          refine WRng.mk (by apply wrap_i64 <;> omega) ?_
          conv => whnf
          refine WRng.mk (by apply wrap_i64 <;> omega) ?_
          conv => whnf
          refine WRng.mk (by apply wrap_i64 <;> omega) ?_
          conv => whnf
          refine WNe.mk (by omega) ?_
          have hw : IntKind.i64.wrap ((x.getD (E[j]).f.toNat 0 + (E[j]).d - I * (E[j]).r - x.getD (E[j]).t.toNat 0 + I - 1).tdiv I) = (x.getD (E[j]).f.toNat 0 + (E[j]).d - I * (E[j]).r - x.getD (E[j]).t.toNat 0 + I - 1).tdiv I := by apply wrap_i64 <;> omega
          conv => whnf
          refine WRng.mk (by rw [hw]; apply wrap_i64 <;> omega) ?_
          conv => whnf
          refine WRng.mk (by rw [hw]; apply wrap_i64 <;> omega) ?_
          conv => whnf
          refine WIdx.mk ⟨b, 0, none⟩ rfl ⟨t0, by omega⟩ ?_
          conv => whnf
          refine ⟨?_, trivial⟩
          conv => whnf
          refine WSt.mk (x.map i ++ rest) 3 ?_ ?_ ?_ ?_
          · rw [add0]; exact hcell
          · rw [add0]
          · rw [add0]
            show _ * 1 + 1 ≤ (x.map i ++ rest).length
            rw [List.length_append, List.length_map]; omega
          simp only [add0]
          conv => whnf
          refine WRng.mk (by apply wrap_i64 <;> omega) ?_
          conv => whnf
          refine ⟨j + 1, ⟨rfl, by rw [hF]; rfl, trivial⟩, ⟨le_setn q1 hbm, ?_, hj⟩, by omega⟩
          rw [hF]
          refine ⟨by simp only [List.length_set]; exact xl, fun _ => ⟨b, rest, rfl, hbm, ?_⟩⟩
          rw [Mem.set_same, set_r (z := (E[j]).t.toNat) (by show _ * 1 = _; omega) (by omega), hw, ← hlift]
    · have hj : j = E.length := by simp only [decide_eq_false_iff_not] at hb2; omega
      subst hj
      conv => whnf
      have hr : (E.take E.length).foldl (growS I I) (stS I I E C k, false) = roundS I I E (stS I I E C k) := by rw [List.take_length]; rfl
      rw [hr] at q2
      have hs : solveS I I E (C.length + 1 - k) (stS I I E C k) = if (roundS I I E (stS I I E C k)).2 = true then solveS I I E (C.length + 1 - (k + 1)) (stS I I E C (k + 1)) else some (stS I I E C (k + 1)) := by
        rw [show C.length + 1 - k = (C.length + 1 - (k + 1)) + 1 by omega]; rfl
      refine Br.mk (fun hb3 => ?_) (fun hb3 => ?_)
      · rw [hr] at hb3
        have hf : (roundS I I E (stS I I E C k)).2 = false := by simpa using hb3
        rw [hf] at hs
        have hs2 : solveS I I E (C.length + 1) C = some (stS I I E C (k + 1)) := by rw [g4, hs]; rfl
        conv => whnf
        refine WRet.same ⟨.slice A C.length cc, ?_, q1, ?_⟩
        · rw [hs2]; rfl
        · rw [hs2]; exact q2.iat hcc
      · rw [hr] at hb3
        have hf : (roundS I I E (stS I I E C k)).2 = true := by simpa using hb3
        rw [hf, if_pos rfl] at hs
        conv => whnf
        refine WRng.mk (by apply wrap_i64 <;> omega) ?_
        conv => whnf
        exact ⟨k + 1, ⟨rfl, trivial⟩, ⟨q1, q2, hk, by rw [g4, hs]⟩, by omega⟩
  · have hk : k = C.length + 1 := by simp only [decide_eq_false_iff_not] at hb; omega
    subst hk
    rw [Nat.sub_self] at g4
    have g5 : solveS I I E (C.length + 1) C = none := g4
    conv => whnf
    refine WRet.same ⟨ns, ?_, g1, ?_⟩
    · rw [g5]; rfl
    · rw [g5]; exact ⟨none, 0, rfl, fun _ => rfl, (fun ad h => by cases h), Nat.le_refl _⟩
theorem refSolve_ok {m : Mem} {u v : Value} {C : List Int} {E : List Edg} {I : Int} (hu : IAt m u C) (hv : EAt m v E) (hlE : E.length ≤ 200000) (hlC : C.length ≤ 401) (hI : 1 ≤ I) (hI2 : I ≤ 4194304)
    (hC : ∀ x ∈ C, 0 ≤ x ∧ x < I) (hE : ∀ e ∈ E, RightE C.length e) :
    CallsM Tryz.prog 38 [u, v, i I] m fun e m' => ∃ w, e = .returned (solvedV w (solveS I I E (C.length + 1) C).isSome) ∧ Mem.le m m' ∧ IAt m' w ((solveS I I E (C.length + 1) C).getD []) := by
  obtain ⟨a, c, rfl, h0, h1, hcap⟩ := hv
  have hin0 := In_of hC hI2
  refine calls_of mixed Tryz.func38 ok_biremeref24_Solve rfl ?_
  obtain ⟨U, cu, rfl, p0, p1, pcap⟩ := hu
  conv => whnf
  refine WNew.mk fun bn hbn => ?_
  conv => whnf
  refine WApp.copyB hbn rfl rfl (C.map i) ⟨by simp, fun ad ha => p1 ad ha⟩ (fun ha => by rw [p0 ha]; rfl) (by omega) fun bo cc m1 rest0 hle1 hcc hbo hcells0 => ?_
  have hown : OwnI m m1 (some ⟨bo, 0, none⟩) C.length C := ⟨rfl, fun _ => ⟨bo, rest0, rfl, hbo, hcells0⟩⟩
  generalize (some (⟨bo, 0, none⟩ : Addr)) = A at *
  conv => whnf
  refine WLoop.mk Nat (fun k => [(9, .val (i k))]) (fun k m' => Mem.le m m' ∧ OwnI m m' A C.length (stS I I E C k) ∧ k ≤ C.length + 1 ∧ solveS I I E (C.length + 1) C = solveS I I E (C.length + 1 - k) (stS I I E C k)) (fun k => C.length + 1 - k) 0
    ⟨rfl, trivial⟩ ⟨hle1, hown, Nat.zero_le _, rfl⟩ ?_
  rintro k m2 ⟨g1, g2, g3, g4⟩
  conv => whnf
  refine Br.mk (fun hb => ?_) (fun hb => ?_)
  · have hk : k < C.length + 1 := by simp only [decide_eq_true_eq] at hb; omega
    conv => whnf
    refine WLoop.mk Nat (fun j => [(11, .val (i j)), (10, .val (.bool ((E.take j).foldl (growS I I) (stS I I E C k, false)).2))]) (fun j m' => Mem.le m m' ∧ OwnI m m' A C.length ((E.take j).foldl (growS I I) (stS I I E C k, false)).1 ∧ j ≤ E.length) (fun j => E.length - j) 0
      ⟨rfl, rfl, trivial⟩ ⟨g1, g2, Nat.zero_le _⟩ ?_
    rintro j m3 ⟨q1, q2, q3⟩
    conv => whnf
    refine Br.mk (fun hb2 => ?_) (fun hb2 => ?_)
    · have hj : j < E.length := by simp only [decide_eq_true_eq] at hb2; omega
      have he := hE E[j] (List.getElem_mem hj)
      have f0 := he.f0
      have fn := he.fn
      have t0 := he.t0
      have tn := he.tn
      have d0 := he.d0
      have d8 := he.d8
      have hmul := mul_bound (by omega : 0 ≤ I) hI2 he.r0 he.r2
      have hF := fold_succ (f := growS I I) (s := (stS I I E C k, false)) hj
      have hin := st_small (M := I) (I := I) (by omega) hI2 (by omega) hin0 hlC hlE hE (k := k) (by omega) (j := j) (by omega) false
      generalize (E.take j).foldl (growS I I) (stS I I E C k, false) = s at *
      obtain ⟨x, g⟩ := s
      simp only at hin q2
      obtain ⟨xl, q4⟩ := q2
      obtain ⟨b, rest, rfl, hbm, hcell⟩ := q4 (by omega)
      have xf := hin.2 (E[j]).f.toNat
      have xt := hin.2 (E[j]).t.toNat
      cases a with
      | none => rw [h0 rfl] at hj; simp at hj
      | some ad =>
        conv => whnf
        refine WIdx.mk ad rfl ⟨by omega, by simpa using hj⟩ ?_
        conv => whnf
        refine WLds.mk (E[j]).cells (by simpa using (EAt.cells (h1 ad rfl) hj).mono q1) rfl ?_
        conv => whnf
        refine WIdx.mk ⟨b, 0, none⟩ rfl ⟨f0, by omega⟩ ?_
        conv => whnf
        refine WLd.mk (i (x.getD (E[j]).f.toNat 0)) (cell_add (cell_r hcell (by omega)) (by omega)) ?_
        conv => whnf
        refine WRng.mk (by apply wrap_i64 <;> omega) ?_
        conv => whnf
        refine WRng.mk (by apply wrap_i64 <;> omega) ?_
        conv => whnf
        refine WRng.mk (by apply wrap_i64 <;> omega) ?_
        conv => whnf
        refine WIdx.mk ⟨b, 0, none⟩ rfl ⟨t0, by omega⟩ ?_
        conv => whnf
        refine WLd.mk (i (x.getD (E[j]).t.toNat 0)) (cell_add (cell_r hcell (by omega)) (by omega)) ?_
        conv => whnf
        have hneed : needS I x E[j] = x.getD (E[j]).f.toNat 0 + (E[j]).d - I * (E[j]).r := rfl
        refine Br.mk (fun hb3 => ?yes) (fun hb3 => ?no)
        case no =>
          have hle : needS I x E[j] ≤ x.getD (E[j]).t.toNat 0 := by simp only [decide_eq_false_iff_not] at hb3; omega
          rw [grow_no hle] at hF
          conv => whnf
          refine WRng.mk (by apply wrap_i64 <;> omega) ?_
          conv => whnf
          refine ⟨j + 1, ⟨rfl, by rw [hF]; rfl, trivial⟩, ⟨q1, ?_, hj⟩, by omega⟩
          rw [hF]
          exact ⟨xl, fun _ => ⟨b, rest, rfl, hbm, hcell⟩⟩
        case yes =>
          have hlt : x.getD (E[j]).t.toNat 0 < needS I x E[j] := by simp only [decide_eq_true_eq] at hb3; omega
          rw [grow_yes hlt] at hF
          obtain ⟨u0, u1, u2, u3⟩ := up_div (M := I) (a := needS I x E[j] - x.getD (E[j]).t.toNat 0) (by omega) (by omega)
          have hlift : liftS I I x E[j] = x.getD (E[j]).t.toNat 0 + (needS I x E[j] - x.getD (E[j]).t.toNat 0 + I - 1).tdiv I * I := rfl
          rw [hneed] at u0 u1 u2 u3 hlt hlift
          conv => whnf
          refine WIdx.mk ⟨b, 0, none⟩ rfl ⟨t0, by omega⟩ ?_
          conv => whnf
          refine WLd.mk (i (x.getD (E[j]).t.toNat 0)) (cell_add (cell_r hcell (by omega)) (by omega)) ?_
          conv => whnf
          refine WIdx.mk ⟨b, 0, none⟩ rfl ⟨t0, by omega⟩ ?_
          conv => whnf
          refine WLd.mk (i (x.getD (E[j]).t.toNat 0)) (cell_add (cell_r hcell (by omega)) (by omega)) ?_
          conv => whnf
          refine WRng.mk (by apply wrap_i64 <;> omega) ?_
          conv => whnf
          refine WRng.mk (by apply wrap_i64 <;> omega) ?_
          conv => whnf
          refine WRng.mk (by apply wrap_i64 <;> omega) ?_
          conv => whnf
          refine WNe.mk (by omega) ?_
          have hw : IntKind.i64.wrap ((x.getD (E[j]).f.toNat 0 + (E[j]).d - I * (E[j]).r - x.getD (E[j]).t.toNat 0 + I - 1).tdiv I) = (x.getD (E[j]).f.toNat 0 + (E[j]).d - I * (E[j]).r - x.getD (E[j]).t.toNat 0 + I - 1).tdiv I := by apply wrap_i64 <;> omega
          conv => whnf
          refine WRng.mk (by rw [hw]; apply wrap_i64 <;> omega) ?_
          conv => whnf
          refine WRng.mk (by rw [hw]; apply wrap_i64 <;> omega) ?_
          conv => whnf
          refine WIdx.mk ⟨b, 0, none⟩ rfl ⟨t0, by omega⟩ ?_
          conv => whnf
          refine ⟨?_, trivial⟩
          conv => whnf
          refine WSt.mk (x.map i ++ rest) 3 ?_ ?_ ?_ ?_
          · rw [add0]; exact hcell
          · rw [add0]
          · rw [add0]
            show _ * 1 + 1 ≤ (x.map i ++ rest).length
            rw [List.length_append, List.length_map]; omega
          simp only [add0]
          conv => whnf
          refine WRng.mk (by apply wrap_i64 <;> omega) ?_
          conv => whnf
          refine ⟨j + 1, ⟨rfl, by rw [hF]; rfl, trivial⟩, ⟨le_setn q1 hbm, ?_, hj⟩, by omega⟩
          rw [hF]
          refine ⟨by simp only [List.length_set]; exact xl, fun _ => ⟨b, rest, rfl, hbm, ?_⟩⟩
          rw [Mem.set_same, set_r (z := (E[j]).t.toNat) (by show _ * 1 = _; omega) (by omega), hw, ← hlift]
    · have hj : j = E.length := by simp only [decide_eq_false_iff_not] at hb2; omega
      subst hj
      conv => whnf
      have hr : (E.take E.length).foldl (growS I I) (stS I I E C k, false) = roundS I I E (stS I I E C k) := by rw [List.take_length]; rfl
      rw [hr] at q2
      have hs : solveS I I E (C.length + 1 - k) (stS I I E C k) = if (roundS I I E (stS I I E C k)).2 = true then solveS I I E (C.length + 1 - (k + 1)) (stS I I E C (k + 1)) else some (stS I I E C (k + 1)) := by
        rw [show C.length + 1 - k = (C.length + 1 - (k + 1)) + 1 by omega]; rfl
      refine Br.mk (fun hb3 => ?_) (fun hb3 => ?_)
      · rw [hr] at hb3
        have hf : (roundS I I E (stS I I E C k)).2 = false := by simpa using hb3
        rw [hf] at hs
        have hs2 : solveS I I E (C.length + 1) C = some (stS I I E C (k + 1)) := by rw [g4, hs]; rfl
        conv => whnf
        refine WRet.same ⟨.slice A C.length cc, ?_, q1, ?_⟩
        · rw [hs2]; rfl
        · rw [hs2]; exact q2.iat hcc
      · rw [hr] at hb3
        have hf : (roundS I I E (stS I I E C k)).2 = true := by simpa using hb3
        rw [hf, if_pos rfl] at hs
        conv => whnf
        refine WRng.mk (by apply wrap_i64 <;> omega) ?_
        conv => whnf
        exact ⟨k + 1, ⟨rfl, trivial⟩, ⟨q1, q2, hk, by rw [g4, hs]⟩, by omega⟩
  · have hk : k = C.length + 1 := by simp only [decide_eq_false_iff_not] at hb; omega
    subst hk
    rw [Nat.sub_self] at g4
    have g5 : solveS I I E (C.length + 1) C = none := g4
    conv => whnf
    refine WRet.same ⟨ns, ?_, g1, ?_⟩
    · rw [g5]; rfl
    · rw [g5]; exact ⟨none, 0, rfl, fun _ => rfl, (fun ad h => by cases h), Nat.le_refl _⟩
end Go.Proofs.YtmnagbhllnlelaaGreatDoor
