/- Contracts of modulo.Ring and its reference. -/
import Derived.Test.YtmnagbhllnlelaaGreatDoorVxSolve
set_option linter.unusedSimpArgs false
set_option linter.unusedVariables false
set_option maxRecDepth 100000
namespace Go.Proofs.YtmnagbhllnlelaaGreatDoor
open Go Go.Vx
open Go.Vx.IOp Go.Vx.IR Go.Vx.Opd
theorem In_zero (n : Nat) : In n 4194304 (List.replicate n 0) := ⟨by simp, fun j => by
  rw [List.getD_eq_getElem?_getD, List.getElem?_replicate]; split <;> simp⟩
theorem above_ok {m : Mem} {v : Value} {n : Nat} {E : List Edg} {I : Int} (hv : EAt m v E) (hlE : E.length ≤ 200000) (hn : n ≤ 401) (hI : 1 ≤ I) (hI2 : I ≤ 4194304) (hE : ∀ e ∈ E, RightE n e) :
    CallsM Tryz.prog 89 [i n, v, i I] m fun e m' => e = .returned (.bool (asksS n E I)) ∧ Mem.le m m' := by
  obtain ⟨a, c, rfl, h0, h1, hcap⟩ := hv
  have hin0 := In_zero n
  have hl0 : (List.replicate n (0 : Int)).length = n := by simp
  refine calls_of mixed Tryz.func89 ok_modulo_above rfl ?_
  conv => whnf
  refine WMake.mk ⟨by omega, Int.le_refl _, by omega⟩ fun bo hbo => ?_
  simp only [Int.toNat_natCast]
  rw [mkZeros]
  have hown : OwnI m (m.set bo (Cells ((List.replicate n (0 : Int)).map i) 3)) (some ⟨bo, 0, none⟩) n (List.replicate n 0) := ⟨hl0, fun _ => ⟨bo, [], rfl, hbo, by rw [List.append_nil]; exact Mem.set_same _ _ _⟩⟩
  have hle1 : Mem.le m (m.set bo (Cells ((List.replicate n (0 : Int)).map i) 3)) := Mem.le_set hbo
  unfold asksS
  generalize (m.set bo (Cells ((List.replicate n (0 : Int)).map i) 3)) = m1 at *
  generalize (some (⟨bo, 0, none⟩ : Addr)) = A at *
  generalize (List.replicate n (0 : Int)) = C at *
  conv => whnf
  refine WRng.mk (by apply wrap_i64 <;> omega) ?_
  conv => whnf
  refine WLoop.mk Nat (fun k => [(16, .val (i k))]) (fun k m' => Mem.le m m' ∧ OwnI m m' A n (stS 1 I E C k) ∧ k ≤ n + 1 ∧ solveS 1 I E (n + 1) C = solveS 1 I E (n + 1 - k) (stS 1 I E C k)) (fun k => n + 1 - k) 0
    ⟨rfl, trivial⟩ ⟨hle1, hown, Nat.zero_le _, rfl⟩ ?_
  rintro k m2 ⟨g1, g2, g3, g4⟩
  conv => whnf
  refine Br.mk (fun hb => ?_) (fun hb => ?_)
  · have hk : k < n + 1 := by simp only [decide_eq_true_eq] at hb; omega
    conv => whnf
    refine WLoop.mk Nat (fun j => [(20, .val (i j)), (8, .val (.bool ((E.take j).foldl (growS 1 I) (stS 1 I E C k, false)).2))]) (fun j m' => Mem.le m m' ∧ OwnI m m' A n ((E.take j).foldl (growS 1 I) (stS 1 I E C k, false)).1 ∧ j ≤ E.length) (fun j => E.length - j) 0
      ⟨rfl, rfl, trivial⟩ ⟨g1, g2, Nat.zero_le _⟩ ?_
    rintro j m3 ⟨q1, q2, q3⟩
    conv => whnf
    refine Br.mk (fun hb2 => ?_) (fun hb2 => ?_)
    · have hj : j < E.length := by simp only [decide_eq_true_eq] at hb2; omega
      have he := hE E[j] (List.getElem_mem hj)
      have f0 := he.f0
      have fn := he.fn
      have t0 := he.t0
      have tn := he.tn
      have d0 := he.d0
      have d8 := he.d8
      have hmul := mul_bound (by omega : 0 ≤ I) hI2 he.r0 he.r2
      have hF := fold_succ (f := growS 1 I) (s := (stS 1 I E C k, false)) hj
      have hin := st_small (M := 1) (I := I) (by omega) (by omega) (by omega) hin0 hn hlE hE (k := k) (by omega) (j := j) (by omega) false
      generalize (E.take j).foldl (growS 1 I) (stS 1 I E C k, false) = s at *
      obtain ⟨x, g⟩ := s
      simp only at hin q2
      obtain ⟨xl, q4⟩ := q2
      obtain ⟨b, rest, rfl, hbm, hcell⟩ := q4 (by omega)
      have xf := hin.2 (E[j]).f.toNat
      have xt := hin.2 (E[j]).t.toNat
      cases a with
      | none => rw [h0 rfl] at hj; simp at hj
      | some ad =>
        conv => whnf
        refine WIdx.mk ad rfl ⟨by omega, by simpa using hj⟩ ?_
        conv => whnf
        refine WLds.mk (E[j]).cells (by simpa using (EAt.cells (h1 ad rfl) hj).mono q1) rfl ?_
        conv => whnf
        refine WIdx.mk ⟨b, 0, none⟩ rfl ⟨f0, by omega⟩ ?_
        conv => whnf
        refine WLd.mk (i (x.getD (E[j]).f.toNat 0)) (cell_add (cell_r hcell (by omega)) (by omega)) ?_
        conv => whnf
        refine WRng.mk (by apply wrap_i64 <;> omega) ?_
        conv => whnf
        refine WRng.mk (by apply wrap_i64 <;> omega) ?_
        conv => whnf
        refine WRng.mk (by apply wrap_i64 <;> omega) ?_
        conv => whnf
        refine WIdx.mk ⟨b, 0, none⟩ rfl ⟨t0, by omega⟩ ?_
        conv => whnf
        refine WLd.mk (i (x.getD (E[j]).t.toNat 0)) (cell_add (cell_r hcell (by omega)) (by omega)) ?_
        conv => whnf
        have hneed : needS I x E[j] = x.getD (E[j]).f.toNat 0 + (E[j]).d - I * (E[j]).r := rfl
        refine Br.mk (fun hb3 => ?yes) (fun hb3 => ?no)
        case no =>
          have hle : needS I x E[j] ≤ x.getD (E[j]).t.toNat 0 := by simp only [decide_eq_false_iff_not] at hb3; omega
          rw [grow_no hle] at hF
          conv => whnf
          refine WRng.mk (by apply wrap_i64 <;> omega) ?_
          conv => whnf
          refine ⟨j + 1, ⟨rfl, by rw [hF]; rfl, trivial⟩, ⟨q1, ?_, hj⟩, by omega⟩
          rw [hF]
          exact ⟨xl, fun _ => ⟨b, rest, rfl, hbm, hcell⟩⟩
        case yes =>
          have hlt : x.getD (E[j]).t.toNat 0 < needS I x E[j] := by simp only [decide_eq_true_eq] at hb3; omega
          rw [grow_yes hlt, lift_one, hneed] at hF
          conv => whnf
          refine WIdx.mk ⟨b, 0, none⟩ rfl ⟨t0, by omega⟩ ?_
          conv => whnf
          refine WSt.mk (x.map i ++ rest) 3 ?_ ?_ ?_ ?_
          · rw [add0]; exact hcell
          · rw [add0]
          · rw [add0]
            show _ * 1 + 1 ≤ (x.map i ++ rest).length
            rw [List.length_append, List.length_map]; omega
          simp only [add0]
          conv => whnf
          refine WRng.mk (by apply wrap_i64 <;> omega) ?_
          conv => whnf
          refine ⟨j + 1, ⟨rfl, by rw [hF]; rfl, trivial⟩, ⟨le_setn q1 hbm, ?_, hj⟩, by omega⟩
          rw [hF]
          refine ⟨by simp only [List.length_set]; exact xl, fun _ => ⟨b, rest, rfl, hbm, ?_⟩⟩
          rw [Mem.set_same, set_r (z := (E[j]).t.toNat) (by show _ * 1 = _; omega) (by omega)]
    · have hj : j = E.length := by simp only [decide_eq_false_iff_not] at hb2; omega
      subst hj
      conv => whnf
      have hr : (E.take E.length).foldl (growS 1 I) (stS 1 I E C k, false) = roundS 1 I E (stS 1 I E C k) := by rw [List.take_length]; rfl
      rw [hr] at q2
      have hs : solveS 1 I E (n + 1 - k) (stS 1 I E C k) = if (roundS 1 I E (stS 1 I E C k)).2 = true then solveS 1 I E (n + 1 - (k + 1)) (stS 1 I E C (k + 1)) else some (stS 1 I E C (k + 1)) := by
        rw [show n + 1 - k = (n + 1 - (k + 1)) + 1 by omega]; rfl
      refine Br.mk (fun hb3 => ?_) (fun hb3 => ?_)
      · rw [hr] at hb3
        have hf : (roundS 1 I E (stS 1 I E C k)).2 = false := by simpa using hb3
        rw [hf] at hs
        have hs2 : solveS 1 I E (n + 1) C = some (stS 1 I E C (k + 1)) := by rw [g4, hs]; rfl
        conv => whnf
        refine WRet.same ⟨?_, q1⟩
        rw [hs2]; rfl
      · rw [hr] at hb3
        have hf : (roundS 1 I E (stS 1 I E C k)).2 = true := by simpa using hb3
        rw [hf, if_pos rfl] at hs
        conv => whnf
        refine WRng.mk (by apply wrap_i64 <;> omega) ?_
        conv => whnf
        exact ⟨k + 1, ⟨rfl, trivial⟩, ⟨q1, q2, hk, by rw [g4, hs]⟩, by omega⟩
  · have hk : k = n + 1 := by simp only [decide_eq_false_iff_not] at hb; omega
    subst hk
    rw [Nat.sub_self] at g4
    have g5 : solveS 1 I E (n + 1) C = none := g4
    conv => whnf
    refine WRet.same ⟨?_, g1⟩
    rw [g5]; rfl
theorem asks_ok {m : Mem} {v : Value} {n : Nat} {E : List Edg} {I : Int} (hv : EAt m v E) (hlE : E.length ≤ 200000) (hn : n ≤ 401) (hI : 1 ≤ I) (hI2 : I ≤ 4194304) (hE : ∀ e ∈ E, RightE n e) :
    CallsM Tryz.prog 50 [i n, v, i I] m fun e m' => e = .returned (.bool (asksS n E I)) ∧ Mem.le m m' := by
  obtain ⟨a, c, rfl, h0, h1, hcap⟩ := hv
  have hin0 := In_zero n
  have hl0 : (List.replicate n (0 : Int)).length = n := by simp
  refine calls_of mixed Tryz.func50 ok_biremeref23_asks rfl ?_
  conv => whnf
  refine WMake.mk ⟨by omega, Int.le_refl _, by omega⟩ fun bo hbo => ?_
  simp only [Int.toNat_natCast]
  rw [mkZeros]
  have hown : OwnI m (m.set bo (Cells ((List.replicate n (0 : Int)).map i) 3)) (some ⟨bo, 0, none⟩) n (List.replicate n 0) := ⟨hl0, fun _ => ⟨bo, [], rfl, hbo, by rw [List.append_nil]; exact Mem.set_same _ _ _⟩⟩
  have hle1 : Mem.le m (m.set bo (Cells ((List.replicate n (0 : Int)).map i) 3)) := Mem.le_set hbo
  unfold asksS
  generalize (m.set bo (Cells ((List.replicate n (0 : Int)).map i) 3)) = m1 at *
  generalize (some (⟨bo, 0, none⟩ : Addr)) = A at *
  generalize (List.replicate n (0 : Int)) = C at *
  conv => whnf
  refine WLoop.mk Nat (fun k => [(8, .val (i k))]) (fun k m' => Mem.le m m' ∧ OwnI m m' A n (stS 1 I E C k) ∧ k ≤ n + 1 ∧ solveS 1 I E (n + 1) C = solveS 1 I E (n + 1 - k) (stS 1 I E C k)) (fun k => n + 1 - k) 0
    ⟨rfl, trivial⟩ ⟨hle1, hown, Nat.zero_le _, rfl⟩ ?_
  rintro k m2 ⟨g1, g2, g3, g4⟩
  conv => whnf
  refine Br.mk (fun hb => ?_) (fun hb => ?_)
  · have hk : k < n + 1 := by simp only [decide_eq_true_eq] at hb; omega
    conv => whnf
    refine WLoop.mk Nat (fun j => [(10, .val (i j)), (9, .val (.bool ((E.take j).foldl (growS 1 I) (stS 1 I E C k, false)).2))]) (fun j m' => Mem.le m m' ∧ OwnI m m' A n ((E.take j).foldl (growS 1 I) (stS 1 I E C k, false)).1 ∧ j ≤ E.length) (fun j => E.length - j) 0
      ⟨rfl, rfl, trivial⟩ ⟨g1, g2, Nat.zero_le _⟩ ?_
    rintro j m3 ⟨q1, q2, q3⟩
    conv => whnf
    refine Br.mk (fun hb2 => ?_) (fun hb2 => ?_)
    · have hj : j < E.length := by simp only [decide_eq_true_eq] at hb2; omega
      have he := hE E[j] (List.getElem_mem hj)
      have f0 := he.f0
      have fn := he.fn
      have t0 := he.t0
      have tn := he.tn
      have d0 := he.d0
      have d8 := he.d8
      have hmul := mul_bound (by omega : 0 ≤ I) hI2 he.r0 he.r2
      have hF := fold_succ (f := growS 1 I) (s := (stS 1 I E C k, false)) hj
      have hin := st_small (M := 1) (I := I) (by omega) (by omega) (by omega) hin0 hn hlE hE (k := k) (by omega) (j := j) (by omega) false
      generalize (E.take j).foldl (growS 1 I) (stS 1 I E C k, false) = s at *
      obtain ⟨x, g⟩ := s
      simp only at hin q2
      obtain ⟨xl, q4⟩ := q2
      obtain ⟨b, rest, rfl, hbm, hcell⟩ := q4 (by omega)
      have xf := hin.2 (E[j]).f.toNat
      have xt := hin.2 (E[j]).t.toNat
      cases a with
      | none => rw [h0 rfl] at hj; simp at hj
      | some ad =>
        conv => whnf
        refine WIdx.mk ad rfl ⟨by omega, by simpa using hj⟩ ?_
        conv => whnf
        refine WLds.mk (E[j]).cells (by simpa using (EAt.cells (h1 ad rfl) hj).mono q1) rfl ?_
        conv => whnf
        refine WIdx.mk ⟨b, 0, none⟩ rfl ⟨f0, by omega⟩ ?_
        conv => whnf
        refine WLd.mk (i (x.getD (E[j]).f.toNat 0)) (cell_add (cell_r hcell (by omega)) (by omega)) ?_
        conv => whnf
        refine WRng.mk (by apply wrap_i64 <;> omega) ?_
        conv => whnf
        refine WRng.mk (by apply wrap_i64 <;> omega) ?_
        conv => whnf
        refine WRng.mk (by apply wrap_i64 <;> omega) ?_
        conv => whnf
        refine WIdx.mk ⟨b, 0, none⟩ rfl ⟨t0, by omega⟩ ?_
        conv => whnf
        refine WLd.mk (i (x.getD (E[j]).t.toNat 0)) (cell_add (cell_r hcell (by omega)) (by omega)) ?_
        conv => whnf
        have hneed : needS I x E[j] = x.getD (E[j]).f.toNat 0 + (E[j]).d - I * (E[j]).r := rfl
        refine Br.mk (fun hb3 => ?yes) (fun hb3 => ?no)
        case no =>
          have hle : needS I x E[j] ≤ x.getD (E[j]).t.toNat 0 := by simp only [decide_eq_false_iff_not] at hb3; omega
          rw [grow_no hle] at hF
          conv => whnf
          refine WRng.mk (by apply wrap_i64 <;> omega) ?_
          conv => whnf
          refine ⟨j + 1, ⟨rfl, by rw [hF]; rfl, trivial⟩, ⟨q1, ?_, hj⟩, by omega⟩
          rw [hF]
          exact ⟨xl, fun _ => ⟨b, rest, rfl, hbm, hcell⟩⟩
        case yes =>
          have hlt : x.getD (E[j]).t.toNat 0 < needS I x E[j] := by simp only [decide_eq_true_eq] at hb3; omega
          rw [grow_yes hlt, lift_one, hneed] at hF
          conv => whnf
          refine WIdx.mk ⟨b, 0, none⟩ rfl ⟨t0, by omega⟩ ?_
          conv => whnf
          refine WSt.mk (x.map i ++ rest) 3 ?_ ?_ ?_ ?_
          · rw [add0]; exact hcell
          · rw [add0]
          · rw [add0]
            show _ * 1 + 1 ≤ (x.map i ++ rest).length
            rw [List.length_append, List.length_map]; omega
          simp only [add0]
          conv => whnf
          refine WRng.mk (by apply wrap_i64 <;> omega) ?_
          conv => whnf
          refine ⟨j + 1, ⟨rfl, by rw [hF]; rfl, trivial⟩, ⟨le_setn q1 hbm, ?_, hj⟩, by omega⟩
          rw [hF]
          refine ⟨by simp only [List.length_set]; exact xl, fun _ => ⟨b, rest, rfl, hbm, ?_⟩⟩
          rw [Mem.set_same, set_r (z := (E[j]).t.toNat) (by show _ * 1 = _; omega) (by omega)]
    · have hj : j = E.length := by simp only [decide_eq_false_iff_not] at hb2; omega
      subst hj
      conv => whnf
      have hr : (E.take E.length).foldl (growS 1 I) (stS 1 I E C k, false) = roundS 1 I E (stS 1 I E C k) := by rw [List.take_length]; rfl
      rw [hr] at q2
      have hs : solveS 1 I E (n + 1 - k) (stS 1 I E C k) = if (roundS 1 I E (stS 1 I E C k)).2 = true then solveS 1 I E (n + 1 - (k + 1)) (stS 1 I E C (k + 1)) else some (stS 1 I E C (k + 1)) := by
        rw [show n + 1 - k = (n + 1 - (k + 1)) + 1 by omega]; rfl
      refine Br.mk (fun hb3 => ?_) (fun hb3 => ?_)
      · rw [hr] at hb3
        have hf : (roundS 1 I E (stS 1 I E C k)).2 = false := by simpa using hb3
        rw [hf] at hs
        have hs2 : solveS 1 I E (n + 1) C = some (stS 1 I E C (k + 1)) := by rw [g4, hs]; rfl
        conv => whnf
        refine WRet.same ⟨?_, q1⟩
        rw [hs2]; rfl
      · rw [hr] at hb3
        have hf : (roundS 1 I E (stS 1 I E C k)).2 = true := by simpa using hb3
        rw [hf, if_pos rfl] at hs
        conv => whnf
        refine WRng.mk (by apply wrap_i64 <;> omega) ?_
        conv => whnf
        exact ⟨k + 1, ⟨rfl, trivial⟩, ⟨q1, q2, hk, by rw [g4, hs]⟩, by omega⟩
  · have hk : k = n + 1 := by simp only [decide_eq_false_iff_not] at hb; omega
    subst hk
    rw [Nat.sub_self] at g4
    have g5 : solveS 1 I E (n + 1) C = none := g4
    conv => whnf
    refine WRet.same ⟨?_, g1⟩
    rw [g5]; rfl
theorem asks_below {n : Nat} {E : List Edg} {L z : Int} (hE : ∀ e ∈ E, RightE n e) (h : asksS n E L = true) (hz : z ≤ L) : asksS n E z = true := by
  cases hh : asksS n E z with
  | true => rfl
  | false => rw [asks_mono hE hh hz] at h; cases h
theorem EAt.slice {m : Mem} {v : Value} {E : List Edg} (h : EAt m v E) : ∃ a c, v = .slice a E.length c := by obtain ⟨a, c, e, _⟩ := h; exact ⟨a, c, e⟩
theorem ring_ok {m : Mem} {v : Value} {n : Nat} {E : List Edg} (hv : EAt m v E) (hlE : E.length ≤ 200000) (hn : n ≤ 401) (hE : ∀ e ∈ E, RightE n e) :
    CallsM Tryz.prog 49 [i n, v] m fun e m' => ∃ R, e = .returned (i R) ∧ IsRing n E R ∧ Mem.le m m' := by
  obtain ⟨a, c, rfl⟩ := hv.slice
  refine calls_of mixed Tryz.func49 ok_modulo_ring rfl ?_
  conv => whnf
  refine WRng.mk (by apply wrap_i64 <;> omega) ?_
  conv => whnf
  refine WRng.mk (by apply wrap_i64 <;> omega) ?_
  conv => whnf
  refine WCall.mk (above_ok hv hlE hn (by omega) (by omega) hE) ?_
  rintro _ m1 ⟨rfl, hle1⟩
  conv => whnf
  have hc : (n : Int) * 8 + 1 = 8 * n + 1 := by omega
  refine Br.mk (fun hb => ?_) (fun hb => ?_)
  · conv => whnf
    exact WRet.same ⟨0, rfl, .inl ⟨by rw [← hc]; exact hb, rfl⟩, hle1⟩
  conv => whnf
  refine WLoop.mk (Int × Int) (fun s => [(5, .val (i s.1)), (6, .val (i s.2))]) (fun s m' => Mem.le m m' ∧ 1 ≤ s.1 ∧ s.1 ≤ s.2 ∧ s.2 ≤ 8 * n + 1 ∧ asksS n E s.2 = false ∧ ∀ z, 1 ≤ z → z < s.1 → asksS n E z = true) (fun s => (s.2 - s.1).toNat) (1, (n : Int) * 8 + 1)
    ⟨rfl, rfl, trivial⟩ ⟨hle1, by simp only; omega, by simp only; omega, by simp only; omega, hb, fun z z1 z2 => by simp only at z2; omega⟩ ?_
  rintro ⟨low, high⟩ m2 ⟨g1, g2, g3, g4, g5, g6⟩
  simp only at g2 g3 g4 g5 g6
  conv => whnf
  refine Br.mk (fun hb2 => ?_) (fun hb2 => ?_)
  · have hlt : low < high := by simpa using hb2
    conv => whnf
    refine WRng.mk (by apply wrap_i64 <;> omega) ?_
    conv => whnf
    have hq : (low + high).tdiv 2 = (low + high) / 2 := Int.tdiv_eq_ediv_of_nonneg (by omega)
    have hw : IntKind.i64.wrap ((low + high).tdiv 2) = (low + high) / 2 := by rw [hq]; apply wrap_i64 <;> omega
    refine WNe.mk (by decide) ?_
    conv => whnf
    rw [hw]
    generalize hmid : (low + high) / 2 = mid
    have h1 : low ≤ mid := by omega
    have h2 : mid < high := by omega
    conv => whnf
    refine WCall.mk (above_ok (hv.mono g1) hlE hn (by omega) (by omega) hE) ?_
    rintro _ m3 ⟨rfl, hle3⟩
    conv => whnf
    refine Br.mk (fun hb3 => ?_) (fun hb3 => ?_)
    · conv => whnf
      refine WRng.mk (by apply wrap_i64 <;> omega) ?_
      conv => whnf
      exact ⟨(mid + 1, high), ⟨rfl, rfl, trivial⟩, ⟨g1.trans hle3, by simp only; omega, by simp only; omega, g4, g5, fun z z1 z2 => asks_below hE hb3 (by simp only at z2; omega)⟩, by simp only; omega⟩
    · conv => whnf
      exact ⟨(low, mid), ⟨rfl, rfl, trivial⟩, ⟨g1.trans hle3, g2, by simp only; omega, by simp only; omega, hb3, g6⟩, by simp only; omega⟩
  · have hge : low = high := by simp only [decide_eq_false_iff_not] at hb2; omega
    conv => whnf
    refine WRet.same ⟨low, rfl, .inr ⟨?_, g2, by rw [hge]; exact g5, g6⟩, g1⟩
    rw [← hc]; exact hb
theorem refRing_ok {m : Mem} {v : Value} {n : Nat} {E : List Edg} (hv : EAt m v E) (hlE : E.length ≤ 200000) (hn : n ≤ 401) (hE : ∀ e ∈ E, RightE n e) :
    CallsM Tryz.prog 17 [i n, v] m fun e m' => ∃ R, e = .returned (i R) ∧ IsRing n E R ∧ Mem.le m m' := by
  obtain ⟨a, c, rfl⟩ := hv.slice
  refine calls_of mixed Tryz.func17 ok_biremeref23_Ring rfl ?_
  conv => whnf
  refine WRng.mk (by apply wrap_i64 <;> omega) ?_
  conv => whnf
  refine WRng.mk (by apply wrap_i64 <;> omega) ?_
  conv => whnf
  refine WCall.mk (asks_ok hv hlE hn (by omega) (by omega) hE) ?_
  rintro _ m1 ⟨rfl, hle1⟩
  conv => whnf
  have hc : (n : Int) * 8 + 1 = 8 * n + 1 := by omega
  refine Br.mk (fun hb => ?_) (fun hb => ?_)
  · conv => whnf
    exact WRet.same ⟨0, rfl, .inl ⟨by rw [← hc]; exact hb, rfl⟩, hle1⟩
  conv => whnf
  refine WLoop.mk (Int × Int) (fun s => [(5, .val (i s.1)), (6, .val (i s.2))]) (fun s m' => Mem.le m m' ∧ 0 ≤ s.1 ∧ s.1 < s.2 ∧ s.2 ≤ 8 * n + 1 ∧ asksS n E s.2 = false ∧ ∀ z, 1 ≤ z → z ≤ s.1 → asksS n E z = true) (fun s => (s.2 - s.1).toNat) (0, (n : Int) * 8 + 1)
    ⟨rfl, rfl, trivial⟩ ⟨hle1, by simp only; omega, by simp only; omega, by simp only; omega, hb, fun z z1 z2 => by simp only at z2; omega⟩ ?_
  rintro ⟨low, high⟩ m2 ⟨g1, g2, g3, g4, g5, g6⟩
  simp only at g2 g3 g4 g5 g6
  conv => whnf
  refine WRng.mk (by apply wrap_i64 <;> omega) ?_
  conv => whnf
  refine Br.mk (fun hb2 => ?_) (fun hb2 => ?_)
  · have hlt : high - low > 1 := by simpa using hb2
    conv => whnf
    refine WRng.mk (by apply wrap_i64 <;> omega) ?_
    conv => whnf
    have hq : (low + high).tdiv 2 = (low + high) / 2 := Int.tdiv_eq_ediv_of_nonneg (by omega)
    have hw : IntKind.i64.wrap ((low + high).tdiv 2) = (low + high) / 2 := by rw [hq]; apply wrap_i64 <;> omega
    refine WNe.mk (by decide) ?_
    conv => whnf
    rw [hw]
    generalize hmid : (low + high) / 2 = mid
    have h1 : low < mid := by omega
    have h2 : mid < high := by omega
    conv => whnf
    refine WCall.mk (asks_ok (hv.mono g1) hlE hn (by omega) (by omega) hE) ?_
    rintro _ m3 ⟨rfl, hle3⟩
    conv => whnf
    refine Br.mk (fun hb3 => ?_) (fun hb3 => ?_)
    · conv => whnf
      exact ⟨(mid, high), ⟨rfl, rfl, trivial⟩, ⟨g1.trans hle3, by simp only; omega, by simp only; omega, g4, g5, fun z z1 z2 => asks_below hE hb3 (by simp only at z2; omega)⟩, by simp only; omega⟩
    · conv => whnf
      exact ⟨(low, mid), ⟨rfl, rfl, trivial⟩, ⟨g1.trans hle3, g2, by simp only; omega, by simp only; omega, hb3, g6⟩, by simp only; omega⟩
  · have hge : high = low + 1 := by simp only [decide_eq_false_iff_not] at hb2; omega
    conv => whnf
    refine WRet.same ⟨high, rfl, .inr ⟨?_, by omega, g5, fun z z1 z2 => g6 z z1 (by omega)⟩, g1⟩
    rw [← hc]; exact hb
end Go.Proofs.YtmnagbhllnlelaaGreatDoor
