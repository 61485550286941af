/- The law OrderFalls. -/
import Derived.Test.YtmnagbhllnlelaaGreatDoorVxForms
set_option linter.unusedSimpArgs false
set_option linter.unusedVariables false
set_option maxRecDepth 100000
namespace Go.Proofs.YtmnagbhllnlelaaGreatDoor
open Go Go.Vx
open Go.Vx.IOp Go.Vx.IR Go.Vx.Opd
/-! The plain law of heights. -/
theorem fold_law {n k : Nat} (hk : k < n) : ∀ (L : List Edg) (out : List Int), out.length = n → (∀ e ∈ L, Fwd n e ∧ e.f = k ∧ e.r = 0) →
    (∀ j, j ≠ k → (L.foldl (relax k) out).getD j 0 = out.getD j 0) ∧ out.getD k 0 ≤ (L.foldl (relax k) out).getD k 0 ∧
    (∀ e ∈ L, out.getD e.t.toNat 0 + e.d ≤ (L.foldl (relax k) out).getD k 0) ∧
    ((L.foldl (relax k) out).getD k 0 = out.getD k 0 ∨ ∃ e ∈ L, (L.foldl (relax k) out).getD k 0 = out.getD e.t.toNat 0 + e.d)
  | [], out, _, _ => ⟨fun _ _ => rfl, Int.le_refl _, (fun e h => by cases h), .inl rfl⟩
  | e :: L, out, hl, hL => by
    obtain ⟨hf, h1, h2⟩ := hL e (by simp)
    have hup := hf.up h2
    have htk : e.t.toNat ≠ k := by omega
    have o1 : ∀ j, (relax k out e).getD j 0 = if j = k then max (out.getD k 0) (out.getD e.t.toNat 0 + e.d) else out.getD j 0 := fun j => by
      unfold relax; rw [getD_set (by omega)]
    obtain ⟨i1, i2, i3, i4⟩ := fold_law hk L (relax k out e) (by unfold relax; simp [hl]) fun x hx => hL x (by simp [hx])
    have ok := o1 k
    rw [if_pos rfl] at ok
    rw [List.foldl_cons]
    have tk : ∀ x ∈ L, (relax k out e).getD x.t.toNat 0 = out.getD x.t.toNat 0 := fun x hx => by
      obtain ⟨gf, g1, g2⟩ := hL x (by simp [hx])
      have := gf.up g2
      rw [o1, if_neg (by omega)]
    refine ⟨fun j hj => by rw [i1 j hj, o1, if_neg hj], by rw [ok] at i2; omega, fun x hx => ?_, ?_⟩
    · rcases List.mem_cons.1 hx with rfl | hx
      · rw [ok] at i2; omega
      · have := i3 x hx; rw [tk x hx] at this; exact this
    · rcases i4 with h | ⟨x, hx, h⟩
      · rw [h, ok]
        by_cases c : out.getD e.t.toNat 0 + e.d ≤ out.getD k 0
        · exact .inl (by omega)
        · exact .inr ⟨e, by simp, by omega⟩
      · exact .inr ⟨x, by simp [hx], by rw [h, tk x hx]⟩
def LawA (E : List Edg) (k : Nat) (out : List Int) : Prop := ∀ e ∈ E, e.r = 0 → (k : Int) ≤ e.f → out.getD e.t.toNat 0 + e.d ≤ out.getD e.f.toNat 0
def LawB (E : List Edg) (n k : Nat) (out : List Int) : Prop := ∀ j, k ≤ j → j < n → 0 < out.getD j 0 → ∃ e ∈ E, e.r = 0 ∧ e.f = j ∧ out.getD j 0 = out.getD e.t.toNat 0 + e.d
theorem hgt_law {E : List Edg} {n : Nat} (hE : ∀ e ∈ E, Fwd n e) : ∀ (k : Nat) (out : List Int), k ≤ n → Bnd n out → (∀ j, j < k → out.getD j 0 = 0) → LawA E k out → LawB E n k out →
    Bnd n (hgt E k out) ∧ LawA E 0 (hgt E k out) ∧ LawB E n 0 (hgt E k out)
  | 0, out, _, hb, _, ha, hB => ⟨hb, ha, hB⟩
  | k + 1, out, hk, hb, h0, ha, hB => by
    have hL := filt_ok (k := k) hE
    obtain ⟨i1, i2, i3, i4⟩ := fold_law (n := n) (by omega) (E.filter (atK k)) out hb.1 hL
    have hrow : rowH E k out = (E.filter (atK k)).foldl (relax k) out := rfl
    rw [← hrow] at i1 i2 i3 i4
    show Bnd n (hgt E k (rowH E k out)) ∧ _
    refine hgt_law hE k (rowH E k out) (by omega) (bnd_fold hb hL) (fun j hj => by rw [i1 j (by omega)]; exact h0 j (by omega)) (fun e he hr hf => ?_) (fun j hj hjn hpos => ?_)
    · have fw := hE e he
      have hup := fw.up hr
      have f0 := fw.f0
      by_cases c : e.f = k
      · have hm : e ∈ E.filter (atK k) := List.mem_filter.2 ⟨he, atK_iff.2 ⟨c, hr⟩⟩
        have := i3 e hm
        rw [i1 e.t.toNat (by omega), show e.f.toNat = k by omega]
        exact this
      · rw [i1 e.t.toNat (by omega), i1 e.f.toNat (by omega)]
        exact ha e he hr (by omega)
    · by_cases c : j = k
      · subst c
        rcases i4 with h | ⟨e, he, h⟩
        · rw [h, h0 j (by omega)] at hpos; exact absurd hpos (by omega)
        · obtain ⟨fw, g1, g2⟩ := hL e he
          have hup := fw.up g2
          exact ⟨e, (List.mem_filter.1 he).1, g2, g1, by rw [h, i1 e.t.toNat (by omega)]⟩
      · rw [i1 j c] at hpos
        obtain ⟨e, he, hr, hf, h⟩ := hB j (by omega) hjn hpos
        have hup := (hE e he).up hr
        exact ⟨e, he, hr, hf, by rw [i1 j c, i1 e.t.toNat (by omega)]; exact h⟩
theorem zeros_law {E : List Edg} {n : Nat} (hE : ∀ e ∈ E, Fwd n e) : Bnd n (hgt E n (List.replicate n 0)) ∧ LawA E 0 (hgt E n (List.replicate n 0)) ∧ LawB E n 0 (hgt E n (List.replicate n 0)) := by
  have hz : ∀ j, (List.replicate n (0 : Int)).getD j 0 = 0 := fun j => by
    rw [List.getD_eq_getElem?_getD, List.getElem?_replicate]; split <;> rfl
  refine hgt_law hE n _ (Nat.le_refl _) (bnd_zero n) (fun j _ => hz j) (fun e he hr hf => ?_) (fun j hj hjn hpos => ?_)
  · have := (hE e he).fn; omega
  · omega
def fallB (C : List Int) (j : Nat) (e : Edg) : Bool := decide (e.r = 0) && decide (e.f = (j : Int)) && decide (C.getD e.f.toNat 0 = C.getD e.t.toNat 0 + e.d)
theorem any_take {E : List Edg} {p : Edg → Bool} {k : Nat} (hk : k < E.length) : (E.take (k + 1)).any p = ((E.take k).any p || p E[k]) := by
  rw [List.take_succ_eq_append_getElem hk, List.any_append]; simp
theorem whole_step {N : Nat} {C : List Int} {D : List Edg} {Wh : List Bool} {k : Nat} (hk : k < D.length) (hl : Wh.length = N) (hf : (D[k]).f.toNat < N) (f0 : 0 ≤ (D[k]).f) (hr : (D[k]).r = 0) (h : ∀ j, j < N → Wh.getD j false = (D.take k).any (fallB C j)) {v : Bool}
    (hv : v = (Wh.getD (D[k]).f.toNat false || decide (C.getD (D[k]).f.toNat 0 = C.getD (D[k]).t.toNat 0 + (D[k]).d))) : ∀ j, j < N → (Wh.set (D[k]).f.toNat v).getD j false = (D.take (k + 1)).any (fallB C j) := fun j hj => by
  rw [any_take hk, List.getD_eq_getElem?_getD, List.getElem?_set]
  by_cases e : (D[k]).f.toNat = j
  · rw [if_pos e]
    rw [if_pos (by omega)]
    subst hv
    rw [e, h j hj]
    have e2 : (D[k]).f = (j : Int) := by omega
    have : fallB C j D[k] = decide (C.getD (D[k]).f.toNat 0 = C.getD (D[k]).t.toNat 0 + (D[k]).d) := by unfold fallB; rw [decide_eq_true hr, decide_eq_true e2]; rfl
    rw [this, e]; rfl
  · rw [if_neg e, ← List.getD_eq_getElem?_getD, h j hj]
    have : fallB C j D[k] = false := by unfold fallB; rw [decide_eq_false (p := (D[k]).f = (j : Int)) (by omega)]; simp
    rw [this, Bool.or_false]
theorem bool_cells {Wh : List Bool} {z z' : Nat} {v : Bool} (h : z' = z) : spliceL (Wh.map Value.bool) z' (cellsL (.bool v)) = (Wh.set z v).map Value.bool := by
  subst h
  show (Wh.map Value.bool).set z' _ = _
  rw [List.map_set]
theorem cell_b {m : Mem} {b z : Nat} {o : List Bool} {T : TypeId} (h : m b = some (Cells (o.map Value.bool) T)) (hz : z < o.length) : CellAt m ⟨b, z, none⟩ (.bool (o.getD z false)) := ⟨_, _, _, h, rfl, by simp [List.getD_eq_getElem?_getD, hz]⟩
theorem orderFalls_ok {m : Mem} {v : Value} {E : List Edg} {n : Int} (hv : EAt m v E) (hlen : E.length < 2 ^ 63) (hR : ∀ e ∈ E, e.r ≤ 9223372036854775807) {T : Nat} {fr : Nat × Nat} (hm : m 0 = some (.cells ⟨cells0⟩ T fr)) :
    CallsM Tryz.prog 7 [i n, v] m fun e m' => e = .returned (.bool true) ∧ Mem.le m m' := by
  have hl200 : (E.take 200).length < 2 ^ 63 := by rw [List.length_take]; omega
  have hR2 : ∀ e ∈ E.take 200, e.r ≤ 9223372036854775807 := fun e he => hR e (List.mem_of_mem_take he)
  refine calls_of mixed Tryz.func7 ok_biremelaw20_OrderFalls rfl ?_
  conv => whnf
  refine WCall.mk (few_ok hv hlen) ?_
  rintro _ m1 ⟨w1, rfl, hle1, hw1⟩
  conv => whnf
  refine WCall.mk (heights_ok hw1 hl200 hR2 n) ?_
  rintro _ m2 ⟨h, rfl, hle2, hh⟩
  have hle12 := hle1.trans hle2
  conv => whnf
  refine Br.mk (fun hb => ?_) (fun hb => ?_)
  · conv => whnf
    refine WCall.pure (alive20_calls (T := T) (fr := fr) (hle12 _ _ hm)) ?_
    conv => whnf
    exact WRet.same ⟨rfl, hle12⟩
  simp only [bne_eq_false_iff_eq] at hb
  -- the heights are there
  obtain ⟨N, C, hN, hCl, hbnd, hA, hB, hFw, hC⟩ : ∃ (N : Nat) (C : List Int), N ≤ 401 ∧ C.length = N ∧ Bnd N C ∧ LawA (E.take 200) 0 C ∧ LawB (E.take 200) N 0 C ∧ (∀ e ∈ E.take 200, Fwd N e) ∧ IAt m2 h C := by
    unfold heightsS at hb hh
    by_cases c1 : n > 401 ∨ (E.take 200).length > 200000
    · rw [if_pos c1] at hb; cases hb
    · rw [if_neg c1] at hb hh
      by_cases c2 : n < 0
      · rw [if_pos c2] at hb; cases hb
      · rw [if_neg c2] at hb hh
        by_cases c3 : firstCode (cdW n true) (E.take 200) ≠ 0
        · rw [if_pos c3] at hb; exact absurd hb c3
        · rw [if_neg c3] at hh
          obtain ⟨N, rfl⟩ : ∃ N : Nat, n = N := ⟨n.toNat, by omega⟩
          simp only [Int.toNat_natCast] at hh
          have hF := fwd_of (Decidable.not_not.1 c3)
          obtain ⟨z1, z2, z3⟩ := zeros_law hF
          exact ⟨N, _, by omega, z1.1, z1, z2, z3, hF, hh⟩
  conv => whnf
  refine WCall.mk (few_ok (hv.mono hle12) hlen) ?_
  rintro _ m3 ⟨w3, rfl, hle3, hw3⟩
  have hl3 : (E.take 200).length ≤ 200 := by rw [List.length_take]; omega
  generalize E.take 200 = D at hA hB hFw hw3 hl3
  have hC3 := hC.mono hle3
  obtain ⟨a1, c1, rfl, p0, p1, p2⟩ := hC3
  obtain ⟨a2, c2, rfl, r0, r1, r2⟩ := hw3
  have hle123 := hle12.trans hle3
  conv => whnf
  refine WMake.mk ⟨by omega, Int.le_refl _, by omega⟩ fun bw hbw => ?_
  simp only [Int.toNat_natCast]
  have hfl : (List.replicate C.length [Value.bool false]).flatten = (List.replicate N false).map Value.bool := by rw [hCl]; simp
  rw [hfl]
  have hmbw : m bw = none := by
    cases hh : m bw with
    | none => rfl
    | some o => rw [hle123 bw o hh] at hbw; cases hbw
  conv => whnf
  refine WLoop.mk (Nat × List Bool) (fun s => [(9, .val (i s.1))])
    (fun s m' => Mem.le m3 m' ∧ m' bw = some (Cells (s.2.map Value.bool) 4) ∧ s.1 ≤ D.length ∧ s.2.length = N ∧ ∀ j, j < N → s.2.getD j false = (D.take s.1).any (fallB C j)) (fun s => D.length - s.1) (0, List.replicate N false)
    ⟨rfl, trivial⟩ ⟨Mem.le_set hbw, Mem.set_same _ _ _, Nat.zero_le _, by simp, fun j hj => by rw [List.getD_eq_getElem?_getD, List.getElem?_replicate, if_pos hj]; rfl⟩ ?_
  rintro ⟨k, Wh⟩ m4 ⟨g1, g2, g3, g4, g5⟩
  simp only at g2 g3 g4 g5
  conv => whnf
  refine Br.mk (fun hb2 => ?_) (fun hb2 => ?_)
  · have hk : k < D.length := by simpa using hb2
    have hfw := hFw D[k] (List.getElem_mem hk)
    obtain ⟨ad2, rfl⟩ : ∃ ad, a2 = some ad := by
      cases a2 with
      | none => rw [r0 rfl] at hk; simp at hk
      | some ad => exact ⟨ad, rfl⟩
    have hcell : ∀ (q : Nat) (u : Value), (D[k]).cells[q]? = some u → CellAt m4 ((ad2.add (k * 4)).add q) u := fun q u hq => ((EAt.cells (r1 ad2 rfl) hk) q u hq).mono g1
    conv => whnf
    refine WIdx.mk ad2 rfl ⟨by omega, by simpa using hk⟩ ?_
    conv => whnf
    refine WLd.mk (i (D[k]).r) (by simpa using hcell 3 _ rfl) ?_
    conv => whnf
    refine Br.mk (fun hb3 => ?_) (fun hb3 => ?_)
    · have hr : (D[k]).r ≠ 0 := by simpa using hb3
      conv => whnf
      refine WRng.mk (by apply wrap_i64 <;> omega) ?_
      conv => whnf
      refine ⟨(k + 1, Wh), ⟨rfl, trivial⟩, ⟨g1, g2, hk, g4, fun j hj => ?_⟩, by simp only; omega⟩
      simp only
      rw [any_take hk, g5 j hj]
      have : fallB C j D[k] = false := by unfold fallB; rw [decide_eq_false hr]; rfl
      rw [this, Bool.or_false]
    · have hr : (D[k]).r = 0 := by simpa using hb3
      have hup := hfw.up hr
      have f0 := hfw.f0
      have tn := hfw.tn
      have d0 := hfw.d0
      have d8 := hfw.d8
      have hfN : (D[k]).f.toNat < N := by omega
      have htN : (D[k]).t.toNat < N := by omega
      have bf := hbnd.2 _ hfN
      have bt := hbnd.2 _ htN
      have hlaw := hA D[k] (List.getElem_mem hk) hr (by omega)
      obtain ⟨ad1, rfl⟩ : ∃ ad, a1 = some ad := by
        cases a1 with
        | none => have := p0 rfl; rw [this] at hCl; simp at hCl; omega
        | some ad => exact ⟨ad, rfl⟩
      have hcc : ∀ q, q < N → CellAt m4 (ad1.add q) (i (C.getD q 0)) := fun q hq => (p1 ad1 rfl q _ (by rw [List.getElem?_map, List.getElem?_eq_getElem (by omega), List.getD_eq_getElem?_getD, List.getElem?_eq_getElem (by omega)]; rfl)).mono g1
      conv => whnf
      refine WIdx.mk ad2 rfl ⟨by omega, by simpa using hk⟩ ?_
      conv => whnf
      refine WLd.mk (i (D[k]).f) (by simpa using hcell 0 _ rfl) ?_
      conv => whnf
      refine WIdx.mk ad1 rfl ⟨by omega, by omega⟩ ?_
      conv => whnf
      refine WLd.mk (i (C.getD (D[k]).f.toNat 0)) (by simpa using hcc _ hfN) ?_
      conv => whnf
      refine WIdx.mk ad2 rfl ⟨by omega, by simpa using hk⟩ ?_
      conv => whnf
      refine WLd.mk (i (D[k]).t) (by simpa using hcell 1 _ rfl) ?_
      conv => whnf
      refine WIdx.mk ad1 rfl ⟨by omega, by omega⟩ ?_
      conv => whnf
      refine WLd.mk (i (C.getD (D[k]).t.toNat 0)) (by simpa using hcc _ htN) ?_
      conv => whnf
      refine WIdx.mk ad2 rfl ⟨by omega, by simpa using hk⟩ ?_
      conv => whnf
      refine WLd.mk (i (D[k]).d) (by simpa using hcell 2 _ rfl) ?_
      conv => whnf
      refine WRng.mk (by apply wrap_i64 <;> omega) ?_
      conv => whnf
      refine Br.mk (fun hb4 => ?_) (fun hb4 => ?_)
      · simp only [decide_eq_true_eq] at hb4; exact absurd hb4 (by omega)
      conv => whnf
      refine WIdx.mk ad2 rfl ⟨by omega, by simpa using hk⟩ ?_
      conv => whnf
      refine WLd.mk (i (D[k]).f) (by simpa using hcell 0 _ rfl) ?_
      conv => whnf
      refine WIdx.mk ad2 rfl ⟨by omega, by simpa using hk⟩ ?_
      conv => whnf
      refine WLd.mk (i (D[k]).f) (by simpa using hcell 0 _ rfl) ?_
      conv => whnf
      refine WIdx.mk ⟨bw, 0, none⟩ rfl ⟨by omega, by omega⟩ ?_
      conv => whnf
      refine WLd.mk (.bool (Wh.getD (D[k]).f.toNat false)) (cell_add (cell_b g2 (by omega)) (by omega)) ?_
      conv => whnf
      refine Br.mk (fun hb5 => ?_) (fun hb5 => ?_)
      · conv => whnf
        refine Br.mk (fun _ => ?_) (fun h => by cases h)
        conv => whnf
        refine WIdx.mk ⟨bw, 0, none⟩ rfl ⟨by omega, by omega⟩ ?_
        conv => whnf
        refine ⟨?_, trivial⟩
        conv => whnf
        refine WSt.mk (Wh.map Value.bool) 4 ?_ ?_ ?_ ?_
        · rw [add0]; exact g2
        · rw [add0]
        · rw [add0]
          show _ * 1 + 1 ≤ (Wh.map Value.bool).length
          rw [List.length_map]; omega
        simp only [add0]
        conv => whnf
        refine WRng.mk (by apply wrap_i64 <;> omega) ?_
        conv => whnf
        refine ⟨(k + 1, Wh.set (D[k]).f.toNat true), ⟨rfl, trivial⟩, ⟨le_setn g1 hbw, ?_, hk, by simp [g4], whole_step hk g4 hfN f0 hr g5 (by rw [hb5]; rfl)⟩, by simp only; omega⟩
        rw [Mem.set_same, bool_cells (z := (D[k]).f.toNat) (by show _ * 1 = _; omega)]
      · conv => whnf
        refine WIdx.mk ad2 rfl ⟨by omega, by simpa using hk⟩ ?_
        conv => whnf
        refine WLd.mk (i (D[k]).f) (by simpa using hcell 0 _ rfl) ?_
        conv => whnf
        refine WIdx.mk ad1 rfl ⟨by omega, by omega⟩ ?_
        conv => whnf
        refine WLd.mk (i (C.getD (D[k]).f.toNat 0)) (by simpa using hcc _ hfN) ?_
        conv => whnf
        refine WIdx.mk ad2 rfl ⟨by omega, by simpa using hk⟩ ?_
        conv => whnf
        refine WLd.mk (i (D[k]).t) (by simpa using hcell 1 _ rfl) ?_
        conv => whnf
        refine WIdx.mk ad1 rfl ⟨by omega, by omega⟩ ?_
        conv => whnf
        refine WLd.mk (i (C.getD (D[k]).t.toNat 0)) (by simpa using hcc _ htN) ?_
        conv => whnf
        refine WIdx.mk ad2 rfl ⟨by omega, by simpa using hk⟩ ?_
        conv => whnf
        refine WLd.mk (i (D[k]).d) (by simpa using hcell 2 _ rfl) ?_
        conv => whnf
        refine WRng.mk (by apply wrap_i64 <;> omega) ?_
        conv => whnf
        refine Br.mk (fun h => by cases h) (fun _ => ?_)
        conv => whnf
        refine WIdx.mk ⟨bw, 0, none⟩ rfl ⟨by omega, by omega⟩ ?_
        conv => whnf
        refine ⟨?_, trivial⟩
        conv => whnf
        refine WSt.mk (Wh.map Value.bool) 4 ?_ ?_ ?_ ?_
        · rw [add0]; exact g2
        · rw [add0]
        · rw [add0]
          show _ * 1 + 1 ≤ (Wh.map Value.bool).length
          rw [List.length_map]; omega
        simp only [add0]
        conv => whnf
        refine WRng.mk (by apply wrap_i64 <;> omega) ?_
        conv => whnf
        refine ⟨(k + 1, Wh.set (D[k]).f.toNat (C.getD (D[k]).f.toNat 0 == C.getD (D[k]).t.toNat 0 + (D[k]).d)), ⟨rfl, trivial⟩, ⟨le_setn g1 hbw, ?_, hk, by simp [g4], whole_step hk g4 hfN f0 hr g5 (by rw [hb5, Bool.false_or]; rfl)⟩, by simp only; omega⟩
        rw [Mem.set_same, bool_cells (z := (D[k]).f.toNat) (by show _ * 1 = _; omega)]
  · have hkD : k = D.length := by simp at hb2; omega
    subst hkD
    rw [List.take_length] at g5
    conv => whnf
    refine WLoop.mk Nat (fun k => [(10, .val (i k))]) (fun k m' => m4 = m' ∧ k ≤ N) (fun k => N - k) 0 ⟨rfl, trivial⟩ ⟨rfl, Nat.zero_le _⟩ ?_
    rintro j m' ⟨rfl, hj⟩
    conv => whnf
    refine Br.mk (fun hb3 => ?_) (fun hb3 => ?_)
    · have hj2 : j < N := by simp at hb3; omega
      have bj := hbnd.2 _ hj2
      obtain ⟨ad1, rfl⟩ : ∃ ad, a1 = some ad := by
        cases a1 with
        | none => have := p0 rfl; rw [this] at hCl; simp at hCl; omega
        | some ad => exact ⟨ad, rfl⟩
      have hcc : ∀ q, q < N → CellAt m4 (ad1.add q) (i (C.getD q 0)) := fun q hq => (p1 ad1 rfl q _ (by rw [List.getElem?_map, List.getElem?_eq_getElem (by omega), List.getD_eq_getElem?_getD, List.getElem?_eq_getElem (by omega)]; rfl)).mono g1
      have hwh : decide (C.getD j 0 > 0) = true → Wh.getD j false = true := fun h => by
        obtain ⟨e, he, h1, h2, h3⟩ := hB j (Nat.zero_le _) hj2 (by simpa using h)
        rw [g5 j hj2]
        exact List.any_eq_true.2 ⟨e, he, by unfold fallB; rw [decide_eq_true h1, decide_eq_true h2, show e.f.toNat = j by omega, decide_eq_true h3]; rfl⟩
      conv => whnf
      refine WIdx.mk ad1 rfl ⟨by omega, by omega⟩ ?_
      conv => whnf
      refine WLd.mk (i (C.getD j 0)) (by simpa using hcc _ hj2) ?_
      conv => whnf
      refine WSc.mk (v := false) (fun _ => ?_) ?_
      · conv => whnf
        refine WIdx.mk ad1 rfl ⟨by omega, by omega⟩ ?_
        conv => whnf
        refine WLd.mk (i (C.getD j 0)) (by simpa using hcc _ hj2) ?_
        conv => whnf
        refine WSc.mk (v := false) (fun hpos => ?_) ?_
        · conv => whnf
          refine WIdx.mk ⟨bw, 0, none⟩ rfl ⟨by omega, by omega⟩ ?_
          conv => whnf
          refine WLd.mk (.bool (Wh.getD j false)) (cell_add (cell_b g2 (by omega)) (by omega)) ?_
          rw [hwh hpos]
          exact And.intro (Mem.le.refl _) rfl
        conv => whnf
        refine And.intro (Mem.le.refl _) ?_
        show some (Value.bool (_ && false)) = _
        rw [Bool.and_false]
      conv => whnf
      refine Br.mk (fun hb4 => ?_) (fun hb4 => ?_)
      · simp only [scB, Bool.or_false, decide_eq_true_eq] at hb4; exact absurd hb4 (by omega)
      conv => whnf
      refine WRng.mk (by apply wrap_i64 <;> omega) ?_
      conv => whnf
      exact ⟨j + 1, ⟨rfl, trivial⟩, ⟨rfl, hj2⟩, by omega⟩
    · conv => whnf
      refine WCall.pure (alive20_calls (T := T) (fr := fr) (g1 _ _ (hle123 _ _ hm))) ?_
      conv => whnf
      exact WRet.same ⟨rfl, hle123.trans g1⟩
end Go.Proofs.YtmnagbhllnlelaaGreatDoor
