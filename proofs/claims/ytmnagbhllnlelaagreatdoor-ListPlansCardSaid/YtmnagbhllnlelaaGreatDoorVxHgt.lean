/- Contracts of Heights: its own and the reference's. The plain law: both do the same rounds. -/
import Derived.Test.YtmnagbhllnlelaaGreatDoorVxOrd
set_option linter.unusedSimpArgs false
set_option linter.unusedVariables false
set_option maxRecDepth 100000
namespace Go.Proofs.YtmnagbhllnlelaaGreatDoor
open Go Go.Vx
open Go.Vx.IOp Go.Vx.IR Go.Vx.Opd
/-! What is computed. -/
def relax (k : Nat) (out : List Int) (e : Edg) : List Int := out.set k (max (out.getD k 0) (out.getD e.t.toNat 0 + e.d))
def atK (k : Nat) (e : Edg) : Bool := decide (e.f = (k : Int)) && decide (e.r = 0)
def rowH (E : List Edg) (k : Nat) (out : List Int) : List Int := (E.filter (atK k)).foldl (relax k) out
def hgt (E : List Edg) : Nat → List Int → List Int
 | 0, out => out
 | k + 1, out => hgt E k (rowH E k out)
/-- What a right edge of Heights is. -/
structure Fwd (n : Nat) (e : Edg) : Prop where
 f0 : 0 ≤ e.f
 fn : e.f < n
 t0 : 0 ≤ e.t
 tn : e.t < n
 r0 : 0 ≤ e.r
 d0 : 0 ≤ e.d
 d8 : e.d ≤ 8
 up : e.r = 0 → e.f < e.t
/-- Heights stay small. -/
def Bnd (n : Nat) (out : List Int) : Prop := out.length = n ∧ ∀ j, j < n → 0 ≤ out.getD j 0 ∧ out.getD j 0 ≤ 8 * ((n : Int) - j)
theorem getD_set {out : List Int} {k j : Nat} {v : Int} (hk : k < out.length) : (out.set k v).getD j 0 = if j = k then v else out.getD j 0 := by
 rw [List.getD_eq_getElem?_getD, List.getElem?_set, List.getD_eq_getElem?_getD]
 by_cases h : k = j
 ·subst h; simp [hk]
 ·rw [if_neg h, if_neg (Ne.symm h)]
theorem bnd_relax {n k : Nat} {out : List Int} {e : Edg} (h : Bnd n out) (he : Fwd n e) (hk : e.f = k) (hr : e.r = 0) : Bnd n (relax k out e) := by
 have hkn : k < n := by have := he.fn; omega
 have hup := he.up hr
 have htn := he.tn
 obtain ⟨h1, h2⟩ := h
 refine ⟨by unfold relax; simp [h1], fun j hj => ?_⟩
 unfold relax
 rw [getD_set (by omega)]
 by_cases e1 : j = k
 ·rw [if_pos e1]
  have a := h2 k hkn
  have b := h2 e.t.toNat (by omega)
  have d0 := he.d0
  have d8 := he.d8
  subst e1
  omega
 ·rw [if_neg e1]; exact h2 j hj
theorem bnd_fold {n k : Nat} : ∀ {L : List Edg} {out : List Int}, Bnd n out → (∀ e ∈ L, Fwd n e ∧ e.f = k ∧ e.r = 0) → Bnd n (L.foldl (relax k) out)
 | [], _, h, _ => h
 | e :: L, _, h, hL => bnd_fold (L := L) (bnd_relax h (hL e (by simp)).1 (hL e (by simp)).2.1 (hL e (by simp)).2.2) fun x hx => hL x (by simp [hx])
theorem atK_iff {k : Nat} {e : Edg} : atK k e = true ↔ e.f = k ∧ e.r = 0 := by simp [atK]
theorem filt_ok {n k : Nat} {E : List Edg} (hE : ∀ e ∈ E, Fwd n e) : ∀ e ∈ E.filter (atK k), Fwd n e ∧ e.f = k ∧ e.r = 0 := fun e he => by
 obtain ⟨a, b⟩ := List.mem_filter.1 he
 exact ⟨hE e a, atK_iff.1 b⟩
theorem bnd_zero (n : Nat) : Bnd n (List.replicate n 0) := ⟨by simp, fun j hj => by
 rw [List.getD_eq_getElem?_getD, List.getElem?_replicate, if_pos hj]; simp; omega⟩
/-- The prefix of a filter, one more. -/
theorem filt_take {E : List Edg} {p : Edg → Bool} {k : Nat} (hk : k < E.length) : (E.take (k + 1)).filter p = if p E[k] = true then (E.take k).filter p ++ [E[k]] else (E.take k).filter p := by
 rw [List.take_succ_eq_append_getElem hk, List.filter_append]
 by_cases h : p E[k] = true
 ·rw [if_pos h]; simp [h]
 ·rw [if_neg h]; simp [h]
theorem mkZeros (n : Nat) : (List.replicate n [i 0]).flatten = (List.replicate n (0 : Int)).map i := by simp
theorem add0 (b z : Nat) : (⟨b, 0, none⟩ : Addr).add z = ⟨b, z, none⟩ := by unfold Addr.add; split <;> simp_all
theorem cell_add {m : Mem} {b z z' : Nat} {v : Value} (h : CellAt m ⟨b, z, none⟩ v) (e : z' = z) : CellAt m ((⟨b, 0, none⟩ : Addr).add z') v := by rw [add0, e]; exact h
theorem cell_i {m : Mem} {b z : Nat} {o : List Int} {T : TypeId} (h : m b = some (Cells (o.map i) T)) (hz : z < o.length) : CellAt m ⟨b, z, none⟩ (i (o.getD z 0)) := ⟨_, _, _, h, rfl, by simp [List.getD_eq_getElem?_getD, hz]⟩
theorem max_if (a b : Int) : (if b > a then b else a) = max a b := by rw [Int.max_def]; split <;> split <;> omega
theorem le_setn {m m' : Mem} {b : Nat} {o : Obj} (h : Mem.le m m') (hb : m b = none) : Mem.le m (m'.set b o) := fun x p hx => by
 by_cases e : x = b
 ·subst e; rw [hb] at hx; cases hx
 ·rw [Mem.set_other _ _ e]; exact h x p hx
theorem relax_cells {o : List Int} {k z : Nat} {e : Edg} {v : Value} (hz : z = k) (hv : v = i (max (o.getD k 0) (o.getD e.t.toNat 0 + e.d))) : spliceL (o.map i) z (cellsL v) = (relax k o e).map i := by
 subst hz; subst hv
 show (o.map i).set z _ = _
 unfold relax; rw [List.map_set]
def heightsS (n : Int) (E : List Edg) : List Int × Int :=
 if n > 401 ∨ E.length > 200000 then ([], 3) else if n < 0 then ([], 2) else
 if firstCode (cdW n true) E ≠ 0 then ([], firstCode (cdW n true) E) else (hgt E n.toNat (List.replicate n.toNat 0), 0)
theorem fwd_of {n : Nat} {E : List Edg} (h : firstCode (cdW n true) E = 0) : ∀ e ∈ E, Fwd n e := fun e he => by
 have := firstCode_zero h e he
 unfold cdW at this
 cases hb : badW n true e with
 | true => rw [hb] at this; cases this
 | false =>
  rw [hb] at this
  cases hc : backW true e with
  | true => rw [hc] at this; cases this
  | false =>
   simp only [badW, backW, Bool.or_eq_false_iff, Bool.and_eq_false_iff, decide_eq_false_iff_not, Bool.not_true, Bool.false_and, Bool.true_and, decide_eq_true_eq] at hb hc
   refine ⟨by omega, by omega, by omega, by omega, by omega, by omega, by omega, fun hr => ?_⟩
   rcases hc with hc | hc
   ·exact absurd hr hc
   ·omega
/-! The reference. -/
theorem refHeights_ok {m : Mem} {v : Value} {E : List Edg} (hv : EAt m v E) (hlen : E.length < 2 ^ 63) (n : Int) :
  CallsM Tryz.prog 24 [i n, v] m fun e m' => ∃ u, e = .returned (.tuple ⟨[u, i (heightsS n E).2]⟩) ∧ Mem.le m m' ∧ IAt m' u (heightsS n E).1 := by
 have hv0 := hv
 obtain ⟨a, c, rfl, h0, h1, hcap⟩ := hv
 have hnil : ∀ m' : Mem, IAt m' ns [] := fun m' => ⟨none, 0, rfl, fun _ => rfl, (fun ad h => by cases h), Nat.le_refl _⟩
 refine calls_of mixed Tryz.func24 ok_biremeref20_Heights rfl ?_
 unfold heightsS
 conv => whnf
 refine WSc.mk (fun _ => And.intro (Mem.le.refl _) rfl) ?_
 conv => whnf
 refine Br.mk (fun hb => ?_) (fun hb => ?_)
 ·conv => whnf
  simp only [scB, Bool.or_eq_true, decide_eq_true_eq] at hb
  refine WRet.same ⟨ns, ?_, Mem.le.refl _, ?_⟩
  ·rw [if_pos (by omega)]; rfl
  ·rw [if_pos (by omega)]; exact hnil m
 simp only [scB, Bool.or_eq_false_iff, decide_eq_false_iff_not] at hb
 rw [if_neg (by omega)]
 conv => whnf
 refine Br.mk (fun hb2 => ?_) (fun hb2 => ?_)
 ·conv => whnf
  simp only [decide_eq_true_eq] at hb2
  refine WRet.same ⟨ns, ?_, Mem.le.refl _, ?_⟩
  ·rw [if_pos (by omega)]; rfl
  ·rw [if_pos (by omega)]; exact hnil m
 simp only [decide_eq_false_iff_not] at hb2
 rw [if_neg (by omega)]
 conv => whnf
 refine WCall.pure (wrong_ok hv0 hlen n true) ?_
 conv => whnf
 refine Br.mk (fun hb3 => ?_) (fun hb3 => ?_)
 ·conv => whnf
  simp only [bne_iff_ne] at hb3
  refine WRet.same ⟨ns, ?_, Mem.le.refl _, ?_⟩
  ·rw [if_pos hb3]; rfl
  ·rw [if_pos hb3]; exact hnil m
 simp only [bne_eq_false_iff_eq] at hb3
 rw [if_neg (by rw [hb3]; simp)]
 obtain ⟨N, rfl⟩ : ∃ N : Nat, n = N := ⟨n.toNat, by omega⟩
 have hN : N ≤ 401 := by omega
 have hE := fwd_of hb3
 simp only [Int.toNat_natCast]
 conv => whnf
 refine WMake.mk ⟨by omega, Int.le_refl _, by omega⟩ fun bo hbo => ?_
 simp only [Int.toNat_natCast]
 rw [mkZeros]
 conv => whnf
 refine WRng.mk (by apply wrap_i64 <;> omega) ?_
 conv => whnf
 refine WLoop.mk (Nat × List Int) (fun s => [(8, .val (i ((s.1 : Int) - 1)))])
  (fun s m' => Mem.le m m' ∧ m' bo = some (Cells (s.2.map i) 3) ∧ s.1 ≤ N ∧ Bnd N s.2 ∧ hgt E N (List.replicate N 0) = hgt E s.1 s.2) (fun s => s.1) (N, List.replicate N 0)
  ⟨rfl, trivial⟩ ⟨Mem.le_set hbo, Mem.set_same _ _ _, Nat.le_refl _, bnd_zero N, rfl⟩ ?_
 rintro ⟨k, out⟩ m1 ⟨g1, g2, g3, g4, g5⟩
 simp only at g2 g3 g4 g5
 conv => whnf
 refine Br.mk (fun hb4 => ?_) (fun hb4 => ?_)
 ·obtain ⟨k, rfl⟩ : ∃ k', k = k' + 1 := ⟨k - 1, by simp at hb4; omega⟩
  conv => whnf
  refine WLoop.mk (Nat × List Int) (fun s => [(9, .val (i s.1))])
   (fun s m' => Mem.le m m' ∧ m' bo = some (Cells (s.2.map i) 3) ∧ s.1 ≤ E.length ∧ Bnd N s.2 ∧ s.2 = ((E.take s.1).filter (atK k)).foldl (relax k) out) (fun s => E.length - s.1) (0, out)
   ⟨rfl, trivial⟩ ⟨g1, g2, Nat.zero_le _, g4, rfl⟩ ?_
  rintro ⟨j, o2⟩ m2 ⟨q1, q2, q3, q4, q5⟩
  simp only at q2 q3 q4 q5
  conv => whnf
  refine Br.mk (fun hb5 => ?_) (fun hb5 => ?_)
  ·have hj : j < E.length := by simpa using hb5
   have hfw := hE E[j] (List.getElem_mem hj)
   conv => whnf
   cases a with
   | none => rw [h0 rfl] at hj; simp at hj
   | some ad =>
    refine WIdx.mk ad rfl ⟨by omega, by simpa using hj⟩ ?_
    conv => whnf
    refine WLds.mk (E[j]).cells (by simpa using (EAt.cells (h1 ad rfl) hj).mono q1) rfl ?_
    conv => whnf
    refine WSc.mk (fun _ => And.intro (Mem.le.refl _) rfl) ?_
    conv => whnf
    refine Br.mk (fun hb6 => ?_) (fun hb6 => ?_)
    ·have hat : atK k E[j] = true := by
      simp only [scB, Bool.and_eq_true, beq_iff_eq] at hb6
      exact atK_iff.2 ⟨by omega, hb6.2⟩
     obtain ⟨hef, her⟩ := atK_iff.1 hat
     have hup := hfw.up her
     have hkN : k < N := by omega
     have htN : (E[j]).t.toNat < N := by have := hfw.tn; have := hfw.t0; omega
     obtain ⟨ol, ob⟩ := q4
     have b1 := ob k hkN
     have b2 := ob _ htN
     have d0 := hfw.d0
     have d8 := hfw.d8
     conv => whnf
     refine WIdx.mk ⟨bo, 0, none⟩ rfl ⟨by omega, by omega⟩ ?_
     conv => whnf
     refine WLd.mk (i (o2.getD k 0)) (cell_add (cell_i q2 (by omega)) (by omega)) ?_
     conv => whnf
     refine WIdx.mk ⟨bo, 0, none⟩ rfl ⟨hfw.t0, by have := hfw.tn; omega⟩ ?_
     conv => whnf
     refine WLd.mk (i (o2.getD (E[j]).t.toNat 0)) (cell_add (cell_i q2 (by omega)) (by omega)) ?_
     conv => whnf
     refine WRng.mk (by apply wrap_i64 <;> omega) ?_
     conv => whnf
     refine WIdx.mk ⟨bo, 0, none⟩ rfl ⟨by omega, by omega⟩ ?_
     conv => whnf
     refine ⟨?_, trivial⟩
     conv => whnf
     refine WSt.mk (o2.map i) 3 ?_ ?_ ?_ ?_
     ·rw [add0]; exact q2
     ·rw [add0]
     ·rw [add0]
      show _ * 1 + 1 ≤ (o2.map i).length
      rw [List.length_map]; omega
     rw [add0]
     conv => whnf
     refine WRng.mk (by apply wrap_i64 <;> omega) ?_
     conv => whnf
     refine ⟨(j + 1, relax k o2 E[j]), ⟨rfl, trivial⟩, ⟨le_setn q1 hbo, ?_, hj, bnd_relax ⟨ol, ob⟩ hfw hef her, ?_⟩, by simp only; omega⟩
     ·rw [Mem.set_same, relax_cells (k := k) (e := E[j]) (by show _ * 1 = k; omega) (by rw [max_if])]
     ·show relax k o2 E[j] = _
      rw [filt_take hj, if_pos hat, List.foldl_append, ← q5]; rfl
    ·have hat : ¬ atK k E[j] = true := fun h => by
      obtain ⟨a1, a2⟩ := atK_iff.1 h
      simp only [scB, Bool.and_eq_false_iff, beq_eq_false_iff_ne] at hb6
      rcases hb6 with h | h
      ·exact h (by omega)
      ·exact h a2
     conv => whnf
     refine WRng.mk (by apply wrap_i64 <;> omega) ?_
     conv => whnf
     refine ⟨(j + 1, o2), ⟨rfl, trivial⟩, ⟨q1, q2, hj, q4, ?_⟩, by simp only; omega⟩
     show o2 = _
     rw [filt_take hj, if_neg hat]; exact q5
  ·have hj : j = E.length := by simp at hb5; omega
   conv => whnf
   refine WRng.mk (by apply wrap_i64 <;> omega) ?_
   conv => whnf
   refine ⟨(k, o2), ⟨?_, trivial⟩, ⟨q1, q2, by omega, q4, ?_⟩, by simp only; omega⟩
   ·show some (AV.val (i (((k + 1 : Nat) : Int) - 1 - 1))) = some (AV.val (i ((k : Int) - 1)))
    rw [show (((k + 1 : Nat) : Int) - 1 - 1) = (k : Int) - 1 by omega]
   ·rw [g5]
    show hgt E k (rowH E k out) = hgt E k o2
    rw [q5, hj, List.take_length]; rfl
 ·have hk : k = 0 := by simp at hb4; omega
  subst hk
  conv => whnf
  refine WRet.same ⟨.slice (some ⟨bo, 0, none⟩) N N, rfl, g1, ?_⟩
  show IAt m1 _ (hgt E N (List.replicate N 0))
  rw [g5]
  show IAt m1 _ out
  refine ⟨some ⟨bo, 0, none⟩, N, by rw [g4.1], (fun h => by cases h), (fun ad h => ?_), by rw [g4.1]; exact Nat.le_refl _⟩
  cases h
  exact CellsAt.blk g2 fun q v hq => by rw [Nat.zero_add]; exact hq
end Go.Proofs.YtmnagbhllnlelaaGreatDoor
