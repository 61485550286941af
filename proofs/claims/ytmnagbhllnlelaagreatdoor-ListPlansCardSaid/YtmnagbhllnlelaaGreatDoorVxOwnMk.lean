/- Contract of list.Make: the schedule, once all is laid. -/
import Derived.Test.YtmnagbhllnlelaaGreatDoorVxOwnRow
set_option linter.unusedSimpArgs false
set_option linter.unusedVariables false
set_option maxRecDepth 100000
namespace Go.Proofs.YtmnagbhllnlelaaGreatDoor
open Go Go.Vx
open Go.Vx.IOp Go.Vx.IR Go.Vx.Opd
theorem gr_left {M : Mac} {O : List OpR} {E : List Edg} {H : List Int} {c : Int} {cyc z : List Int} (h : Gr M O E H c cyc z) : 0 ≤ c → cyc.length = O.length → leftN z O.length ≤ leftN cyc O.length ∧ ((z = cyc ∧ bestR M O E H cyc c = -1) ∨ leftN z O.length < leftN cyc O.length) := by
 induction h with
 | done h1 => intro _ _; exact ⟨Nat.le_refl _, .inl ⟨rfl, h1⟩⟩
 | @step cyc z b h1 _ ih =>
  intro hc hl
  have hb := bestR_is M O E H cyc c
  rw [h1] at hb
  rcases hb with ⟨h2, _⟩ | ⟨k, hk, h2, h3, _⟩
  ·omega
  have : b = k := by omega
  subst this
  have hn : cyc.getD b 0 < 0 := by
   unfold candR rdyB at h3
   simp only [Bool.and_eq_true, decide_eq_true_eq] at h3
   exact h3.1.1
  have h4 := leftN_set hk hl hc hn
  have h5 := (ih hc (by simp [hl])).1
  exact ⟨by omega, .inr (by omega)⟩
theorem toK_iff {j : Nat} {e : Edg} : toK j e = true ↔ e.t = (j : Int) ∧ e.r = 0 := by unfold toK; simp
theorem filt_at {E : List Edg} {p : Edg → Bool} {k : Nat} (hk : k < E.length) : (E.take (k + 1)).filter p = if p E[k] = true then (E.take k).filter p ++ [E[k]] else (E.take k).filter p := by
 rw [List.take_succ_eq_append_getElem hk, List.filter_append]
 by_cases h : p E[k] = true
 ·rw [if_pos h]; simp [h]
 ·rw [if_neg h]; simp [h]
theorem slice_of {m m' : Mem} {v : Value} {L : List Edg} (h : Row1 m m' v L) : ∃ a c, v = .slice a L.length c := by
 rcases h with ⟨rfl, rfl⟩ | ⟨b, c, rfl, _⟩
 ·exact ⟨none, 0, rfl⟩
 ·exact ⟨_, c, rfl⟩
theorem put_same {e : Env} {t : Nat} {v : Value} (h : e t = some (.val v)) : e.put (some t) (.val v) = e := by
 funext s
 show (bif Nat.beq s t then some (AV.val v) else e s) = e s
 cases hh : Nat.beq s t with
 | true => have := Nat.eq_of_beq_eq_true hh; subst this; exact h.symm
 | false => rfl
theorem sp4t (e : Edg) : spliceL zeros4 0 (cellsL (Value.agg ⟨e.cells.take 4⟩)) = e.cells := sp4 e
theorem spSet (V : List Value) (q : Nat) (a : Option Addr) (n c : Nat) : spliceL V q (cellsL (Value.slice a n c)) = V.set q (.slice a n c) := rfl
def tailOf : IR → IR
 | .seq _ (.seq _ r) => r
 | _ => .skip
def makeTail : IR := tailOf ir_list_Make.body
attribute [local irreducible] spliceL in
theorem make_tail {m0 m : Mem} {T : Nat} {fr : Nat × Nat} (hm : m0 0 = some (.cells ⟨cells0⟩ T fr)) {p bi bc : Nat} {a a2 ah : Option Addr} {ca c2 ch : Nat} {M : Mac} {O : List OpR} {E : List Edg} {H : List Int}
  (hO : OAt m0 (.slice a O.length ca) O) (hE0 : EAt m0 (.slice a2 E.length c2) E) (hlO : O.length ≤ 400) (hlE : E.length ≤ 200000) (hE : ∀ e ∈ E, Fwd O.length e) (hM : M.ok = true) (hgood : ∀ o ∈ O, badOp M o = false)
  (hle0 : Mem.le m0 m) (hbi0 : m0 bi = none) (hbc0 : m0 bc = none) (hp : PlanAt m p M (.slice a O.length ca) (.slice (some ⟨bi, 0, none⟩) O.length O.length) (.slice ah H.length ch) (.slice (some ⟨bc, 0, none⟩) O.length O.length))
  (hbi : m bi = some (Cells (List.replicate O.length ns) 29)) (hbc : m bc = some (Cells ((noneC O.length).map i) 3)) (hH : ∀ m', (∀ x o, x ≠ bi → x ≠ bc → m x = some o → m' x = some o) → IAt m' (.slice ah H.length ch) H) (hHl : H.length = O.length)
  {e : Env} (e1 : e 1 = some (.val (.slice a O.length ca))) (e2 : e 2 = some (.val (.slice a2 E.length c2))) (e7 : e 7 = some (.val (.pointer (some ⟨p, 0, none⟩)))) :
  wpI Tryz.prog makeTail (retPost ir_list_Make.res fun e m' => ∃ w z, e = .returned w ∧ Mem.le m0 m' ∧ IAt m' w z ∧ Sch M O E H 0 (noneC O.length) z) e m := by
 have ee : e = ((e.put (some 1) (.val (.slice a O.length ca))).put (some 2) (.val (.slice a2 E.length c2))).put (some 7) (.val (.pointer (some ⟨p, 0, none⟩))) := by
  rw [put_same e1, put_same e2, put_same e7]
 rw [ee]
 clear ee e1 e2 e7
 have npi : p ≠ bi := fun h => by unfold PlanAt at hp; rw [h, hbi] at hp; exact absurd (Obj.cells.inj (Option.some.inj hp)).2.1 (by decide)
 have npc : p ≠ bc := fun h => by unfold PlanAt at hp; rw [h, hbc] at hp; exact absurd (Obj.cells.inj (Option.some.inj hp)).2.1 (by decide)
 have nic : bi ≠ bc := fun h => by rw [h, hbc] at hbi; exact absurd (Obj.cells.inj (Option.some.inj hbi)).2.1 (by decide)
 have hbm : m bi ≠ none := by rw [hbi]; simp
 have hle3 : ∀ {mm : Mem}, LeX bi m mm → Mem.le m0 mm := fun h x o hx => h x o (fun e => by rw [e, hbi0] at hx; cases hx) (hle0 x o hx)
 have hpI : ∀ (mm : Mem), LeX bi m mm → CellAt mm ((⟨p, 0, none⟩ : Addr).add 12) (.slice (some ⟨bi, 0, none⟩) O.length O.length) := fun mm h => PlanAt.cell (h _ _ npi hp) rfl
 obtain ⟨aE, cE, eE, hE1, hE2, hEc⟩ := hE0
 cases eE
 conv => whnf
 refine WLoop.mk (Nat × List Value) (fun s => [(29, .val (i s.1))]) (fun s m' => LeX bi m m' ∧ m' bi = some (Cells s.2 29) ∧ s.1 ≤ E.length ∧ NextOK O.length m m' s.2 (fun j => (E.take s.1).filter (toK j))) (fun s => E.length - s.1) (0, List.replicate O.length ns)
  ⟨rfl, trivial⟩ ⟨fun x o _ h => h, hbi, Nat.zero_le _, NextOK.new _ _ _ E⟩ ?_
 rintro ⟨k, V⟩ m3 ⟨hx3, g3, g4, g5⟩
 simp only at g3 g4 g5
 conv => whnf
 refine Br.mk (fun hb => ?_) (fun hb => ?_)
 ·have hk : k < E.length := by simpa using hb
  have hfw := hE E[k] (List.getElem_mem hk)
  obtain ⟨z, hz⟩ : ∃ z : Nat, (E[k]).t = z := ⟨(E[k]).t.toNat, by have := hfw.t0; omega⟩
  have hzN : z < O.length := by have := hfw.tn; omega
  have hzV : z < V.length := by rw [g5.len]; exact hzN
  have hfresh : ∀ b1, m3 b1 = none → m b1 = none := fun b1 h => by
   cases hh : m b1 with
   | none => rfl
   | some o =>
    have : b1 ≠ bi := fun e => by rw [e, g3] at h; cases h
    rw [hx3 b1 o this hh] at h; cases h
  obtain ⟨ar, cr, hrz⟩ := slice_of (g5.row z hzN)
  have hlenL : ((E.take k).filter (toK z)).length ≤ k := Nat.le_trans (List.length_filter_le _ _) (by rw [List.length_take]; omega)
  obtain ⟨ln, hln⟩ : ∃ ln, ln = ((E.take k).filter (toK z)).length := ⟨_, rfl⟩
  rw [← hln] at hrz
  have hrow : ∀ (mm : Mem), mm bi = some (Cells V 29) → CellAt mm ((⟨bi, 0, none⟩ : Addr).add ((E[k]).t.toNat * 1)) (.slice ar ln cr) := fun mm h => by
   rw [← hrz]
   exact cell_add (z := z) ⟨_, _, _, h, rfl, by simp [List.getD_eq_getElem?_getD, hzV]⟩ (by omega)
  obtain ⟨ad, rfl⟩ : ∃ ad, a2 = some ad := by
   cases a2 with
   | none => rw [hE1 rfl] at hk; simp at hk
   | some ad => exact ⟨ad, rfl⟩
  conv => whnf
  refine WIdx.mk ad rfl ⟨by omega, by simpa using hk⟩ ?_
  conv => whnf
  refine WLds.mk (E[k]).cells (by simpa using (EAt.cells (hE2 ad rfl) hk).mono (hle3 hx3)) rfl ?_
  conv => whnf
  rw [sp4 E[k]]
  conv => whnf
  refine Br.mk (fun hb2 => ?_) (fun hb2 => ?_)
  ·have her : (E[k]).r = 0 := by simpa using hb2
   have hstep : ∀ j, j < O.length → (E.take (k + 1)).filter (toK j) = if j = z then (E.take k).filter (toK z) ++ [E[k]] else (E.take k).filter (toK j) := fun j hj => by
    rw [filt_at hk]
    by_cases e : j = z
    ·subst e; rw [if_pos rfl, if_pos (toK_iff.2 ⟨hz, her⟩)]
    ·rw [if_neg e, if_neg fun h => e (by have := (toK_iff.1 h).1; omega)]
   conv => whnf
   refine ⟨?_, ?_, ?_, trivial⟩
   ·conv => whnf
    refine WLd.mk _ (hpI _ hx3) ?_
    conv => whnf
    refine ⟨?_, ?_, trivial⟩
    ·conv => whnf
     refine WLd.mk _ (hpI _ hx3) ?_
     conv => whnf
     refine WIdx.mk ⟨bi, 0, none⟩ rfl ⟨hfw.t0, hfw.tn⟩ ?_
     conv => whnf
     refine WLd.mk (.slice ar ln cr) (hrow _ g3) ?_
     conv => whnf
     refine ⟨?_, trivial⟩
     conv => whnf
     refine WNew.mk fun b1 hb1 => ?_
     rw [sp4t]
     have hx1 : LeX bi m (m3.set b1 (Cells (E[k]).cells 43)) := hx3.set (hfresh _ hb1)
     have hb1i : (m3.set b1 (Cells (E[k]).cells 43)) bi = some (Cells V 29) := by
      rw [Mem.set_other _ _ (fun e => by rw [e, hb1] at g3; cases g3)]; exact g3
     conv => whnf
     refine ⟨?_, trivial⟩
     conv => whnf
     refine row_push g5 hzN g3 hbm hx3 E[k] hln hrz hb1 hstep (by omega) fun a' c' m4 w1 w2 w3 => ?_
     conv => whnf
     refine WIdx.mk ⟨bi, 0, none⟩ rfl ⟨hfw.t0, hfw.tn⟩ ?_
     conv => whnf
     refine ⟨?_, trivial⟩
     conv => whnf
     refine WSt.mk V 29 ?_ ?_ ?_ ?_
     ·rw [add0]; exact w2
     ·rw [add0]
     ·rw [add0]
      show _ * 1 + 1 ≤ V.length
      omega
     simp only [add0]
     have hsp : spliceL V ((E[k]).t.toNat * 1) (cellsL (Value.slice a' (ln + 1) c')) = V.set z (.slice a' (ln + 1) c') := by
      have : (E[k]).t.toNat * 1 = z := by omega
      rw [this, spSet]
     rw [hsp]
     conv => whnf
     refine WRng.mk (by apply wrap_i64 <;> omega) ?_
     conv => whnf
     exact ⟨(k + 1, V.set z (.slice a' (ln + 1) c')), ⟨rfl, trivial⟩, ⟨w1.at, Mem.set_same _ _ _, hk, w3⟩, by simp only; omega⟩
    ·conv => whnf
     refine WNew.mk fun b1 hb1 => ?_
     rw [sp4t]
     have hx1 : LeX bi m (m3.set b1 (Cells (E[k]).cells 43)) := hx3.set (hfresh _ hb1)
     have hb1i : (m3.set b1 (Cells (E[k]).cells 43)) bi = some (Cells V 29) := by
      rw [Mem.set_other _ _ (fun e => by rw [e, hb1] at g3; cases g3)]; exact g3
     conv => whnf
     refine ⟨?_, trivial⟩
     conv => whnf
     refine WLd.mk _ (hpI _ hx1) ?_
     conv => whnf
     refine WIdx.mk ⟨bi, 0, none⟩ rfl ⟨hfw.t0, hfw.tn⟩ ?_
     conv => whnf
     refine WLd.mk (.slice ar ln cr) (hrow _ hb1i) ?_
     conv => whnf
     refine ⟨?_, trivial⟩
     conv => whnf
     refine row_push g5 hzN g3 hbm hx3 E[k] hln hrz hb1 hstep (by omega) fun a' c' m4 w1 w2 w3 => ?_
     conv => whnf
     refine WIdx.mk ⟨bi, 0, none⟩ rfl ⟨hfw.t0, hfw.tn⟩ ?_
     conv => whnf
     refine ⟨?_, trivial⟩
     conv => whnf
     refine WSt.mk V 29 ?_ ?_ ?_ ?_
     ·rw [add0]; exact w2
     ·rw [add0]
     ·rw [add0]
      show _ * 1 + 1 ≤ V.length
      omega
     simp only [add0]
     have hsp : spliceL V ((E[k]).t.toNat * 1) (cellsL (Value.slice a' (ln + 1) c')) = V.set z (.slice a' (ln + 1) c') := by
      have : (E[k]).t.toNat * 1 = z := by omega
      rw [this, spSet]
     rw [hsp]
     conv => whnf
     refine WRng.mk (by apply wrap_i64 <;> omega) ?_
     conv => whnf
     exact ⟨(k + 1, V.set z (.slice a' (ln + 1) c')), ⟨rfl, trivial⟩, ⟨w1.at, Mem.set_same _ _ _, hk, w3⟩, by simp only; omega⟩
   ·conv => whnf
    refine WLd.mk _ (hpI _ hx3) ?_
    conv => whnf
    refine WIdx.mk ⟨bi, 0, none⟩ rfl ⟨hfw.t0, hfw.tn⟩ ?_
    conv => whnf
    refine WLd.mk (.slice ar ln cr) (hrow _ g3) ?_
    conv => whnf
    refine ⟨?_, ?_, trivial⟩
    ·conv => whnf
     refine WLd.mk _ (hpI _ hx3) ?_
     conv => whnf
     refine ⟨?_, trivial⟩
     conv => whnf
     refine WNew.mk fun b1 hb1 => ?_
     rw [sp4t]
     have hx1 : LeX bi m (m3.set b1 (Cells (E[k]).cells 43)) := hx3.set (hfresh _ hb1)
     have hb1i : (m3.set b1 (Cells (E[k]).cells 43)) bi = some (Cells V 29) := by
      rw [Mem.set_other _ _ (fun e => by rw [e, hb1] at g3; cases g3)]; exact g3
     conv => whnf
     refine ⟨?_, trivial⟩
     conv => whnf
     refine row_push g5 hzN g3 hbm hx3 E[k] hln hrz hb1 hstep (by omega) fun a' c' m4 w1 w2 w3 => ?_
     conv => whnf
     refine WIdx.mk ⟨bi, 0, none⟩ rfl ⟨hfw.t0, hfw.tn⟩ ?_
     conv => whnf
     refine ⟨?_, trivial⟩
     conv => whnf
     refine WSt.mk V 29 ?_ ?_ ?_ ?_
     ·rw [add0]; exact w2
     ·rw [add0]
     ·rw [add0]
      show _ * 1 + 1 ≤ V.length
      omega
     simp only [add0]
     have hsp : spliceL V ((E[k]).t.toNat * 1) (cellsL (Value.slice a' (ln + 1) c')) = V.set z (.slice a' (ln + 1) c') := by
      have : (E[k]).t.toNat * 1 = z := by omega
      rw [this, spSet]
     rw [hsp]
     conv => whnf
     refine WRng.mk (by apply wrap_i64 <;> omega) ?_
     conv => whnf
     exact ⟨(k + 1, V.set z (.slice a' (ln + 1) c')), ⟨rfl, trivial⟩, ⟨w1.at, Mem.set_same _ _ _, hk, w3⟩, by simp only; omega⟩
    ·conv => whnf
     refine WNew.mk fun b1 hb1 => ?_
     rw [sp4t]
     have hx1 : LeX bi m (m3.set b1 (Cells (E[k]).cells 43)) := hx3.set (hfresh _ hb1)
     have hb1i : (m3.set b1 (Cells (E[k]).cells 43)) bi = some (Cells V 29) := by
      rw [Mem.set_other _ _ (fun e => by rw [e, hb1] at g3; cases g3)]; exact g3
     conv => whnf
     refine ⟨?_, ?_, trivial⟩
     ·conv => whnf
      refine WLd.mk _ (hpI _ hx1) ?_
      conv => whnf
      refine ⟨?_, trivial⟩
      conv => whnf
      refine row_push g5 hzN g3 hbm hx3 E[k] hln hrz hb1 hstep (by omega) fun a' c' m4 w1 w2 w3 => ?_
      conv => whnf
      refine WIdx.mk ⟨bi, 0, none⟩ rfl ⟨hfw.t0, hfw.tn⟩ ?_
      conv => whnf
      refine ⟨?_, trivial⟩
      conv => whnf
      refine WSt.mk V 29 ?_ ?_ ?_ ?_
      ·rw [add0]; exact w2
      ·rw [add0]
      ·rw [add0]
       show _ * 1 + 1 ≤ V.length
       omega
      simp only [add0]
      have hsp : spliceL V ((E[k]).t.toNat * 1) (cellsL (Value.slice a' (ln + 1) c')) = V.set z (.slice a' (ln + 1) c') := by
       have : (E[k]).t.toNat * 1 = z := by omega
       rw [this, spSet]
      rw [hsp]
      conv => whnf
      refine WRng.mk (by apply wrap_i64 <;> omega) ?_
      conv => whnf
      exact ⟨(k + 1, V.set z (.slice a' (ln + 1) c')), ⟨rfl, trivial⟩, ⟨w1.at, Mem.set_same _ _ _, hk, w3⟩, by simp only; omega⟩
     ·conv => whnf
      refine row_push g5 hzN g3 hbm hx3 E[k] hln hrz hb1 hstep (by omega) fun a' c' m4 w1 w2 w3 => ?_
      conv => whnf
      refine WLd.mk _ (hpI _ w1) ?_
      conv => whnf
      refine WIdx.mk ⟨bi, 0, none⟩ rfl ⟨hfw.t0, hfw.tn⟩ ?_
      conv => whnf
      refine ⟨?_, trivial⟩
      conv => whnf
      refine WSt.mk V 29 ?_ ?_ ?_ ?_
      ·rw [add0]; exact w2
      ·rw [add0]
      ·rw [add0]
       show _ * 1 + 1 ≤ V.length
       omega
      simp only [add0]
      have hsp : spliceL V ((E[k]).t.toNat * 1) (cellsL (Value.slice a' (ln + 1) c')) = V.set z (.slice a' (ln + 1) c') := by
       have : (E[k]).t.toNat * 1 = z := by omega
       rw [this, spSet]
      rw [hsp]
      conv => whnf
      refine WRng.mk (by apply wrap_i64 <;> omega) ?_
      conv => whnf
      exact ⟨(k + 1, V.set z (.slice a' (ln + 1) c')), ⟨rfl, trivial⟩, ⟨w1.at, Mem.set_same _ _ _, hk, w3⟩, by simp only; omega⟩
   ·conv => whnf
    refine WNew.mk fun b1 hb1 => ?_
    rw [sp4t]
    have hx1 : LeX bi m (m3.set b1 (Cells (E[k]).cells 43)) := hx3.set (hfresh _ hb1)
    have hb1i : (m3.set b1 (Cells (E[k]).cells 43)) bi = some (Cells V 29) := by
     rw [Mem.set_other _ _ (fun e => by rw [e, hb1] at g3; cases g3)]; exact g3
    conv => whnf
    refine ⟨?_, ?_, trivial⟩
    ·conv => whnf
     refine WLd.mk _ (hpI _ hx1) ?_
     conv => whnf
     refine ⟨?_, trivial⟩
     conv => whnf
     refine WLd.mk _ (hpI _ hx1) ?_
     conv => whnf
     refine WIdx.mk ⟨bi, 0, none⟩ rfl ⟨hfw.t0, hfw.tn⟩ ?_
     conv => whnf
     refine WLd.mk (.slice ar ln cr) (hrow _ hb1i) ?_
     conv => whnf
     refine ⟨?_, trivial⟩
     conv => whnf
     refine row_push g5 hzN g3 hbm hx3 E[k] hln hrz hb1 hstep (by omega) fun a' c' m4 w1 w2 w3 => ?_
     conv => whnf
     refine WIdx.mk ⟨bi, 0, none⟩ rfl ⟨hfw.t0, hfw.tn⟩ ?_
     conv => whnf
     refine ⟨?_, trivial⟩
     conv => whnf
     refine WSt.mk V 29 ?_ ?_ ?_ ?_
     ·rw [add0]; exact w2
     ·rw [add0]
     ·rw [add0]
      show _ * 1 + 1 ≤ V.length
      omega
     simp only [add0]
     have hsp : spliceL V ((E[k]).t.toNat * 1) (cellsL (Value.slice a' (ln + 1) c')) = V.set z (.slice a' (ln + 1) c') := by
      have : (E[k]).t.toNat * 1 = z := by omega
      rw [this, spSet]
     rw [hsp]
     conv => whnf
     refine WRng.mk (by apply wrap_i64 <;> omega) ?_
     conv => whnf
     exact ⟨(k + 1, V.set z (.slice a' (ln + 1) c')), ⟨rfl, trivial⟩, ⟨w1.at, Mem.set_same _ _ _, hk, w3⟩, by simp only; omega⟩
    ·conv => whnf
     refine WLd.mk _ (hpI _ hx1) ?_
     conv => whnf
     refine WIdx.mk ⟨bi, 0, none⟩ rfl ⟨hfw.t0, hfw.tn⟩ ?_
     conv => whnf
     refine WLd.mk (.slice ar ln cr) (hrow _ hb1i) ?_
     conv => whnf
     refine ⟨?_, ?_, trivial⟩
     ·conv => whnf
      refine WLd.mk _ (hpI _ hx1) ?_
      conv => whnf
      refine ⟨?_, trivial⟩
      conv => whnf
      refine row_push g5 hzN g3 hbm hx3 E[k] hln hrz hb1 hstep (by omega) fun a' c' m4 w1 w2 w3 => ?_
      conv => whnf
      refine WIdx.mk ⟨bi, 0, none⟩ rfl ⟨hfw.t0, hfw.tn⟩ ?_
      conv => whnf
      refine ⟨?_, trivial⟩
      conv => whnf
      refine WSt.mk V 29 ?_ ?_ ?_ ?_
      ·rw [add0]; exact w2
      ·rw [add0]
      ·rw [add0]
       show _ * 1 + 1 ≤ V.length
       omega
      simp only [add0]
      have hsp : spliceL V ((E[k]).t.toNat * 1) (cellsL (Value.slice a' (ln + 1) c')) = V.set z (.slice a' (ln + 1) c') := by
       have : (E[k]).t.toNat * 1 = z := by omega
       rw [this, spSet]
      rw [hsp]
      conv => whnf
      refine WRng.mk (by apply wrap_i64 <;> omega) ?_
      conv => whnf
      exact ⟨(k + 1, V.set z (.slice a' (ln + 1) c')), ⟨rfl, trivial⟩, ⟨w1.at, Mem.set_same _ _ _, hk, w3⟩, by simp only; omega⟩
     ·conv => whnf
      refine row_push g5 hzN g3 hbm hx3 E[k] hln hrz hb1 hstep (by omega) fun a' c' m4 w1 w2 w3 => ?_
      conv => whnf
      refine WLd.mk _ (hpI _ w1) ?_
      conv => whnf
      refine WIdx.mk ⟨bi, 0, none⟩ rfl ⟨hfw.t0, hfw.tn⟩ ?_
      conv => whnf
      refine ⟨?_, trivial⟩
      conv => whnf
      refine WSt.mk V 29 ?_ ?_ ?_ ?_
      ·rw [add0]; exact w2
      ·rw [add0]
      ·rw [add0]
       show _ * 1 + 1 ≤ V.length
       omega
      simp only [add0]
      have hsp : spliceL V ((E[k]).t.toNat * 1) (cellsL (Value.slice a' (ln + 1) c')) = V.set z (.slice a' (ln + 1) c') := by
       have : (E[k]).t.toNat * 1 = z := by omega
       rw [this, spSet]
      rw [hsp]
      conv => whnf
      refine WRng.mk (by apply wrap_i64 <;> omega) ?_
      conv => whnf
      exact ⟨(k + 1, V.set z (.slice a' (ln + 1) c')), ⟨rfl, trivial⟩, ⟨w1.at, Mem.set_same _ _ _, hk, w3⟩, by simp only; omega⟩
  ·have hner : ¬ (E[k]).r = 0 := by simpa using hb2
   have hstep : ∀ j, j < O.length → (E.take (k + 1)).filter (toK j) = (E.take k).filter (toK j) := fun j hj => by
    rw [filt_at hk, if_neg fun h => hner (toK_iff.1 h).2]
   conv => whnf
   refine WRng.mk (by apply wrap_i64 <;> omega) ?_
   conv => whnf
   exact ⟨(k + 1, V), ⟨rfl, trivial⟩, ⟨hx3, g3, hk, g5.same hstep⟩, by simp only; omega⟩
 ·have hk : k = E.length := by
   have : ¬ k < E.length := by simpa using hb
   omega
  subst hk
  rw [List.take_length] at g5
  generalize hinto : (fun j => E.filter (toK j)) = into at g5
  have hm3 : Mem.le m0 m3 := hle3 hx3
  have hp3 : PlanAt m3 p M (.slice a O.length ca) (.slice (some ⟨bi, 0, none⟩) O.length O.length) (.slice ah H.length ch) (.slice (some ⟨bc, 0, none⟩) O.length O.length) := hx3 _ _ npi hp
  have hbc3 : m3 bc = some (Cells ((noneC O.length).map i) 3) := hx3 _ _ (Ne.symm nic) hbc
  have hdel : Mem.le (m3.del bc) m3 := fun x o h => by
   unfold Mem.del at h
   split at h
   ·cases h
   ·exact h
  have hdelb : (m3.del bc) bc = none := by unfold Mem.del; rw [if_pos rfl]
  have hdelo : ∀ x, x ≠ bc → (m3.del bc) x = m3 x := fun x h => by unfold Mem.del; rw [if_neg h]
  have hle1 : Mem.le m0 (m3.del bc) := fun x o h => by
   have : x ≠ bc := fun e => by rw [e, hbc0] at h; cases h
   rw [hdelo x this]; exact hm3 x o h
  have hp1 : PlanAt (m3.del bc) p M (.slice a O.length ca) (.slice (some ⟨bi, 0, none⟩) O.length O.length) (.slice ah H.length ch) (.slice (some ⟨bc, 0, none⟩) O.length O.length) := by
   unfold PlanAt; rw [hdelo p npc]; exact hp3
  have hbi1 : (m3.del bc) bi = some (Cells V 29) := by rw [hdelo bi nic]; exact g3
  have hH1 : IAt (m3.del bc) (.slice ah H.length ch) H := hH _ fun x o h1 h2 h3 => by rw [hdelo x h2]; exact hx3 x o h1 h3
  have hV1 : NextOK O.length m (m3.del bc) V into := ⟨g5.len, fun j hj => by
   rcases g5.row j hj with h | ⟨b, c, w1, w2, w3, w4, w5⟩
   ·exact .inl h
   ·refine .inr ⟨b, c, w1, w2, w3, w4, ?_⟩
    rw [hdelo b (fun e => by rw [e, hbc] at w4; cases w4)]; exact w5, g5.apart⟩
  generalize m3.del bc = m1 at *
  have hnn : (noneC O.length).length = O.length := by simp [noneC]
  conv => whnf
  refine WLoop.mk (Nat × Nat × List Int) (fun s => [(10, .val (i s.1)), (11, .val (i ((O.length : Int) - leftN s.2.2 O.length)))]) (fun s m' => Mem.le m1 m' ∧ m' bc = some (Cells (s.2.2.map i) 3) ∧ s.2.2.length = O.length ∧ (∀ z, Sch M O E H s.1 s.2.2 z → Sch M O E H 0 (noneC O.length) z) ∧ s.2.1 ≤ 7 ∧ (∀ j, j < O.length → -1 ≤ s.2.2.getD j 0 ∧ s.2.2.getD j 0 + s.2.1 + 1 ≤ s.1) ∧ s.1 + 8 * leftN s.2.2 O.length ≤ 8 * O.length + s.2.1) (fun s => 8 * leftN s.2.2 O.length + (7 - s.2.1)) (0, 0, noneC O.length) ⟨rfl, by simp only [leftN_none, Int.sub_self]; rfl, trivial⟩ ⟨hdel, hbc3, hnn, fun z h => h, Nat.zero_le _, fun j hj => ?_, by simp only [leftN_none]; omega⟩ ?_
  ·have : (noneC O.length).getD j 0 = -1 := by
    unfold noneC; rw [List.getD_eq_getElem?_getD, List.getElem?_replicate, if_pos (by omega)]; rfl
   simp only; rw [this]; omega
  rintro ⟨c, gap, cyc⟩ m4 ⟨q1, q2, q3, q4, q5, q6, q7⟩
  simp only at q2 q3 q4 q5 q6 q7
  have htop : leftN cyc O.length ≤ O.length := Walk.cnt_top _ _
  conv => whnf
  refine Br.mk (fun hb => ?_) (fun hb => ?_)
  ·have hleft : 0 < leftN cyc O.length := by
    have : (O.length : Int) - leftN cyc O.length < O.length := of_decide_eq_true hb
    omega
   conv => whnf
   refine WCall.mk (fill_ok (hle1 _ _ hm) hp1 q1 hdelb q2 q3 ((OAt.mono hO hle1)) hlO hH1 hHl hbi1 hV1 (fun j hj => by rw [← hinto]) hE hlE hM hgood (c := c) (by omega) (fun j hj => by have := q6 j hj; omega)) ?_
   rintro _ m5 ⟨cy, rfl, w1, w2, w3, w4⟩
   have hcc := gr_left w4 (by omega) q3
   obtain ⟨hk1, hk2⟩ := Gr.keep w4 q3
   have htop2 : leftN cy O.length ≤ O.length := Walk.cnt_top _ _
   have hsch : ∀ z, Sch M O E H ((c + 1 : Nat) : Int) cy z → Sch M O E H 0 (noneC O.length) z := fun z hz => q4 z (.step (leftN_pos hleft) w4 hz)
   have hcr : ∀ j, j < O.length → -1 ≤ cy.getD j 0 ∧ cy.getD j 0 ≤ c := fun j hj => by
    have := q6 j hj
    rcases hk2 j with h | ⟨_, h⟩ <;> rw [h] <;> omega
   have hmany : (O.length : Int) - leftN cyc O.length + ((leftN cyc O.length : Int) - leftN cy O.length) = (O.length : Int) - leftN cy O.length := by omega
   conv => whnf
   refine WRng.mk (by apply wrap_i64 <;> simp only <;> omega) ?_
   conv => whnf
   refine WRng.mk (by apply wrap_i64 <;> simp only <;> omega) ?_
   conv => whnf
   have hslot := congrArg (fun z => some (AV.val (i z))) hmany
   rcases hcc.2 with ⟨h, hbst⟩ | h
   ·subst h
    have hg7 : gap < 7 := by
     apply Classical.byContradiction
     intro hg
     exact progress (last := (c : Int) - 8) hM hE (fun j hj => by have := q6 j hj; omega) (by omega) (leftN_pos hleft) hbst
    exact ⟨(c + 1, gap + 1, cy), ⟨rfl, hslot, trivial⟩, ⟨w1, w2, w3, hsch, by simp only; omega, fun j hj => by have := q6 j hj; simp only; omega, by simp only; omega⟩, by simp only; omega⟩
   ·exact ⟨(c + 1, 0, cy), ⟨rfl, hslot, trivial⟩, ⟨w1, w2, w3, hsch, by simp only; omega, fun j hj => by have := hcr j hj; simp only; omega, by simp only; omega⟩, by simp only; omega⟩
  ·have hz : leftN cyc O.length = 0 := by
    have : ¬ (O.length : Int) - leftN cyc O.length < O.length := of_decide_eq_false hb
    omega
   conv => whnf
   refine WLd.mk _ ((PlanAt.cell hp1 (z := 14) rfl).mono q1) ?_
   conv => whnf
   exact WRet.same ⟨_, cyc, rfl, hle1.trans q1, ⟨some ⟨bc, 0, none⟩, O.length, by rw [q3]; rfl, (fun h => by cases h), fun ad ha => (by cases ha; exact CellsAt.blk q2 fun q v hq => by rw [Nat.zero_add]; exact hq), by omega⟩, q4 cyc (.done (leftN_zero hz))⟩
end Go.Proofs.YtmnagbhllnlelaaGreatDoor
