/- The contract of order.Up: the heights, by lists of the edges that leave each place. -/
import Derived.Test.YtmnagbhllnlelaaGreatDoorVxHgt
set_option linter.unusedSimpArgs false
set_option linter.unusedVariables false
set_option maxRecDepth 100000
namespace Go.Proofs.YtmnagbhllnlelaaGreatDoor
open Go Go.Vx
open Go.Vx.IOp Go.Vx.IR Go.Vx.Opd
/-- One list of edges under way: nothing yet, or a block of its own. -/
def Row1 (m m' : Mem) (v : Value) (L : List Edg) : Prop :=
 (v = ns ∧ L = []) ∨ ∃ b c, v = .slice (some ⟨b, 0, none⟩) L.length c ∧ L ≠ [] ∧ L.length ≤ c ∧ m b = none ∧ m' b = some (Cells (ecs L ++ zerosL (c - L.length)) 43)
structure NextOK (N : Nat) (m m' : Mem) (V : List Value) (L : Nat → List Edg) : Prop where
 len : V.length = N
 row : ∀ j, j < N → Row1 m m' (V.getD j ns) (L j)
 apart : ∀ j j' b c c' n n', j < N → j' < N → V.getD j ns = .slice (some ⟨b, 0, none⟩) n c → V.getD j' ns = .slice (some ⟨b, 0, none⟩) n' c' → j = j'
theorem getD_setV {V : List Value} {k j : Nat} {v : Value} (hk : k < V.length) : (V.set k v).getD j ns = if j = k then v else V.getD j ns := by
 rw [List.getD_eq_getElem?_getD, List.getElem?_set, List.getD_eq_getElem?_getD]
 by_cases h : k = j
 ·subst h; simp [hk]
 ·rw [if_neg h, if_neg (Ne.symm h)]
theorem NextOK.new (N : Nat) (m m' : Mem) (E : List Edg) : NextOK N m m' (List.replicate N ns) (fun j => (E.take 0).filter (atK j)) :=
 ⟨by simp, fun j hj => .inl ⟨by rw [List.getD_eq_getElem?_getD, List.getElem?_replicate, if_pos hj]; rfl, by simp⟩,
  fun j j' b c c' n n' hj hj' h h' => by rw [List.getD_eq_getElem?_getD, List.getElem?_replicate, if_pos hj] at h; cases h⟩
theorem Row1.eat {m m' : Mem} {v : Value} {L : List Edg} (h : Row1 m m' v L) : EAt m' v L := by
 rcases h with ⟨rfl, rfl⟩ | ⟨b, c, rfl, h1, h2, h3, h4⟩
 ·exact ⟨none, 0, rfl, fun _ => rfl, (fun ad h => by cases h), Nat.le_refl _⟩
 ·refine ⟨_, c, rfl, (fun h => by cases h), (fun ad h => ?_), h2⟩
  cases h
  exact CellsAt.blk h4 fun j v hj => by rw [Nat.zero_add, List.getElem?_append_left (List.getElem?_eq_some_iff.1 hj).1]; exact hj
theorem splice_ecs {L : List Edg} {k : Nat} (hk : 0 < k) (e : Edg) : spliceL (ecs L ++ zerosL k) (L.length * 4) e.cells = ecs L ++ e.cells ++ zerosL (k - 1) := by
 have hl := ecs_len L
 have hn : e.cells.length = 4 := rfl
 rw [spliceL_eq _ _ _ (by rw [List.length_append, hl, zerosL_len, hn]; omega)]
 have h1 : (ecs L ++ zerosL k).take (L.length * 4) = ecs L := by rw [← hl, List.take_left]
 have h2 : (ecs L ++ zerosL k).drop (L.length * 4 + e.cells.length) = zerosL (k - 1) := by
  rw [← List.drop_drop, ← hl, List.drop_left, hn]
  obtain ⟨j, rfl⟩ : ∃ j, k = j + 1 := ⟨k - 1, by omega⟩
  show (zerosL (j + 1)).drop 4 = zerosL j
  simp [zerosL, zero4, List.replicate_succ]
 rw [h1, h2]
theorem ecs_snoc (L : List Edg) (e : Edg) : ecs (L ++ [e]) = ecs L ++ e.cells := by simp [ecs]
/-- One list grows: its new value is v', its block b'; all else stays. -/
theorem NextOK.grow {N : Nat} {m m' m'' : Mem} {V : List Value} {L L' : Nat → List Edg} (h : NextOK N m m' V L) {k b' c' : Nat} (hk : k < N) (e : Edg)
  (hL : ∀ j, j < N → L' j = if j = k then L k ++ [e] else L j) (hb : m b' = none) (hb' : m'' b' = some (Cells (ecs (L k ++ [e]) ++ zerosL (c' - ((L k).length + 1))) 43)) (hc : (L k).length + 1 ≤ c')
  (hold : ∀ j b c n, j < N → j ≠ k → V.getD j ns = .slice (some ⟨b, 0, none⟩) n c → b ≠ b' ∧ m'' b = m' b) :
  NextOK N m m'' (V.set k (.slice (some ⟨b', 0, none⟩) ((L k).length + 1) c')) L' := by
 have hkV : k < V.length := by rw [h.len]; exact hk
 refine ⟨by simp [h.len], fun j hj => ?_, fun j j' b c c2 n n' hj hj' h1 h2 => ?_⟩
 ·rw [getD_setV hkV, hL j hj]
  by_cases e1 : j = k
  ·rw [if_pos e1, if_pos e1]
   exact .inr ⟨b', c', by simp, by simp, by simpa using hc, hb, by simpa using hb'⟩
  ·rw [if_neg e1, if_neg e1]
   rcases h.row j hj with ⟨g1, g2⟩ | ⟨b, c, g1, g2, g3, g4, g5⟩
   ·exact .inl ⟨g1, g2⟩
   ·exact .inr ⟨b, c, g1, g2, g3, g4, by rw [(hold j b c _ hj e1 g1).2]; exact g5⟩
 ·rw [getD_setV hkV] at h1 h2
  by_cases e1 : j = k <;> by_cases e2 : j' = k
  ·rw [e1, e2]
  ·rw [if_pos e1] at h1; rw [if_neg e2] at h2
   cases h1
   exact absurd rfl (hold j' _ _ _ hj' e2 h2).1
  ·rw [if_neg e1] at h1; rw [if_pos e2] at h2
   cases h2
   exact absurd rfl (hold j _ _ _ hj e1 h1).1
  ·rw [if_neg e1] at h1; rw [if_neg e2] at h2
   exact h.apart j j' b c c2 n n' hj hj' h1 h2
theorem filt_step {E : List Edg} {k : Nat} (hk : k < E.length) (j : Nat) : (E.take (k + 1)).filter (atK j) = if atK j E[k] = true then (E.take k).filter (atK j) ++ [E[k]] else (E.take k).filter (atK j) := filt_take hk
theorem NextOK.same {N : Nat} {m m' : Mem} {V : List Value} {L L' : Nat → List Edg} (h : NextOK N m m' V L) (e : ∀ j, j < N → L' j = L j) : NextOK N m m' V L' :=
 ⟨h.len, fun j hj => by rw [e j hj]; exact h.row j hj, h.apart⟩
theorem NextOK.put {N : Nat} {m m' : Mem} {V : List Value} {L : Nat → List Edg} (h : NextOK N m m' V L) {bo : Nat} {o o' : List Value} (hb : m' bo = some (Cells o 3)) : NextOK N m (m'.set bo (Cells o' 3)) V L :=
 ⟨h.len, fun j hj => by
  rcases h.row j hj with ⟨g1, g2⟩ | ⟨b, c, g1, g2, g3, g4, g5⟩
  ·exact .inl ⟨g1, g2⟩
  ·refine .inr ⟨b, c, g1, g2, g3, g4, ?_⟩
   have : b ≠ bo := fun e => by rw [e, hb] at g5; exact absurd (Obj.cells.inj (Option.some.inj g5)).2.1 (by decide)
   rw [Mem.set_other _ _ this]; exact g5, h.apart⟩
theorem up_ok {m : Mem} {v : Value} {E : List Edg} (hv : EAt m v E) (hlen : E.length < 2 ^ 63) {N : Nat} (hN : N ≤ 401) (hE : ∀ e ∈ E, Fwd N e) (hlE : E.length ≤ 200000) :
  CallsM Tryz.prog 58 [i N, v] m fun e m' => ∃ u, e = .returned u ∧ Mem.le m m' ∧ IAt m' u (hgt E N (List.replicate N 0)) := by
 obtain ⟨a, c, rfl, h0, h1, hcap⟩ := hv
 refine calls_of mixed Tryz.func58 ok_order_Up rfl ?_
 conv => whnf
 refine WMake.mk ⟨by omega, Int.le_refl _, by omega⟩ fun bo hbo => ?_
 simp only [Int.toNat_natCast]
 rw [mkZeros]
 conv => whnf
 refine WMake.mk ⟨by omega, Int.le_refl _, by omega⟩ fun bn hbn0 => ?_
 simp only [Int.toNat_natCast]
 have hflat : (List.replicate N [ns]).flatten = List.replicate N ns := by simp
 rw [hflat]
 have hne : bo ≠ bn := fun e => by subst e; rw [Mem.set_same] at hbn0; cases hbn0
 have hbn : m bn = none := by rw [Mem.set_other _ _ (Ne.symm hne)] at hbn0; exact hbn0
 conv => whnf
 refine WLoop.mk (Nat × List Value) (fun s => [(18, .val (i s.1))])
  (fun s m' => Mem.le m m' ∧ m' bo = some (Cells ((List.replicate N 0).map i) 3) ∧ m' bn = some (Cells s.2 29) ∧ s.1 ≤ E.length ∧ NextOK N m m' s.2 (fun j => (E.take s.1).filter (atK j))) (fun s => E.length - s.1) (0, List.replicate N ns)
  ⟨rfl, trivial⟩ ⟨le_setn (Mem.le_set hbo) hbn, by rw [Mem.set_other _ _ hne, Mem.set_same], Mem.set_same _ _ _, Nat.zero_le _, NextOK.new _ _ _ _⟩ ?_
 rintro ⟨k, V⟩ m1 ⟨g1, g2, g3, g4, g5⟩
 simp only at g3 g4 g5
 conv => whnf
 refine Br.mk (fun hb => ?_) (fun hb => ?_)
 ·have hk : k < E.length := by simpa using hb
  have hfw := hE E[k] (List.getElem_mem hk)
  conv => whnf
  cases a with
  | none => rw [h0 rfl] at hk; simp at hk
  | some ad =>
   refine WIdx.mk ad rfl ⟨by omega, by simpa using hk⟩ ?_
   conv => whnf
   refine WLds.mk (E[k]).cells (by simpa using (EAt.cells (h1 ad rfl) hk).mono g1) rfl ?_
   conv => whnf
   refine Br.mk (fun hb2 => ?_) (fun hb2 => ?_)
   ·have her : (E[k]).r = 0 := by simpa using hb2
    obtain ⟨z, hz⟩ : ∃ z : Nat, (E[k]).f = z := ⟨(E[k]).f.toNat, by have := hfw.f0; omega⟩
    have hzN : z < N := by have := hfw.fn; omega
    have hzV : z < V.length := by rw [g5.len]; exact hzN
    conv => whnf
    refine WIdx.mk ⟨bn, 0, none⟩ rfl ⟨hfw.f0, hfw.fn⟩ ?_
    conv => whnf
    refine WLd.mk (V.getD z ns) (cell_add (z := z) ⟨_, _, _, g3, rfl, by simp [List.getD_eq_getElem?_getD, hzV]⟩ (by show (E[k]).f.toNat * 1 = z; omega)) ?_
    have hstep : ∀ j, j < N → (E.take (k + 1)).filter (atK j) = if j = z then (E.take k).filter (atK z) ++ [E[k]] else (E.take k).filter (atK j) := fun j hj => by
     rw [filt_step hk]
     by_cases e : j = z
     ·subst e; rw [if_pos rfl, if_pos (atK_iff.2 ⟨hz, her⟩)]
     ·rw [if_neg e, if_neg fun h => e (by have := (atK_iff.1 h).1; omega)]
    have hlenL : ((E.take k).filter (atK z)).length ≤ k := Nat.le_trans (List.length_filter_le _ _) (by rw [List.length_take]; omega)
    have hbno : m1 bn ≠ none := by rw [g3]; simp
    have fin : ∀ (b1 b2 c2 : Nat) (X : List Value), m1 b1 = none → m b2 = none → b2 ≠ bo → b2 ≠ bn → ((E.take k).filter (atK z)).length + 1 ≤ c2 →
      X = ecs ((E.take k).filter (atK z)) ++ (E[k]).cells ++ zerosL (c2 - (((E.take k).filter (atK z)).length + 1)) →
      (∀ j b c n, j < N → j ≠ z → V.getD j ns = .slice (some ⟨b, 0, none⟩) n c → b ≠ b2) →
      Mem.le m (((m1.set b1 (Cells (E[k]).cells 43)).set b2 (Cells X 43)).set bn (Cells (V.set z (.slice (some ⟨b2, 0, none⟩) (((E.take k).filter (atK z)).length + 1) c2)) 29)) ∧
      (((m1.set b1 (Cells (E[k]).cells 43)).set b2 (Cells X 43)).set bn (Cells (V.set z (.slice (some ⟨b2, 0, none⟩) (((E.take k).filter (atK z)).length + 1) c2)) 29)) bo = some (Cells ((List.replicate N 0).map i) 3) ∧
      (((m1.set b1 (Cells (E[k]).cells 43)).set b2 (Cells X 43)).set bn (Cells (V.set z (.slice (some ⟨b2, 0, none⟩) (((E.take k).filter (atK z)).length + 1) c2)) 29)) bn = some (Cells (V.set z (.slice (some ⟨b2, 0, none⟩) (((E.take k).filter (atK z)).length + 1) c2)) 29) ∧
      k + 1 ≤ E.length ∧ NextOK N m (((m1.set b1 (Cells (E[k]).cells 43)).set b2 (Cells X 43)).set bn (Cells (V.set z (.slice (some ⟨b2, 0, none⟩) (((E.take k).filter (atK z)).length + 1) c2)) 29)) (V.set z (.slice (some ⟨b2, 0, none⟩) (((E.take k).filter (atK z)).length + 1) c2)) (fun j => (E.take (k + 1)).filter (atK j)) := by
     intro b1 b2 c2 X hb1 hb2 n1 n2 hc2 hX hoth
     have hmb1 : m b1 = none := by
      cases hh : m b1 with
      | none => rfl
      | some o => rw [g1 b1 o hh] at hb1; cases hb1
     have nb1o : bo ≠ b1 := fun e => by rw [e, hb1] at g2; cases g2
     refine ⟨le_setn (le_setn (le_setn g1 hmb1) hb2) hbn, ?_, Mem.set_same _ _ _, hk, ?_⟩
     ·rw [Mem.set_other _ _ hne, Mem.set_other _ _ (Ne.symm n1), Mem.set_other _ _ nb1o]; exact g2
     ·refine g5.grow hzN E[k] hstep hb2 ?_ hc2 fun j b c n hj hjz hjv => ⟨hoth j b c n hj hjz hjv, ?_⟩
      ·rw [Mem.set_other _ _ n2, Mem.set_same, hX, ecs_snoc]
      ·have hr := g5.row j hj
       rcases hr with ⟨w1, w2⟩ | ⟨b', c', w1, w2, w3, w4, w5⟩
       ·rw [w1] at hjv; cases hjv
       ·rw [w1] at hjv; cases hjv
        have nn : b ≠ bn := fun e => by subst e; rw [g3] at w5; cases w5
        have nb1 : b ≠ b1 := fun e => by subst e; rw [hb1] at w5; cases w5
        rw [Mem.set_other _ _ nn, Mem.set_other _ _ (hoth j b _ _ hj hjz w1), Mem.set_other _ _ nb1]
    rcases g5.row z hzN with ⟨r1, r2⟩ | ⟨b, cc, r1, r2, r3, r4, r5⟩
    ·rw [r1]
     conv => whnf
     refine ⟨?_, trivial⟩
     conv => whnf
     refine WNew.mk fun b1 hb1 => ?_
     conv => whnf
     refine ⟨?_, trivial⟩
     conv => whnf
     refine WApp.grow (E[k]).cells ⟨rfl, fun ad had => by cases had; exact CellsAt.blk (Mem.set_same _ _ _) fun j v hj => by rw [Nat.zero_add]; exact hj⟩ (fun h => by cases h) (by omega) (by omega) [] ⟨rfl, fun ad h => by cases h⟩ (fun _ => rfl) fun b2 c2 hb2 hc2 => ?_
     have nb21 : b2 ≠ b1 := fun e => by subst e; rw [Mem.set_same] at hb2; cases hb2
     have hb2' : m1 b2 = none := by rw [Mem.set_other _ _ nb21] at hb2; exact hb2
     have nbn1 : bn ≠ b1 := fun e => by rw [e, hb1] at g3; cases g3
     have nbn2 : b2 ≠ bn := fun e => by rw [← e, hb2'] at g3; cases g3
     have nbo2 : b2 ≠ bo := fun e => by rw [← e, hb2'] at g2; cases g2
     have hmb2 : m b2 = none := by
      cases hh : m b2 with
      | none => rfl
      | some o => rw [g1 b2 o hh] at hb2'; cases hb2'
     conv => whnf
     refine WIdx.mk ⟨bn, 0, none⟩ rfl ⟨hfw.f0, hfw.fn⟩ ?_
     conv => whnf
     refine ⟨?_, trivial⟩
     conv => whnf
     refine WSt.mk V 29 ?_ ?_ ?_ ?_
     ·rw [add0]; rw [Mem.set_other _ _ (Ne.symm nbn2), Mem.set_other _ _ nbn1]; exact g3
     ·rw [add0]
     ·rw [add0]
      show _ * 1 + 1 ≤ V.length
      omega
     rw [add0]
     conv => whnf
     refine WRng.mk (by apply wrap_i64 <;> omega) ?_
     conv => whnf
     have hspl : ∀ (q : Nat) (u : Value), q = z → spliceL V q [u] = V.set z u := fun q u hq => by rw [hq]; rfl
     have hoth : ∀ j b c n, j < N → j ≠ z → V.getD j ns = .slice (some ⟨b, 0, none⟩) n c → b ≠ b2 := fun j b c n hj _ hjv e => by
      rcases g5.row j hj with ⟨w1, _⟩ | ⟨b', c', w1, _, _, _, w5⟩
      ·rw [w1] at hjv; cases hjv
      ·rw [w1] at hjv; cases hjv; rw [e, hb2'] at w5; cases w5
     have F := fin b1 b2 c2 (([] : List Value) ++ (E[k]).cells ++ zerosL (c2 - (0 + 1))) hb1 hmb2 nbo2 nbn2 (by rw [r2]; exact hc2) (by rw [r2]; rfl) hoth
     rw [r2, show ([] : List Edg).length + 1 = 0 + 1 from rfl] at F
     have e := hspl ((E[k]).f.toNat * 1) (.slice (some ⟨b2, 0, none⟩) (0 + 1) c2) (by omega)
     refine ⟨(k + 1, V.set z (.slice (some ⟨b2, 0, none⟩) (0 + 1) c2)), ⟨rfl, trivial⟩, ?_, by simp only; omega⟩
     rw [← e] at F ⊢
     exact F
    ·rw [r1]
     conv => whnf
     refine ⟨?_, trivial⟩
     conv => whnf
     refine WNew.mk fun b1 hb1 => ?_
     have nbb1 : b ≠ b1 := fun e => by rw [← e, r5] at hb1; cases hb1
     have nbn1 : bn ≠ b1 := fun e => by rw [e, hb1] at g3; cases g3
     have nbbn : b ≠ bn := fun e => by rw [e, g3] at r5; cases r5
     have nbbo : b ≠ bo := fun e => by rw [e, g2] at r5; exact absurd (Obj.cells.inj (Option.some.inj r5)).2.1 (by decide)
     conv => whnf
     refine ⟨?_, trivial⟩
     conv => whnf
     have hnew : FirstCells (m1.set b1 (Cells (E[k]).cells 43)) (some ⟨b1, 0, none⟩) (1 * 4) (E[k]).cells := ⟨rfl, fun ad had => by cases had; exact CellsAt.blk (Mem.set_same _ _ _) fun j v hj => by rw [Nat.zero_add]; exact hj⟩
     have hb1' : (m1.set b1 (Cells (E[k]).cells 43)) b = some (Cells (ecs ((E.take k).filter (atK z)) ++ zerosL (cc - ((E.take k).filter (atK z)).length)) 43) := by rw [Mem.set_other _ _ nbb1]; exact r5
     by_cases hcc : ((E.take k).filter (atK z)).length + 1 ≤ cc
     ·refine WApp.in (ad := ⟨b, 0, none⟩) _ hnew (fun h => by cases h) _ 43 hcc hb1' rfl ?_ rfl ?_
      ·rw [List.length_append, ecs_len, zerosL_len]; simp only; omega
      conv => whnf
      refine WIdx.mk ⟨bn, 0, none⟩ rfl ⟨hfw.f0, hfw.fn⟩ ?_
      conv => whnf
      refine ⟨?_, trivial⟩
      conv => whnf
      refine WSt.mk V 29 ?_ ?_ ?_ ?_
      ·rw [add0]; rw [Mem.set_other _ _ (Ne.symm nbbn), Mem.set_other _ _ nbn1]; exact g3
      ·rw [add0]
      ·rw [add0]
       show _ * 1 + 1 ≤ V.length
       omega
      rw [add0]
      conv => whnf
      refine WRng.mk (by apply wrap_i64 <;> omega) ?_
      conv => whnf
      have hspl : ∀ (q : Nat) (u : Value), q = z → spliceL V q [u] = V.set z u := fun q u hq => by rw [hq]; rfl
      have F := fin b1 b cc (spliceL (ecs ((E.take k).filter (atK z)) ++ zerosL (cc - ((E.take k).filter (atK z)).length)) (0 + ((E.take k).filter (atK z)).length * 4) (E[k]).cells) hb1 r4 nbbo nbbn hcc (by rw [Nat.zero_add, splice_ecs (by omega)]; rfl)
       (fun j b' c' n hj hjz hjv e => hjz (g5.apart j z b c' cc n _ hj hzN (by rw [← e]; exact hjv) r1))
      have e := hspl ((E[k]).f.toNat * 1) (.slice (some ⟨b, 0, none⟩) (((E.take k).filter (atK z)).length + 1) cc) (by omega)
      refine ⟨(k + 1, V.set z (.slice (some ⟨b, 0, none⟩) (((E.take k).filter (atK z)).length + 1) cc)), ⟨rfl, trivial⟩, ?_, by simp only; omega⟩
      rw [← e] at F ⊢
      exact F
     ·refine WApp.grow _ hnew (fun h => by cases h) (by omega) (by omega) (ecs ((E.take k).filter (atK z))) ⟨ecs_len _, fun ad had => by cases had; exact CellsAt.blk hb1' fun j v hj => by rw [Nat.zero_add, List.getElem?_append_left (List.getElem?_eq_some_iff.1 hj).1]; exact hj⟩ (fun h => by cases h) fun b2 c2 hb2 hc2 => ?_
      have nb21 : b2 ≠ b1 := fun e => by subst e; rw [Mem.set_same] at hb2; cases hb2
      have hb2' : m1 b2 = none := by rw [Mem.set_other _ _ nb21] at hb2; exact hb2
      have nbn2 : b2 ≠ bn := fun e => by rw [← e, hb2'] at g3; cases g3
      have nbo2 : b2 ≠ bo := fun e => by rw [← e, hb2'] at g2; cases g2
      have hmb2 : m b2 = none := by
       cases hh : m b2 with
       | none => rfl
       | some o => rw [g1 b2 o hh] at hb2'; cases hb2'
      conv => whnf
      refine WIdx.mk ⟨bn, 0, none⟩ rfl ⟨hfw.f0, hfw.fn⟩ ?_
      conv => whnf
      refine ⟨?_, trivial⟩
      conv => whnf
      refine WSt.mk V 29 ?_ ?_ ?_ ?_
      ·rw [add0]; rw [Mem.set_other _ _ (Ne.symm nbn2), Mem.set_other _ _ nbn1]; exact g3
      ·rw [add0]
      ·rw [add0]
       show _ * 1 + 1 ≤ V.length
       omega
      rw [add0]
      conv => whnf
      refine WRng.mk (by apply wrap_i64 <;> omega) ?_
      conv => whnf
      have hspl : ∀ (q : Nat) (u : Value), q = z → spliceL V q [u] = V.set z u := fun q u hq => by rw [hq]; rfl
      have hoth : ∀ j b c n, j < N → j ≠ z → V.getD j ns = .slice (some ⟨b, 0, none⟩) n c → b ≠ b2 := fun j b c n hj _ hjv e => by
       rcases g5.row j hj with ⟨w1, _⟩ | ⟨b', c', w1, _, _, _, w5⟩
       ·rw [w1] at hjv; cases hjv
       ·rw [w1] at hjv; cases hjv; rw [e, hb2'] at w5; cases w5
      have F := fin b1 b2 c2 (ecs ((E.take k).filter (atK z)) ++ (E[k]).cells ++ zerosL (c2 - (((E.take k).filter (atK z)).length + 1))) hb1 hmb2 nbo2 nbn2 hc2 rfl hoth
      have e := hspl ((E[k]).f.toNat * 1) (.slice (some ⟨b2, 0, none⟩) (((E.take k).filter (atK z)).length + 1) c2) (by omega)
      refine ⟨(k + 1, V.set z (.slice (some ⟨b2, 0, none⟩) (((E.take k).filter (atK z)).length + 1) c2)), ⟨rfl, trivial⟩, ?_, by simp only; omega⟩
      rw [← e] at F ⊢
      exact F
   ·conv => whnf
    refine WRng.mk (by apply wrap_i64 <;> omega) ?_
    conv => whnf
    refine ⟨(k + 1, V), ⟨rfl, trivial⟩, ⟨g1, g2, g3, hk, g5.same fun j hj => ?_⟩, by simp only; omega⟩
    rw [filt_step hk, if_neg fun h => by have := (atK_iff.1 h).2; simp [this] at hb2]
 ·have hkE : k = E.length := by simp at hb; omega
  subst hkE
  rw [List.take_length] at g5
  conv => whnf
  refine WRng.mk (by apply wrap_i64 <;> omega) ?_
  conv => whnf
  refine WLoop.mk (Nat × List Int) (fun s => [(9, .val (i ((s.1 : Int) - 1)))])
   (fun s m' => Mem.le m m' ∧ m' bo = some (Cells (s.2.map i) 3) ∧ m' bn = some (Cells V 29) ∧ s.1 ≤ N ∧ Bnd N s.2 ∧ hgt E N (List.replicate N 0) = hgt E s.1 s.2 ∧ NextOK N m m' V (fun j => E.filter (atK j))) (fun s => s.1) (N, List.replicate N 0)
   ⟨rfl, trivial⟩ ⟨g1, g2, g3, Nat.le_refl _, bnd_zero N, rfl, g5⟩ ?_
  rintro ⟨k, out⟩ m2 ⟨g1, g2, g3, g6, g7, g8, g9⟩
  simp only at g2 g6 g7 g8
  conv => whnf
  refine Br.mk (fun hb4 => ?_) (fun hb4 => ?_)
  ·obtain ⟨k, rfl⟩ : ∃ k', k = k' + 1 := ⟨k - 1, by simp at hb4; omega⟩
   have hkN : k < N := by omega
   have hkV : k < V.length := by rw [g9.len]; exact hkN
   conv => whnf
   refine WIdx.mk ⟨bn, 0, none⟩ rfl ⟨by simp only; omega, by simp only; omega⟩ ?_
   conv => whnf
   refine WLd.mk (V.getD k ns) (cell_add (z := k) ⟨_, _, _, g3, rfl, by simp [List.getD_eq_getElem?_getD, hkV]⟩ (by show (_ : Nat) * 1 = k; simp only; omega)) ?_
   have hrow := (g9.row k hkN).eat
   have hLk := filt_ok (k := k) hE
   have hfl : (E.filter (atK k)).length ≤ E.length := List.length_filter_le _ _
   obtain ⟨a', c', e', z0, z1, z2⟩ := hrow
   rw [e']
   conv => whnf
   refine WLoop.mk (Nat × List Int) (fun s => [(49, .val (i s.1))])
    (fun s m' => Mem.le m m' ∧ m' bo = some (Cells (s.2.map i) 3) ∧ m' bn = some (Cells V 29) ∧ s.1 ≤ (E.filter (atK k)).length ∧ Bnd N s.2 ∧ s.2 = ((E.filter (atK k)).take s.1).foldl (relax k) out ∧ NextOK N m m' V (fun j => E.filter (atK j))) (fun s => (E.filter (atK k)).length - s.1) (0, out)
    ⟨rfl, trivial⟩ ⟨g1, g2, g3, Nat.zero_le _, g7, rfl, g9⟩ ?_
   rintro ⟨j, o2⟩ m3 ⟨q1, q2, q3, q4, q5, q6, q7⟩
   simp only at q2 q4 q5 q6
   conv => whnf
   refine Br.mk (fun hb5 => ?_) (fun hb5 => ?_)
   ·have hj : j < (E.filter (atK k)).length := by simpa using hb5
    obtain ⟨hfw, hef, her⟩ := hLk _ (List.getElem_mem hj)
    have hrow3 := (q7.row k hkN).eat
    obtain ⟨a3, c3, e3, y0, y1, y2⟩ := hrow3
    rw [e'] at e3
    cases e3
    conv => whnf
    cases a' with
    | none => rw [z0 rfl] at hj; simp at hj
    | some ad =>
     refine WIdx.mk ad rfl ⟨by simp only; omega, by simpa using hj⟩ ?_
     conv => whnf
     refine WLds.mk ((E.filter (atK k))[j]).cells (by simpa using (EAt.cells (y1 ad rfl) hj)) rfl ?_
     generalize hx : (E.filter (atK k))[j] = x at hfw hef her
     have hup := hfw.up her
     have htN : x.t.toNat < N := by have := hfw.tn; have := hfw.t0; omega
     obtain ⟨ol, ob⟩ := q5
     have b1 := ob k hkN
     have b2 := ob _ htN
     have d0 := hfw.d0
     have d8 := hfw.d8
     conv => whnf
     refine WIdx.mk ⟨bo, 0, none⟩ rfl ⟨by simp only; omega, by simp only; omega⟩ ?_
     conv => whnf
     refine WLd.mk (i (o2.getD k 0)) (cell_add (cell_i q2 (by omega)) (by simp only; omega)) ?_
     conv => whnf
     refine WIdx.mk ⟨bo, 0, none⟩ rfl ⟨hfw.t0, hfw.tn⟩ ?_
     conv => whnf
     refine WLd.mk (i (o2.getD x.t.toNat 0)) (cell_add (cell_i q2 (by omega)) (by omega)) ?_
     conv => whnf
     refine WRng.mk (by apply wrap_i64 <;> omega) ?_
     conv => whnf
     refine WIdx.mk ⟨bo, 0, none⟩ rfl ⟨by simp only; omega, by simp only; omega⟩ ?_
     conv => whnf
     refine ⟨?_, trivial⟩
     conv => whnf
     refine WSt.mk (o2.map i) 3 ?_ ?_ ?_ ?_
     ·rw [add0]; exact q2
     ·rw [add0]
     ·rw [add0]
      show _ * 1 + 1 ≤ (o2.map i).length
      rw [List.length_map]; simp only; omega
     simp only [add0]
     conv => whnf
     refine WRng.mk (by apply wrap_i64 <;> omega) ?_
     conv => whnf
     have hbon : bn ≠ bo := Ne.symm hne
     refine ⟨(j + 1, relax k o2 x), ⟨rfl, trivial⟩, ⟨le_setn q1 hbo, ?_, by rw [Mem.set_other _ _ hbon]; exact q3, hj, bnd_relax ⟨ol, ob⟩ hfw hef her, ?_, q7.put q2⟩, by simp only; omega⟩
     ·rw [Mem.set_same, relax_cells (k := k) (e := x) (by show _ * 1 = k; omega) (by rw [max_if])]
     ·show relax k o2 x = _
      rw [List.take_succ_eq_append_getElem hj, hx, List.foldl_append, ← q6]; rfl
   ·have hj : j = (E.filter (atK k)).length := by simp at hb5; omega
    conv => whnf
    refine WRng.mk (by apply wrap_i64 <;> simp only <;> omega) ?_
    conv => whnf
    refine ⟨(k, o2), ⟨?_, trivial⟩, ⟨q1, q2, q3, by omega, q5, ?_, q7⟩, by simp only; omega⟩
    ·show some (AV.val (i (((k + 1 : Nat) : Int) - 1 - 1))) = some (AV.val (i ((k : Int) - 1)))
     rw [show (((k + 1 : Nat) : Int) - 1 - 1) = (k : Int) - 1 by omega]
    ·rw [g8]
     show hgt E k (rowH E k out) = hgt E k o2
     rw [q6, hj, List.take_length]; rfl
  ·have hk : k = 0 := by simp at hb4; omega
   subst hk
   conv => whnf
   refine WRet.same ⟨.slice (some ⟨bo, 0, none⟩) N N, rfl, g1, ?_⟩
   rw [g8]
   show IAt m2 _ out
   refine ⟨some ⟨bo, 0, none⟩, N, by rw [g7.1], (fun h => by cases h), (fun ad h => ?_), by rw [g7.1]; exact Nat.le_refl _⟩
   cases h
   exact CellsAt.blk g2 fun q v hq => by rw [Nat.zero_add]; exact hq
end Go.Proofs.YtmnagbhllnlelaaGreatDoor
