/- Contract of list.Make. -/
import Derived.Test.YtmnagbhllnlelaaGreatDoorVxOwnMk
set_option linter.unusedSimpArgs false
set_option linter.unusedVariables false
set_option maxRecDepth 100000
namespace Go.Proofs.YtmnagbhllnlelaaGreatDoor
open Go Go.Vx
open Go.Vx.IOp Go.Vx.IR Go.Vx.Opd
theorem low {b : Nat} (m m' : Mem) (h : Mem.le m m') (hb : m' b = none) : m b = none := by
 cases hh : m b with
 | none => rfl
 | some o => rw [h b o hh] at hb; cases hb
theorem ws_n {P : Program} {l : List E} {j : Nat} {r : RT} {K : Env → Mem → Prop} {X : List PanicEntry → Mem → Prop} {e : Env} {m : Mem} {x : E} {d : Option Nat} (u : AV) (hx : l[j]? = some x) (hg : x.g = none) (hs : x.s = false) (hd : x.d = d)
  (hv : ∀ F, F u m → vop P x.o e m F X) (h : treeI P l K X r (e.put d u) m) : treeI P l K X (.pure j r) e m := by
 subst hd
 refine ws_step hx ?_
 unfold stepE
 rw [hg]
 simp only
 rw [hs]
 exact hv _ h
theorem ws_nil {P : Program} {l : List E} {K : Env → Mem → Prop} {X : List PanicEntry → Mem → Prop} {e : Env} {m : Mem} (h : K e m) : treeI P l K X .nil e m := h
theorem ws_then {F : Env → Mem → Prop} {Q : Post} {e : Env} {m : Mem} (h : F e m) : thenE F Q .normal e m := h
theorem keepH {m8 m : Mem} {ah : Option Addr} {ch n bi bc : Nat} {H : List Int} (h0 : ah = none → H = []) (h1 : ∀ ad, ah = some ad → CellsAt m8 ad (H.map i)) (h2 : H.length ≤ ch) (hbi : m8 bi = none ∨ m8 bi = some (Cells (List.replicate n ns) 29)) (hbc : m8 bc = none) (hle : Mem.le m8 m)
  : ∀ m', (∀ x o, x ≠ bi → x ≠ bc → m x = some o → m' x = some o) → IAt m' (.slice ah H.length ch) H := fun m' hx => by
 refine ⟨ah, ch, rfl, h0, fun ad had j v hj => ?_, h2⟩
 obtain ⟨l, T, fr, g1, g2, g3⟩ := h1 ad had j v hj
 refine ⟨l, T, fr, hx _ _ (fun e => ?_) (fun e => ?_) (hle _ _ g1), g2, g3⟩
 ·rw [e] at g1
  rcases hbi with h | h
  ·rw [h] at g1; cases g1
  ·rw [h] at g1
   cases g1
   rw [List.getElem?_map] at hj
   cases hH : H[j]? with
   | none => rw [hH] at hj; cases hj
   | some x =>
    rw [hH] at hj
    cases hj
    simp only [List.getElem?_toArray, List.getElem?_replicate] at g3
    split at g3 <;> cases g3
 ·rw [e, hbc] at g1; cases g1
theorem fillPlan (M : Mac) (v1 v2 v3 v4 : Option Addr × Nat × Nat) : fillL [i 0, i 0, i 0, i 0, i 0, i 0, i 0, i 0, i 0, i 0, i 0, ns, ns, ns, ns]
   [(0, 11, Value.agg ⟨List.take 11 (cellsL M.val)⟩), (11, 1, Value.slice v1.1 v1.2.1 v1.2.2), (12, 1, Value.slice v2.1 v2.2.1 v2.2.2), (13, 1, Value.slice v3.1 v3.2.1 v3.2.2), (14, 1, Value.slice v4.1 v4.2.1 v4.2.2)] = some (M.cells ++ [.slice v1.1 v1.2.1 v1.2.2, .slice v2.1 v2.2.1 v2.2.2, .slice v3.1 v3.2.1 v3.2.2, .slice v4.1 v4.2.1 v4.2.2]) := rfl
theorem one1 : spliceL [i 0] 0 (cellsL (i (-1))) = [i (-1)] := rfl
attribute [local irreducible] spliceL in
theorem make_ok {m0 : Mem} {T : Nat} {fr : Nat × Nat} (hm : m0 0 = some (.cells ⟨cells0⟩ T fr)) {v u : Value} (M : Mac) {O : List OpR} {E : List Edg}
  (hO : OAt m0 v O) (hEE : EAt m0 u E) (hlO : O.length ≤ 400) (hlE : E.length ≤ 200000) (hE : ∀ e ∈ E, Fwd O.length e) (hM : M.ok = true) (hgood : ∀ o ∈ O, badOp M o = false) :
  CallsM Tryz.prog 60 [M.val, v, u] m0 fun e m' => ∃ w z, e = .returned w ∧ Mem.le m0 m' ∧ IAt m' w z ∧ Sch M O E (hgt E O.length (List.replicate O.length 0)) 0 (noneC O.length) z := by
 have hsl : ∃ a c, v = .slice a O.length c := by obtain ⟨a, c, e, _⟩ := hO; exact ⟨a, c, e⟩
 obtain ⟨a, ca, rfl⟩ := hsl
 have hsl2 : ∃ a c, u = .slice a E.length c := by obtain ⟨a, c, e, _⟩ := hEE; exact ⟨a, c, e⟩
 obtain ⟨a2, c2, rfl⟩ := hsl2
 have hHl := (zeros_law hE).1.1
 have hflat : (List.replicate O.length [ns]).flatten = List.replicate O.length ns := by simp
 refine calls_of mixed Tryz.func60 ok_list_Make rfl ?_
 conv => whnf
 refine ⟨?_, ?_, ?_, trivial⟩
 ·conv => whnf
  refine WMake.mk ⟨by omega, Int.le_refl _, by omega⟩ fun bi hbi => ?_
  simp only [Int.toNat_natCast]
  rw [hflat]
  have l1 : Mem.le m0 (m0.set bi (Cells (List.replicate O.length ns) 29)) := Mem.le_set hbi
  have cbi := Mem.set_same m0 bi (Cells (List.replicate O.length ns) 29)
  generalize m0.set bi (Cells (List.replicate O.length ns) 29) = m1 at *
  have LB := Mem.le.refl m0
  have LE_bi := Mem.le.refl m1
  have L1 := l1
  conv => whnf
  refine ⟨?_, ?_, trivial⟩
  ·conv => whnf
   refine WCallG.mk (up_ok (hEE.mono (L1)) (by omega) (by omega) hE hlE) ?_
   rintro _ m8 ⟨_, rfl, l8, ⟨ah, ch, rfl, hu0, hu1, huc⟩⟩
   refine ⟨l8, ?_⟩
   have l2 := l8
   have hm8 : ∃ m2, m2 = m8 := ⟨_, rfl⟩
   obtain ⟨m2, hm8⟩ := hm8
   rw [← hm8] at l2 ⊢
   have LE_u : Mem.le m8 m2 := by rw [hm8]; exact Mem.le.refl _
   have hbi8 : m8 bi = none ∨ m8 bi = some (Cells (List.replicate O.length ns) 29) := .inr (l8 _ _ (LE_bi _ _ cbi))
   have LE_bi := LE_bi.trans l2
   have L2 := L1.trans l2
   conv => whnf
   refine ⟨?_, trivial⟩
   conv => whnf
   refine WNew.mk fun b1 hb1 => ?_
   rw [one1]
   have l3 : Mem.le m2 (m2.set b1 (Cells [i (-1)] 3)) := Mem.le_set hb1
   have cb1 := Mem.set_same m2 b1 (Cells [i (-1)] 3)
   generalize m2.set b1 (Cells [i (-1)] 3) = m3 at *
   have LE_b1 := Mem.le.refl m3
   have LE_bi := LE_bi.trans l3
   have LE_u := LE_u.trans l3
   have L3 := L2.trans l3
   conv => whnf
   refine ⟨?_, trivial⟩
   conv => whnf
   have hone : IAt m3 (.slice (some ⟨b1, 0, none⟩) 1 1) [-1] := ⟨some ⟨b1, 0, none⟩, 1, rfl, (fun h => by cases h), fun ad ha => (by cases ha; exact CellsAt.blk (LE_b1 _ _ cb1) fun q v hq => by rw [Nat.zero_add]; exact hq), Nat.le_refl _⟩
   refine WCallG.mk (repeat_ok hone hlO) ?_
   rintro _ m4 ⟨bc, rfl, hbc, cbc, l4⟩
   refine ⟨l4, ?_⟩
   have LC := L3
   have LE_bc := Mem.le.refl m4
   have hbc8 : m8 bc = none := low m8 m3 LE_u hbc
   have LE_bi := LE_bi.trans l4
   have LE_u := LE_u.trans l4
   have LE_b1 := LE_b1.trans l4
   have L4 := L3.trans l4
   conv => whnf
   rw [fillPlan M (a, O.length, ca) (some ⟨bi, 0, none⟩, O.length, O.length) (ah, (hgt E O.length (List.replicate O.length 0)).length, ch) (some ⟨bc, 0, none⟩, O.length, O.length)]
   conv => whnf
   refine ⟨?_, trivial⟩
   conv => whnf
   refine WNew.mk fun p hp => ?_
   have l5 := Mem.le_set (o := Cells (M.cells ++ [.slice a O.length ca, .slice (some ⟨bi, 0, none⟩) O.length O.length, .slice ah (hgt E O.length (List.replicate O.length 0)).length ch, .slice (some ⟨bc, 0, none⟩) O.length O.length]) 132) hp
   have LE_bi := LE_bi.trans l5
   have LE_u := LE_u.trans l5
   have LE_b1 := LE_b1.trans l5
   have LE_bc := LE_bc.trans l5
   have L5 := L4.trans l5
   refine sf_no ?_
   refine ws_n (.val (.pointer (some ⟨p, 0, none⟩))) rfl rfl rfl rfl (fun F h => h) ?_
   refine ws_nil ?_
   refine ws_then ?_
   exact make_tail hm hO hEE hlO hlE hE hM hgood L5 (low _ _ LB hbi) (low _ _ LC hbc) (Mem.set_same _ _ _) (LE_bi _ _ cbi) (LE_bc _ _ cbc) (keepH hu0 hu1 huc hbi8 hbc8 (LE_u)) hHl rfl rfl rfl
  ·conv => whnf
   refine WNew.mk fun b1 hb1 => ?_
   rw [one1]
   have l2 : Mem.le m1 (m1.set b1 (Cells [i (-1)] 3)) := Mem.le_set hb1
   have cb1 := Mem.set_same m1 b1 (Cells [i (-1)] 3)
   generalize m1.set b1 (Cells [i (-1)] 3) = m2 at *
   have LE_b1 := Mem.le.refl m2
   have LE_bi := LE_bi.trans l2
   have L2 := L1.trans l2
   conv => whnf
   refine ⟨?_, trivial⟩
   conv => whnf
   refine WCallG.mk (up_ok (hEE.mono (L2)) (by omega) (by omega) hE hlE) ?_
   rintro _ m8 ⟨_, rfl, l8, ⟨ah, ch, rfl, hu0, hu1, huc⟩⟩
   refine ⟨l8, ?_⟩
   have l3 := l8
   have hm8 : ∃ m3, m3 = m8 := ⟨_, rfl⟩
   obtain ⟨m3, hm8⟩ := hm8
   rw [← hm8] at l3 ⊢
   have LE_u : Mem.le m8 m3 := by rw [hm8]; exact Mem.le.refl _
   have hbi8 : m8 bi = none ∨ m8 bi = some (Cells (List.replicate O.length ns) 29) := .inr (l8 _ _ (LE_bi _ _ cbi))
   have LE_bi := LE_bi.trans l3
   have LE_b1 := LE_b1.trans l3
   have L3 := L2.trans l3
   conv => whnf
   refine ⟨?_, trivial⟩
   conv => whnf
   have hone : IAt m3 (.slice (some ⟨b1, 0, none⟩) 1 1) [-1] := ⟨some ⟨b1, 0, none⟩, 1, rfl, (fun h => by cases h), fun ad ha => (by cases ha; exact CellsAt.blk (LE_b1 _ _ cb1) fun q v hq => by rw [Nat.zero_add]; exact hq), Nat.le_refl _⟩
   refine WCallG.mk (repeat_ok hone hlO) ?_
   rintro _ m4 ⟨bc, rfl, hbc, cbc, l4⟩
   refine ⟨l4, ?_⟩
   have LC := L3
   have LE_bc := Mem.le.refl m4
   have hbc8 : m8 bc = none := low m8 m3 LE_u hbc
   have LE_bi := LE_bi.trans l4
   have LE_u := LE_u.trans l4
   have LE_b1 := LE_b1.trans l4
   have L4 := L3.trans l4
   conv => whnf
   rw [fillPlan M (a, O.length, ca) (some ⟨bi, 0, none⟩, O.length, O.length) (ah, (hgt E O.length (List.replicate O.length 0)).length, ch) (some ⟨bc, 0, none⟩, O.length, O.length)]
   conv => whnf
   refine ⟨?_, trivial⟩
   conv => whnf
   refine WNew.mk fun p hp => ?_
   have l5 := Mem.le_set (o := Cells (M.cells ++ [.slice a O.length ca, .slice (some ⟨bi, 0, none⟩) O.length O.length, .slice ah (hgt E O.length (List.replicate O.length 0)).length ch, .slice (some ⟨bc, 0, none⟩) O.length O.length]) 132) hp
   have LE_bi := LE_bi.trans l5
   have LE_u := LE_u.trans l5
   have LE_b1 := LE_b1.trans l5
   have LE_bc := LE_bc.trans l5
   have L5 := L4.trans l5
   refine sf_no ?_
   refine ws_n (.val (.pointer (some ⟨p, 0, none⟩))) rfl rfl rfl rfl (fun F h => h) ?_
   refine ws_nil ?_
   refine ws_then ?_
   exact make_tail hm hO hEE hlO hlE hE hM hgood L5 (low _ _ LB hbi) (low _ _ LC hbc) (Mem.set_same _ _ _) (LE_bi _ _ cbi) (LE_bc _ _ cbc) (keepH hu0 hu1 huc hbi8 hbc8 (LE_u)) hHl rfl rfl rfl
 ·conv => whnf
  refine WCallG.mk (up_ok (hEE.mono (Mem.le.refl _)) (by omega) (by omega) hE hlE) ?_
  rintro _ m8 ⟨_, rfl, l8, ⟨ah, ch, rfl, hu0, hu1, huc⟩⟩
  refine ⟨l8, ?_⟩
  have l1 := l8
  have hm8 : ∃ m1, m1 = m8 := ⟨_, rfl⟩
  obtain ⟨m1, hm8⟩ := hm8
  rw [← hm8] at l1 ⊢
  have LE_u : Mem.le m8 m1 := by rw [hm8]; exact Mem.le.refl _
  have L1 := l1
  conv => whnf
  refine ⟨?_, ?_, trivial⟩
  ·conv => whnf
   refine WMake.mk ⟨by omega, Int.le_refl _, by omega⟩ fun bi hbi => ?_
   simp only [Int.toNat_natCast]
   rw [hflat]
   have l2 : Mem.le m1 (m1.set bi (Cells (List.replicate O.length ns) 29)) := Mem.le_set hbi
   have cbi := Mem.set_same m1 bi (Cells (List.replicate O.length ns) 29)
   generalize m1.set bi (Cells (List.replicate O.length ns) 29) = m2 at *
   have LB := L1
   have LE_bi := Mem.le.refl m2
   have hbi8 : m8 bi = none ∨ m8 bi = some (Cells (List.replicate O.length ns) 29) := .inl (low m8 m1 LE_u hbi)
   have LE_u := LE_u.trans l2
   have L2 := L1.trans l2
   conv => whnf
   refine ⟨?_, trivial⟩
   conv => whnf
   refine WNew.mk fun b1 hb1 => ?_
   rw [one1]
   have l3 : Mem.le m2 (m2.set b1 (Cells [i (-1)] 3)) := Mem.le_set hb1
   have cb1 := Mem.set_same m2 b1 (Cells [i (-1)] 3)
   generalize m2.set b1 (Cells [i (-1)] 3) = m3 at *
   have LE_b1 := Mem.le.refl m3
   have LE_bi := LE_bi.trans l3
   have LE_u := LE_u.trans l3
   have L3 := L2.trans l3
   conv => whnf
   refine ⟨?_, trivial⟩
   conv => whnf
   have hone : IAt m3 (.slice (some ⟨b1, 0, none⟩) 1 1) [-1] := ⟨some ⟨b1, 0, none⟩, 1, rfl, (fun h => by cases h), fun ad ha => (by cases ha; exact CellsAt.blk (LE_b1 _ _ cb1) fun q v hq => by rw [Nat.zero_add]; exact hq), Nat.le_refl _⟩
   refine WCallG.mk (repeat_ok hone hlO) ?_
   rintro _ m4 ⟨bc, rfl, hbc, cbc, l4⟩
   refine ⟨l4, ?_⟩
   have LC := L3
   have LE_bc := Mem.le.refl m4
   have hbc8 : m8 bc = none := low m8 m3 LE_u hbc
   have LE_bi := LE_bi.trans l4
   have LE_u := LE_u.trans l4
   have LE_b1 := LE_b1.trans l4
   have L4 := L3.trans l4
   conv => whnf
   rw [fillPlan M (a, O.length, ca) (some ⟨bi, 0, none⟩, O.length, O.length) (ah, (hgt E O.length (List.replicate O.length 0)).length, ch) (some ⟨bc, 0, none⟩, O.length, O.length)]
   conv => whnf
   refine ⟨?_, trivial⟩
   conv => whnf
   refine WNew.mk fun p hp => ?_
   have l5 := Mem.le_set (o := Cells (M.cells ++ [.slice a O.length ca, .slice (some ⟨bi, 0, none⟩) O.length O.length, .slice ah (hgt E O.length (List.replicate O.length 0)).length ch, .slice (some ⟨bc, 0, none⟩) O.length O.length]) 132) hp
   have LE_bi := LE_bi.trans l5
   have LE_u := LE_u.trans l5
   have LE_b1 := LE_b1.trans l5
   have LE_bc := LE_bc.trans l5
   have L5 := L4.trans l5
   refine sf_no ?_
   refine ws_n (.val (.pointer (some ⟨p, 0, none⟩))) rfl rfl rfl rfl (fun F h => h) ?_
   refine ws_nil ?_
   refine ws_then ?_
   exact make_tail hm hO hEE hlO hlE hE hM hgood L5 (low _ _ LB hbi) (low _ _ LC hbc) (Mem.set_same _ _ _) (LE_bi _ _ cbi) (LE_bc _ _ cbc) (keepH hu0 hu1 huc hbi8 hbc8 (LE_u)) hHl rfl rfl rfl
  ·conv => whnf
   refine WNew.mk fun b1 hb1 => ?_
   rw [one1]
   have l2 : Mem.le m1 (m1.set b1 (Cells [i (-1)] 3)) := Mem.le_set hb1
   have cb1 := Mem.set_same m1 b1 (Cells [i (-1)] 3)
   generalize m1.set b1 (Cells [i (-1)] 3) = m2 at *
   have LE_b1 := Mem.le.refl m2
   have LE_u := LE_u.trans l2
   have L2 := L1.trans l2
   conv => whnf
   refine ⟨?_, ?_, trivial⟩
   ·conv => whnf
    refine WMake.mk ⟨by omega, Int.le_refl _, by omega⟩ fun bi hbi => ?_
    simp only [Int.toNat_natCast]
    rw [hflat]
    have l3 : Mem.le m2 (m2.set bi (Cells (List.replicate O.length ns) 29)) := Mem.le_set hbi
    have cbi := Mem.set_same m2 bi (Cells (List.replicate O.length ns) 29)
    generalize m2.set bi (Cells (List.replicate O.length ns) 29) = m3 at *
    have LB := L2
    have LE_bi := Mem.le.refl m3
    have hbi8 : m8 bi = none ∨ m8 bi = some (Cells (List.replicate O.length ns) 29) := .inl (low m8 m2 LE_u hbi)
    have LE_u := LE_u.trans l3
    have LE_b1 := LE_b1.trans l3
    have L3 := L2.trans l3
    conv => whnf
    refine ⟨?_, trivial⟩
    conv => whnf
    have hone : IAt m3 (.slice (some ⟨b1, 0, none⟩) 1 1) [-1] := ⟨some ⟨b1, 0, none⟩, 1, rfl, (fun h => by cases h), fun ad ha => (by cases ha; exact CellsAt.blk (LE_b1 _ _ cb1) fun q v hq => by rw [Nat.zero_add]; exact hq), Nat.le_refl _⟩
    refine WCallG.mk (repeat_ok hone hlO) ?_
    rintro _ m4 ⟨bc, rfl, hbc, cbc, l4⟩
    refine ⟨l4, ?_⟩
    have LC := L3
    have LE_bc := Mem.le.refl m4
    have hbc8 : m8 bc = none := low m8 m3 LE_u hbc
    have LE_bi := LE_bi.trans l4
    have LE_u := LE_u.trans l4
    have LE_b1 := LE_b1.trans l4
    have L4 := L3.trans l4
    conv => whnf
    rw [fillPlan M (a, O.length, ca) (some ⟨bi, 0, none⟩, O.length, O.length) (ah, (hgt E O.length (List.replicate O.length 0)).length, ch) (some ⟨bc, 0, none⟩, O.length, O.length)]
    conv => whnf
    refine ⟨?_, trivial⟩
    conv => whnf
    refine WNew.mk fun p hp => ?_
    have l5 := Mem.le_set (o := Cells (M.cells ++ [.slice a O.length ca, .slice (some ⟨bi, 0, none⟩) O.length O.length, .slice ah (hgt E O.length (List.replicate O.length 0)).length ch, .slice (some ⟨bc, 0, none⟩) O.length O.length]) 132) hp
    have LE_bi := LE_bi.trans l5
    have LE_u := LE_u.trans l5
    have LE_b1 := LE_b1.trans l5
    have LE_bc := LE_bc.trans l5
    have L5 := L4.trans l5
    refine sf_no ?_
    refine ws_n (.val (.pointer (some ⟨p, 0, none⟩))) rfl rfl rfl rfl (fun F h => h) ?_
    refine ws_nil ?_
    refine ws_then ?_
    exact make_tail hm hO hEE hlO hlE hE hM hgood L5 (low _ _ LB hbi) (low _ _ LC hbc) (Mem.set_same _ _ _) (LE_bi _ _ cbi) (LE_bc _ _ cbc) (keepH hu0 hu1 huc hbi8 hbc8 (LE_u)) hHl rfl rfl rfl
   ·conv => whnf
    have hone : IAt m2 (.slice (some ⟨b1, 0, none⟩) 1 1) [-1] := ⟨some ⟨b1, 0, none⟩, 1, rfl, (fun h => by cases h), fun ad ha => (by cases ha; exact CellsAt.blk (LE_b1 _ _ cb1) fun q v hq => by rw [Nat.zero_add]; exact hq), Nat.le_refl _⟩
    refine WCallG.mk (repeat_ok hone hlO) ?_
    rintro _ m3 ⟨bc, rfl, hbc, cbc, l3⟩
    refine ⟨l3, ?_⟩
    have LC := L2
    have LE_bc := Mem.le.refl m3
    have hbc8 : m8 bc = none := low m8 m2 LE_u hbc
    have LE_u := LE_u.trans l3
    have LE_b1 := LE_b1.trans l3
    have L3 := L2.trans l3
    conv => whnf
    refine ⟨?_, trivial⟩
    conv => whnf
    refine WMake.mk ⟨by omega, Int.le_refl _, by omega⟩ fun bi hbi => ?_
    simp only [Int.toNat_natCast]
    rw [hflat]
    have l4 : Mem.le m3 (m3.set bi (Cells (List.replicate O.length ns) 29)) := Mem.le_set hbi
    have cbi := Mem.set_same m3 bi (Cells (List.replicate O.length ns) 29)
    generalize m3.set bi (Cells (List.replicate O.length ns) 29) = m4 at *
    have LB := L3
    have LE_bi := Mem.le.refl m4
    have hbi8 : m8 bi = none ∨ m8 bi = some (Cells (List.replicate O.length ns) 29) := .inl (low m8 m3 LE_u hbi)
    have LE_u := LE_u.trans l4
    have LE_b1 := LE_b1.trans l4
    have LE_bc := LE_bc.trans l4
    have L4 := L3.trans l4
    conv => whnf
    rw [fillPlan M (a, O.length, ca) (some ⟨bi, 0, none⟩, O.length, O.length) (ah, (hgt E O.length (List.replicate O.length 0)).length, ch) (some ⟨bc, 0, none⟩, O.length, O.length)]
    conv => whnf
    refine ⟨?_, trivial⟩
    conv => whnf
    refine WNew.mk fun p hp => ?_
    have l5 := Mem.le_set (o := Cells (M.cells ++ [.slice a O.length ca, .slice (some ⟨bi, 0, none⟩) O.length O.length, .slice ah (hgt E O.length (List.replicate O.length 0)).length ch, .slice (some ⟨bc, 0, none⟩) O.length O.length]) 132) hp
    have LE_bi := LE_bi.trans l5
    have LE_u := LE_u.trans l5
    have LE_b1 := LE_b1.trans l5
    have LE_bc := LE_bc.trans l5
    have L5 := L4.trans l5
    refine sf_no ?_
    refine ws_n (.val (.pointer (some ⟨p, 0, none⟩))) rfl rfl rfl rfl (fun F h => h) ?_
    refine ws_nil ?_
    refine ws_then ?_
    exact make_tail hm hO hEE hlO hlE hE hM hgood L5 (low _ _ LB hbi) (low _ _ LC hbc) (Mem.set_same _ _ _) (LE_bi _ _ cbi) (LE_bc _ _ cbc) (keepH hu0 hu1 huc hbi8 hbc8 (LE_u)) hHl rfl rfl rfl
 ·conv => whnf
  refine WNew.mk fun b1 hb1 => ?_
  rw [one1]
  have l1 : Mem.le m0 (m0.set b1 (Cells [i (-1)] 3)) := Mem.le_set hb1
  have cb1 := Mem.set_same m0 b1 (Cells [i (-1)] 3)
  generalize m0.set b1 (Cells [i (-1)] 3) = m1 at *
  have LE_b1 := Mem.le.refl m1
  have L1 := l1
  conv => whnf
  refine ⟨?_, ?_, trivial⟩
  ·conv => whnf
   refine WMake.mk ⟨by omega, Int.le_refl _, by omega⟩ fun bi hbi => ?_
   simp only [Int.toNat_natCast]
   rw [hflat]
   have l2 : Mem.le m1 (m1.set bi (Cells (List.replicate O.length ns) 29)) := Mem.le_set hbi
   have cbi := Mem.set_same m1 bi (Cells (List.replicate O.length ns) 29)
   generalize m1.set bi (Cells (List.replicate O.length ns) 29) = m2 at *
   have LB := L1
   have LE_bi := Mem.le.refl m2
   have LE_b1 := LE_b1.trans l2
   have L2 := L1.trans l2
   conv => whnf
   refine ⟨?_, trivial⟩
   conv => whnf
   refine WCallG.mk (up_ok (hEE.mono (L2)) (by omega) (by omega) hE hlE) ?_
   rintro _ m8 ⟨_, rfl, l8, ⟨ah, ch, rfl, hu0, hu1, huc⟩⟩
   refine ⟨l8, ?_⟩
   have l3 := l8
   have hm8 : ∃ m3, m3 = m8 := ⟨_, rfl⟩
   obtain ⟨m3, hm8⟩ := hm8
   rw [← hm8] at l3 ⊢
   have LE_u : Mem.le m8 m3 := by rw [hm8]; exact Mem.le.refl _
   have hbi8 : m8 bi = none ∨ m8 bi = some (Cells (List.replicate O.length ns) 29) := .inr (l8 _ _ (LE_bi _ _ cbi))
   have LE_bi := LE_bi.trans l3
   have LE_b1 := LE_b1.trans l3
   have L3 := L2.trans l3
   conv => whnf
   refine ⟨?_, trivial⟩
   conv => whnf
   have hone : IAt m3 (.slice (some ⟨b1, 0, none⟩) 1 1) [-1] := ⟨some ⟨b1, 0, none⟩, 1, rfl, (fun h => by cases h), fun ad ha => (by cases ha; exact CellsAt.blk (LE_b1 _ _ cb1) fun q v hq => by rw [Nat.zero_add]; exact hq), Nat.le_refl _⟩
   refine WCallG.mk (repeat_ok hone hlO) ?_
   rintro _ m4 ⟨bc, rfl, hbc, cbc, l4⟩
   refine ⟨l4, ?_⟩
   have LC := L3
   have LE_bc := Mem.le.refl m4
   have hbc8 : m8 bc = none := low m8 m3 LE_u hbc
   have LE_bi := LE_bi.trans l4
   have LE_u := LE_u.trans l4
   have LE_b1 := LE_b1.trans l4
   have L4 := L3.trans l4
   conv => whnf
   rw [fillPlan M (a, O.length, ca) (some ⟨bi, 0, none⟩, O.length, O.length) (ah, (hgt E O.length (List.replicate O.length 0)).length, ch) (some ⟨bc, 0, none⟩, O.length, O.length)]
   conv => whnf
   refine ⟨?_, trivial⟩
   conv => whnf
   refine WNew.mk fun p hp => ?_
   have l5 := Mem.le_set (o := Cells (M.cells ++ [.slice a O.length ca, .slice (some ⟨bi, 0, none⟩) O.length O.length, .slice ah (hgt E O.length (List.replicate O.length 0)).length ch, .slice (some ⟨bc, 0, none⟩) O.length O.length]) 132) hp
   have LE_bi := LE_bi.trans l5
   have LE_u := LE_u.trans l5
   have LE_b1 := LE_b1.trans l5
   have LE_bc := LE_bc.trans l5
   have L5 := L4.trans l5
   refine sf_no ?_
   refine ws_n (.val (.pointer (some ⟨p, 0, none⟩))) rfl rfl rfl rfl (fun F h => h) ?_
   refine ws_nil ?_
   refine ws_then ?_
   exact make_tail hm hO hEE hlO hlE hE hM hgood L5 (low _ _ LB hbi) (low _ _ LC hbc) (Mem.set_same _ _ _) (LE_bi _ _ cbi) (LE_bc _ _ cbc) (keepH hu0 hu1 huc hbi8 hbc8 (LE_u)) hHl rfl rfl rfl
  ·conv => whnf
   refine WCallG.mk (up_ok (hEE.mono (L1)) (by omega) (by omega) hE hlE) ?_
   rintro _ m8 ⟨_, rfl, l8, ⟨ah, ch, rfl, hu0, hu1, huc⟩⟩
   refine ⟨l8, ?_⟩
   have l2 := l8
   have hm8 : ∃ m2, m2 = m8 := ⟨_, rfl⟩
   obtain ⟨m2, hm8⟩ := hm8
   rw [← hm8] at l2 ⊢
   have LE_u : Mem.le m8 m2 := by rw [hm8]; exact Mem.le.refl _
   have LE_b1 := LE_b1.trans l2
   have L2 := L1.trans l2
   conv => whnf
   refine ⟨?_, ?_, trivial⟩
   ·conv => whnf
    refine WMake.mk ⟨by omega, Int.le_refl _, by omega⟩ fun bi hbi => ?_
    simp only [Int.toNat_natCast]
    rw [hflat]
    have l3 : Mem.le m2 (m2.set bi (Cells (List.replicate O.length ns) 29)) := Mem.le_set hbi
    have cbi := Mem.set_same m2 bi (Cells (List.replicate O.length ns) 29)
    generalize m2.set bi (Cells (List.replicate O.length ns) 29) = m3 at *
    have LB := L2
    have LE_bi := Mem.le.refl m3
    have hbi8 : m8 bi = none ∨ m8 bi = some (Cells (List.replicate O.length ns) 29) := .inl (low m8 m2 LE_u hbi)
    have LE_u := LE_u.trans l3
    have LE_b1 := LE_b1.trans l3
    have L3 := L2.trans l3
    conv => whnf
    refine ⟨?_, trivial⟩
    conv => whnf
    have hone : IAt m3 (.slice (some ⟨b1, 0, none⟩) 1 1) [-1] := ⟨some ⟨b1, 0, none⟩, 1, rfl, (fun h => by cases h), fun ad ha => (by cases ha; exact CellsAt.blk (LE_b1 _ _ cb1) fun q v hq => by rw [Nat.zero_add]; exact hq), Nat.le_refl _⟩
    refine WCallG.mk (repeat_ok hone hlO) ?_
    rintro _ m4 ⟨bc, rfl, hbc, cbc, l4⟩
    refine ⟨l4, ?_⟩
    have LC := L3
    have LE_bc := Mem.le.refl m4
    have hbc8 : m8 bc = none := low m8 m3 LE_u hbc
    have LE_bi := LE_bi.trans l4
    have LE_u := LE_u.trans l4
    have LE_b1 := LE_b1.trans l4
    have L4 := L3.trans l4
    conv => whnf
    rw [fillPlan M (a, O.length, ca) (some ⟨bi, 0, none⟩, O.length, O.length) (ah, (hgt E O.length (List.replicate O.length 0)).length, ch) (some ⟨bc, 0, none⟩, O.length, O.length)]
    conv => whnf
    refine ⟨?_, trivial⟩
    conv => whnf
    refine WNew.mk fun p hp => ?_
    have l5 := Mem.le_set (o := Cells (M.cells ++ [.slice a O.length ca, .slice (some ⟨bi, 0, none⟩) O.length O.length, .slice ah (hgt E O.length (List.replicate O.length 0)).length ch, .slice (some ⟨bc, 0, none⟩) O.length O.length]) 132) hp
    have LE_bi := LE_bi.trans l5
    have LE_u := LE_u.trans l5
    have LE_b1 := LE_b1.trans l5
    have LE_bc := LE_bc.trans l5
    have L5 := L4.trans l5
    refine sf_no ?_
    refine ws_n (.val (.pointer (some ⟨p, 0, none⟩))) rfl rfl rfl rfl (fun F h => h) ?_
    refine ws_nil ?_
    refine ws_then ?_
    exact make_tail hm hO hEE hlO hlE hE hM hgood L5 (low _ _ LB hbi) (low _ _ LC hbc) (Mem.set_same _ _ _) (LE_bi _ _ cbi) (LE_bc _ _ cbc) (keepH hu0 hu1 huc hbi8 hbc8 (LE_u)) hHl rfl rfl rfl
   ·conv => whnf
    have hone : IAt m2 (.slice (some ⟨b1, 0, none⟩) 1 1) [-1] := ⟨some ⟨b1, 0, none⟩, 1, rfl, (fun h => by cases h), fun ad ha => (by cases ha; exact CellsAt.blk (LE_b1 _ _ cb1) fun q v hq => by rw [Nat.zero_add]; exact hq), Nat.le_refl _⟩
    refine WCallG.mk (repeat_ok hone hlO) ?_
    rintro _ m3 ⟨bc, rfl, hbc, cbc, l3⟩
    refine ⟨l3, ?_⟩
    have LC := L2
    have LE_bc := Mem.le.refl m3
    have hbc8 : m8 bc = none := low m8 m2 LE_u hbc
    have LE_u := LE_u.trans l3
    have LE_b1 := LE_b1.trans l3
    have L3 := L2.trans l3
    conv => whnf
    refine ⟨?_, trivial⟩
    conv => whnf
    refine WMake.mk ⟨by omega, Int.le_refl _, by omega⟩ fun bi hbi => ?_
    simp only [Int.toNat_natCast]
    rw [hflat]
    have l4 : Mem.le m3 (m3.set bi (Cells (List.replicate O.length ns) 29)) := Mem.le_set hbi
    have cbi := Mem.set_same m3 bi (Cells (List.replicate O.length ns) 29)
    generalize m3.set bi (Cells (List.replicate O.length ns) 29) = m4 at *
    have LB := L3
    have LE_bi := Mem.le.refl m4
    have hbi8 : m8 bi = none ∨ m8 bi = some (Cells (List.replicate O.length ns) 29) := .inl (low m8 m3 LE_u hbi)
    have LE_u := LE_u.trans l4
    have LE_b1 := LE_b1.trans l4
    have LE_bc := LE_bc.trans l4
    have L4 := L3.trans l4
    conv => whnf
    rw [fillPlan M (a, O.length, ca) (some ⟨bi, 0, none⟩, O.length, O.length) (ah, (hgt E O.length (List.replicate O.length 0)).length, ch) (some ⟨bc, 0, none⟩, O.length, O.length)]
    conv => whnf
    refine ⟨?_, trivial⟩
    conv => whnf
    refine WNew.mk fun p hp => ?_
    have l5 := Mem.le_set (o := Cells (M.cells ++ [.slice a O.length ca, .slice (some ⟨bi, 0, none⟩) O.length O.length, .slice ah (hgt E O.length (List.replicate O.length 0)).length ch, .slice (some ⟨bc, 0, none⟩) O.length O.length]) 132) hp
    have LE_bi := LE_bi.trans l5
    have LE_u := LE_u.trans l5
    have LE_b1 := LE_b1.trans l5
    have LE_bc := LE_bc.trans l5
    have L5 := L4.trans l5
    refine sf_no ?_
    refine ws_n (.val (.pointer (some ⟨p, 0, none⟩))) rfl rfl rfl rfl (fun F h => h) ?_
    refine ws_nil ?_
    refine ws_then ?_
    exact make_tail hm hO hEE hlO hlE hE hM hgood L5 (low _ _ LB hbi) (low _ _ LC hbc) (Mem.set_same _ _ _) (LE_bi _ _ cbi) (LE_bc _ _ cbc) (keepH hu0 hu1 huc hbi8 hbc8 (LE_u)) hHl rfl rfl rfl
end Go.Proofs.YtmnagbhllnlelaaGreatDoor
