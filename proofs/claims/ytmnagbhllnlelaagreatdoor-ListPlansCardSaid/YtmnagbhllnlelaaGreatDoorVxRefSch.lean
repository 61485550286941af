/- Contract of the reference's List (layer 21): it returns a schedule in the sense of ListN. -/
import Derived.Test.YtmnagbhllnlelaaGreatDoorVxPlanCode
import Derived.Test.YtmnagbhllnlelaaGreatDoorVxPush
set_option linter.unusedSimpArgs false
set_option linter.unusedVariables false
set_option maxRecDepth 100000
namespace Go.Proofs.YtmnagbhllnlelaaGreatDoor
open Go Go.Vx
open Go.Vx.IOp Go.Vx.IR Go.Vx.Opd
/-- How many places have no cycle yet. -/
def leftN (cyc : List Int) (n : Nat) : Nat := Walk.cnt (fun j => decide (cyc.getD j 0 < 0)) n
def noneC (n : Nat) : List Int := List.replicate n (-1)
theorem cnt_one {p q : Nat → Bool} {k : Nat} (h : ∀ j, j ≠ k → q j = p j) (h1 : p k = true) (h2 : q k = false) : ∀ n, k < n → Walk.cnt q n + 1 = Walk.cnt p n
 | 0, hn => absurd hn (Nat.not_lt_zero _)
 | n + 1, hn => by
  simp only [Walk.cnt]
  by_cases e : k = n
  ·subst e
   rw [h1, h2]
   have : ∀ m, m ≤ k → Walk.cnt q m = Walk.cnt p m := fun m => by
    induction m with
    | zero => intro _; rfl
    | succ m ih => intro hm; simp only [Walk.cnt]; rw [ih (by omega), h m (by omega)]
   rw [this k (Nat.le_refl _)]; rfl
  ·have := cnt_one h h1 h2 n (by omega)
   rw [h n (by omega)]; omega
theorem cnt_none {p : Nat → Bool} : ∀ {n : Nat}, (∀ j, j < n → p j = false) → Walk.cnt p n = 0
 | 0, _ => rfl
 | n + 1, h => by simp only [Walk.cnt]; rw [cnt_none fun j hj => h j (by omega), h n (by omega)]; rfl
theorem leftN_zero {cyc : List Int} {n : Nat} (h : leftN cyc n = 0) : ∀ j, j < n → 0 ≤ cyc.getD j 0 := fun j hj => by
 have := Walk.cnt_zero h j hj
 simp only [decide_eq_false_iff_not] at this
 omega
theorem leftN_pos {cyc : List Int} {n : Nat} (h : 0 < leftN cyc n) : ∃ j, j < n ∧ cyc.getD j 0 < 0 := by
 apply Classical.byContradiction
 intro hn
 have : leftN cyc n = 0 := cnt_none fun j hj => by
  rw [decide_eq_false_iff_not]; exact fun hh => hn ⟨j, hj, hh⟩
 omega
theorem leftN_set {cyc : List Int} {n b : Nat} {c : Int} (hb : b < n) (hl : cyc.length = n) (hc : 0 ≤ c) (hn : cyc.getD b 0 < 0) : leftN (cyc.set b c) n + 1 = leftN cyc n := by
 refine cnt_one (k := b) (fun j hj => ?_) (decide_eq_true hn) ?_ n hb
 ·rw [getD_set (by omega), if_neg hj]
 ·rw [getD_set (by omega), if_pos rfl]; exact decide_eq_false (by omega)
theorem leftN_none {n : Nat} : leftN (noneC n) n = n := by
 have : ∀ k, k ≤ n → Walk.cnt (fun j => decide ((noneC n).getD j 0 < 0)) k = k := fun k => by
  induction k with
  | zero => intro _; rfl
  | succ k ih =>
   intro hk
   simp only [Walk.cnt]
   rw [ih (by omega)]
   have : (noneC n).getD k 0 = -1 := by
    unfold noneC; rw [List.getD_eq_getElem?_getD, List.getElem?_replicate, if_pos (by omega)]; rfl
   rw [if_pos (decide_eq_true (by omega))]
 exact this n (Nat.le_refl _)
theorem ws_alt {P : Program} {l : List E} {j : Nat} {r : RT} {K : Env → Mem → Prop} {X : List PanicEntry → Mem → Prop} {e : Env} {m : Mem} (h : treeI P l K X (.pure j r) e m) : treeI P l K X (.alt j r .done) e m := ⟨h, trivial⟩
theorem bestS_yes {cand : Nat → Bool} {H : List Int} {k : Nat} {B : Int} (h : bestS cand H k = B) (h1 : cand k = true) (h2 : B < 0 ∨ H.getD k 0 > H.getD B.toNat 0) : bestS cand H (k + 1) = k := by
 subst h
 rw [bestS_succ]; unfold stepB; rw [h1, if_pos]
 simpa using h2
theorem bestS_no {cand : Nat → Bool} {H : List Int} {k : Nat} {B : Int} (h : bestS cand H k = B) (h1 : cand k = false ∨ ¬ (B < 0 ∨ H.getD k 0 > H.getD B.toNat 0)) : bestS cand H (k + 1) = B := by
 subst h
 rw [bestS_succ]; unfold stepB; rw [if_neg]
 rcases h1 with h | h
 ·rw [h]; simp
 ·intro hh
  rw [Bool.and_eq_true, Bool.or_eq_true, decide_eq_true_eq, decide_eq_true_eq] at hh
  exact h hh.2
theorem refList_ok {m : Mem} {v u : Value} (M : Mac) {O : List OpR} {E : List Edg} (hO : OAt m v O) (hv : EAt m u E) (hlO : O.length ≤ 400) (hlE : E.length ≤ 200000) (hM : M.ok = true) (hgood : ∀ o ∈ O, badOp M o = false) (hE : ∀ e ∈ E, Fwd O.length e) (hcode : edgeCode O.length E = 0) :
  CallsM Tryz.prog 31 [M.val, v, u] m fun e m' => ∃ w z, e = .returned w ∧ Mem.le m m' ∧ IAt m' w z ∧ Sch M O E (hgt E O.length (List.replicate O.length 0)) 0 (noneC O.length) z := by
 have hsl : ∃ a c, v = .slice a O.length c := by obtain ⟨a, c, e, _⟩ := hO; exact ⟨a, c, e⟩
 obtain ⟨a, ca, rfl⟩ := hsl
 have hsl2 : ∃ a c, u = .slice a E.length c := by obtain ⟨a, c, e, _⟩ := hv; exact ⟨a, c, e⟩
 obtain ⟨a2, c2, rfl⟩ := hsl2
 have hH : (heightsS O.length E).1 = hgt E O.length (List.replicate O.length 0) := by
  unfold edgeCode at hcode
  unfold heightsS
  rw [if_neg (by omega)] at hcode ⊢
  rw [if_neg (by omega)] at hcode ⊢
  rw [if_neg (by rw [hcode]; simp)]
  simp
 refine calls_of mixed Tryz.func31 ok_biremeref21_List rfl ?_
 conv => whnf
 refine WCall.mk (refHeights_ok hv (by omega) O.length) ?_
 rintro _ m1 ⟨vh, rfl, hle1, hh⟩
 rw [hH] at hh
 have hHl := (zeros_law hE).1.1
 generalize hgt E O.length (List.replicate O.length 0) = H at *
 obtain ⟨ah, ch, rfl, hh0, hh1, hhc⟩ := hh
 have hle1' := hle1
 conv => whnf
 refine WMake.mk ⟨by omega, Int.le_refl _, by omega⟩ fun b hb => ?_
 simp only [Int.toNat_natCast]
 rw [mkZeros]
 have hb0 := hb
 have hbm : m b = none := by
  cases hh2 : m b with
  | none => rfl
  | some o => rw [hle1 b o hh2] at hb; cases hb
 have hle2 : Mem.le m1 (m1.set b (Cells ((List.replicate O.length (0 : Int)).map i) 3)) := Mem.le_set hb
 have hcell2 := Mem.set_same m1 b (Cells ((List.replicate O.length (0 : Int)).map i) 3)
 generalize m1.set b (Cells ((List.replicate O.length (0 : Int)).map i) 3) = m2 at *
 conv => whnf
 refine WLoop.mk (Nat × List Int) (fun s => [(10, .val (i s.1))]) (fun s m' => Mem.le m1 m' ∧ m' b = some (Cells (s.2.map i) 3) ∧ s.1 ≤ O.length ∧ s.2.length = O.length ∧ ∀ j, j < s.1 → s.2.getD j 0 = -1) (fun s => O.length - s.1) (0, List.replicate O.length 0) ⟨rfl, trivial⟩ ⟨hle2, hcell2, Nat.zero_le _, by simp, fun j hj => absurd hj (Nat.not_lt_zero _)⟩ ?_
 rintro ⟨k, cyc⟩ m3 ⟨g1, g2, g3, g4, g5⟩
 simp only at g2 g3 g4 g5
 conv => whnf
 refine Br.mk (fun hb2 => ?_) (fun hb2 => ?_)
 ·have hk : k < O.length := by
   have : (k : Int) < O.length := of_decide_eq_true hb2
   omega
  conv => whnf
  refine WIdx.mk ⟨b, 0, none⟩ rfl ⟨by omega, by show (k : Int) < _; omega⟩ ?_
  conv => whnf
  refine WSt.mk (cyc.map i) 3 ?_ ?_ ?_ ?_
  ·rw [add0]; exact g2
  ·rw [add0]
  ·rw [add0]
   show _ * 1 + 1 ≤ (cyc.map i).length
   rw [List.length_map]; simp only [Int.toNat_natCast]; omega
  simp only [add0]
  conv => whnf
  refine WRng.mk (by apply wrap_i64 <;> omega) ?_
  conv => whnf
  refine ⟨(k + 1, cyc.set k (-1)), ⟨rfl, trivial⟩, ⟨le_setn g1 hb, ?_, hk, by simp [g4], fun j hj => ?_⟩, by simp only; omega⟩
  ·rw [Mem.set_same]
   show some (Cells ((cyc.map i).set _ _) 3) = _
   rw [Nat.mul_one, List.map_set]; rfl
  ·show (cyc.set k (-1)).getD j 0 = -1
   rw [getD_set (by omega)]
   by_cases e : j = k
   ·rw [if_pos e]
   ·rw [if_neg e]; exact g5 j (by simp only at hj; omega)
 ·have hk : k = O.length := by
   have : ¬ (k : Int) < O.length := of_decide_eq_false hb2
   omega
  subst hk
  have hcyc : cyc = noneC O.length := by
   refine List.ext_getElem (by rw [g4]; simp [noneC]) fun j h1 h2 => ?_
   have h3 := g5 j (by omega)
   rw [List.getD_eq_getElem?_getD, List.getElem?_eq_getElem h1] at h3
   simp only [noneC, List.getElem_replicate]
   exact h3
  rw [hcyc] at g2
  clear hcyc g5 g4
  have hnn : (noneC O.length).length = O.length := by simp [noneC]
  conv => whnf
  refine WLoop.mk (Nat × Nat × List Int) (fun s => [(11, .val (i (leftN s.2.2 O.length))), (12, .val (i s.1))]) (fun s m' => Mem.le m1 m' ∧ m' b = some (Cells (s.2.2.map i) 3) ∧ s.2.2.length = O.length ∧ (∀ z, Sch M O E H s.1 s.2.2 z → Sch M O E H 0 (noneC O.length) z) ∧ s.2.1 ≤ 7 ∧ (∀ j, j < O.length → -1 ≤ s.2.2.getD j 0 ∧ s.2.2.getD j 0 + s.2.1 + 1 ≤ s.1) ∧ s.1 + 8 * leftN s.2.2 O.length ≤ 8 * O.length + s.2.1) (fun s => 8 * leftN s.2.2 O.length + (7 - s.2.1)) (0, 0, noneC O.length) ⟨by rw [leftN_none]; rfl, rfl, trivial⟩ ⟨g1, g2, hnn, fun z h => h, Nat.zero_le _, fun j hj => ?_, by simp only [leftN_none]; omega⟩ ?_
  ·have : (noneC O.length).getD j 0 = -1 := by
    unfold noneC; rw [List.getD_eq_getElem?_getD, List.getElem?_replicate, if_pos (by omega)]; rfl
   simp only; rw [this]; omega
  rintro ⟨c, gap, cyc⟩ m4 ⟨q1, q2, q3, q4, q5, q6, q7⟩
  simp only at q2 q3 q4 q5 q6 q7
  conv => whnf
  refine Br.mk (fun hb => ?_) (fun hb => ?_)
  ·conv => whnf
   have hc1 : (c : Int) < 10000 := by omega
   refine WLoop.mk (Bool × List Int) (fun s => [(11, .val (i (leftN s.2 O.length))), (13, .val (.bool s.1))]) (fun s m' => Mem.le m1 m' ∧ m' b = some (Cells (s.2.map i) 3) ∧ s.2.length = O.length ∧ (∀ z, Gr M O E H c s.2 z → Gr M O E H c cyc z) ∧ (∀ j, s.2.getD j 0 = cyc.getD j 0 ∨ (cyc.getD j 0 < 0 ∧ s.2.getD j 0 = c)) ∧ (s.1 = false → bestR M O E H s.2 c = -1) ∧ (s.2 = cyc ∨ leftN s.2 O.length < leftN cyc O.length)) (fun s => 2 * leftN s.2 O.length + (if s.1 = true then 1 else 0)) (true, cyc) ⟨rfl, rfl, trivial⟩ ⟨q1, q2, q3, fun z h => h, fun j => .inl rfl, (fun h => by cases h), .inl rfl⟩ ?_
   rintro ⟨ag, cy⟩ m5 ⟨p1, p2, p3, p4, p5, p6, p7⟩
   simp only at p2 p3 p4 p5 p6 p7
   have hcr : ∀ j, j < O.length → -1 ≤ cy.getD j 0 ∧ cy.getD j 0 ≤ c := fun j hj => by
    have := q6 j hj
    rcases p5 j with h | ⟨_, h⟩ <;> rw [h] <;> omega
   conv => whnf
   refine Br.mk (fun hag => ?_) (fun hag => ?_)
   ·have hag2 : ag = true := hag
    conv => whnf
    refine WLoop.mk Nat (fun k => [(14, .val (i (bestS (candR M O E cy c) H k))), (15, .val (i k))]) (fun k m' => Mem.le m1 m' ∧ m' b = some (Cells (cy.map i) 3) ∧ k ≤ O.length) (fun k => O.length - k) 0 ⟨rfl, rfl, trivial⟩ ⟨p1, p2, Nat.zero_le _⟩ ?_
    rintro k m6 ⟨r1, r2, r3⟩
    conv => whnf
    refine Br.mk (fun hk0 => ?_) (fun hk0 => ?_)
    ·have hk : k < O.length := by
      have : (k : Int) < O.length := of_decide_eq_true hk0
      omega
     have hcell : CellAt m6 ((⟨b, 0, none⟩ : Addr).add (((k : Int)).toNat * 1)) (i (cy.getD k 0)) := by
      rw [add0]
      refine ⟨_, _, _, r2, rfl, ?_⟩
      rw [List.getD_eq_getElem?_getD, List.getElem?_eq_getElem (by omega)]
      simp [show k < cy.length by omega]
     have hcyI : IAt m6 (.slice (some ⟨b, 0, none⟩) O.length O.length) cy := ⟨some ⟨b, 0, none⟩, O.length, by rw [p3], (fun h => by cases h), fun ad ha => (by cases ha; exact CellsAt.blk r2 fun q v hq => by rw [Nat.zero_add]; exact hq), by omega⟩
     have hcyR : ∀ x ∈ cy, -1 ≤ x ∧ x ≤ 1099511627776 := fun x hx => by
      obtain ⟨j, hj, rfl⟩ := List.getElem_of_mem hx
      have := hcr j (by omega)
      rw [List.getD_eq_getElem?_getD, List.getElem?_eq_getElem hj] at this
      simp only [Option.getD_some] at this
      omega
     have hfwd : ∀ e ∈ E, Fwd cy.length e := by rw [p3]; exact hE
     have hcyk : cy.getD k 0 ≠ c ∨ 0 ≤ cy.getD k 0 := by
      by_cases h : cy.getD k 0 = c
      ·exact .inr (by omega)
      ·exact .inl h
     have hyes : decide (cy.getD k 0 < 0) = true → readyE E cy k c = true → fitsS (usesAll M (selS O cy c k O.length)) = true → candR M O E cy c k = true := fun h1 h2 h3 => by
      have hne : cy.getD k 0 ≠ c := by
       have : cy.getD k 0 < 0 := of_decide_eq_true h1
       omega
      rw [sel_uses hk hne] at h3
      unfold candR rdyB; rw [h1, h2, h3]; rfl
     have hnof : fitsS (usesAll M (selS O cy c k O.length)) = false → candR M O E cy c k = false := fun h3 => by
      cases h1 : decide (cy.getD k 0 < 0) with
      | false => unfold candR rdyB; rw [h1]; rfl
      | true =>
       have hne : cy.getD k 0 ≠ c := by
        have : cy.getD k 0 < 0 := of_decide_eq_true h1
        omega
       rw [sel_uses hk hne] at h3
       unfold candR rdyB; rw [h3, Bool.and_false]
     have hnor : readyE E cy k c = false → candR M O E cy c k = false := fun h => by
      unfold candR rdyB; rw [h, Bool.and_false]; rfl
     have hnon : decide (cy.getD k 0 < 0) = false → candR M O E cy c k = false := fun h => by
      unfold candR rdyB; rw [h]; rfl
     have hBis := bestS_is (candR M O E cy c) H k
     generalize hB : bestS (candR M O E cy c) H k = B at *
     conv => whnf
     refine WIdx.mk ⟨b, 0, none⟩ rfl ⟨by omega, by show (k : Int) < _; omega⟩ ?_
     conv => whnf
     refine WLd.mk (i (cy.getD k 0)) hcell ?_
     conv => whnf
     refine Br.mk (fun hn => ?_) (fun hn => ?_)
     ·refine ws_g (.val (.slice a2 E.length c2)) rfl rfl rfl rfl rfl (fun F h => h) ?_
      refine ws_g (.val (.slice (some ⟨b, 0, none⟩) O.length O.length)) rfl rfl rfl rfl rfl (fun F h => h) ?_
      refine ws_g (.val (i k)) rfl rfl rfl rfl rfl (fun F h => h) ?_
      refine ws_g (.val (i c)) rfl rfl rfl rfl rfl (fun F h => h) ?_
      refine ws_alt ?_
      refine ws_gv rfl rfl rfl ?_
      conv => whnf
      refine WCallG.pure (refReady_ok ((hv.mono hle1).mono r1) hcyI (by omega) hfwd hcyR (k : Int) (c : Int)) ?_
      refine sf_no ?_
      refine ws_step rfl ?_
      conv => whnf
      refine Br.mk (fun _ => ?_) (fun h => by cases h)
      refine sf_no ?_
      refine ws_step rfl ?_
      conv => whnf
      refine Br.mk (fun hr => ?_) (fun hr => ?_)
      ·refine ws_g (.val (i B)) rfl rfl rfl rfl rfl (fun F h => h) ?_
       refine ws_g (.val (.bool (decide (B < 0)))) rfl rfl rfl rfl rfl (fun F h => h) ?_
       refine ws_gv rfl rfl rfl ?_
       conv => whnf
       refine Br.mk (fun hneg => ?_) (fun hneg => ?_)
       ·have hdec : B < 0 ∨ H.getD k 0 > H.getD B.toNat 0 := .inl (of_decide_eq_true hneg)
        conv => whnf
        refine Br.mk (fun _ => ?_) (fun h => by cases h)
        conv => whnf
        refine Br.mk (fun _ => ?_) (fun h => by cases h)
        conv => whnf
        refine Br.mk (fun _ => ?_) (fun h => by cases h)
        refine ws_g (.val M.val) rfl rfl rfl rfl rfl (fun F h => h) ?_
        refine ws_g (.val (.slice a O.length ca)) rfl rfl rfl rfl rfl (fun F h => h) ?_
        refine ws_g (.val (.slice (some ⟨b, 0, none⟩) O.length O.length)) rfl rfl rfl rfl rfl (fun F h => h) ?_
        refine ws_g (.val (i c)) rfl rfl rfl rfl rfl (fun F h => h) ?_
        refine ws_g (.val (i k)) rfl rfl rfl rfl rfl (fun F h => h) ?_
        refine ws_alt ?_
        refine ws_gv rfl rfl rfl ?_
        conv => whnf
        refine WCallG.mk (refFit_ok M ((hO.mono hle1').mono r1) hcyI hlO (by omega) hM hgood (c : Int) (k : Int)) ?_
        rintro _ m7 ⟨rfl, hle7⟩
        refine ⟨hle7, ?_⟩
        refine sf_no ?_
        refine ws_step rfl ?_
        conv => whnf
        refine Br.mk (fun _ => ?_) (fun h => by cases h)
        conv => whnf
        refine Br.mk (fun hf => ?_) (fun hf => ?_)
        ·conv => whnf
         refine WRng.mk (by apply wrap_i64 <;> omega) ?_
         conv => whnf
         exact ⟨k + 1, ⟨by rw [bestS_yes hB (hyes hn hr hf) hdec]; rfl, rfl, trivial⟩, ⟨r1.trans hle7, hle7 _ _ r2, hk⟩, by omega⟩
        ·conv => whnf
         refine WRng.mk (by apply wrap_i64 <;> omega) ?_
         conv => whnf
         exact ⟨k + 1, ⟨by rw [bestS_no hB (.inl (hnof hf))]; rfl, rfl, trivial⟩, ⟨r1.trans hle7, hle7 _ _ r2, hk⟩, by omega⟩
       ·have hB0 : 0 ≤ B := by
         have : ¬ B < 0 := of_decide_eq_false hneg
         omega
        obtain ⟨q, hq, hqB⟩ : ∃ q, q < k ∧ B = (q : Int) := by
         rcases hBis with ⟨h, _⟩ | ⟨q, h1, h2, _⟩
         ·omega
         ·exact ⟨q, h1, h2⟩
        have hHc : ∀ j, j < O.length → ∃ ad, ah = some ad ∧ CellAt m6 (ad.add j) (i (H.getD j 0)) := fun j hj => by
         cases ah with
         | none => rw [hh0 rfl] at hHl; simp at hHl; omega
         | some ad =>
          refine ⟨ad, rfl, ?_⟩
          have hj2 : j < H.length := by omega
          have hg : H.getD j 0 = H[j] := by rw [List.getD_eq_getElem?_getD, List.getElem?_eq_getElem hj2]; rfl
          rw [hg]; exact (IAt.cell (hh1 ad rfl) hj2).mono r1
        obtain ⟨adh, rfl, hHk⟩ := hHc k hk
        obtain ⟨adh2, e2, hHq⟩ := hHc q (by omega)
        cases e2
        refine ws_g (.val (.slice (some adh) H.length ch)) rfl rfl rfl rfl rfl (fun F h => h) ?_
        refine ws_g (.val (i k)) rfl rfl rfl rfl rfl (fun F h => h) ?_
        refine ws_gv rfl rfl rfl ?_
        conv => whnf
        refine WIdx.mk adh rfl ⟨by omega, by show (k : Int) < _; omega⟩ ?_
        refine sf_no ?_
        refine ws_gv rfl rfl rfl ?_
        conv => whnf
        refine WLd.mk (i (H.getD k 0)) (by simpa using hHk) ?_
        refine sf_no ?_
        refine ws_g (.val (.slice (some adh) H.length ch)) rfl rfl rfl rfl rfl (fun F h => h) ?_
        refine ws_g (.val (i B)) rfl rfl rfl rfl rfl (fun F h => h) ?_
        refine ws_gv rfl rfl rfl ?_
        conv => whnf
        refine WIdx.mk adh rfl ⟨by omega, by show B < _; omega⟩ ?_
        refine sf_no ?_
        refine ws_gv rfl rfl rfl ?_
        conv => whnf
        refine WLd.mk (i (H.getD B.toNat 0)) (by rw [hqB]; simpa using hHq) ?_
        refine sf_no ?_
        refine ws_g (.val (.bool (decide (H.getD k 0 > H.getD B.toNat 0)))) rfl rfl rfl rfl rfl (fun F h => h) ?_
        refine ws_gv rfl rfl rfl ?_
        conv => whnf
        refine Br.mk (fun h => by cases h) (fun _ => ?_)
        refine sf_no ?_
        refine ws_step rfl ?_
        conv => whnf
        refine Br.mk (fun _ => ?_) (fun h => by cases h)
        conv => whnf
        refine Br.mk (fun hgt => ?_) (fun hgt => ?_)
        ·have hdec : B < 0 ∨ H.getD k 0 > H.getD B.toNat 0 := .inr (of_decide_eq_true hgt)
         refine ws_g (.val M.val) rfl rfl rfl rfl rfl (fun F h => h) ?_
         refine ws_g (.val (.slice a O.length ca)) rfl rfl rfl rfl rfl (fun F h => h) ?_
         refine ws_g (.val (.slice (some ⟨b, 0, none⟩) O.length O.length)) rfl rfl rfl rfl rfl (fun F h => h) ?_
         refine ws_g (.val (i c)) rfl rfl rfl rfl rfl (fun F h => h) ?_
         refine ws_g (.val (i k)) rfl rfl rfl rfl rfl (fun F h => h) ?_
         refine ws_alt ?_
         refine ws_gv rfl rfl rfl ?_
         conv => whnf
         refine WCallG.mk (refFit_ok M ((hO.mono hle1').mono r1) hcyI hlO (by omega) hM hgood (c : Int) (k : Int)) ?_
         rintro _ m7 ⟨rfl, hle7⟩
         refine ⟨hle7, ?_⟩
         refine sf_no ?_
         refine ws_step rfl ?_
         conv => whnf
         refine Br.mk (fun _ => ?_) (fun h => by cases h)
         conv => whnf
         refine Br.mk (fun hf => ?_) (fun hf => ?_)
         ·conv => whnf
          refine WRng.mk (by apply wrap_i64 <;> omega) ?_
          conv => whnf
          exact ⟨k + 1, ⟨by rw [bestS_yes hB (hyes hn hr hf) hdec]; rfl, rfl, trivial⟩, ⟨r1.trans hle7, hle7 _ _ r2, hk⟩, by omega⟩
         ·conv => whnf
          refine WRng.mk (by apply wrap_i64 <;> omega) ?_
          conv => whnf
          exact ⟨k + 1, ⟨by rw [bestS_no hB (.inl (hnof hf))]; rfl, rfl, trivial⟩, ⟨r1.trans hle7, hle7 _ _ r2, hk⟩, by omega⟩
        ·have hdec : ¬ (B < 0 ∨ H.getD k 0 > H.getD B.toNat 0) := by
          have : ¬ H.getD k 0 > H.getD B.toNat 0 := of_decide_eq_false hgt
          rintro (h | h)
          ·omega
          ·exact this h
         conv => whnf
         refine ⟨?_, trivial⟩
         conv => whnf
         refine Br.mk (fun h => by cases h) (fun _ => ?_)
         conv => whnf
         refine Br.mk (fun h => by cases h) (fun _ => ?_)
         conv => whnf
         refine WRng.mk (by apply wrap_i64 <;> omega) ?_
         conv => whnf
         exact ⟨k + 1, ⟨by rw [bestS_no hB (.inr hdec)]; rfl, rfl, trivial⟩, ⟨r1, r2, hk⟩, by omega⟩
      ·conv => whnf
       refine Br.mk (fun h => by cases h) (fun _ => ?_)
       conv => whnf
       refine Br.mk (fun h => by cases h) (fun _ => ?_)
       conv => whnf
       refine ⟨?_, trivial⟩
       conv => whnf
       refine Br.mk (fun h => by cases h) (fun _ => ?_)
       conv => whnf
       refine Br.mk (fun h => by cases h) (fun _ => ?_)
       conv => whnf
       refine WRng.mk (by apply wrap_i64 <;> omega) ?_
       conv => whnf
       exact ⟨k + 1, ⟨by rw [bestS_no hB (.inl (hnor hr))]; rfl, rfl, trivial⟩, ⟨r1, r2, hk⟩, by omega⟩
     ·conv => whnf
      refine ⟨?_, trivial⟩
      conv => whnf
      refine Br.mk (fun h => by cases h) (fun _ => ?_)
      conv => whnf
      refine Br.mk (fun h => by cases h) (fun _ => ?_)
      conv => whnf
      refine Br.mk (fun h => by cases h) (fun _ => ?_)
      conv => whnf
      refine Br.mk (fun h => by cases h) (fun _ => ?_)
      conv => whnf
      refine ⟨?_, trivial⟩
      conv => whnf
      refine Br.mk (fun h => by cases h) (fun _ => ?_)
      conv => whnf
      refine Br.mk (fun h => by cases h) (fun _ => ?_)
      conv => whnf
      refine WRng.mk (by apply wrap_i64 <;> omega) ?_
      conv => whnf
      exact ⟨k + 1, ⟨by rw [bestS_no hB (.inl (hnon hn))]; rfl, rfl, trivial⟩, ⟨r1, r2, hk⟩, by omega⟩
    ·have hk : k = O.length := by
      have : ¬ (k : Int) < O.length := of_decide_eq_false hk0
      omega
     subst hk
     have hbis : IsBest (candR M O E cy c) H O.length (bestS (candR M O E cy c) H O.length) := bestS_is _ _ _
     have hbR : bestR M O E H cy c = bestS (candR M O E cy c) H O.length := rfl
     generalize hB : bestS (candR M O E cy c) H O.length = B at *
     conv => whnf
     refine Br.mk (fun hge => ?_) (fun hge => ?_)
     ·obtain ⟨q, hq, hqB, hqc⟩ : ∃ q, q < O.length ∧ B = (q : Int) ∧ candR M O E cy c q = true := by
       have : B ≥ 0 := of_decide_eq_true hge
       rcases hbis with ⟨h, _⟩ | ⟨q, h1, h2, h3, _⟩
       ·omega
       ·exact ⟨q, h1, h2, h3⟩
      have hqn : cy.getD q 0 < 0 := by
       unfold candR rdyB at hqc
       simp only [Bool.and_eq_true, decide_eq_true_eq] at hqc
       exact hqc.1.1
      subst hqB
      have htop : leftN cy O.length ≤ O.length := Walk.cnt_top _ _
      have hlef := leftN_set hq p3 (show (0 : Int) ≤ c by omega) hqn
      conv => whnf
      refine WIdx.mk ⟨b, 0, none⟩ rfl ⟨by omega, by show (q : Int) < _; omega⟩ ?_
      conv => whnf
      refine WSt.mk (cy.map i) 3 ?_ ?_ ?_ ?_
      ·rw [add0]; exact r2
      ·rw [add0]
      ·rw [add0]
       show _ * 1 + 1 ≤ (cy.map i).length
       rw [List.length_map]; simp only [Int.toNat_natCast]; omega
      simp only [add0]
      conv => whnf
      refine WRng.mk (by apply wrap_i64 <;> omega) ?_
      conv => whnf
      refine ⟨(true, cy.set q c), ⟨?_, rfl, trivial⟩, ⟨le_setn r1 hb0, ?_, by simp [p3], fun z hz => p4 z (.step hbR hz), fun j => ?_, (fun h => by cases h), .inr ?_⟩, ?_⟩
      ·show some (AV.val (i ((leftN cy O.length : Int) - 1))) = some (AV.val (i (leftN (cy.set q c) O.length)))
       have : (leftN cy O.length : Int) - 1 = leftN (cy.set q c) O.length := by omega
       rw [this]
      ·rw [Mem.set_same]
       show some (Cells ((cy.map i).set _ _) 3) = _
       rw [Nat.mul_one, List.map_set]; rfl
      ·show (cy.set q c).getD j 0 = _ ∨ _
       rw [getD_set (by omega)]
       by_cases e : j = q
       ·subst e
        rw [if_pos rfl]
        rcases p5 j with h | ⟨h, h'⟩
        ·exact .inr ⟨by omega, rfl⟩
        ·exact .inr ⟨h, rfl⟩
       ·rw [if_neg e]; exact p5 j
      ·show leftN (cy.set q c) O.length < _
       rcases p7 with h | h
       ·rw [← h]; omega
       ·omega
      ·subst hag2; simp only [if_true]; omega
     ·have hBm : bestR M O E H cy c = -1 := by
       have : ¬ B ≥ 0 := of_decide_eq_false hge
       rcases hbis with ⟨h, _⟩ | ⟨q, _, h2, _⟩
       ·rw [hbR]; exact h
       ·omega
      conv => whnf
      refine ⟨(false, cy), ⟨rfl, rfl, trivial⟩, ⟨r1, r2, p3, p4, p5, fun _ => hBm, p7⟩, ?_⟩
      subst hag2; simp
   ·have hag2 : ag = false := hag
    conv => whnf
    refine WRng.mk (by apply wrap_i64 <;> omega) ?_
    conv => whnf
    have hbst := p6 hag2
    have hleft : 0 < leftN cyc O.length := by
     have : ((leftN cyc O.length : Nat) : Int) > 0 := of_decide_eq_true hb
     omega
    have hsch : ∀ z, Sch M O E H ((c + 1 : Nat) : Int) cy z → Sch M O E H 0 (noneC O.length) z := fun z hz => q4 z (.step (leftN_pos hleft) (p4 cy (.done hbst)) hz)
    rcases p7 with h | h
    ·subst h
     have hg7 : gap < 7 := by
      apply Classical.byContradiction
      intro hg
      exact progress (last := (c : Int) - 8) hM hE (fun j hj => by have := q6 j hj; omega) (by omega) (leftN_pos hleft) hbst
     exact ⟨(c + 1, gap + 1, cy), ⟨rfl, rfl, trivial⟩, ⟨p1, p2, p3, hsch, by simp only; omega, fun j hj => by have := q6 j hj; simp only; omega, by simp only; omega⟩, by simp only; omega⟩
    ·exact ⟨(c + 1, 0, cy), ⟨rfl, rfl, trivial⟩, ⟨p1, p2, p3, hsch, by simp only; omega, fun j hj => by have := hcr j hj; simp only; omega, by simp only; omega⟩, by simp only; omega⟩
  ·have hz : leftN cyc O.length = 0 := by
    have : ¬ ((leftN cyc O.length : Nat) : Int) > 0 := of_decide_eq_false hb
    omega
   conv => whnf
   exact WRet.same ⟨_, cyc, rfl, hle1.trans q1, ⟨some ⟨b, 0, none⟩, O.length, by rw [q3]; rfl, (fun h => by cases h), fun ad ha => (by cases ha; exact CellsAt.blk q2 fun q v hq => by rw [Nat.zero_add]; exact hq), by omega⟩, q4 cyc (.done (leftN_zero hz))⟩
end Go.Proofs.YtmnagbhllnlelaaGreatDoor
