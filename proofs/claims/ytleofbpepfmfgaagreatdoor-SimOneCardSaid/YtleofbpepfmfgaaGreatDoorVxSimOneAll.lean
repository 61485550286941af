import Derived.Test.YtleofbpepfmfgaaGreatDoorVxSimI
import Derived.Test.YtleofbpepfmfgaaGreatDoorVxAl27
set_option linter.unusedSimpArgs false
set_option linter.unusedVariables false
set_option maxRecDepth 100000
namespace Go.Proofs.YtleofbpepfmfgaaGreatDoor
open Go Go.Vx
open Go.Vx.IOp Go.Vx.IR Go.Vx.Opd
theorem strictO_cons (M : Mac) (w : List Nat) (o : OpR) (os : List OpR) (now : List Nat) : strictO M w (o :: os) now = ((readsS o).all (fun r => w.getD r.toNat 0 == 0) && ((match wrS o with | some d => decide (now.getD d 0 ≤ 1) | none => true) && (leavesS o || strictO M w os (stepW M now o)))) := rfl
theorem foldPut_len2 : ∀ (L acc : List Int), (L.foldl putS acc).length ≤ acc.length + L.length
 | [], acc => by simp
 | x :: L, acc => by
  rw [List.foldl_cons, List.length_cons]
  have h1 := foldPut_len2 L (putS acc x)
  have h2 : (putS acc x).length ≤ acc.length + 1 := by unfold putS; split <;> simp
  omega
theorem once_len (L : List Int) : (onceS L).length ≤ L.length := by have := foldPut_len2 L []; simpa [onceS] using this
theorem w8one (a : Nat) : (decide ((a : Int) > 1)) = decide (a > 1) := by
 by_cases h : a > 1
 ·rw [decide_eq_true h, decide_eq_true (by omega)]
 ·rw [decide_eq_false h, decide_eq_false (by omega)]
theorem w8zero (a : Nat) : (decide ((a : Int) > 0)) = decide (a > 0) := by
 by_cases h : a > 0
 ·rw [decide_eq_true h, decide_eq_true (by omega)]
 ·rw [decide_eq_false h, decide_eq_false (by omega)]
set_option maxHeartbeats 4000000 in
theorem strictWord_ok {m : Mem} {T : Nat} {fr : Nat × Nat} (hm : m 0 = some (.cells ⟨cells0⟩ T fr)) {V : CV} {C : CodeR} {M : Mac} {S : Wt} (h : WtAt m V C M S) (hV : CodeAt m V C) (hC : CodeOK C) (hM : M.ok = true)
  {k : Nat} {w : List Nat} (hk : S.A[k]? = some (some w)) (hA : S.A.length = C.ws.length) (hwl : w.length = C.rg.toNat) :
  CallsM Tryz.prog 52 [ptr S.p, i k] m fun e m' => e = .returned (.bool (strictO M w (wordAt C k).ops w)) ∧ Mem.le m m' := by
 have hkA : k < S.A.length := (List.getElem?_eq_some_iff.1 hk).1
 have hkC : k < C.ws.length := by rw [← hA]; exact hkA
 have hrg := hC.rg
 have hAl := hC.wl
 rw [← hA] at hAl
 obtain ⟨ad, a3, c3, had, hcells, hops⟩ := word_cells hV hkC
 have hmem := wordAt_mem hkC
 have hol := hC.ol _ hmem
 have hop := hC.op _ hmem
 have hrow := h.row k w hk
 have hn2 := hV.n2
 have hat : ∀ mm, Mem.le m mm → CellAt mm ((⟨S.ba, 0, none⟩ : Addr).add k) (.slice (some ⟨S.rb k, 0, none⟩) w.length (S.rc k)) := fun mm hl => by have := (h.mono hl).atRow hk; simpa [Wt.rowV] using this
 generalize wordAt C k = W at *
 refine calls_of mixed Tryz.func52 ok_sim_waits_strict rfl ?_
 conv => whnf
 refine WLd.mk _ h.at17 ?_
 conv => whnf
 refine WIdx.mk _ rfl ⟨by omega, by omega⟩ ?_
 conv => whnf
 refine WLd.mk _ (by simpa using hat _ (Mem.le.refl _)) ?_
 conv => whnf
 refine WCall.mk (clone8_ok hrow (by omega)) ?_
 rintro _ m2 ⟨nb, nc, rfl, l2, hnb, hnbn⟩
 have h2 := h.mono l2
 have hc2 := hcells.mono l2
 conv => whnf
 refine WLd.mk (.slice V.a2 V.n2 V.c2) (by rw [add0, addo]; exact ⟨_, _, _, h2.hp, rfl, rfl⟩) ?_
 conv => whnf
 rw [hn2]
 refine WIdx.mk ad had ⟨by omega, by omega⟩ ?_
 conv => whnf
 refine WLd.mk (.slice a3 W.ops.length c3) (by simpa using hc2 0 _ rfl) ?_
 conv => whnf
 refine WLoop.mk Nat (fun j => [(29, .val (i j))]) (fun j m' => j ≤ W.ops.length ∧ Mem.le m m' ∧ R8 m' nb (nowAt M W.ops w j) ∧ strictO M w W.ops w = strictO M w (W.ops.drop j) (nowAt M W.ops w j)) (fun j => W.ops.length - j) 0 ⟨rfl, trivial⟩ ⟨Nat.zero_le _, l2, hnb, rfl⟩ ?_
 rintro j m3 ⟨hj, l3, hR, hst⟩
 conv => whnf
 refine Br.mk (fun hb => ?_) (fun hb => ?_)
 ·have hj2 : j < W.ops.length := by
   have : (j : Int) < W.ops.length := of_decide_eq_true hb
   omega
  obtain ⟨ad3, had3, hopc⟩ := op_at hops l3 hj2
  have hok := hop _ (List.getElem_mem hj2)
  have hns := now_succ (M := M) (w0 := w) hj2
  have hnl : (nowAt M W.ops w j).length = C.rg.toNat := by rw [now_len]; exact hwl
  have hm3 := l3 _ _ hm
  rw [drop_cons hj2, strictO_cons] at hst
  have hri := reads_in hok
  generalize W.ops[j] = o at *
  conv => whnf
  refine WIdx.mk ad3 had3 ⟨by omega, by omega⟩ ?_
  conv => whnf
  refine WLds.mk o.cells (by simpa using hopc) rfl ?_
  conv => whnf
  refine WCall.mk (reads_ok hm3 o) ?_
  rintro _ m4 ⟨ra, rc, rfl, l4, hp4⟩
  have hI4 : IAt m4 (.slice ra (readsS o).length rc) (readsS o) := hp4.iat
  obtain ⟨ra', rc', er, hr0, hr1, hr2⟩ := hI4
  injection er with er1 _ er2
  subst er1
  have hrl : (readsS o).length ≤ 4 := Nat.le_trans (once_len _) (rawS_len o)
  have l4' := l3.trans l4
  have h4 := h.mono l4'
  have hR4 := hR.mono l4
  have hm4 := l4 _ _ hm3
  conv => whnf
  refine WLoop.mk Nat (fun q => [(36, .val (i q))]) (fun q m' => m' = m4 ∧ q ≤ (readsS o).length ∧ ∀ x (hx : x < (readsS o).length), x < q → w.getD ((readsS o)[x]).toNat 0 = 0) (fun q => (readsS o).length - q) 0 ⟨rfl, trivial⟩ ⟨rfl, Nat.zero_le _, fun x hx hx0 => by omega⟩ ?_
  rintro q m' ⟨rfl, hq, hz⟩
  conv => whnf
  refine Br.mk (fun hb2 => ?_) (fun hb2 => ?_)
  ·have hq2 : q < (readsS o).length := by
    have : (q : Int) < (readsS o).length := of_decide_eq_true hb2
    omega
   obtain ⟨adr, hadr⟩ : ∃ adr, ra = some adr := by
    cases hh : ra with
    | none => rw [hr0 hh] at hq2; simp at hq2
    | some adr => exact ⟨adr, rfl⟩
   have hrc := IAt.cell (hr1 adr hadr) hq2
   have hrb := hri _ (List.getElem_mem hq2)
   have hzz : ∀ x, x = (readsS o)[q] → x ∈ readsS o := fun x hx => by rw [hx]; exact List.getElem_mem hq2
   have hzq : ∀ (e : Nat), (readsS o)[q] = (e : Int) → w.getD ((readsS o)[q]).toNat 0 = w.getD e 0 := fun e he => by rw [he, Int.toNat_natCast]
   obtain ⟨e, he, he2⟩ : ∃ e : Nat, (readsS o)[q] = e ∧ e < C.rg.toNat := ⟨((readsS o)[q]).toNat, by omega, by omega⟩
   rw [he] at hrc
   conv => whnf
   refine WIdx.mk adr hadr ⟨by omega, by omega⟩ ?_
   conv => whnf
   refine WLd.mk (i e) (by simpa using hrc) ?_
   conv => whnf
   refine WLd.mk _ h4.at17 ?_
   conv => whnf
   refine WIdx.mk _ rfl ⟨by omega, by omega⟩ ?_
   conv => whnf
   refine WLd.mk _ (by simpa using hat _ l4') ?_
   conv => whnf
   refine WIdx.mk _ rfl ⟨by omega, by omega⟩ ?_
   conv => whnf
   refine WLd.mk (v8 (w.getD e 0)) (by simpa using (hrow.mono l4').cell (by rw [hwl]; exact he2)) ?_
   conv => whnf
   refine Br.mk (fun hb3 => ?_) (fun hb3 => ?_)
   ·rw [w8zero] at hb3
    have hb3 := of_decide_eq_true hb3
    have hall : (readsS o).all (fun r => w.getD r.toNat 0 == 0) = false := by
     rw [List.all_eq_false]
     refine ⟨_, List.getElem_mem hq2, ?_⟩
     rw [hzq e he, beq_iff_eq]; omega
    conv => whnf
    refine WRet.same ⟨?_, l4'⟩
    rw [hst, hall]; rfl
   ·rw [w8zero] at hb3
    have hb3 := of_decide_eq_false hb3
    conv => whnf
    refine WRng.mk (by apply wrap_i64 <;> omega) ?_
    conv => whnf
    refine ⟨q + 1, ⟨rfl, trivial⟩, ⟨rfl, hq2, fun x hx hxq => ?_⟩, Nat.sub_lt_sub_left hq2 (Nat.lt_succ_self q)⟩
    by_cases ex : x = q
    ·subst ex; rw [hzq e he]; omega
    ·exact hz x hx (by omega)
  ·have hq2 : q = (readsS o).length := by
    have : ¬ (q : Int) < (readsS o).length := of_decide_eq_false hb2
    omega
   have hall : (readsS o).all (fun r => w.getD r.toNat 0 == 0) = true := by
    rw [List.all_eq_true]
    intro r hr
    obtain ⟨x, hx, rfl⟩ := List.getElem_of_mem hr
    rw [hz x hx (by omega)]; rfl
   rw [hall, Bool.true_and] at hst
   conv => whnf
   refine WCall.pure (writes_ok hm4 o hok.kd) ?_
   by_cases hu : uD o.kd = true
   ·rw [if_pos hu]
    obtain ⟨e, he, he2⟩ : ∃ e : Nat, o.ds = e ∧ e < C.rg.toNat := ⟨o.ds.toNat, by have := hok.ds; omega, by have := hok.ds; omega⟩
    have hwr : wrS o = some e := by rw [wr_get o hu, he, Int.toNat_natCast]
    rw [hwr] at hst
    simp only at hst
    have hstp : stepW M (nowAt M W.ops w j) o = (nowAt M W.ops w j).set e (max ((nowAt M W.ops w j).getD e 0) (dlS M o)) := by
     unfold stepW; rw [hwr]
    rw [he]
    conv => whnf
    refine Br.mk (fun hb3 => ?_) (fun hb3 => absurd (of_decide_eq_false hb3) (by omega))
    conv => whnf
    refine WIdx.mk _ rfl ⟨by omega, by omega⟩ ?_
    conv => whnf
    refine WLd.mk (v8 ((nowAt M W.ops w j).getD e 0)) (by simpa using hR4.cell (by rw [hnl]; exact he2)) ?_
    conv => whnf
    refine Br.mk (fun hb4 => ?_) (fun hb4 => ?_)
    ·rw [w8one] at hb4
     have hb4 := of_decide_eq_true hb4
     conv => whnf
     refine WRet.same ⟨?_, l4'⟩
     rw [hst, decide_eq_false (by omega)]; rfl
    ·rw [w8one] at hb4
     have hb4 := of_decide_eq_false hb4
     rw [decide_eq_true (by omega), Bool.true_and] at hst
     rw [hstp, ← hstp, ← hns] at hst
     conv => whnf
     refine WIdx.mk _ rfl ⟨by omega, by omega⟩ ?_
     conv => whnf
     refine WLd.mk (v8 ((nowAt M W.ops w j).getD e 0)) (by simpa using hR4.cell (by rw [hnl]; exact he2)) ?_
     conv => whnf
     refine ⟨?_, trivial⟩
     conv => whnf
     refine WCallG.pure (delay_ok hm4 h4.hp hM o) ?_
     conv => whnf
     refine WIdx.mk _ rfl ⟨by omega, by omega⟩ ?_
     conv => whnf
     refine ⟨?_, trivial⟩
     conv => whnf
     have er : Int.toNat ((e : Nat) : Int) * 1 = e := by simp
     rw [er, max8]
     obtain ⟨rest, hnb4⟩ := hR4
     refine WSt.at _ _ hnb4 (show e + 1 ≤ _ by simp [hnl]; omega) ?_
     rw [show cellsL (Value.int IntKind.i8 ((max ((nowAt M W.ops w j).getD e 0) (dlS M o) : Nat) : Int)) = [v8 (max ((nowAt M W.ops w j).getD e 0) (dlS M o))] from rfl, set_row8 (by rw [hnl]; exact he2), ← hstp, ← hns]
     have LE : Mem.le m (m'.set nb (Cells ((nowAt M W.ops w (j + 1)).map v8 ++ rest) 117)) := le_setn l4' hnbn
     have RR : R8 (m'.set nb (Cells ((nowAt M W.ops w (j + 1)).map v8 ++ rest) 117)) nb (nowAt M W.ops w (j + 1)) := ⟨rest, Mem.set_same _ _ _⟩
     generalize m'.set nb (Cells ((nowAt M W.ops w (j + 1)).map v8 ++ rest) 117) = m6 at LE RR ⊢
     conv => whnf
     refine WCall.pure (wLeaves_ok _ o) ?_
     conv => whnf
     refine Br.mk (fun hl => ?_) (fun hl => ?_)
     ·rw [hl, Bool.true_or] at hst
      conv => whnf
      refine WRet.same ⟨?_, LE⟩
      rw [hst]; rfl
     ·rw [hl, Bool.false_or] at hst
      conv => whnf
      refine WRng.mk (by apply wrap_i64 <;> omega) ?_
      conv => whnf
      exact ⟨j + 1, ⟨rfl, trivial⟩, ⟨hj2, LE, RR, hst⟩, Nat.sub_lt_sub_left hj2 (Nat.lt_succ_self j)⟩
   ·have hu : uD o.kd = false := by simpa using hu
    rw [if_neg (by rw [hu]; decide)]
    have hwr := wr_none o hu
    rw [hwr] at hst
    simp only [Bool.true_and] at hst
    have hstp : stepW M (nowAt M W.ops w j) o = nowAt M W.ops w j := by unfold stepW; rw [hwr]
    rw [← hns] at hst
    have RR : R8 m' nb (nowAt M W.ops w (j + 1)) := by rw [hns, hstp]; exact hR4
    have LE := l4'
    conv => whnf
    refine Br.mk (fun hb3 => absurd (of_decide_eq_true hb3) (by decide)) (fun hb3 => ?_)
    conv => whnf
    refine WCall.pure (wLeaves_ok _ o) ?_
    conv => whnf
    refine Br.mk (fun hl => ?_) (fun hl => ?_)
    ·rw [hl, Bool.true_or] at hst
     conv => whnf
     refine WRet.same ⟨?_, LE⟩
     rw [hst]; rfl
    ·rw [hl, Bool.false_or] at hst
     conv => whnf
     refine WRng.mk (by apply wrap_i64 <;> omega) ?_
     conv => whnf
     exact ⟨j + 1, ⟨rfl, trivial⟩, ⟨hj2, LE, RR, hst⟩, Nat.sub_lt_sub_left hj2 (Nat.lt_succ_self j)⟩
 ·have hj2 : j = W.ops.length := by
   have : ¬ (j : Int) < W.ops.length := of_decide_eq_false hb
   omega
  rw [hj2, List.drop_length] at hst
  conv => whnf
  refine WRet.same ⟨?_, l3⟩
  rw [hst]; rfl
theorem fits_ok2 {C : CodeR} {M : Mac} (h : fitsCode C M = 0) : CodeOK C ∧ M.ok = true := by
 unfold fitsCode at h
 split at h
 ·rename_i h1; exact absurd h h1
 ·rename_i h1
  split at h
  ·cases h
  ·rename_i h2
   exact ⟨checkCode_ok (by simpa using h1), by simpa using h2⟩
theorem strict_ok {m : Mem} {T : Nat} {fr : Nat × Nat} (hm : m 0 = some (.cells ⟨cells0⟩ T fr)) (V : CV) {C : CodeR} (M : Mac) (hV : CodeAt m V C) :
  CallsM Tryz.prog 22 [V.val C, M.val] m fun e m' => ∃ b A, e = .returned (.tuple ⟨[.bool b, i (fitsCode C M)]⟩) ∧ Mem.le m m' ∧ (fitsCode C M ≠ 0 → b = false) ∧ (fitsCode C M = 0 → Least C M A ∧ (b = true ↔ strictA C M A)) := by
 refine calls_of mixed Tryz.func22 ok_sim_Strict rfl ?_
 conv => whnf
 refine WCall.mk (wFits_ok hm V hV M) ?_
 rintro _ m1 ⟨rfl, l1⟩
 conv => whnf
 refine Br.mk (fun hb => ?_) (fun hb => ?_)
 ·have hne : fitsCode C M ≠ 0 := by simpa using hb
  conv => whnf
  exact WRet.same ⟨false, [], rfl, l1, fun _ => rfl, fun h => absurd h hne⟩
 have he : fitsCode C M = 0 := by simpa using hb
 obtain ⟨hC, hM⟩ := fits_ok2 he
 have hwl := hC.wl
 have hn2 := hV.n2
 have hV1 := hV.mono l1
 conv => whnf
 refine WCall.mk (simFind_ok (l1 _ _ hm) V M hV1 hC hM) ?_
 rintro _ m2 ⟨S, rfl, hS, l2, hf, hLe⟩
 have hAl := hLe.is.len
 conv => whnf
 refine WLoop.mk Nat (fun k => [(21, .val (i k))]) (fun k m' => k ≤ C.ws.length ∧ Mem.le m2 m' ∧ ∀ (q : Nat) (w : List Nat), q < k → S.A[q]? = some (some w) → strictO M w (wordAt C q).ops w = true) (fun k => C.ws.length - k) 0 ⟨rfl, trivial⟩ ⟨Nat.zero_le _, Mem.le.refl _, fun q w hq => by omega⟩ ?_
 rintro k m3 ⟨hk, l3, hq⟩
 have hS3 := hS.mono l3
 have hV3 := hV1.mono (l2.trans l3)
 have hm3 := l3 _ _ (l2 _ _ (l1 _ _ hm))
 conv => whnf
 rw [hn2]
 refine Br.mk (fun hb2 => ?_) (fun hb2 => ?_)
 ·have hk2 : k < C.ws.length := by
   have : (k : Int) < C.ws.length := of_decide_eq_true hb2
   omega
  obtain ⟨x, hx⟩ : ∃ x, S.A[k]? = some x := ⟨_, List.getElem?_eq_getElem (by rw [hAl]; exact hk2)⟩
  have hrow := hS3.atRow hx
  conv => whnf
  refine WLd.mk _ hS3.at17 ?_
  conv => whnf
  refine WIdx.mk _ rfl ⟨by omega, by omega⟩ ?_
  cases x with
  | none =>
   conv => whnf
   refine WLd.mk ns (by simpa [Wt.rowV] using hrow) ?_
   conv => whnf
   refine WSc.mk (v := false) (fun h => by cases h) ?_
   conv => whnf
   refine Br.mk (fun h => by cases h) (fun _ => ?_)
   conv => whnf
   refine WRng.mk (by apply wrap_i64 <;> omega) ?_
   conv => whnf
   refine ⟨k + 1, ⟨rfl, trivial⟩, ⟨hk2, l3, fun q w hqk hw => ?_⟩, Nat.sub_lt_sub_left hk2 (Nat.lt_succ_self k)⟩
   by_cases e : q = k
   ·subst e; rw [hx] at hw; cases hw
   ·exact hq q w (by omega) hw
  | some w =>
   have hwl2 := hLe.is.wl k w hx
   have hw := strictWord_ok hm3 hS3 hV3 hC hM hx hAl hwl2
   have stay : ∀ m', Mem.le m2 m' → strictO M w (wordAt C k).ops w = true → ∀ (q : Nat) (w : List Nat), q < k + 1 → S.A[q]? = some (some w) → strictO M w (wordAt C q).ops w = true := fun m' _ hst q w' hqk hw' => by
    by_cases e : q = k
    ·subst e; rw [hx] at hw'; cases hw'; exact hst
    ·exact hq q w' (by omega) hw'
   have hnot : strictO M w (wordAt C k).ops w = false → (false = true ↔ strictA C M S.A) := fun hst => ⟨fun h => by (cases h), fun h => by rw [h k w hx] at hst; cases hst⟩
   generalize strictO M w (wordAt C k).ops w = st at *
   conv => whnf
   refine WLd.mk (.slice (some ⟨S.rb k, 0, none⟩) w.length (S.rc k)) (by simpa [Wt.rowV] using hrow) ?_
   conv => whnf
   refine WSc.mk (v := !st) (fun _ => ?_) ?_
   ·conv => whnf
    refine WCall.mk hw ?_
    rintro _ m4 ⟨rfl, l4⟩
    conv => whnf
    exact And.intro l4 rfl
   conv => whnf
   refine Br.mk (fun hb3 => ?_) (fun hb3 => ?_)
   ·have hst : st = false := by simpa [scB] using hb3
    subst hst
    conv => whnf
    exact WRet.same ⟨false, S.A, by rw [he]; rfl, l1.trans (l2.trans l3), fun h => absurd he h, fun _ => ⟨hLe, hnot rfl⟩⟩
   ·have hst : st = true := by simpa [scB] using hb3
    subst hst
    conv => whnf
    refine WRng.mk (by apply wrap_i64 <;> omega) ?_
    conv => whnf
    exact ⟨k + 1, ⟨rfl, trivial⟩, ⟨hk2, l3, stay _ l3 rfl⟩, Nat.sub_lt_sub_left hk2 (Nat.lt_succ_self k)⟩
 ·have hk2 : k = C.ws.length := by
   have : ¬ (k : Int) < C.ws.length := of_decide_eq_false hb2
   omega
  conv => whnf
  refine WRet.same ⟨true, S.A, by rw [he]; rfl, l1.trans (l2.trans l3), fun h => absurd he h, fun _ => ⟨hLe, fun _ q w hw => ?_, fun _ => rfl⟩⟩
  exact hq q w (by rw [hk2, ← hAl]; exact (List.getElem?_eq_some_iff.1 hw).1) hw
end Go.Proofs.YtleofbpepfmfgaaGreatDoor
set_option linter.unusedSimpArgs false
set_option linter.unusedVariables false
set_option maxRecDepth 100000
namespace Go.Proofs.YtleofbpepfmfgaaGreatDoor
open Go Go.Vx
open Go.Vx.IOp Go.Vx.IR Go.Vx.Opd
def oneM (M : Mac) : Mac := { M with l0 := 1, l1 := 1, l2 := 1, l3 := 1 }
theorem one_dl (M : Mac) (o : OpR) : dlS (oneM M) o ≤ 1 := by
 unfold dlS
 have : ∀ q : Nat, (oneM M).lat q = 1 := fun q => by
  match q with
  | 0 => rfl
  | 1 => rfl
  | 2 => rfl
  | q + 3 => rfl
 rw [this]; decide
theorem simOne_law {m : Mem} (V : CV) {C : CodeR} (M : Mac) (hV : CodeAt m V C) {T : Nat} {fr : Nat × Nat} (hm : m 0 = some (.cells ⟨cells0⟩ T fr))
  (hal : ∀ m', Mem.le m m' → CallsM Tryz.prog 14 [] m' fun e m'' => e = .returned (.bool true) ∧ m'' = m') :
  CallsM Tryz.prog 7 [V.val C, M.val] m fun e m' => e = .returned (.bool true) ∧ Mem.le m m' := by
 refine calls_of mixed Tryz.func7 ok_biremelaw27_SimOne rfl ?_
 conv => whnf
 refine WCall.mk (lawCut_ok V hV) ?_
 rintro _ m1 ⟨V1, b, rfl, l1, hV1⟩
 conv => whnf
 refine WSc.mk (v := decide (fitsCode (cut27 C) (oneM M) ≠ 0)) (fun hc => ?_) ?_
 ·conv => whnf
  refine WCall.mk (refFits_ok V1 hV1 (oneM M)) ?_
  rintro _ m2 ⟨rfl, l2⟩
  conv => whnf
  refine And.intro l2 ?_
  show some (Value.bool (fitsCode (cut27 C) (oneM M) != 0)) = some (Value.bool (decide (fitsCode (cut27 C) (oneM M) ≠ 0)))
  by_cases h : fitsCode (cut27 C) (oneM M) = 0 <;> simp [h]
 conv => whnf
 refine Br.mk (fun hb => ?_) (fun hb => ?_)
 ·conv => whnf
  refine WCall.mk (hal _ l1) ?_
  rintro _ m2 ⟨rfl, rfl⟩
  conv => whnf
  exact WRet.same ⟨rfl, l1⟩
 ·have he : fitsCode (cut27 C) (oneM M) = 0 := by
   simp only [scB] at hb
   cases b with
   | false => simp at hb
   | true => simpa using hb
  obtain ⟨hC, hM⟩ := fits_ok2 he
  conv => whnf
  refine ⟨?_, trivial⟩
  conv => whnf
  refine WCall.mk (lawOwn_ok V (hV.mono l1)) ?_
  rintro _ m2 ⟨V2, rfl, l2, hV2⟩
  have L2 := l1.trans l2
  conv => whnf
  refine ⟨?_, trivial⟩
  conv => whnf
  refine WCall.mk (strict_ok (L2 _ _ hm) V2 (oneM M) hV2) ?_
  rintro _ m3 ⟨b3, A, rfl, l3, _, h3⟩
  obtain ⟨hLe, hst⟩ := h3 he
  have hb3 : b3 = true := hst.2 (one_all hC (one_dl M) hLe)
  subst hb3
  rw [he]
  have L3 := L2.trans l3
  conv => whnf
  refine WSc.mk (v := true) (fun _ => ?_) ?_
  ·conv => whnf
   exact And.intro (Mem.le.refl _) rfl
  conv => whnf
  refine WSc.mk (v := true) (fun _ => ?_) ?_
  ·conv => whnf
   refine WCall.mk (hal _ L3) ?_
   rintro _ m4 ⟨rfl, rfl⟩
   conv => whnf
   exact And.intro (Mem.le.refl _) rfl
  conv => whnf
  exact WRet.same ⟨rfl, L3⟩
end Go.Proofs.YtleofbpepfmfgaaGreatDoor
set_option maxRecDepth 100000
namespace Go.Proofs.YtleofbpepfmfgaaGreatDoor
open Go Go.Vx
theorem simOne_ok {m : Mem} (V : CV) {C : CodeR} (M : Mac) (hV : CodeAt m V C) {T : Nat} {fr : Nat × Nat} (hm : m 0 = some (.cells ⟨cells0⟩ T fr)) :
  CallsM Tryz.prog 7 [V.val C, M.val] m fun e m' => e = .returned (.bool true) ∧ Mem.le m m' :=
 simOne_law V M hV hm fun m' hle => alive27_calls (hle _ _ hm)
end Go.Proofs.YtleofbpepfmfgaaGreatDoor
