import Derived.Test.YtleofbpepfmfgaaGreatDoorVxSimI
import Derived.Test.YtleofbpepfmfgaaGreatDoorVxSimM
set_option linter.unusedSimpArgs false
set_option linter.unusedVariables false
set_option maxRecDepth 100000
namespace Go.Proofs.YtleofbpepfmfgaaGreatDoor
open Go Go.Vx
open Go.Vx.IOp Go.Vx.IR Go.Vx.Opd
theorem strictO_cons (M:Mac) (w:List Nat) (o:OpR) (os:List OpR) (now:List Nat):strictO M w (o :: os) now = ((readsS o).all (fun r=>w.getD r.toNat 0 == 0) && ((match wrS o with | some d=>decide (now.getD d 0 ≤ 1) | none=>true) && (leavesS o || strictO M w os (stepW M now o)))):=rfl
theorem foldPut_len2:∀ (L acc:List Int),(L.foldl putS acc).length ≤ acc.length + L.length
 | [],acc=>by simp
 | x :: L,acc=>by
  rw [List.foldl_cons,List.length_cons]
  have h1:=foldPut_len2 L (putS acc x)
  have h2:(putS acc x).length ≤ acc.length + 1:=by unfold putS;split <;> simp
  omega
theorem once_len (L:List Int):(onceS L).length ≤ L.length:=by have:=foldPut_len2 L [];simpa [onceS] using this
theorem w8one (a:Nat):(decide ((a:Int) > 1)) = decide (a > 1):=by
 by_cases h:a > 1
 ·rw [decide_eq_true h,decide_eq_true (by omega)]
 ·rw [decide_eq_false h,decide_eq_false (by omega)]
theorem w8zero (a:Nat):(decide ((a:Int) > 0)) = decide (a > 0):=by
 by_cases h:a > 0
 ·rw [decide_eq_true h,decide_eq_true (by omega)]
 ·rw [decide_eq_false h,decide_eq_false (by omega)]
set_option maxHeartbeats 4000000 in
theorem strictWord_ok {m:Mem} {T:Nat} {fr:Nat × Nat} (hm:m 0 = some (.cells ⟨cells0⟩ T fr)) {V:CV} {C:CodeR} {M:Mac} {S:Wt} (h:WtAt m V C M S) (hV:CodeAt m V C) (hC:CodeOK C) (hM:M.ok = true)
  {k:Nat} {w:List Nat} (hk:S.A[k]? = some (some w)) (hA:S.A.length = C.ws.length) (hwl:w.length = C.rg.toNat) :
  CallsM Tryz.prog 52 [ptr S.p,i k] m fun e m'=>e = .returned (.bool (strictO M w (wordAt C k).ops w)) ∧ Mem.le m m':=by
 have hkA:k < S.A.length:=(List.getElem?_eq_some_iff.1 hk).1
 have hkC:k < C.ws.length:=by rw [← hA];exact hkA
 have hrg:=hC.rg
 have hAl:=hC.wl
 rw [← hA] at hAl
 obtain ⟨ad,a3,c3,had,hcells,hops⟩:=word_cells hV hkC
 have hmem:=wordAt_mem hkC
 have hol:=hC.ol _ hmem
 have hop:=hC.op _ hmem
 have hrow:=h.row k w hk
 have hn2:=hV.n2
 have hat:∀ mm,Mem.le m mm → CellAt mm ((⟨S.ba,0,none⟩:Addr).add k) (.slice (some ⟨S.rb k,0,none⟩) w.length (S.rc k)):=fun mm hl=>by have:=(h.mono hl).atRow hk;simpa [Wt.rowV] using this
 generalize wordAt C k = W at *
 refine calls_of mixed Tryz.func52 ok_sim_waits_strict rfl ?_
 conv=>whnf
 refine WLd.mk _ h.at17 ?_
 conv=>whnf
 refine WIdx.mk _ rfl ⟨by omega,by omega⟩ ?_
 conv=>whnf
 refine WLd.mk _ (by simpa using hat _ (Mem.le.refl _)) ?_
 conv=>whnf
 refine WCall.mk (clone8_ok hrow (by omega)) ?_
 rintro _ m2 ⟨nb,nc,rfl,l2,hnb,hnbn⟩
 have h2:=h.mono l2
 have hc2:=hcells.mono l2
 conv=>whnf
 refine WLd.mk (.slice V.a2 V.n2 V.c2) (by rw [add0,addo];exact ⟨_,_,_,h2.hp,rfl,rfl⟩) ?_
 conv=>whnf
 rw [hn2]
 refine WIdx.mk ad had ⟨by omega,by omega⟩ ?_
 conv=>whnf
 refine WLd.mk (.slice a3 W.ops.length c3) (by simpa using hc2 0 _ rfl) ?_
 conv=>whnf
 refine WLoop.mk Nat (fun j=>[(29,.val (i j))]) (fun j m'=>j ≤ W.ops.length ∧ Mem.le m m' ∧ R8 m' nb (nowAt M W.ops w j) ∧ strictO M w W.ops w = strictO M w (W.ops.drop j) (nowAt M W.ops w j)) (fun j=>W.ops.length - j) 0 ⟨rfl,trivial⟩ ⟨Nat.zero_le _,l2,hnb,rfl⟩ ?_
 rintro j m3 ⟨hj,l3,hR,hst⟩
 conv=>whnf
 refine Br.mk (fun hb=>?_) (fun hb=>?_)
 ·have hj2:j < W.ops.length:=by
   have:(j:Int) < W.ops.length:=of_decide_eq_true hb
   omega
  obtain ⟨ad3,had3,hopc⟩:=op_at hops l3 hj2
  have hok:=hop _ (List.getElem_mem hj2)
  have hns:=now_succ (M:=M) (w0:=w) hj2
  have hnl:(nowAt M W.ops w j).length = C.rg.toNat:=by rw [now_len];exact hwl
  have hm3:=l3 _ _ hm
  rw [drop_cons hj2,strictO_cons] at hst
  have hri:=reads_in hok
  generalize W.ops[j] = o at *
  conv=>whnf
  refine WIdx.mk ad3 had3 ⟨by omega,by omega⟩ ?_
  conv=>whnf
  refine WLds.mk o.cells (by simpa using hopc) rfl ?_
  conv=>whnf
  refine WCall.mk (reads_ok hm3 o) ?_
  rintro _ m4 ⟨ra,rc,rfl,l4,hp4⟩
  have hI4:IAt m4 (.slice ra (readsS o).length rc) (readsS o):=hp4.iat
  obtain ⟨ra',rc',er,hr0,hr1,hr2⟩:=hI4
  injection er with er1 _ er2
  subst er1
  have hrl:(readsS o).length ≤ 4:=Nat.le_trans (once_len _) (rawS_len o)
  have l4':=l3.trans l4
  have h4:=h.mono l4'
  have hR4:=hR.mono l4
  have hm4:=l4 _ _ hm3
  conv=>whnf
  refine WLoop.mk Nat (fun q=>[(36,.val (i q))]) (fun q m'=>m' = m4 ∧ q ≤ (readsS o).length ∧ ∀ x (hx:x < (readsS o).length),x < q → w.getD ((readsS o)[x]).toNat 0 = 0) (fun q=>(readsS o).length - q) 0 ⟨rfl,trivial⟩ ⟨rfl,Nat.zero_le _,fun x hx hx0=>by omega⟩ ?_
  rintro q m' ⟨rfl,hq,hz⟩
  conv=>whnf
  refine Br.mk (fun hb2=>?_) (fun hb2=>?_)
  ·have hq2:q < (readsS o).length:=by
    have:(q:Int) < (readsS o).length:=of_decide_eq_true hb2
    omega
   obtain ⟨adr,hadr⟩:∃ adr,ra = some adr:=by
    cases hh:ra with
    | none=>rw [hr0 hh] at hq2;simp at hq2
    | some adr=>exact ⟨adr,rfl⟩
   have hrc:=IAt.cell (hr1 adr hadr) hq2
   have hrb:=hri _ (List.getElem_mem hq2)
   have hzz:∀ x,x = (readsS o)[q] → x ∈ readsS o:=fun x hx=>by rw [hx];exact List.getElem_mem hq2
   have hzq:∀ (e:Nat),(readsS o)[q] = (e:Int) → w.getD ((readsS o)[q]).toNat 0 = w.getD e 0:=fun e he=>by rw [he,Int.toNat_natCast]
   obtain ⟨e,he,he2⟩:∃ e:Nat,(readsS o)[q] = e ∧ e < C.rg.toNat:=⟨((readsS o)[q]).toNat,by omega,by omega⟩
   rw [he] at hrc
   conv=>whnf
   refine WIdx.mk adr hadr ⟨by omega,by omega⟩ ?_
   conv=>whnf
   refine WLd.mk (i e) (by simpa using hrc) ?_
   conv=>whnf
   refine WLd.mk _ h4.at17 ?_
   conv=>whnf
   refine WIdx.mk _ rfl ⟨by omega,by omega⟩ ?_
   conv=>whnf
   refine WLd.mk _ (by simpa using hat _ l4') ?_
   conv=>whnf
   refine WIdx.mk _ rfl ⟨by omega,by omega⟩ ?_
   conv=>whnf
   refine WLd.mk (v8 (w.getD e 0)) (by simpa using (hrow.mono l4').cell (by rw [hwl];exact he2)) ?_
   conv=>whnf
   refine Br.mk (fun hb3=>?_) (fun hb3=>?_)
   ·rw [w8zero] at hb3
    have hb3:=of_decide_eq_true hb3
    have hall:(readsS o).all (fun r=>w.getD r.toNat 0 == 0) = false:=by
     rw [List.all_eq_false]
     refine ⟨_,List.getElem_mem hq2,?_⟩
     rw [hzq e he,beq_iff_eq];omega
    conv=>whnf
    refine WRet.same ⟨?_,l4'⟩
    rw [hst,hall];rfl
   ·rw [w8zero] at hb3
    have hb3:=of_decide_eq_false hb3
    conv=>whnf
    refine WRng.mk (by apply wrap_i64 <;> omega) ?_
    conv=>whnf
    refine ⟨q + 1,⟨rfl,trivial⟩,⟨rfl,hq2,fun x hx hxq=>?_⟩,Nat.sub_lt_sub_left hq2 (Nat.lt_succ_self q)⟩
    by_cases ex:x = q
    ·subst ex;rw [hzq e he];omega
    ·exact hz x hx (by omega)
  ·have hq2:q = (readsS o).length:=by
    have:¬ (q:Int) < (readsS o).length:=of_decide_eq_false hb2
    omega
   have hall:(readsS o).all (fun r=>w.getD r.toNat 0 == 0) = true:=by
    rw [List.all_eq_true]
    intro r hr
    obtain ⟨x,hx,rfl⟩:=List.getElem_of_mem hr
    rw [hz x hx (by omega)];rfl
   rw [hall,Bool.true_and] at hst
   conv=>whnf
   refine WCall.pure (writes_ok hm4 o hok.kd) ?_
   by_cases hu:uD o.kd = true
   ·rw [if_pos hu]
    obtain ⟨e,he,he2⟩:∃ e:Nat,o.ds = e ∧ e < C.rg.toNat:=⟨o.ds.toNat,by have:=hok.ds;omega,by have:=hok.ds;omega⟩
    have hwr:wrS o = some e:=by rw [wr_get o hu,he,Int.toNat_natCast]
    rw [hwr] at hst
    simp only at hst
    have hstp:stepW M (nowAt M W.ops w j) o = (nowAt M W.ops w j).set e (max ((nowAt M W.ops w j).getD e 0) (dlS M o)):=by
     unfold stepW;rw [hwr]
    rw [he]
    conv=>whnf
    refine Br.mk (fun hb3=>?_) (fun hb3=>absurd (of_decide_eq_false hb3) (by omega))
    conv=>whnf
    refine WIdx.mk _ rfl ⟨by omega,by omega⟩ ?_
    conv=>whnf
    refine WLd.mk (v8 ((nowAt M W.ops w j).getD e 0)) (by simpa using hR4.cell (by rw [hnl];exact he2)) ?_
    conv=>whnf
    refine Br.mk (fun hb4=>?_) (fun hb4=>?_)
    ·rw [w8one] at hb4
     have hb4:=of_decide_eq_true hb4
     conv=>whnf
     refine WRet.same ⟨?_,l4'⟩
     rw [hst,decide_eq_false (by omega)];rfl
    ·rw [w8one] at hb4
     have hb4:=of_decide_eq_false hb4
     rw [decide_eq_true (by omega),Bool.true_and] at hst
     rw [hstp,← hstp,← hns] at hst
     conv=>whnf
     refine WIdx.mk _ rfl ⟨by omega,by omega⟩ ?_
     conv=>whnf
     refine WLd.mk (v8 ((nowAt M W.ops w j).getD e 0)) (by simpa using hR4.cell (by rw [hnl];exact he2)) ?_
     conv=>whnf
     refine ⟨?_,trivial⟩
     conv=>whnf
     refine WCallG.pure (delay_ok hm4 h4.hp hM o) ?_
     conv=>whnf
     refine WIdx.mk _ rfl ⟨by omega,by omega⟩ ?_
     conv=>whnf
     refine ⟨?_,trivial⟩
     conv=>whnf
     have er:Int.toNat ((e:Nat):Int) * 1 = e:=by simp
     rw [er,max8]
     obtain ⟨rest,hnb4⟩:=hR4
     refine WSt.at _ _ hnb4 (show e + 1 ≤ _ by simp [hnl];omega) ?_
     rw [show cellsL (Value.int IntKind.i8 ((max ((nowAt M W.ops w j).getD e 0) (dlS M o):Nat):Int)) = [v8 (max ((nowAt M W.ops w j).getD e 0) (dlS M o))] from rfl,set_row8 (by rw [hnl];exact he2),← hstp,← hns]
     have LE:Mem.le m (m'.set nb (Cells ((nowAt M W.ops w (j + 1)).map v8 ++ rest) 117)):=le_setn l4' hnbn
     have RR:R8 (m'.set nb (Cells ((nowAt M W.ops w (j + 1)).map v8 ++ rest) 117)) nb (nowAt M W.ops w (j + 1)):=⟨rest,Mem.set_same _ _ _⟩
     generalize m'.set nb (Cells ((nowAt M W.ops w (j + 1)).map v8 ++ rest) 117) = m6 at LE RR ⊢
     conv=>whnf
     refine WCall.pure (wLeaves_ok _ o) ?_
     conv=>whnf
     refine Br.mk (fun hl=>?_) (fun hl=>?_)
     ·rw [hl,Bool.true_or] at hst
      conv=>whnf
      refine WRet.same ⟨?_,LE⟩
      rw [hst];rfl
     ·rw [hl,Bool.false_or] at hst
      conv=>whnf
      refine WRng.mk (by apply wrap_i64 <;> omega) ?_
      conv=>whnf
      exact ⟨j + 1,⟨rfl,trivial⟩,⟨hj2,LE,RR,hst⟩,Nat.sub_lt_sub_left hj2 (Nat.lt_succ_self j)⟩
   ·have hu:uD o.kd = false:=by simpa using hu
    rw [if_neg (by rw [hu];decide)]
    have hwr:=wr_none o hu
    rw [hwr] at hst
    simp only [Bool.true_and] at hst
    have hstp:stepW M (nowAt M W.ops w j) o = nowAt M W.ops w j:=by unfold stepW;rw [hwr]
    rw [← hns] at hst
    have RR:R8 m' nb (nowAt M W.ops w (j + 1)):=by rw [hns,hstp];exact hR4
    have LE:=l4'
    conv=>whnf
    refine Br.mk (fun hb3=>absurd (of_decide_eq_true hb3) (by decide)) (fun hb3=>?_)
    conv=>whnf
    refine WCall.pure (wLeaves_ok _ o) ?_
    conv=>whnf
    refine Br.mk (fun hl=>?_) (fun hl=>?_)
    ·rw [hl,Bool.true_or] at hst
     conv=>whnf
     refine WRet.same ⟨?_,LE⟩
     rw [hst];rfl
    ·rw [hl,Bool.false_or] at hst
     conv=>whnf
     refine WRng.mk (by apply wrap_i64 <;> omega) ?_
     conv=>whnf
     exact ⟨j + 1,⟨rfl,trivial⟩,⟨hj2,LE,RR,hst⟩,Nat.sub_lt_sub_left hj2 (Nat.lt_succ_self j)⟩
 ·have hj2:j = W.ops.length:=by
   have:¬ (j:Int) < W.ops.length:=of_decide_eq_false hb
   omega
  rw [hj2,List.drop_length] at hst
  conv=>whnf
  refine WRet.same ⟨?_,l3⟩
  rw [hst];rfl
theorem fits_ok2 {C:CodeR} {M:Mac} (h:fitsCode C M = 0):CodeOK C ∧ M.ok = true:=by
 unfold fitsCode at h
 split at h
 ·rename_i h1;exact absurd h h1
 ·rename_i h1
  split at h
  ·cases h
  ·rename_i h2
   exact ⟨checkCode_ok (by simpa using h1),by simpa using h2⟩
theorem strict_ok {m:Mem} {T:Nat} {fr:Nat × Nat} (hm:m 0 = some (.cells ⟨cells0⟩ T fr)) (V:CV) {C:CodeR} (M:Mac) (hV:CodeAt m V C) :
  CallsM Tryz.prog 22 [V.val C,M.val] m fun e m'=>∃ b A,e = .returned (.tuple ⟨[.bool b,i (fitsCode C M)]⟩) ∧ Mem.le m m' ∧ (fitsCode C M ≠ 0 → b = false) ∧ (fitsCode C M = 0 → Least C M A ∧ (b = true ↔ strictA C M A)):=by
 refine calls_of mixed Tryz.func22 ok_sim_Strict rfl ?_
 conv=>whnf
 refine WCall.mk (wFits_ok hm V hV M) ?_
 rintro _ m1 ⟨rfl,l1⟩
 conv=>whnf
 refine Br.mk (fun hb=>?_) (fun hb=>?_)
 ·have hne:fitsCode C M ≠ 0:=by simpa using hb
  conv=>whnf
  exact WRet.same ⟨false,[],rfl,l1,fun _=>rfl,fun h=>absurd h hne⟩
 have he:fitsCode C M = 0:=by simpa using hb
 obtain ⟨hC,hM⟩:=fits_ok2 he
 have hwl:=hC.wl
 have hn2:=hV.n2
 have hV1:=hV.mono l1
 conv=>whnf
 refine WCall.mk (simFind_ok (l1 _ _ hm) V M hV1 hC hM) ?_
 rintro _ m2 ⟨S,rfl,hS,l2,hf,hLe,_⟩
 have hAl:=hLe.is.len
 conv=>whnf
 refine WLoop.mk Nat (fun k=>[(21,.val (i k))]) (fun k m'=>k ≤ C.ws.length ∧ Mem.le m2 m' ∧ ∀ (q:Nat) (w:List Nat),q < k → S.A[q]? = some (some w) → strictO M w (wordAt C q).ops w = true) (fun k=>C.ws.length - k) 0 ⟨rfl,trivial⟩ ⟨Nat.zero_le _,Mem.le.refl _,fun q w hq=>by omega⟩ ?_
 rintro k m3 ⟨hk,l3,hq⟩
 have hS3:=hS.mono l3
 have hV3:=hV1.mono (l2.trans l3)
 have hm3:=l3 _ _ (l2 _ _ (l1 _ _ hm))
 conv=>whnf
 rw [hn2]
 refine Br.mk (fun hb2=>?_) (fun hb2=>?_)
 ·have hk2:k < C.ws.length:=by
   have:(k:Int) < C.ws.length:=of_decide_eq_true hb2
   omega
  obtain ⟨x,hx⟩:∃ x,S.A[k]? = some x:=⟨_,List.getElem?_eq_getElem (by rw [hAl];exact hk2)⟩
  have hrow:=hS3.atRow hx
  conv=>whnf
  refine WLd.mk _ hS3.at17 ?_
  conv=>whnf
  refine WIdx.mk _ rfl ⟨by omega,by omega⟩ ?_
  cases x with
  | none =>
   conv=>whnf
   refine WLd.mk ns (by simpa [Wt.rowV] using hrow) ?_
   conv=>whnf
   refine WSc.mk (v:=false) (fun h=>by cases h) ?_
   conv=>whnf
   refine Br.mk (fun h=>by cases h) (fun _=>?_)
   conv=>whnf
   refine WRng.mk (by apply wrap_i64 <;> omega) ?_
   conv=>whnf
   refine ⟨k + 1,⟨rfl,trivial⟩,⟨hk2,l3,fun q w hqk hw=>?_⟩,Nat.sub_lt_sub_left hk2 (Nat.lt_succ_self k)⟩
   by_cases e:q = k
   ·subst e;rw [hx] at hw;cases hw
   ·exact hq q w (by omega) hw
  | some w =>
   have hwl2:=hLe.is.wl k w hx
   have hw:=strictWord_ok hm3 hS3 hV3 hC hM hx hAl hwl2
   have stay:∀ m',Mem.le m2 m' → strictO M w (wordAt C k).ops w = true → ∀ (q:Nat) (w:List Nat),q < k + 1 → S.A[q]? = some (some w) → strictO M w (wordAt C q).ops w = true:=fun m' _ hst q w' hqk hw'=>by
    by_cases e:q = k
    ·subst e;rw [hx] at hw';cases hw';exact hst
    ·exact hq q w' (by omega) hw'
   have hnot:strictO M w (wordAt C k).ops w = false → (false = true ↔ strictA C M S.A):=fun hst=>⟨fun h=>by (cases h),fun h=>by rw [h k w hx] at hst;cases hst⟩
   generalize strictO M w (wordAt C k).ops w = st at *
   conv=>whnf
   refine WLd.mk (.slice (some ⟨S.rb k,0,none⟩) w.length (S.rc k)) (by simpa [Wt.rowV] using hrow) ?_
   conv=>whnf
   refine WSc.mk (v:=!st) (fun _=>?_) ?_
   ·conv=>whnf
    refine WCall.mk hw ?_
    rintro _ m4 ⟨rfl,l4⟩
    conv=>whnf
    exact And.intro l4 rfl
   conv=>whnf
   refine Br.mk (fun hb3=>?_) (fun hb3=>?_)
   ·have hst:st = false:=by simpa [scB] using hb3
    subst hst
    conv=>whnf
    exact WRet.same ⟨false,S.A,by rw [he];rfl,l1.trans (l2.trans l3),fun h=>absurd he h,fun _=>⟨hLe,hnot rfl⟩⟩
   ·have hst:st = true:=by simpa [scB] using hb3
    subst hst
    conv=>whnf
    refine WRng.mk (by apply wrap_i64 <;> omega) ?_
    conv=>whnf
    exact ⟨k + 1,⟨rfl,trivial⟩,⟨hk2,l3,stay _ l3 rfl⟩,Nat.sub_lt_sub_left hk2 (Nat.lt_succ_self k)⟩
 ·have hk2:k = C.ws.length:=by
   have:¬ (k:Int) < C.ws.length:=of_decide_eq_false hb2
   omega
  conv=>whnf
  refine WRet.same ⟨true,S.A,by rw [he];rfl,l1.trans (l2.trans l3),fun h=>absurd he h,fun _=>⟨hLe,fun _ q w hw=>?_,fun _=>rfl⟩⟩
  exact hq q w (by rw [hk2,← hAl];exact (List.getElem?_eq_some_iff.1 hw).1) hw
end Go.Proofs.YtleofbpepfmfgaaGreatDoor
set_option linter.unusedSimpArgs false
set_option linter.unusedVariables false
set_option maxRecDepth 100000
namespace Go.Proofs.YtleofbpepfmfgaaGreatDoor
open Go Go.Vx
open Go.Vx.IOp Go.Vx.IR Go.Vx.Opd
abbrev TWord:Nat:=103
theorem del_same (m:Mem) (b:Nat):m.del b b = none:=if_pos rfl
theorem del_other (m:Mem) {b x:Nat} (h:x ≠ b):m.del b x = m x:=if_neg h
theorem del_le (m:Mem) (b:Nat):Mem.le (m.del b) m:=fun x o hx=>by
 by_cases e:x = b
 ·subst e;rw [del_same] at hx;cases hx
 ·rw [del_other m e] at hx;exact hx
theorem del_mono {m m':Mem} (h:Mem.le m m') (b:Nat):Mem.le (m.del b) (m'.del b):=fun x o hx=>by
 by_cases e:x = b
 ·subst e;rw [del_same] at hx;cases hx
 ·rw [del_other m e] at hx;rw [del_other m' e];exact h x o hx
theorem del_set (m:Mem) (b:Nat) (o:Obj):(m.set b o).del b = m.del b:=by
 funext x;unfold Mem.del Mem.set;split <;> rfl
theorem le_del {m m':Mem} (h:Mem.le m m') {b:Nat} (hb:m b = none):Mem.le m (m'.del b):=fun x o hx=>by
 have e:x ≠ b:=fun e=>by subst e;rw [hb] at hx;cases hx
 rw [del_other m' e];exact h x o hx
theorem cloneOps_ok {m:Mem} {a:Option Addr} {n c:Nat} {O:List OpR} (hv:OAt m (.slice a n c) O) (hlen:O.length ≤ 1000000) :
  CallsM Tryz.prog 99 [.slice a n c] m fun e m'=>∃ A cc,e = .returned (.slice A O.length cc) ∧ Mem.le m m' ∧ O.length ≤ cc ∧ (A = none → O = []) ∧
   (O = [] ∨ ∃ b rest,A = some ⟨b,0,none⟩ ∧ m b = none ∧ m' b = some (Cells (ocs O ++ rest) 110)):=by
 obtain ⟨a',c',e,q0,q1,hcap⟩:=hv
 injection e with e1 e2 e3
 subst e1;subst e2;subst e3
 refine calls_of mixed Tryz.func99 ok_slices_Clone_api_Op_api_Op rfl ?_
 conv=>whnf
 cases a with
 | none =>
  obtain rfl:=q0 rfl
  conv=>whnf
  refine Br.mk (fun hb=>?_) (fun hb=>by cases hb)
  conv=>whnf
  exact WRet.same ⟨none,0,rfl,Mem.le.refl _,Nat.le_refl _,(fun _=>rfl),.inl rfl⟩
 | some ad =>
  conv=>whnf
  refine Br.mk (fun hb=>by cases hb) (fun hb=>?_)
  conv=>whnf
  refine WNew.mk fun b1 hb1=>?_
  conv=>whnf
  refine WApp.copyB hb1 (A:=some ad) (n:=O.length) rfl rfl (ocs O) ⟨ocs_len O,fun ad' ha=>q1 ad' ha⟩ (fun ha=>by cases ha) (by omega) fun b cb m1 rest hle1 hcb hbm hcells=>?_
  conv=>whnf
  exact WRet.same ⟨some ⟨b,0,none⟩,cb,rfl,hle1,hcb,(fun h=>by cases h),.inr ⟨b,rest,rfl,hbm,hcells⟩⟩
def WCells (m:Mem) (L:List Value) (ws:List WordR):Prop:=L.length = ws.length * 2 ∧ ∀ k (hk:k < ws.length),∃ a3 c3,L[k * 2]? = some (.slice a3 (ws[k]).ops.length c3) ∧ L[k * 2 + 1]? = some (i (ws[k]).ct) ∧ OAt m (.slice a3 (ws[k]).ops.length c3) (ws[k]).ops
theorem WCells.mono {m m':Mem} {L:List Value} {ws:List WordR} (h:WCells m L ws) (hle:Mem.le m m'):WCells m' L ws:=⟨h.1,fun k hk=>by
 obtain ⟨a3,c3,h1,h2,h3⟩:=h.2 k hk
 exact ⟨a3,c3,h1,h2,h3.mono' hle⟩⟩
theorem wat_list {m:Mem} {a:Option Addr} {n c:Nat} {ws:List WordR} (h:WAt m (.slice a n c) ws):n = ws.length ∧ ws.length ≤ c ∧ (a = none → ws = []) ∧ ∃ L,WCells m L ws ∧ ∀ ad,a = some ad → CellsAt m ad L:=by
 obtain ⟨a',c',e,q0,q1,hcap⟩:=h
 injection e with e1 e2 e3
 subst e1;subst e2;subst e3
 refine ⟨rfl,hcap,q0,?_⟩
 cases a with
 | none =>
  obtain rfl:=q0 rfl
  exact ⟨[],⟨rfl,fun k hk=>by simp at hk⟩,fun ad h=>by cases h⟩
 | some ad =>
  have key:∀ j,j ≤ ws.length → ∃ L:List Value,L.length = j * 2 ∧ CellsAt m ad L ∧ ∀ k (hk:k < ws.length),k < j → ∃ a3 c3,L[k * 2]? = some (.slice a3 (ws[k]).ops.length c3) ∧ L[k * 2 + 1]? = some (i (ws[k]).ct) ∧ OAt m (.slice a3 (ws[k]).ops.length c3) (ws[k]).ops:=by
   intro j
   induction j with
   | zero=>exact fun _=>⟨[],rfl,(fun j v hj=>by simp at hj),fun k _ hk=>by omega⟩
   | succ j ih =>
    intro hj
    obtain ⟨L,hL,hc,hk⟩:=ih (by omega)
    obtain ⟨a3,n3,c3,g1,g2⟩:=q1 ad rfl j (by omega)
    obtain ⟨a4,c4,e4,_⟩:=id g2
    injection e4 with e41 e42 e43
    subst e41;subst e42;subst e43
    refine ⟨L ++ [.slice a3 (ws[j]).ops.length c3,i (ws[j]).ct],by rw [List.length_append,hL];simp;omega,fun q v hq=>?_,fun k hk1 hk2=>?_⟩
    ·by_cases e:q < L.length
     ·rw [List.getElem?_append_left e] at hq;exact hc q v hq
     ·rw [List.getElem?_append_right (by omega),hL] at hq
      have:=g1 (q - j * 2) v hq
      rw [add_add,show j * 2 + (q - j * 2) = q by omega] at this
      exact this
    ·by_cases e:k < j
     ·obtain ⟨a5,c5,f1,f2,f3⟩:=hk k hk1 e
      exact ⟨a5,c5,by rw [List.getElem?_append_left (by omega)];exact f1,by rw [List.getElem?_append_left (by omega)];exact f2,f3⟩
     ·obtain rfl:k = j:=by omega
      refine ⟨a3,c3,?_,?_,g2⟩
      ·rw [List.getElem?_append_right (by omega),hL,Nat.sub_self];rfl
      ·rw [List.getElem?_append_right (by omega),hL,show k * 2 + 1 - k * 2 = 1 by omega];rfl
  obtain ⟨L,hL,hc,hk⟩:=key ws.length (Nat.le_refl _)
  exact ⟨L,⟨hL,fun k h=>hk k h h⟩,fun ad' h=>by cases h;exact hc⟩
theorem wat_of {m:Mem} {b c:Nat} {L rest:List Value} {T:Nat} {ws:List WordR} (h:WCells m L ws) (hb:m b = some (Cells (L ++ rest) T)) (hc:ws.length ≤ c):WAt m (.slice (some ⟨b,0,none⟩) ws.length c) ws:=by
 refine ⟨_,c,rfl,(fun h=>by cases h),fun ad ha k hk=>?_,hc⟩
 cases ha
 obtain ⟨a3,c3,h1,h2,h3⟩:=h.2 k hk
 refine ⟨a3,_,c3,fun q v hq=>?_,h3⟩
 have hq2:q < 2:=(List.getElem?_eq_some_iff.1 hq).1
 rw [add0,show Addr.add ⟨b,k * 2,none⟩ q = (⟨b,0,none⟩:Addr).add (k * 2 + q) by rw [← add0,add_add]]
 refine CellsAt.blk (vs:=L) hb (fun j v hj=>by rw [Nat.zero_add,List.getElem?_append_left (List.getElem?_eq_some_iff.1 hj).1];exact hj) (k * 2 + q) v ?_
 match q,hq2 with
 | 0,_=>cases hq;exact h1
 | 1,_=>cases hq;exact h2
theorem cloneWords_ok {m:Mem} {a:Option Addr} {n c:Nat} {ws:List WordR} (hv:WAt m (.slice a n c) ws) (h1:1 ≤ ws.length) (hlen:ws.length ≤ 1000000) :
  CallsM Tryz.prog 98 [.slice a n c] m fun e m'=>∃ b cc L rest,e = .returned (.slice (some ⟨b,0,none⟩) ws.length cc) ∧ Mem.le m m' ∧ ws.length ≤ cc ∧ m b = none ∧ m' b = some (Cells (L ++ rest) TWord) ∧ WCells m L ws:=by
 obtain ⟨rfl,hcap,q0,L,hL,hc⟩:=wat_list hv
 refine calls_of mixed Tryz.func98 ok_slices_Clone_api_Word_api_Word rfl ?_
 obtain ⟨ad,rfl⟩:∃ ad,a = some ad:=by
  cases a with
  | none=>rw [q0 rfl] at h1;simp at h1
  | some ad=>exact ⟨ad,rfl⟩
 conv=>whnf
 refine Br.mk (fun hb=>by cases hb) (fun hb=>?_)
 conv=>whnf
 refine WNew.mk fun b1 hb1=>?_
 conv=>whnf
 refine WApp.copyB hb1 (A:=some ad) (n:=ws.length) rfl rfl L ⟨hL.1,fun ad' ha=>hc ad' ha⟩ (fun ha=>by cases ha) (by omega) fun b cb m1 rest hle1 hcb hbm hcells=>?_
 conv=>whnf
 exact WRet.same ⟨b,cb,L,rest,rfl,hle1,hcb,hbm,hcells,hL⟩
theorem WCells.set {m:Mem} {L:List Value} {ws:List WordR} (h:WCells m L ws) {k:Nat} (hk:k < ws.length) {A:Option Addr} {c:Nat} (ho:OAt m (.slice A (ws[k]).ops.length c) (ws[k]).ops):WCells m (L.set (k * 2) (.slice A (ws[k]).ops.length c)) ws:=by
 refine ⟨by rw [List.length_set];exact h.1,fun j hj=>?_⟩
 by_cases e:j = k
 ·subst e
  obtain ⟨a3,c3,h1,h2,h3⟩:=h.2 j hj
  exact ⟨A,c,by rw [List.getElem?_set,if_pos rfl,if_pos (by rw [h.1];omega)],by rw [List.getElem?_set,if_neg (by omega)];exact h2,ho⟩
 ·obtain ⟨a3,c3,h1,h2,h3⟩:=h.2 j hj
  exact ⟨a3,c3,by rw [List.getElem?_set,if_neg (by omega)];exact h1,by rw [List.getElem?_set,if_neg (by omega)];exact h2,h3⟩
theorem simClone_ok {m:Mem} (V:CV) {C:CodeR} (hV:CodeAt m V C) (hC:CodeOK C) :
  CallsM Tryz.prog 65 [V.val C] m fun e m'=>∃ V',e = .returned (V'.val C) ∧ Mem.le m m' ∧ CodeAt m' V' C:=by
 refine calls_of mixed Tryz.func65 ok_sim_clone rfl ?_
 have hwl:=hC.wl
 have hsz:=hC.szl
 conv=>whnf
 refine ⟨?_,trivial⟩
 conv=>whnf
 rw [hV.n1]
 have hsz2:IAt m (.slice V.a1 C.sz.length V.c1) C.sz:=by have:=hV.sz;rw [hV.n1] at this;exact this
 have hws2:WAt m (.slice V.a2 C.ws.length V.c2) C.ws:=by have:=hV.ws;rw [hV.n2] at this;exact this
 refine WCall.mk (clone_ok hsz2 (by omega)) ?_
 rintro _ m1 ⟨A1,c1,rfl,hc1,l1,hO1⟩
 have hI1:=hO1.iat hc1
 conv=>whnf
 refine ⟨?_,trivial⟩
 conv=>whnf
 rw [hV.n2]
 refine WCall.mk (cloneWords_ok (hws2.mono l1) hwl.1 (by omega)) ?_
 rintro _ m2 ⟨b,cc,L,rest,rfl,l2,hcc,hbn,hbm,hL⟩
 conv=>whnf
 refine ⟨?_,trivial⟩
 conv=>whnf
 refine ⟨?_,trivial⟩
 have hbm0:m b = none:=none_of_le l1 hbn
 conv=>whnf
 refine WLoop.mk Nat (fun k=>[(15,.val (i k))]) (fun k m'=>k ≤ C.ws.length ∧ Mem.le m1 (m'.del b) ∧ ∃ L,m' b = some (Cells (L ++ rest) TWord) ∧ WCells (m'.del b) L C.ws) (fun k=>C.ws.length - k) 0 ⟨rfl,trivial⟩
  ⟨Nat.zero_le _,le_del l2 hbn,L,hbm,hL.mono (le_del l2 hbn)⟩ ?_
 rintro k m3 ⟨hk,l3,L3,hb3,hL3⟩
 have hle3:Mem.le m1 m3:=l3.trans (del_le m3 b)
 conv=>whnf
 refine Br.mk (fun hb=>?_) (fun hb=>?_)
 ·have hk2:k < C.ws.length:=by
   have:(k:Int) < (C.ws.length:Nat):=of_decide_eq_true hb
   omega
  obtain ⟨a3,c3,g1,g2,g3⟩:=hL3.2 k hk2
  have hlt:k * 2 < L3.length:=by rw [hL3.1];omega
  have hol:=hC.ol _ (List.getElem_mem hk2)
  conv=>whnf
  refine WIdx.mk ⟨b,0,none⟩ rfl ⟨by omega,by omega⟩ ?_
  conv=>whnf
  refine WLd.mk (.slice a3 (C.ws[k]).ops.length c3) ?_ ?_
  ·rw [add_add,add0]
   refine ⟨_,_,_,hb3,rfl,?_⟩
   have:(L3 ++ rest)[k * 2]? = some (.slice a3 (C.ws[k]).ops.length c3):=by rw [List.getElem?_append_left hlt];exact g1
   simpa using this
  conv=>whnf
  refine ⟨?_,trivial⟩
  conv=>whnf
  refine WCall.mk (cloneOps_ok (g3.mono' (del_le m3 b)) (by omega)) ?_
  rintro _ m4 ⟨A4,c4,rfl,l4,hc4,hA0,hA4⟩
  have hb4:=l4 _ _ hb3
  conv=>whnf
  refine WIdx.mk ⟨b,0,none⟩ rfl ⟨by omega,by omega⟩ ?_
  conv=>whnf
  refine ⟨?_,trivial⟩
  conv=>whnf
  rw [add_add]
  have er:Int.toNat ((k:Nat):Int) * 2 + 0 = k * 2:=by simp
  rw [er]
  refine WSt.at _ _ hb4 (show k * 2 + 1 ≤ _ by rw [List.length_append];omega) ?_
  have hsp:spliceL (L3 ++ rest) (k * 2) (cellsL (.slice A4 (C.ws[k]).ops.length c4)) = L3.set (k * 2) (.slice A4 (C.ws[k]).ops.length c4) ++ rest:=by
   show (L3 ++ rest).set _ _ = _
   rw [List.set_append_left _ _ hlt]
  rw [hsp]
  have l5:Mem.le (m3.del b) (m4.del b):=del_mono l4 b
  have hO:OAt (m4.del b) (.slice A4 (C.ws[k]).ops.length c4) (C.ws[k]).ops:=by
   refine ⟨A4,c4,rfl,hA0,fun ad ha=>?_,hc4⟩
   rcases hA4 with e | ⟨bo,ro,e1,e2,e3⟩
   ·rw [e];exact fun j v hj=>by simp [ocs] at hj
   ·rw [e1] at ha;cases ha
    have hne:bo ≠ b:=fun e=>by subst e;rw [hb3] at e2;cases e2
    exact CellsAt.blk (by rw [del_other m4 hne];exact e3) fun j v hj=>by rw [Nat.zero_add,List.getElem?_append_left (List.getElem?_eq_some_iff.1 hj).1];exact hj
  conv=>whnf
  refine WRng.mk (by apply wrap_i64 <;> omega) ?_
  conv=>whnf
  refine ⟨k + 1,⟨rfl,trivial⟩,⟨hk2,by rw [del_set];exact l3.trans l5,_,Mem.set_same _ _ _,?_⟩,Nat.sub_lt_sub_left hk2 (Nat.lt_succ_self k)⟩
  rw [del_set]
  exact (hL3.mono l5).set hk2 hO
 ·conv=>whnf
  refine WRet.same ⟨⟨A1,C.sz.length,c1,some ⟨b,0,none⟩,C.ws.length,cc⟩,rfl,l1.trans hle3,⟨hI1.mono hle3,wat_of (hL3.mono (del_le m3 b)) hb3 hcc,hV.szl,hV.wsl⟩⟩
end Go.Proofs.YtleofbpepfmfgaaGreatDoor
