import Derived.Test.YtleofbpepfmfgaaGreatDoorVxSimClo
import Derived.Test.YtleofbpepfmfgaaGreatDoorVxSimRun
import Derived.KernelRfl
set_option linter.unusedSimpArgs false
set_option linter.unusedVariables false
set_option maxRecDepth 100000
namespace Go.Proofs.YtleofbpepfmfgaaGreatDoor
open Go Go.Vx
open Go.Vx.IOp Go.Vx.IR Go.Vx.Opd
def WaitsPost (m:Mem) (C:CodeR) (M:Mac) (word:Int) (e:Ending) (m':Mem):Prop :=
 Mem.le m m' ∧ (fitsCode C M ≠ 0 → e = .returned (.tuple ⟨[ns,i (fitsCode C M)]⟩)) ∧ (fitsCode C M = 0 → (word < 0 ∨ word ≥ C.ws.length) → e = .returned (.tuple ⟨[ns,i 2]⟩)) ∧
  (fitsCode C M = 0 → 0 ≤ word ∧ word < C.ws.length → ∃ A,Least C M A ∧ OkW C A ∧ (A[word.toNat]? = some none → e = .returned (.tuple ⟨[ns,i 5]⟩)) ∧
   ∀ w,A[word.toNat]? = some (some w) → ∃ a c,e = .returned (.tuple ⟨[.slice a w.length c,i 0]⟩) ∧ IAt m' (.slice a w.length c) (w.map fun n:Nat=>(n:Int)))
theorem simWaits_ok {m:Mem} {T:Nat} {fr:Nat × Nat} (hm:m 0 = some (.cells ⟨cells0⟩ T fr)) (V:CV) {C:CodeR} (M:Mac) (hV:CodeAt m V C) (word:Int) :
  CallsM Tryz.prog 23 [V.val C,M.val,i word] m (WaitsPost m C M word):=by
 refine calls_of mixed Tryz.func23 ok_sim_Waits rfl ?_
 have hn2:=hV.n2
 conv=>whnf
 refine WCall.mk (wFits_ok hm V hV M) ?_
 rintro _ m1 ⟨rfl,l1⟩
 conv=>whnf
 refine Br.mk (fun h0=>?_) (fun h0=>?_)
 ·have h0:fitsCode C M ≠ 0:=by simpa using h0
  conv=>whnf
  exact WRet.same ⟨l1,fun _=>rfl,fun h=>absurd h h0,fun h=>absurd h h0⟩
 have h0:fitsCode C M = 0:=by simpa using h0
 obtain ⟨hC,hM⟩:=fits_ok3 h0
 have hrg:=hC.rg
 conv=>whnf
 refine WSc.mk (v:=decide (word ≥ (V.n2:Int))) (fun _=>And.intro (Mem.le.refl _) rfl) ?_
 conv=>whnf
 refine Br.mk (fun h1=>?_) (fun h1=>?_)
 ·have h1:(decide (word < 0) || decide (word ≥ (V.n2:Int))) = true:=h1
  simp only [Bool.or_eq_true,decide_eq_true_eq] at h1
  conv=>whnf
  exact WRet.same ⟨l1,fun h=>absurd h0 h,fun _ _=>rfl,fun _ h=>by omega⟩
 have h1:(decide (word < 0) || decide (word ≥ (V.n2:Int))) = false:=h1
 simp only [Bool.or_eq_false_iff,decide_eq_false_iff_not] at h1
 obtain ⟨k,rfl⟩:∃ k:Nat,word = k:=⟨word.toNat,by omega⟩
 have hk:k < C.ws.length:=by omega
 conv=>whnf
 refine WCall.mk (simFind_ok (l1 _ _ hm) V M (hV.mono l1) hC hM) ?_
 rintro _ m2 ⟨S,rfl,hS,l2,hf,hLe,hOk⟩
 have hAl:=hLe.is.len
 have L2:=l1.trans l2
 obtain ⟨x,hx⟩:∃ x,S.A[k]? = some x:=⟨_,List.getElem?_eq_getElem (by rw [hAl];exact hk)⟩
 have hrow:=hS.atRow hx
 conv=>whnf
 refine WLd.mk _ hS.at17 ?_
 conv=>whnf
 refine WIdx.mk _ rfl ⟨by omega,by omega⟩ ?_
 cases x with
 | none =>
  conv=>whnf
  refine WLd.mk ns (by simpa [Wt.rowV] using hrow) ?_
  conv=>whnf
  refine Br.mk (fun _=>?_) (fun hh=>by cases hh)
  conv=>whnf
  refine WRet.same ⟨L2,fun h=>absurd h0 h,fun _ h=>by omega,fun _ _=>⟨S.A,hLe,hOk,fun _=>rfl,fun w hw=>?_⟩⟩
  rw [Int.toNat_natCast,hx] at hw;cases hw
 | some w =>
  have hub:=hOk.ub k w hx
  have hwl:=hOk.wl k w hx
  have hR:=hS.row k w hx
  conv=>whnf
  refine WLd.mk (.slice (some ⟨S.rb k,0,none⟩) w.length (S.rc k)) (by simpa [Wt.rowV] using hrow) ?_
  conv=>whnf
  refine Br.mk (fun hh=>by cases hh) (fun _=>?_)
  conv=>whnf
  refine WLd.mk _ hS.at17 ?_
  conv=>whnf
  refine WIdx.mk _ rfl ⟨by omega,by omega⟩ ?_
  conv=>whnf
  refine WLd.mk (.slice (some ⟨S.rb k,0,none⟩) w.length (S.rc k)) (by simpa [Wt.rowV] using hrow) ?_
  conv=>whnf
  refine WLoop.mk (Nat × Option Addr × Nat) (fun x=>[(10,.val (.slice x.2.1 x.1 x.2.2)),(47,.val (i x.1))]) (fun x m'=>x.1 ≤ w.length ∧ Mem.le m2 m' ∧ PushI m2 m' x.2.1 x.2.2 ((w.take x.1).map fun n:Nat=>(n:Int))) (fun x=>w.length - x.1) (0,none,0)
   ⟨rfl,rfl,trivial⟩ ⟨Nat.zero_le _,Mem.le.refl _,.inl ⟨rfl,rfl,rfl⟩⟩ ?_
  rintro ⟨j,a,c⟩ m3 ⟨hj,l3,hP⟩
  simp only at hj hP
  conv=>whnf
  refine Br.mk (fun hb=>?_) (fun hb=>?_)
  ·have hj2:j < w.length:=by
    have:(j:Int) < (w.length:Nat):=of_decide_eq_true hb
    omega
   have h8:=hub _ (List.getElem_mem hj2)
   have hcell:=(hR.mono l3).cell hj2
   rw [List.getD_eq_getElem?_getD,List.getElem?_eq_getElem hj2,Option.getD_some] at hcell
   conv=>whnf
   refine WIdx.mk _ rfl ⟨by omega,by omega⟩ ?_
   conv=>whnf
   refine WLd.mk (v8 w[j]) (by simpa using hcell) ?_
   conv=>whnf
   refine WRng.mk (by apply wrap_i64 <;> omega) ?_
   conv=>whnf
   refine WNew.ab fun bx m4 hbx l4 cx=>?_
   conv=>whnf
   refine push_ok (l3.trans l4) (hP.mono l4) cx (by simp;omega) (by simp;omega) fun a' c' m5 l5 hP5=>?_
   have e1:((w.take j).map fun n:Nat=>(n:Int)).length = j:=by simp;omega
   have e2:(w.take (j + 1)).map (fun n:Nat=>(n:Int)) = (w.take j).map (fun n:Nat=>(n:Int)) ++ [(w[j]:Int)]:=by rw [List.take_succ_eq_append_getElem hj2,List.map_append];rfl
   conv=>whnf
   refine WRng.mk (by apply wrap_i64 <;> omega) ?_
   conv=>whnf
   refine ⟨(j + 1,a',c'),⟨?_,rfl,trivial⟩,⟨hj2,l5,?_⟩,Nat.sub_lt_sub_left hj2 (Nat.lt_succ_self j)⟩
   ·show some (AV.val (.slice a' (((w.take j).map fun n:Nat=>(n:Int)).length + 1) c')) = _
    rw [e1]
   ·show PushI m2 m5 a' c' ((w.take (j + 1)).map fun n:Nat=>(n:Int))
    rw [e2];exact hP5
  ·have hj2:j = w.length:=by
    have:¬ (j:Int) < (w.length:Nat):=of_decide_eq_false hb
    omega
   subst hj2
   rw [List.take_length] at hP
   conv=>whnf
   refine WRet.same ⟨L2.trans l3,fun h=>absurd h0 h,fun _ h=>by omega,fun _ _=>⟨S.A,hLe,hOk,fun h=>?_,fun w' hw=>?_⟩⟩
   ·rw [Int.toNat_natCast,hx] at h;cases h
   ·rw [Int.toNat_natCast,hx] at hw
    cases hw
    have hI:=hP.iat
    rw [List.length_map] at hI
    exact ⟨a,c,rfl,hI⟩
end Go.Proofs.YtleofbpepfmfgaaGreatDoor
set_option linter.unusedSimpArgs false
set_option linter.unusedVariables false
set_option maxRecDepth 100000
namespace Go.Proofs.YtleofbpepfmfgaaGreatDoor
open Go Go.Vx
open Go.Vx.IOp Go.Vx.IR Go.Vx.Opd
def exO1:OpR:=⟨13,1,0,0,0,0,-1⟩
def exO2:OpR:=⟨27,0,1,0,0,0,-1⟩
def exC:CodeR:=⟨[],1,2,0,0,[⟨[exO1],-1⟩,⟨[exO2],-1⟩]⟩
def exM:Mac:=⟨1,1,1,1,1,3,2,1,32,2,4⟩
theorem example_ok (m:Mem):CallsM Tryz.prog 45 [] m fun e m'=>∃ V,e = .returned (.tuple ⟨[V.val exC,exM.val]⟩) ∧ Mem.le m m' ∧ CodeAt m' V exC:=by
 refine calls_of mixed Tryz.func45 ok_biremelaw27_example rfl ?_
 conv=>whnf
 refine WNew.ab fun b1 m1 hb1 l1 c1=>?_
 conv=>whnf
 refine WNew.ab fun b2 m2 hb2 l2 c2=>?_
 conv=>whnf
 refine WNew.ab fun b3 m3 hb3 l3 c3=>?_
 conv=>whnf
 have c1:=l3 _ _ (l2 _ _ c1)
 have c2:=l3 _ _ c2
 have ho:∀ {b:Nat} {o:OpR},m3 b = some (Cells o.cells 110) → OAt m3 (.slice (some ⟨b,0,none⟩) [o].length 1) [o]:=fun {b o} h=>by
  refine ⟨_,1,rfl,(fun h=>by cases h),fun ad ha=>?_,Nat.le_refl _⟩
  cases ha
  exact CellsAt.blk h fun q v hq=>by rw [Nat.zero_add];simpa [ocs] using hq
 refine WRet.same ⟨⟨none,0,0,some ⟨b3,0,none⟩,2,2⟩,rfl,(l1.trans l2).trans l3,⟨none,0,rfl,fun _=>rfl,(fun ad h=>by cases h),Nat.le_refl _⟩,?_,by decide,by decide⟩
 have hL:WCells m3 [.slice (some ⟨b1,0,none⟩) 1 1,i (-1),.slice (some ⟨b2,0,none⟩) 1 1,i (-1)] exC.ws:=by
  refine ⟨rfl,fun k hk=>?_⟩
  match k,hk with
  | 0,_=>exact ⟨_,_,rfl,rfl,ho (o:=exO1) c1⟩
  | 1,_=>exact ⟨_,_,rfl,rfl,ho (o:=exO2) c2⟩
 have hc3:m3 b3 = some (Cells ([.slice (some ⟨b1,0,none⟩) 1 1,i (-1),.slice (some ⟨b2,0,none⟩) 1 1,i (-1)] ++ []) TWord):=c3
 exact wat_of (c:=2) hL hc3 (Nat.le_refl _)
theorem ex_fits:fitsCode exC exM = 0:=by kernel_rfl
theorem ex_run1:runS exC exM [] 10 (beginS exC [7]) = { beginS exC [7] with word:=0,took:=2,begun:=1,ended:=true,kind:=1,value:=0 }:=by kernel_rfl
theorem ex_run2:runS exC exM [1] 10 (beginS exC [7]) = { beginS exC [7] with word:=0,took:=2,begun:=1,ended:=true,kind:=1,value:=49,regs:=[⟨7,0⟩,⟨49,0⟩] }:=by kernel_rfl
theorem ex_run3:runS exC exM [] 1 (beginS exC [7]) = { beginS exC [7] with word:=1,took:=1,begun:=1,way:=[⟨1,⟨49,0⟩,3⟩] }:=by kernel_rfl
def exA:WS:=[some [0,0],some [0,2]]
theorem ex_is:IsW exC exM exA:=by
 refine ⟨rfl,fun k w hk=>?_,⟨_,rfl⟩,fun k w hk p hp=>?_⟩
 ·match k,hk with
  | 0,hk=>cases hk;rfl
  | 1,hk=>cases hk;rfl
 ·match k,hk with
  | 0,hk =>
   cases hk
   have hp:p ∈ [((1:Nat),[0,2])]:=hp
   rw [List.mem_singleton] at hp
   subst hp
   exact ⟨[0,2],rfl,leW.refl _⟩
  | 1,hk =>
   cases hk
   have hp:p ∈ ([]:List (Nat × List Nat)):=hp
   cases hp
theorem ex_two {A:WS} (h:IsW exC exM A):∃ w,A[1]? = some (some w) ∧ 2 ≤ w.getD 1 0:=by
 obtain ⟨w0,h0⟩:=h.zero
 have hl:=h.wl 0 w0 h0
 have hl:w0.length = 2:=hl
 match w0,hl with
 | [a,b],_ =>
  obtain ⟨w',h1,h2⟩:=h.go 0 _ h0 (1,decW (stepW exM [a,b] exO1)) (by
   show _ ∈ outsW exC exM 0 (-1) [exO1] [a,b]
   have:outsW exC exM 0 (-1) [exO1] [a,b] = [(1,decW (stepW exM [a,b] exO1))]:=rfl
   rw [this];exact List.mem_singleton.2 rfl)
  refine ⟨w',h1,?_⟩
  have h3:=h2 1
  have h4:(decW (stepW exM [a,b] exO1)).getD 1 0 = max b 3 - 1:=rfl
  have h3:(decW (stepW exM [a,b] exO1)).getD 1 0 ≤ w'.getD 1 0:=h3
  rw [h4] at h3
  omega
theorem ex_strict {A:WS} (h:Least exC exM A):¬ strictA exC exM A:=fun hs=>by
 obtain ⟨w,h1,h2⟩:=ex_two h.is
 have h3:=hs 1 w h1
 have h4:strictO exM w [exO2] w = true:=h3
 unfold strictO at h4
 rw [Bool.and_eq_true] at h4
 have h5:(readsS exO2).all (fun r=>w.getD r.toNat 0 == 0) = (w.getD 1 0 == 0 && true):=rfl
 rw [h5] at h4
 simp only [Bool.and_true,beq_iff_eq] at h4
 omega
theorem ex_waits {A:WS} (h:Least exC exM A):∃ w,A[1]? = some (some w) ∧ w.length = 2 ∧ w.getD 1 0 = 2:=by
 obtain ⟨w,h1,h2⟩:=ex_two h.is
 obtain ⟨w',h3,h4⟩:=h.le exA ex_is 1 w h1
 have h3:some (some [0,2]) = some (some w'):=h3
 cases h3
 have h5:w.getD 1 0 ≤ 2:=h4 1
 exact ⟨w,h1,h.is.wl 1 w h1,by omega⟩
end Go.Proofs.YtleofbpepfmfgaaGreatDoor
set_option linter.unusedSimpArgs false
set_option linter.unusedVariables false
set_option maxRecDepth 100000
namespace Go.Proofs.YtleofbpepfmfgaaGreatDoor
open Go Go.Vx
open Go.Vx.IOp Go.Vx.IR Go.Vx.Opd
theorem can_ex {C:CodeR} {M:Mac} {al:Nat} (h:fitsCode C M = 0) (ha:(al:Int) = C.pr) {n:Int} (hn:0 ≤ n ∧ n ≤ 4194304) {sl:Nat} (hs:sl ≤ 1000):canS C M al n sl = 0:=by
 unfold canS
 rw [if_neg (by simp [h]),if_neg ?_,if_neg (by omega)]
 simp only [Bool.or_eq_true,bne_iff_ne,ne_eq,decide_eq_true_eq,not_or,Decidable.not_not]
 omega
theorem iat_one {m:Mem} {b z':Nat} {z:Int} (h:m b = some (Cells [i z] z')):IAt m (.slice (some ⟨b,0,none⟩) [z].length 1) [z]:=by
 refine ⟨_,1,rfl,(fun h=>by cases h),fun ad ha=>?_,Nat.le_refl _⟩
 cases ha
 exact CellsAt.blk h fun q v hq=>by rw [Nat.zero_add];exact hq
theorem iat_nil (m:Mem):IAt m (.slice none ([]:List Int).length 0) []:=⟨none,0,rfl,fun _=>rfl,(fun ad h=>by cases h),Nat.le_refl _⟩
theorem ex_start:startS exC exM [(7:Int)].length ([]:List Int).length = 0:=by
 unfold startS;rw [ex_fits];rfl
set_option maxHeartbeats 400000 in
theorem alive_ok {m:Mem} {T:Nat} {fr:Nat × Nat} (hm:m 0 = some (.cells ⟨cells0⟩ T fr)) :
  CallsM Tryz.prog 14 [] m fun e m'=>e = .returned (.bool true) ∧ m' = m:=by
 refine calls_of mixed Tryz.func14 ok_biremelaw27_alive rfl ?_
 have hC:=(fits_ok3 ex_fits).1
 conv=>whnf
 refine WCall.mk (example_ok m) ?_
 rintro _ m1 ⟨V,rfl,l1,hV⟩
 conv=>whnf
 refine WNew.ab fun b1 m2 hb1 l2 c2=>?_
 have L2:=l1.trans l2
 conv=>whnf
 refine WCall.mk (simRun_ok (L2 _ _ hm) V exM (hV.mono l2) (iat_one c2) (iat_nil m2) 10 (.inl (by decide))) ?_
 rintro _ m3 ⟨l3,_,hr⟩
 obtain ⟨v,rfl,A1,c1,rfl,_⟩:=hr (can_ex ex_fits rfl (by decide) (by decide))
 rw [show Int.toNat 10 = 10 from rfl,ex_run1]
 have L3:=L2.trans l3
 conv=>whnf
 refine WNew.ab fun b2 m4 hb2 l4 c4=>?_
 conv=>whnf
 refine WNew.ab fun b3 m5 hb3 l5 c5=>?_
 have L5:=(L3.trans l4).trans l5
 have hV5:=hV.mono (((l2.trans l3).trans l4).trans l5)
 conv=>whnf
 refine WCall.mk (simRun_ok (L5 _ _ hm) V exM hV5 (iat_one (l5 _ _ c4)) (iat_one c5) 10 (.inl (by decide))) ?_
 rintro _ m6 ⟨l6,_,hr⟩
 obtain ⟨v,rfl,A2,c2',rfl,_⟩:=hr (can_ex ex_fits rfl (by decide) (by decide))
 rw [show Int.toNat 10 = 10 from rfl,ex_run2]
 have L6:=L5.trans l6
 have hV6:=hV5.mono l6
 conv=>whnf
 refine WCall.mk (strict_ok (L6 _ _ hm) V exM hV6) ?_
 rintro _ m7 ⟨b,A,rfl,l7,_,hst⟩
 obtain ⟨hLe,hiff⟩:=hst ex_fits
 have hb:b = false:=by
  cases b with
  | false=>rfl
  | true=>exact absurd (hiff.1 rfl) (ex_strict hLe)
 subst hb
 rw [ex_fits]
 have L7:=L6.trans l7
 have hV7:=hV6.mono l7
 conv=>whnf
 refine WCall.mk (simWaits_ok (L7 _ _ hm) V exM hV7 1) ?_
 rintro _ m8 ⟨l8,_,_,hw⟩
 obtain ⟨A',hLe',_,_,hw2⟩:=hw ex_fits ⟨by decide,by decide⟩
 obtain ⟨w,hw1,hwl,hw3⟩:=ex_waits hLe'
 obtain ⟨wa,wc,rfl,hI⟩:=hw2 w hw1
 have L8:=L7.trans l8
 have hV8:=hV7.mono l8
 obtain ⟨x,y,rfl⟩:∃ x y,w = [x,y]:=by
  match w,hwl with
  | [x,y],_=>exact ⟨x,y,rfl⟩
 obtain rfl:y = 2:=hw3
 conv=>whnf
 refine WNew.ab fun b4 m9 hb4 l9 c9=>?_
 have L9:=L8.trans l9
 conv=>whnf
 have hst:=simStart_ok (C:=exC) (args:=[7]) (sh:=[]) (L9 _ _ hm) V exM (hV8.mono l9) (iat_one c9) (iat_nil m9)
 refine WCall.mk hst ?_
 rintro _ m10 ⟨l10,_,hs⟩
 obtain ⟨p,mb,V',sv,H,rfl,lb,hB,hS⟩:=hs ex_start
 have L10:=L9.trans l10
 conv=>whnf
 refine WSc.mk (v:=false) (fun _=>And.intro (Mem.le.refl _) rfl) ?_
 conv=>whnf
 refine Br.mk (fun hh=>by cases hh) (fun _=>?_)
 have hG:=begin_good hC (args:=[7]) (by decide)
 conv=>whnf
 refine WCall.mk (sRun_ok hS hB hG 1 (by decide) (by decide) (Nat.zero_le _)) ?_
 rintro _ m11 ⟨H2,v,G2,rfl,A3,c3,rfl,_⟩
 have hG2:=Good.run (M:=exM) (sh:=[]) hC (n:=1) hG
 rw [ex_run3] at G2 hG2
 rw [ex_run3]
 have h2:=G2.at'
 conv=>whnf
 refine WCall.pure (sOnWay_ok h2 hB) ?_
 conv=>whnf
 refine WCall.mk (sSettle_ok h2 hB hG2 (by decide)) ?_
 rintro _ m12 ⟨rfl,H3,G3⟩
 have h3:=G3.at'
 conv=>whnf
 refine WCall.pure (sReg_ok h3 hB 1) ?_
 rw [if_pos (by decide)]
 have hfin:Mem.le m m12:=(L9.trans lb).trans h3.le
 obtain ⟨wa',wc',ew,w0,w1,_⟩:=hI
 injection ew with ew1 ew2 ew3
 subst ew1;subst ew3
 obtain ⟨ad,rfl⟩:∃ ad,wa = some ad:=by
  cases wa with
  | none=>have:=w0 rfl;cases this
  | some ad=>exact ⟨ad,rfl⟩
 have hI12:CellAt m12 (ad.add 1) (i 2):=(w1 ad rfl 1 _ rfl).mono ((l9.trans lb).trans h3.le)
 conv=>whnf
 refine WSc.mk (v:=true) (fun _=>And.intro (Mem.le.refl _) rfl) ?_
 conv=>whnf
 refine WSc.mk (v:=true) (fun _=>And.intro (Mem.le.refl _) rfl) ?_
 conv=>whnf
 refine WSc.mk (v:=true) (fun _=>And.intro (Mem.le.refl _) rfl) ?_
 conv=>whnf
 refine WSc.mk (v:=true) (fun _=>And.intro (Mem.le.refl _) rfl) ?_
 conv=>whnf
 refine WSc.mk (v:=true) (fun _=>And.intro (Mem.le.refl _) rfl) ?_
 conv=>whnf
 refine WSc.mk (v:=true) (fun _=>And.intro (Mem.le.refl _) rfl) ?_
 conv=>whnf
 refine WSc.mk (v:=true) (fun _=>And.intro (Mem.le.refl _) rfl) ?_
 conv=>whnf
 refine WSc.mk (v:=true) (fun _=>And.intro (Mem.le.refl _) rfl) ?_
 conv=>whnf
 refine WSc.mk (v:=true) (fun _=>And.intro (Mem.le.refl _) rfl) ?_
 conv=>whnf
 refine WSc.mk (v:=true) (fun _=>?_) ?_
 ·conv=>whnf
  refine WIdx.mk ad rfl ⟨by decide,show (1:Int) < (2:Nat) by decide⟩ ?_
  conv=>whnf
  refine WLd.mk (i 2) hI12 ?_
  conv=>whnf
  exact And.intro (Mem.le.refl _) rfl
 conv=>whnf
 refine WSc.mk (v:=true) (fun _=>And.intro (Mem.le.refl _) rfl) ?_
 conv=>whnf
 refine WSc.mk (v:=true) (fun _=>And.intro (Mem.le.refl _) rfl) ?_
 conv=>whnf
 refine WSc.mk (v:=true) (fun _=>And.intro (Mem.le.refl _) rfl) ?_
 conv=>whnf
 refine WSc.mk (v:=true) (fun _=>And.intro (Mem.le.refl _) rfl) ?_
 conv=>whnf
 refine WSc.mk (v:=true) (fun _=>And.intro (Mem.le.refl _) rfl) ?_
 conv=>whnf
 refine WSc.mk (v:=true) (fun _=>And.intro (Mem.le.refl _) rfl) ?_
 conv=>whnf
 refine WSc.mk (v:=true) (fun _=>And.intro (Mem.le.refl _) rfl) ?_
 conv=>whnf
 exact WRet.mk hfin ⟨rfl,rfl⟩
end Go.Proofs.YtleofbpepfmfgaaGreatDoor
set_option linter.unusedSimpArgs false
set_option linter.unusedVariables false
set_option maxRecDepth 100000
namespace Go.Proofs.YtleofbpepfmfgaaGreatDoor
open Go Go.Vx
open Go.Vx.IOp Go.Vx.IR Go.Vx.Opd
theorem refTraps_ok (m:Mem) (o:OpR):PureM Tryz.prog 86 [o.val] m (.bool (mayTrapS o)):=by
 refine calls_of mixed Tryz.func86 ok_biremeref26_Traps rfl ?_
 have key:∀ z:Bool,(o.kd == 14 || o.kd == 15 || o.kd == 16 || o.kd == 17 || o.kd == 20 || o.kd == 21 || o.kd == 22 || o.kd == 27 || o.kd == 28) = z → mayTrapS o = (z || o.gd != -1):=fun z h=>by unfold mayTrapS;rw [h]
 repeat' (conv=>whnf
          first
          | (refine Br.mk (fun hh=>?_) (fun hh=>?_) <;> try (cases hh;done))
          | (exact WRet.same ⟨by first | (rw [key true (by simp_all)];rfl) | (rw [key false (by simp_all)];rfl),rfl⟩))
theorem refWrites_ok (m:Mem) (o:OpR) (hk:1 ≤ o.kd ∧ o.kd ≤ 28):PureM Tryz.prog 84 [o.val] m (.tuple ⟨[i (if uD o.kd = true then o.ds else 0),.bool (uD o.kd)]⟩):=by
 refine calls_of mixed Tryz.func84 ok_biremeref18_Writes rfl ?_
 have key:∀ z:Bool,(o.kd == 17 || o.kd == 19 || o.kd == 20 || o.kd == 21 || o.kd == 22) = z → uD o.kd = !(z || (decide (o.kd < 1) || decide (o.kd > 25))):=fun z h=>by
  have h2:(decide (o.kd < 1) || decide (o.kd > 25)) = (o.kd == 26 || o.kd == 27 || o.kd == 28):=by
   rw [Bool.eq_iff_iff];simp only [Bool.or_eq_true,decide_eq_true_eq,beq_iff_eq];omega
  unfold uD;rw [← h,h2];simp only [Bool.or_assoc]
 repeat' (conv=>whnf
          first
          | (refine WSc.mk (v:=decide (o.kd > 25)) (fun _=>And.intro (Mem.le.refl _) rfl) ?_)
          | (refine Br.mk (fun (hh:scB (decide (o.kd < 1)) false (decide (o.kd > 25)) = true)=>?_) (fun (hh:scB (decide (o.kd < 1)) false (decide (o.kd > 25)) = false)=>?_)
             ·replace hh:(decide (o.kd < 1) || decide (o.kd > 25)) = true:=hh
              conv=>whnf
              refine WRet.same ⟨?_,rfl⟩
              rw [key false (by simp_all),hh];rfl
             ·replace hh:(decide (o.kd < 1) || decide (o.kd > 25)) = false:=hh
              conv=>whnf
              refine WRet.same ⟨?_,rfl⟩
              rw [key false (by simp_all),hh];rfl)
          | (refine Br.mk (fun hh=>?_) (fun hh=>?_) <;> try (cases hh;done))
          | (refine WRet.same ⟨?_,rfl⟩;rw [key true (by simp_all)];rfl))
theorem refLat_ok (m:Mem) (M:Mac) (k:Int):PureM Tryz.prog 85 [M.val,i k] m (i (M.lat (classS k).1.toNat)):=by
 refine calls_of mixed Tryz.func85 ok_biremeref19_Latency rfl ?_
 have hc:=classS_in k
 conv=>whnf
 refine WCall.pure (refClass_ok m k) ?_
 unfold pairV
 generalize (classS k).1 = q at *
 conv=>whnf
 refine WBnd.mk ⟨by omega,by omega⟩ ?_
 conv=>whnf
 refine WGet.mk (i (M.lat q.toNat)) (by rcases hc with rfl | rfl | rfl | rfl <;> rfl) ?_
 conv=>whnf
 exact WRet.same ⟨rfl,rfl⟩
def waysR (C:CodeR) (M:Mac) (k:Nat) (ct:Int):List OpR → List Nat → List (Nat × List Nat)
 | [],w=>[(k + 1,decW w)]
 | o :: os,w =>
  (if mayTrapS o = true ∧ 0 ≤ ct then [(ct.toNat,zerosW C)] else []) ++ ((if o.kd = 21 ∨ o.kd = 26 then [(o.n.toNat,decW w)] else []) ++ (if leavesS o = true then [] else waysR C M k ct os (stepW M w o)))
theorem step_exit {M:Mac} {w:List Nat} {o:OpR} (h:o.kd = 21 ∨ o.kd = 26):stepW M w o = w:=by
 unfold stepW wrS
 have:uD o.kd = false:=by rcases h with h | h <;> rw [h] <;> rfl
 rw [if_neg (by rw [this];decide)]
theorem mem_waysR {C:CodeR} {M:Mac} {k:Nat} {ct:Int} {p:Nat × List Nat}:∀ {L:List OpR} {w:List Nat},p ∈ waysR C M k ct L w ↔ p ∈ outsW C M k ct L w
 | [],w=>Iff.rfl
 | o :: os,w=>by
  unfold waysR outsW
  have e:(if o.kd = 21 ∨ o.kd = 26 then [(o.n.toNat,decW (stepW M w o))] else []) = (if o.kd = 21 ∨ o.kd = 26 then [(o.n.toNat,decW w)] else []):=by
   split
   ·rename_i h;rw [step_exit h]
   ·rfl
  have ih:=mem_waysR (C:=C) (M:=M) (k:=k) (ct:=ct) (p:=p) (L:=os) (w:=stepW M w o)
  rw [e]
  simp only [List.mem_append]
  rw [or_left_comm]
  refine or_congr Iff.rfl (or_congr Iff.rfl ?_)
  split
  ·exact Iff.rfl
  ·exact ih
theorem round_inv2 {C:CodeR} {M:Mac} (hC:CodeOK C) (hd:∀ o,dlS M o ≤ 8) {A:WS} {W R:List Nat} {k:Nat} {w:List Nat} {P:List (Nat × List Nat)} (hP:∀ p,p ∈ P ↔ p ∈ outsW C M k (wordAt C k).ct (wordAt C k).ops w) (h:InvW C M A W) (hk:A[k]? = some (some w)) (hR:∀ x ∈ W,x = k ∨ x ∈ R) (hR2:∀ x ∈ R,x ∈ W) :
  InvW C M (P.foldl meetW (A,R)).1 (P.foldl meetW (A,R)).2 ∧ 2 * phi C.rg.toNat (P.foldl meetW (A,R)).1 + (P.foldl meetW (A,R)).2.length ≤ 2 * phi C.rg.toNat A + R.length:=by
 obtain ⟨a1,a2,a3,a4,a5⟩:=fold_all (W:=R) h.ok (P:=P) fun p hp=>outs_ok hC hd h.ok hk p ((hP p).1 hp)
 generalize P.foldl meetW (A,R) = S at *
 obtain ⟨A',W'⟩:=S
 simp only at a1 a2 a3 a4 a5 ⊢
 refine ⟨⟨a1,?_,fun j hj=>?_,fun j v hj hn p hp=>?_,fun B hB=>a5 B (fun p hp=>?_) (h.le B hB)⟩,a4⟩
 ·obtain ⟨v,hv⟩:=h.zero
  obtain ⟨v',g,_⟩:=a2.up 0 v hv
  exact ⟨v',g⟩
 ·rcases a2.wk j hj with g | g
  ·obtain ⟨v,hv⟩:=h.wk j (hR2 j g)
   obtain ⟨v',g,_⟩:=a2.up j v hv
   exact ⟨v',g⟩
  ·exact g
 ·rcases a2.new j v hj with ⟨u,hu⟩ | g
  ·obtain ⟨u',g1,g2,g3⟩:=a2.up j u hu
   rw [hj] at g1;cases g1
   rcases g3 with g3 | g3
   ·subst g3
    by_cases e:j = k
    ·subst e
     rw [hk] at hu;cases hu
     exact a3 p ((hP p).2 hp)
    ·have hjW:j ∉ W:=fun hw=>by
      rcases hR j hw with e2 | e2
      ·exact e e2
      ·exact hn (a2.sub j e2)
     obtain ⟨v',v1,v2⟩:=h.go j v hu hjW p hp
     obtain ⟨v2',x1,x2,_⟩:=a2.up _ _ v1
     exact ⟨v2',x1,v2.trans x2⟩
   ·exact absurd g3 hn
  ·exact absurd g hn
 ·obtain ⟨w',g1,g2⟩:=h.le B hB k w hk
  have hl:w.length = w'.length:=by rw [h.ok.wl k w hk,hB.wl k w' g1]
  obtain ⟨p',q1,q2,q3⟩:=outs_mono (fun o=>Nat.le_refl (dlS M o)) hl g2 p ((hP p).1 hp)
  obtain ⟨u,u1,u2⟩:=hB.go k w' g1 p' q1
  exact ⟨u,by rw [← q2];exact u1,q3.trans u2⟩
structure LstAt (m:Mem) (T sz:Nat) (a:Option Addr) (n c:Nat) (L:List Value):Prop where
 len:L.length = n * sz
 cap:n ≤ c
 no:a = none → c = 0
 at':∀ ad,a = some ad → ∃ b pre rest,ad = ⟨b,pre.length,none⟩ ∧ m b = some (Cells (pre ++ L ++ rest) T) ∧ (c - n) * sz ≤ rest.length
theorem LstAt.nil (m:Mem) (T sz:Nat):LstAt m T sz none 0 0 []:=⟨by simp,Nat.le_refl _,fun _=>rfl,fun ad h=>by cases h⟩
theorem LstAt.same {m m':Mem} {T sz n c:Nat} {a:Option Addr} {L:List Value} (h:LstAt m T sz a n c L) (hk:∀ ad o,a = some ad → m ad.block = some o → m' ad.block = some o):LstAt m' T sz a n c L :=
 ⟨h.len,h.cap,h.no,fun ad ha=>by
  obtain ⟨b,pre,rest,e,h1,h2⟩:=h.at' ad ha
  subst e
  exact ⟨b,pre,rest,rfl,hk _ _ ha h1,h2⟩⟩
theorem LstAt.cells {m:Mem} {T sz n c:Nat} {a:Option Addr} {L:List Value} (h:LstAt m T sz a n c L) {ad:Addr} (ha:a = some ad):CellsAt m ad L:=by
 obtain ⟨b,pre,rest,e,h1,h2⟩:=h.at' ad ha
 subst e
 exact CellsAt.blk h1 fun j v hj=>by
  rw [List.append_assoc,List.getElem?_append_right (by omega),Nat.add_sub_cancel_left,List.getElem?_append_left (List.getElem?_eq_some_iff.1 hj).1];exact hj
theorem LstAt.push {m:Mem} {T sz n c bx bytes:Nat} {a:Option Addr} {L x zero:List Value} {K:Value → Mem → Prop} (h:LstAt m T sz a n c L) (hz:zero.length = sz) (hx:m bx = some (Cells x T)) (hxl:x.length = sz) (hx1:oneL x = true) (hlen:(n + 1) * bytes ≤ 35184372088832)
  (k:∀ b' o' c' m',LstAt m' T sz (some ⟨b',o',none⟩) (n + 1) c' (L ++ x) → (m b' = none ∨ ∃ o,a = some ⟨b',o,none⟩) → (∀ b,b ≠ b' → m' b = m b) → K (.slice (some ⟨b',o',none⟩) (n + 1) c') m') :
  WApp m T sz bytes zero a n c (some ⟨bx,0,none⟩) 1 K:=by
 have hnew:FirstCells m (some ⟨bx,0,none⟩) (1 * sz) x:=⟨by omega,fun ad had=>by cases had;exact CellsAt.blk hx fun j v hj=>by rw [Nat.zero_add];exact hj⟩
 have hl:=h.len
 have hc0:=h.cap
 by_cases hcc:n + 1 ≤ c
 ·obtain ⟨ad,rfl⟩:∃ ad,a = some ad:=by
   cases a with
   | none=>have:=h.no rfl;omega
   | some ad=>exact ⟨ad,rfl⟩
  obtain ⟨b,pre,rest,e,h1,h2⟩:=h.at' ad rfl
  subst e
  have hr:sz ≤ rest.length:=by
   have:1 * sz ≤ (c - n) * sz:=Nat.mul_le_mul_right sz (by omega)
   omega
  refine WApp.in (ad:=⟨b,pre.length,none⟩) _ hnew (fun h=>by cases h) _ _ hcc h1 rfl (by simp;omega) hx1 ?_
  refine k b pre.length c _ ⟨by rw [List.length_append,hl,hxl,Nat.add_mul,Nat.one_mul],by omega,(fun h=>by cases h),fun ad had=>?_⟩ (.inr ⟨_,rfl⟩) fun b3 hb3=>Mem.set_other _ _ hb3
  cases had
  refine ⟨b,pre,rest.drop sz,rfl,?_,?_⟩
  ·rw [Mem.set_same]
   have e:spliceL (pre ++ L ++ rest) (pre.length + n * sz) x = pre ++ (L ++ x) ++ rest.drop sz:=by
    rw [spliceL_eq _ _ _ (by simp;omega)]
    have e1:(pre ++ L).length = pre.length + n * sz:=by simp [hl]
    rw [← e1,List.take_left' rfl,← List.drop_drop,List.drop_left' rfl,hxl]
    simp
   rw [e]
  ·rw [show c - n = (c - (n + 1)) + 1 by omega,Nat.add_mul,Nat.one_mul] at h2
   rw [List.length_drop];omega
 ·refine WApp.grow _ hnew (fun h=>by cases h) (by omega) hlen L ⟨hl,fun ad ha=>h.cells ha⟩ (fun e=>by have:=h.no e;omega) fun b2 c2 hb2 hc2=>?_
  refine k b2 0 c2 _ ⟨by rw [List.length_append,hl,hxl,Nat.add_mul,Nat.one_mul],hc2,(fun h=>by cases h),fun ad had=>?_⟩ (.inl hb2) fun b hb=>Mem.set_other _ _ hb
  cases had
  refine ⟨b2,[],(List.replicate (c2 - (n + 1)) zero).flatten,rfl,by rw [Mem.set_same];rfl,?_⟩
  rw [repl_len,hz];exact Nat.le_refl _
theorem LstAt.pop {m:Mem} {T n c:Nat} {ad:Addr} {x:Value} {L:List Value} (h:LstAt m T 1 (some ad) n c (x :: L)):LstAt m T 1 (if (c:Int) = 1 then some ad else (some ad).map (·.add (Int.toNat 1 * 1))) (n - 1) (c - Int.toNat 1) L:=by
 have hl:=h.len
 have hc:=h.cap
 simp only [List.length_cons,Nat.mul_one] at hl
 have e1:Int.toNat 1 = 1:=rfl
 rw [e1]
 obtain ⟨b,pre,rest,e,h1,h2⟩:=h.at' ad rfl
 subst e
 split
 ·rename_i hc1
  have hL:L = []:=List.length_eq_zero_iff.1 (by omega)
  subst hL
  refine ⟨by simp;omega,by omega,(fun e=>by cases e),fun ad' he=>?_⟩
  cases he
  exact ⟨b,pre,x :: rest,rfl,by rw [h1];simp,by have:c - 1 - (n - 1) = 0:=by omega
                                                rw [this,Nat.zero_mul];exact Nat.zero_le _⟩
 ·refine ⟨by omega,by omega,(fun e=>by cases e),fun ad' he=>?_⟩
  cases he
  refine ⟨b,pre ++ [x],rest,by simp [Addr.add],by rw [h1];simp,?_⟩
  rw [show c - 1 - (n - 1) = c - n by omega];exact h2
end Go.Proofs.YtleofbpepfmfgaaGreatDoor
