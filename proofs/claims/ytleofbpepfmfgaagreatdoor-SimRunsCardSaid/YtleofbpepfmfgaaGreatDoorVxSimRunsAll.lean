import Derived.Test.YtleofbpepfmfgaaGreatDoorVxSimJ
import Derived.Test.YtleofbpepfmfgaaGreatDoorVxRfQ
import Derived.KernelRfl
import Derived.Test.YtleofbpepfmfgaaGreatDoorVxOpen64
import Derived.Test.YtleofbpepfmfgaaGreatDoorVxRfI
set_option linter.unusedSimpArgs false
set_option linter.unusedVariables false
set_option maxRecDepth 100000
namespace Go.Proofs.YtleofbpepfmfgaaGreatDoor
open Go Go.Vx
open Go.Vx.IOp Go.Vx.IR Go.Vx.Opd
def WaitsPost (m:Mem) (C:CodeR) (M:Mac) (word:Int) (e:Ending) (m':Mem):Prop :=
 Mem.le m m'∧(fitsCode C M≠0→e=.returned (.tuple ⟨[ns,i (fitsCode C M)]⟩))∧(fitsCode C M=0→(word<0∨word≥C.ws.length)→e=.returned (.tuple ⟨[ns,i 2]⟩)) ∧
  (fitsCode C M=0→0≤word∧word<C.ws.length→∃ A,Least C M A∧OkW C A∧(A[word.toNat]? = some none→e=.returned (.tuple ⟨[ns,i 5]⟩)) ∧
   ∀ w,A[word.toNat]? = some (some w)→∃ a c,e=.returned (.tuple ⟨[.slice a w.length c,i 0]⟩)∧IAt m' (.slice a w.length c) (w.map fun n:Nat=>(n:Int)))
theorem simWaits_ok {m:Mem} {T:Nat} {fr:Nat×Nat} (hm:m 0=some (.cells ⟨cells0⟩ T fr)) (V:CV) {C:CodeR} (M:Mac) (hV:CodeAt m V C) (word:Int) :
  CallsM Tryz.prog 23 [V.val C,M.val,i word] m (WaitsPost m C M word):=by
 refine calls_of mixed Tryz.func23 ok_sim_Waits rfl ?_
 have hn2:=hV.n2
 refine WCall.mk (wFits_ok hm V hV M) ?_
 rintro _ m1 ⟨rfl,l1⟩
 refine Br.mk (fun h0=>?_) (fun h0=>?_)
 ·have h0:fitsCode C M≠0:=by simpa using h0
  exact WRet.same ⟨l1,fun _=>rfl,fun h=>absurd h h0,fun h=>absurd h h0⟩
 have h0:fitsCode C M=0:=by simpa using h0
 obtain ⟨hC,hM⟩:=fits_ok3 h0
 have hrg:=hC.rg
 refine WSc.mk (v:=decide (word≥(V.n2:Int))) (fun _=>And.intro (Mem.le.refl _) rfl) ?_
 refine Br.mk (fun h1=>?_) (fun h1=>?_)
 ·have h1:(decide (word<0)||decide (word≥(V.n2:Int)))=true:=h1
  simp only [Bool.or_eq_true,decide_eq_true_eq] at h1
  exact WRet.same ⟨l1,fun h=>absurd h0 h,fun _ _=>rfl,fun _ h=>by omega⟩
 have h1:(decide (word<0)||decide (word≥(V.n2:Int)))=false:=h1
 simp only [Bool.or_eq_false_iff,decide_eq_false_iff_not] at h1
 obtain ⟨k,rfl⟩:∃ k:Nat,word=k:=⟨word.toNat,by omega⟩
 have hk:k<C.ws.length:=by omega
 refine WCall.mk (simFind_ok (l1 _ _ hm) V M (hV.mono l1) hC hM) ?_
 rintro _ m2 ⟨S,rfl,hS,l2,hf,hLe,hOk⟩
 have hAl:=hLe.is.len
 have L2:=l1.trans l2
 obtain ⟨x,hx⟩:∃ x,S.A[k]? = some x:=⟨_,List.getElem?_eq_getElem (by rw [hAl];exact hk)⟩
 have hrow:=hS.atRow hx
 refine WLd.mk _ hS.at17 ?_
 refine WIdx.mk _ rfl ⟨by omega,by omega⟩ ?_
 cases x with
 | none =>
  refine WLd.mk ns (by simpa [Wt.rowV] using hrow) ?_
  refine Br.mk (fun _=>?_) (fun hh=>by cases hh)
  refine WRet.same ⟨L2,fun h=>absurd h0 h,fun _ h=>by omega,fun _ _=>⟨S.A,hLe,hOk,fun _=>rfl,fun w hw=>?_⟩⟩
  rw [Int.toNat_natCast,hx] at hw;cases hw
 | some w =>
  have hub:=hOk.ub k w hx
  have hwl:=hOk.wl k w hx
  have hR:=hS.row k w hx
  refine WLd.mk (.slice (some ⟨S.rb k,0,none⟩) w.length (S.rc k)) (by simpa [Wt.rowV] using hrow) ?_
  refine Br.mk (fun hh=>by cases hh) (fun _=>?_)
  refine WLd.mk _ hS.at17 ?_
  refine WIdx.mk _ rfl ⟨by omega,by omega⟩ ?_
  refine WLd.mk (.slice (some ⟨S.rb k,0,none⟩) w.length (S.rc k)) (by simpa [Wt.rowV] using hrow) ?_
  refine WLoop.mk (Nat×Option Addr×Nat) (fun x=>[(10,.val (.slice x.2.1 x.1 x.2.2)),(47,.val (i x.1))]) (fun x m'=>x.1≤w.length∧Mem.le m2 m'∧PushI m2 m' x.2.1 x.2.2 ((w.take x.1).map fun n:Nat=>(n:Int))) (fun x=>w.length - x.1) (0,none,0)
   ⟨rfl,rfl,trivial⟩ ⟨Nat.zero_le _,Mem.le.refl _,.inl ⟨rfl,rfl,rfl⟩⟩ ?_
  rintro ⟨j,a,c⟩ m3 ⟨hj,l3,hP⟩
  simp only at hj hP
  refine Br.mk (fun hb=>?_) (fun hb=>?_)
  ·have hj2:j<w.length:=by
    have:(j:Int)<(w.length:Nat):=of_decide_eq_true hb
    omega
   have h8:=hub _ (List.getElem_mem hj2)
   have hcell:=(hR.mono l3).cell hj2
   rw [List.getD_eq_getElem?_getD,List.getElem?_eq_getElem hj2,Option.getD_some] at hcell
   refine WIdx.mk _ rfl ⟨by omega,by omega⟩ ?_
   refine WLd.mk (v8 w[j]) (by simpa using hcell) ?_
   refine WRng.mk (by apply wrap_i64<;>omega) ?_
   refine WNew.ab fun bx m4 hbx l4 cx=>?_
   conv=>whnf
   refine push_ok (l3.trans l4) (hP.mono l4) cx (by simp;omega) (by simp;omega) fun a' c' m5 l5 hP5=>?_
   have e1:((w.take j).map fun n:Nat=>(n:Int)).length=j:=by simp;omega
   have e2:(w.take (j+1)).map (fun n:Nat=>(n:Int))=(w.take j).map (fun n:Nat=>(n:Int))++[(w[j]:Int)]:=by rw [List.take_succ_eq_append_getElem hj2,List.map_append];rfl
   refine WRng.mk (by apply wrap_i64<;>omega) ?_
   conv=>whnf
   refine ⟨(j+1,a',c'),⟨?_,rfl,trivial⟩,⟨hj2,l5,?_⟩,Nat.sub_lt_sub_left hj2 (Nat.lt_succ_self j)⟩
   ·show some (AV.val (.slice a' (((w.take j).map fun n:Nat=>(n:Int)).length+1) c'))=_
    rw [e1]
   ·show PushI m2 m5 a' c' ((w.take (j+1)).map fun n:Nat=>(n:Int))
    rw [e2];exact hP5
  ·have hj2:j=w.length:=by
    have:¬ (j:Int)<(w.length:Nat):=of_decide_eq_false hb
    omega
   subst hj2
   rw [List.take_length] at hP
   refine WRet.same ⟨L2.trans l3,fun h=>absurd h0 h,fun _ h=>by omega,fun _ _=>⟨S.A,hLe,hOk,fun h=>?_,fun w' hw=>?_⟩⟩
   ·rw [Int.toNat_natCast,hx] at h;cases h
   ·rw [Int.toNat_natCast,hx] at hw
    cases hw
    have hI:=hP.iat
    rw [List.length_map] at hI
    exact ⟨a,c,rfl,hI⟩
def exO1:OpR:=⟨13,1,0,0,0,0,-1⟩
def exO2:OpR:=⟨27,0,1,0,0,0,-1⟩
def exC:CodeR:=⟨[],1,2,0,0,[⟨[exO1],-1⟩,⟨[exO2],-1⟩]⟩
def exM:Mac:=⟨1,1,1,1,1,3,2,1,32,2,4⟩
theorem example_ok (m:Mem):CallsM Tryz.prog 45 [] m fun e m'=>∃ V,e=.returned (.tuple ⟨[V.val exC,exM.val]⟩)∧Mem.le m m'∧CodeAt m' V exC:=by
 refine calls_of mixed Tryz.func45 ok_biremelaw27_example rfl ?_
 refine WNew.ab fun b1 m1 hb1 l1 c1=>?_
 refine WNew.ab fun b2 m2 hb2 l2 c2=>?_
 refine WNew.ab fun b3 m3 hb3 l3 c3=>?_
 conv=>whnf
 have c1:=l3 _ _ (l2 _ _ c1)
 have c2:=l3 _ _ c2
 have ho:∀ {b:Nat} {o:OpR},m3 b=some (Cells o.cells 110)→OAt m3 (.slice (some ⟨b,0,none⟩) [o].length 1) [o]:=fun {b o} h=>by
  refine ⟨_,1,rfl,(fun h=>by cases h),fun ad ha=>?_,Nat.le_refl _⟩
  cases ha
  exact CellsAt.blk h fun q v hq=>by rw [Nat.zero_add];simpa [ocs] using hq
 refine WRet.same ⟨⟨none,0,0,some ⟨b3,0,none⟩,2,2⟩,rfl,(l1.trans l2).trans l3,⟨none,0,rfl,fun _=>rfl,(fun ad h=>by cases h),Nat.le_refl _⟩,?_,by decide,by decide⟩
 have hL:WCells m3 [.slice (some ⟨b1,0,none⟩) 1 1,i (-1),.slice (some ⟨b2,0,none⟩) 1 1,i (-1)] exC.ws:=by
  refine ⟨rfl,fun k hk=>?_⟩
  match k,hk with
  | 0,_=>exact ⟨_,_,rfl,rfl,ho (o:=exO1) c1⟩
  | 1,_=>exact ⟨_,_,rfl,rfl,ho (o:=exO2) c2⟩
 have hc3:m3 b3=some (Cells ([.slice (some ⟨b1,0,none⟩) 1 1,i (-1),.slice (some ⟨b2,0,none⟩) 1 1,i (-1)]++[]) TWord):=c3
 exact wat_of (c:=2) hL hc3 (Nat.le_refl _)
theorem ex_fits:fitsCode exC exM=0:=by kernel_rfl
theorem ex_run1:runS exC exM [] 10 (beginS exC [7])={ beginS exC [7] with word:=0,took:=2,begun:=1,ended:=true,kind:=1,value:=0 }:=by kernel_rfl
theorem ex_run2:runS exC exM [1] 10 (beginS exC [7])={ beginS exC [7] with word:=0,took:=2,begun:=1,ended:=true,kind:=1,value:=49,regs:=[⟨7,0⟩,⟨49,0⟩] }:=by kernel_rfl
theorem ex_run3:runS exC exM [] 1 (beginS exC [7])={ beginS exC [7] with word:=1,took:=1,begun:=1,way:=[⟨1,⟨49,0⟩,3⟩] }:=by kernel_rfl
def exA:WS:=[some [0,0],some [0,2]]
theorem ex_is:IsW exC exM exA:=by
 refine ⟨rfl,fun k w hk=>?_,⟨_,rfl⟩,fun k w hk p hp=>?_⟩
 ·match k,hk with
  | 0,hk=>cases hk;rfl
  | 1,hk=>cases hk;rfl
 ·match k,hk with
  | 0,hk =>
   cases hk
   have hp:p∈[((1:Nat),[0,2])]:=hp
   rw [List.mem_singleton] at hp
   subst hp
   exact ⟨[0,2],rfl,leW.refl _⟩
  | 1,hk =>
   cases hk
   have hp:p∈([]:List (Nat×List Nat)):=hp
   cases hp
theorem ex_two {A:WS} (h:IsW exC exM A):∃ w,A[1]? = some (some w)∧2≤w.getD 1 0:=by
 obtain ⟨w0,h0⟩:=h.zero
 have hl:=h.wl 0 w0 h0
 have hl:w0.length=2:=hl
 match w0,hl with
 | [a,b],_ =>
  obtain ⟨w',h1,h2⟩:=h.go 0 _ h0 (1,decW (stepW exM [a,b] exO1)) (by
   show _∈outsW exC exM 0 (-1) [exO1] [a,b]
   have:outsW exC exM 0 (-1) [exO1] [a,b]=[(1,decW (stepW exM [a,b] exO1))]:=rfl
   rw [this];exact List.mem_singleton.2 rfl)
  refine ⟨w',h1,?_⟩
  have h3:=h2 1
  have h4:(decW (stepW exM [a,b] exO1)).getD 1 0=max b 3 - 1:=rfl
  have h3:(decW (stepW exM [a,b] exO1)).getD 1 0≤w'.getD 1 0:=h3
  rw [h4] at h3
  omega
theorem ex_strict {A:WS} (h:Least exC exM A):¬ strictA exC exM A:=fun hs=>by
 obtain ⟨w,h1,h2⟩:=ex_two h.is
 have h3:=hs 1 w h1
 have h4:strictO exM w [exO2] w=true:=h3
 unfold strictO at h4
 rw [Bool.and_eq_true] at h4
 have h5:(readsS exO2).all (fun r=>w.getD r.toNat 0==0)=(w.getD 1 0==0&&true):=rfl
 rw [h5] at h4
 simp only [Bool.and_true,beq_iff_eq] at h4
 omega
theorem ex_waits {A:WS} (h:Least exC exM A):∃ w,A[1]? = some (some w)∧w.length=2∧w.getD 1 0=2:=by
 obtain ⟨w,h1,h2⟩:=ex_two h.is
 obtain ⟨w',h3,h4⟩:=h.le exA ex_is 1 w h1
 have h3:some (some [0,2])=some (some w'):=h3
 cases h3
 have h5:w.getD 1 0≤2:=h4 1
 exact ⟨w,h1,h.is.wl 1 w h1,by omega⟩
theorem IAt.take {m:Mem} {a:Option Addr} {c:Nat} {L:List Int} (h:IAt m (.slice a L.length c) L) (k:Nat):IAt m (.slice a (L.take k).length c) (L.take k):=by
 obtain ⟨a',c',e,h0,h1,h2⟩:=h
 injection e with e1 _ e3
 subst e1;subst e3
 refine ⟨a,c,rfl,fun e=>by rw [h0 e];simp,fun ad ha=>?_,Nat.le_trans (by simp;omega) h2⟩
 rw [List.map_take]
 exact CellsAt.take (h1 ad ha) k
theorem few_ok {m:Mem} {a:Option Addr} {c:Nat} {L:List Int} (h:IAt m (.slice a L.length c) L) :
  CallsM Tryz.prog 16 [.slice a L.length c] m fun e m'=>∃ A cc,e=.returned (.slice A (L.take 1001).length cc)∧Mem.le m m'∧IAt m' (.slice A (L.take 1001).length cc) (L.take 1001):=by
 refine calls_of mixed Tryz.func16 ok_biremelaw27_few rfl ?_
 have ht:=h.take 1001
 obtain ⟨a1,c1,e1,q0,q1,q2⟩:=id ht
 injection e1 with e11 _ e13
 subst e11;subst e13
 obtain ⟨_,c2,e2,_,_,hcap⟩:=h
 injection e2 with _ _ e23
 subst e23
 have hl:(L.take 1001).length=min 1001 L.length:=List.length_take
 refine WNew.ab fun b1 m1 hb1 l1 c1'=>?_
 have em:(if (1001:Int)<L.length then (1001:Int) else L.length)=((L.take 1001).length:Int):=by rw [hl];split<;>omega
 refine WSl.mk ⟨Int.le_refl _,by show (0:Int)≤(if (1001:Int)<L.length then (1001:Int) else L.length);rw [em];omega,by show (if (1001:Int)<L.length then (1001:Int) else L.length)≤(c:Int);rw [em];omega⟩ ?_
 refine WApp.copyE c1' (A:=a) (n:=(L.take 1001).length) (if_map rfl) (by rw [em];show Int.toNat _ - Int.toNat 0=_;simp) ((L.take 1001).map i) ⟨by simp,fun ad had=>(q1 ad had).mono l1⟩ (fun ha=>by rw [q0 ha];rfl) (by rw [hl];omega) fun b' cb m2 rest hle hcb hcells=>?_
 refine WRet.same ⟨some ⟨b',0,none⟩,cb,rfl,l1.trans hle,⟨_,cb,rfl,(fun h=>by cases h),fun ad had=>?_,hcb⟩⟩
 cases had
 exact CellsAt.blk hcells fun q v hq=>by rw [Nat.zero_add,List.getElem?_append_left (List.getElem?_eq_some_iff.1 hq).1];exact hq
theorem same_ok {m:Mem} {v u:Value} {P:List Int} {kd n:Int} (hv:OutAt m v P kd n) (hu:OutAt m u P kd n) (hl:P.length≤1000000000):PureM Tryz.prog 19 [v,u] m (.bool true):=by
 obtain ⟨A,c,rfl,hI⟩:=hv
 obtain ⟨B,d,rfl,hJ⟩:=hu
 obtain ⟨A',c',e1,q0,q1,_⟩:=hI
 injection e1 with e11 _ e13
 subst e11;subst e13
 obtain ⟨B',d',e2,r0,r1,_⟩:=hJ
 injection e2 with e21 _ e23
 subst e21;subst e23
 refine calls_of mixed Tryz.func19 ok_biremeref09_Outcomes rfl ?_
 refine WSc.mk (v:=n != n) (fun _=>And.intro (Mem.le.refl _) rfl) ?_
 refine WSc.mk (v:=(P.length:Int) != P.length) (fun _=>And.intro (Mem.le.refl _) rfl) ?_
 refine Br.mk (fun hh=>?_) (fun _=>?_)
 ·have hh:((kd != kd||n != n)||(P.length:Int) != P.length)=true:=hh
  simp at hh
 refine WLoop.mk Nat (fun k=>[(5,.val (i k))]) (fun k m'=>m=m'∧k≤P.length) (fun k=>P.length - k) 0 ⟨rfl,trivial⟩ ⟨rfl,Nat.zero_le _⟩ ?_
 rintro k m' ⟨rfl,hk⟩
 refine Br.mk (fun hb=>?_) (fun hb=>?_)
 ·have hk2:k<P.length:=by
   have:(k:Int)<(P.length:Nat):=of_decide_eq_true hb
   omega
  obtain ⟨ad,rfl⟩:∃ ad,A=some ad:=by
   cases A with
   | none=>rw [q0 rfl] at hk2;simp at hk2
   | some ad=>exact ⟨ad,rfl⟩
  obtain ⟨bd,rfl⟩:∃ bd,B=some bd:=by
   cases B with
   | none=>rw [r0 rfl] at hk2;simp at hk2
   | some bd=>exact ⟨bd,rfl⟩
  refine WIdx.mk ad rfl ⟨by omega,by omega⟩ ?_
  refine WLd.mk (i P[k]) (by simpa using IAt.cell (q1 ad rfl) hk2) ?_
  refine WIdx.mk bd rfl ⟨by omega,by omega⟩ ?_
  refine WLd.mk (i P[k]) (by simpa using IAt.cell (r1 bd rfl) hk2) ?_
  refine Br.mk (fun hh=>?_) (fun _=>?_)
  ·have hh:(P[k] != P[k])=true:=hh
   simp at hh
  refine WRng.mk (by apply wrap_i64<;>omega) ?_
  conv=>whnf
  exact ⟨k+1,⟨rfl,trivial⟩,⟨rfl,hk2⟩,Nat.sub_lt_sub_left hk2 (Nat.lt_succ_self k)⟩
 ·exact WRet.same ⟨rfl,rfl⟩
theorem can_ex {C:CodeR} {M:Mac} {al:Nat} (h:fitsCode C M=0) (ha:(al:Int)=C.pr) {n:Int} (hn:0≤n∧n≤4194304) {sl:Nat} (hs:sl≤1000):canS C M al n sl=0:=by
 unfold canS
 rw [if_neg (by simp [h]),if_neg ?_,if_neg (by omega)]
 simp only [Bool.or_eq_true,bne_iff_ne,ne_eq,decide_eq_true_eq,not_or,Decidable.not_not]
 omega
theorem iat_one {m:Mem} {b z':Nat} {z:Int} (h:m b=some (Cells [i z] z')):IAt m (.slice (some ⟨b,0,none⟩) [z].length 1) [z]:=by
 refine ⟨_,1,rfl,(fun h=>by cases h),fun ad ha=>?_,Nat.le_refl _⟩
 cases ha
 exact CellsAt.blk h fun q v hq=>by rw [Nat.zero_add];exact hq
theorem iat_nil (m:Mem):IAt m (.slice none ([]:List Int).length 0) []:=⟨none,0,rfl,fun _=>rfl,(fun ad h=>by cases h),Nat.le_refl _⟩
theorem ex_start:startS exC exM [(7:Int)].length ([]:List Int).length=0:=by
 unfold startS;rw [ex_fits];rfl
set_option maxHeartbeats 400000 in
theorem alive_ok {m:Mem} {T:Nat} {fr:Nat×Nat} (hm:m 0=some (.cells ⟨cells0⟩ T fr)) :
  CallsM Tryz.prog 14 [] m fun e m'=>e=.returned (.bool true)∧m'=m:=by
 refine calls_of mixed Tryz.func14 ok_biremelaw27_alive rfl ?_
 have hC:=(fits_ok3 ex_fits).1
 refine WCall.mk (example_ok m) ?_
 rintro _ m1 ⟨V,rfl,l1,hV⟩
 refine WNew.ab fun b1 m2 hb1 l2 c2=>?_
 have L2:=l1.trans l2
 refine WCall.mk (simRun_ok (L2 _ _ hm) V exM (hV.mono l2) (iat_one c2) (iat_nil m2) 10 (.inl (by decide))) ?_
 rintro _ m3 ⟨l3,_,hr⟩
 obtain ⟨v,rfl,A1,c1,rfl,_⟩:=hr (can_ex ex_fits rfl (by decide) (by decide))
 rw [show Int.toNat 10=10 from rfl,ex_run1]
 have L3:=L2.trans l3
 refine WNew.ab fun b2 m4 hb2 l4 c4=>?_
 refine WNew.ab fun b3 m5 hb3 l5 c5=>?_
 have L5:=(L3.trans l4).trans l5
 have hV5:=hV.mono (((l2.trans l3).trans l4).trans l5)
 refine WCall.mk (simRun_ok (L5 _ _ hm) V exM hV5 (iat_one (l5 _ _ c4)) (iat_one c5) 10 (.inl (by decide))) ?_
 rintro _ m6 ⟨l6,_,hr⟩
 obtain ⟨v,rfl,A2,c2',rfl,_⟩:=hr (can_ex ex_fits rfl (by decide) (by decide))
 rw [show Int.toNat 10=10 from rfl,ex_run2]
 have L6:=L5.trans l6
 have hV6:=hV5.mono l6
 refine WCall.mk (strict_ok (L6 _ _ hm) V exM hV6) ?_
 rintro _ m7 ⟨b,A,rfl,l7,_,hst⟩
 obtain ⟨hLe,hiff⟩:=hst ex_fits
 have hb:b=false:=by
  cases b with
  | false=>rfl
  | true=>exact absurd (hiff.1 rfl) (ex_strict hLe)
 subst hb
 rw [ex_fits]
 have L7:=L6.trans l7
 have hV7:=hV6.mono l7
 refine WCall.mk (simWaits_ok (L7 _ _ hm) V exM hV7 1) ?_
 rintro _ m8 ⟨l8,_,_,hw⟩
 obtain ⟨A',hLe',_,_,hw2⟩:=hw ex_fits ⟨by decide,by decide⟩
 obtain ⟨w,hw1,hwl,hw3⟩:=ex_waits hLe'
 obtain ⟨wa,wc,rfl,hI⟩:=hw2 w hw1
 have L8:=L7.trans l8
 have hV8:=hV7.mono l8
 obtain ⟨x,y,rfl⟩:∃ x y,w=[x,y]:=by
  match w,hwl with
  | [x,y],_=>exact ⟨x,y,rfl⟩
 obtain rfl:y=2:=hw3
 refine WNew.ab fun b4 m9 hb4 l9 c9=>?_
 have L9:=L8.trans l9
 conv=>whnf
 have hst:=simStart_ok (C:=exC) (args:=[7]) (sh:=[]) (L9 _ _ hm) V exM (hV8.mono l9) (iat_one c9) (iat_nil m9)
 refine WCall.mk hst ?_
 rintro _ m10 ⟨l10,_,hs⟩
 obtain ⟨p,mb,V',sv,H,rfl,lb,hB,hS⟩:=hs ex_start
 have L10:=L9.trans l10
 refine WSc.mk (v:=false) (fun _=>And.intro (Mem.le.refl _) rfl) ?_
 refine Br.mk (fun hh=>by cases hh) (fun _=>?_)
 have hG:=begin_good hC (args:=[7]) (by decide)
 refine WCall.mk (sRun_ok hS hB hG 1 (by decide) (by decide) (Nat.zero_le _)) ?_
 rintro _ m11 ⟨H2,v,G2,rfl,A3,c3,rfl,_⟩
 have hG2:=Good.run (M:=exM) (sh:=[]) hC (n:=1) hG
 rw [ex_run3] at G2 hG2
 rw [ex_run3]
 have h2:=G2.at'
 refine WCall.pure (sOnWay_ok h2 hB) ?_
 refine WCall.mk (sSettle_ok h2 hB hG2 (by decide)) ?_
 rintro _ m12 ⟨rfl,H3,G3⟩
 have h3:=G3.at'
 refine WCall.pure (sReg_ok h3 hB 1) ?_
 rw [if_pos (by decide)]
 have hfin:Mem.le m m12:=(L9.trans lb).trans h3.le
 obtain ⟨wa',wc',ew,w0,w1,_⟩:=hI
 injection ew with ew1 ew2 ew3
 subst ew1;subst ew3
 obtain ⟨ad,rfl⟩:∃ ad,wa=some ad:=by
  cases wa with
  | none=>have:=w0 rfl;cases this
  | some ad=>exact ⟨ad,rfl⟩
 have hI12:CellAt m12 (ad.add 1) (i 2):=(w1 ad rfl 1 _ rfl).mono ((l9.trans lb).trans h3.le)
 refine WSc.mk (v:=true) (fun _=>And.intro (Mem.le.refl _) rfl) ?_
 refine WSc.mk (v:=true) (fun _=>And.intro (Mem.le.refl _) rfl) ?_
 refine WSc.mk (v:=true) (fun _=>And.intro (Mem.le.refl _) rfl) ?_
 refine WSc.mk (v:=true) (fun _=>And.intro (Mem.le.refl _) rfl) ?_
 refine WSc.mk (v:=true) (fun _=>And.intro (Mem.le.refl _) rfl) ?_
 refine WSc.mk (v:=true) (fun _=>And.intro (Mem.le.refl _) rfl) ?_
 refine WSc.mk (v:=true) (fun _=>And.intro (Mem.le.refl _) rfl) ?_
 refine WSc.mk (v:=true) (fun _=>And.intro (Mem.le.refl _) rfl) ?_
 refine WSc.mk (v:=true) (fun _=>And.intro (Mem.le.refl _) rfl) ?_
 refine WSc.mk (v:=true) (fun _=>?_) ?_
 ·refine WIdx.mk ad rfl ⟨by decide,show (1:Int)<(2:Nat) by decide⟩ ?_
  refine WLd.mk (i 2) hI12 ?_
  conv=>whnf
  exact And.intro (Mem.le.refl _) rfl
 refine WSc.mk (v:=true) (fun _=>And.intro (Mem.le.refl _) rfl) ?_
 refine WSc.mk (v:=true) (fun _=>And.intro (Mem.le.refl _) rfl) ?_
 refine WSc.mk (v:=true) (fun _=>And.intro (Mem.le.refl _) rfl) ?_
 refine WSc.mk (v:=true) (fun _=>And.intro (Mem.le.refl _) rfl) ?_
 refine WSc.mk (v:=true) (fun _=>And.intro (Mem.le.refl _) rfl) ?_
 refine WSc.mk (v:=true) (fun _=>And.intro (Mem.le.refl _) rfl) ?_
 refine WSc.mk (v:=true) (fun _=>And.intro (Mem.le.refl _) rfl) ?_
 exact WRet.mk hfin ⟨rfl,rfl⟩
section
variable {m0 m:Mem} {P:List Int} {kd nn:Int} {k:Int} {A B:Option Addr} {c d:Nat}

end
theorem few_all {m:Mem} {a:Option Addr} {c:Nat} {L:List Int} (h:IAt m (.slice a L.length c) L) (hl:L.length≤1000) :
  CallsM Tryz.prog 16 [.slice a L.length c] m fun e m'=>∃ A cc,e=.returned (.slice A L.length cc)∧Mem.le m m'∧IAt m' (.slice A L.length cc) L:=by
 have:=few_ok h
 rw [List.take_of_length_le (by omega)] at this
 exact this
section
variable {m0 m:Mem} {T:Nat} {fr:Nat×Nat} {V:CV} {C:CodeR} {M:Mac} {aa:Option Addr} {ca:Nat} {args:List Int}
theorem lim400 {C:CodeR} {M:Mac} {sh:List Int} (hC:CodeOK C) {args:List Int} (hal:args.length≤C.rg.toNat) {n:Nat} (hn:n≤1000):(runS C M sh n (beginS C args)).prints.length≤1000000000:=by
 have:=(Good.run (M:=M) (sh:=sh) hC (n:=n) (begin_good hC hal)).lim.prints
 omega

end
section
variable {C:CodeR} {M:Mac} {sh:List Int} {s:St}
end
theorem lawWrong_ok {m:Mem} (V:CV) {C:CodeR} (M:Mac) (hV:CodeAt m V C) {aa sa:Option Addr} {al ca sl cs:Nat} (n:Int) :
  CallsM Tryz.prog 18 [V.val C,M.val,.slice aa al ca,i n,.slice sa sl cs] m fun e m'=>e=.returned (i (canS C M al n sl))∧Mem.le m m':=by
 refine calls_of mixed Tryz.func18 ok_biremelaw27_wrong rfl ?_
 refine WCall.mk (refFits_ok V hV M) ?_
 rintro _ m1 ⟨rfl,l1⟩
 refine Br.mk (fun h0=>?_) (fun h0=>?_)
 ·have h0:fitsCode C M≠0:=by simpa using h0
  exact WRet.same ⟨by unfold canS;rw [if_pos h0];rfl,l1⟩
 ·have h0:¬ fitsCode C M≠0:=by simpa using h0
  refine WSc.mk (v:=decide (n<0)) (fun _=>And.intro (Mem.le.refl _) rfl) ?_
  refine WSc.mk (v:=decide (n>4194304)) (fun _=>And.intro (Mem.le.refl _) rfl) ?_
  refine Br.mk (fun h1=>?_) (fun h1=>?_)
  ·have h1:((al:Int) != C.pr||decide (n<0)||decide (n>4194304))=true:=h1
   exact WRet.same ⟨by unfold canS;rw [if_neg h0,if_pos h1];rfl,l1⟩
  ·have h1:¬ ((al:Int) != C.pr||decide (n<0)||decide (n>4194304))=true:=by
    have h1:((al:Int) != C.pr||decide (n<0)||decide (n>4194304))=false:=h1
    rw [h1];decide
   refine Br.mk (fun h2=>?_) (fun h2=>?_)
   ·have h2:(sl:Int)>1000:=of_decide_eq_true h2
    exact WRet.same ⟨by unfold canS;rw [if_neg h0,if_neg h1,if_pos h2];rfl,l1⟩
   ·have h2:¬ (sl:Int)>1000:=of_decide_eq_false h2
    exact WRet.same ⟨by unfold canS;rw [if_neg h0,if_neg h1,if_neg h2];rfl,l1⟩
section
variable {m0 mb m:Mem} {P:List Int} {kd nn:Int} {A B:Option Addr} {c d:Nat} {V:CV} {C:CodeR} {M:Mac} {sv:Value} {p:Nat} {H:HdF} {s:St} {sh:List Int}

end
section
variable {m:Mem} {T:Nat} {fr:Nat×Nat} {V:CV} {C:CodeR} {M:Mac} {aa:Option Addr} {ca:Nat} {args:List Int}
end
structure RunIs (C:CodeR) (M:Mac) (sh args:List Int) (n:Int) (m:Mem) (A:Option Addr) (P:List Int) (c:Nat) (kd vl tk:Int):Prop where
 out:OutAt m (.agg ⟨[.slice A P.length c,i kd,i vl]⟩) P kd vl
 bad:canS C M args.length n sh.length≠0→P=[]∧kd=0∧vl=0∧tk=0
 good:canS C M args.length n sh.length=0→P=(runS C M sh n.toNat (beginS C args)).prints∧kd=(runS C M sh n.toNat (beginS C args)).kind∧vl=(runS C M sh n.toNat (beginS C args)).value∧tk=((runS C M sh n.toNat (beginS C args)).took:Int)
theorem RunIs.mono {C:CodeR} {M:Mac} {sh args:List Int} {n:Int} {m m':Mem} {A:Option Addr} {P:List Int} {c:Nat} {kd vl tk:Int} (h:RunIs C M sh args n m A P c kd vl tk) (hle:Mem.le m m'):RunIs C M sh args n m' A P c kd vl tk:=⟨h.out.mono hle,h.bad,h.good⟩
theorem outZ_at (m:Mem):OutAt m (.agg ⟨[.slice none 0 0,i 0,i 0]⟩) [] 0 0:=⟨none,0,rfl,none,0,rfl,(fun _=>rfl),(fun ad h=>by cases h),Nat.le_refl _⟩
theorem run_is {m:Mem} {C:CodeR} {M:Mac} {sh args:List Int} {n:Int} {e:Ending} {m':Mem} (h:RunPost m C M sh args n e m') :
  ∃ A P c kd vl tk,e=.returned (.tuple ⟨[.agg ⟨[.slice A P.length c,i kd,i vl]⟩,i tk,i (canS C M args.length n sh.length)]⟩)∧Mem.le m m'∧RunIs C M sh args n m' A P c kd vl tk:=by
 obtain ⟨hle,h1,h2⟩:=h
 by_cases h0:canS C M args.length n sh.length=0
 ·obtain ⟨v,e1,A,c,e2,hI⟩:=h2 h0
  subst e2
  exact ⟨A,_,c,_,_,_,by rw [e1,h0],hle,⟨A,c,rfl,hI⟩,fun h=>absurd h0 h,fun _=>⟨rfl,rfl,rfl,rfl⟩⟩
 ·exact ⟨none,[],0,0,0,0,h1 h0,hle,outZ_at m',fun _=>⟨rfl,rfl,rfl,rfl⟩,fun h=>absurd h h0⟩
def mostS (n:Int):Int:=if (decide (n>400)&&decide (n≤4194304))=true then 400 else n
theorem most_in (n:Int):mostS n≤100000∨mostS n>4194304:=by
 unfold mostS
 split
 ·exact .inl (by decide)
 ·rename_i h
  rw [Bool.and_eq_true,decide_eq_true_eq,decide_eq_true_eq] at h
  omega
theorem most_low {n:Int} (h:mostS n≤4194304):mostS n≤400:=by
 unfold mostS at h ⊢
 split
 ·exact Int.le_refl _
 ·rename_i h1
  rw [if_neg h1] at h
  rw [Bool.and_eq_true,decide_eq_true_eq,decide_eq_true_eq] at h1
  omega
def rnPart:Nat→IR:=fun k=>match k,ir_biremelaw27_SimRuns.body with
 | 0,.seq a _=>a
 | 1,.seq _ (.seq a _)=>a
 | 2,.seq _ (.seq _ (.seq a _))=>a
 | 3,.seq _ (.seq _ (.seq _ (.seq a _)))=>a
 | 4,.seq _ (.seq _ (.seq _ (.seq _ (.seq a _))))=>a
 | 5,.seq _ (.seq _ (.seq _ (.seq _ (.seq _ (.seq a _)))))=>a
 | 6,.seq _ (.seq _ (.seq _ (.seq _ (.seq _ (.seq _ (.seq a _))))))=>a
 | 7,.seq _ (.seq _ (.seq _ (.seq _ (.seq _ (.seq _ (.seq _ (.seq a _)))))))=>a
 | 8,.seq _ (.seq _ (.seq _ (.seq _ (.seq _ (.seq _ (.seq _ (.seq _ (.seq a _))))))))=>a
 | 9,.seq _ (.seq _ (.seq _ (.seq _ (.seq _ (.seq _ (.seq _ (.seq _ (.seq _ (.seq a _)))))))))=>a
 | _,.seq _ (.seq _ (.seq _ (.seq _ (.seq _ (.seq _ (.seq _ (.seq _ (.seq _ (.seq _ r)))))))))=>r
 | _,r=>r
theorem rn_body:ir_biremelaw27_SimRuns.body=.seq (rnPart 0) (.seq (rnPart 1) (.seq (rnPart 2) (.seq (rnPart 3) (.seq (rnPart 4) (.seq (rnPart 5) (.seq (rnPart 6) (.seq (rnPart 7) (.seq (rnPart 8) (.seq (rnPart 9) (rnPart 10)))))))))):=rfl
section
variable {m:Mem} {T:Nat} {fr:Nat×Nat} {V V1 V2:CV} {C:CodeR} {M:Mac} {aa ba:Option Addr} {ca cb:Nat} {args sh:List Int} {rs:List Res} {RR:Ending→Mem→Prop} {R:IR} {n:Int}
theorem rn1_ok (hrs:rs=[.t 10]) (hV:CodeAt m V C) {av bv:Value}
  (hal:okC C=false→∀ m1,Mem.le m m1→CallsM Tryz.prog 14 [] m1 fun e m''=>e=.returned (.bool true)∧RR (.returned (.bool true)) m'')
  (K:okC C=true→∀ m1 V1,Mem.le m m1→CodeAt m1 V1 (cut27 C)→wpI Tryz.prog R (retPost rs RR) (envL [(2,.val av),(4,.val bv),(5,.var (V.cells C)),(6,.var M.cells),(11,.var (V1.cells (cut27 C))),(13,.val (i (mostS n)))]) m1) :
  wpI Tryz.prog (.seq (rnPart 0) (.seq (rnPart 1) (.seq (rnPart 2) (.seq (rnPart 3) (.seq (rnPart 4) R))))) (retPost rs RR) (envOf [V.val C,M.val,av,i n,bv]) m:=by
 refine WCall.mk (lawCut_ok V hV) ?_
 rintro _ m1 ⟨V1,rfl,l1,hV1⟩
 refine WSc.mk (v:=decide (n≤4194304)) (fun _=>And.intro (Mem.le.refl _) rfl) ?_
 refine Br.mk (fun hb=>?_) (fun hb=>?_)
 ·have em:mostS n=400:=by unfold mostS;exact if_pos hb
  rw [em] at K
  refine Br.mk (fun hk=>?_) (fun hk=>?_)
  ·have hk:okC C=false:=by simpa using hk
   refine WCall.mk (hal hk m1 l1) ?_
   rintro _ m2 ⟨rfl,h⟩
   subst hrs
   exact WRet.same h
  ·have hk:okC C=true:=by simpa using hk
   conv=>whnf
   exact rest_envL (K hk m1 V1 l1 hV1) ⟨rfl,rfl,rfl,rfl,rfl,rfl,trivial⟩
 ·have em:mostS n=n:=by unfold mostS;rw [if_neg (by rw [show (decide (n>400)&&decide (n≤4194304))=false from hb];decide)]
  rw [em] at K
  refine Br.mk (fun hk=>?_) (fun hk=>?_)
  ·have hk:okC C=false:=by simpa using hk
   refine WCall.mk (hal hk m1 l1) ?_
   rintro _ m2 ⟨rfl,h⟩
   subst hrs
   exact WRet.same h
  ·have hk:okC C=true:=by simpa using hk
   conv=>whnf
   exact rest_envL (K hk m1 V1 l1 hV1) ⟨rfl,rfl,rfl,rfl,rfl,rfl,trivial⟩
theorem rn5_ok (hV:CodeAt m V C) (hsh:IAt m (.slice ba sh.length cb) sh) {av:Value} {cells11:List Value} {q:Int}
  (K:∀ m1 V2 A c,Mem.le m m1→CodeAt m1 V2 (cut27 C)→IAt m1 (.slice A (sh.take 1001).length c) (sh.take 1001)→wpI Tryz.prog R (retPost rs RR) (envL [(2,.val av),(4,.val (.slice ba sh.length cb)),(6,.var M.cells),(11,.var cells11),(13,.val (i q)),(14,.var (V2.cells (cut27 C))),(15,.val (.slice A (sh.take 1001).length c))]) m1) :
  wpI Tryz.prog (.seq (rnPart 5) R) (retPost rs RR) (envL [(2,.val av),(4,.val (.slice ba sh.length cb)),(5,.var (V.cells C)),(6,.var M.cells),(11,.var cells11),(13,.val (i q))]) m:=by
 refine WCall.mk (lawOwn_ok V hV) ?_
 rintro _ m1 ⟨V2,rfl,l1,hV2⟩
 refine WCall.mk (few_ok (hsh.mono l1)) ?_
 rintro _ m2 ⟨A,c,rfl,l2,hI⟩
 conv=>whnf
 exact rest_envL (K m2 V2 A c (l1.trans l2) (hV2.mono l2) hI) ⟨rfl,rfl,rfl,rfl,rfl,rfl,rfl,trivial⟩
theorem rn6_ok (hm:m 0=some (.cells ⟨cells0⟩ T fr)) (hV2:CodeAt m V2 C) (hargs:IAt m (.slice aa args.length ca) args) {A5:Option Addr} {c5:Nat} {sh5:List Int} (hI5:IAt m (.slice A5 sh5.length c5) sh5) {bv:Value} {cells11:List Value} {q:Int} (hq:q≤100000∨q>4194304)
  (K:∀ m1 A P c kd vl tk,Mem.le m m1→RunIs C M sh5 (args.take 20) q m1 A P c kd vl tk→wpI Tryz.prog R (retPost rs RR) (envL [(2,.val (.slice aa args.length ca)),(4,.val bv),(6,.var M.cells),(11,.var cells11),(13,.val (i q)),(14,.var (V2.cells C)),(15,.val (.slice A5 sh5.length c5)),
   (16,.var [.slice A P.length c,i kd,i vl]),(17,.val (i tk)),(18,.val (i (canS C M (args.take 20).length q sh5.length)))]) m1) :
  wpI Tryz.prog (.seq (rnPart 6) R) (retPost rs RR) (envL [(2,.val (.slice aa args.length ca)),(4,.val bv),(6,.var M.cells),(11,.var cells11),(13,.val (i q)),(14,.var (V2.cells C)),(15,.val (.slice A5 sh5.length c5))]) m:=by
 have ht:=hargs.take 20
 obtain ⟨a1,c1,e1,q0,q1,q2⟩:=id ht
 injection e1 with e11 _ e13
 subst e11;subst e13
 have hcap:args.length≤ca:=by
  obtain ⟨_,c2,e2,_,_,hcap⟩:=hargs
  injection e2 with _ _ e23
  subst e23
  exact hcap
 have hl:(args.take 20).length=min 20 args.length:=List.length_take
 have em:(if (20:Int)<args.length then (20:Int) else args.length)=((args.take 20).length:Int):=by rw [hl];split<;>omega
 have hrun:=fun (m':Mem) (hm':Mem.le m m') (sa:Option Addr) (cs:Nat) (h:IAt m' (.slice sa (args.take 20).length cs) (args.take 20))=>CallsM.mono (simRun_ok (hm' _ _ hm) V2 M (hV2.mono hm') h (hI5.mono hm') q hq) fun e m2 hR=>run_is hR
 generalize canS C M (args.take 20).length q sh5.length=can at *
 repeat' (conv=>whnf
          first
          | exact trivial
          | (refine WNew.ab fun b1 m1 hb1 l1 cc1=>?_)
          | (refine WSl.mk ⟨Int.le_refl _,by show (0:Int)≤(if (20:Int)<args.length then (20:Int) else args.length);rw [em];omega,by show (if (20:Int)<args.length then (20:Int) else args.length)≤(ca:Int);rw [em];omega⟩ ?_)
          | (refine WApp.copyE cc1 (A:=aa) (n:=(args.take 20).length) (if_map rfl) (by rw [em];show Int.toNat _ - Int.toNat 0=_;simp) ((args.take 20).map i) ⟨by simp,fun ad had=>(q1 ad had).mono l1⟩ (fun ha=>by rw [q0 ha];rfl) (by rw [hl];omega) fun b' cb' m2 rest hle hcb hcells=>?_)
          | (refine WCallG.mk (hrun m2 (l1.trans hle) (some ⟨b',0,none⟩) cb' ⟨_,cb',rfl,(fun h=>by cases h),fun ad had=>(by cases had;exact CellsAt.blk hcells fun q v hq=>by rw [Nat.zero_add,List.getElem?_append_left (List.getElem?_eq_some_iff.1 hq).1];exact hq),hcb⟩) ?_;rintro _ m3 ⟨A,P,c,kd,vl,tk,rfl,l3,hRI⟩;refine ⟨l3,?_⟩)
          | (exact rest_envL (K m3 A P c kd vl tk ((l1.trans hle).trans l3) hRI) ⟨rfl,rfl,rfl,rfl,rfl,rfl,rfl,rfl,rfl,rfl,trivial⟩)
          | (refine And.intro ?_ ?_))
theorem lawWrong2_ok (hV1:CodeAt m V1 C) {a' sa:Option Addr} {al al' ca' sl cs:Nat} (q:Int) (hal:al'=al) :
  CallsM Tryz.prog 18 [V1.val C,M.val,.slice a' al' ca',i q,.slice sa sl cs] m fun e m'=>e=.returned (i (canS C M al q sl))∧Mem.le m m':=by
 subst hal;exact lawWrong_ok V1 M hV1 q
theorem rn7_ok (hV1:CodeAt m V1 C) (hargs:IAt m (.slice aa args.length ca) args) {A5:Option Addr} {c5 sl5:Nat} {bv:Value} {cells14 cells16:List Value} {q tk ok:Int}
  (K:∀ m1,Mem.le m m1→wpI Tryz.prog R (retPost rs RR) (envL [(2,.val (.slice aa args.length ca)),(4,.val bv),(6,.var M.cells),(11,.var (V1.cells C)),(13,.val (i q)),(14,.var cells14),
   (16,.var cells16),(17,.val (i tk)),(18,.val (i ok)),(19,.val (i (canS C M (args.take 20).length q sl5)))]) m1) :
  wpI Tryz.prog (.seq (rnPart 7) R) (retPost rs RR) (envL [(2,.val (.slice aa args.length ca)),(4,.val bv),(6,.var M.cells),(11,.var (V1.cells C)),(13,.val (i q)),(14,.var cells14),(15,.val (.slice A5 sl5 c5)),
   (16,.var cells16),(17,.val (i tk)),(18,.val (i ok))]) m:=by
 have hcap:args.length≤ca:=by
  obtain ⟨_,c2,e2,_,_,hcap⟩:=hargs
  injection e2 with _ _ e23
  subst e23
  exact hcap
 have hl:(args.take 20).length=min 20 args.length:=List.length_take
 have em:(if (20:Int)<args.length then (20:Int) else args.length)=((args.take 20).length:Int):=by rw [hl];split<;>omega
 refine WSl.mk ⟨Int.le_refl _,by show (0:Int)≤(if (20:Int)<args.length then (20:Int) else args.length);rw [em];omega,by show (if (20:Int)<args.length then (20:Int) else args.length)≤(ca:Int);rw [em];omega⟩ ?_
 conv=>whnf
 refine ⟨?_,trivial⟩
 refine WCall.mk (lawWrong2_ok hV1 (al:=(args.take 20).length) q (by rw [em];show Int.toNat _ - Int.toNat 0=_;simp)) ?_
 rintro _ m1 ⟨rfl,l1⟩
 conv=>whnf
 exact rest_envL (K m1 l1) ⟨rfl,rfl,rfl,rfl,rfl,rfl,rfl,rfl,rfl,rfl,trivial⟩
theorem rn8_ok (hrs:rs=[.t 10]) {A:Option Addr} {P:List Int} {c:Nat} {kd vl tk can:Int} (hbad:can≠0→OutAt m (.agg ⟨[.slice A P.length c,i kd,i vl]⟩) [] 0 0∧tk=0)
  (hal:can≠0→CallsM Tryz.prog 14 [] m fun e m''=>e=.returned (.bool true)∧m''=m) (hR:RR (.returned (.bool true)) m) {av bv:Value} {c6 c11 c14:List Value} {q:Int}
  (K:can=0→wpI Tryz.prog R (retPost rs RR) (envL [(2,.val av),(4,.val bv),(6,.var c6),(11,.var c11),(13,.val (i q)),(14,.var c14),(16,.var [.slice A P.length c,i kd,i vl]),(17,.val (i tk)),(18,.val (i can))]) m) :
  wpI Tryz.prog (.seq (rnPart 8) R) (retPost rs RR) (envL [(2,.val av),(4,.val bv),(6,.var c6),(11,.var c11),(13,.val (i q)),(14,.var c14),(16,.var [.slice A P.length c,i kd,i vl]),(17,.val (i tk)),(18,.val (i can)),(19,.val (i can))]) m:=by
 refine Br.mk (fun h=>?_) (fun h=>?_)
 ·have h:can≠0:=by simpa using h
  obtain ⟨ho,htk⟩:=hbad h
  have hal:=hal h
  refine WSc.mk (v:=tk==0) (fun _=>And.intro (Mem.le.refl _) rfl) ?_
  refine WSc.mk (v:=true) (fun _=>?_) ?_
  ·refine WCall.mk (same_ok ho (outZ_at m) (by decide)) ?_
   rintro _ _ ⟨rfl,rfl⟩
   conv=>whnf
   exact And.intro (Mem.le.refl _) rfl
  refine WSc.mk (v:=true) (fun _=>?_) ?_
  ·refine WCall.mk hal ?_
   rintro _ _ ⟨rfl,rfl⟩
   conv=>whnf
   exact And.intro (Mem.le.refl _) rfl
  subst hrs
  refine WRet.same ?_
  have e:(((can==can)&&(tk==0))&&true&&true)=true:=by rw [htk];simp
  show RR (.returned (.bool ((((can==can)&&(tk==0))&&true)&&true))) m
  rw [e];exact hR
 ·have h:can=0:=by simpa using h
  conv=>whnf
  exact rest_envL (K h) ⟨rfl,rfl,rfl,rfl,rfl,rfl,rfl,rfl,rfl,trivial⟩
theorem rn9_ok (hV1:CodeAt m V1 C) (hsh:IAt m (.slice ba sh.length cb) sh) (hsl:sh.length≤1000) {av:Value} {q:Int} {s:St}
  (hrun:∀ m1 A c,Mem.le m m1→IAt m1 (.slice A sh.length c) sh→CallsM Tryz.prog 20 [V1.val C,M.val,av,i q,.slice A sh.length c] m1 (RunR m1 s)) {cells14 cells16:List Value} {tk ok:Int}
  (K:∀ m1 B d,Mem.le m m1→OutAt m1 (.agg ⟨[.slice B s.prints.length d,i s.kind,i s.value]⟩) s.prints s.kind s.value→wpI Tryz.prog R (retPost rs RR) (envL [(11,.var (V1.cells C)),(14,.var cells14),
   (16,.var cells16),(17,.val (i tk)),(18,.val (i ok)),(20,.var [.slice B s.prints.length d,i s.kind,i s.value]),(21,.val (i (s.took:Int)))]) m1) :
  wpI Tryz.prog (.seq (rnPart 9) R) (retPost rs RR) (envL [(2,.val av),(4,.val (.slice ba sh.length cb)),(6,.var M.cells),(11,.var (V1.cells C)),(13,.val (i q)),(14,.var cells14),(16,.var cells16),(17,.val (i tk)),(18,.val (i ok))]) m:=by
 repeat' (conv=>whnf
          first
          | exact trivial
          | (refine WCallG.mk (few_all hsh hsl) ?_;rintro _ m1 ⟨A,c,rfl,l1,hI⟩;refine ⟨l1,?_⟩)
          | (refine WCallG.mk (hrun m1 A c l1 hI) ?_;rintro _ m2 ⟨B,d,rfl,l2,hO⟩;refine ⟨l2,?_⟩)
          | (exact rest_envL (K m2 B d (l1.trans l2) hO) ⟨rfl,rfl,rfl,rfl,rfl,rfl,rfl,trivial⟩)
          | (refine And.intro ?_ ?_))
theorem rnEnd_ok (hrs:rs=[.t 10]) {A B:Option Addr} {P:List Int} {c d:Nat} {kd vl tk:Int} (h1:OutAt m (.agg ⟨[.slice A P.length c,i kd,i vl]⟩) P kd vl) (h2:OutAt m (.agg ⟨[.slice B P.length d,i kd,i vl]⟩) P kd vl) (hl:P.length≤1000000000)
  (hV1:CodeAt m V1 C) (hV2:CodeAt m V2 C) (hol:∀ w∈C.ws,w.ops.length≤400)
  (hal:CallsM Tryz.prog 14 [] m fun e m''=>e=.returned (.bool true)∧m''=m) (hR:RR (.returned (.bool true)) m) :
  wpI Tryz.prog (rnPart 10) (retPost rs RR) (envL [(11,.var (V1.cells C)),(14,.var (V2.cells C)),(16,.var [.slice A P.length c,i kd,i vl]),(17,.val (i tk)),(18,.val (i 0)),(20,.var [.slice B P.length d,i kd,i vl]),(21,.val (i tk))]) m:=by
 have kk:(tk==tk)=true:=by simp
 refine WSc.mk (v:=tk==tk) (fun _=>And.intro (Mem.le.refl _) rfl) ?_
 refine WSc.mk (v:=true) (fun _=>?_) ?_
 ·refine WCall.mk (same_ok h1 h2 hl) ?_
  rintro _ _ ⟨rfl,rfl⟩
  conv=>whnf
  exact And.intro (Mem.le.refl _) rfl
 refine WSc.mk (v:=true) (fun _=>?_) ?_
 ·refine WCall.mk (refSame_ok hV1 hV2 hol) ?_
  rintro _ _ ⟨rfl,rfl⟩
  conv=>whnf
  exact And.intro (Mem.le.refl _) rfl
 refine WSc.mk (v:=true) (fun _=>?_) ?_
 ·refine WCall.mk hal ?_
  rintro _ _ ⟨rfl,rfl⟩
  conv=>whnf
  exact And.intro (Mem.le.refl _) rfl
 subst hrs
 refine WRet.same ?_
 show RR (.returned (.bool ((((true&&(tk==tk))&&true)&&true)&&true))) m
 rw [kk];exact hR
theorem simRuns_law (hm:m 0=some (.cells ⟨cells0⟩ T fr)) (hV:CodeAt m V C) (hargs:IAt m (.slice aa args.length ca) args) (hsh:IAt m (.slice ba sh.length cb) sh)
  (hal:∀ m',Mem.le m m'→CallsM Tryz.prog 14 [] m' fun e m''=>e=.returned (.bool true)∧m''=m') :
  CallsM Tryz.prog 3 [V.val C,M.val,.slice aa args.length ca,i n,.slice ba sh.length cb] m fun e m'=>e=.returned (.bool true)∧Mem.le m m':=by
 refine calls_of mixed Tryz.func3 ok_biremelaw27_SimRuns rfl ?_
 unfold Fn.asks
 rw [rn_body]
 refine rn1_ok rfl hV (fun _ m1 l1=>CallsM.mono (hal m1 l1) ?_) fun hok m1 V1 l1 hV1=>rn5_ok (hV.mono l1) (hsh.mono l1) fun m2 V2 A5 c5 l2 hV2 hI5=>?_
 ·rintro _ _ ⟨rfl,rfl⟩;exact ⟨rfl,rfl,l1⟩
 have L2:=l1.trans l2
 refine rn6_ok (L2 _ _ hm) hV2 (hargs.mono L2) hI5 (most_in n) fun m3 A P c kd vl tk l3 hRI=>?_
 have L3:=L2.trans l3
 refine rn7_ok (hV1.mono (l2.trans l3)) (hargs.mono L3) fun m4 l4=>?_
 have L4:=L3.trans l4
 have hRI:=hRI.mono l4
 refine rn8_ok rfl (fun h=>?_) (fun _=>hal m4 L4) ⟨rfl,L4⟩ fun hcan=>?_
 ·obtain ⟨e1,e2,e3,e4⟩:=hRI.bad h
  have:=hRI.out
  rw [e1,e2,e3] at this ⊢
  exact ⟨this,e4⟩
 obtain ⟨hC,hM,hpa,hn0,hn1,hsl⟩:=can_zero hcan
 have hpr:=hC.pr
 have hal20:(args.take 20).length≤8:=by omega
 have hA:args.take 20=args:=by
  rw [List.length_take] at hal20
  exact List.take_of_length_le (by omega)
 have hS:sh.take 1001=sh:=by
  rw [List.length_take] at hsl
  exact List.take_of_length_le (by omega)
 rw [hA,hS] at hRI hcan
 rw [hA] at hpa
 rw [hS] at hsl
 have hlow:=most_low hn1
 obtain ⟨qn,hqn⟩:∃ qn:Nat,mostS n=qn:=⟨(mostS n).toNat,by omega⟩
 rw [hqn] at hRI hcan hlow ⊢
 obtain ⟨e1,e2,e3,e4⟩:=hRI.good hcan
 have hal2:args.length≤(cut27 C).rg.toNat:=by omega
 have ho:=hRI.out
 rw [Int.toNat_natCast] at e1 e2 e3 e4
 have hpl:P.length≤1000000000:=by rw [e1];exact lim400 hC hal2 (by omega)
 rw [hS,hA,hcan]
 refine rn9_ok (s:=runS (cut27 C) M sh qn (beginS (cut27 C) args)) (hV1.mono ((l2.trans l3).trans l4)) (hsh.mono L4) hsl (fun m5 A6 c6 l5 hI6=>rfRun_ok ((L4.trans l5) _ _ hm) V1 M (hV1.mono (((l2.trans l3).trans l4).trans l5)) hC hM (hargs.mono (L4.trans l5)) hal2 hI6 hsl qn (by omega)) fun m5 B d l5 hO=>?_
 have L5:=L4.trans l5
 rw [← e1,← e2,← e3] at hO
 rw [← e1,← e2,← e3,← e4]
 exact rnEnd_ok rfl (ho.mono l5) hO hpl (hV1.mono (((l2.trans l3).trans l4).trans l5)) (hV2.mono ((l3.trans l4).trans l5)) hC.ol (hal m5 L5) ⟨rfl,L5⟩
end
end Go.Proofs.YtleofbpepfmfgaaGreatDoor
set_option maxRecDepth 100000
namespace Go.Proofs.YtleofbpepfmfgaaGreatDoor
open Go Go.Vx
theorem simRuns_ok {m:Mem} {V:CV} {C:CodeR} {M:Mac} {n:Int} {v2 v4:Value} {args sh:List Int} (hV:CodeAt m V C) (h2:IAt m v2 args) (h4:IAt m v4 sh) {T:Nat} {fr:Nat×Nat} (hm:m 0=some (.cells ⟨cells0⟩ T fr)) :
  CallsM Tryz.prog 3 [V.val C,M.val,v2,i n,v4] m fun e m'=>e=.returned (.bool true)∧Mem.le m m':=by
 have g2:=h2
 have g4:=h4
 obtain ⟨a2,c2,rfl,_⟩:=h2
 obtain ⟨a4,c4,rfl,_⟩:=h4
 exact simRuns_law hm hV g2 g4 fun m' hle=>alive_ok (hle _ _ hm)
end Go.Proofs.YtleofbpepfmfgaaGreatDoor
