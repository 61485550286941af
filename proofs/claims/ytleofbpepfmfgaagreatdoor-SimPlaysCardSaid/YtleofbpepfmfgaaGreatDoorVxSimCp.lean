import Derived.Test.YtleofbpepfmfgaaGreatDoorVxSimJ
set_option maxRecDepth 100000
namespace Go.Proofs.YtleofbpepfmfgaaGreatDoor
open Go Go.Vx
open Go.Vx.IOp Go.Vx.IR Go.Vx.Opd
def k0o (m:Mem) (C:q0c) (M:Mac) (word:Int) (e:Ending) (m':Mem):Prop :=
 Mem.le m m'∧(q2b C M≠0→e=.returned (.tuple ⟨[ns,i (q2b C M)]⟩))∧(q2b C M=0→(word<0∨word≥C.ws.length)→e=.returned (.tuple ⟨[ns,i 2]⟩)) ∧
  (q2b C M=0→0≤word∧word<C.ws.length→∃ A,z0h C M A∧OkW C A∧(A[word.toNat]? = some none→e=.returned (.tuple ⟨[ns,i 5]⟩)) ∧
   ∀ w,A[word.toNat]? = some (some w)→∃ a c,e=.returned (.tuple ⟨[.slice a w.length c,i 0]⟩)∧IAt m' (.slice a w.length c) (w.map fun n:Nat=>(n:Int)))
theorem j6x {m:Mem} {T:Nat} {fr:Nat×Nat} (hm:m 0=some (.cells ⟨q2f⟩ T fr)) (V:CV) {C:q0c} (M:Mac) (hV:q1q m V C) (word:Int) :
  q0f Tryz.prog 23 [V.val C,M.val,i word] m (k0o m C M word):=by
 refine q0e q0d Tryz.func23 v7v rfl ?_
 have hn2:=hV.n2
 conv=>whnf
 refine q0a.mk (z4a hm V hV M) ?_
 rintro _ m1 ⟨rfl,l1⟩
 refine Br.mk (fun h0=>?_) (fun h0=>?_)
 ·have h0:q2b C M≠0:=by simpa using h0
  exact WRet.same ⟨l1,fun _=>rfl,fun h=>absurd h h0,fun h=>absurd h h0⟩
 have h0:q2b C M=0:=by simpa using h0
 obtain ⟨hC,hM⟩:=z4j h0
 have hrg:=hC.rg
 refine WSc.mk (v:=decide (word≥(V.n2:Int))) (fun _=>And.intro (Mem.le.refl _) rfl) ?_
 refine Br.mk (fun h1=>?_) (fun h1=>?_)
 ·have h1:(decide (word<0)||decide (word≥(V.n2:Int)))=true:=h1
  simp only [Bool.or_eq_true,decide_eq_true_eq] at h1
  exact WRet.same ⟨l1,fun h=>absurd h0 h,fun _ _=>rfl,fun _ h=>by omega⟩
 have h1:(decide (word<0)||decide (word≥(V.n2:Int)))=false:=h1
 simp only [Bool.or_eq_false_iff,decide_eq_false_iff_not] at h1
 obtain ⟨k,rfl⟩:∃ k:Nat,word=k:=⟨word.toNat,by omega⟩
 have hk:k<C.ws.length:=by omega
 conv=>whnf
 refine q0a.mk (v1j (l1 _ _ hm) V M (hV.mono l1) hC hM) ?_
 rintro _ m2 ⟨S,rfl,hS,l2,hf,hLe,hOk⟩
 have hAl:=hLe.is.len
 have L2:=l1.trans l2
 obtain ⟨x,hx⟩:∃ x,S.A[k]? = some x:=⟨_,List.getElem?_eq_getElem (by rw [hAl];exact hk)⟩
 have hrow:=hS.atRow hx
 refine WLd.mk _ hS.at17 ?_
 refine WIdx.mk _ rfl ⟨by omega,by omega⟩ ?_
 cases x with
 | none =>
  refine WLd.mk ns (by simpa [Wt.rowV] using hrow) ?_
  refine Br.mk (fun _=>?_) (fun hh=>by cases hh)
  refine WRet.same ⟨L2,fun h=>absurd h0 h,fun _ h=>by omega,fun _ _=>⟨S.A,hLe,hOk,fun _=>rfl,fun w hw=>?_⟩⟩
  rw [Int.toNat_natCast,hx] at hw;cases hw
 | some w =>
  have hub:=hOk.ub k w hx
  have hwl:=hOk.wl k w hx
  have hR:=hS.row k w hx
  refine WLd.mk (.slice (some ⟨S.rb k,0,none⟩) w.length (S.rc k)) (by simpa [Wt.rowV] using hrow) ?_
  refine Br.mk (fun hh=>by cases hh) (fun _=>?_)
  refine WLd.mk _ hS.at17 ?_
  refine WIdx.mk _ rfl ⟨by omega,by omega⟩ ?_
  refine WLd.mk (.slice (some ⟨S.rb k,0,none⟩) w.length (S.rc k)) (by simpa [Wt.rowV] using hrow) ?_
  conv=>whnf
  refine q0v.mk (Nat×Option Addr×Nat) (fun x=>[(10,.val (.slice x.2.1 x.1 x.2.2)),(47,.val (i x.1))]) (fun x m'=>x.1≤w.length∧Mem.le m2 m'∧q1s m2 m' x.2.1 x.2.2 ((w.take x.1).map fun n:Nat=>(n:Int))) (fun x=>w.length - x.1) (0,none,0)
   ⟨rfl,rfl,trivial⟩ ⟨Nat.zero_le _,Mem.le.refl _,.inl ⟨rfl,rfl,rfl⟩⟩ ?_
  rintro ⟨j,a,c⟩ m3 ⟨hj,l3,hP⟩
  simp only at hj hP
  refine Br.mk (fun hb=>?_) (fun hb=>?_)
  ·have hj2:j<w.length:=by
    have:(j:Int)<(w.length:Nat):=of_decide_eq_true hb
    omega
   have h8:=hub _ (List.getElem_mem hj2)
   have hcell:=(hR.mono l3).cell hj2
   rw [List.getD_eq_getElem?_getD,List.getElem?_eq_getElem hj2,Option.getD_some] at hcell
   refine WIdx.mk _ rfl ⟨by omega,by omega⟩ ?_
   refine WLd.mk (v8 w[j]) (by simpa using hcell) ?_
   refine WRng.mk (by apply wrap_i64<;>omega) ?_
   refine WNew.ab fun bx m4 hbx l4 cx=>?_
   conv=>whnf
   refine q4a (l3.trans l4) (hP.mono l4) cx (by simp;omega) (by simp;omega) fun a' c' m5 l5 hP5=>?_
   have e1:((w.take j).map fun n:Nat=>(n:Int)).length=j:=by simp;omega
   have e2:(w.take (j+1)).map (fun n:Nat=>(n:Int))=(w.take j).map (fun n:Nat=>(n:Int))++[(w[j]:Int)]:=by rw [List.take_succ_eq_append_getElem hj2,List.map_append];rfl
   refine WRng.mk (by apply wrap_i64<;>omega) ?_
   conv=>whnf
   refine ⟨(j+1,a',c'),⟨?_,rfl,trivial⟩,⟨hj2,l5,?_⟩,Nat.sub_lt_sub_left hj2 (Nat.lt_succ_self j)⟩
   ·show some (AV.val (.slice a' (((w.take j).map fun n:Nat=>(n:Int)).length+1) c'))=_
    rw [e1]
   ·show q1s m2 m5 a' c' ((w.take (j+1)).map fun n:Nat=>(n:Int))
    rw [e2];exact hP5
  ·have hj2:j=w.length:=by
    have:¬ (j:Int)<(w.length:Nat):=of_decide_eq_false hb
    omega
   subst hj2
   rw [List.take_length] at hP
   refine WRet.same ⟨L2.trans l3,fun h=>absurd h0 h,fun _ h=>by omega,fun _ _=>⟨S.A,hLe,hOk,fun h=>?_,fun w' hw=>?_⟩⟩
   ·rw [Int.toNat_natCast,hx] at h;cases h
   ·rw [Int.toNat_natCast,hx] at hw
    cases hw
    have hI:=hP.iat
    rw [List.length_map] at hI
    exact ⟨a,c,rfl,hI⟩
def exO1:OpR:=⟨13,1,0,0,0,0,-1⟩
def exO2:OpR:=⟨27,0,1,0,0,0,-1⟩
def exC:q0c:=⟨[],1,2,0,0,[⟨[exO1],-1⟩,⟨[exO2],-1⟩]⟩
def exM:Mac:=⟨1,1,1,1,1,3,2,1,32,2,4⟩
theorem k9q (m:Mem):q0f Tryz.prog 45 [] m fun e m'=>∃ V,e=.returned (.tuple ⟨[V.val exC,exM.val]⟩)∧Mem.le m m'∧q1q m' V exC:=by
 refine q0e q0d Tryz.func45 j3v rfl ?_
 refine WNew.ab fun b1 m1 hb1 l1 c1=>?_
 refine WNew.ab fun b2 m2 hb2 l2 c2=>?_
 refine WNew.ab fun b3 m3 hb3 l3 c3=>?_
 conv=>whnf
 have c1:=l3 _ _ (l2 _ _ c1)
 have c2:=l3 _ _ c2
 have ho:∀ {b:Nat} {o:OpR},m3 b=some (Cells o.cells 110)→OAt m3 (.slice (some ⟨b,0,none⟩) [o].length 1) [o]:=fun {b o} h=>by
  refine ⟨_,1,rfl,(fun h=>by cases h),fun ad ha=>?_,Nat.le_refl _⟩
  cases ha
  exact q0g.blk h fun q v hq=>by rw [Nat.zero_add];simpa [ocs] using hq
 refine WRet.same ⟨⟨none,0,0,some ⟨b3,0,none⟩,2,2⟩,rfl,(l1.trans l2).trans l3,⟨none,0,rfl,fun _=>rfl,(fun ad h=>by cases h),Nat.le_refl _⟩,?_,by decide,by decide⟩
 have hL:q6v m3 [.slice (some ⟨b1,0,none⟩) 1 1,i (-1),.slice (some ⟨b2,0,none⟩) 1 1,i (-1)] exC.ws:=by
  refine ⟨rfl,fun k hk=>?_⟩
  match k,hk with
  | 0,_=>exact ⟨_,_,rfl,rfl,ho (o:=exO1) c1⟩
  | 1,_=>exact ⟨_,_,rfl,rfl,ho (o:=exO2) c2⟩
 have hc3:m3 b3=some (Cells ([.slice (some ⟨b1,0,none⟩) 1 1,i (-1),.slice (some ⟨b2,0,none⟩) 1 1,i (-1)]++[]) z6h):=c3
 exact v2h (c:=2) hL hc3 (Nat.le_refl _)
theorem q9f:q2b exC exM=0:=by kernel_rfl
theorem w2z:runS exC exM [] 10 (q2t exC [7])={ q2t exC [7] with word:=0,took:=2,begun:=1,ended:=true,kind:=1,value:=0 }:=by kernel_rfl
theorem k4n:runS exC exM [1] 10 (q2t exC [7])={ q2t exC [7] with word:=0,took:=2,begun:=1,ended:=true,kind:=1,value:=49,regs:=[⟨7,0⟩,⟨49,0⟩] }:=by kernel_rfl
theorem v3n:runS exC exM [] 1 (q2t exC [7])={ q2t exC [7] with word:=1,took:=1,begun:=1,way:=[⟨1,⟨49,0⟩,3⟩] }:=by kernel_rfl
def exA:WS:=[some [0,0],some [0,2]]
theorem ex_is:IsW exC exM exA:=by
 refine ⟨rfl,fun k w hk=>?_,⟨_,rfl⟩,fun k w hk p hp=>?_⟩
 ·match k,hk with
  | 0,hk=>cases hk;rfl
  | 1,hk=>cases hk;rfl
 ·match k,hk with
  | 0,hk =>
   cases hk
   have hp:p∈[((1:Nat),[0,2])]:=hp
   rw [List.mem_singleton] at hp
   subst hp
   exact ⟨[0,2],rfl,leW.refl _⟩
  | 1,hk =>
   cases hk
   have hp:p∈([]:List (Nat×List Nat)):=hp
   cases hp
theorem v0w {A:WS} (h:IsW exC exM A):∃ w,A[1]? = some (some w)∧2≤w.getD 1 0:=by
 obtain ⟨w0,h0⟩:=h.zero
 have hl:=h.wl 0 w0 h0
 have hl:w0.length=2:=hl
 match w0,hl with
 | [a,b],_ =>
  obtain ⟨w',h1,h2⟩:=h.go 0 _ h0 (1,decW (q3e exM [a,b] exO1)) (by
   show _∈q2l exC exM 0 (-1) [exO1] [a,b]
   have:q2l exC exM 0 (-1) [exO1] [a,b]=[(1,decW (q3e exM [a,b] exO1))]:=rfl
   rw [this];exact List.mem_singleton.2 rfl)
  refine ⟨w',h1,?_⟩
  have h3:=h2 1
  have h4:(decW (q3e exM [a,b] exO1)).getD 1 0=max b 3 - 1:=rfl
  have h3:(decW (q3e exM [a,b] exO1)).getD 1 0≤w'.getD 1 0:=h3
  rw [h4] at h3
  omega
theorem k1g {A:WS} (h:z0h exC exM A):¬ z9p exC exM A:=fun hs=>by
 obtain ⟨w,h1,h2⟩:=v0w h.is
 have h3:=hs 1 w h1
 have h4:q5m exM w [exO2] w=true:=h3
 unfold q5m at h4
 rw [Bool.and_eq_true] at h4
 have h5:(q0b exO2).all (fun r=>w.getD r.toNat 0==0)=(w.getD 1 0==0&&true):=rfl
 rw [h5] at h4
 simp only [Bool.and_true,beq_iff_eq] at h4
 omega
theorem j9e {A:WS} (h:z0h exC exM A):∃ w,A[1]? = some (some w)∧w.length=2∧w.getD 1 0=2:=by
 obtain ⟨w,h1,h2⟩:=v0w h.is
 obtain ⟨w',h3,h4⟩:=h.le exA ex_is 1 w h1
 have h3:some (some [0,2])=some (some w'):=h3
 cases h3
 have h5:w.getD 1 0≤2:=h4 1
 exact ⟨w,h1,h.is.wl 1 w h1,by omega⟩
theorem IAt.take {m:Mem} {a:Option Addr} {c:Nat} {L:List Int} (h:IAt m (.slice a L.length c) L) (k:Nat):IAt m (.slice a (L.take k).length c) (L.take k):=by
 obtain ⟨a',c',e,h0,h1,h2⟩:=h
 injection e with e1 _ e3
 subst e1;subst e3
 refine ⟨a,c,rfl,fun e=>by rw [h0 e];simp,fun ad ha=>?_,Nat.le_trans (by simp;omega) h2⟩
 rw [List.map_take]
 exact q0g.take (h1 ad ha) k
theorem z9j {m:Mem} {a:Option Addr} {c:Nat} {L:List Int} (h:IAt m (.slice a L.length c) L) :
  q0f Tryz.prog 16 [.slice a L.length c] m fun e m'=>∃ A cc,e=.returned (.slice A (L.take 1001).length cc)∧Mem.le m m'∧IAt m' (.slice A (L.take 1001).length cc) (L.take 1001):=by
 refine q0e q0d Tryz.func16 v3s rfl ?_
 have ht:=h.take 1001
 obtain ⟨a1,c1,e1,q0,q1,q2⟩:=id ht
 injection e1 with e11 _ e13
 subst e11;subst e13
 obtain ⟨_,c2,e2,_,_,hcap⟩:=h
 injection e2 with _ _ e23
 subst e23
 have hl:(L.take 1001).length=min 1001 L.length:=List.length_take
 refine WNew.ab fun b1 m1 hb1 l1 c1'=>?_
 have em:(if (1001:Int)<L.length then (1001:Int) else L.length)=((L.take 1001).length:Int):=by rw [hl];split<;>omega
 refine WSl.mk ⟨Int.le_refl _,by show (0:Int)≤(if (1001:Int)<L.length then (1001:Int) else L.length);rw [em];omega,by show (if (1001:Int)<L.length then (1001:Int) else L.length)≤(c:Int);rw [em];omega⟩ ?_
 refine WApp.copyE c1' (A:=a) (n:=(L.take 1001).length) (q8r rfl) (by rw [em];show Int.toNat _ - Int.toNat 0=_;simp) ((L.take 1001).map i) ⟨by simp,fun ad had=>(q1 ad had).mono l1⟩ (fun ha=>by rw [q0 ha];rfl) (by rw [hl];omega) fun b' cb m2 rest hle hcb hcells=>?_
 refine WRet.same ⟨some ⟨b',0,none⟩,cb,rfl,l1.trans hle,⟨_,cb,rfl,(fun h=>by cases h),fun ad had=>?_,hcb⟩⟩
 cases had
 exact q0g.blk hcells fun q v hq=>by rw [Nat.zero_add,List.getElem?_append_left (List.getElem?_eq_some_iff.1 hq).1];exact hq
theorem v7j {m:Mem} {v u:Value} {P:List Int} {kd n:Int} (hv:q4n m v P kd n) (hu:q4n m u P kd n) (hl:P.length≤1000000000):q0m Tryz.prog 19 [v,u] m (.bool true):=by
 obtain ⟨A,c,rfl,hI⟩:=hv
 obtain ⟨B,d,rfl,hJ⟩:=hu
 obtain ⟨A',c',e1,q0,q1,_⟩:=hI
 injection e1 with e11 _ e13
 subst e11;subst e13
 obtain ⟨B',d',e2,r0,r1,_⟩:=hJ
 injection e2 with e21 _ e23
 subst e21;subst e23
 refine q0e q0d Tryz.func19 j3m rfl ?_
 refine WSc.mk (v:=n != n) (fun _=>And.intro (Mem.le.refl _) rfl) ?_
 refine WSc.mk (v:=(P.length:Int) != P.length) (fun _=>And.intro (Mem.le.refl _) rfl) ?_
 refine Br.mk (fun hh=>?_) (fun _=>?_)
 ·have hh:((kd != kd||n != n)||(P.length:Int) != P.length)=true:=hh
  simp at hh
 conv=>whnf
 refine q0v.mk Nat (fun k=>[(5,.val (i k))]) (fun k m'=>m=m'∧k≤P.length) (fun k=>P.length - k) 0 ⟨rfl,trivial⟩ ⟨rfl,Nat.zero_le _⟩ ?_
 rintro k m' ⟨rfl,hk⟩
 refine Br.mk (fun hb=>?_) (fun hb=>?_)
 ·have hk2:k<P.length:=by
   have:(k:Int)<(P.length:Nat):=of_decide_eq_true hb
   omega
  obtain ⟨ad,rfl⟩:∃ ad,A=some ad:=by
   cases A with
   | none=>rw [q0 rfl] at hk2;simp at hk2
   | some ad=>exact ⟨ad,rfl⟩
  obtain ⟨bd,rfl⟩:∃ bd,B=some bd:=by
   cases B with
   | none=>rw [r0 rfl] at hk2;simp at hk2
   | some bd=>exact ⟨bd,rfl⟩
  refine WIdx.mk ad rfl ⟨by omega,by omega⟩ ?_
  refine WLd.mk (i P[k]) (by simpa using IAt.cell (q1 ad rfl) hk2) ?_
  refine WIdx.mk bd rfl ⟨by omega,by omega⟩ ?_
  refine WLd.mk (i P[k]) (by simpa using IAt.cell (r1 bd rfl) hk2) ?_
  refine Br.mk (fun hh=>?_) (fun _=>?_)
  ·have hh:(P[k] != P[k])=true:=hh
   simp at hh
  refine WRng.mk (by apply wrap_i64<;>omega) ?_
  conv=>whnf
  exact ⟨k+1,⟨rfl,trivial⟩,⟨rfl,hk2⟩,Nat.sub_lt_sub_left hk2 (Nat.lt_succ_self k)⟩
 ·exact WRet.same ⟨rfl,rfl⟩
theorem v3a {C:q0c} {M:Mac} {al:Nat} (h:q2b C M=0) (ha:(al:Int)=C.pr) {n:Int} (hn:0≤n∧n≤4194304) {sl:Nat} (hs:sl≤1000):canS C M al n sl=0:=by
 unfold canS
 rw [if_neg (by simp [h]),if_neg ?_,if_neg (by omega)]
 simp only [Bool.or_eq_true,bne_iff_ne,ne_eq,decide_eq_true_eq,not_or,Decidable.not_not]
 omega
theorem z5v {m:Mem} {b z':Nat} {z:Int} (h:m b=some (Cells [i z] z')):IAt m (.slice (some ⟨b,0,none⟩) [z].length 1) [z]:=by
 refine ⟨_,1,rfl,(fun h=>by cases h),fun ad ha=>?_,Nat.le_refl _⟩
 cases ha
 exact q0g.blk h fun q v hq=>by rw [Nat.zero_add];exact hq
theorem v7g (m:Mem):IAt m (.slice none ([]:List Int).length 0) []:=⟨none,0,rfl,fun _=>rfl,(fun ad h=>by cases h),Nat.le_refl _⟩
theorem w0t:q3r exC exM [(7:Int)].length ([]:List Int).length=0:=by
 unfold q3r;rw [q9f];rfl
set_option maxHeartbeats 400000 in
theorem w5l {m:Mem} {T:Nat} {fr:Nat×Nat} (hm:m 0=some (.cells ⟨q2f⟩ T fr)) :
  q0f Tryz.prog 14 [] m fun e m'=>e=.returned (.bool true)∧m'=m:=by
 refine q0e q0d Tryz.func14 j7c rfl ?_
 have hC:=(z4j q9f).1
 conv=>whnf
 refine q0a.mk (k9q m) ?_
 rintro _ m1 ⟨V,rfl,l1,hV⟩
 refine WNew.ab fun b1 m2 hb1 l2 c2=>?_
 have L2:=l1.trans l2
 conv=>whnf
 refine q0a.mk (v4a (L2 _ _ hm) V exM (hV.mono l2) (z5v c2) (v7g m2) 10 (.inl (by decide))) ?_
 rintro _ m3 ⟨l3,_,hr⟩
 obtain ⟨v,rfl,A1,c1,rfl,_⟩:=hr (v3a q9f rfl (by decide) (by decide))
 rw [show Int.toNat 10=10 from rfl,w2z]
 have L3:=L2.trans l3
 refine WNew.ab fun b2 m4 hb2 l4 c4=>?_
 refine WNew.ab fun b3 m5 hb3 l5 c5=>?_
 have L5:=(L3.trans l4).trans l5
 have hV5:=hV.mono (((l2.trans l3).trans l4).trans l5)
 conv=>whnf
 refine q0a.mk (v4a (L5 _ _ hm) V exM hV5 (z5v (l5 _ _ c4)) (z5v c5) 10 (.inl (by decide))) ?_
 rintro _ m6 ⟨l6,_,hr⟩
 obtain ⟨v,rfl,A2,c2',rfl,_⟩:=hr (v3a q9f rfl (by decide) (by decide))
 rw [show Int.toNat 10=10 from rfl,k4n]
 have L6:=L5.trans l6
 have hV6:=hV5.mono l6
 conv=>whnf
 refine q0a.mk (w2u (L6 _ _ hm) V exM hV6) ?_
 rintro _ m7 ⟨b,A,rfl,l7,_,hst⟩
 obtain ⟨hLe,hiff⟩:=hst q9f
 have hb:b=false:=by
  cases b with
  | false=>rfl
  | true=>exact absurd (hiff.1 rfl) (k1g hLe)
 subst hb
 rw [q9f]
 have L7:=L6.trans l7
 have hV7:=hV6.mono l7
 conv=>whnf
 refine q0a.mk (j6x (L7 _ _ hm) V exM hV7 1) ?_
 rintro _ m8 ⟨l8,_,_,hw⟩
 obtain ⟨A',hLe',_,_,hw2⟩:=hw q9f ⟨by decide,by decide⟩
 obtain ⟨w,hw1,hwl,hw3⟩:=j9e hLe'
 obtain ⟨wa,wc,rfl,hI⟩:=hw2 w hw1
 have L8:=L7.trans l8
 have hV8:=hV7.mono l8
 obtain ⟨x,y,rfl⟩:∃ x y,w=[x,y]:=by
  match w,hwl with
  | [x,y],_=>exact ⟨x,y,rfl⟩
 obtain rfl:y=2:=hw3
 refine WNew.ab fun b4 m9 hb4 l9 c9=>?_
 have L9:=L8.trans l9
 conv=>whnf
 have hst:=z6t (C:=exC) (args:=[7]) (sh:=[]) (L9 _ _ hm) V exM (hV8.mono l9) (z5v c9) (v7g m9)
 refine q0a.mk hst ?_
 rintro _ m10 ⟨l10,_,hs⟩
 obtain ⟨p,mb,V',sv,H,rfl,lb,hB,hS⟩:=hs w0t
 have L10:=L9.trans l10
 refine WSc.mk (v:=false) (fun _=>And.intro (Mem.le.refl _) rfl) ?_
 refine Br.mk (fun hh=>by cases hh) (fun _=>?_)
 have hG:=z5a hC (args:=[7]) (by decide)
 conv=>whnf
 refine q0a.mk (v5s hS hB hG 1 (by decide) (by decide) (Nat.zero_le _)) ?_
 rintro _ m11 ⟨H2,v,G2,rfl,A3,c3,rfl,_⟩
 have hG2:=Good.run (M:=exM) (sh:=[]) hC (n:=1) hG
 rw [v3n] at G2 hG2
 rw [v3n]
 have h2:=G2.at'
 conv=>whnf
 refine q0a.pure (v4o h2 hB) ?_
 conv=>whnf
 refine q0a.mk (z9t h2 hB hG2 (by decide)) ?_
 rintro _ m12 ⟨rfl,H3,G3⟩
 have h3:=G3.at'
 conv=>whnf
 refine q0a.pure (v2o h3 hB 1) ?_
 rw [if_pos (by decide)]
 have hfin:Mem.le m m12:=(L9.trans lb).trans h3.le
 obtain ⟨wa',wc',ew,w0,w1,_⟩:=hI
 injection ew with ew1 ew2 ew3
 subst ew1;subst ew3
 obtain ⟨ad,rfl⟩:∃ ad,wa=some ad:=by
  cases wa with
  | none=>have:=w0 rfl;cases this
  | some ad=>exact ⟨ad,rfl⟩
 have hI12:q0q m12 (ad.add 1) (i 2):=(w1 ad rfl 1 _ rfl).mono ((l9.trans lb).trans h3.le)
 refine WSc.mk (v:=true) (fun _=>And.intro (Mem.le.refl _) rfl) ?_
 refine WSc.mk (v:=true) (fun _=>And.intro (Mem.le.refl _) rfl) ?_
 refine WSc.mk (v:=true) (fun _=>And.intro (Mem.le.refl _) rfl) ?_
 refine WSc.mk (v:=true) (fun _=>And.intro (Mem.le.refl _) rfl) ?_
 refine WSc.mk (v:=true) (fun _=>And.intro (Mem.le.refl _) rfl) ?_
 refine WSc.mk (v:=true) (fun _=>And.intro (Mem.le.refl _) rfl) ?_
 refine WSc.mk (v:=true) (fun _=>And.intro (Mem.le.refl _) rfl) ?_
 refine WSc.mk (v:=true) (fun _=>And.intro (Mem.le.refl _) rfl) ?_
 refine WSc.mk (v:=true) (fun _=>And.intro (Mem.le.refl _) rfl) ?_
 refine WSc.mk (v:=true) (fun _=>?_) ?_
 ·refine WIdx.mk ad rfl ⟨by decide,show (1:Int)<(2:Nat) by decide⟩ ?_
  refine WLd.mk (i 2) hI12 ?_
  conv=>whnf
  exact And.intro (Mem.le.refl _) rfl
 refine WSc.mk (v:=true) (fun _=>And.intro (Mem.le.refl _) rfl) ?_
 refine WSc.mk (v:=true) (fun _=>And.intro (Mem.le.refl _) rfl) ?_
 refine WSc.mk (v:=true) (fun _=>And.intro (Mem.le.refl _) rfl) ?_
 refine WSc.mk (v:=true) (fun _=>And.intro (Mem.le.refl _) rfl) ?_
 refine WSc.mk (v:=true) (fun _=>And.intro (Mem.le.refl _) rfl) ?_
 refine WSc.mk (v:=true) (fun _=>And.intro (Mem.le.refl _) rfl) ?_
 refine WSc.mk (v:=true) (fun _=>And.intro (Mem.le.refl _) rfl) ?_
 exact WRet.mk hfin ⟨rfl,rfl⟩
theorem WApp.copyC {m:Mem} {T sz bytes:Nat} {zero:List Value} {b1:Nat} {A A':Option Addr} {n n':Nat} {K:Value→Mem→Prop} (hb1:m b1=none) (hz:zero.length=sz) (hA':A'=A) (hn:n'=n) (new:List Value) (h:q2v m A (n * sz) new) (hA:A=none→n=0)
  (hb:n * bytes≤35184372088832) (k:∀ b c m' rest,Mem.le m m'→n≤c→m b=none→m' b=some (Cells (new++rest) T)→new.length+rest.length=c * sz→K (.slice (some ⟨b,0,none⟩) n c) m') :
  WApp (m.set b1 (Cells [] T)) T sz bytes zero (some ⟨b1,0,none⟩) 0 0 A' n' K:=by
 subst hA';subst hn
 have hle:=Mem.le_set (o:=Cells [] T) hb1
 have hf:q2v (m.set b1 (Cells [] T)) A' (n' * sz) new:=⟨h.1,fun ad ha=>(h.2 ad ha).mono hle⟩
 by_cases h0:n'=0
 ·subst h0
  have hnew:new=[]:=List.length_eq_zero_iff.1 (by rw [h.1];simp)
  subst hnew
  refine WApp.in [] hf (fun _=>rfl) [] T (by omega) (Mem.set_same _ _ _) rfl (by simp) rfl ?_
  refine k b1 0 _ [] (fun b o hbo=>?_) (Nat.le_refl _) hb1 (Mem.set_same _ _ _) (by simp)
  have:b≠b1:=fun e=>by subst e;rw [hb1] at hbo;cases hbo
  rw [Mem.set_other _ _ this,Mem.set_other _ _ this];exact hbo
 ·refine WApp.grow new hf hA (by omega) (by rw [Nat.zero_add];exact hb) [] ⟨by simp,fun ad _ j v hj=>by simp at hj⟩ (fun _=>rfl) fun b c hbn hc=>?_
  have hbb:b≠b1:=fun e=>by subst e;rw [Mem.set_same] at hbn;cases hbn
  have hbm:m b=none:=by rw [Mem.set_other _ _ hbb] at hbn;exact hbn
  rw [Nat.zero_add] at hc ⊢
  refine k b c _ ((List.replicate (c - n') zero).flatten) (hle.trans (Mem.le_set hbn)) (by omega) hbm (by rw [Mem.set_same];rfl) ?_
  rw [h.1]
  have:((List.replicate (c - n') zero).flatten).length=(c - n') * sz:=by simp [hz]
  rw [this,← Nat.add_mul,Nat.add_sub_cancel' hc]
def q9t (m:Mem) (a:Option Addr) (n:Nat) (L:List Value) (T sz:Nat) (e:Ending) (m':Mem):Prop :=
 (a=none∧e=.returned ns∧m'=m)∨∃ b c rest,e=.returned (.slice (some ⟨b,0,none⟩) n c)∧Mem.le m m'∧n≤c∧m b=none∧m' b=some (Cells (L++rest) T)∧L.length+rest.length=c * sz
theorem z7j {m:Mem} {a:Option Addr} {n c:Nat} {L:List Value} (hL:q2v m a (n * 1) L) (hn:n≤1000000000):q0f Tryz.prog 68 [.slice a n c] m (q9t m a n L T64 1):=by
 refine q0e q0d Tryz.func68 v7c rfl ?_
 conv=>whnf
 cases a with
 | none =>
  refine Br.mk (fun hb=>?_) (fun hb=>by cases hb)
  exact WRet.same (.inl ⟨rfl,rfl,rfl⟩)
 | some ad =>
  refine Br.mk (fun hb=>by cases hb) (fun hb=>?_)
  refine WNew.mk fun b1 hb1=>?_
  refine WApp.copyC hb1 rfl (A:=some ad) (n:=n) rfl rfl L hL (fun ha=>by cases ha) (by omega) fun b cb m1 rest hle hcb hbm hcells hr=>?_
  exact WRet.same (.inr ⟨b,cb,rest,rfl,hle,hcb,hbm,hcells,hr⟩)
theorem v5d {m:Mem} {a:Option Addr} {n c:Nat} {L:List Value} (hL:q2v m a (n * 2) L) (hn:n≤1000000000):q0f Tryz.prog 90 [.slice a n c] m (q9t m a n L TVal 2):=by
 refine q0e q0d Tryz.func90 w0m rfl ?_
 conv=>whnf
 cases a with
 | none =>
  refine Br.mk (fun hb=>?_) (fun hb=>by cases hb)
  exact WRet.same (.inl ⟨rfl,rfl,rfl⟩)
 | some ad =>
  refine Br.mk (fun hb=>by cases hb) (fun hb=>?_)
  refine WNew.mk fun b1 hb1=>?_
  refine WApp.copyC hb1 rfl (A:=some ad) (n:=n) rfl rfl L hL (fun ha=>by cases ha) (by omega) fun b cb m1 rest hle hcb hbm hcells hr=>?_
  exact WRet.same (.inr ⟨b,cb,rest,rfl,hle,hcb,hbm,hcells,hr⟩)
theorem k8b {m:Mem} {a:Option Addr} {n c:Nat} {L:List Value} (hL:q2v m a (n * 1) L) (hn:n≤1000000000):q0f Tryz.prog 91 [.slice a n c] m (q9t m a n L TRow 1):=by
 refine q0e q0d Tryz.func91 k3f rfl ?_
 conv=>whnf
 cases a with
 | none =>
  refine Br.mk (fun hb=>?_) (fun hb=>by cases hb)
  exact WRet.same (.inl ⟨rfl,rfl,rfl⟩)
 | some ad =>
  refine Br.mk (fun hb=>by cases hb) (fun hb=>?_)
  refine WNew.mk fun b1 hb1=>?_
  refine WApp.copyC hb1 rfl (A:=some ad) (n:=n) rfl rfl L hL (fun ha=>by cases ha) (by omega) fun b cb m1 rest hle hcb hbm hcells hr=>?_
  exact WRet.same (.inr ⟨b,cb,rest,rfl,hle,hcb,hbm,hcells,hr⟩)
theorem k6u {m:Mem} {a:Option Addr} {n c:Nat} {L:List Value} (hL:q2v m a (n * 4) L) (hn:n≤1000000000):q0f Tryz.prog 61 [.slice a n c] m (q9t m a n L TRes 4):=by
 refine q0e q0d Tryz.func61 j1k rfl ?_
 conv=>whnf
 cases a with
 | none =>
  refine Br.mk (fun hb=>?_) (fun hb=>by cases hb)
  exact WRet.same (.inl ⟨rfl,rfl,rfl⟩)
 | some ad =>
  refine Br.mk (fun hb=>by cases hb) (fun hb=>?_)
  refine WNew.mk fun b1 hb1=>?_
  refine WApp.copyC hb1 rfl (A:=some ad) (n:=n) rfl rfl L hL (fun ha=>by cases ha) (by omega) fun b cb m1 rest hle hcb hbm hcells hr=>?_
  exact WRet.same (.inr ⟨b,cb,rest,rfl,hle,hcb,hbm,hcells,hr⟩)
structure Cop (m m':Mem) (N:Nat) (H:HdF) (num:Nat→Nat) (cont:Nat→List Value):Prop where
 fam:q2g m' N tyS szS H num cont
 le:Mem.le m m'
 new:∀ b,q5o N H b→m b=none
theorem q2g.congr {m:Mem} {N:Nat} {ty sz:Nat→Nat} {H H':HdF} {num num':Nat→Nat} {cont cont':Nat→List Value} (h:q2g m N ty sz H num cont) (e:∀ j,j<N→H' j=H j∧num' j=num j∧cont' j=cont j):q2g m N ty sz H' num' cont' :=
 ⟨fun j hj=>by rw [(e j hj).2.1,(e j hj).2.2];exact h.len j hj,fun j hj=>by rw [(e j hj).1,(e j hj).2.1];exact h.cap j hj,fun j hj hc=>by rw [(e j hj).1] at hc ⊢;rw [(e j hj).2.2];exact h.blk j hj hc,
  fun j k b hj hk h1 h2=>by rw [(e j hj).1] at h1;rw [(e k hk).1] at h2;exact h.inj j k b hj hk h1 h2⟩
theorem j3o {N:Nat} {H H':HdF} (e:∀ j,j<N→H' j=H j) {b:Nat} (h:q5o N H' b):q5o N H b:=by
 obtain ⟨j,hj,hb⟩:=h
 exact ⟨j,hj,by rw [← e j hj];exact hb⟩
section
variable {m m1 m2:Mem} {N:Nat} {H H':HdF} {num num':Nat→Nat} {cont cont':Nat→List Value}
theorem Cop.congr (I:Cop m m1 N H num cont) (e:∀ j,j<N→H' j=H j∧num' j=num j∧cont' j=cont j):Cop m m1 N H' num' cont':=⟨I.fam.congr e,I.le,fun b hb=>I.new b (j3o (fun j hj=>(e j hj).1) hb)⟩
theorem Cop.nil (m:Mem) (N:Nat):Cop m m N (fun _=>⟨none,0⟩) (fun _=>0) (fun _=>[]) :=
 ⟨⟨fun j _=>by simp,fun j _=>Nat.le_refl _,fun j _ hc=>absurd rfl hc,fun j k b _ _ h1 _=>absurd rfl h1.1⟩,Mem.le.refl _,fun b hb=>by obtain ⟨j,_,h1⟩:=hb;exact absurd rfl h1.1⟩
theorem Cop.clone (I:Cop m m1 N H num cont) {k:Nat} (hk:k<N) {a:Option Addr} {n:Nat} {L:List Value} {e:Ending} (hR:q9t m1 a n L (tyS k) (szS k) e m2) (hL:L.length=n * szS k) (ha:a=none→n=0) :
  ∃ h:Hd1,e=.returned (.slice h.a n h.c)∧(h.a=none→n=0)∧Mem.le m1 m2∧Cop m m2 N (H.upd k h) (fun j=>if j=k then n else num j) (fun j=>if j=k then L else cont j):=by
 rcases hR with ⟨h1,rfl,rfl⟩ | ⟨b,c,rest,rfl,l2,hc,hb,hm,hr⟩
 ·have h0:=ha h1
  subst h0
  have hL0:L=[]:=List.length_eq_zero_iff.1 (by rw [hL];simp)
  subst hL0
  refine ⟨⟨none,0⟩,rfl,fun _=>rfl,Mem.le.refl _,I.fam.drop hk (fun j hj e=>⟨q0u _ _ e,if_neg e,if_neg e⟩) (by rw [q1c]) (if_pos rfl) (if_pos rfl),I.le,fun b hb=>?_⟩
  obtain ⟨j,hj,hbj⟩:=hb
  by_cases e:j=k
  ·subst e;rw [q1c] at hbj;exact absurd rfl hbj.1
  ·rw [q0u _ _ e] at hbj;exact I.new b ⟨j,hj,hbj⟩
 ·refine ⟨⟨some ⟨b,0,none⟩,c⟩,rfl,(fun h=>by cases h),l2,I.fam.put (b:=b) (rest:=rest) hk (fun j hj e=>⟨q0u _ _ e,if_neg e,if_neg e⟩) (by rw [q1c]) (.inl hb) (by rw [if_pos rfl];exact hm) (by rw [if_pos rfl,if_pos rfl];exact hL) (by rw [if_pos rfl,q1c];exact hc) (by rw [if_pos rfl,q1c];exact hr) (fun x o hx _ hxo=>l2 x o hxo),I.le.trans l2,fun x hx=>?_⟩
  obtain ⟨j,hj,hbj⟩:=hx
  by_cases e:j=k
  ·subst e
   rw [q1c] at hbj
   have:=hbj.2
   cases this
   exact q1z I.le hb
  ·rw [q0u _ _ e] at hbj;exact I.new x ⟨j,hj,hbj⟩
end
end Go.Proofs.YtleofbpepfmfgaaGreatDoor
