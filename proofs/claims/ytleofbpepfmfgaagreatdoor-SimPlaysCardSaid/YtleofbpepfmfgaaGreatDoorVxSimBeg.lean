import Derived.Test.YtleofbpepfmfgaaGreatDoorVxRfG
set_option maxRecDepth 100000
namespace Go.Proofs.YtleofbpepfmfgaaGreatDoor
open Go Go.Vx
open Go.Vx.IOp Go.Vx.IR Go.Vx.Opd
abbrev z6h:Nat:=103
theorem v6x (m:Mem) (b:Nat):m.del b b=none:=if_pos rfl
theorem z2g (m:Mem) {b x:Nat} (h:x≠b):m.del b x=m x:=if_neg h
theorem z9u (m:Mem) (b:Nat):Mem.le (m.del b) m:=fun x o hx=>by
 by_cases e:x=b
 ·subst e;rw [v6x] at hx;cases hx
 ·rw [z2g m e] at hx;exact hx
theorem j3i {m m':Mem} (h:Mem.le m m') (b:Nat):Mem.le (m.del b) (m'.del b):=fun x o hx=>by
 by_cases e:x=b
 ·subst e;rw [v6x] at hx;cases hx
 ·rw [z2g m e] at hx;rw [z2g m' e];exact h x o hx
theorem v0o (m:Mem) (b:Nat) (o:Obj):(m.set b o).del b=m.del b:=by
 funext x;unfold Mem.del Mem.set;split<;>rfl
theorem v1e {m m':Mem} (h:Mem.le m m') {b:Nat} (hb:m b=none):Mem.le m (m'.del b):=fun x o hx=>by
 have e:x≠b:=fun e=>by subst e;rw [hb] at hx;cases hx
 rw [z2g m' e];exact h x o hx
theorem j8p {m:Mem} {a:Option Addr} {n c:Nat} {O:List OpR} (hv:OAt m (.slice a n c) O) (hlen:O.length≤1000000) :
  q0f Tryz.prog 99 [.slice a n c] m fun e m'=>∃ A cc,e=.returned (.slice A O.length cc)∧Mem.le m m'∧O.length≤cc∧(A=none→O=[]) ∧
   (O=[]∨∃ b rest,A=some ⟨b,0,none⟩∧m b=none∧m' b=some (Cells (ocs O++rest) 110)):=by
 obtain ⟨a',c',e,q0,q1,hcap⟩:=hv
 injection e with e1 e2 e3
 subst e1;subst e2;subst e3
 refine q0e q0d Tryz.func99 v9p rfl ?_
 conv=>whnf
 cases a with
 | none =>
  obtain rfl:=q0 rfl
  refine Br.mk (fun hb=>?_) (fun hb=>by cases hb)
  exact WRet.same ⟨none,0,rfl,Mem.le.refl _,Nat.le_refl _,(fun _=>rfl),.inl rfl⟩
 | some ad =>
  refine Br.mk (fun hb=>by cases hb) (fun hb=>?_)
  refine WNew.mk fun b1 hb1=>?_
  refine WApp.copyB hb1 (A:=some ad) (n:=O.length) rfl rfl (ocs O) ⟨z9a O,fun ad' ha=>q1 ad' ha⟩ (fun ha=>by cases ha) (by omega) fun b cb m1 rest hle1 hcb hbm hcells=>?_
  exact WRet.same ⟨some ⟨b,0,none⟩,cb,rfl,hle1,hcb,(fun h=>by cases h),.inr ⟨b,rest,rfl,hbm,hcells⟩⟩
def q6v (m:Mem) (L:List Value) (ws:List q3g):Prop:=L.length=ws.length * 2∧∀ k (hk:k<ws.length),∃ a3 c3,L[k * 2]? = some (.slice a3 (ws[k]).ops.length c3)∧L[k * 2+1]? = some (i (ws[k]).ct)∧OAt m (.slice a3 (ws[k]).ops.length c3) (ws[k]).ops
theorem q6v.mono {m m':Mem} {L:List Value} {ws:List q3g} (h:q6v m L ws) (hle:Mem.le m m'):q6v m' L ws:=⟨h.1,fun k hk=>by
 obtain ⟨a3,c3,h1,h2,h3⟩:=h.2 k hk
 exact ⟨a3,c3,h1,h2,h3.mono' hle⟩⟩
theorem k9h {m:Mem} {a:Option Addr} {n c:Nat} {ws:List q3g} (h:WAt m (.slice a n c) ws):n=ws.length∧ws.length≤c∧(a=none→ws=[])∧∃ L,q6v m L ws∧∀ ad,a=some ad→q0g m ad L:=by
 obtain ⟨a',c',e,q0,q1,hcap⟩:=h
 injection e with e1 e2 e3
 subst e1;subst e2;subst e3
 refine ⟨rfl,hcap,q0,?_⟩
 cases a with
 | none =>
  obtain rfl:=q0 rfl
  exact ⟨[],⟨rfl,fun k hk=>by simp at hk⟩,fun ad h=>by cases h⟩
 | some ad =>
  have key:∀ j,j≤ws.length→∃ L:List Value,L.length=j * 2∧q0g m ad L∧∀ k (hk:k<ws.length),k<j→∃ a3 c3,L[k * 2]? = some (.slice a3 (ws[k]).ops.length c3)∧L[k * 2+1]? = some (i (ws[k]).ct)∧OAt m (.slice a3 (ws[k]).ops.length c3) (ws[k]).ops:=by
   intro j
   induction j with
   | zero=>exact fun _=>⟨[],rfl,(fun j v hj=>by simp at hj),fun k _ hk=>by omega⟩
   | succ j ih =>
    intro hj
    obtain ⟨L,hL,hc,hk⟩:=ih (by omega)
    obtain ⟨a3,n3,c3,g1,g2⟩:=q1 ad rfl j (by omega)
    obtain ⟨a4,c4,e4,_⟩:=id g2
    injection e4 with e41 e42 e43
    subst e41;subst e42;subst e43
    refine ⟨L++[.slice a3 (ws[j]).ops.length c3,i (ws[j]).ct],by rw [List.length_append,hL];simp;omega,fun q v hq=>?_,fun k hk1 hk2=>?_⟩
    ·by_cases e:q<L.length
     ·rw [List.getElem?_append_left e] at hq;exact hc q v hq
     ·rw [List.getElem?_append_right (by omega),hL] at hq
      have:=g1 (q - j * 2) v hq
      rw [q0o,show j * 2+(q - j * 2)=q by omega] at this
      exact this
    ·by_cases e:k<j
     ·obtain ⟨a5,c5,f1,f2,f3⟩:=hk k hk1 e
      exact ⟨a5,c5,by rw [List.getElem?_append_left (by omega)];exact f1,by rw [List.getElem?_append_left (by omega)];exact f2,f3⟩
     ·obtain rfl:k=j:=by omega
      refine ⟨a3,c3,?_,?_,g2⟩
      ·rw [List.getElem?_append_right (by omega),hL,Nat.sub_self];rfl
      ·rw [List.getElem?_append_right (by omega),hL,show k * 2+1 - k * 2=1 by omega];rfl
  obtain ⟨L,hL,hc,hk⟩:=key ws.length (Nat.le_refl _)
  exact ⟨L,⟨hL,fun k h=>hk k h h⟩,fun ad' h=>by cases h;exact hc⟩
theorem v2h {m:Mem} {b c:Nat} {L rest:List Value} {T:Nat} {ws:List q3g} (h:q6v m L ws) (hb:m b=some (Cells (L++rest) T)) (hc:ws.length≤c):WAt m (.slice (some ⟨b,0,none⟩) ws.length c) ws:=by
 refine ⟨_,c,rfl,(fun h=>by cases h),fun ad ha k hk=>?_,hc⟩
 cases ha
 obtain ⟨a3,c3,h1,h2,h3⟩:=h.2 k hk
 refine ⟨a3,_,c3,fun q v hq=>?_,h3⟩
 have hq2:q<2:=(List.getElem?_eq_some_iff.1 hq).1
 rw [add0,show Addr.add ⟨b,k * 2,none⟩ q=(⟨b,0,none⟩:Addr).add (k * 2+q) by rw [← add0,q0o]]
 refine q0g.blk (vs:=L) hb (fun j v hj=>by rw [Nat.zero_add,List.getElem?_append_left (List.getElem?_eq_some_iff.1 hj).1];exact hj) (k * 2+q) v ?_
 match q,hq2 with
 | 0,_=>cases hq;exact h1
 | 1,_=>cases hq;exact h2
theorem j2i {m:Mem} {a:Option Addr} {n c:Nat} {ws:List q3g} (hv:WAt m (.slice a n c) ws) (h1:1≤ws.length) (hlen:ws.length≤1000000) :
  q0f Tryz.prog 98 [.slice a n c] m fun e m'=>∃ b cc L rest,e=.returned (.slice (some ⟨b,0,none⟩) ws.length cc)∧Mem.le m m'∧ws.length≤cc∧m b=none∧m' b=some (Cells (L++rest) z6h)∧q6v m L ws:=by
 obtain ⟨rfl,hcap,q0,L,hL,hc⟩:=k9h hv
 refine q0e q0d Tryz.func98 j0z rfl ?_
 obtain ⟨ad,rfl⟩:∃ ad,a=some ad:=by
  cases a with
  | none=>rw [q0 rfl] at h1;simp at h1
  | some ad=>exact ⟨ad,rfl⟩
 refine Br.mk (fun hb=>by cases hb) (fun hb=>?_)
 refine WNew.mk fun b1 hb1=>?_
 refine WApp.copyB hb1 (A:=some ad) (n:=ws.length) rfl rfl L ⟨hL.1,fun ad' ha=>hc ad' ha⟩ (fun ha=>by cases ha) (by omega) fun b cb m1 rest hle1 hcb hbm hcells=>?_
 exact WRet.same ⟨b,cb,L,rest,rfl,hle1,hcb,hbm,hcells,hL⟩
theorem q6v.set {m:Mem} {L:List Value} {ws:List q3g} (h:q6v m L ws) {k:Nat} (hk:k<ws.length) {A:Option Addr} {c:Nat} (ho:OAt m (.slice A (ws[k]).ops.length c) (ws[k]).ops):q6v m (L.set (k * 2) (.slice A (ws[k]).ops.length c)) ws:=by
 refine ⟨by rw [List.length_set];exact h.1,fun j hj=>?_⟩
 by_cases e:j=k
 ·subst e
  obtain ⟨a3,c3,h1,h2,h3⟩:=h.2 j hj
  exact ⟨A,c,by rw [List.getElem?_set,if_pos rfl,if_pos (by rw [h.1];omega)],by rw [List.getElem?_set,if_neg (by omega)];exact h2,ho⟩
 ·obtain ⟨a3,c3,h1,h2,h3⟩:=h.2 j hj
  exact ⟨a3,c3,by rw [List.getElem?_set,if_neg (by omega)];exact h1,by rw [List.getElem?_set,if_neg (by omega)];exact h2,h3⟩
theorem v7t {m:Mem} (V:CV) {C:q0c} (hV:q1q m V C) (hC:q3h C) :
  q0f Tryz.prog 65 [V.val C] m fun e m'=>∃ V',e=.returned (V'.val C)∧Mem.le m m'∧q1q m' V' C:=by
 refine q0e q0d Tryz.func65 j8l rfl ?_
 have hwl:=hC.wl
 have hsz:=hC.szl
 conv=>whnf
 refine ⟨?_,trivial⟩
 conv=>whnf
 rw [hV.n1]
 have hsz2:IAt m (.slice V.a1 C.sz.length V.c1) C.sz:=by have:=hV.sz;rw [hV.n1] at this;exact this
 have hws2:WAt m (.slice V.a2 C.ws.length V.c2) C.ws:=by have:=hV.ws;rw [hV.n2] at this;exact this
 refine q0a.mk (v0d hsz2 (by omega)) ?_
 rintro _ m1 ⟨A1,c1,rfl,hc1,l1,hO1⟩
 have hI1:=hO1.iat hc1
 conv=>whnf
 refine ⟨?_,trivial⟩
 conv=>whnf
 rw [hV.n2]
 refine q0a.mk (j2i (hws2.mono l1) hwl.1 (by omega)) ?_
 rintro _ m2 ⟨b,cc,L,rest,rfl,l2,hcc,hbn,hbm,hL⟩
 conv=>whnf
 refine ⟨?_,trivial⟩
 conv=>whnf
 refine ⟨?_,trivial⟩
 have hbm0:m b=none:=q1z l1 hbn
 conv=>whnf
 refine q0v.mk Nat (fun k=>[(15,.val (i k))]) (fun k m'=>k≤C.ws.length∧Mem.le m1 (m'.del b)∧∃ L,m' b=some (Cells (L++rest) z6h)∧q6v (m'.del b) L C.ws) (fun k=>C.ws.length - k) 0 ⟨rfl,trivial⟩
  ⟨Nat.zero_le _,v1e l2 hbn,L,hbm,hL.mono (v1e l2 hbn)⟩ ?_
 rintro k m3 ⟨hk,l3,L3,hb3,hL3⟩
 have hle3:Mem.le m1 m3:=l3.trans (z9u m3 b)
 refine Br.mk (fun hb=>?_) (fun hb=>?_)
 ·have hk2:k<C.ws.length:=by
   have:(k:Int)<(C.ws.length:Nat):=of_decide_eq_true hb
   omega
  obtain ⟨a3,c3,g1,g2,g3⟩:=hL3.2 k hk2
  have hlt:k * 2<L3.length:=by rw [hL3.1];omega
  have hol:=hC.ol _ (List.getElem_mem hk2)
  refine WIdx.mk ⟨b,0,none⟩ rfl ⟨by omega,by omega⟩ ?_
  refine WLd.mk (.slice a3 (C.ws[k]).ops.length c3) ?_ ?_
  ·rw [q0o,add0]
   refine ⟨_,_,_,hb3,rfl,?_⟩
   have:(L3++rest)[k * 2]? = some (.slice a3 (C.ws[k]).ops.length c3):=by rw [List.getElem?_append_left hlt];exact g1
   simpa using this
  conv=>whnf
  refine ⟨?_,trivial⟩
  conv=>whnf
  refine q0a.mk (j8p (g3.mono' (z9u m3 b)) (by omega)) ?_
  rintro _ m4 ⟨A4,c4,rfl,l4,hc4,hA0,hA4⟩
  have hb4:=l4 _ _ hb3
  refine WIdx.mk ⟨b,0,none⟩ rfl ⟨by omega,by omega⟩ ?_
  conv=>whnf
  refine ⟨?_,trivial⟩
  conv=>whnf
  rw [q0o]
  have er:Int.toNat ((k:Nat):Int) * 2+0=k * 2:=by simp
  rw [er]
  refine WSt.at _ _ hb4 (show k * 2+1≤_ by rw [List.length_append];omega) ?_
  have hsp:q0j (L3++rest) (k * 2) (q0k (.slice A4 (C.ws[k]).ops.length c4))=L3.set (k * 2) (.slice A4 (C.ws[k]).ops.length c4)++rest:=by
   show (L3++rest).set _ _=_
   rw [List.set_append_left _ _ hlt]
  rw [hsp]
  have l5:Mem.le (m3.del b) (m4.del b):=j3i l4 b
  have hO:OAt (m4.del b) (.slice A4 (C.ws[k]).ops.length c4) (C.ws[k]).ops:=by
   refine ⟨A4,c4,rfl,hA0,fun ad ha=>?_,hc4⟩
   rcases hA4 with e | ⟨bo,ro,e1,e2,e3⟩
   ·rw [e];exact fun j v hj=>by simp [ocs] at hj
   ·rw [e1] at ha;cases ha
    have hne:bo≠b:=fun e=>by subst e;rw [hb3] at e2;cases e2
    exact q0g.blk (by rw [z2g m4 hne];exact e3) fun j v hj=>by rw [Nat.zero_add,List.getElem?_append_left (List.getElem?_eq_some_iff.1 hj).1];exact hj
  refine WRng.mk (by apply wrap_i64<;>omega) ?_
  conv=>whnf
  refine ⟨k+1,⟨rfl,trivial⟩,⟨hk2,by rw [v0o];exact l3.trans l5,_,Mem.set_same _ _ _,?_⟩,Nat.sub_lt_sub_left hk2 (Nat.lt_succ_self k)⟩
  rw [v0o]
  exact (hL3.mono l5).set hk2 hO
 ·refine WRet.same ⟨⟨A1,C.sz.length,c1,some ⟨b,0,none⟩,C.ws.length,cc⟩,rfl,l1.trans hle3,⟨hI1.mono hle3,v2h (hL3.mono (z9u m3 b)) hb3 hcc,hV.szl,hV.wsl⟩⟩
theorem k9m (V:CV) (C:q0c) (M:Mac) (a:Option Addr) (n c:Nat):q6k [i 0,i 0,i 0,i 0,i 0,ns,ns,ns,ns,ns,i 0,i 0,i 0,i 0,ns,i 0,i 0,i 0,i 0,i 0,i 0,i 0,i 0,i 0,i 0,i 0,ns,ns]
  [(9,6,V.val C),(15,11,.agg ⟨List.take 11 (q0k M.val)⟩),(26,1,.slice a n c)]=some ([i 0,i 0,i 0,i 0,i 0,ns,ns,ns,ns]++V.cells C++M.cells++[.slice a n c,ns]):=by kernel_rfl
def q1j (C:q0c):St:=⟨0,0,0,false,3,0,[],List.replicate C.rg.toNat VR.zero,List.replicate C.sp.toNat VR.zero,[],[]⟩
def q7q (br rc bk kc:Nat):HdF:=fun j=>match j with | 1=>⟨some ⟨br,0,none⟩,rc⟩ | 2=>⟨some ⟨bk,0,none⟩,kc⟩ | _=>⟨none,0⟩
theorem z4x (n:Nat):q0r VR.cells (List.replicate n VR.zero)=(List.replicate n [i 0,i 0]).flatten:=by unfold q0r;rw [List.map_replicate];rfl
section
variable {m0 m m':Mem} {V:CV} {C:q0c} {M:Mac} {sv:Value} {p:Nat} {H:HdF} {s s':St} {sh:List Int}
theorem v8r {br bk:Nat} (hle:Mem.le m0 m) (hp:m0 p=none) (hbr:m0 br=none) (hbk:m0 bk=none) (hne:br≠bk)
  (cp:m p=some (Cells (q1p V C M sv (q7q br C.rg.toNat bk C.sp.toNat) (q1j C)) TSim)) (cr:m br=some (Cells (List.replicate C.rg.toNat [i 0,i 0]).flatten TVal)) (ck:m bk=some (Cells (List.replicate C.sp.toNat [i 0,i 0]).flatten TVal)) :
  q0l m0 m V C M sv p (q7q br C.rg.toNat bk C.sp.toNat) (q1j C):=by
 have hown:∀ {j b},q3x (q7q br C.rg.toNat bk C.sp.toNat j) b→(j=1∧b=br)∨(j=2∧b=bk):=fun {j b} h=>by
  match j,h with
  | 0,h=>exact absurd rfl h.1
  | 1,h=>exact .inl ⟨rfl,by have:=h.2;cases this;rfl⟩
  | 2,h=>exact .inr ⟨rfl,by have:=h.2;cases this;rfl⟩
  | j+3,h=>exact absurd rfl h.1
 refine ⟨cp,⟨fun j hj=>?_,fun j hj=>?_,fun j hj hc=>?_,fun j k b hj hk h1 h2=>?_⟩,hle,fun b hb=>?_,fun _=>rfl,fun _=>rfl⟩
 ·match j,hj with
  | 0,_=>rfl
  | 1,_=>exact q1y q2c _
  | 2,_=>exact q1y q2c _
  | 3,_=>rfl
  | 4,_=>rfl
  | j+5,hj=>exfalso;unfold famN q1j at hj;simp only [List.length_nil] at hj;omega
 ·match j,hj with
  | 0,_=>exact Nat.le_refl _
  | 1,_=>show (List.replicate _ _).length≤_;rw [List.length_replicate];exact Nat.le_refl _
  | 2,_=>show (List.replicate _ _).length≤_;rw [List.length_replicate];exact Nat.le_refl _
  | 3,_=>exact Nat.le_refl _
  | 4,_=>exact Nat.le_refl _
  | j+5,hj=>exfalso;unfold famN q1j at hj;simp only [List.length_nil] at hj;omega
 ·match j,hj,hc with
  | 0,_,hc=>exact absurd rfl hc
  | 1,_,hc =>
   refine ⟨br,[],rfl,?_,?_⟩
   ·rw [List.append_nil];show m br=some (Cells (q0r VR.cells (List.replicate _ _)) _);rw [z4x];exact cr
   ·show (q0r VR.cells (List.replicate _ _)).length+0=_;rw [q1y q2c,List.length_replicate];rfl
  | 2,_,hc =>
   refine ⟨bk,[],rfl,?_,?_⟩
   ·rw [List.append_nil];show m bk=some (Cells (q0r VR.cells (List.replicate _ _)) _);rw [z4x];exact ck
   ·show (q0r VR.cells (List.replicate _ _)).length+0=_;rw [q1y q2c,List.length_replicate];rfl
  | j+3,_,hc=>exact absurd rfl hc
 ·rcases hown h1 with ⟨e1,e2⟩ | ⟨e1,e2⟩<;>rcases hown h2 with ⟨f1,f2⟩ | ⟨f1,f2⟩
  ·omega
  ·exact absurd (e2.symm.trans f2) hne
  ·exact absurd (f2.symm.trans e2) hne
  ·omega
 ·rcases hb with hb | ⟨j,_,hb⟩
  ·rw [hb];exact hp
  ·rcases hown hb with ⟨_,e⟩ | ⟨_,e⟩<;>rw [e]<;>assumption
theorem q0l.pushRow (h:q0l m0 m V C M sv p H s) {bn bx n:Nat} {mx:Mem} {K:Value→Mem→Prop} (hbn:m bn=none) (hle:Mem.le m mx) (hcn:mx bn=some (Cells (List.replicate n [i 0]).flatten T64)) (hx:mx bx=some (Cells [.slice (some ⟨bn,0,none⟩) n n] TRow)) (hl:s.arr.length≤1000000)
  (k:∀ b' c' m',(∀ K':Mem→Prop,(∀ m2 H',Goes m0 V C M sv p m H s m2 H' { s with arr:=s.arr++[List.replicate n 0] }→K' m2)→WSt m' ((⟨p,0,none⟩:Addr).add 8) [.slice (some ⟨b',0,none⟩) (s.arr.length+1) c'] K')→K (.slice (some ⟨b',0,none⟩) (s.arr.length+1) c') m') :
  WApp mx TRow 1 24 [ns] (H 3).a s.arr.length (H 3).c (some ⟨bx,0,none⟩) 1 K:=by
 have hz:(List.replicate n [i 0]).flatten=(List.replicate n (0:Int)).map i:=v6z n
 rw [hz] at hcn
 have hbp:bn≠p:=fun e=>by subst e;rw [h.hp] at hbn;cases hbn
 have hN:famN s=5+s.arr.length:=rfl
 -- the family with the new array's block
 have hF:q2g mx (famN s+1) tyS szS (H.upd (famN s) ⟨some ⟨bn,0,none⟩,n⟩) (fun j=>if j=famN s then n else numS s j) (fun j=>if j=famN s then (List.replicate n (0:Int)).map i else q0t H s j):=by
  have h1:=h.fam.mono hle
  have hty:tyS (famN s)=T64:=by rw [hN,Nat.add_comm];rfl
  have hsz:szS (famN s)=1:=by rw [hN,Nat.add_comm];rfl
  refine ⟨fun j hj=>?_,fun j hj=>?_,fun j hj hc=>?_,fun j k b hj hk hoj hok=>?_⟩
  ·by_cases e:j=famN s
   ·rw [if_pos e,if_pos e,e,hsz];simp
   ·rw [if_neg e,if_neg e];exact h1.len j (by omega)
  ·by_cases e:j=famN s
   ·rw [if_pos e,e,q1c];exact Nat.le_refl _
   ·rw [if_neg e,q0u H _ e];exact h1.cap j (by omega)
  ·by_cases e:j=famN s
   ·subst e
    rw [q1c,if_pos rfl,hty,hsz]
    exact ⟨bn,[],rfl,by rw [List.append_nil];exact hcn,by simp⟩
   ·rw [q0u H _ e] at hc ⊢
    rw [if_neg e]
    exact h1.blk j (by omega) hc
  ·have key:∀ q,q<famN s→q3x (H q) b→q3x (H.upd (famN s) ⟨some ⟨bn,0,none⟩,n⟩ (famN s)) b→False:=fun q hq h1' h2'=>by
    rw [q1c] at h2'
    have:=h2'.2
    cases this
    exact h.free hbn (.inr ⟨q,hq,h1'⟩)
   by_cases e1:j=famN s
   ·by_cases e2:k=famN s
    ·rw [e1,e2]
    ·subst e1;rw [q0u H _ e2] at hok;exact (key k (by omega) hok hoj).elim
   ·by_cases e2:k=famN s
    ·subst e2;rw [q0u H _ e1] at hoj;exact (key j (by omega) hoj hok).elim
    ·rw [q0u H _ e1] at hoj;rw [q0u H _ e2] at hok
     exact h1.inj j k b (by omega) (by omega) hoj hok
 have n3:(3:Nat)≠famN s:=by omega
 have hH3:(H.upd (famN s) ⟨some ⟨bn,0,none⟩,n⟩) 3=H 3:=q0u H _ n3
 have happ:=hF.app (k:=3) (bx:=bx) (Tx:=TRow) (n:=s.arr.length) (c:=(H 3).c) (bytes:=24) (a:=(H 3).a) (x:=[.slice (some ⟨bn,0,none⟩) n n]) (zero:=[ns]) (K:=K) (by omega) (by rw [hH3]) (by rw [if_neg n3];rfl) (by rw [hH3]) rfl (by decide) hx rfl rfl
  (by rw [if_neg n3];show (s.arr.length+1) * 24≤_;omega) (fun e=>by
   rw [if_neg n3]
   rw [hH3] at e
   cases hh:s.arr.length with
   | zero=>exact hh
   | succ q =>
    obtain ⟨b,_,hb,_⟩:=h.fam.room (j:=3) (by omega) (show s.arr.length≠0 by omega)
    rw [hb.2] at e;cases e)
 refine happ fun b' c' rest m' hm hc hr hb hx'=>?_
 rw [if_neg n3] at hc hm hr
 rw [hH3] at hb
 have h3N:3<famN s:=by omega
 have hpb:p≠b':=by
  rcases hb with hb | hb
  ·exact q3y (hle _ _ h.hp) hb
  ·exact fun e=>h.notp ⟨3,h3N,hb⟩ e.symm
 have e1:(if 3=famN s then n else numS s 3)+1=s.arr.length+1:=by rw [if_neg n3];rfl
 rw [e1]
 refine k b' c' m' fun K' hK=>?_
 have hp2:m' p=some (Cells (q1p V C M sv H s) TSim):=by rw [hx' p hpb];exact hle _ _ h.hp
 refine WSt.at _ _ hp2 (show 8+1≤28 by decide) ?_
 generalize hs2:({ s with arr:=s.arr++[List.replicate n 0] }:St)=s2 at hK
 have arr2:s2.arr=s.arr++[List.replicate n 0]:=by rw [← hs2]
 have hN2:famN s2=famN s+1:=by unfold famN;rw [arr2,List.length_append];rfl
 have get2:∀ q,q<s.arr.length→s2.arr.getD q []=s.arr.getD q []:=fun q hq=>by rw [arr2,List.getD_eq_getElem?_getD,List.getElem?_append_left hq,List.getD_eq_getElem?_getD]
 have getN:s2.arr.getD s.arr.length []=List.replicate n 0:=by rw [arr2,List.getD_eq_getElem?_getD,List.getElem?_append_right (Nat.le_refl _),Nat.sub_self];rfl
 generalize hH2:(H.upd (famN s) ⟨some ⟨bn,0,none⟩,n⟩).upd 3 ⟨some ⟨b',0,none⟩,c'⟩=H2
 have h2_3:H2 3=⟨some ⟨b',0,none⟩,c'⟩:=by rw [← hH2,q1c]
 have h2_N:H2 (famN s)=⟨some ⟨bn,0,none⟩,n⟩:=by rw [← hH2,q0u _ _ (Ne.symm n3),q1c]
 have h2_o:∀ j,j≠3→j≠famN s→H2 j=H j:=fun j e1 e2=>by rw [← hH2,q0u _ _ e1,q0u _ _ e2]
 have hrows:q2h H2 s2.arr=q2h H s.arr++[.slice (some ⟨bn,0,none⟩) n n]:=by
  unfold q2h
  have:s2.arr.length=s.arr.length+1:=by rw [arr2,List.length_append];rfl
  rw [this,List.range_succ,List.map_append]
  congr 1
  ·apply List.map_congr_left
   intro j hj
   have hj:=List.mem_range.1 hj
   rw [h2_o (j+5) (by omega) (by omega),get2 j hj]
  ·show [Value.slice (H2 (s.arr.length+5)).a (s2.arr.getD s.arr.length []).length (H2 (s.arr.length+5)).c]=_
   rw [getN,show s.arr.length+5=famN s by omega,h2_N,List.length_replicate]
 have hnum:∀ j,j<famN s+1→j≠3→H2 j=(H.upd (famN s) ⟨some ⟨bn,0,none⟩,n⟩) j∧numS s2 j=(if j=famN s then n else numS s j)∧q0t H2 s2 j=(if j=famN s then (List.replicate n (0:Int)).map i else q0t H s j):=fun j hj e=>by
  by_cases eN:j=famN s
  ·subst eN
   rw [h2_N,q1c,if_pos rfl,if_pos rfl,hN,Nat.add_comm]
   refine ⟨rfl,?_,?_⟩
   ·show (s2.arr.getD s.arr.length []).length=n;rw [getN,List.length_replicate]
   ·show (s2.arr.getD s.arr.length []).map i=_;rw [getN]
  ·rw [h2_o j e eN,q0u _ _ eN,if_neg eN,if_neg eN]
   refine ⟨rfl,?_⟩
   rw [← hs2]
   match j,e,hj with
   | 0,_,_=>exact ⟨rfl,rfl⟩
   | 1,_,_=>exact ⟨rfl,rfl⟩
   | 2,_,_=>exact ⟨rfl,rfl⟩
   | 4,_,_=>exact ⟨rfl,rfl⟩
   | j+5,_,hj =>
    have g:=get2 j (by omega)
    rw [← hs2] at g
    exact ⟨by show (List.getD _ j []).length=_;rw [g];rfl,by show (List.getD _ j []).map i=_;rw [g];rfl⟩
 have hcells:q0j (q1p V C M sv H s) 8 [.slice (some ⟨b',0,none⟩) (s.arr.length+1) c']=q1p V C M sv H2 s2:=by
  have e8:hv H2 s2 3=.slice (some ⟨b',0,none⟩) (s.arr.length+1) c':=by unfold hv;rw [h2_3];show Value.slice _ s2.arr.length _=_;rw [arr2,List.length_append];rfl
  have e0:∀ j,j<5→j≠3→hv H2 s2 j=hv H s j:=fun j h1 h2=>by
   have:=hnum j (by omega) h2
   unfold hv
   rw [h2_o j h2 (by omega),this.2.1,if_neg (by omega)]
  unfold q1p
  rw [e8,e0 0 (by decide) (by decide),e0 1 (by decide) (by decide),e0 2 (by decide) (by decide),e0 4 (by decide) (by decide),← hs2]
  rfl
 have cell2:q0q m ((⟨p,0,none⟩:Addr).add 0) (i (q2q s)):=h.cell rfl
 show K' (m'.set p (Cells (q0j (q1p V C M sv H s) 8 [.slice (some ⟨b',0,none⟩) (s.arr.length+1) c']) TSim))
 rw [hcells]
 generalize hm2:m'.set p (Cells (q1p V C M sv H2 s2) TSim)=m2
 have hfoot:∀ x,q0s p H2 s2 x→q0s p H s x∨m x=none:=fun x hf=>by
  rcases hf with hf | ⟨j,hj,hf⟩
  ·exact .inl (.inl hf)
  ·rw [hN2] at hj
   by_cases e3:j=3
   ·subst e3
    rw [h2_3] at hf
    have:=hf.2
    cases this
    rcases hb with hb | hb
    ·exact .inr (q1z hle hb)
    ·exact .inl (.inr ⟨3,h3N,hb⟩)
   ·by_cases eN:j=famN s
    ·subst eN
     rw [h2_N] at hf
     have:=hf.2
     cases this
     exact .inr hbn
    ·rw [h2_o j e3 eN] at hf
     exact .inl (.inr ⟨j,by omega,hf⟩)
 have hkeep:Keep (q0s p H s) m m2:=fun x o hxo hn=>by
  have e1:x≠p:=fun e=>hn (.inl e)
  have e2:x≠b':=fun e=>by
   subst e
   rcases hb with hb | hb
   ·rw [hle _ _ hxo] at hb;cases hb
   ·exact hn (.inr ⟨3,h3N,hb⟩)
  rw [← hm2,Mem.set_other _ _ e1,hx' x e2];exact hle _ _ hxo
 refine hK m2 H2 ⟨⟨by rw [← hm2,Mem.set_same],?_,hkeep.le h.le h.nw,fun x hf=>?_,fun e=>?_,fun e=>?_⟩,hkeep,hfoot⟩
 ·rw [hN2]
  refine hF.put (k:=3) (b:=b') (rest:=rest) (by omega) hnum (by rw [h2_3]) (by rw [hH3];exact hb) ?_ ?_ ?_ ?_ fun x o e hf hxo=>?_
  ·rw [← hm2,Mem.set_other _ _ (Ne.symm hpb)]
   show m' b'=some (Cells (q2h H2 s2.arr++rest) TRow)
   rw [hrows];exact hm
  ·show (q2h H2 s2.arr).length=s2.arr.length * 1
   unfold q2h;simp
  ·rw [h2_3];show s2.arr.length≤c';rw [arr2,List.length_append];exact hc
  ·rw [h2_3];show (q2h H2 s2.arr).length+rest.length=c' * 1;rw [hrows];exact hr
  ·have e1:x≠p:=by
    rcases hf with ⟨j,hj,hf⟩
    by_cases eN:j=famN s
    ·subst eN
     rw [q1c] at hf
     have:=hf.2
     cases this
     exact hbp
    ·rw [q0u _ _ eN] at hf;exact h.notp ⟨j,by omega,hf⟩
   rw [← hm2,Mem.set_other _ _ e1,hx' x e];exact hxo
 ·rcases hfoot x hf with g | g
  ·exact h.nw x g
  ·exact q1z h.le g
 ·rw [h2_o 0 (by decide) (by omega)] at e;rw [← hs2];exact h.nil0 e
 ·rw [h2_o 4 (by decide) (by omega)] at e;rw [← hs2];exact h.nil4 e
end
end Go.Proofs.YtleofbpepfmfgaaGreatDoor
