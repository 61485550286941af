import Derived.Test.YtleofbpepfmfgaaGreatDoorVxSimO
import Derived.Test.YtleofbpepfmfgaaGreatDoorVxRfG
import Derived.KernelRfl
set_option linter.unusedSimpArgs false
set_option linter.unusedVariables false
set_option maxRecDepth 100000
namespace Go.Proofs.YtleofbpepfmfgaaGreatDoor
open Go Go.Vx
open Go.Vx.IOp Go.Vx.IR Go.Vx.Opd
abbrev TWord:Nat:=103
theorem del_same (m:Mem) (b:Nat):m.del b b=none:=if_pos rfl
theorem del_other (m:Mem) {b x:Nat} (h:x≠b):m.del b x=m x:=if_neg h
theorem del_le (m:Mem) (b:Nat):Mem.le (m.del b) m:=fun x o hx=>by
 by_cases e:x=b
 ·subst e;rw [del_same] at hx;cases hx
 ·rw [del_other m e] at hx;exact hx
theorem del_mono {m m':Mem} (h:Mem.le m m') (b:Nat):Mem.le (m.del b) (m'.del b):=fun x o hx=>by
 by_cases e:x=b
 ·subst e;rw [del_same] at hx;cases hx
 ·rw [del_other m e] at hx;rw [del_other m' e];exact h x o hx
theorem del_set (m:Mem) (b:Nat) (o:Obj):(m.set b o).del b=m.del b:=by
 funext x;unfold Mem.del Mem.set;split<;>rfl
theorem le_del {m m':Mem} (h:Mem.le m m') {b:Nat} (hb:m b=none):Mem.le m (m'.del b):=fun x o hx=>by
 have e:x≠b:=fun e=>by subst e;rw [hb] at hx;cases hx
 rw [del_other m' e];exact h x o hx
theorem cloneOps_ok {m:Mem} {a:Option Addr} {n c:Nat} {O:List OpR} (hv:OAt m (.slice a n c) O) (hlen:O.length≤1000000) :
  CallsM Tryz.prog 99 [.slice a n c] m fun e m'=>∃ A cc,e=.returned (.slice A O.length cc)∧Mem.le m m'∧O.length≤cc∧(A=none→O=[]) ∧
   (O=[]∨∃ b rest,A=some ⟨b,0,none⟩∧m b=none∧m' b=some (Cells (ocs O++rest) 110)):=by
 obtain ⟨a',c',e,q0,q1,hcap⟩:=hv
 injection e with e1 e2 e3
 subst e1;subst e2;subst e3
 refine calls_of mixed Tryz.func99 ok_slices_Clone_api_Op_api_Op rfl ?_
 conv=>whnf
 cases a with
 | none =>
  obtain rfl:=q0 rfl
  refine Br.mk (fun hb=>?_) (fun hb=>by cases hb)
  exact WRet.same ⟨none,0,rfl,Mem.le.refl _,Nat.le_refl _,(fun _=>rfl),.inl rfl⟩
 | some ad =>
  refine Br.mk (fun hb=>by cases hb) (fun hb=>?_)
  refine WNew.mk fun b1 hb1=>?_
  refine WApp.copyB hb1 (A:=some ad) (n:=O.length) rfl rfl (ocs O) ⟨ocs_len O,fun ad' ha=>q1 ad' ha⟩ (fun ha=>by cases ha) (by omega) fun b cb m1 rest hle1 hcb hbm hcells=>?_
  exact WRet.same ⟨some ⟨b,0,none⟩,cb,rfl,hle1,hcb,(fun h=>by cases h),.inr ⟨b,rest,rfl,hbm,hcells⟩⟩
def WCells (m:Mem) (L:List Value) (ws:List WordR):Prop:=L.length=ws.length * 2∧∀ k (hk:k<ws.length),∃ a3 c3,L[k * 2]? = some (.slice a3 (ws[k]).ops.length c3)∧L[k * 2+1]? = some (i (ws[k]).ct)∧OAt m (.slice a3 (ws[k]).ops.length c3) (ws[k]).ops
theorem WCells.mono {m m':Mem} {L:List Value} {ws:List WordR} (h:WCells m L ws) (hle:Mem.le m m'):WCells m' L ws:=⟨h.1,fun k hk=>by
 obtain ⟨a3,c3,h1,h2,h3⟩:=h.2 k hk
 exact ⟨a3,c3,h1,h2,h3.mono' hle⟩⟩
theorem wat_list {m:Mem} {a:Option Addr} {n c:Nat} {ws:List WordR} (h:WAt m (.slice a n c) ws):n=ws.length∧ws.length≤c∧(a=none→ws=[])∧∃ L,WCells m L ws∧∀ ad,a=some ad→CellsAt m ad L:=by
 obtain ⟨a',c',e,q0,q1,hcap⟩:=h
 injection e with e1 e2 e3
 subst e1;subst e2;subst e3
 refine ⟨rfl,hcap,q0,?_⟩
 cases a with
 | none =>
  obtain rfl:=q0 rfl
  exact ⟨[],⟨rfl,fun k hk=>by simp at hk⟩,fun ad h=>by cases h⟩
 | some ad =>
  have key:∀ j,j≤ws.length→∃ L:List Value,L.length=j * 2∧CellsAt m ad L∧∀ k (hk:k<ws.length),k<j→∃ a3 c3,L[k * 2]? = some (.slice a3 (ws[k]).ops.length c3)∧L[k * 2+1]? = some (i (ws[k]).ct)∧OAt m (.slice a3 (ws[k]).ops.length c3) (ws[k]).ops:=by
   intro j
   induction j with
   | zero=>exact fun _=>⟨[],rfl,(fun j v hj=>by simp at hj),fun k _ hk=>by omega⟩
   | succ j ih =>
    intro hj
    obtain ⟨L,hL,hc,hk⟩:=ih (by omega)
    obtain ⟨a3,n3,c3,g1,g2⟩:=q1 ad rfl j (by omega)
    obtain ⟨a4,c4,e4,_⟩:=id g2
    injection e4 with e41 e42 e43
    subst e41;subst e42;subst e43
    refine ⟨L++[.slice a3 (ws[j]).ops.length c3,i (ws[j]).ct],by rw [List.length_append,hL];simp;omega,fun q v hq=>?_,fun k hk1 hk2=>?_⟩
    ·by_cases e:q<L.length
     ·rw [List.getElem?_append_left e] at hq;exact hc q v hq
     ·rw [List.getElem?_append_right (by omega),hL] at hq
      have:=g1 (q - j * 2) v hq
      rw [add_add,show j * 2+(q - j * 2)=q by omega] at this
      exact this
    ·by_cases e:k<j
     ·obtain ⟨a5,c5,f1,f2,f3⟩:=hk k hk1 e
      exact ⟨a5,c5,by rw [List.getElem?_append_left (by omega)];exact f1,by rw [List.getElem?_append_left (by omega)];exact f2,f3⟩
     ·obtain rfl:k=j:=by omega
      refine ⟨a3,c3,?_,?_,g2⟩
      ·rw [List.getElem?_append_right (by omega),hL,Nat.sub_self];rfl
      ·rw [List.getElem?_append_right (by omega),hL,show k * 2+1 - k * 2=1 by omega];rfl
  obtain ⟨L,hL,hc,hk⟩:=key ws.length (Nat.le_refl _)
  exact ⟨L,⟨hL,fun k h=>hk k h h⟩,fun ad' h=>by cases h;exact hc⟩
theorem wat_of {m:Mem} {b c:Nat} {L rest:List Value} {T:Nat} {ws:List WordR} (h:WCells m L ws) (hb:m b=some (Cells (L++rest) T)) (hc:ws.length≤c):WAt m (.slice (some ⟨b,0,none⟩) ws.length c) ws:=by
 refine ⟨_,c,rfl,(fun h=>by cases h),fun ad ha k hk=>?_,hc⟩
 cases ha
 obtain ⟨a3,c3,h1,h2,h3⟩:=h.2 k hk
 refine ⟨a3,_,c3,fun q v hq=>?_,h3⟩
 have hq2:q<2:=(List.getElem?_eq_some_iff.1 hq).1
 rw [add0,show Addr.add ⟨b,k * 2,none⟩ q=(⟨b,0,none⟩:Addr).add (k * 2+q) by rw [← add0,add_add]]
 refine CellsAt.blk (vs:=L) hb (fun j v hj=>by rw [Nat.zero_add,List.getElem?_append_left (List.getElem?_eq_some_iff.1 hj).1];exact hj) (k * 2+q) v ?_
 match q,hq2 with
 | 0,_=>cases hq;exact h1
 | 1,_=>cases hq;exact h2
theorem cloneWords_ok {m:Mem} {a:Option Addr} {n c:Nat} {ws:List WordR} (hv:WAt m (.slice a n c) ws) (h1:1≤ws.length) (hlen:ws.length≤1000000) :
  CallsM Tryz.prog 98 [.slice a n c] m fun e m'=>∃ b cc L rest,e=.returned (.slice (some ⟨b,0,none⟩) ws.length cc)∧Mem.le m m'∧ws.length≤cc∧m b=none∧m' b=some (Cells (L++rest) TWord)∧WCells m L ws:=by
 obtain ⟨rfl,hcap,q0,L,hL,hc⟩:=wat_list hv
 refine calls_of mixed Tryz.func98 ok_slices_Clone_api_Word_api_Word rfl ?_
 obtain ⟨ad,rfl⟩:∃ ad,a=some ad:=by
  cases a with
  | none=>rw [q0 rfl] at h1;simp at h1
  | some ad=>exact ⟨ad,rfl⟩
 refine Br.mk (fun hb=>by cases hb) (fun hb=>?_)
 refine WNew.mk fun b1 hb1=>?_
 refine WApp.copyB hb1 (A:=some ad) (n:=ws.length) rfl rfl L ⟨hL.1,fun ad' ha=>hc ad' ha⟩ (fun ha=>by cases ha) (by omega) fun b cb m1 rest hle1 hcb hbm hcells=>?_
 exact WRet.same ⟨b,cb,L,rest,rfl,hle1,hcb,hbm,hcells,hL⟩
theorem WCells.set {m:Mem} {L:List Value} {ws:List WordR} (h:WCells m L ws) {k:Nat} (hk:k<ws.length) {A:Option Addr} {c:Nat} (ho:OAt m (.slice A (ws[k]).ops.length c) (ws[k]).ops):WCells m (L.set (k * 2) (.slice A (ws[k]).ops.length c)) ws:=by
 refine ⟨by rw [List.length_set];exact h.1,fun j hj=>?_⟩
 by_cases e:j=k
 ·subst e
  obtain ⟨a3,c3,h1,h2,h3⟩:=h.2 j hj
  exact ⟨A,c,by rw [List.getElem?_set,if_pos rfl,if_pos (by rw [h.1];omega)],by rw [List.getElem?_set,if_neg (by omega)];exact h2,ho⟩
 ·obtain ⟨a3,c3,h1,h2,h3⟩:=h.2 j hj
  exact ⟨a3,c3,by rw [List.getElem?_set,if_neg (by omega)];exact h1,by rw [List.getElem?_set,if_neg (by omega)];exact h2,h3⟩
theorem simClone_ok {m:Mem} (V:CV) {C:CodeR} (hV:CodeAt m V C) (hC:CodeOK C) :
  CallsM Tryz.prog 65 [V.val C] m fun e m'=>∃ V',e=.returned (V'.val C)∧Mem.le m m'∧CodeAt m' V' C:=by
 refine calls_of mixed Tryz.func65 ok_sim_clone rfl ?_
 have hwl:=hC.wl
 have hsz:=hC.szl
 conv=>whnf
 refine ⟨?_,trivial⟩
 conv=>whnf
 rw [hV.n1]
 have hsz2:IAt m (.slice V.a1 C.sz.length V.c1) C.sz:=by have:=hV.sz;rw [hV.n1] at this;exact this
 have hws2:WAt m (.slice V.a2 C.ws.length V.c2) C.ws:=by have:=hV.ws;rw [hV.n2] at this;exact this
 refine WCall.mk (clone_ok hsz2 (by omega)) ?_
 rintro _ m1 ⟨A1,c1,rfl,hc1,l1,hO1⟩
 have hI1:=hO1.iat hc1
 conv=>whnf
 refine ⟨?_,trivial⟩
 conv=>whnf
 rw [hV.n2]
 refine WCall.mk (cloneWords_ok (hws2.mono l1) hwl.1 (by omega)) ?_
 rintro _ m2 ⟨b,cc,L,rest,rfl,l2,hcc,hbn,hbm,hL⟩
 conv=>whnf
 refine ⟨?_,trivial⟩
 conv=>whnf
 refine ⟨?_,trivial⟩
 have hbm0:m b=none:=none_of_le l1 hbn
 refine WLoop.mk Nat (fun k=>[(15,.val (i k))]) (fun k m'=>k≤C.ws.length∧Mem.le m1 (m'.del b)∧∃ L,m' b=some (Cells (L++rest) TWord)∧WCells (m'.del b) L C.ws) (fun k=>C.ws.length - k) 0 ⟨rfl,trivial⟩
  ⟨Nat.zero_le _,le_del l2 hbn,L,hbm,hL.mono (le_del l2 hbn)⟩ ?_
 rintro k m3 ⟨hk,l3,L3,hb3,hL3⟩
 have hle3:Mem.le m1 m3:=l3.trans (del_le m3 b)
 refine Br.mk (fun hb=>?_) (fun hb=>?_)
 ·have hk2:k<C.ws.length:=by
   have:(k:Int)<(C.ws.length:Nat):=of_decide_eq_true hb
   omega
  obtain ⟨a3,c3,g1,g2,g3⟩:=hL3.2 k hk2
  have hlt:k * 2<L3.length:=by rw [hL3.1];omega
  have hol:=hC.ol _ (List.getElem_mem hk2)
  refine WIdx.mk ⟨b,0,none⟩ rfl ⟨by omega,by omega⟩ ?_
  refine WLd.mk (.slice a3 (C.ws[k]).ops.length c3) ?_ ?_
  ·rw [add_add,add0]
   refine ⟨_,_,_,hb3,rfl,?_⟩
   have:(L3++rest)[k * 2]? = some (.slice a3 (C.ws[k]).ops.length c3):=by rw [List.getElem?_append_left hlt];exact g1
   simpa using this
  conv=>whnf
  refine ⟨?_,trivial⟩
  refine WCall.mk (cloneOps_ok (g3.mono' (del_le m3 b)) (by omega)) ?_
  rintro _ m4 ⟨A4,c4,rfl,l4,hc4,hA0,hA4⟩
  have hb4:=l4 _ _ hb3
  refine WIdx.mk ⟨b,0,none⟩ rfl ⟨by omega,by omega⟩ ?_
  conv=>whnf
  refine ⟨?_,trivial⟩
  conv=>whnf
  rw [add_add]
  have er:Int.toNat ((k:Nat):Int) * 2+0=k * 2:=by simp
  rw [er]
  refine WSt.at _ _ hb4 (show k * 2+1≤_ by rw [List.length_append];omega) ?_
  have hsp:spliceL (L3++rest) (k * 2) (cellsL (.slice A4 (C.ws[k]).ops.length c4))=L3.set (k * 2) (.slice A4 (C.ws[k]).ops.length c4)++rest:=by
   show (L3++rest).set _ _=_
   rw [List.set_append_left _ _ hlt]
  rw [hsp]
  have l5:Mem.le (m3.del b) (m4.del b):=del_mono l4 b
  have hO:OAt (m4.del b) (.slice A4 (C.ws[k]).ops.length c4) (C.ws[k]).ops:=by
   refine ⟨A4,c4,rfl,hA0,fun ad ha=>?_,hc4⟩
   rcases hA4 with e | ⟨bo,ro,e1,e2,e3⟩
   ·rw [e];exact fun j v hj=>by simp [ocs] at hj
   ·rw [e1] at ha;cases ha
    have hne:bo≠b:=fun e=>by subst e;rw [hb3] at e2;cases e2
    exact CellsAt.blk (by rw [del_other m4 hne];exact e3) fun j v hj=>by rw [Nat.zero_add,List.getElem?_append_left (List.getElem?_eq_some_iff.1 hj).1];exact hj
  refine WRng.mk (by apply wrap_i64<;>omega) ?_
  conv=>whnf
  refine ⟨k+1,⟨rfl,trivial⟩,⟨hk2,by rw [del_set];exact l3.trans l5,_,Mem.set_same _ _ _,?_⟩,Nat.sub_lt_sub_left hk2 (Nat.lt_succ_self k)⟩
  rw [del_set]
  exact (hL3.mono l5).set hk2 hO
 ·refine WRet.same ⟨⟨A1,C.sz.length,c1,some ⟨b,0,none⟩,C.ws.length,cc⟩,rfl,l1.trans hle3,⟨hI1.mono hle3,wat_of (hL3.mono (del_le m3 b)) hb3 hcc,hV.szl,hV.wsl⟩⟩
theorem fillSim (V:CV) (C:CodeR) (M:Mac) (a:Option Addr) (n c:Nat):fillL [i 0,i 0,i 0,i 0,i 0,ns,ns,ns,ns,ns,i 0,i 0,i 0,i 0,ns,i 0,i 0,i 0,i 0,i 0,i 0,i 0,i 0,i 0,i 0,i 0,ns,ns]
  [(9,6,V.val C),(15,11,.agg ⟨List.take 11 (cellsL M.val)⟩),(26,1,.slice a n c)]=some ([i 0,i 0,i 0,i 0,i 0,ns,ns,ns,ns]++V.cells C++M.cells++[.slice a n c,ns]):=by kernel_rfl
def bareS (C:CodeR):St:=⟨0,0,0,false,3,0,[],List.replicate C.rg.toNat VR.zero,List.replicate C.sp.toNat VR.zero,[],[]⟩
def bareH (br rc bk kc:Nat):HdF:=fun j=>match j with | 1=>⟨some ⟨br,0,none⟩,rc⟩ | 2=>⟨some ⟨bk,0,none⟩,kc⟩ | _=>⟨none,0⟩
theorem flat_vzero (n:Nat):flatL VR.cells (List.replicate n VR.zero)=(List.replicate n [i 0,i 0]).flatten:=by unfold flatL;rw [List.map_replicate];rfl
section
variable {m0 m m':Mem} {V:CV} {C:CodeR} {M:Mac} {sv:Value} {p:Nat} {H:HdF} {s s':St} {sh:List Int}
theorem bare_at {br bk:Nat} (hle:Mem.le m0 m) (hp:m0 p=none) (hbr:m0 br=none) (hbk:m0 bk=none) (hne:br≠bk)
  (cp:m p=some (Cells (simCells V C M sv (bareH br C.rg.toNat bk C.sp.toNat) (bareS C)) TSim)) (cr:m br=some (Cells (List.replicate C.rg.toNat [i 0,i 0]).flatten TVal)) (ck:m bk=some (Cells (List.replicate C.sp.toNat [i 0,i 0]).flatten TVal)) :
  SimAt m0 m V C M sv p (bareH br C.rg.toNat bk C.sp.toNat) (bareS C):=by
 have hown:∀ {j b},OwnsB (bareH br C.rg.toNat bk C.sp.toNat j) b→(j=1∧b=br)∨(j=2∧b=bk):=fun {j b} h=>by
  match j,h with
  | 0,h=>exact absurd rfl h.1
  | 1,h=>exact .inl ⟨rfl,by have:=h.2;cases this;rfl⟩
  | 2,h=>exact .inr ⟨rfl,by have:=h.2;cases this;rfl⟩
  | j+3,h=>exact absurd rfl h.1
 refine ⟨cp,⟨fun j hj=>?_,fun j hj=>?_,fun j hj hc=>?_,fun j k b hj hk h1 h2=>?_⟩,hle,fun b hb=>?_,fun _=>rfl,fun _=>rfl⟩
 ·match j,hj with
  | 0,_=>rfl
  | 1,_=>exact flat_len vr_len _
  | 2,_=>exact flat_len vr_len _
  | 3,_=>rfl
  | 4,_=>rfl
  | j+5,hj=>exfalso;unfold famN bareS at hj;simp only [List.length_nil] at hj;omega
 ·match j,hj with
  | 0,_=>exact Nat.le_refl _
  | 1,_=>show (List.replicate _ _).length≤_;rw [List.length_replicate];exact Nat.le_refl _
  | 2,_=>show (List.replicate _ _).length≤_;rw [List.length_replicate];exact Nat.le_refl _
  | 3,_=>exact Nat.le_refl _
  | 4,_=>exact Nat.le_refl _
  | j+5,hj=>exfalso;unfold famN bareS at hj;simp only [List.length_nil] at hj;omega
 ·match j,hj,hc with
  | 0,_,hc=>exact absurd rfl hc
  | 1,_,hc =>
   refine ⟨br,[],rfl,?_,?_⟩
   ·rw [List.append_nil];show m br=some (Cells (flatL VR.cells (List.replicate _ _)) _);rw [flat_vzero];exact cr
   ·show (flatL VR.cells (List.replicate _ _)).length+0=_;rw [flat_len vr_len,List.length_replicate];rfl
  | 2,_,hc =>
   refine ⟨bk,[],rfl,?_,?_⟩
   ·rw [List.append_nil];show m bk=some (Cells (flatL VR.cells (List.replicate _ _)) _);rw [flat_vzero];exact ck
   ·show (flatL VR.cells (List.replicate _ _)).length+0=_;rw [flat_len vr_len,List.length_replicate];rfl
  | j+3,_,hc=>exact absurd rfl hc
 ·rcases hown h1 with ⟨e1,e2⟩ | ⟨e1,e2⟩<;>rcases hown h2 with ⟨f1,f2⟩ | ⟨f1,f2⟩
  ·omega
  ·exact absurd (e2.symm.trans f2) hne
  ·exact absurd (f2.symm.trans e2) hne
  ·omega
 ·rcases hb with hb | ⟨j,_,hb⟩
  ·rw [hb];exact hp
  ·rcases hown hb with ⟨_,e⟩ | ⟨_,e⟩<;>rw [e]<;>assumption
theorem SimAt.pushRow (h:SimAt m0 m V C M sv p H s) {bn bx n:Nat} {mx:Mem} {K:Value→Mem→Prop} (hbn:m bn=none) (hle:Mem.le m mx) (hcn:mx bn=some (Cells (List.replicate n [i 0]).flatten T64)) (hx:mx bx=some (Cells [.slice (some ⟨bn,0,none⟩) n n] TRow)) (hl:s.arr.length≤1000000)
  (k:∀ b' c' m',(∀ K':Mem→Prop,(∀ m2 H',Goes m0 V C M sv p m H s m2 H' { s with arr:=s.arr++[List.replicate n 0] }→K' m2)→WSt m' ((⟨p,0,none⟩:Addr).add 8) [.slice (some ⟨b',0,none⟩) (s.arr.length+1) c'] K')→K (.slice (some ⟨b',0,none⟩) (s.arr.length+1) c') m') :
  WApp mx TRow 1 24 [ns] (H 3).a s.arr.length (H 3).c (some ⟨bx,0,none⟩) 1 K:=by
 have hz:(List.replicate n [i 0]).flatten=(List.replicate n (0:Int)).map i:=mkZeros n
 rw [hz] at hcn
 have hbp:bn≠p:=fun e=>by subst e;rw [h.hp] at hbn;cases hbn
 have hN:famN s=5+s.arr.length:=rfl
 -- the family with the new array's block
 have hF:FamAt mx (famN s+1) tyS szS (H.upd (famN s) ⟨some ⟨bn,0,none⟩,n⟩) (fun j=>if j=famN s then n else numS s j) (fun j=>if j=famN s then (List.replicate n (0:Int)).map i else contS H s j):=by
  have h1:=h.fam.mono hle
  have hty:tyS (famN s)=T64:=by rw [hN,Nat.add_comm];rfl
  have hsz:szS (famN s)=1:=by rw [hN,Nat.add_comm];rfl
  refine ⟨fun j hj=>?_,fun j hj=>?_,fun j hj hc=>?_,fun j k b hj hk hoj hok=>?_⟩
  ·by_cases e:j=famN s
   ·rw [if_pos e,if_pos e,e,hsz];simp
   ·rw [if_neg e,if_neg e];exact h1.len j (by omega)
  ·by_cases e:j=famN s
   ·rw [if_pos e,e,upd_same];exact Nat.le_refl _
   ·rw [if_neg e,upd_other H _ e];exact h1.cap j (by omega)
  ·by_cases e:j=famN s
   ·subst e
    rw [upd_same,if_pos rfl,hty,hsz]
    exact ⟨bn,[],rfl,by rw [List.append_nil];exact hcn,by simp⟩
   ·rw [upd_other H _ e] at hc ⊢
    rw [if_neg e]
    exact h1.blk j (by omega) hc
  ·have key:∀ q,q<famN s→OwnsB (H q) b→OwnsB (H.upd (famN s) ⟨some ⟨bn,0,none⟩,n⟩ (famN s)) b→False:=fun q hq h1' h2'=>by
    rw [upd_same] at h2'
    have:=h2'.2
    cases this
    exact h.free hbn (.inr ⟨q,hq,h1'⟩)
   by_cases e1:j=famN s
   ·by_cases e2:k=famN s
    ·rw [e1,e2]
    ·subst e1;rw [upd_other H _ e2] at hok;exact (key k (by omega) hok hoj).elim
   ·by_cases e2:k=famN s
    ·subst e2;rw [upd_other H _ e1] at hoj;exact (key j (by omega) hoj hok).elim
    ·rw [upd_other H _ e1] at hoj;rw [upd_other H _ e2] at hok
     exact h1.inj j k b (by omega) (by omega) hoj hok
 have n3:(3:Nat)≠famN s:=by omega
 have hH3:(H.upd (famN s) ⟨some ⟨bn,0,none⟩,n⟩) 3=H 3:=upd_other H _ n3
 have happ:=hF.app (k:=3) (bx:=bx) (Tx:=TRow) (n:=s.arr.length) (c:=(H 3).c) (bytes:=24) (a:=(H 3).a) (x:=[.slice (some ⟨bn,0,none⟩) n n]) (zero:=[ns]) (K:=K) (by omega) (by rw [hH3]) (by rw [if_neg n3];rfl) (by rw [hH3]) rfl (by decide) hx rfl rfl
  (by rw [if_neg n3];show (s.arr.length+1) * 24≤_;omega) (fun e=>by
   rw [if_neg n3]
   rw [hH3] at e
   cases hh:s.arr.length with
   | zero=>exact hh
   | succ q =>
    obtain ⟨b,_,hb,_⟩:=h.fam.room (j:=3) (by omega) (show s.arr.length≠0 by omega)
    rw [hb.2] at e;cases e)
 refine happ fun b' c' rest m' hm hc hr hb hx'=>?_
 rw [if_neg n3] at hc hm hr
 rw [hH3] at hb
 have h3N:3<famN s:=by omega
 have hpb:p≠b':=by
  rcases hb with hb | hb
  ·exact ne_free (hle _ _ h.hp) hb
  ·exact fun e=>h.notp ⟨3,h3N,hb⟩ e.symm
 have e1:(if 3=famN s then n else numS s 3)+1=s.arr.length+1:=by rw [if_neg n3];rfl
 rw [e1]
 refine k b' c' m' fun K' hK=>?_
 have hp2:m' p=some (Cells (simCells V C M sv H s) TSim):=by rw [hx' p hpb];exact hle _ _ h.hp
 refine WSt.at _ _ hp2 (show 8+1≤28 by decide) ?_
 generalize hs2:({ s with arr:=s.arr++[List.replicate n 0] }:St)=s2 at hK
 have arr2:s2.arr=s.arr++[List.replicate n 0]:=by rw [← hs2]
 have hN2:famN s2=famN s+1:=by unfold famN;rw [arr2,List.length_append];rfl
 have get2:∀ q,q<s.arr.length→s2.arr.getD q []=s.arr.getD q []:=fun q hq=>by rw [arr2,List.getD_eq_getElem?_getD,List.getElem?_append_left hq,List.getD_eq_getElem?_getD]
 have getN:s2.arr.getD s.arr.length []=List.replicate n 0:=by rw [arr2,List.getD_eq_getElem?_getD,List.getElem?_append_right (Nat.le_refl _),Nat.sub_self];rfl
 generalize hH2:(H.upd (famN s) ⟨some ⟨bn,0,none⟩,n⟩).upd 3 ⟨some ⟨b',0,none⟩,c'⟩=H2
 have h2_3:H2 3=⟨some ⟨b',0,none⟩,c'⟩:=by rw [← hH2,upd_same]
 have h2_N:H2 (famN s)=⟨some ⟨bn,0,none⟩,n⟩:=by rw [← hH2,upd_other _ _ (Ne.symm n3),upd_same]
 have h2_o:∀ j,j≠3→j≠famN s→H2 j=H j:=fun j e1 e2=>by rw [← hH2,upd_other _ _ e1,upd_other _ _ e2]
 have hrows:rowsV H2 s2.arr=rowsV H s.arr++[.slice (some ⟨bn,0,none⟩) n n]:=by
  unfold rowsV
  have:s2.arr.length=s.arr.length+1:=by rw [arr2,List.length_append];rfl
  rw [this,List.range_succ,List.map_append]
  congr 1
  ·apply List.map_congr_left
   intro j hj
   have hj:=List.mem_range.1 hj
   rw [h2_o (j+5) (by omega) (by omega),get2 j hj]
  ·show [Value.slice (H2 (s.arr.length+5)).a (s2.arr.getD s.arr.length []).length (H2 (s.arr.length+5)).c]=_
   rw [getN,show s.arr.length+5=famN s by omega,h2_N,List.length_replicate]
 have hnum:∀ j,j<famN s+1→j≠3→H2 j=(H.upd (famN s) ⟨some ⟨bn,0,none⟩,n⟩) j∧numS s2 j=(if j=famN s then n else numS s j)∧contS H2 s2 j=(if j=famN s then (List.replicate n (0:Int)).map i else contS H s j):=fun j hj e=>by
  by_cases eN:j=famN s
  ·subst eN
   rw [h2_N,upd_same,if_pos rfl,if_pos rfl,hN,Nat.add_comm]
   refine ⟨rfl,?_,?_⟩
   ·show (s2.arr.getD s.arr.length []).length=n;rw [getN,List.length_replicate]
   ·show (s2.arr.getD s.arr.length []).map i=_;rw [getN]
  ·rw [h2_o j e eN,upd_other _ _ eN,if_neg eN,if_neg eN]
   refine ⟨rfl,?_⟩
   rw [← hs2]
   match j,e,hj with
   | 0,_,_=>exact ⟨rfl,rfl⟩
   | 1,_,_=>exact ⟨rfl,rfl⟩
   | 2,_,_=>exact ⟨rfl,rfl⟩
   | 4,_,_=>exact ⟨rfl,rfl⟩
   | j+5,_,hj =>
    have g:=get2 j (by omega)
    rw [← hs2] at g
    exact ⟨by show (List.getD _ j []).length=_;rw [g];rfl,by show (List.getD _ j []).map i=_;rw [g];rfl⟩
 have hcells:spliceL (simCells V C M sv H s) 8 [.slice (some ⟨b',0,none⟩) (s.arr.length+1) c']=simCells V C M sv H2 s2:=by
  have e8:hv H2 s2 3=.slice (some ⟨b',0,none⟩) (s.arr.length+1) c':=by unfold hv;rw [h2_3];show Value.slice _ s2.arr.length _=_;rw [arr2,List.length_append];rfl
  have e0:∀ j,j<5→j≠3→hv H2 s2 j=hv H s j:=fun j h1 h2=>by
   have:=hnum j (by omega) h2
   unfold hv
   rw [h2_o j h2 (by omega),this.2.1,if_neg (by omega)]
  unfold simCells
  rw [e8,e0 0 (by decide) (by decide),e0 1 (by decide) (by decide),e0 2 (by decide) (by decide),e0 4 (by decide) (by decide),← hs2]
  rfl
 have cell2:CellAt m ((⟨p,0,none⟩:Addr).add 0) (i (wordV s)):=h.cell rfl
 show K' (m'.set p (Cells (spliceL (simCells V C M sv H s) 8 [.slice (some ⟨b',0,none⟩) (s.arr.length+1) c']) TSim))
 rw [hcells]
 generalize hm2:m'.set p (Cells (simCells V C M sv H2 s2) TSim)=m2
 have hfoot:∀ x,FootS p H2 s2 x→FootS p H s x∨m x=none:=fun x hf=>by
  rcases hf with hf | ⟨j,hj,hf⟩
  ·exact .inl (.inl hf)
  ·rw [hN2] at hj
   by_cases e3:j=3
   ·subst e3
    rw [h2_3] at hf
    have:=hf.2
    cases this
    rcases hb with hb | hb
    ·exact .inr (none_of_le hle hb)
    ·exact .inl (.inr ⟨3,h3N,hb⟩)
   ·by_cases eN:j=famN s
    ·subst eN
     rw [h2_N] at hf
     have:=hf.2
     cases this
     exact .inr hbn
    ·rw [h2_o j e3 eN] at hf
     exact .inl (.inr ⟨j,by omega,hf⟩)
 have hkeep:Keep (FootS p H s) m m2:=fun x o hxo hn=>by
  have e1:x≠p:=fun e=>hn (.inl e)
  have e2:x≠b':=fun e=>by
   subst e
   rcases hb with hb | hb
   ·rw [hle _ _ hxo] at hb;cases hb
   ·exact hn (.inr ⟨3,h3N,hb⟩)
  rw [← hm2,Mem.set_other _ _ e1,hx' x e2];exact hle _ _ hxo
 refine hK m2 H2 ⟨⟨by rw [← hm2,Mem.set_same],?_,hkeep.le h.le h.nw,fun x hf=>?_,fun e=>?_,fun e=>?_⟩,hkeep,hfoot⟩
 ·rw [hN2]
  refine hF.put (k:=3) (b:=b') (rest:=rest) (by omega) hnum (by rw [h2_3]) (by rw [hH3];exact hb) ?_ ?_ ?_ ?_ fun x o e hf hxo=>?_
  ·rw [← hm2,Mem.set_other _ _ (Ne.symm hpb)]
   show m' b'=some (Cells (rowsV H2 s2.arr++rest) TRow)
   rw [hrows];exact hm
  ·show (rowsV H2 s2.arr).length=s2.arr.length * 1
   unfold rowsV;simp
  ·rw [h2_3];show s2.arr.length≤c';rw [arr2,List.length_append];exact hc
  ·rw [h2_3];show (rowsV H2 s2.arr).length+rest.length=c' * 1;rw [hrows];exact hr
  ·have e1:x≠p:=by
    rcases hf with ⟨j,hj,hf⟩
    by_cases eN:j=famN s
    ·subst eN
     rw [upd_same] at hf
     have:=hf.2
     cases this
     exact hbp
    ·rw [upd_other _ _ eN] at hf;exact h.notp ⟨j,by omega,hf⟩
   rw [← hm2,Mem.set_other _ _ e1,hx' x e];exact hxo
 ·rcases hfoot x hf with g | g
  ·exact h.nw x g
  ·exact none_of_le h.le g
 ·rw [h2_o 0 (by decide) (by omega)] at e;rw [← hs2];exact h.nil0 e
 ·rw [h2_o 4 (by decide) (by omega)] at e;rw [← hs2];exact h.nil4 e
end
section
variable {m0 m m':Mem} {V:CV} {C:CodeR} {M:Mac} {sv:Value} {p:Nat} {H:HdF} {s s':St} {sh:List Int}
def begTail:IR:=(match ir_sim_begin.body with | .seq _ (.seq _ (.seq _ (.seq _ r)))=>r | r=>r)
def begA:IR:=(match ir_sim_begin.body with | .seq a _=>a | r=>r)
def begB:IR:=(match ir_sim_begin.body with | .seq _ (.seq b _)=>b | r=>r)
def begC:IR:=(match ir_sim_begin.body with | .seq _ (.seq _ (.seq b _))=>b | r=>r)
def begD:IR:=(match ir_sim_begin.body with | .seq _ (.seq _ (.seq _ (.seq b _)))=>b | r=>r)
theorem beg_body:ir_sim_begin.body=.seq begA (.seq begB (.seq begC (.seq begD begTail))):=rfl
def argsS (C:CodeR) (args:List Int):List VR:=(args.map fun n=>(⟨n,0⟩:VR))++List.replicate (C.rg.toNat - args.length) VR.zero
theorem args_set {C:CodeR} {args:List Int} {k:Nat} (hk:k<args.length) (hl:args.length≤C.rg.toNat):(argsS C (args.take k)).set k ⟨args[k],0⟩=argsS C (args.take (k+1)):=by
 unfold argsS
 have e1:((args.take k).map fun n=>(⟨n,0⟩:VR)).length=k:=by simp;omega
 have e2:C.rg.toNat - (args.take k).length=C.rg.toNat - (k+1)+1:=by rw [List.length_take];omega
 rw [List.set_append_right _ _ (by rw [e1];exact Nat.le_refl _),e1,Nat.sub_self,e2,List.replicate_succ,List.set_cons_zero,List.take_succ_eq_append_getElem hk,List.map_append,List.append_assoc]
 congr 2
 rw [List.length_append,List.length_take]
 show _=List.replicate (C.rg.toNat - (min k args.length+1)) VR.zero
 rw [Nat.min_eq_left (by omega)]
theorem args_len {C:CodeR} {args:List Int} (hl:args.length≤C.rg.toNat):(argsS C args).length=C.rg.toNat:=by unfold argsS;simp;omega
theorem SimAt.setNum (h:SimAt m0 m V C M sv p H s) {r:Nat} (hr:r<s.regs.length) {z:Int} {ad:Addr} {vs:List Value} {K:Mem→Prop} (ha:(H 1).a=some ad) (hv:vs=[i z])
  (k:∀ m',Goes m0 V C M sv p m H s m' H { s with regs:=s.regs.set r ⟨z,(s.regs.getD r VR.zero).b⟩ }→K m'):WSt m (ad.add (r * 2)) vs K:=by
 subst hv
 obtain ⟨b,rest,hb,hm,hl⟩:=h.fam.room (j:=1) (by unfold famN;omega) (show s.regs.length≠0 by omega)
 rw [hb.2] at ha;cases ha
 have hfl:(contS H s 1).length=s.regs.length * 2:=flat_len vr_len _
 refine WSt.at _ _ hm (by rw [List.length_append,hfl];show r * 2+1≤_;omega) ?_
 have hb1:(contS H s 1++rest)[r * 2+1]? = some (i (s.regs.getD r VR.zero).b):=by
  rw [List.getElem?_append_left (by rw [hfl];omega)]
  show (flatL VR.cells s.regs)[_]? = _
  rw [flat_get vr_len hr (by decide),List.getD_eq_getElem?_getD,List.getElem?_eq_getElem hr];rfl
 have e:spliceL (contS H s 1++rest) (r * 2) [i z]=contS H { s with regs:=s.regs.set r ⟨z,(s.regs.getD r VR.zero).b⟩ } 1++rest:=by
  have e2:=flat_set vr_len hr ⟨z,(s.regs.getD r VR.zero).b⟩ rest
  refine Eq.trans ?_ e2
  show (contS H s 1++rest).set (r * 2) (i z)=((contS H s 1++rest).set (r * 2) (i z)).set (r * 2+1) (i (s.regs.getD r VR.zero).b)
  apply List.ext_getElem? 
  intro q
  rw [List.getElem?_set (i:=r * 2+1)]
  split
  ·rename_i e;subst e
   rw [List.getElem?_set_ne (by omega),hb1,if_pos (by rw [List.length_set,List.length_append,hfl];omega)]
  ·rfl
 rw [e]
 refine k _ (h.put (k:=1) (by unfold famN;omega) hb ?_ rfl (fun j hj e=>?_) ?_ ?_ hl rfl rfl)
 ·unfold simCells Go.Proofs.YtleofbpepfmfgaaGreatDoor.hv;show _=_
  have:numS { s with regs:=s.regs.set r ⟨z,(s.regs.getD r VR.zero).b⟩ } 1=numS s 1:=List.length_set
  rw [this];rfl
 ·match j,e with
  | 0,_=>exact ⟨rfl,rfl⟩
  | 2,_=>exact ⟨rfl,rfl⟩
  | 3,_=>exact ⟨rfl,rfl⟩
  | 4,_=>exact ⟨rfl,rfl⟩
  | j+5,_=>exact ⟨rfl,rfl⟩
 ·exact List.length_set
 ·show (flatL VR.cells (s.regs.set r _)).length=(flatL VR.cells s.regs).length
  rw [flat_len vr_len,flat_len vr_len,List.length_set]
theorem begTail_ok {V0:CV} (h:SimAt m0 m V C M sv p H (bareS C)) (hV:CodeAt m0 V0 C) (hC:CodeOK C) {aa:Option Addr} {ca:Nat} {args:List Int} (hargs:IAt m0 (.slice aa args.length ca) args) (hal:args.length≤C.rg.toNat)
  {R:Ending→Mem→Prop} (kR:∀ m' H',Goes m0 V C M sv p m H (bareS C) m' H' (beginS C args)→R (.returned (ptr p)) m'):wpI Tryz.prog begTail (retPost [.t 8] R) (envL [(2,.val (.slice aa args.length ca)),(4,.var (V0.cells C)),(9,.val (ptr p))]) m:=by
 have hrg:=hC.rg
 have hszl:=hC.szl
 obtain ⟨aa',ca',ea,q0,q1,q2⟩:=hargs
 injection ea with ea1 ea2 ea3
 subst ea1;subst ea3
 have hsz2:IAt m0 (.slice V0.a1 C.sz.length V0.c1) C.sz:=by have:=hV.sz;rw [hV.n1] at this;exact this
 obtain ⟨as',cs',es,z0,z1,z2⟩:=hsz2
 injection es with es1 es2 es3
 have e0:bareS C={ bareS C with regs:=argsS C (args.take 0) }:=by
  show bareS C={ bareS C with regs:=[]++List.replicate (C.rg.toNat - 0) VR.zero }
  rfl
 refine WLoop.mk Nat (fun k=>[(41,.val (i k))]) (fun k m'=>k≤args.length∧Goes m0 V C M sv p m H (bareS C) m' H { bareS C with regs:=argsS C (args.take k) }) (fun k=>args.length - k) 0 ⟨rfl,trivial⟩ ⟨Nat.zero_le _,by rw [← e0];exact Goes.refl h⟩ ?_
 rintro k m1 ⟨hk,G⟩
 have h1:=G.at'
 refine Br.mk (fun hb=>?_) (fun hb=>?_)
 ·have hk2:k<args.length:=by
   have:(k:Int)<(args.length:Nat):=of_decide_eq_true hb
   omega
  obtain ⟨ad,rfl⟩:∃ ad,aa=some ad:=by
   cases aa with
   | none=>rw [q0 rfl] at hk2;simp at hk2
   | some ad=>exact ⟨ad,rfl⟩
  have hln:(argsS C (args.take k)).length=C.rg.toNat:=args_len (by rw [List.length_take];omega)
  have hr:k<({ bareS C with regs:=argsS C (args.take k) }:St).regs.length:=by show k<(argsS C (args.take k)).length;rw [hln];omega
  have hb0:((argsS C (args.take k)).getD k VR.zero).b=0:=by
   unfold argsS
   rw [List.getD_eq_getElem?_getD,List.getElem?_append_right (by simp;omega),List.getElem?_replicate]
   split<;>rfl
  obtain ⟨ar,har,_⟩:=h1.regCells hr
  refine WIdx.mk ad rfl ⟨by omega,by omega⟩ ?_
  refine WLd.mk (i args[k]) (by simpa using (IAt.cell (q1 ad rfl) hk2).mono h1.le) ?_
  refine WLd.mk (hv H { bareS C with regs:=argsS C (args.take k) } 1) (by rw [add_add];exact h1.cell rfl) ?_
  refine WIdx.mk ar har ⟨by omega,by show (k:Int)<(numS { bareS C with regs:=argsS C (args.take k) } 1:Nat);exact Int.ofNat_lt.2 hr⟩ ?_
  conv=>whnf
  rw [add_add]
  refine h1.setNum hr har (z:=args[k]) rfl fun m2 G2=>?_
  have e2:({ ({ bareS C with regs:=argsS C (args.take k) }:St) with regs:=(argsS C (args.take k)).set k ⟨args[k],((argsS C (args.take k)).getD k VR.zero).b⟩ }:St)={ bareS C with regs:=argsS C (args.take (k+1)) }:=by
   rw [hb0,args_set hk2 hal]
  have G2:=G.trans G2
  refine WRng.mk (by apply wrap_i64<;>omega) ?_
  conv=>whnf
  refine ⟨k+1,⟨rfl,trivial⟩,⟨hk2,?_⟩,Nat.sub_lt_sub_left hk2 (Nat.lt_succ_self k)⟩
  rw [← e2];exact G2
 ·have hk2:k=args.length:=by
   have:¬ (k:Int)<(args.length:Nat):=of_decide_eq_false hb
   omega
  subst hk2
  rw [List.take_length] at G h1
  have hn1:=hV.n1
  have ez:({ bareS C with regs:=argsS C args }:St)={ bareS C with regs:=argsS C args,arr:=(C.sz.take 0).map fun n=>List.replicate n.toNat 0 }:=rfl
  refine WLoop.mk (Nat×HdF) (fun x=>[(59,.val (i x.1))]) (fun x m'=>x.1≤C.sz.length∧Goes m0 V C M sv p m H (bareS C) m' x.2 { bareS C with regs:=argsS C args,arr:=(C.sz.take x.1).map fun n=>List.replicate n.toNat 0 }) (fun x=>C.sz.length - x.1) (0,H) ⟨rfl,trivial⟩ ⟨Nat.zero_le _,by rw [← ez];exact G⟩ ?_
  rintro ⟨j,Hj⟩ m2 ⟨hj,G2⟩
  simp only at hj G2
  have h2:=G2.at'
  refine Br.mk (fun hb=>?_) (fun hb=>?_)
  ·have hj2:j<C.sz.length:=by
    have:(j:Int)<(V0.n1:Nat):=of_decide_eq_true hb
    omega
   have hzj:=hC.sz _ (List.getElem_mem hj2)
   obtain ⟨ad,had⟩:∃ ad,V0.a1=some ad:=by
    cases hh:V0.a1 with
    | none=>rw [z0 (es1.symm.trans hh)] at hj2;simp at hj2
    | some ad=>exact ⟨ad,rfl⟩
   have hal2:((C.sz.take j).map fun n:Int=>List.replicate n.toNat (0:Int)).length=j:=by simp;omega
   refine WIdx.mk ad had ⟨by omega,by omega⟩ ?_
   refine WLd.mk (i C.sz[j]) (by simpa using (IAt.cell (z1 ad (es1.symm.trans had)) hj2).mono h2.le) ?_
   refine WLd.mk (hv Hj { bareS C with regs:=argsS C args,arr:=(C.sz.take j).map fun n=>List.replicate n.toNat 0 } 3) (by rw [add_add];exact h2.cell rfl) ?_
   conv=>whnf
   refine ⟨?_,trivial⟩
   refine WMake.mk ⟨by omega,Int.le_refl _,by omega⟩ fun bn hbn=>?_
   have l3:=Mem.le_set (o:=Cells (List.replicate (Int.toNat C.sz[j]) [i 0]).flatten T64) hbn
   have c3:(m2.set bn (Cells (List.replicate (Int.toNat C.sz[j]) [i 0]).flatten T64)) bn=some (Cells (List.replicate (Int.toNat C.sz[j]) [i 0]).flatten T64):=Mem.set_same _ _ _
   generalize m2.set bn (Cells (List.replicate (Int.toNat C.sz[j]) [i 0]).flatten T64)=m3 at l3 c3 ⊢
   conv=>whnf
   refine ⟨?_,trivial⟩
   refine WNew.ab fun bx m4 hbx l4 cx=>?_
   conv=>whnf
   refine ⟨?_,trivial⟩
   conv=>whnf
   refine h2.pushRow (n:=C.sz[j].toNat) hbn (l3.trans l4) (l4 _ _ c3) cx (by show List.length (List.map _ _)≤_;rw [hal2];omega) fun b' c' m5 hst=>?_
   conv=>whnf
   refine ⟨?_,trivial⟩
   conv=>whnf
   rw [add_add]
   refine hst _ fun m6 H6 G6=>?_
   have e2:(C.sz.take j).map (fun n:Int=>List.replicate n.toNat (0:Int))++[List.replicate C.sz[j].toNat 0]=(C.sz.take (j+1)).map fun n=>List.replicate n.toNat 0:=by
    rw [List.take_succ_eq_append_getElem hj2,List.map_append];rfl
   have G6:=G2.trans G6
   refine WRng.mk (by apply wrap_i64<;>omega) ?_
   conv=>whnf
   refine ⟨(j+1,H6),⟨rfl,trivial⟩,⟨hj2,?_⟩,Nat.sub_lt_sub_left hj2 (Nat.lt_succ_self j)⟩
   show Goes m0 V C M sv p m H (bareS C) m6 H6 { bareS C with regs:=argsS C args,arr:=(C.sz.take (j+1)).map fun n=>List.replicate n.toNat 0 }
   rw [← e2];exact G6
  ·have hj2:j=C.sz.length:=by
    have:¬ (j:Int)<(V0.n1:Nat):=of_decide_eq_false hb
    omega
   subst hj2
   rw [List.take_length] at G2
   exact WRet.same (kR _ _ G2)
attribute [irreducible] begTail
def Begun (m:Mem) (C:CodeR) (M:Mac) (sh args:List Int) (e:Ending) (m':Mem):Prop:=∃ p m1 V sv H,e=.returned (ptr p)∧Mem.le m m1∧SimBase m1 V C M sv sh∧SimAt m1 m' V C M sv p H (beginS C args)
theorem beg_kind (V:CV) (C:CodeR) (M:Mac) (sv:Value):spliceL ([i 0,i 0,i 0,i 0,i 0,ns,ns,ns,ns]++V.cells C++M.cells++[sv,ns]) 3 (cellsL (i 3))=[i 0,i 0,i 0,i 3,i 0,ns,ns,ns,ns]++V.cells C++M.cells++[sv,ns]:=rfl
theorem beg_regs (V:CV) (C:CodeR) (M:Mac) (sv x:Value) (hx:cellsL x=[x]):spliceL ([i 0,i 0,i 0,i 3,i 0,ns,ns,ns,ns]++V.cells C++M.cells++[sv,ns]) 6 (cellsL x)=[i 0,i 0,i 0,i 3,i 0,ns,x,ns,ns]++V.cells C++M.cells++[sv,ns]:=by rw [hx];rfl
theorem beg_kept (V:CV) (C:CodeR) (M:Mac) (sv x y:Value) (hy:cellsL y=[y]):spliceL ([i 0,i 0,i 0,i 3,i 0,ns,x,ns,ns]++V.cells C++M.cells++[sv,ns]) 7 (cellsL y)=[i 0,i 0,i 0,i 3,i 0,ns,x,y,ns]++V.cells C++M.cells++[sv,ns]:=by rw [hy];rfl
theorem bare_cells (V:CV) (C:CodeR) (M:Mac) (sv:Value) (br bk:Nat):simCells V C M sv (bareH br C.rg.toNat bk C.sp.toNat) (bareS C)=[i 0,i 0,i 0,i 3,i 0,ns,.slice (some ⟨br,0,none⟩) C.rg.toNat C.rg.toNat,.slice (some ⟨bk,0,none⟩) C.sp.toNat C.sp.toNat,ns]++V.cells C++M.cells++[sv,ns]:=by
 have e1:numS (bareS C) 1=C.rg.toNat:=List.length_replicate
 have e2:numS (bareS C) 2=C.sp.toNat:=List.length_replicate
 unfold simCells hv
 rw [e1,e2]
 rfl
attribute [local irreducible] spliceL in
set_option maxHeartbeats 2000000 in
theorem begin_ok (V:CV) (hV:CodeAt m V C) (hC:CodeOK C) (hM:M.ok=true) {T:Nat} {fr:Nat×Nat} (hm:m 0=some (.cells ⟨cells0⟩ T fr)) {aa sa:Option Addr} {ca cs:Nat} {args:List Int}
  (hargs:IAt m (.slice aa args.length ca) args) (hal:args.length≤C.rg.toNat) (hsh:IAt m (.slice sa sh.length cs) sh) (hshl:sh.length≤1000) :
  CallsM Tryz.prog 47 [V.val C,M.val,.slice aa args.length ca,.slice sa sh.length cs] m (Begun m C M sh args):=by
 refine calls_of mixed Tryz.func47 ok_sim_begin rfl ?_
 have hrg:=hC.rg
 have hsp:=hC.sp
 unfold Fn.asks
 rw [beg_body]
 conv=>whnf
 refine ⟨?_,trivial⟩
 refine WCall.mk (simClone_ok V hV hC) ?_
 rintro _ m1 ⟨V1,rfl,l1,hV1⟩
 conv=>whnf
 refine ⟨?_,trivial⟩
 refine WCall.mk (clone_ok (hsh.mono l1) (by omega)) ?_
 rintro _ m2 ⟨A2,c2,rfl,hc2,l2,hO2⟩
 have hI2:=hO2.iat hc2
 have L2:=l1.trans l2
 conv=>whnf
 rw [fillSim]
 conv=>whnf
 refine ⟨?_,trivial⟩
 refine WNew.ab fun p m3 hp l3 cp=>?_
 have cp:m3 p=some (Cells ([i 0,i 0,i 0,i 0,i 0,ns,ns,ns,ns]++V1.cells C++M.cells++[.slice A2 sh.length c2,ns]) TSim):=cp
 conv=>whnf
 rw [add_add]
 refine WSt.at _ _ cp (show 0+3+1≤28 by decide) ?_
 rw [beg_kind]
 have l4:Mem.le m2 (m3.set p (Cells ([i 0,i 0,i 0,i 3,i 0,ns,ns,ns,ns]++V1.cells C++M.cells++[.slice A2 sh.length c2,ns]) TSim)):=le_setn l3 hp
 have c4:=Mem.set_same m3 p (Cells ([i 0,i 0,i 0,i 3,i 0,ns,ns,ns,ns]++V1.cells C++M.cells++[.slice A2 sh.length c2,ns]) TSim)
 generalize m3.set p (Cells ([i 0,i 0,i 0,i 3,i 0,ns,ns,ns,ns]++V1.cells C++M.cells++[.slice A2 sh.length c2,ns]) TSim)=m4 at l4 c4 ⊢
 have hB:SimBase m2 V1 C M (.slice A2 sh.length c2) sh:=⟨hV1.mono l2,hC,hM,hI2,hshl,T,fr,L2 _ _ hm⟩
 have fin:∀ {m8:Mem} {br bk:Nat},Mem.le m2 m8→m2 br=none→m2 bk=none→br≠bk→m8 p=some (Cells ([i 0,i 0,i 0,i 3,i 0,ns,.slice (some ⟨br,0,none⟩) C.rg.toNat C.rg.toNat,.slice (some ⟨bk,0,none⟩) C.sp.toNat C.sp.toNat,ns]++V1.cells C++M.cells++[.slice A2 sh.length c2,ns]) TSim) →
   m8 br=some (Cells (List.replicate C.rg.toNat [i 0,i 0]).flatten TVal)→m8 bk=some (Cells (List.replicate C.sp.toNat [i 0,i 0]).flatten TVal) →
   wpI Tryz.prog begTail (retPost [.t 8] (Begun m C M sh args)) (envL [(2,.val (.slice aa args.length ca)),(4,.var (V.cells C)),(9,.val (ptr p))]) m8:=fun {m8 br bk} hle hbr hbk hne cp cr ck=>by
  have hat:=bare_at (V:=V1) (C:=C) (M:=M) (sv:=.slice A2 sh.length c2) (p:=p) hle hp hbr hbk hne (by rw [bare_cells];exact cp) cr ck
  exact begTail_ok hat (hV.mono L2) hC (hargs.mono L2) hal fun m' H' G=>⟨p,m2,V1,_,H',rfl,L2,hB,G.at'⟩
 conv=>whnf
 refine ⟨?_,?_,trivial⟩
 ·refine WMake.mk ⟨by omega,Int.le_refl _,by omega⟩ fun br hbr=>?_
  have cr:(m4.set br (Cells (List.replicate (Int.toNat C.rg) [i 0,i 0]).flatten TVal)) br=some (Cells (List.replicate C.rg.toNat [i 0,i 0]).flatten TVal):=Mem.set_same _ _ _
  have lr:=Mem.le_set (o:=Cells (List.replicate (Int.toNat C.rg) [i 0,i 0]).flatten TVal) hbr
  generalize hmr:m4.set br (Cells (List.replicate (Int.toNat C.rg) [i 0,i 0]).flatten TVal)=mr at cr lr ⊢
  conv=>whnf
  refine ⟨?_,?_,trivial⟩
  ·refine WMake.mk ⟨by omega,Int.le_refl _,by omega⟩ fun bk hbk=>?_
   have ck:(mr.set bk (Cells (List.replicate (Int.toNat C.sp) [i 0,i 0]).flatten TVal)) bk=some (Cells (List.replicate C.sp.toNat [i 0,i 0]).flatten TVal):=Mem.set_same _ _ _
   have lk:=Mem.le_set (o:=Cells (List.replicate (Int.toNat C.sp) [i 0,i 0]).flatten TVal) hbk
   generalize hmk:mr.set bk (Cells (List.replicate (Int.toNat C.sp) [i 0,i 0]).flatten TVal)=mk at ck lk ⊢
   conv=>whnf
   refine ⟨?_,trivial⟩
   conv=>whnf
   rw [add_add]
   refine WSt.at _ _ (lk _ _ (lr _ _ c4)) (show 0+6+1≤28 by decide) ?_
   rw [beg_regs _ _ _ _ _ rfl]
   conv=>whnf
   refine ⟨?_,trivial⟩
   conv=>whnf
   rw [add_add]
   refine WSt.at _ _ (Mem.set_same _ _ _) (show 0+7+1≤28 by decide) ?_
   rw [beg_kept _ _ _ _ _ _ rfl]
   rw [Mem.set2]
   have hne:br≠bk:=ne_free cr hbk
   have pr:p≠br:=ne_free c4 (hbr)
   have pk:p≠bk:=ne_free c4 (none_of_le lr hbk)
   conv=>whnf
   exact rest_envL (fin (le_setn (l4.trans (lr.trans lk)) hp) (none_of_le l4 hbr) (none_of_le (l4.trans lr) hbk) hne (Mem.set_same _ _ _) (by rw [Mem.set_other _ _ (Ne.symm pr)];exact lk _ _ cr) (by rw [Mem.set_other _ _ (Ne.symm pk)];exact ck)) ⟨rfl,rfl,rfl,trivial⟩
  ·conv=>whnf
   rw [add_add]
   refine WSt.at _ _ (lr _ _ c4) (show 0+6+1≤28 by decide) ?_
   rw [beg_regs _ _ _ _ _ rfl]
   have c6:=Mem.set_same mr p (Cells ([i 0,i 0,i 0,i 3,i 0,ns,.slice (some ⟨br,0,none⟩) C.rg.toNat C.rg.toNat,ns,ns]++V1.cells C++M.cells++[.slice A2 sh.length c2,ns]) TSim)
   have l6:Mem.le m2 (mr.set p (Cells ([i 0,i 0,i 0,i 3,i 0,ns,.slice (some ⟨br,0,none⟩) C.rg.toNat C.rg.toNat,ns,ns]++V1.cells C++M.cells++[.slice A2 sh.length c2,ns]) TSim)):=le_setn (l4.trans lr) hp
   have pr:p≠br:=ne_free c4 hbr
   have cr6:(mr.set p (Cells ([i 0,i 0,i 0,i 3,i 0,ns,.slice (some ⟨br,0,none⟩) C.rg.toNat C.rg.toNat,ns,ns]++V1.cells C++M.cells++[.slice A2 sh.length c2,ns]) TSim)) br=some (Cells (List.replicate C.rg.toNat [i 0,i 0]).flatten TVal):=by rw [Mem.set_other _ _ (Ne.symm pr)];exact cr
   generalize mr.set p (Cells ([i 0,i 0,i 0,i 3,i 0,ns,.slice (some ⟨br,0,none⟩) C.rg.toNat C.rg.toNat,ns,ns]++V1.cells C++M.cells++[.slice A2 sh.length c2,ns]) TSim)=m6 at c6 l6 cr6 ⊢
   conv=>whnf
   refine ⟨?_,trivial⟩
   refine WMake.mk ⟨by omega,Int.le_refl _,by omega⟩ fun bk hbk=>?_
   have ck:(m6.set bk (Cells (List.replicate (Int.toNat C.sp) [i 0,i 0]).flatten TVal)) bk=some (Cells (List.replicate C.sp.toNat [i 0,i 0]).flatten TVal):=Mem.set_same _ _ _
   have lk:=Mem.le_set (o:=Cells (List.replicate (Int.toNat C.sp) [i 0,i 0]).flatten TVal) hbk
   generalize hmk:m6.set bk (Cells (List.replicate (Int.toNat C.sp) [i 0,i 0]).flatten TVal)=mk at ck lk ⊢
   conv=>whnf
   refine ⟨?_,trivial⟩
   conv=>whnf
   rw [add_add]
   refine WSt.at _ _ (lk _ _ c6) (show 0+7+1≤28 by decide) ?_
   rw [beg_kept _ _ _ _ _ _ rfl]
   have hne:br≠bk:=ne_free cr6 hbk
   have pk:p≠bk:=ne_free c6 hbk
   conv=>whnf
   exact rest_envL (fin (le_setn (l6.trans lk) hp) (none_of_le l4 hbr) (none_of_le l6 hbk) hne (Mem.set_same _ _ _) (by rw [Mem.set_other _ _ (Ne.symm pr)];exact lk _ _ cr6) (by rw [Mem.set_other _ _ (Ne.symm pk)];exact ck)) ⟨rfl,rfl,rfl,trivial⟩
 ·refine WMake.mk ⟨by omega,Int.le_refl _,by omega⟩ fun bk hbk=>?_
  have ck:(m4.set bk (Cells (List.replicate (Int.toNat C.sp) [i 0,i 0]).flatten TVal)) bk=some (Cells (List.replicate C.sp.toNat [i 0,i 0]).flatten TVal):=Mem.set_same _ _ _
  have lk:=Mem.le_set (o:=Cells (List.replicate (Int.toNat C.sp) [i 0,i 0]).flatten TVal) hbk
  generalize hmk:m4.set bk (Cells (List.replicate (Int.toNat C.sp) [i 0,i 0]).flatten TVal)=mk at ck lk ⊢
  conv=>whnf
  refine ⟨?_,trivial⟩
  refine WMake.mk ⟨by omega,Int.le_refl _,by omega⟩ fun br hbr=>?_
  have cr:(mk.set br (Cells (List.replicate (Int.toNat C.rg) [i 0,i 0]).flatten TVal)) br=some (Cells (List.replicate C.rg.toNat [i 0,i 0]).flatten TVal):=Mem.set_same _ _ _
  have lr:=Mem.le_set (o:=Cells (List.replicate (Int.toNat C.rg) [i 0,i 0]).flatten TVal) hbr
  generalize hmr:mk.set br (Cells (List.replicate (Int.toNat C.rg) [i 0,i 0]).flatten TVal)=mr at cr lr ⊢
  conv=>whnf
  refine ⟨?_,trivial⟩
  conv=>whnf
  rw [add_add]
  refine WSt.at _ _ (lr _ _ (lk _ _ c4)) (show 0+6+1≤28 by decide) ?_
  rw [beg_regs _ _ _ _ _ rfl]
  conv=>whnf
  refine ⟨?_,trivial⟩
  conv=>whnf
  rw [add_add]
  refine WSt.at _ _ (Mem.set_same _ _ _) (show 0+7+1≤28 by decide) ?_
  rw [beg_kept _ _ _ _ _ _ rfl]
  rw [Mem.set2]
  have hne:br≠bk:=(ne_free ck hbr).symm
  have pr:p≠br:=ne_free c4 (none_of_le lk hbr)
  have pk:p≠bk:=ne_free c4 (hbk)
  conv=>whnf
  exact rest_envL (fin (le_setn (l4.trans (lk.trans lr)) hp) (none_of_le (l4.trans lk) hbr) (none_of_le l4 hbk) hne (Mem.set_same _ _ _) (by rw [Mem.set_other _ _ (Ne.symm pr)];exact cr) (by rw [Mem.set_other _ _ (Ne.symm pk)];exact lr _ _ ck)) ⟨rfl,rfl,rfl,trivial⟩
end
end Go.Proofs.YtleofbpepfmfgaaGreatDoor
