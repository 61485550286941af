import Derived.Test.YtleofbpepfmfgaaGreatDoorVxSimG
set_option maxRecDepth 100000
namespace Go.Proofs.YtleofbpepfmfgaaGreatDoor
open Go Go.Vx
open Go.Vx.IOp Go.Vx.IR Go.Vx.Opd
theorem v3y {C:q0c} {k:Nat} {ct:Int}:∀ {L:List OpR} {j:Nat},(∀ o∈L,OpOK C o)→∀ y∈q2a k ct L j,0≤y.1∧y.2.1≤j+L.length
 | [],j,_,y,hy=>by rw [q2a,List.mem_singleton] at hy;subst hy;exact ⟨by show (0:Int)≤(k:Int)+1;omega,Nat.le_refl _⟩
 | o :: L,j,ho,y,hy=>by
  rw [q2a,List.mem_append,List.mem_append] at hy
  rcases hy with hy | hy | hy
  ·split at hy
   ·rename_i hk
    rw [List.mem_singleton] at hy;subst hy
    have:=(ho o (by simp)).n.2.2 hk
    exact ⟨this.1,by show j≤_;omega⟩
   ·cases hy
  ·split at hy
   ·rename_i hk
    rw [List.mem_singleton] at hy;subst hy
    exact ⟨hk.2,by show j≤_;omega⟩
   ·cases hy
  ·split at hy
   ·cases hy
   ·have:=v3y (j:=j+1) (fun q hq=>ho q (List.mem_cons_of_mem _ hq)) y hy
    rw [List.length_cons];omega
theorem v3d (k:Nat) (ct:Int):∀ (L:List OpR) (j:Nat),(q2a k ct L j).length≤2 * L.length+1
 | [],j=>by rw [q2a];simp
 | o :: L,j=>by
  have:=v3d k ct L (j+1)
  rw [q2a,List.length_append,List.length_append,List.length_cons]
  have h1:(if o.kd=21∨o.kd=26 then [((o.n,j,false):WayY)] else []).length≤1:=by split<;>simp
  have h2:(if q4v o=true∧0≤ct then [((ct,j,true):WayY)] else []).length≤1:=by split<;>simp
  have h3:(if q2e o=true then [] else q2a k ct L (j+1)).length≤2 * L.length+1:=by
   split
   ·exact Nat.zero_le _
   ·exact this
  omega
theorem j2t (S:WS×List Nat) (p:Nat×List Nat):(q2p S p).2.length≤S.2.length+1:=by
 unfold q2p
 split
 ·split<;>simp
 ·simp
theorem v6g:∀ (P:List (Nat×List Nat)) (S:WS×List Nat),(P.foldl q2p S).2.length≤S.2.length+P.length
 | [],S=>by simp
 | p :: P,S=>by
  rw [List.foldl_cons,List.length_cons]
  have h1:=v6g P (q2p S p)
  have h2:=j2t S p
  omega
theorem WSt.own {m0 m:Mem} {b:Nat} {v0:Value} {T:TypeId} {vs:List Value} {K:Mem→Prop} (h:m b=some (Cells [v0] T)) (hb:m0 b=none) (hle:Mem.le m0 m) (hv:vs.length=1) (k:∀ m',Mem.le m0 m'→m' b=some (Cells (q0j [v0] 0 vs) T)→K m'):WSt m ⟨b,0,none⟩ vs K :=
 WSt.mk _ _ h rfl (by rw [hv];exact Nat.le_refl _) (k _ (q2n hle hb) (Mem.set_same _ _ _))
theorem j1b {m0 m:Mem} {T:Nat} {fr:Nat×Nat} (hm0:m0 0=some (.cells ⟨q2f⟩ T fr)) {V:CV} {C:q0c} {M:Mac} {S:Wt} (h:WtAt m V C M S) (hle:Mem.le m0 m) (hnew:∀ b,S.foot b→m0 b=none) (hV:q1q m0 V C) (hC:q3h C) (hM:M.ok=true)
  {k:Nat} {w:List Nat} (hk:S.A[k]? = some (some w)) (hA:OkW C S.A) (hL:S.L.length≤900000000000) :
  q0f Tryz.prog 74 [ptr S.p,i k] m fun e m'=>e=.returned q2r∧∃ S',WtAt m' V C M S'∧S'.p=S.p∧Mem.le m0 m'∧(∀ b,S'.foot b→m0 b=none)∧(S'.A,S'.L)=(q2l C M k (q1b C k).ct (q1b C k).ops w).foldl q2p (S.A,S.L):=by
 have hkA:k<S.A.length:=(List.getElem?_eq_some_iff.1 hk).1
 have hkC:k<C.ws.length:=by rw [← hA.len];exact hkA
 have hwl:=hA.wl k w hk
 have hwu:=hA.ub k w hk
 have hrg:=hC.rg
 have hAl:=hC.wl
 rw [← hA.len] at hAl
 obtain ⟨ad,a3,c3,had,hcells,hops⟩:=z5n hV hkC
 have hmem:=q7o hkC
 have hol:=hC.ol _ hmem
 have hop:=hC.op _ hmem
 have hrow:=h.row k w hk
 have hn2:=hV.n2
 generalize hW:q1b C k=W at *
 refine q0e q0d Tryz.func74 w5d rfl ?_
 refine WNew.ab fun bw m1 hbw l1 cw=>?_
 have f1:=h.mono l1
 refine WLd.mk _ (q3z cw) ?_
 refine WLd.mk _ f1.at17 ?_
 refine WIdx.mk _ rfl ⟨by omega,by omega⟩ ?_
 refine WLd.mk (.slice (some ⟨S.rb k,0,none⟩) w.length (S.rc k)) (by have:=f1.atRow hk;simpa [Wt.rowV] using this) ?_
 conv=>whnf
 refine q0a.mk (z8x (hrow.mono l1) (by omega)) ?_
 rintro _ m2 ⟨nb,nc,rfl,l2,hnb,hnbn⟩
 have l2:Mem.le m1 m2:=l2
 refine WNew.ab fun bn m3 hbn l3 cn=>?_
 refine WSt.own cn hbn l3 rfl fun m4 l4 cn4=>?_
 have cn4:m4 bn=some (Cells [.slice (some ⟨nb,0,none⟩) w.length nc] TR):=cn4
 refine WNew.ab fun bd m5 hbd l5 cd=>?_
 refine WSt.own cd hbd l5 rfl fun m6 l6 cd6=>?_
 have cd6:m6 bd=some (Cells [i 0] 3):=cd6
 have L16:=(l2.trans l4).trans l6
 refine WLd.mk _ (q3z (L16 _ _ cw)) ?_
 have f6:=f1.mono L16
 refine WLd.mk (.slice V.a2 V.n2 V.c2) (by rw [add0,addo];exact ⟨_,_,_,f6.hp,rfl,rfl⟩) ?_
 conv=>whnf
 rw [hn2]
 refine WIdx.mk ad had ⟨by omega,by omega⟩ ?_
 have hc6:=hcells.mono (((hle.trans l1).trans L16))
 refine WLd.mk (.slice a3 W.ops.length c3) (by simpa using hc6 0 _ rfl) ?_
 refine WNew.ab fun bo m7 hbo l7 co=>?_
 refine WSt.own co hbo l7 rfl fun m8 l8 co8=>?_
 have co8:m8 bo=some (Cells [.slice a3 W.ops.length c3] 101):=co8
 refine WLd.mk _ (q3z ((l6.trans l8) _ _ cn4)) ?_
 conv=>whnf
 refine q2z.mk ⟨by omega,Int.le_refl _,by omega⟩ fun zb hzb=>?_
 have l9:=Mem.le_set (o:=Cells (List.replicate (Int.toNat (w.length:Int)) [Value.int IntKind.i8 0]).flatten 117) hzb
 have cz:m8.set zb (Cells (List.replicate (Int.toNat (w.length:Int)) [Value.int IntKind.i8 0]).flatten 117) zb=some (Cells ((q3q C).map v8++[]) 117):=by
  rw [Mem.set_same,Int.toNat_natCast,hwl];simp [v8,q3q]
 generalize m8.set zb (Cells (List.replicate (Int.toNat (w.length:Int)) [Value.int IntKind.i8 0]).flatten 117)=m9 at l9 cz ⊢
 simp only [Int.toNat_natCast]
 refine WNew.ab fun bz m10 hbz l10 cz10=>?_
 refine WSt.own cz10 hbz l10 rfl fun m11 l11 cz11=>?_
 have cz11:m11 bz=some (Cells [.slice (some ⟨zb,0,none⟩) w.length w.length] TR):=cz11
 have l11:Mem.le m9 m11:=l11
 have L8:Mem.le m8 m11:=l9.trans l11
 have L6:Mem.le m6 m11:=l8.trans L8
 have L4:Mem.le m4 m11:=l6.trans L6
 have L2:Mem.le m2 m11:=l4.trans L4
 have L1:Mem.le m1 m11:=l2.trans L2
 have L0:Mem.le m m11:=l1.trans L1
 refine WLd.mk _ (q3z (L1 _ _ cw)) ?_
 have f11:=h.mono L0
 refine WLds.mk (V.cells C) ?_ rfl ?_
 ·rw [add0]
  exact q0g.blk f11.hp fun j v hj=>by
   rw [Nat.zero_add]
   unfold Wt.cells
   rw [List.append_assoc,List.getElem?_append_left (List.getElem?_eq_some_iff.1 hj).1];exact hj
 conv=>whnf
 have fr:∀ {x:Nat},m x=none→¬ S.foot x:=fun hx=>h.notfree hx
 have nb0:m nb=none:=q1z l1 hnbn
 have bn0:m bn=none:=q1z (l1.trans l2) hbn
 have bd0:m bd=none:=q1z ((l1.trans l2).trans l4) hbd
 have bo0:m bo=none:=q1z (((l1.trans l2).trans l4).trans l6) hbo
 have zb0:m zb=none:=q1z ((((l1.trans l2).trans l4).trans l6).trans l8) hzb
 have bz0:m bz=none:=q1z (((((l1.trans l2).trans l4).trans l6).trans l8).trans l9) hbz
 have hF:q4p m0 m11 V C M ⟨bw,bz,zb,w.length,bd,bo,a3,c3,bn,nb,nc⟩ W.ops.length S 0 (q1e M W.ops w 0):=by
  refine ⟨f11,L1 _ _ cw,by rw [← hwl];exact cz11,⟨[],l11 _ _ cz⟩,L6 _ _ cd6,L8 _ _ co8,by rw [← hwl];exact L4 _ _ cn4,hnb.mono L2,fun b hb=>?_,?_,hle.trans L0,hnew,q1z hle bd0,q1z hle nb0⟩
  ·rcases hb with e | e | e | e | e | e | e<;>subst e
   ·exact fr hbw
   ·exact fr bz0
   ·exact fr zb0
   ·exact fr bd0
   ·exact fr bo0
   ·exact fr bn0
   ·exact fr nb0
  ·obtain ⟨r,hr⟩:=hnb
   exact q3y (((l4.trans l6).trans l8) _ _ hr) hzb
 have hsub:∀ y∈q2a k W.ct W.ops 0,wayP C M W.ops w y∈q2l C M k W.ct W.ops w:=fun y hy=>by
  have:=z7y (C:=C) (M:=M) (k:=k) (ct:=W.ct) (ops:=W.ops) (w0:=w) W.ops.length 0 (by omega) (Nat.zero_le _)
  rw [List.drop_zero] at this
  rw [show w=q1e M W.ops w 0 from rfl,← this]
  exact List.mem_map_of_mem (f:=wayP C M W.ops w) hy
 have hokP:∀ p∈q2l C M k W.ct W.ops w,OkP C p:=by
  have:=v1t hC (fun o=>(z7o hM o).2) hA hk
  rw [hW] at this;exact this
 have hway:=j7l (g:=107) (first:=[]) (caps:=[ptr bw,ptr bz,ptr bd,ptr bo,ptr bn]) V hV hkC (by rw [hW];omega)
  (fun pre m'=>∃ S1 d1,q4p m0 m' V C M ⟨bw,bz,zb,w.length,bd,bo,a3,c3,bn,nb,nc⟩ W.ops.length S1 d1 (q1e M W.ops w d1)∧d1≤W.ops.length∧(d1=0∨∃ y∈pre,d1≤y.2.1+1)∧S1.p=S.p∧(S1.A,S1.L)=(pre.map (wayP C M W.ops w)).foldl q2p (S.A,S.L))
  (fun pre m' ⟨S1,d1,a,_⟩=>a.le) ⟨S,0,hF,Nat.zero_le _,.inl rfl,rfl,rfl⟩ (by
   rw [hW]
   rintro pre y post m' hsplit ⟨S1,d1,g1,g2,g3,g4,g5⟩
   have hy:y∈q2a k W.ct W.ops 0:=by rw [hsplit];simp
   have hat:=v3y (k:=k) (ct:=W.ct) hop y hy
   have hp:=hokP _ (hsub y hy)
   have hpl:=v3d k W.ct W.ops 0
   rw [hsplit,List.length_append,List.length_cons] at hpl
   have hfold:=z8h (C:=C) (P:=pre.map (wayP C M W.ops w)) (W:=S.L) hA (fun p hp=>by
    obtain ⟨x,hx,rfl⟩:=List.mem_map.1 hp
    exact hokP _ (hsub x (by rw [hsplit];exact List.mem_append.2 (.inl hx))))
   rw [← g5] at hfold
   have hok1:OkW C S1.A:=hfold.1
   have hl1:=v6g (pre.map (wayP C M W.ops w)) (S.A,S.L)
   rw [← g5,List.length_map] at hl1
   have hl1:S1.L.length≤S.L.length+pre.length:=hl1
   have hd1:d1≤y.2.1+1:=by
    rcases g3 with g3 | ⟨x,hx,g3⟩
    ·omega
    ·have hs:=(v3h (k:=k) (ct:=W.ct) (L:=W.ops) (j:=0)).1
     rw [hsplit] at hs
     have:=(List.pairwise_append.1 hs).2.2 x hx y (by simp)
     omega
   have hAl1:S1.A.length=S.A.length:=by rw [hok1.len,hA.len]
   refine q0f.mono (j2h hm0 g1 hM hops hol hop hrg hwl hwu (y:=y) ⟨hat.1,by rw [hok1.len];exact hp.lt⟩ (fun v hv=>hok1.wl _ v hv) (by omega) hd1 g2 (by omega) (by omega)) ?_
   rintro e m'' ⟨rfl,S2,d2,q1,q2,q3,q4,q5⟩
   exact ⟨rfl,S2,d2,q1,q3,.inr ⟨y,by simp,q2⟩,q4.trans g4,by rw [List.map_append,List.foldl_append,← g5,List.map_singleton,List.foldl_cons,List.foldl_nil];exact q5⟩)
 rw [hW] at hway
 refine q0a.mk hway ?_
 rintro _ m12 ⟨rfl,S1,d1,g1,g2,g3,g4,g5⟩
 refine WRet.same ⟨rfl,S1,g1.wt,g4,g1.le,g1.new.1,?_⟩
 rw [g5]
 have:=z7y (C:=C) (M:=M) (k:=k) (ct:=W.ct) (ops:=W.ops) (w0:=w) W.ops.length 0 (by omega) (Nat.zero_le _)
 rw [List.drop_zero] at this
 rw [this];rfl
theorem j2y {l:List Nat} {b:Nat} (h:∀ x∈l,x≤b):l.sum≤b * l.length:=by
 induction l with
 | nil=>simp
 | cons x l ih =>
  rw [List.sum_cons,List.length_cons,Nat.mul_add,Nat.mul_one]
  have h1:=h x (by simp)
  have h2:=ih fun y hy=>h y (List.mem_cons_of_mem _ hy)
  omega
theorem k1v {C:q0c} {A:WS} (hA:OkW C A):phi C.rg.toNat A≤(8 * C.rg.toNat+1) * A.length:=by
 unfold phi
 have:=j2y (l:=A.map (phi1 C.rg.toNat)) (b:=8 * C.rg.toNat+1) fun x hx=>by
  obtain ⟨y,hy,rfl⟩:=List.mem_map.1 hx
  obtain ⟨k,hk,rfl⟩:=List.getElem_of_mem hy
  cases hh:A[k] with
  | none=>exact Nat.le_refl _
  | some w =>
   have:=v5o (hA.wl k w (by rw [List.getElem?_eq_getElem hk,hh]))
   show q5z w≤_;omega
 rw [List.length_map] at this
 exact this
theorem k6a (V:CV) (C:q0c) (M:Mac) (a:Option Addr) (n c:Nat):q6k [ns,i 0,i 0,i 0,i 0,ns,i 0,i 0,i 0,i 0,i 0,i 0,i 0,i 0,i 0,i 0,i 0,ns,ns]
  [(0,6,.agg ⟨List.take 6 (q0k (V.val C))⟩),(6,11,.agg ⟨List.take 11 (q0k M.val)⟩),(17,1,.slice a n c)]=some (V.cells C++M.cells++[.slice a n c,ns]):=by kernel_rfl
theorem k5u (S:Wt) (V:CV) (C:q0c) (M:Mac) (a:Option Addr) (c:Nat) {L':List Nat} {n:Nat} (hn:L'.length=n):q0j (S.cells V C M) 18 (q0k (.slice a n c))=({ S with L:=L',aw:=a,cw:=c }:Wt).cells V C M:=by
 subst hn
 unfold Wt.cells
 rfl
attribute [local irreducible] q0j in
set_option maxHeartbeats 4000000 in
theorem v1j {m0:Mem} {T:Nat} {fr:Nat×Nat} (hm0:m0 0=some (.cells ⟨q2f⟩ T fr)) (V:CV) {C:q0c} (M:Mac) (hV:q1q m0 V C) (hC:q3h C) (hM:M.ok=true) :
  q0f Tryz.prog 51 [V.val C,M.val] m0 fun e m'=>∃ S,e=.returned (ptr S.p)∧WtAt m' V C M S∧Mem.le m0 m'∧(∀ b,S.foot b→m0 b=none)∧z0h C M S.A∧OkW C S.A:=by
 have hrg:=hC.rg
 have hwl:=hC.wl
 have hn2:=hV.n2
 refine q0e q0d Tryz.func51 w1n rfl ?_
 conv=>whnf
 refine ⟨?_,trivial⟩
 rw [hn2]
 conv=>whnf
 refine q2z.mk ⟨by omega,Int.le_refl _,by omega⟩ fun ba hba=>?_
 have l1:=Mem.le_set (o:=Cells (List.replicate (Int.toNat (C.ws.length:Int)) [ns]).flatten TR) hba
 have ca:m0.set ba (Cells (List.replicate (Int.toNat (C.ws.length:Int)) [ns]).flatten TR) ba=some (Cells (List.replicate C.ws.length ns) TR):=by
  rw [Mem.set_same,Int.toNat_natCast];simp
 generalize m0.set ba (Cells (List.replicate (Int.toNat (C.ws.length:Int)) [ns]).flatten TR)=m1 at l1 ca ⊢
 simp only [Int.toNat_natCast]
 conv=>whnf
 rw [k6a]
 conv=>whnf
 refine ⟨?_,trivial⟩
 refine WNew.ab fun p m2 hp l2 cp=>?_
 have cp2:m2 p=some (Cells (V.cells C++M.cells++[.slice (some ⟨ba,0,none⟩) C.ws.length C.ws.length,ns]) TW):=cp
 clear cp
 have hp0:m0 p=none:=q1z l1 hp
 have hA0:∀ (k:Nat) (w:List Nat),¬ (List.replicate C.ws.length (none:Option (List Nat)))[k]? = some (some w):=fun k w hk=>by
  rw [List.getElem?_replicate] at hk
  split at hk<;>cases hk
 have hS0:WtAt m2 V C M ⟨p,ba,fun _=>0,fun _=>0,none,0,List.replicate C.ws.length none,[]⟩:=by
  refine ⟨?_,⟨_,l2 _ _ ca,by simp,fun k x hk=>?_⟩,fun k w hk=>absurd hk (hA0 k w),fun j k v w hj=>absurd hj (hA0 j v),.inl ⟨rfl,rfl,rfl⟩⟩
  ·unfold Wt.cells
   rw [List.length_replicate]
   exact cp2
  ·have hk:(List.replicate C.ws.length (none:Option (List Nat)))[k]? = some x:=hk
   rw [List.getElem?_replicate] at hk ⊢
   split at hk
   ·rename_i h1;cases hk;rw [if_pos h1];rfl
   ·cases hk
 have hf0:∀ b,(⟨p,ba,fun _=>0,fun _=>0,none,0,List.replicate C.ws.length none,[]⟩:Wt).foot b→m0 b=none:=fun b hb=>by
  rcases hb with hb | hb | ⟨k,w,hk,_⟩ | hb
  ·rw [hb];exact hp0
  ·rw [hb];exact hba
  ·exact absurd hk (hA0 k w)
  ·cases hb
 have L2:=l1.trans l2
 conv=>whnf
 refine q2z.mk ⟨by omega,Int.le_refl _,by omega⟩ fun zb hzb=>?_
 have l3:=Mem.le_set (o:=Cells (List.replicate (Int.toNat C.rg) [Value.int IntKind.i8 0]).flatten 117) hzb
 have cz:R8 (m2.set zb (Cells (List.replicate (Int.toNat C.rg) [Value.int IntKind.i8 0]).flatten 117)) zb (q3q C):=⟨[],by rw [Mem.set_same];simp [v8,q3q]⟩
 have hS1:=hS0.mono l3
 have hzf:¬ (⟨p,ba,fun _=>0,fun _=>0,none,0,List.replicate C.ws.length none,[]⟩:Wt).foot zb:=hS0.notfree hzb
 generalize m2.set zb (Cells (List.replicate (Int.toNat C.rg) [Value.int IntKind.i8 0]).flatten 117)=m3 at l3 cz hS1 ⊢
 have hzl:(q3q C).length=C.rg.toNat:=by simp [q3q]
 have hme:=z7g (word:=0) (cl:=C.rg.toNat) hS1 (by show 0<(List.replicate _ _).length;simp;omega) cz hzf (fun w hw=>absurd hw (hA0 _ w)) (by rw [hzl];omega) (Nat.zero_le _) (by show (List.replicate _ _).length≤_;simp;omega)
 rw [hzl] at hme
 conv=>whnf
 refine q0a.mk hme ?_
 rintro _ m4 ⟨rfl,S4,h1,h2,h3,h4,h5⟩
 have hA4:S4.A=(List.replicate C.ws.length none).set 0 (some (q3q C))∧S4.L=[0]:=by
  unfold q2p at h3
  rw [show (List.replicate C.ws.length (none:Option (List Nat)))[0]? = some none by rw [List.getElem?_replicate,if_pos (by omega)]] at h3
  simp only at h3
  injection h3 with e1 e2
  exact ⟨e1,e2⟩
 have hinv4:InvW C M S4.A S4.L:=by rw [hA4.1,hA4.2];exact k4z hC
 have hle4:Mem.le m0 m4:=h4.le (L2.trans l3) hf0
 have hf4:∀ b,S4.foot b→m0 b=none:=fun b hb=>by
  rcases h5 b hb with h6 | h6
  ·exact hf0 b h6
  ·exact q1z (L2.trans l3) h6
 have hb4:2 * phi C.rg.toNat S4.A+S4.L.length≤100000000000:=by
  have:=k1v hinv4.ok
  rw [hinv4.ok.len] at this
  rw [hA4.2]
  have h7:(8 * C.rg.toNat+1) * C.ws.length≤(8 * 4096+1) * 60000:=Nat.mul_le_mul (by omega) hwl.2
  simp only [List.length_singleton]
  omega
 conv=>whnf
 refine q0v.mk Wt (fun _=>[]) (fun S m'=>S.p=p∧WtAt m' V C M S∧Mem.le m0 m'∧(∀ b,S.foot b→m0 b=none)∧InvW C M S.A S.L∧2 * phi C.rg.toNat S.A+S.L.length≤100000000000) (fun S=>2 * phi C.rg.toNat S.A+S.L.length) S4 trivial ⟨h2,h1,hle4,hf4,hinv4,hb4⟩ ?_
 rintro S m5 ⟨hSp,hS,hle,hf,hinv,hbd⟩
 subst hSp
 refine WLd.mk _ hS.at18 ?_
 refine Br.mk (fun hb=>?_) (fun hb=>?_)
 ·have hL0:0<S.L.length:=by
   have:((S.L.length:Nat):Int)>0:=of_decide_eq_true hb
   omega
  obtain ⟨R,k,hRk⟩:∃ R k,S.L=R++[k]:=⟨S.L.dropLast,S.L.getLast (by intro e;rw [e] at hL0;simp at hL0),(List.dropLast_concat_getLast _).symm⟩
  rcases hS.wk with ⟨_,e,_⟩ | ⟨bk,rest,haw,hmk,hcw⟩
  ·rw [e] at hL0;simp at hL0
  have hLl:S.L.length=R.length+1:=by rw [hRk];simp
  have h18:=hS.at18
  refine WLd.mk _ h18 ?_
  refine WLd.mk _ h18 ?_
  refine WRng.mk (by apply wrap_i64<;>omega) ?_
  refine WIdx.mk ⟨bk,0,none⟩ haw ⟨by omega,by omega⟩ ?_
  refine WLd.mk (i k) ?_ ?_
  ·rw [show Int.toNat ((S.L.length:Int) - 1) * 1=R.length by omega,add0]
   refine ⟨_,_,_,hmk,rfl,?_⟩
   rw [hRk];simp
  refine WLd.mk _ h18 ?_
  refine WLd.mk _ h18 ?_
  refine WRng.mk (by apply wrap_i64<;>omega) ?_
  refine WSl.mk ⟨Int.le_refl _,by omega,by omega⟩ ?_
  conv=>whnf
  refine ⟨?_,trivial⟩
  conv=>whnf
  have e1:Int.toNat ((S.L.length:Int) - 1) - Int.toNat 0=R.length:=by omega
  have e2:S.cw - Int.toNat 0=S.cw:=rfl
  rw [q8r (show Int.toNat 0 * 1=0 from rfl),e1,e2]
  refine WSt.at _ _ hS.hp (show 18+1≤19 from Nat.le_refl _) ?_
  rw [k5u S V C M S.aw S.cw (L':=R) rfl]
  have hbp:bk≠S.p:=(q5a hS.hp hmk (by decide)).symm
  have hS2:WtAt (m5.set S.p (Cells (({ S with L:=R,aw:=S.aw,cw:=S.cw }:Wt).cells V C M) TW)) V C M { S with L:=R,aw:=S.aw,cw:=S.cw } :=
   hS.setWork (Mem.set_same _ _ _) (fun b o hb hn1 hn2=>by rw [Mem.set_other _ _ hn1];exact hb) (.inr ⟨bk,i k :: rest,haw,by
    rw [Mem.set_other _ _ hbp,hmk,hRk];simp [numL],by simp;omega⟩)
  have hle2:Mem.le m0 (m5.set S.p (Cells (({ S with L:=R,aw:=S.aw,cw:=S.cw }:Wt).cells V C M) TW)):=q2n hle (hf _ (.inl rfl))
  generalize m5.set S.p (Cells (({ S with L:=R,aw:=S.aw,cw:=S.cw }:Wt).cells V C M) TW)=m6 at hS2 hle2 ⊢
  have hf2:∀ b,({ S with L:=R,aw:=S.aw,cw:=S.cw }:Wt).foot b→m0 b=none:=fun b hb=>hf b hb
  obtain ⟨w,hw⟩:=hinv.wk k (by rw [hRk];simp)
  conv=>whnf
  refine q0a.mk (j1b hm0 hS2 hle2 hf2 hV hC hM hw hinv.ok (by show R.length≤_;omega)) ?_
  rintro _ m7 ⟨rfl,S7,g1,g2,g3,g4,g5⟩
  obtain ⟨q1,q2⟩:=k0f hC (fun o=>(z7o hM o).2) (R:=R) hinv hw (fun x hx=>by
   rw [hRk] at hx
   rcases List.mem_append.1 hx with hx | hx
   ·exact .inr hx
   ·exact .inl (List.mem_singleton.1 hx)) (fun x hx=>by rw [hRk];exact List.mem_append.2 (.inl hx))
  have g5:(S7.A,S7.L)=(q2l C M k (q1b C k).ct (q1b C k).ops w).foldl q2p (S.A,R):=g5
  rw [← g5] at q1 q2
  simp only at q1 q2
  conv=>whnf
  refine ⟨S7,trivial,⟨g2,g1,g3,g4,q1,by omega⟩,?_⟩
  show 2 * phi C.rg.toNat S7.A+S7.L.length<2 * phi C.rg.toNat S.A+S.L.length
  omega
 ·have hL0:S.L=[]:=by
   have:¬ ((S.L.length:Nat):Int)>0:=of_decide_eq_false hb
   exact List.length_eq_zero_iff.1 (by omega)
  rw [hL0] at hinv
  exact WRet.same ⟨S,rfl,hS,hle,hf,hinv.least,hinv.ok⟩
theorem w0r (M:Mac) (w:List Nat) (o:OpR) (os:List OpR) (now:List Nat):q5m M w (o :: os) now=((q0b o).all (fun r=>w.getD r.toNat 0==0)&&((match wrS o with | some d=>decide (now.getD d 0≤1) | none=>true)&&(q2e o||q5m M w os (q3e M now o)))):=rfl
theorem v6q:∀ (L acc:List Int),(L.foldl putS acc).length≤acc.length+L.length
 | [],acc=>by simp
 | x :: L,acc=>by
  rw [List.foldl_cons,List.length_cons]
  have h1:=v6q L (putS acc x)
  have h2:(putS acc x).length≤acc.length+1:=by unfold putS;split<;>simp
  omega
theorem j3t (L:List Int):(q0h L).length≤L.length:=by have:=v6q L [];simpa [q0h] using this
theorem v0n (a:Nat):(decide ((a:Int)>1))=decide (a>1):=by
 by_cases h:a>1
 ·rw [decide_eq_true h,decide_eq_true (by omega)]
 ·rw [decide_eq_false h,decide_eq_false (by omega)]
theorem v4v (a:Nat):(decide ((a:Int)>0))=decide (a>0):=by
 by_cases h:a>0
 ·rw [decide_eq_true h,decide_eq_true (by omega)]
 ·rw [decide_eq_false h,decide_eq_false (by omega)]
set_option maxHeartbeats 4000000 in
theorem k0y {m:Mem} {T:Nat} {fr:Nat×Nat} (hm:m 0=some (.cells ⟨q2f⟩ T fr)) {V:CV} {C:q0c} {M:Mac} {S:Wt} (h:WtAt m V C M S) (hV:q1q m V C) (hC:q3h C) (hM:M.ok=true)
  {k:Nat} {w:List Nat} (hk:S.A[k]? = some (some w)) (hA:S.A.length=C.ws.length) (hwl:w.length=C.rg.toNat) :
  q0f Tryz.prog 52 [ptr S.p,i k] m fun e m'=>e=.returned (.bool (q5m M w (q1b C k).ops w))∧Mem.le m m':=by
 have hkA:k<S.A.length:=(List.getElem?_eq_some_iff.1 hk).1
 have hkC:k<C.ws.length:=by rw [← hA];exact hkA
 have hrg:=hC.rg
 have hAl:=hC.wl
 rw [← hA] at hAl
 obtain ⟨ad,a3,c3,had,hcells,hops⟩:=z5n hV hkC
 have hmem:=q7o hkC
 have hol:=hC.ol _ hmem
 have hop:=hC.op _ hmem
 have hrow:=h.row k w hk
 have hn2:=hV.n2
 have hat:∀ mm,Mem.le m mm→q0q mm ((⟨S.ba,0,none⟩:Addr).add k) (.slice (some ⟨S.rb k,0,none⟩) w.length (S.rc k)):=fun mm hl=>by have:=(h.mono hl).atRow hk;simpa [Wt.rowV] using this
 generalize q1b C k=W at *
 refine q0e q0d Tryz.func52 j2q rfl ?_
 refine WLd.mk _ h.at17 ?_
 refine WIdx.mk _ rfl ⟨by omega,by omega⟩ ?_
 refine WLd.mk _ (by simpa using hat _ (Mem.le.refl _)) ?_
 conv=>whnf
 refine q0a.mk (z8x hrow (by omega)) ?_
 rintro _ m2 ⟨nb,nc,rfl,l2,hnb,hnbn⟩
 have h2:=h.mono l2
 have hc2:=hcells.mono l2
 refine WLd.mk (.slice V.a2 V.n2 V.c2) (by rw [add0,addo];exact ⟨_,_,_,h2.hp,rfl,rfl⟩) ?_
 conv=>whnf
 rw [hn2]
 refine WIdx.mk ad had ⟨by omega,by omega⟩ ?_
 refine WLd.mk (.slice a3 W.ops.length c3) (by simpa using hc2 0 _ rfl) ?_
 conv=>whnf
 refine q0v.mk Nat (fun j=>[(29,.val (i j))]) (fun j m'=>j≤W.ops.length∧Mem.le m m'∧R8 m' nb (q1e M W.ops w j)∧q5m M w W.ops w=q5m M w (W.ops.drop j) (q1e M W.ops w j)) (fun j=>W.ops.length - j) 0 ⟨rfl,trivial⟩ ⟨Nat.zero_le _,l2,hnb,rfl⟩ ?_
 rintro j m3 ⟨hj,l3,hR,hst⟩
 refine Br.mk (fun hb=>?_) (fun hb=>?_)
 ·have hj2:j<W.ops.length:=by
   have:(j:Int)<W.ops.length:=of_decide_eq_true hb
   omega
  obtain ⟨ad3,had3,hopc⟩:=v0l hops l3 hj2
  have hok:=hop _ (List.getElem_mem hj2)
  have hns:=z3s (M:=M) (w0:=w) hj2
  have hnl:(q1e M W.ops w j).length=C.rg.toNat:=by rw [z7s];exact hwl
  have hm3:=l3 _ _ hm
  rw [z7b hj2,w0r] at hst
  have hri:=z6u hok
  generalize W.ops[j]=o at *
  refine WIdx.mk ad3 had3 ⟨by omega,by omega⟩ ?_
  refine WLds.mk o.cells (by simpa using hopc) rfl ?_
  conv=>whnf
  refine q0a.mk (z2u hm3 o) ?_
  rintro _ m4 ⟨ra,rc,rfl,l4,hp4⟩
  have hI4:IAt m4 (.slice ra (q0b o).length rc) (q0b o):=hp4.iat
  obtain ⟨ra',rc',er,hr0,hr1,hr2⟩:=hI4
  injection er with er1 _ er2
  subst er1
  have hrl:(q0b o).length≤4:=Nat.le_trans (j3t _) (q8f o)
  have l4':=l3.trans l4
  have h4:=h.mono l4'
  have hR4:=hR.mono l4
  have hm4:=l4 _ _ hm3
  conv=>whnf
  refine q0v.mk Nat (fun q=>[(36,.val (i q))]) (fun q m'=>m'=m4∧q≤(q0b o).length∧∀ x (hx:x<(q0b o).length),x<q→w.getD ((q0b o)[x]).toNat 0=0) (fun q=>(q0b o).length - q) 0 ⟨rfl,trivial⟩ ⟨rfl,Nat.zero_le _,fun x hx hx0=>by omega⟩ ?_
  rintro q m' ⟨rfl,hq,hz⟩
  refine Br.mk (fun hb2=>?_) (fun hb2=>?_)
  ·have hq2:q<(q0b o).length:=by
    have:(q:Int)<(q0b o).length:=of_decide_eq_true hb2
    omega
   obtain ⟨adr,hadr⟩:∃ adr,ra=some adr:=by
    cases hh:ra with
    | none=>rw [hr0 hh] at hq2;simp at hq2
    | some adr=>exact ⟨adr,rfl⟩
   have hrc:=IAt.cell (hr1 adr hadr) hq2
   have hrb:=hri _ (List.getElem_mem hq2)
   have hzz:∀ x,x=(q0b o)[q]→x∈q0b o:=fun x hx=>by rw [hx];exact List.getElem_mem hq2
   have hzq:∀ (e:Nat),(q0b o)[q]=(e:Int)→w.getD ((q0b o)[q]).toNat 0=w.getD e 0:=fun e he=>by rw [he,Int.toNat_natCast]
   obtain ⟨e,he,he2⟩:∃ e:Nat,(q0b o)[q]=e∧e<C.rg.toNat:=⟨((q0b o)[q]).toNat,by omega,by omega⟩
   rw [he] at hrc
   refine WIdx.mk adr hadr ⟨by omega,by omega⟩ ?_
   refine WLd.mk (i e) (by simpa using hrc) ?_
   refine WLd.mk _ h4.at17 ?_
   refine WIdx.mk _ rfl ⟨by omega,by omega⟩ ?_
   refine WLd.mk _ (by simpa using hat _ l4') ?_
   refine WIdx.mk _ rfl ⟨by omega,by omega⟩ ?_
   refine WLd.mk (v8 (w.getD e 0)) (by simpa using (hrow.mono l4').cell (by rw [hwl];exact he2)) ?_
   refine Br.mk (fun hb3=>?_) (fun hb3=>?_)
   ·rw [v4v] at hb3
    have hb3:=of_decide_eq_true hb3
    have hall:(q0b o).all (fun r=>w.getD r.toNat 0==0)=false:=by
     rw [List.all_eq_false]
     refine ⟨_,List.getElem_mem hq2,?_⟩
     rw [hzq e he,beq_iff_eq];omega
    refine WRet.same ⟨?_,l4'⟩
    rw [hst,hall];rfl
   ·rw [v4v] at hb3
    have hb3:=of_decide_eq_false hb3
    refine WRng.mk (by apply wrap_i64<;>omega) ?_
    conv=>whnf
    refine ⟨q+1,⟨rfl,trivial⟩,⟨rfl,hq2,fun x hx hxq=>?_⟩,Nat.sub_lt_sub_left hq2 (Nat.lt_succ_self q)⟩
    by_cases ex:x=q
    ·subst ex;rw [hzq e he];omega
    ·exact hz x hx (by omega)
  ·have hq2:q=(q0b o).length:=by
    have:¬ (q:Int)<(q0b o).length:=of_decide_eq_false hb2
    omega
   have hall:(q0b o).all (fun r=>w.getD r.toNat 0==0)=true:=by
    rw [List.all_eq_true]
    intro r hr
    obtain ⟨x,hx,rfl⟩:=List.getElem_of_mem hr
    rw [hz x hx (by omega)];rfl
   rw [hall,Bool.true_and] at hst
   conv=>whnf
   refine q0a.pure (v5g hm4 o hok.kd) ?_
   by_cases hu:uD o.kd=true
   ·rw [if_pos hu]
    obtain ⟨e,he,he2⟩:∃ e:Nat,o.ds=e∧e<C.rg.toNat:=⟨o.ds.toNat,by have:=hok.ds;omega,by have:=hok.ds;omega⟩
    have hwr:wrS o=some e:=by rw [v3k o hu,he,Int.toNat_natCast]
    rw [hwr] at hst
    simp only at hst
    have hstp:q3e M (q1e M W.ops w j) o=(q1e M W.ops w j).set e (max ((q1e M W.ops w j).getD e 0) (dlS M o)):=by
     unfold q3e;rw [hwr]
    rw [he]
    refine Br.mk (fun hb3=>?_) (fun hb3=>absurd (of_decide_eq_false hb3) (by omega))
    refine WIdx.mk _ rfl ⟨by omega,by omega⟩ ?_
    refine WLd.mk (v8 ((q1e M W.ops w j).getD e 0)) (by simpa using hR4.cell (by rw [hnl];exact he2)) ?_
    refine Br.mk (fun hb4=>?_) (fun hb4=>?_)
    ·rw [v0n] at hb4
     have hb4:=of_decide_eq_true hb4
     refine WRet.same ⟨?_,l4'⟩
     rw [hst,decide_eq_false (by omega)];rfl
    ·rw [v0n] at hb4
     have hb4:=of_decide_eq_false hb4
     rw [decide_eq_true (by omega),Bool.true_and] at hst
     rw [hstp,← hstp,← hns] at hst
     refine WIdx.mk _ rfl ⟨by omega,by omega⟩ ?_
     refine WLd.mk (v8 ((q1e M W.ops w j).getD e 0)) (by simpa using hR4.cell (by rw [hnl];exact he2)) ?_
     conv=>whnf
     refine ⟨?_,trivial⟩
     conv=>whnf
     refine q1r.pure (v6b hm4 h4.hp hM o) ?_
     refine WIdx.mk _ rfl ⟨by omega,by omega⟩ ?_
     conv=>whnf
     refine ⟨?_,trivial⟩
     conv=>whnf
     have er:Int.toNat ((e:Nat):Int) * 1=e:=by simp
     rw [er,max8]
     obtain ⟨rest,hnb4⟩:=hR4
     refine WSt.at _ _ hnb4 (show e+1≤_ by simp [hnl];omega) ?_
     rw [show q0k (Value.int IntKind.i8 ((max ((q1e M W.ops w j).getD e 0) (dlS M o):Nat):Int))=[v8 (max ((q1e M W.ops w j).getD e 0) (dlS M o))] from rfl,z4s (by rw [hnl];exact he2),← hstp,← hns]
     have LE:Mem.le m (m'.set nb (Cells ((q1e M W.ops w (j+1)).map v8++rest) 117)):=q2n l4' hnbn
     have RR:R8 (m'.set nb (Cells ((q1e M W.ops w (j+1)).map v8++rest) 117)) nb (q1e M W.ops w (j+1)):=⟨rest,Mem.set_same _ _ _⟩
     generalize m'.set nb (Cells ((q1e M W.ops w (j+1)).map v8++rest) 117)=m6 at LE RR ⊢
     conv=>whnf
     refine q0a.pure (q8y _ o) ?_
     refine Br.mk (fun hl=>?_) (fun hl=>?_)
     ·rw [hl,Bool.true_or] at hst
      refine WRet.same ⟨?_,LE⟩
      rw [hst];rfl
     ·rw [hl,Bool.false_or] at hst
      refine WRng.mk (by apply wrap_i64<;>omega) ?_
      conv=>whnf
      exact ⟨j+1,⟨rfl,trivial⟩,⟨hj2,LE,RR,hst⟩,Nat.sub_lt_sub_left hj2 (Nat.lt_succ_self j)⟩
   ·have hu:uD o.kd=false:=by simpa using hu
    rw [if_neg (by rw [hu];decide)]
    have hwr:=v3r o hu
    rw [hwr] at hst
    simp only [Bool.true_and] at hst
    have hstp:q3e M (q1e M W.ops w j) o=q1e M W.ops w j:=by unfold q3e;rw [hwr]
    rw [← hns] at hst
    have RR:R8 m' nb (q1e M W.ops w (j+1)):=by rw [hns,hstp];exact hR4
    have LE:=l4'
    refine Br.mk (fun hb3=>absurd (of_decide_eq_true hb3) (by decide)) (fun hb3=>?_)
    conv=>whnf
    refine q0a.pure (q8y _ o) ?_
    refine Br.mk (fun hl=>?_) (fun hl=>?_)
    ·rw [hl,Bool.true_or] at hst
     refine WRet.same ⟨?_,LE⟩
     rw [hst];rfl
    ·rw [hl,Bool.false_or] at hst
     refine WRng.mk (by apply wrap_i64<;>omega) ?_
     conv=>whnf
     exact ⟨j+1,⟨rfl,trivial⟩,⟨hj2,LE,RR,hst⟩,Nat.sub_lt_sub_left hj2 (Nat.lt_succ_self j)⟩
 ·have hj2:j=W.ops.length:=by
   have:¬ (j:Int)<W.ops.length:=of_decide_eq_false hb
   omega
  rw [hj2,List.drop_length] at hst
  refine WRet.same ⟨?_,l3⟩
  rw [hst];rfl
theorem w0j {C:q0c} {M:Mac} (h:q2b C M=0):q3h C∧M.ok=true:=by
 unfold q2b at h
 split at h
 ·rename_i h1;exact absurd h h1
 ·rename_i h1
  split at h
  ·cases h
  ·rename_i h2
   exact ⟨z4m (by simpa using h1),by simpa using h2⟩
theorem w2u {m:Mem} {T:Nat} {fr:Nat×Nat} (hm:m 0=some (.cells ⟨q2f⟩ T fr)) (V:CV) {C:q0c} (M:Mac) (hV:q1q m V C) :
  q0f Tryz.prog 22 [V.val C,M.val] m fun e m'=>∃ b A,e=.returned (.tuple ⟨[.bool b,i (q2b C M)]⟩)∧Mem.le m m'∧(q2b C M≠0→b=false)∧(q2b C M=0→z0h C M A∧(b=true↔z9p C M A)):=by
 refine q0e q0d Tryz.func22 j9f rfl ?_
 conv=>whnf
 refine q0a.mk (z4a hm V hV M) ?_
 rintro _ m1 ⟨rfl,l1⟩
 refine Br.mk (fun hb=>?_) (fun hb=>?_)
 ·have hne:q2b C M≠0:=by simpa using hb
  exact WRet.same ⟨false,[],rfl,l1,fun _=>rfl,fun h=>absurd h hne⟩
 have he:q2b C M=0:=by simpa using hb
 obtain ⟨hC,hM⟩:=w0j he
 have hwl:=hC.wl
 have hn2:=hV.n2
 have hV1:=hV.mono l1
 conv=>whnf
 refine q0a.mk (v1j (l1 _ _ hm) V M hV1 hC hM) ?_
 rintro _ m2 ⟨S,rfl,hS,l2,hf,hLe,_⟩
 have hAl:=hLe.is.len
 conv=>whnf
 refine q0v.mk Nat (fun k=>[(21,.val (i k))]) (fun k m'=>k≤C.ws.length∧Mem.le m2 m'∧∀ (q:Nat) (w:List Nat),q<k→S.A[q]? = some (some w)→q5m M w (q1b C q).ops w=true) (fun k=>C.ws.length - k) 0 ⟨rfl,trivial⟩ ⟨Nat.zero_le _,Mem.le.refl _,fun q w hq=>by omega⟩ ?_
 rintro k m3 ⟨hk,l3,hq⟩
 have hS3:=hS.mono l3
 have hV3:=hV1.mono (l2.trans l3)
 have hm3:=l3 _ _ (l2 _ _ (l1 _ _ hm))
 conv=>whnf
 rw [hn2]
 refine Br.mk (fun hb2=>?_) (fun hb2=>?_)
 ·have hk2:k<C.ws.length:=by
   have:(k:Int)<C.ws.length:=of_decide_eq_true hb2
   omega
  obtain ⟨x,hx⟩:∃ x,S.A[k]? = some x:=⟨_,List.getElem?_eq_getElem (by rw [hAl];exact hk2)⟩
  have hrow:=hS3.atRow hx
  refine WLd.mk _ hS3.at17 ?_
  refine WIdx.mk _ rfl ⟨by omega,by omega⟩ ?_
  cases x with
  | none =>
   refine WLd.mk ns (by simpa [Wt.rowV] using hrow) ?_
   refine WSc.mk (v:=false) (fun h=>by cases h) ?_
   refine Br.mk (fun h=>by cases h) (fun _=>?_)
   refine WRng.mk (by apply wrap_i64<;>omega) ?_
   conv=>whnf
   refine ⟨k+1,⟨rfl,trivial⟩,⟨hk2,l3,fun q w hqk hw=>?_⟩,Nat.sub_lt_sub_left hk2 (Nat.lt_succ_self k)⟩
   by_cases e:q=k
   ·subst e;rw [hx] at hw;cases hw
   ·exact hq q w (by omega) hw
  | some w =>
   have hwl2:=hLe.is.wl k w hx
   have hw:=k0y hm3 hS3 hV3 hC hM hx hAl hwl2
   have stay:∀ m',Mem.le m2 m'→q5m M w (q1b C k).ops w=true→∀ (q:Nat) (w:List Nat),q<k+1→S.A[q]? = some (some w)→q5m M w (q1b C q).ops w=true:=fun m' _ hst q w' hqk hw'=>by
    by_cases e:q=k
    ·subst e;rw [hx] at hw';cases hw';exact hst
    ·exact hq q w' (by omega) hw'
   have hnot:q5m M w (q1b C k).ops w=false→(false=true↔z9p C M S.A):=fun hst=>⟨fun h=>by (cases h),fun h=>by rw [h k w hx] at hst;cases hst⟩
   generalize q5m M w (q1b C k).ops w=st at *
   refine WLd.mk (.slice (some ⟨S.rb k,0,none⟩) w.length (S.rc k)) (by simpa [Wt.rowV] using hrow) ?_
   refine WSc.mk (v:=!st) (fun _=>?_) ?_
   ·conv=>whnf
    refine q0a.mk hw ?_
    rintro _ m4 ⟨rfl,l4⟩
    conv=>whnf
    exact And.intro l4 rfl
   refine Br.mk (fun hb3=>?_) (fun hb3=>?_)
   ·have hst:st=false:=by simpa [scB] using hb3
    subst hst
    exact WRet.same ⟨false,S.A,by rw [he];rfl,l1.trans (l2.trans l3),fun h=>absurd he h,fun _=>⟨hLe,hnot rfl⟩⟩
   ·have hst:st=true:=by simpa [scB] using hb3
    subst hst
    refine WRng.mk (by apply wrap_i64<;>omega) ?_
    conv=>whnf
    exact ⟨k+1,⟨rfl,trivial⟩,⟨hk2,l3,stay _ l3 rfl⟩,Nat.sub_lt_sub_left hk2 (Nat.lt_succ_self k)⟩
 ·have hk2:k=C.ws.length:=by
   have:¬ (k:Int)<C.ws.length:=of_decide_eq_false hb2
   omega
  refine WRet.same ⟨true,S.A,by rw [he];rfl,l1.trans (l2.trans l3),fun h=>absurd he h,fun _=>⟨hLe,fun _ q w hw=>?_,fun _=>rfl⟩⟩
  exact hq q w (by rw [hk2,← hAl];exact (List.getElem?_eq_some_iff.1 hw).1) hw
end Go.Proofs.YtleofbpepfmfgaaGreatDoor
