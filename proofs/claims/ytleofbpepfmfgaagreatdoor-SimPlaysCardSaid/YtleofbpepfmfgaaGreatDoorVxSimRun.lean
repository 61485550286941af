import Derived.Test.YtleofbpepfmfgaaGreatDoorVxSimBeg
set_option maxRecDepth 100000
namespace Go.Proofs.YtleofbpepfmfgaaGreatDoor
open Go Go.Vx
open Go.Vx.IOp Go.Vx.IR Go.Vx.Opd
section
variable {m0 m m':Mem} {V:CV} {C:q0c} {M:Mac} {sv:Value} {p:Nat} {H:HdF} {s s':St} {sh:List Int}
def z5m:IR:=(match q9q.body with | .seq _ (.seq _ (.seq _ (.seq _ r)))=>r | r=>r)
def begA:IR:=(match q9q.body with | .seq a _=>a | r=>r)
def begB:IR:=(match q9q.body with | .seq _ (.seq b _)=>b | r=>r)
def begC:IR:=(match q9q.body with | .seq _ (.seq _ (.seq b _))=>b | r=>r)
def begD:IR:=(match q9q.body with | .seq _ (.seq _ (.seq _ (.seq b _)))=>b | r=>r)
theorem j7g:q9q.body=.seq begA (.seq begB (.seq begC (.seq begD z5m))):=rfl
def q1v (C:q0c) (args:List Int):List VR:=(args.map fun n=>(⟨n,0⟩:VR))++List.replicate (C.rg.toNat - args.length) VR.zero
theorem v1g {C:q0c} {args:List Int} {k:Nat} (hk:k<args.length) (hl:args.length≤C.rg.toNat):(q1v C (args.take k)).set k ⟨args[k],0⟩=q1v C (args.take (k+1)):=by
 unfold q1v
 have e1:((args.take k).map fun n=>(⟨n,0⟩:VR)).length=k:=by simp;omega
 have e2:C.rg.toNat - (args.take k).length=C.rg.toNat - (k+1)+1:=by rw [List.length_take];omega
 rw [List.set_append_right _ _ (by rw [e1];exact Nat.le_refl _),e1,Nat.sub_self,e2,List.replicate_succ,List.set_cons_zero,List.take_succ_eq_append_getElem hk,List.map_append,List.append_assoc]
 congr 2
 rw [List.length_append,List.length_take]
 show _=List.replicate (C.rg.toNat - (min k args.length+1)) VR.zero
 rw [Nat.min_eq_left (by omega)]
theorem z8c {C:q0c} {args:List Int} (hl:args.length≤C.rg.toNat):(q1v C args).length=C.rg.toNat:=by unfold q1v;simp;omega
theorem q0l.setNum (h:q0l m0 m V C M sv p H s) {r:Nat} (hr:r<s.regs.length) {z:Int} {ad:Addr} {vs:List Value} {K:Mem→Prop} (ha:(H 1).a=some ad) (hv:vs=[i z])
  (k:∀ m',Goes m0 V C M sv p m H s m' H { s with regs:=s.regs.set r ⟨z,(s.regs.getD r VR.zero).b⟩ }→K m'):WSt m (ad.add (r * 2)) vs K:=by
 subst hv
 obtain ⟨b,rest,hb,hm,hl⟩:=h.fam.room (j:=1) (by unfold famN;omega) (show s.regs.length≠0 by omega)
 rw [hb.2] at ha;cases ha
 have hfl:(q0t H s 1).length=s.regs.length * 2:=q1y q2c _
 refine WSt.at _ _ hm (by rw [List.length_append,hfl];show r * 2+1≤_;omega) ?_
 have hb1:(q0t H s 1++rest)[r * 2+1]? = some (i (s.regs.getD r VR.zero).b):=by
  rw [List.getElem?_append_left (by rw [hfl];omega)]
  show (q0r VR.cells s.regs)[_]? = _
  rw [q8a q2c hr (by decide),List.getD_eq_getElem?_getD,List.getElem?_eq_getElem hr];rfl
 have e:q0j (q0t H s 1++rest) (r * 2) [i z]=q0t H { s with regs:=s.regs.set r ⟨z,(s.regs.getD r VR.zero).b⟩ } 1++rest:=by
  have e2:=q9e q2c hr ⟨z,(s.regs.getD r VR.zero).b⟩ rest
  refine Eq.trans ?_ e2
  show (q0t H s 1++rest).set (r * 2) (i z)=((q0t H s 1++rest).set (r * 2) (i z)).set (r * 2+1) (i (s.regs.getD r VR.zero).b)
  apply List.ext_getElem? 
  intro q
  rw [List.getElem?_set (i:=r * 2+1)]
  split
  ·rename_i e;subst e
   rw [List.getElem?_set_ne (by omega),hb1,if_pos (by rw [List.length_set,List.length_append,hfl];omega)]
  ·rfl
 rw [e]
 refine k _ (h.put (k:=1) (by unfold famN;omega) hb ?_ rfl (fun j hj e=>?_) ?_ ?_ hl rfl rfl)
 ·unfold q1p Go.Proofs.YtleofbpepfmfgaaGreatDoor.hv;show _=_
  have:numS { s with regs:=s.regs.set r ⟨z,(s.regs.getD r VR.zero).b⟩ } 1=numS s 1:=List.length_set
  rw [this];rfl
 ·match j,e with
  | 0,_=>exact ⟨rfl,rfl⟩
  | 2,_=>exact ⟨rfl,rfl⟩
  | 3,_=>exact ⟨rfl,rfl⟩
  | 4,_=>exact ⟨rfl,rfl⟩
  | j+5,_=>exact ⟨rfl,rfl⟩
 ·exact List.length_set
 ·show (q0r VR.cells (s.regs.set r _)).length=(q0r VR.cells s.regs).length
  rw [q1y q2c,q1y q2c,List.length_set]
theorem j3k {V0:CV} (h:q0l m0 m V C M sv p H (q1j C)) (hV:q1q m0 V0 C) (hC:q3h C) {aa:Option Addr} {ca:Nat} {args:List Int} (hargs:IAt m0 (.slice aa args.length ca) args) (hal:args.length≤C.rg.toNat)
  {R:Ending→Mem→Prop} (kR:∀ m' H',Goes m0 V C M sv p m H (q1j C) m' H' (q2t C args)→R (.returned (ptr p)) m'):wpI Tryz.prog z5m (q0i [.t 8] R) (envL [(2,.val (.slice aa args.length ca)),(4,.var (V0.cells C)),(9,.val (ptr p))]) m:=by
 have hrg:=hC.rg
 have hszl:=hC.szl
 obtain ⟨aa',ca',ea,q0,q1,q2⟩:=hargs
 injection ea with ea1 ea2 ea3
 subst ea1;subst ea3
 have hsz2:IAt m0 (.slice V0.a1 C.sz.length V0.c1) C.sz:=by have:=hV.sz;rw [hV.n1] at this;exact this
 obtain ⟨as',cs',es,z0,z1,z2⟩:=hsz2
 injection es with es1 es2 es3
 have e0:q1j C={ q1j C with regs:=q1v C (args.take 0) }:=by
  show q1j C={ q1j C with regs:=[]++List.replicate (C.rg.toNat - 0) VR.zero }
  rfl
 conv=>whnf
 refine q0v.mk Nat (fun k=>[(41,.val (i k))]) (fun k m'=>k≤args.length∧Goes m0 V C M sv p m H (q1j C) m' H { q1j C with regs:=q1v C (args.take k) }) (fun k=>args.length - k) 0 ⟨rfl,trivial⟩ ⟨Nat.zero_le _,by rw [← e0];exact Goes.refl h⟩ ?_
 rintro k m1 ⟨hk,G⟩
 have h1:=G.at'
 refine Br.mk (fun hb=>?_) (fun hb=>?_)
 ·have hk2:k<args.length:=by
   have:(k:Int)<(args.length:Nat):=of_decide_eq_true hb
   omega
  obtain ⟨ad,rfl⟩:∃ ad,aa=some ad:=by
   cases aa with
   | none=>rw [q0 rfl] at hk2;simp at hk2
   | some ad=>exact ⟨ad,rfl⟩
  have hln:(q1v C (args.take k)).length=C.rg.toNat:=z8c (by rw [List.length_take];omega)
  have hr:k<({ q1j C with regs:=q1v C (args.take k) }:St).regs.length:=by show k<(q1v C (args.take k)).length;rw [hln];omega
  have hb0:((q1v C (args.take k)).getD k VR.zero).b=0:=by
   unfold q1v
   rw [List.getD_eq_getElem?_getD,List.getElem?_append_right (by simp;omega),List.getElem?_replicate]
   split<;>rfl
  obtain ⟨ar,har,_⟩:=h1.regCells hr
  refine WIdx.mk ad rfl ⟨by omega,by omega⟩ ?_
  refine WLd.mk (i args[k]) (by simpa using (IAt.cell (q1 ad rfl) hk2).mono h1.le) ?_
  refine WLd.mk (hv H { q1j C with regs:=q1v C (args.take k) } 1) (by rw [q0o];exact h1.cell rfl) ?_
  refine WIdx.mk ar har ⟨by omega,by show (k:Int)<(numS { q1j C with regs:=q1v C (args.take k) } 1:Nat);exact Int.ofNat_lt.2 hr⟩ ?_
  conv=>whnf
  rw [q0o]
  refine h1.setNum hr har (z:=args[k]) rfl fun m2 G2=>?_
  have e2:({ ({ q1j C with regs:=q1v C (args.take k) }:St) with regs:=(q1v C (args.take k)).set k ⟨args[k],((q1v C (args.take k)).getD k VR.zero).b⟩ }:St)={ q1j C with regs:=q1v C (args.take (k+1)) }:=by
   rw [hb0,v1g hk2 hal]
  have G2:=G.trans G2
  refine WRng.mk (by apply wrap_i64<;>omega) ?_
  conv=>whnf
  refine ⟨k+1,⟨rfl,trivial⟩,⟨hk2,?_⟩,Nat.sub_lt_sub_left hk2 (Nat.lt_succ_self k)⟩
  rw [← e2];exact G2
 ·have hk2:k=args.length:=by
   have:¬ (k:Int)<(args.length:Nat):=of_decide_eq_false hb
   omega
  subst hk2
  rw [List.take_length] at G h1
  have hn1:=hV.n1
  have ez:({ q1j C with regs:=q1v C args }:St)={ q1j C with regs:=q1v C args,arr:=(C.sz.take 0).map fun n=>List.replicate n.toNat 0 }:=rfl
  conv=>whnf
  refine q0v.mk (Nat×HdF) (fun x=>[(59,.val (i x.1))]) (fun x m'=>x.1≤C.sz.length∧Goes m0 V C M sv p m H (q1j C) m' x.2 { q1j C with regs:=q1v C args,arr:=(C.sz.take x.1).map fun n=>List.replicate n.toNat 0 }) (fun x=>C.sz.length - x.1) (0,H) ⟨rfl,trivial⟩ ⟨Nat.zero_le _,by rw [← ez];exact G⟩ ?_
  rintro ⟨j,Hj⟩ m2 ⟨hj,G2⟩
  simp only at hj G2
  have h2:=G2.at'
  refine Br.mk (fun hb=>?_) (fun hb=>?_)
  ·have hj2:j<C.sz.length:=by
    have:(j:Int)<(V0.n1:Nat):=of_decide_eq_true hb
    omega
   have hzj:=hC.sz _ (List.getElem_mem hj2)
   obtain ⟨ad,had⟩:∃ ad,V0.a1=some ad:=by
    cases hh:V0.a1 with
    | none=>rw [z0 (es1.symm.trans hh)] at hj2;simp at hj2
    | some ad=>exact ⟨ad,rfl⟩
   have hal2:((C.sz.take j).map fun n:Int=>List.replicate n.toNat (0:Int)).length=j:=by simp;omega
   refine WIdx.mk ad had ⟨by omega,by omega⟩ ?_
   refine WLd.mk (i C.sz[j]) (by simpa using (IAt.cell (z1 ad (es1.symm.trans had)) hj2).mono h2.le) ?_
   refine WLd.mk (hv Hj { q1j C with regs:=q1v C args,arr:=(C.sz.take j).map fun n=>List.replicate n.toNat 0 } 3) (by rw [q0o];exact h2.cell rfl) ?_
   conv=>whnf
   refine ⟨?_,trivial⟩
   conv=>whnf
   refine q2z.mk ⟨by omega,Int.le_refl _,by omega⟩ fun bn hbn=>?_
   have l3:=Mem.le_set (o:=Cells (List.replicate (Int.toNat C.sz[j]) [i 0]).flatten T64) hbn
   have c3:(m2.set bn (Cells (List.replicate (Int.toNat C.sz[j]) [i 0]).flatten T64)) bn=some (Cells (List.replicate (Int.toNat C.sz[j]) [i 0]).flatten T64):=Mem.set_same _ _ _
   generalize m2.set bn (Cells (List.replicate (Int.toNat C.sz[j]) [i 0]).flatten T64)=m3 at l3 c3 ⊢
   conv=>whnf
   refine ⟨?_,trivial⟩
   refine WNew.ab fun bx m4 hbx l4 cx=>?_
   conv=>whnf
   refine ⟨?_,trivial⟩
   conv=>whnf
   refine h2.pushRow (n:=C.sz[j].toNat) hbn (l3.trans l4) (l4 _ _ c3) cx (by show List.length (List.map _ _)≤_;rw [hal2];omega) fun b' c' m5 hst=>?_
   conv=>whnf
   refine ⟨?_,trivial⟩
   conv=>whnf
   rw [q0o]
   refine hst _ fun m6 H6 G6=>?_
   have e2:(C.sz.take j).map (fun n:Int=>List.replicate n.toNat (0:Int))++[List.replicate C.sz[j].toNat 0]=(C.sz.take (j+1)).map fun n=>List.replicate n.toNat 0:=by
    rw [List.take_succ_eq_append_getElem hj2,List.map_append];rfl
   have G6:=G2.trans G6
   refine WRng.mk (by apply wrap_i64<;>omega) ?_
   conv=>whnf
   refine ⟨(j+1,H6),⟨rfl,trivial⟩,⟨hj2,?_⟩,Nat.sub_lt_sub_left hj2 (Nat.lt_succ_self j)⟩
   show Goes m0 V C M sv p m H (q1j C) m6 H6 { q1j C with regs:=q1v C args,arr:=(C.sz.take (j+1)).map fun n=>List.replicate n.toNat 0 }
   rw [← e2];exact G6
  ·have hj2:j=C.sz.length:=by
    have:¬ (j:Int)<(V0.n1:Nat):=of_decide_eq_false hb
    omega
   subst hj2
   rw [List.take_length] at G2
   exact WRet.same (kR _ _ G2)
attribute [irreducible] z5m
def v6u (m:Mem) (C:q0c) (M:Mac) (sh args:List Int) (e:Ending) (m':Mem):Prop:=∃ p m1 V sv H,e=.returned (ptr p)∧Mem.le m m1∧q1m m1 V C M sv sh∧q0l m1 m' V C M sv p H (q2t C args)
theorem w4k (V:CV) (C:q0c) (M:Mac) (sv:Value):q0j ([i 0,i 0,i 0,i 0,i 0,ns,ns,ns,ns]++V.cells C++M.cells++[sv,ns]) 3 (q0k (i 3))=[i 0,i 0,i 0,i 3,i 0,ns,ns,ns,ns]++V.cells C++M.cells++[sv,ns]:=rfl
theorem z9s (V:CV) (C:q0c) (M:Mac) (sv x:Value) (hx:q0k x=[x]):q0j ([i 0,i 0,i 0,i 3,i 0,ns,ns,ns,ns]++V.cells C++M.cells++[sv,ns]) 6 (q0k x)=[i 0,i 0,i 0,i 3,i 0,ns,x,ns,ns]++V.cells C++M.cells++[sv,ns]:=by rw [hx];rfl
theorem z8v (V:CV) (C:q0c) (M:Mac) (sv x y:Value) (hy:q0k y=[y]):q0j ([i 0,i 0,i 0,i 3,i 0,ns,x,ns,ns]++V.cells C++M.cells++[sv,ns]) 7 (q0k y)=[i 0,i 0,i 0,i 3,i 0,ns,x,y,ns]++V.cells C++M.cells++[sv,ns]:=by rw [hy];rfl
theorem w2x (V:CV) (C:q0c) (M:Mac) (sv:Value) (br bk:Nat):q1p V C M sv (q7q br C.rg.toNat bk C.sp.toNat) (q1j C)=[i 0,i 0,i 0,i 3,i 0,ns,.slice (some ⟨br,0,none⟩) C.rg.toNat C.rg.toNat,.slice (some ⟨bk,0,none⟩) C.sp.toNat C.sp.toNat,ns]++V.cells C++M.cells++[sv,ns]:=by
 have e1:numS (q1j C) 1=C.rg.toNat:=List.length_replicate
 have e2:numS (q1j C) 2=C.sp.toNat:=List.length_replicate
 unfold q1p hv
 rw [e1,e2]
 rfl
attribute [local irreducible] q0j in
set_option maxHeartbeats 2000000 in
theorem v5r (V:CV) (hV:q1q m V C) (hC:q3h C) (hM:M.ok=true) {T:Nat} {fr:Nat×Nat} (hm:m 0=some (.cells ⟨q2f⟩ T fr)) {aa sa:Option Addr} {ca cs:Nat} {args:List Int}
  (hargs:IAt m (.slice aa args.length ca) args) (hal:args.length≤C.rg.toNat) (hsh:IAt m (.slice sa sh.length cs) sh) (hshl:sh.length≤1000) :
  q0f Tryz.prog 47 [V.val C,M.val,.slice aa args.length ca,.slice sa sh.length cs] m (v6u m C M sh args):=by
 refine q0e q0d Tryz.func47 k3v rfl ?_
 have hrg:=hC.rg
 have hsp:=hC.sp
 unfold Fn.asks
 rw [j7g]
 conv=>whnf
 refine ⟨?_,trivial⟩
 conv=>whnf
 refine q0a.mk (v7t V hV hC) ?_
 rintro _ m1 ⟨V1,rfl,l1,hV1⟩
 conv=>whnf
 refine ⟨?_,trivial⟩
 conv=>whnf
 refine q0a.mk (v0d (hsh.mono l1) (by omega)) ?_
 rintro _ m2 ⟨A2,c2,rfl,hc2,l2,hO2⟩
 have hI2:=hO2.iat hc2
 have L2:=l1.trans l2
 conv=>whnf
 rw [k9m]
 conv=>whnf
 refine ⟨?_,trivial⟩
 refine WNew.ab fun p m3 hp l3 cp=>?_
 have cp:m3 p=some (Cells ([i 0,i 0,i 0,i 0,i 0,ns,ns,ns,ns]++V1.cells C++M.cells++[.slice A2 sh.length c2,ns]) TSim):=cp
 conv=>whnf
 rw [q0o]
 refine WSt.at _ _ cp (show 0+3+1≤28 by decide) ?_
 rw [w4k]
 have l4:Mem.le m2 (m3.set p (Cells ([i 0,i 0,i 0,i 3,i 0,ns,ns,ns,ns]++V1.cells C++M.cells++[.slice A2 sh.length c2,ns]) TSim)):=q2n l3 hp
 have c4:=Mem.set_same m3 p (Cells ([i 0,i 0,i 0,i 3,i 0,ns,ns,ns,ns]++V1.cells C++M.cells++[.slice A2 sh.length c2,ns]) TSim)
 generalize m3.set p (Cells ([i 0,i 0,i 0,i 3,i 0,ns,ns,ns,ns]++V1.cells C++M.cells++[.slice A2 sh.length c2,ns]) TSim)=m4 at l4 c4 ⊢
 have hB:q1m m2 V1 C M (.slice A2 sh.length c2) sh:=⟨hV1.mono l2,hC,hM,hI2,hshl,T,fr,L2 _ _ hm⟩
 have fin:∀ {m8:Mem} {br bk:Nat},Mem.le m2 m8→m2 br=none→m2 bk=none→br≠bk→m8 p=some (Cells ([i 0,i 0,i 0,i 3,i 0,ns,.slice (some ⟨br,0,none⟩) C.rg.toNat C.rg.toNat,.slice (some ⟨bk,0,none⟩) C.sp.toNat C.sp.toNat,ns]++V1.cells C++M.cells++[.slice A2 sh.length c2,ns]) TSim) →
   m8 br=some (Cells (List.replicate C.rg.toNat [i 0,i 0]).flatten TVal)→m8 bk=some (Cells (List.replicate C.sp.toNat [i 0,i 0]).flatten TVal) →
   wpI Tryz.prog z5m (q0i [.t 8] (v6u m C M sh args)) (envL [(2,.val (.slice aa args.length ca)),(4,.var (V.cells C)),(9,.val (ptr p))]) m8:=fun {m8 br bk} hle hbr hbk hne cp cr ck=>by
  have hat:=v8r (V:=V1) (C:=C) (M:=M) (sv:=.slice A2 sh.length c2) (p:=p) hle hp hbr hbk hne (by rw [w2x];exact cp) cr ck
  exact j3k hat (hV.mono L2) hC (hargs.mono L2) hal fun m' H' G=>⟨p,m2,V1,_,H',rfl,L2,hB,G.at'⟩
 conv=>whnf
 refine ⟨?_,?_,trivial⟩
 ·conv=>whnf
  refine q2z.mk ⟨by omega,Int.le_refl _,by omega⟩ fun br hbr=>?_
  have cr:(m4.set br (Cells (List.replicate (Int.toNat C.rg) [i 0,i 0]).flatten TVal)) br=some (Cells (List.replicate C.rg.toNat [i 0,i 0]).flatten TVal):=Mem.set_same _ _ _
  have lr:=Mem.le_set (o:=Cells (List.replicate (Int.toNat C.rg) [i 0,i 0]).flatten TVal) hbr
  generalize hmr:m4.set br (Cells (List.replicate (Int.toNat C.rg) [i 0,i 0]).flatten TVal)=mr at cr lr ⊢
  conv=>whnf
  refine ⟨?_,?_,trivial⟩
  ·conv=>whnf
   refine q2z.mk ⟨by omega,Int.le_refl _,by omega⟩ fun bk hbk=>?_
   have ck:(mr.set bk (Cells (List.replicate (Int.toNat C.sp) [i 0,i 0]).flatten TVal)) bk=some (Cells (List.replicate C.sp.toNat [i 0,i 0]).flatten TVal):=Mem.set_same _ _ _
   have lk:=Mem.le_set (o:=Cells (List.replicate (Int.toNat C.sp) [i 0,i 0]).flatten TVal) hbk
   generalize hmk:mr.set bk (Cells (List.replicate (Int.toNat C.sp) [i 0,i 0]).flatten TVal)=mk at ck lk ⊢
   conv=>whnf
   refine ⟨?_,trivial⟩
   conv=>whnf
   rw [q0o]
   refine WSt.at _ _ (lk _ _ (lr _ _ c4)) (show 0+6+1≤28 by decide) ?_
   rw [z9s _ _ _ _ _ rfl]
   conv=>whnf
   refine ⟨?_,trivial⟩
   conv=>whnf
   rw [q0o]
   refine WSt.at _ _ (Mem.set_same _ _ _) (show 0+7+1≤28 by decide) ?_
   rw [z8v _ _ _ _ _ _ rfl]
   rw [Mem.set2]
   have hne:br≠bk:=q3y cr hbk
   have pr:p≠br:=q3y c4 (hbr)
   have pk:p≠bk:=q3y c4 (q1z lr hbk)
   conv=>whnf
   exact q0x (fin (q2n (l4.trans (lr.trans lk)) hp) (q1z l4 hbr) (q1z (l4.trans lr) hbk) hne (Mem.set_same _ _ _) (by rw [Mem.set_other _ _ (Ne.symm pr)];exact lk _ _ cr) (by rw [Mem.set_other _ _ (Ne.symm pk)];exact ck)) ⟨rfl,rfl,rfl,trivial⟩
  ·conv=>whnf
   rw [q0o]
   refine WSt.at _ _ (lr _ _ c4) (show 0+6+1≤28 by decide) ?_
   rw [z9s _ _ _ _ _ rfl]
   have c6:=Mem.set_same mr p (Cells ([i 0,i 0,i 0,i 3,i 0,ns,.slice (some ⟨br,0,none⟩) C.rg.toNat C.rg.toNat,ns,ns]++V1.cells C++M.cells++[.slice A2 sh.length c2,ns]) TSim)
   have l6:Mem.le m2 (mr.set p (Cells ([i 0,i 0,i 0,i 3,i 0,ns,.slice (some ⟨br,0,none⟩) C.rg.toNat C.rg.toNat,ns,ns]++V1.cells C++M.cells++[.slice A2 sh.length c2,ns]) TSim)):=q2n (l4.trans lr) hp
   have pr:p≠br:=q3y c4 hbr
   have cr6:(mr.set p (Cells ([i 0,i 0,i 0,i 3,i 0,ns,.slice (some ⟨br,0,none⟩) C.rg.toNat C.rg.toNat,ns,ns]++V1.cells C++M.cells++[.slice A2 sh.length c2,ns]) TSim)) br=some (Cells (List.replicate C.rg.toNat [i 0,i 0]).flatten TVal):=by rw [Mem.set_other _ _ (Ne.symm pr)];exact cr
   generalize mr.set p (Cells ([i 0,i 0,i 0,i 3,i 0,ns,.slice (some ⟨br,0,none⟩) C.rg.toNat C.rg.toNat,ns,ns]++V1.cells C++M.cells++[.slice A2 sh.length c2,ns]) TSim)=m6 at c6 l6 cr6 ⊢
   conv=>whnf
   refine ⟨?_,trivial⟩
   conv=>whnf
   refine q2z.mk ⟨by omega,Int.le_refl _,by omega⟩ fun bk hbk=>?_
   have ck:(m6.set bk (Cells (List.replicate (Int.toNat C.sp) [i 0,i 0]).flatten TVal)) bk=some (Cells (List.replicate C.sp.toNat [i 0,i 0]).flatten TVal):=Mem.set_same _ _ _
   have lk:=Mem.le_set (o:=Cells (List.replicate (Int.toNat C.sp) [i 0,i 0]).flatten TVal) hbk
   generalize hmk:m6.set bk (Cells (List.replicate (Int.toNat C.sp) [i 0,i 0]).flatten TVal)=mk at ck lk ⊢
   conv=>whnf
   refine ⟨?_,trivial⟩
   conv=>whnf
   rw [q0o]
   refine WSt.at _ _ (lk _ _ c6) (show 0+7+1≤28 by decide) ?_
   rw [z8v _ _ _ _ _ _ rfl]
   have hne:br≠bk:=q3y cr6 hbk
   have pk:p≠bk:=q3y c6 hbk
   conv=>whnf
   exact q0x (fin (q2n (l6.trans lk) hp) (q1z l4 hbr) (q1z l6 hbk) hne (Mem.set_same _ _ _) (by rw [Mem.set_other _ _ (Ne.symm pr)];exact lk _ _ cr6) (by rw [Mem.set_other _ _ (Ne.symm pk)];exact ck)) ⟨rfl,rfl,rfl,trivial⟩
 ·conv=>whnf
  refine q2z.mk ⟨by omega,Int.le_refl _,by omega⟩ fun bk hbk=>?_
  have ck:(m4.set bk (Cells (List.replicate (Int.toNat C.sp) [i 0,i 0]).flatten TVal)) bk=some (Cells (List.replicate C.sp.toNat [i 0,i 0]).flatten TVal):=Mem.set_same _ _ _
  have lk:=Mem.le_set (o:=Cells (List.replicate (Int.toNat C.sp) [i 0,i 0]).flatten TVal) hbk
  generalize hmk:m4.set bk (Cells (List.replicate (Int.toNat C.sp) [i 0,i 0]).flatten TVal)=mk at ck lk ⊢
  conv=>whnf
  refine ⟨?_,trivial⟩
  conv=>whnf
  refine q2z.mk ⟨by omega,Int.le_refl _,by omega⟩ fun br hbr=>?_
  have cr:(mk.set br (Cells (List.replicate (Int.toNat C.rg) [i 0,i 0]).flatten TVal)) br=some (Cells (List.replicate C.rg.toNat [i 0,i 0]).flatten TVal):=Mem.set_same _ _ _
  have lr:=Mem.le_set (o:=Cells (List.replicate (Int.toNat C.rg) [i 0,i 0]).flatten TVal) hbr
  generalize hmr:mk.set br (Cells (List.replicate (Int.toNat C.rg) [i 0,i 0]).flatten TVal)=mr at cr lr ⊢
  conv=>whnf
  refine ⟨?_,trivial⟩
  conv=>whnf
  rw [q0o]
  refine WSt.at _ _ (lr _ _ (lk _ _ c4)) (show 0+6+1≤28 by decide) ?_
  rw [z9s _ _ _ _ _ rfl]
  conv=>whnf
  refine ⟨?_,trivial⟩
  conv=>whnf
  rw [q0o]
  refine WSt.at _ _ (Mem.set_same _ _ _) (show 0+7+1≤28 by decide) ?_
  rw [z8v _ _ _ _ _ _ rfl]
  rw [Mem.set2]
  have hne:br≠bk:=(q3y ck hbr).symm
  have pr:p≠br:=q3y c4 (q1z lk hbr)
  have pk:p≠bk:=q3y c4 (hbk)
  conv=>whnf
  exact q0x (fin (q2n (l4.trans (lk.trans lr)) hp) (q1z (l4.trans lk) hbr) (q1z l4 hbk) hne (Mem.set_same _ _ _) (by rw [Mem.set_other _ _ (Ne.symm pr)];exact cr) (by rw [Mem.set_other _ _ (Ne.symm pk)];exact lr _ _ ck)) ⟨rfl,rfl,rfl,trivial⟩
end
theorem j6o {m:Mem} {v:Value} {C:List Int} (hv:IAt m v C) (hlen:C.length≤4398046511104) :
  q0f Tryz.prog 68 [v] m fun e m'=>∃ A c,e=.returned (.slice A C.length c)∧Mem.le m m'∧IAt m' (.slice A C.length c) C:=by
 obtain ⟨a,c,rfl,q0,q1,hcap⟩:=hv
 refine q0e q0d Tryz.func68 v7c rfl ?_
 conv=>whnf
 cases a with
 | none =>
  have h0:=q0 rfl
  subst h0
  refine Br.mk (fun hb=>?_) (fun hb=>by cases hb)
  exact WRet.same ⟨none,0,rfl,Mem.le.refl _,⟨none,0,rfl,(fun _=>rfl),(fun ad h=>by cases h),Nat.le_refl _⟩⟩
 | some ad =>
  refine Br.mk (fun hb=>by cases hb) (fun hb=>?_)
  refine WNew.mk fun b1 hb1=>?_
  refine WApp.copyB hb1 (A:=some ad) (n:=C.length) rfl rfl (C.map i) ⟨by simp,fun ad' ha=>q1 ad' ha⟩ (fun ha=>by cases ha) (by omega) fun b cb m1 rest hle1 hcb hbm hcells=>?_
  refine WRet.same ⟨_,cb,rfl,hle1,⟨_,cb,rfl,(fun h=>by cases h),fun ad' ha=>?_,hcb⟩⟩
  cases ha
  exact q0g.blk hcells fun q v hq=>by rw [Nat.zero_add,List.getElem?_append_left (List.getElem?_eq_some_iff.1 hq).1];exact hq
def q4n (m:Mem) (v:Value) (P:List Int) (kd n:Int):Prop:=∃ A c,v=.agg ⟨[.slice A P.length c,i kd,i n]⟩∧IAt m (.slice A P.length c) P
section
variable {m0 m m':Mem} {V:CV} {C:q0c} {M:Mac} {sv:Value} {p:Nat} {H:HdF} {s s':St} {sh:List Int}
theorem q0l.printsAt (h:q0l m0 m V C M sv p H s):IAt m (hv H s 0) s.prints:=by
 refine ⟨(H 0).a,(H 0).c,rfl,h.nil0,fun ad ha=>?_,h.fam.cap 0 (by unfold famN;omega)⟩
 exact h.fam.cellsAt (j:=0) (by unfold famN;omega) ha
theorem v3v (h:q0l m0 m V C M sv p H s) (hl:s.prints.length≤1000000000) :
  q0f Tryz.prog 49 [ptr p] m fun e m'=>∃ v,e=.returned v∧Mem.le m m'∧q4n m' v s.prints s.kind s.value:=by
 refine q0e q0d Tryz.func49 v2a rfl ?_
 refine WLd.mk (hv H s 0) (by rw [q0o];exact h.cell rfl) ?_
 refine WLd.mk (i s.kind) (by rw [q0o];exact h.cell rfl) ?_
 refine WLd.mk (i s.value) (by rw [q0o];exact h.cell rfl) ?_
 conv=>whnf
 refine ⟨?_,trivial⟩
 conv=>whnf
 refine q1r.mk (j6o h.printsAt (by omega)) ?_
 rintro _ m1 ⟨A,c,rfl,l1,hI⟩
 refine ⟨l1,?_⟩
 conv=>whnf
 refine ⟨?_,trivial⟩
 exact WRet.same ⟨_,rfl,l1,A,c,rfl,hI⟩
end
def canS (C:q0c) (M:Mac) (al:Nat) (n:Int) (sl:Nat):Int :=
 if q2b C M≠0 then q2b C M else if ((al:Int) != C.pr||decide (n<0)||decide (n>4194304))=true then 2 else if (sl:Int)>1000 then 3 else 0
theorem k9b {m:Mem} {T:Nat} {fr:Nat×Nat} (hm:m 0=some (.cells ⟨q2f⟩ T fr)) (V:CV) {C:q0c} (M:Mac) (hV:q1q m V C) {aa sa:Option Addr} {al ca sl cs:Nat} (n:Int) :
  q0f Tryz.prog 46 [V.val C,M.val,.slice aa al ca,i n,.slice sa sl cs] m fun e m'=>e=.returned (i (canS C M al n sl))∧Mem.le m m':=by
 refine q0e q0d Tryz.func46 k9z rfl ?_
 conv=>whnf
 refine q0a.mk (z4a hm V hV M) ?_
 rintro _ m1 ⟨rfl,l1⟩
 refine Br.mk (fun h0=>?_) (fun h0=>?_)
 ·have h0:q2b C M≠0:=by simpa using h0
  exact WRet.same ⟨by unfold canS;rw [if_pos h0];rfl,l1⟩
 ·have h0:¬ q2b C M≠0:=by simpa using h0
  refine WSc.mk (v:=decide (n<0)) (fun _=>And.intro (Mem.le.refl _) rfl) ?_
  refine WSc.mk (v:=decide (n>4194304)) (fun _=>And.intro (Mem.le.refl _) rfl) ?_
  refine Br.mk (fun h1=>?_) (fun h1=>?_)
  ·have h1:((al:Int) != C.pr||decide (n<0)||decide (n>4194304))=true:=h1
   exact WRet.same ⟨by unfold canS;rw [if_neg h0,if_pos h1];rfl,l1⟩
  ·have h1:¬ ((al:Int) != C.pr||decide (n<0)||decide (n>4194304))=true:=by
    have h1:((al:Int) != C.pr||decide (n<0)||decide (n>4194304))=false:=h1
    rw [h1];decide
   refine Br.mk (fun h2=>?_) (fun h2=>?_)
   ·have h2:(sl:Int)>1000:=of_decide_eq_true h2
    exact WRet.same ⟨by unfold canS;rw [if_neg h0,if_neg h1,if_pos h2];rfl,l1⟩
   ·have h2:¬ (sl:Int)>1000:=of_decide_eq_false h2
    exact WRet.same ⟨by unfold canS;rw [if_neg h0,if_neg h1,if_neg h2];rfl,l1⟩
theorem z4j {C:q0c} {M:Mac} (h:q2b C M=0):q3h C∧M.ok=true:=by
 unfold q2b at h
 split at h
 ·rename_i h1;exact absurd h h1
 ·rename_i h1
  split at h
  ·cases h
  ·rename_i h2
   exact ⟨z4m (by simpa using h1),by simpa using h2⟩
theorem v6m {C:q0c} {M:Mac} {al sl:Nat} {n:Int} (h:canS C M al n sl=0):q3h C∧M.ok=true∧(al:Int)=C.pr∧0≤n∧n≤4194304∧sl≤1000:=by
 unfold canS at h
 split at h
 ·rename_i h1;exact absurd h h1
 ·rename_i h1
  split at h
  ·cases h
  ·rename_i h2
   split at h
   ·cases h
   ·rename_i h3
    obtain ⟨a,b⟩:=z4j (Decidable.not_not.1 h1)
    simp only [Bool.or_eq_true,bne_iff_ne,ne_eq,decide_eq_true_eq,not_or,Decidable.not_not] at h2
    exact ⟨a,b,by omega,by omega,by omega,by omega⟩
theorem z5a {C:q0c} (hC:q3h C) {args:List Int} (hal:args.length≤C.rg.toNat):Good C (q2t C args) 0:=by
 have hwl:=hC.wl
 refine ⟨⟨?_,?_,?_,(fun w hw=>by cases hw),fun v hv=>?_,fun v hv=>?_⟩,by show 0<_;omega,⟨Nat.le_refl _,Nat.le_refl _,Nat.le_refl _,Nat.le_refl _⟩⟩
 ·show (q1v C args).length=_;exact z8c hal
 ·show (List.replicate _ _).length=_;exact List.length_replicate
 ·show (C.sz.map fun n=>List.replicate n.toNat 0).map List.length=_
  rw [List.map_map]
  apply List.map_congr_left
  intro n _
  simp
 ·rcases List.mem_append.1 hv with h | h
  ·obtain ⟨n,_,rfl⟩:=List.mem_map.1 h;exact .inl rfl
  ·rw [(List.mem_replicate.1 h).2];exact VR.zero_ok
 ·rw [(List.mem_replicate.1 hv).2];exact VR.zero_ok
def outZ:Value:=.agg ⟨[ns,i 0,i 0]⟩
def v4n (m:Mem) (C:q0c) (M:Mac) (sh args:List Int) (n:Int) (e:Ending) (m':Mem):Prop :=
 Mem.le m m'∧(canS C M args.length n sh.length≠0→e=.returned (.tuple ⟨[outZ,i 0,i (canS C M args.length n sh.length)]⟩)) ∧
  (canS C M args.length n sh.length=0→∃ v,e=.returned (.tuple ⟨[v,i ((runS C M sh n.toNat (q2t C args)).took:Int),i 0]⟩)∧q4n m' v (runS C M sh n.toNat (q2t C args)).prints (runS C M sh n.toNat (q2t C args)).kind (runS C M sh n.toNat (q2t C args)).value)
theorem v4a {m:Mem} {T:Nat} {fr:Nat×Nat} (hm:m 0=some (.cells ⟨q2f⟩ T fr)) (V:CV) {C:q0c} (M:Mac) (hV:q1q m V C) {aa sa:Option Addr} {ca cs:Nat} {args sh:List Int}
  (hargs:IAt m (.slice aa args.length ca) args) (hsh:IAt m (.slice sa sh.length cs) sh) (n:Int) (hn:n≤100000∨n>4194304) :
  q0f Tryz.prog 17 [V.val C,M.val,.slice aa args.length ca,i n,.slice sa sh.length cs] m (v4n m C M sh args n):=by
 refine q0e q0d Tryz.func17 k5i rfl ?_
 conv=>whnf
 refine q0a.mk (k9b hm V M hV (al:=args.length) (sl:=sh.length) n) ?_
 rintro _ m1 ⟨rfl,l1⟩
 refine Br.mk (fun h0=>?_) (fun h0=>?_)
 ·have h0:canS C M args.length n sh.length≠0:=by
   have h0:(canS C M args.length n sh.length != 0)=true:=h0
   simpa using h0
  exact WRet.same ⟨l1,fun _=>rfl,fun h=>absurd h h0⟩
 ·have h0:canS C M args.length n sh.length=0:=by
   have h0:(canS C M args.length n sh.length != 0)=false:=h0
   simpa using h0
  obtain ⟨hC,hM,hal,hn0,hn1,hsl⟩:=v6m h0
  have hpr:=hC.pr
  conv=>whnf
  refine q0a.mk (v5r V (hV.mono l1) hC hM (l1 _ _ hm) (hargs.mono l1) (by omega) (hsh.mono l1) hsl) ?_
  rintro _ m2 ⟨p,m1',V1,sv,H,rfl,l2,hB,hS⟩
  have L2:Mem.le m m2:=l1.trans (l2.trans hS.le)
  have hcast:((n.toNat:Nat):Int)=n:=by omega
  have hfor:=z9q hS hB (z5a hC (args:=args) (by omega)) n.toNat (by omega)
  rw [hcast] at hfor
  have hgood:=Good.run (M:=M) (sh:=sh) hC (n:=n.toNat) (z5a hC (args:=args) (by omega))
  conv=>whnf
  refine q0a.mk hfor ?_
  rintro _ m3 ⟨rfl,H3,G3⟩
  have L3:Mem.le m m3:=l1.trans (l2.trans G3.at'.le)
  have h3:=G3.at'
  have hlim:=hgood.lim
  have htk:∀ {m':Mem},Mem.le m3 m'→q0q m' (((⟨p,0,none⟩:Addr).add 0).add 1) (i ((runS C M sh n.toNat (q2t C args)).took:Int)):=fun hle=>by rw [q0o];exact (h3.mono hle).cell rfl
  have hout:=v3v h3 (by have:=hlim.prints;omega)
  have fin:∀ {m4:Mem} {v:Value},Mem.le m3 m4→q4n m4 v (runS C M sh n.toNat (q2t C args)).prints (runS C M sh n.toNat (q2t C args)).kind (runS C M sh n.toNat (q2t C args)).value →
    v4n m C M sh args n (.returned (.tuple ⟨[v,i ((runS C M sh n.toNat (q2t C args)).took:Int),i 0]⟩)) m4:=fun hle ho=>⟨L3.trans hle,fun h=>absurd h0 h,fun _=>⟨_,rfl,ho⟩⟩
  conv=>whnf
  refine ⟨?_,?_,trivial⟩
  ·conv=>whnf
   refine q1r.mk hout ?_
   rintro _ m4 ⟨_,rfl,l4,A,c,rfl,hI⟩
   refine ⟨l4,?_⟩
   conv=>whnf
   refine ⟨?_,?_,trivial⟩
   ·refine WLd.mk _ (htk l4) ?_
    conv=>whnf
    refine ⟨?_,trivial⟩
    exact WRet.same (fin l4 ⟨A,c,rfl,hI⟩)
   ·refine WLd.mk _ (htk l4) ?_
    exact WRet.same (fin l4 ⟨A,c,rfl,hI⟩)
  ·refine WLd.mk _ (htk (Mem.le.refl _)) ?_
   conv=>whnf
   refine ⟨?_,trivial⟩
   conv=>whnf
   refine q1r.mk hout ?_
   rintro _ m4 ⟨_,rfl,l4,A,c,rfl,hI⟩
   refine ⟨l4,?_⟩
   conv=>whnf
   refine ⟨?_,trivial⟩
   exact WRet.same (fin l4 ⟨A,c,rfl,hI⟩)
def q3r (C:q0c) (M:Mac) (al sl:Nat):Int:=if q2b C M≠0 then q2b C M else if (al:Int)≠C.pr then 2 else if (sl:Int)>1000 then 3 else 0
def j6e (m:Mem) (C:q0c) (M:Mac) (sh args:List Int) (e:Ending) (m':Mem):Prop :=
 Mem.le m m'∧(q3r C M args.length sh.length≠0→e=.returned (.tuple ⟨[np,i (q3r C M args.length sh.length)]⟩)) ∧
  (q3r C M args.length sh.length=0→∃ p m1 V sv H,e=.returned (.tuple ⟨[ptr p,i 0]⟩)∧Mem.le m m1∧q1m m1 V C M sv sh∧q0l m1 m' V C M sv p H (q2t C args))
theorem k2u {C:q0c} {M:Mac} {al sl:Nat} (h:q3r C M al sl=0):q3h C∧M.ok=true∧(al:Int)=C.pr∧sl≤1000:=by
 unfold q3r at h
 split at h
 ·rename_i h1;exact absurd h h1
 ·rename_i h1
  split at h
  ·cases h
  ·rename_i h2
   split at h
   ·cases h
   ·rename_i h3
    obtain ⟨a,b⟩:=z4j (Decidable.not_not.1 h1)
    exact ⟨a,b,by omega,by omega⟩
theorem z6t {m:Mem} {T:Nat} {fr:Nat×Nat} (hm:m 0=some (.cells ⟨q2f⟩ T fr)) (V:CV) {C:q0c} (M:Mac) (hV:q1q m V C) {aa sa:Option Addr} {ca cs:Nat} {args sh:List Int}
  (hargs:IAt m (.slice aa args.length ca) args) (hsh:IAt m (.slice sa sh.length cs) sh) :
  q0f Tryz.prog 29 [V.val C,M.val,.slice aa args.length ca,.slice sa sh.length cs] m (j6e m C M sh args):=by
 refine q0e q0d Tryz.func29 v8w rfl ?_
 conv=>whnf
 refine q0a.mk (z4a hm V hV M) ?_
 rintro _ m1 ⟨rfl,l1⟩
 refine Br.mk (fun h0=>?_) (fun h0=>?_)
 ·have h0:q2b C M≠0:=by simpa using h0
  have e:q3r C M args.length sh.length=q2b C M:=by unfold q3r;rw [if_pos h0]
  refine WRet.same ⟨l1,fun _=>?_,fun h=>absurd (e.symm.trans h) h0⟩
  rw [e];rfl
 ·have h0:¬ q2b C M≠0:=by simpa using h0
  refine Br.mk (fun h1=>?_) (fun h1=>?_)
  ·have h1:(args.length:Int)≠C.pr:=by
    have h1:((args.length:Int) != C.pr)=true:=h1
    simpa using h1
   have e:q3r C M args.length sh.length=2:=by unfold q3r;rw [if_neg h0,if_pos h1]
   refine WRet.same ⟨l1,fun _=>?_,fun h=>absurd (e.symm.trans h) (by decide)⟩
   rw [e];rfl
  ·have h1:¬ (args.length:Int)≠C.pr:=by
    have h1:((args.length:Int) != C.pr)=false:=h1
    simpa using h1
   refine Br.mk (fun h2=>?_) (fun h2=>?_)
   ·have h2:(sh.length:Int)>1000:=of_decide_eq_true h2
    have e:q3r C M args.length sh.length=3:=by unfold q3r;rw [if_neg h0,if_neg h1,if_pos h2]
    refine WRet.same ⟨l1,fun _=>?_,fun h=>absurd (e.symm.trans h) (by decide)⟩
    rw [e];rfl
   ·have h2:¬ (sh.length:Int)>1000:=of_decide_eq_false h2
    have e:q3r C M args.length sh.length=0:=by unfold q3r;rw [if_neg h0,if_neg h1,if_neg h2]
    obtain ⟨hC,hM,hal,hsl⟩:=k2u e
    have hpr:=hC.pr
    conv=>whnf
    refine q0a.mk (v5r V (hV.mono l1) hC hM (l1 _ _ hm) (hargs.mono l1) (by omega) (hsh.mono l1) hsl) ?_
    rintro _ m2 ⟨p,m1',V1,sv,H,rfl,l2,hB,hS⟩
    exact WRet.same ⟨l1.trans (l2.trans hS.le),fun h=>absurd e h,fun _=>⟨p,m1',V1,sv,H,rfl,l1.trans l2,hB,hS⟩⟩
section
variable {m0 m m':Mem} {V:CV} {C:q0c} {M:Mac} {sv:Value} {p:Nat} {H:HdF} {s s':St} {sh:List Int}
theorem v5s (h:q0l m0 m V C M sv p H s) (hB:q1m m0 V C M sv sh) {k:Nat} (hG:Good C s k) (n:Nat) (hn:k+401 * n≤900000000) (hn2:n≤100000) (ht:s.took≤4194304) :
  q0f Tryz.prog 30 [ptr p,i (n:Int)] m fun e m'=>∃ H' v,Goes m0 V C M sv p m H s m' H' (runS C M sh n s)∧e=.returned (.tuple ⟨[v,.bool (runS C M sh n s).ended,i 0]⟩) ∧
   q4n m' v (runS C M sh n s).prints (runS C M sh n s).kind (runS C M sh n s).value:=by
 refine q0e q0d Tryz.func30 z8w rfl ?_
 conv=>whnf
 refine q0a.pure (q6u h hB) ?_
 refine Br.mk (fun hh=>by cases hh) (fun _=>?_)
 refine WSc.mk (v:=decide ((n:Int)>4194304)) (fun _=>And.intro (Mem.le.refl _) rfl) ?_
 refine Br.mk (fun hh=>?_) (fun _=>?_)
 ·have hh:(decide ((n:Int)<0)||decide ((n:Int)>4194304))=true:=hh
  simp only [Bool.or_eq_true,decide_eq_true_eq] at hh
  omega
 refine WLd.mk (i (s.took:Int)) (by rw [q0o];exact h.cell rfl) ?_
 refine Br.mk (fun hh=>?_) (fun _=>?_)
 ·have hh:(s.took:Int)>4194304:=of_decide_eq_true hh
  omega
 conv=>whnf
 refine q0a.mk (z9q h hB hG n hn) ?_
 rintro _ m3 ⟨rfl,H3,G3⟩
 have h3:=G3.at'
 have hgood:=Good.run (M:=M) (sh:=sh) hB.ok (n:=n) hG
 have hlim:=hgood.lim
 have hwd:∀ {m':Mem},Mem.le m3 m'→q0q m' (((⟨p,0,none⟩:Addr).add 0).add 0) (i (q2q (runS C M sh n s))):=fun hle=>by rw [q0o];exact (h3.mono hle).cell rfl
 have hout:=v3v h3 (by have:=hlim.prints;omega)
 have hend:decide (q2q (runS C M sh n s)<0)=(runS C M sh n s).ended:=by
  unfold q2q
  cases (runS C M sh n s).ended with
  | true=>rfl
  | false=>rw [if_neg (by decide)];exact decide_eq_false (by omega)
 have fin:∀ {m4:Mem} {v:Value},Mem.le m3 m4→q4n m4 v (runS C M sh n s).prints (runS C M sh n s).kind (runS C M sh n s).value →
   ∃ H' v',Goes m0 V C M sv p m H s m4 H' (runS C M sh n s)∧Ending.returned (.tuple ⟨[v,.bool (decide (q2q (runS C M sh n s)<0)),i 0]⟩)=.returned (.tuple ⟨[v',.bool (runS C M sh n s).ended,i 0]⟩) ∧
   q4n m4 v' (runS C M sh n s).prints (runS C M sh n s).kind (runS C M sh n s).value:=fun {m4 v} hle ho=>⟨H3,v,G3.trans (h3.goesMono hle),by rw [hend],ho⟩
 conv=>whnf
 refine ⟨?_,?_,trivial⟩
 ·conv=>whnf
  refine q1r.mk hout ?_
  rintro _ m4 ⟨_,rfl,l4,A,c,rfl,hI⟩
  refine ⟨l4,?_⟩
  conv=>whnf
  refine ⟨?_,?_,trivial⟩
  ·refine WLd.mk _ (hwd l4) ?_
   conv=>whnf
   refine ⟨?_,trivial⟩
   exact WRet.same (fin l4 ⟨A,c,rfl,hI⟩)
  ·refine WLd.mk _ (hwd l4) ?_
   exact WRet.same (fin l4 ⟨A,c,rfl,hI⟩)
 ·refine WLd.mk _ (hwd (Mem.le.refl _)) ?_
  conv=>whnf
  refine ⟨?_,trivial⟩
  conv=>whnf
  refine q1r.mk hout ?_
  rintro _ m4 ⟨_,rfl,l4,A,c,rfl,hI⟩
  refine ⟨l4,?_⟩
  conv=>whnf
  refine ⟨?_,trivial⟩
  exact WRet.same (fin l4 ⟨A,c,rfl,hI⟩)
theorem z9t (h:q0l m0 m V C M sv p H s) (hB:q1m m0 V C M sv sh) {k:Nat} (hG:Good C s k) (hk:k≤900000000) :
  q0f Tryz.prog 32 [ptr p] m fun e m'=>e=.returned (i 0)∧∃ H',Goes m0 V C M sv p m H s m' H' (q4y s):=by
 refine q0e q0d Tryz.func32 w2v rfl ?_
 conv=>whnf
 refine q0a.pure (q6u h hB) ?_
 refine Br.mk (fun hh=>by cases hh) (fun _=>?_)
 conv=>whnf
 refine q0a.mk (v1i h (fun w hw=>by rw [hG.ok.regs];exact (hG.ok.way w hw).1) (by have:=hG.lim.way;omega)) ?_
 rintro _ m2 ⟨rfl,G⟩
 exact WRet.same ⟨rfl,_,G⟩
theorem v4o (h:q0l m0 m V C M sv p H s) (hB:q1m m0 V C M sv sh):q0m Tryz.prog 42 [ptr p] m (i (s.way.length:Int)):=by
 refine q0e q0d Tryz.func42 w3v rfl ?_
 conv=>whnf
 refine q0a.pure (q6u h hB) ?_
 refine Br.mk (fun hh=>by cases hh) (fun _=>?_)
 refine WLd.mk (hv H s 4) (h.cell rfl) ?_
 exact WRet.same ⟨rfl,rfl⟩
theorem k9i (h:q0l m0 m V C M sv p H s) (hB:q1m m0 V C M sv sh):q0m Tryz.prog 31 [ptr p] m (i (s.took:Int)):=by
 refine q0e q0d Tryz.func31 k0p rfl ?_
 conv=>whnf
 refine q0a.pure (q6u h hB) ?_
 refine Br.mk (fun hh=>by cases hh) (fun _=>?_)
 refine WLd.mk (i (s.took:Int)) (by rw [q0o];exact h.cell rfl) ?_
 exact WRet.same ⟨rfl,rfl⟩
theorem v2o (h:q0l m0 m V C M sv p H s) (hB:q1m m0 V C M sv sh) (r:Int) :
  q0m Tryz.prog 39 [ptr p,i r] m (if 0≤r∧r<s.regs.length then .tuple ⟨[(s.reg r).val,i 0]⟩ else .tuple ⟨[VR.zero.val,i 2]⟩):=by
 refine q0e q0d Tryz.func39 v8q rfl ?_
 conv=>whnf
 refine q0a.pure (q6u h hB) ?_
 refine Br.mk (fun hh=>by cases hh) (fun _=>?_)
 refine WSc.mk (v:=decide (r≥(s.regs.length:Int))) (fun _=>?_) ?_
 ·refine WLd.mk (hv H s 1) (by rw [q0o];exact h.cell rfl) ?_
  conv=>whnf
  exact And.intro (Mem.le.refl _) rfl
 refine Br.mk (fun hh=>?_) (fun hh=>?_)
 ·have hh:(decide (r<0)||decide (r≥(s.regs.length:Int)))=true:=hh
  simp only [Bool.or_eq_true,decide_eq_true_eq] at hh
  rw [if_neg (by omega)]
  exact WRet.same ⟨rfl,rfl⟩
 ·have hh:(decide (r<0)||decide (r≥(s.regs.length:Int)))=false:=hh
  simp only [Bool.or_eq_false_iff,decide_eq_false_iff_not] at hh
  rw [if_pos (by omega)]
  have hr:r.toNat<s.regs.length:=by omega
  obtain ⟨ar,har,hc⟩:=h.regCells hr
  refine WLd.mk (hv H s 1) (by rw [q0o];exact h.cell rfl) ?_
  refine WIdx.mk ar har ⟨by omega,by show r<(s.regs.length:Nat);omega⟩ ?_
  refine WLds.mk _ hc rfl ?_
  exact WRet.same ⟨rfl,rfl⟩
end
end Go.Proofs.YtleofbpepfmfgaaGreatDoor
