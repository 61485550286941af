import Derived.Test.YtleofbpepfmfgaaGreatDoorVxSimBeg
set_option linter.unusedSimpArgs false
set_option linter.unusedVariables false
set_option maxRecDepth 100000
namespace Go.Proofs.YtleofbpepfmfgaaGreatDoor
open Go Go.Vx
open Go.Vx.IOp Go.Vx.IR Go.Vx.Opd
section
variable {m0 m m':Mem} {V:CV} {C:CodeR} {M:Mac} {sv:Value} {p:Nat} {H:HdF} {s s':St} {sh:List Int}
def begTail:IR:=(match ir_sim_begin.body with | .seq _ (.seq _ (.seq _ (.seq _ r)))=>r | r=>r)
def begA:IR:=(match ir_sim_begin.body with | .seq a _=>a | r=>r)
def begB:IR:=(match ir_sim_begin.body with | .seq _ (.seq b _)=>b | r=>r)
def begC:IR:=(match ir_sim_begin.body with | .seq _ (.seq _ (.seq b _))=>b | r=>r)
def begD:IR:=(match ir_sim_begin.body with | .seq _ (.seq _ (.seq _ (.seq b _)))=>b | r=>r)
theorem beg_body:ir_sim_begin.body = .seq begA (.seq begB (.seq begC (.seq begD begTail))):=rfl
def argsS (C:CodeR) (args:List Int):List VR:=(args.map fun n=>(⟨n,0⟩:VR)) ++ List.replicate (C.rg.toNat - args.length) VR.zero
theorem args_set {C:CodeR} {args:List Int} {k:Nat} (hk:k < args.length) (hl:args.length ≤ C.rg.toNat):(argsS C (args.take k)).set k ⟨args[k],0⟩ = argsS C (args.take (k + 1)):=by
 unfold argsS
 have e1:((args.take k).map fun n=>(⟨n,0⟩:VR)).length = k:=by simp;omega
 have e2:C.rg.toNat - (args.take k).length = C.rg.toNat - (k + 1) + 1:=by rw [List.length_take];omega
 rw [List.set_append_right _ _ (by rw [e1];exact Nat.le_refl _),e1,Nat.sub_self,e2,List.replicate_succ,List.set_cons_zero,List.take_succ_eq_append_getElem hk,List.map_append,List.append_assoc]
 congr 2
 rw [List.length_append,List.length_take]
 show _ = List.replicate (C.rg.toNat - (min k args.length + 1)) VR.zero
 rw [Nat.min_eq_left (by omega)]
theorem args_len {C:CodeR} {args:List Int} (hl:args.length ≤ C.rg.toNat):(argsS C args).length = C.rg.toNat:=by unfold argsS;simp;omega
theorem SimAt.setNum (h:SimAt m0 m V C M sv p H s) {r:Nat} (hr:r < s.regs.length) {z:Int} {ad:Addr} {vs:List Value} {K:Mem → Prop} (ha:(H 1).a = some ad) (hv:vs = [i z])
  (k:∀ m',Goes m0 V C M sv p m H s m' H { s with regs:=s.regs.set r ⟨z,(s.regs.getD r VR.zero).b⟩ } → K m'):WSt m (ad.add (r * 2)) vs K:=by
 subst hv
 obtain ⟨b,rest,hb,hm,hl⟩:=h.fam.room (j:=1) (by unfold famN;omega) (show s.regs.length ≠ 0 by omega)
 rw [hb.2] at ha;cases ha
 have hfl:(contS H s 1).length = s.regs.length * 2:=flat_len vr_len _
 refine WSt.at _ _ hm (by rw [List.length_append,hfl];show r * 2 + 1 ≤ _;omega) ?_
 have hb1:(contS H s 1 ++ rest)[r * 2 + 1]? = some (i (s.regs.getD r VR.zero).b):=by
  rw [List.getElem?_append_left (by rw [hfl];omega)]
  show (flatL VR.cells s.regs)[_]? = _
  rw [flat_get vr_len hr (by decide),List.getD_eq_getElem?_getD,List.getElem?_eq_getElem hr];rfl
 have e:spliceL (contS H s 1 ++ rest) (r * 2) [i z] = contS H { s with regs:=s.regs.set r ⟨z,(s.regs.getD r VR.zero).b⟩ } 1 ++ rest:=by
  have e2:=flat_set vr_len hr ⟨z,(s.regs.getD r VR.zero).b⟩ rest
  refine Eq.trans ?_ e2
  show (contS H s 1 ++ rest).set (r * 2) (i z) = ((contS H s 1 ++ rest).set (r * 2) (i z)).set (r * 2 + 1) (i (s.regs.getD r VR.zero).b)
  apply List.ext_getElem? 
  intro q
  rw [List.getElem?_set (i:=r * 2 + 1)]
  split
  ·rename_i e;subst e
   rw [List.getElem?_set_ne (by omega),hb1,if_pos (by rw [List.length_set,List.length_append,hfl];omega)]
  ·rfl
 rw [e]
 refine k _ (h.put (k:=1) (by unfold famN;omega) hb ?_ rfl (fun j hj e=>?_) ?_ ?_ hl rfl rfl)
 ·unfold simCells Go.Proofs.YtleofbpepfmfgaaGreatDoor.hv;show _ = _
  have:numS { s with regs:=s.regs.set r ⟨z,(s.regs.getD r VR.zero).b⟩ } 1 = numS s 1:=List.length_set
  rw [this];rfl
 ·match j,e with
  | 0,_=>exact ⟨rfl,rfl⟩
  | 2,_=>exact ⟨rfl,rfl⟩
  | 3,_=>exact ⟨rfl,rfl⟩
  | 4,_=>exact ⟨rfl,rfl⟩
  | j + 5,_=>exact ⟨rfl,rfl⟩
 ·exact List.length_set
 ·show (flatL VR.cells (s.regs.set r _)).length = (flatL VR.cells s.regs).length
  rw [flat_len vr_len,flat_len vr_len,List.length_set]
theorem begTail_ok {V0:CV} (h:SimAt m0 m V C M sv p H (bareS C)) (hV:CodeAt m0 V0 C) (hC:CodeOK C) {aa:Option Addr} {ca:Nat} {args:List Int} (hargs:IAt m0 (.slice aa args.length ca) args) (hal:args.length ≤ C.rg.toNat)
  {R:Ending → Mem → Prop} (kR:∀ m' H',Goes m0 V C M sv p m H (bareS C) m' H' (beginS C args) → R (.returned (ptr p)) m'):wpI Tryz.prog begTail (retPost [.t 8] R) (envL [(2,.val (.slice aa args.length ca)),(4,.var (V0.cells C)),(9,.val (ptr p))]) m:=by
 have hrg:=hC.rg
 have hszl:=hC.szl
 obtain ⟨aa',ca',ea,q0,q1,q2⟩:=hargs
 injection ea with ea1 ea2 ea3
 subst ea1;subst ea3
 have hsz2:IAt m0 (.slice V0.a1 C.sz.length V0.c1) C.sz:=by have:=hV.sz;rw [hV.n1] at this;exact this
 obtain ⟨as',cs',es,z0,z1,z2⟩:=hsz2
 injection es with es1 es2 es3
 have e0:bareS C = { bareS C with regs:=argsS C (args.take 0) }:=by
  show bareS C = { bareS C with regs:=[] ++ List.replicate (C.rg.toNat - 0) VR.zero }
  rfl
 conv=>whnf
 refine WLoop.mk Nat (fun k=>[(41,.val (i k))]) (fun k m'=>k ≤ args.length ∧ Goes m0 V C M sv p m H (bareS C) m' H { bareS C with regs:=argsS C (args.take k) }) (fun k=>args.length - k) 0 ⟨rfl,trivial⟩ ⟨Nat.zero_le _,by rw [← e0];exact Goes.refl h⟩ ?_
 rintro k m1 ⟨hk,G⟩
 have h1:=G.at'
 conv=>whnf
 refine Br.mk (fun hb=>?_) (fun hb=>?_)
 ·have hk2:k < args.length:=by
   have:(k:Int) < (args.length:Nat):=of_decide_eq_true hb
   omega
  obtain ⟨ad,rfl⟩:∃ ad,aa = some ad:=by
   cases aa with
   | none=>rw [q0 rfl] at hk2;simp at hk2
   | some ad=>exact ⟨ad,rfl⟩
  have hln:(argsS C (args.take k)).length = C.rg.toNat:=args_len (by rw [List.length_take];omega)
  have hr:k < ({ bareS C with regs:=argsS C (args.take k) }:St).regs.length:=by show k < (argsS C (args.take k)).length;rw [hln];omega
  have hb0:((argsS C (args.take k)).getD k VR.zero).b = 0:=by
   unfold argsS
   rw [List.getD_eq_getElem?_getD,List.getElem?_append_right (by simp;omega),List.getElem?_replicate]
   split <;> rfl
  obtain ⟨ar,har,_⟩:=h1.regCells hr
  conv=>whnf
  refine WIdx.mk ad rfl ⟨by omega,by omega⟩ ?_
  conv=>whnf
  refine WLd.mk (i args[k]) (by simpa using (IAt.cell (q1 ad rfl) hk2).mono h1.le) ?_
  conv=>whnf
  refine WLd.mk (hv H { bareS C with regs:=argsS C (args.take k) } 1) (by rw [add_add];exact h1.cell rfl) ?_
  conv=>whnf
  refine WIdx.mk ar har ⟨by omega,by show (k:Int) < (numS { bareS C with regs:=argsS C (args.take k) } 1:Nat);exact Int.ofNat_lt.2 hr⟩ ?_
  conv=>whnf
  rw [add_add]
  refine h1.setNum hr har (z:=args[k]) rfl fun m2 G2=>?_
  have e2:({ ({ bareS C with regs:=argsS C (args.take k) }:St) with regs:=(argsS C (args.take k)).set k ⟨args[k],((argsS C (args.take k)).getD k VR.zero).b⟩ }:St) = { bareS C with regs:=argsS C (args.take (k + 1)) }:=by
   rw [hb0,args_set hk2 hal]
  have G2:=G.trans G2
  conv=>whnf
  refine WRng.mk (by apply wrap_i64 <;> omega) ?_
  conv=>whnf
  refine ⟨k + 1,⟨rfl,trivial⟩,⟨hk2,?_⟩,Nat.sub_lt_sub_left hk2 (Nat.lt_succ_self k)⟩
  rw [← e2];exact G2
 ·have hk2:k = args.length:=by
   have:¬ (k:Int) < (args.length:Nat):=of_decide_eq_false hb
   omega
  subst hk2
  rw [List.take_length] at G h1
  have hn1:=hV.n1
  have ez:({ bareS C with regs:=argsS C args }:St) = { bareS C with regs:=argsS C args,arr:=(C.sz.take 0).map fun n=>List.replicate n.toNat 0 }:=rfl
  conv=>whnf
  refine WLoop.mk (Nat × HdF) (fun x=>[(59,.val (i x.1))]) (fun x m'=>x.1 ≤ C.sz.length ∧ Goes m0 V C M sv p m H (bareS C) m' x.2 { bareS C with regs:=argsS C args,arr:=(C.sz.take x.1).map fun n=>List.replicate n.toNat 0 }) (fun x=>C.sz.length - x.1) (0,H) ⟨rfl,trivial⟩ ⟨Nat.zero_le _,by rw [← ez];exact G⟩ ?_
  rintro ⟨j,Hj⟩ m2 ⟨hj,G2⟩
  simp only at hj G2
  have h2:=G2.at'
  conv=>whnf
  refine Br.mk (fun hb=>?_) (fun hb=>?_)
  ·have hj2:j < C.sz.length:=by
    have:(j:Int) < (V0.n1:Nat):=of_decide_eq_true hb
    omega
   have hzj:=hC.sz _ (List.getElem_mem hj2)
   obtain ⟨ad,had⟩:∃ ad,V0.a1 = some ad:=by
    cases hh:V0.a1 with
    | none=>rw [z0 (es1.symm.trans hh)] at hj2;simp at hj2
    | some ad=>exact ⟨ad,rfl⟩
   have hal2:((C.sz.take j).map fun n:Int=>List.replicate n.toNat (0:Int)).length = j:=by simp;omega
   conv=>whnf
   refine WIdx.mk ad had ⟨by omega,by omega⟩ ?_
   conv=>whnf
   refine WLd.mk (i C.sz[j]) (by simpa using (IAt.cell (z1 ad (es1.symm.trans had)) hj2).mono h2.le) ?_
   conv=>whnf
   refine WLd.mk (hv Hj { bareS C with regs:=argsS C args,arr:=(C.sz.take j).map fun n=>List.replicate n.toNat 0 } 3) (by rw [add_add];exact h2.cell rfl) ?_
   conv=>whnf
   refine ⟨?_,trivial⟩
   conv=>whnf
   refine WMake.mk ⟨by omega,Int.le_refl _,by omega⟩ fun bn hbn=>?_
   have l3:=Mem.le_set (o:=Cells (List.replicate (Int.toNat C.sz[j]) [i 0]).flatten T64) hbn
   have c3:(m2.set bn (Cells (List.replicate (Int.toNat C.sz[j]) [i 0]).flatten T64)) bn = some (Cells (List.replicate (Int.toNat C.sz[j]) [i 0]).flatten T64):=Mem.set_same _ _ _
   generalize m2.set bn (Cells (List.replicate (Int.toNat C.sz[j]) [i 0]).flatten T64) = m3 at l3 c3 ⊢
   conv=>whnf
   refine ⟨?_,trivial⟩
   conv=>whnf
   refine WNew.ab fun bx m4 hbx l4 cx=>?_
   conv=>whnf
   refine ⟨?_,trivial⟩
   conv=>whnf
   refine h2.pushRow (n:=C.sz[j].toNat) hbn (l3.trans l4) (l4 _ _ c3) cx (by show List.length (List.map _ _) ≤ _;rw [hal2];omega) fun b' c' m5 hst=>?_
   conv=>whnf
   refine ⟨?_,trivial⟩
   conv=>whnf
   rw [add_add]
   refine hst _ fun m6 H6 G6=>?_
   have e2:(C.sz.take j).map (fun n:Int=>List.replicate n.toNat (0:Int)) ++ [List.replicate C.sz[j].toNat 0] = (C.sz.take (j + 1)).map fun n=>List.replicate n.toNat 0:=by
    rw [List.take_succ_eq_append_getElem hj2,List.map_append];rfl
   have G6:=G2.trans G6
   conv=>whnf
   refine WRng.mk (by apply wrap_i64 <;> omega) ?_
   conv=>whnf
   refine ⟨(j + 1,H6),⟨rfl,trivial⟩,⟨hj2,?_⟩,Nat.sub_lt_sub_left hj2 (Nat.lt_succ_self j)⟩
   show Goes m0 V C M sv p m H (bareS C) m6 H6 { bareS C with regs:=argsS C args,arr:=(C.sz.take (j + 1)).map fun n=>List.replicate n.toNat 0 }
   rw [← e2];exact G6
  ·have hj2:j = C.sz.length:=by
    have:¬ (j:Int) < (V0.n1:Nat):=of_decide_eq_false hb
    omega
   subst hj2
   rw [List.take_length] at G2
   conv=>whnf
   exact WRet.same (kR _ _ G2)
attribute [irreducible] begTail
def Begun (m:Mem) (C:CodeR) (M:Mac) (sh args:List Int) (e:Ending) (m':Mem):Prop:=∃ p m1 V sv H,e = .returned (ptr p) ∧ Mem.le m m1 ∧ SimBase m1 V C M sv sh ∧ SimAt m1 m' V C M sv p H (beginS C args)
theorem beg_kind (V:CV) (C:CodeR) (M:Mac) (sv:Value):spliceL ([i 0,i 0,i 0,i 0,i 0,ns,ns,ns,ns] ++ V.cells C ++ M.cells ++ [sv,ns]) 3 (cellsL (i 3)) = [i 0,i 0,i 0,i 3,i 0,ns,ns,ns,ns] ++ V.cells C ++ M.cells ++ [sv,ns]:=rfl
theorem beg_regs (V:CV) (C:CodeR) (M:Mac) (sv x:Value) (hx:cellsL x = [x]):spliceL ([i 0,i 0,i 0,i 3,i 0,ns,ns,ns,ns] ++ V.cells C ++ M.cells ++ [sv,ns]) 6 (cellsL x) = [i 0,i 0,i 0,i 3,i 0,ns,x,ns,ns] ++ V.cells C ++ M.cells ++ [sv,ns]:=by rw [hx];rfl
theorem beg_kept (V:CV) (C:CodeR) (M:Mac) (sv x y:Value) (hy:cellsL y = [y]):spliceL ([i 0,i 0,i 0,i 3,i 0,ns,x,ns,ns] ++ V.cells C ++ M.cells ++ [sv,ns]) 7 (cellsL y) = [i 0,i 0,i 0,i 3,i 0,ns,x,y,ns] ++ V.cells C ++ M.cells ++ [sv,ns]:=by rw [hy];rfl
theorem bare_cells (V:CV) (C:CodeR) (M:Mac) (sv:Value) (br bk:Nat):simCells V C M sv (bareH br C.rg.toNat bk C.sp.toNat) (bareS C) = [i 0,i 0,i 0,i 3,i 0,ns,.slice (some ⟨br,0,none⟩) C.rg.toNat C.rg.toNat,.slice (some ⟨bk,0,none⟩) C.sp.toNat C.sp.toNat,ns] ++ V.cells C ++ M.cells ++ [sv,ns]:=by
 have e1:numS (bareS C) 1 = C.rg.toNat:=List.length_replicate
 have e2:numS (bareS C) 2 = C.sp.toNat:=List.length_replicate
 unfold simCells hv
 rw [e1,e2]
 rfl
attribute [local irreducible] spliceL in
set_option maxHeartbeats 2000000 in
theorem begin_ok (V:CV) (hV:CodeAt m V C) (hC:CodeOK C) (hM:M.ok = true) {T:Nat} {fr:Nat × Nat} (hm:m 0 = some (.cells ⟨cells0⟩ T fr)) {aa sa:Option Addr} {ca cs:Nat} {args:List Int}
  (hargs:IAt m (.slice aa args.length ca) args) (hal:args.length ≤ C.rg.toNat) (hsh:IAt m (.slice sa sh.length cs) sh) (hshl:sh.length ≤ 1000) :
  CallsM Tryz.prog 47 [V.val C,M.val,.slice aa args.length ca,.slice sa sh.length cs] m (Begun m C M sh args):=by
 refine calls_of mixed Tryz.func47 ok_sim_begin rfl ?_
 have hrg:=hC.rg
 have hsp:=hC.sp
 unfold Fn.asks
 rw [beg_body]
 conv=>whnf
 refine ⟨?_,trivial⟩
 conv=>whnf
 refine WCall.mk (simClone_ok V hV hC) ?_
 rintro _ m1 ⟨V1,rfl,l1,hV1⟩
 conv=>whnf
 refine ⟨?_,trivial⟩
 conv=>whnf
 refine WCall.mk (clone_ok (hsh.mono l1) (by omega)) ?_
 rintro _ m2 ⟨A2,c2,rfl,hc2,l2,hO2⟩
 have hI2:=hO2.iat hc2
 have L2:=l1.trans l2
 conv=>whnf
 rw [fillSim]
 conv=>whnf
 refine ⟨?_,trivial⟩
 conv=>whnf
 refine WNew.ab fun p m3 hp l3 cp=>?_
 have cp:m3 p = some (Cells ([i 0,i 0,i 0,i 0,i 0,ns,ns,ns,ns] ++ V1.cells C ++ M.cells ++ [.slice A2 sh.length c2,ns]) TSim):=cp
 conv=>whnf
 rw [add_add]
 refine WSt.at _ _ cp (show 0 + 3 + 1 ≤ 28 by decide) ?_
 rw [beg_kind]
 have l4:Mem.le m2 (m3.set p (Cells ([i 0,i 0,i 0,i 3,i 0,ns,ns,ns,ns] ++ V1.cells C ++ M.cells ++ [.slice A2 sh.length c2,ns]) TSim)):=le_setn l3 hp
 have c4:=Mem.set_same m3 p (Cells ([i 0,i 0,i 0,i 3,i 0,ns,ns,ns,ns] ++ V1.cells C ++ M.cells ++ [.slice A2 sh.length c2,ns]) TSim)
 generalize m3.set p (Cells ([i 0,i 0,i 0,i 3,i 0,ns,ns,ns,ns] ++ V1.cells C ++ M.cells ++ [.slice A2 sh.length c2,ns]) TSim) = m4 at l4 c4 ⊢
 have hB:SimBase m2 V1 C M (.slice A2 sh.length c2) sh:=⟨hV1.mono l2,hC,hM,hI2,hshl,T,fr,L2 _ _ hm⟩
 have fin:∀ {m8:Mem} {br bk:Nat},Mem.le m2 m8 → m2 br = none → m2 bk = none → br ≠ bk → m8 p = some (Cells ([i 0,i 0,i 0,i 3,i 0,ns,.slice (some ⟨br,0,none⟩) C.rg.toNat C.rg.toNat,.slice (some ⟨bk,0,none⟩) C.sp.toNat C.sp.toNat,ns] ++ V1.cells C ++ M.cells ++ [.slice A2 sh.length c2,ns]) TSim) →
   m8 br = some (Cells (List.replicate C.rg.toNat [i 0,i 0]).flatten TVal) → m8 bk = some (Cells (List.replicate C.sp.toNat [i 0,i 0]).flatten TVal) →
   wpI Tryz.prog begTail (retPost [.t 8] (Begun m C M sh args)) (envL [(2,.val (.slice aa args.length ca)),(4,.var (V.cells C)),(9,.val (ptr p))]) m8:=fun {m8 br bk} hle hbr hbk hne cp cr ck=>by
  have hat:=bare_at (V:=V1) (C:=C) (M:=M) (sv:=.slice A2 sh.length c2) (p:=p) hle hp hbr hbk hne (by rw [bare_cells];exact cp) cr ck
  exact begTail_ok hat (hV.mono L2) hC (hargs.mono L2) hal fun m' H' G=>⟨p,m2,V1,_,H',rfl,L2,hB,G.at'⟩
 conv=>whnf
 refine ⟨?_,?_,trivial⟩
 ·conv=>whnf
  refine WMake.mk ⟨by omega,Int.le_refl _,by omega⟩ fun br hbr=>?_
  have cr:(m4.set br (Cells (List.replicate (Int.toNat C.rg) [i 0,i 0]).flatten TVal)) br = some (Cells (List.replicate C.rg.toNat [i 0,i 0]).flatten TVal):=Mem.set_same _ _ _
  have lr:=Mem.le_set (o:=Cells (List.replicate (Int.toNat C.rg) [i 0,i 0]).flatten TVal) hbr
  generalize hmr:m4.set br (Cells (List.replicate (Int.toNat C.rg) [i 0,i 0]).flatten TVal) = mr at cr lr ⊢
  conv=>whnf
  refine ⟨?_,?_,trivial⟩
  ·conv=>whnf
   refine WMake.mk ⟨by omega,Int.le_refl _,by omega⟩ fun bk hbk=>?_
   have ck:(mr.set bk (Cells (List.replicate (Int.toNat C.sp) [i 0,i 0]).flatten TVal)) bk = some (Cells (List.replicate C.sp.toNat [i 0,i 0]).flatten TVal):=Mem.set_same _ _ _
   have lk:=Mem.le_set (o:=Cells (List.replicate (Int.toNat C.sp) [i 0,i 0]).flatten TVal) hbk
   generalize hmk:mr.set bk (Cells (List.replicate (Int.toNat C.sp) [i 0,i 0]).flatten TVal) = mk at ck lk ⊢
   conv=>whnf
   refine ⟨?_,trivial⟩
   conv=>whnf
   rw [add_add]
   refine WSt.at _ _ (lk _ _ (lr _ _ c4)) (show 0 + 6 + 1 ≤ 28 by decide) ?_
   rw [beg_regs _ _ _ _ _ rfl]
   conv=>whnf
   refine ⟨?_,trivial⟩
   conv=>whnf
   rw [add_add]
   refine WSt.at _ _ (Mem.set_same _ _ _) (show 0 + 7 + 1 ≤ 28 by decide) ?_
   rw [beg_kept _ _ _ _ _ _ rfl]
   rw [Mem.set2]
   have hne:br ≠ bk:=ne_free cr hbk
   have pr:p ≠ br:=ne_free c4 (hbr)
   have pk:p ≠ bk:=ne_free c4 (none_of_le lr hbk)
   conv=>whnf
   exact rest_envL (fin (le_setn (l4.trans (lr.trans lk)) hp) (none_of_le l4 hbr) (none_of_le (l4.trans lr) hbk) hne (Mem.set_same _ _ _) (by rw [Mem.set_other _ _ (Ne.symm pr)];exact lk _ _ cr) (by rw [Mem.set_other _ _ (Ne.symm pk)];exact ck)) ⟨rfl,rfl,rfl,trivial⟩
  ·conv=>whnf
   rw [add_add]
   refine WSt.at _ _ (lr _ _ c4) (show 0 + 6 + 1 ≤ 28 by decide) ?_
   rw [beg_regs _ _ _ _ _ rfl]
   have c6:=Mem.set_same mr p (Cells ([i 0,i 0,i 0,i 3,i 0,ns,.slice (some ⟨br,0,none⟩) C.rg.toNat C.rg.toNat,ns,ns] ++ V1.cells C ++ M.cells ++ [.slice A2 sh.length c2,ns]) TSim)
   have l6:Mem.le m2 (mr.set p (Cells ([i 0,i 0,i 0,i 3,i 0,ns,.slice (some ⟨br,0,none⟩) C.rg.toNat C.rg.toNat,ns,ns] ++ V1.cells C ++ M.cells ++ [.slice A2 sh.length c2,ns]) TSim)):=le_setn (l4.trans lr) hp
   have pr:p ≠ br:=ne_free c4 hbr
   have cr6:(mr.set p (Cells ([i 0,i 0,i 0,i 3,i 0,ns,.slice (some ⟨br,0,none⟩) C.rg.toNat C.rg.toNat,ns,ns] ++ V1.cells C ++ M.cells ++ [.slice A2 sh.length c2,ns]) TSim)) br = some (Cells (List.replicate C.rg.toNat [i 0,i 0]).flatten TVal):=by rw [Mem.set_other _ _ (Ne.symm pr)];exact cr
   generalize mr.set p (Cells ([i 0,i 0,i 0,i 3,i 0,ns,.slice (some ⟨br,0,none⟩) C.rg.toNat C.rg.toNat,ns,ns] ++ V1.cells C ++ M.cells ++ [.slice A2 sh.length c2,ns]) TSim) = m6 at c6 l6 cr6 ⊢
   conv=>whnf
   refine ⟨?_,trivial⟩
   conv=>whnf
   refine WMake.mk ⟨by omega,Int.le_refl _,by omega⟩ fun bk hbk=>?_
   have ck:(m6.set bk (Cells (List.replicate (Int.toNat C.sp) [i 0,i 0]).flatten TVal)) bk = some (Cells (List.replicate C.sp.toNat [i 0,i 0]).flatten TVal):=Mem.set_same _ _ _
   have lk:=Mem.le_set (o:=Cells (List.replicate (Int.toNat C.sp) [i 0,i 0]).flatten TVal) hbk
   generalize hmk:m6.set bk (Cells (List.replicate (Int.toNat C.sp) [i 0,i 0]).flatten TVal) = mk at ck lk ⊢
   conv=>whnf
   refine ⟨?_,trivial⟩
   conv=>whnf
   rw [add_add]
   refine WSt.at _ _ (lk _ _ c6) (show 0 + 7 + 1 ≤ 28 by decide) ?_
   rw [beg_kept _ _ _ _ _ _ rfl]
   have hne:br ≠ bk:=ne_free cr6 hbk
   have pk:p ≠ bk:=ne_free c6 hbk
   conv=>whnf
   exact rest_envL (fin (le_setn (l6.trans lk) hp) (none_of_le l4 hbr) (none_of_le l6 hbk) hne (Mem.set_same _ _ _) (by rw [Mem.set_other _ _ (Ne.symm pr)];exact lk _ _ cr6) (by rw [Mem.set_other _ _ (Ne.symm pk)];exact ck)) ⟨rfl,rfl,rfl,trivial⟩
 ·conv=>whnf
  refine WMake.mk ⟨by omega,Int.le_refl _,by omega⟩ fun bk hbk=>?_
  have ck:(m4.set bk (Cells (List.replicate (Int.toNat C.sp) [i 0,i 0]).flatten TVal)) bk = some (Cells (List.replicate C.sp.toNat [i 0,i 0]).flatten TVal):=Mem.set_same _ _ _
  have lk:=Mem.le_set (o:=Cells (List.replicate (Int.toNat C.sp) [i 0,i 0]).flatten TVal) hbk
  generalize hmk:m4.set bk (Cells (List.replicate (Int.toNat C.sp) [i 0,i 0]).flatten TVal) = mk at ck lk ⊢
  conv=>whnf
  refine ⟨?_,trivial⟩
  conv=>whnf
  refine WMake.mk ⟨by omega,Int.le_refl _,by omega⟩ fun br hbr=>?_
  have cr:(mk.set br (Cells (List.replicate (Int.toNat C.rg) [i 0,i 0]).flatten TVal)) br = some (Cells (List.replicate C.rg.toNat [i 0,i 0]).flatten TVal):=Mem.set_same _ _ _
  have lr:=Mem.le_set (o:=Cells (List.replicate (Int.toNat C.rg) [i 0,i 0]).flatten TVal) hbr
  generalize hmr:mk.set br (Cells (List.replicate (Int.toNat C.rg) [i 0,i 0]).flatten TVal) = mr at cr lr ⊢
  conv=>whnf
  refine ⟨?_,trivial⟩
  conv=>whnf
  rw [add_add]
  refine WSt.at _ _ (lr _ _ (lk _ _ c4)) (show 0 + 6 + 1 ≤ 28 by decide) ?_
  rw [beg_regs _ _ _ _ _ rfl]
  conv=>whnf
  refine ⟨?_,trivial⟩
  conv=>whnf
  rw [add_add]
  refine WSt.at _ _ (Mem.set_same _ _ _) (show 0 + 7 + 1 ≤ 28 by decide) ?_
  rw [beg_kept _ _ _ _ _ _ rfl]
  rw [Mem.set2]
  have hne:br ≠ bk:=(ne_free ck hbr).symm
  have pr:p ≠ br:=ne_free c4 (none_of_le lk hbr)
  have pk:p ≠ bk:=ne_free c4 (hbk)
  conv=>whnf
  exact rest_envL (fin (le_setn (l4.trans (lk.trans lr)) hp) (none_of_le (l4.trans lk) hbr) (none_of_le l4 hbk) hne (Mem.set_same _ _ _) (by rw [Mem.set_other _ _ (Ne.symm pr)];exact cr) (by rw [Mem.set_other _ _ (Ne.symm pk)];exact lr _ _ ck)) ⟨rfl,rfl,rfl,trivial⟩
end
end Go.Proofs.YtleofbpepfmfgaaGreatDoor
