import Derived.Test.YtleofbpepfmfgaaGreatDoorVxRfG
import Derived.Test.YtleofbpepfmfgaaGreatDoorVxRfQ
set_option linter.unusedSimpArgs false
set_option linter.unusedVariables false
set_option maxRecDepth 100000
namespace Go.Proofs.YtleofbpepfmfgaaGreatDoor
open Go Go.Vx
open Go.Vx.IOp Go.Vx.IR Go.Vx.Opd
section
variable {m0 m m' m2 m3:Mem} {V:CV} {C:CodeR} {M:Mac} {sv:Value} {p:Nat} {H:HdF} {s s' s1:St} {sh:List Int}
theorem rfFor_ok (h:RfAt m0 m V C M sv 0 p H s) (hB:SimBase m0 V C M sv sh) {k:Nat} (hG:Good C s k) (n:Nat) (hn:k+401 * n≤900000000) :
  CallsM Tryz.prog 34 [ptr p,i (n:Int)] m fun e m'=>e=.returned unitV∧∃ H',RfGoes m0 V C M sv 0 p m H s m' H' (runS C M sh n s):=by
 refine calls_of mixed Tryz.func34 ok_biremeref27_Sim_Run rfl ?_
 refine WLoop.mk (Nat×St×HdF×Nat) (fun x=>[(4,.val (i x.1))]) (fun x m'=>x.1≤n∧RfGoes m0 V C M sv 0 p m H s m' x.2.2.1 x.2.1∧Good C x.2.1 x.2.2.2∧x.2.2.2+401 * (n - x.1)≤900000000 ∧
  runS C M sh (n - x.1) x.2.1=runS C M sh n s) (fun x=>n - x.1) (0,s,H,k) ⟨rfl,trivial⟩ ⟨Nat.zero_le _,RfGoes.refl h,hG,hn,rfl⟩ ?_
 rintro ⟨j,sj,Hj,kj⟩ m1 ⟨hj,G,hGj,hkj,hrj⟩
 simp only at hj G hGj hkj hrj
 have h1:=G.at'
 refine WSc.mk (v:=!sj.ended) (fun _=>?_) ?_
 ·refine WLd.mk (.bool sj.ended) (h1.cell rfl) ?_
  conv=>whnf
  exact And.intro (Mem.le.refl _) rfl
 refine Br.mk (fun hb=>?_) (fun hb=>?_)
 ·have hb:(decide ((j:Int)<(n:Int))&&!sj.ended)=true:=hb
  rw [Bool.and_eq_true,decide_eq_true_eq,Bool.not_eq_true'] at hb
  have hj2:j<n:=by omega
  rw [show n - j=(n - (j+1))+1 by omega,runS_succ,if_neg (by rw [hb.2];decide)] at hrj
  refine WCall.mk (rfStep_ok h1 hB hGj.ok hb.2 hGj.word hGj.lim (by omega)) ?_
  rintro _ m2 ⟨rfl,H2,G2⟩
  refine WRng.mk (by apply wrap_i64<;>omega) ?_
  conv=>whnf
  exact ⟨(j+1,cycS C M sh sj,H2,kj+401),⟨rfl,trivial⟩,⟨hj2,G.trans G2,hGj.cyc hB.ok,by simp only;omega,hrj⟩,Nat.sub_lt_sub_left hj2 (Nat.lt_succ_self j)⟩
 ·have hb:(decide ((j:Int)<(n:Int))&&!sj.ended)=false:=hb
  rw [Bool.and_eq_false_iff,decide_eq_false_iff_not,Bool.not_eq_false'] at hb
  have e:runS C M sh n s=sj:=by
   rw [← hrj]
   rcases hb with hb | hb
   ·obtain rfl:j=n:=by omega
    rw [Nat.sub_self];rfl
   ·exact runS_ended hb _
  refine WRet.same ⟨rfl,Hj,?_⟩
  rw [e];exact G
end
theorem fillRf (V:CV) (C:CodeR) (M:Mac) (a:Option Addr) (n c br rc bk kc:Nat):fillL [ns,i 0,i 0,i 0,i 0,ns,i 0,i 0,i 0,i 0,i 0,i 0,i 0,i 0,i 0,i 0,i 0,ns,ns,ns,ns,ns,i 0,i 0,i 0,.bool false,ns,i 0,i 0]
  [(0,6,.agg ⟨List.take 6 (cellsL (V.val C))⟩),(6,11,.agg ⟨List.take 11 (cellsL M.val)⟩),(17,1,.slice a n c),(18,1,.slice (some ⟨br,0,none⟩) rc rc),(20,1,.slice (some ⟨bk,0,none⟩) kc kc),(26,3,.agg ⟨spliceL [ns,i 0,i 0] 1 (cellsL (i 3))⟩)] =
  some (V.cells C++M.cells++[.slice a n c,.slice (some ⟨br,0,none⟩) rc rc,ns,.slice (some ⟨bk,0,none⟩) kc kc,ns,i 0,i 0,i 0,.bool false,ns,i 3,i 0]):=by kernel_rfl
theorem bare_cellsR (V:CV) (C:CodeR) (M:Mac) (sv:Value) (br bk:Nat):rfCells V C M sv 0 (bareH br C.rg.toNat bk C.sp.toNat) (bareS C)=V.cells C++M.cells++[sv,.slice (some ⟨br,0,none⟩) C.rg.toNat C.rg.toNat,ns,.slice (some ⟨bk,0,none⟩) C.sp.toNat C.sp.toNat,ns,i 0,i 0,i 0,.bool false,ns,i 3,i 0]:=by
 have e1:numS (bareS C) 1=C.rg.toNat:=List.length_replicate
 have e2:numS (bareS C) 2=C.sp.toNat:=List.length_replicate
 unfold rfCells hv
 rw [e1,e2]
 rfl
section
variable {m0 m m':Mem} {V:CV} {C:CodeR} {M:Mac} {sv:Value} {p:Nat} {H:HdF} {s s':St} {sh:List Int}
def rsA:IR:=(match ir_biremeref27_Start.body with | .seq a _=>a | r=>r)
def rsB:IR:=(match ir_biremeref27_Start.body with | .seq _ (.seq b _)=>b | r=>r)
def rsTail:IR:=(match ir_biremeref27_Start.body with | .seq _ (.seq _ r)=>r | r=>r)
theorem rs_body:ir_biremeref27_Start.body=.seq rsA (.seq rsB rsTail):=rfl
theorem rsTail_ok {V0:CV} (h:RfAt m0 m V C M sv 0 p H (bareS C)) (hV:CodeAt m0 V0 C) (hC:CodeOK C) {aa:Option Addr} {ca:Nat} {args:List Int} (hargs:IAt m0 (.slice aa args.length ca) args) (hal:args.length≤C.rg.toNat)
  {R:Ending→Mem→Prop} (kR:∀ m' H',RfGoes m0 V C M sv 0 p m H (bareS C) m' H' (beginS C args)→R (.returned (ptr p)) m'):wpI Tryz.prog rsTail (retPost [.t 8] R) (envL [(2,.val (.slice aa args.length ca)),(4,.var (V0.cells C)),(9,.val (ptr p))]) m:=by
 have hrg:=hC.rg
 have hszl:=hC.szl
 obtain ⟨aa',ca',ea,q0,q1,q2⟩:=hargs
 injection ea with ea1 ea2 ea3
 subst ea1;subst ea3
 have hsz2:IAt m0 (.slice V0.a1 C.sz.length V0.c1) C.sz:=by have:=hV.sz;rw [hV.n1] at this;exact this
 obtain ⟨as',cs',es,z0,z1,z2⟩:=hsz2
 injection es with es1 es2 es3
 have e0:bareS C={ bareS C with regs:=argsS C (args.take 0) }:=by
  show bareS C={ bareS C with regs:=[]++List.replicate (C.rg.toNat - 0) VR.zero }
  rfl
 refine WLoop.mk Nat (fun k=>[(10,.val (i k))]) (fun k m'=>k≤args.length∧RfGoes m0 V C M sv 0 p m H (bareS C) m' H { bareS C with regs:=argsS C (args.take k) }) (fun k=>args.length - k) 0 ⟨rfl,trivial⟩ ⟨Nat.zero_le _,by rw [← e0];exact RfGoes.refl h⟩ ?_
 rintro k m1 ⟨hk,G⟩
 have h1:=G.at'
 refine Br.mk (fun hb=>?_) (fun hb=>?_)
 ·have hk2:k<args.length:=by
   have:(k:Int)<(args.length:Nat):=of_decide_eq_true hb
   omega
  obtain ⟨ad,rfl⟩:∃ ad,aa=some ad:=by
   cases aa with
   | none=>rw [q0 rfl] at hk2;simp at hk2
   | some ad=>exact ⟨ad,rfl⟩
  have hln:(argsS C (args.take k)).length=C.rg.toNat:=args_len (by rw [List.length_take];omega)
  have hr:k<({ bareS C with regs:=argsS C (args.take k) }:St).regs.length:=by show k<(argsS C (args.take k)).length;rw [hln];omega
  have hb0:((argsS C (args.take k)).getD k VR.zero).b=0:=by
   unfold argsS
   rw [List.getD_eq_getElem?_getD,List.getElem?_append_right (by simp;omega),List.getElem?_replicate]
   split<;>rfl
  obtain ⟨ar,har,_⟩:=h1.regCells hr
  refine WLd.mk (hv H { bareS C with regs:=argsS C (args.take k) } 1) (h1.cell rfl) ?_
  refine WIdx.mk ad rfl ⟨by omega,by omega⟩ ?_
  refine WLd.mk (i args[k]) (by simpa using (IAt.cell (q1 ad rfl) hk2).mono h1.le) ?_
  refine WIdx.mk ar har ⟨by omega,by show (k:Int)<(numS { bareS C with regs:=argsS C (args.take k) } 1:Nat);exact Int.ofNat_lt.2 hr⟩ ?_
  conv=>whnf
  refine ⟨?_,trivial⟩
  conv=>whnf
  rw [add_add]
  refine h1.setNum hr har (z:=args[k]) rfl fun m2 G2=>?_
  have e2:({ ({ bareS C with regs:=argsS C (args.take k) }:St) with regs:=(argsS C (args.take k)).set k ⟨args[k],((argsS C (args.take k)).getD k VR.zero).b⟩ }:St)={ bareS C with regs:=argsS C (args.take (k+1)) }:=by
   rw [hb0,args_set hk2 hal]
  have G2:=G.trans G2
  refine WRng.mk (by apply wrap_i64<;>omega) ?_
  conv=>whnf
  refine ⟨k+1,⟨rfl,trivial⟩,⟨hk2,?_⟩,Nat.sub_lt_sub_left hk2 (Nat.lt_succ_self k)⟩
  rw [← e2];exact G2
 ·have hk2:k=args.length:=by
   have:¬ (k:Int)<(args.length:Nat):=of_decide_eq_false hb
   omega
  subst hk2
  rw [List.take_length] at G h1
  have hn1:=hV.n1
  have ez:({ bareS C with regs:=argsS C args }:St)={ bareS C with regs:=argsS C args,arr:=(C.sz.take 0).map fun n=>List.replicate n.toNat 0 }:=rfl
  refine WLoop.mk (Nat×HdF) (fun x=>[(11,.val (i x.1))]) (fun x m'=>x.1≤C.sz.length∧RfGoes m0 V C M sv 0 p m H (bareS C) m' x.2 { bareS C with regs:=argsS C args,arr:=(C.sz.take x.1).map fun n=>List.replicate n.toNat 0 }) (fun x=>C.sz.length - x.1) (0,H) ⟨rfl,trivial⟩ ⟨Nat.zero_le _,by rw [← ez];exact G⟩ ?_
  rintro ⟨j,Hj⟩ m2 ⟨hj,G2⟩
  simp only at hj G2
  have h2:=G2.at'
  refine Br.mk (fun hb=>?_) (fun hb=>?_)
  ·have hj2:j<C.sz.length:=by
    have:(j:Int)<(V0.n1:Nat):=of_decide_eq_true hb
    omega
   have hzj:=hC.sz _ (List.getElem_mem hj2)
   obtain ⟨ad,had⟩:∃ ad,V0.a1=some ad:=by
    cases hh:V0.a1 with
    | none=>rw [z0 (es1.symm.trans hh)] at hj2;simp at hj2
    | some ad=>exact ⟨ad,rfl⟩
   have hal2:((C.sz.take j).map fun n:Int=>List.replicate n.toNat (0:Int)).length=j:=by simp;omega
   refine WLd.mk (hv Hj { bareS C with regs:=argsS C args,arr:=(C.sz.take j).map fun n=>List.replicate n.toNat 0 } 3) (h2.cell rfl) ?_
   refine WIdx.mk ad had ⟨by omega,by omega⟩ ?_
   conv=>whnf
   refine ⟨?_,trivial⟩
   refine WLd.mk (i C.sz[j]) (by simpa using (IAt.cell (z1 ad (es1.symm.trans had)) hj2).mono h2.le) ?_
   conv=>whnf
   refine ⟨?_,trivial⟩
   refine WMake.mk ⟨by omega,Int.le_refl _,by omega⟩ fun bn hbn=>?_
   have l3:=Mem.le_set (o:=Cells (List.replicate (Int.toNat C.sz[j]) [i 0]).flatten T64) hbn
   have c3:(m2.set bn (Cells (List.replicate (Int.toNat C.sz[j]) [i 0]).flatten T64)) bn=some (Cells (List.replicate (Int.toNat C.sz[j]) [i 0]).flatten T64):=Mem.set_same _ _ _
   generalize m2.set bn (Cells (List.replicate (Int.toNat C.sz[j]) [i 0]).flatten T64)=m3 at l3 c3 ⊢
   conv=>whnf
   refine ⟨?_,trivial⟩
   refine WNew.ab fun bx m4 hbx l4 cx=>?_
   conv=>whnf
   refine ⟨?_,trivial⟩
   conv=>whnf
   refine h2.pushRow (n:=C.sz[j].toNat) hbn (l3.trans l4) (l4 _ _ c3) cx (by show List.length (List.map _ _)≤_;rw [hal2];omega) fun b' c' m5 hst=>?_
   conv=>whnf
   refine ⟨?_,trivial⟩
   conv=>whnf
   refine hst _ fun m6 H6 G6=>?_
   have e2:(C.sz.take j).map (fun n:Int=>List.replicate n.toNat (0:Int))++[List.replicate C.sz[j].toNat 0]=(C.sz.take (j+1)).map fun n=>List.replicate n.toNat 0:=by
    rw [List.take_succ_eq_append_getElem hj2,List.map_append];rfl
   have G6:=G2.trans G6
   refine WRng.mk (by apply wrap_i64<;>omega) ?_
   conv=>whnf
   refine ⟨(j+1,H6),⟨rfl,trivial⟩,⟨hj2,?_⟩,Nat.sub_lt_sub_left hj2 (Nat.lt_succ_self j)⟩
   show RfGoes m0 V C M sv 0 p m H (bareS C) m6 H6 { bareS C with regs:=argsS C args,arr:=(C.sz.take (j+1)).map fun n=>List.replicate n.toNat 0 }
   rw [← e2];exact G6
  ·have hj2:j=C.sz.length:=by
    have:¬ (j:Int)<(V0.n1:Nat):=of_decide_eq_false hb
    omega
   subst hj2
   rw [List.take_length] at G2
   exact WRet.same (kR _ _ G2)
attribute [irreducible] rsTail
def BegunR (m:Mem) (V:CV) (C:CodeR) (M:Mac) (sv:Value) (args:List Int) (e:Ending) (m':Mem):Prop:=∃ p H,e=.returned (ptr p)∧RfAt m m' V C M sv 0 p H (beginS C args)
attribute [local irreducible] spliceL in
theorem rs0_ok (hrg:1≤C.rg∧C.rg≤4096) (hsp:0≤C.sp∧C.sp≤4096) {av:Value} {sa:Option Addr} {sl cs:Nat} {rs:List Res} {RR:Ending→Mem→Prop} {R:IR}
  (T:∀ p br bk m',m p=none→m br=none→m bk=none→br≠bk→Mem.le m m'→m' p=some (Cells (rfCells V C M (.slice sa sl cs) 0 (bareH br C.rg.toNat bk C.sp.toNat) (bareS C)) TRf)→m' br=some (Cells (List.replicate C.rg.toNat [i 0,i 0]).flatten TVal)→m' bk=some (Cells (List.replicate C.sp.toNat [i 0,i 0]).flatten TVal) →
   wpI Tryz.prog R (retPost rs RR) (envL [(2,.val av),(4,.var (V.cells C)),(9,.val (ptr p))]) m') :
  wpI Tryz.prog (.seq rsA (.seq rsB R)) (retPost rs RR) (envOf [V.val C,M.val,av,.slice sa sl cs]) m:=by
 conv=>whnf
 refine ⟨?_,?_,trivial⟩
 ·refine WMake.mk ⟨by omega,Int.le_refl _,by omega⟩ fun br hbr=>?_
  have cr:(m.set br (Cells (List.replicate (Int.toNat C.rg) [i 0,i 0]).flatten TVal)) br=some (Cells (List.replicate C.rg.toNat [i 0,i 0]).flatten TVal):=Mem.set_same _ _ _
  have lr:=Mem.le_set (o:=Cells (List.replicate (Int.toNat C.rg) [i 0,i 0]).flatten TVal) hbr
  generalize m.set br (Cells (List.replicate (Int.toNat C.rg) [i 0,i 0]).flatten TVal)=mr at cr lr ⊢
  conv=>whnf
  refine ⟨?_,trivial⟩
  refine WMake.mk ⟨by omega,Int.le_refl _,by omega⟩ fun bk hbk=>?_
  have ck:(mr.set bk (Cells (List.replicate (Int.toNat C.sp) [i 0,i 0]).flatten TVal)) bk=some (Cells (List.replicate C.sp.toNat [i 0,i 0]).flatten TVal):=Mem.set_same _ _ _
  have lk:=Mem.le_set (o:=Cells (List.replicate (Int.toNat C.sp) [i 0,i 0]).flatten TVal) hbk
  generalize mr.set bk (Cells (List.replicate (Int.toNat C.sp) [i 0,i 0]).flatten TVal)=mk at ck lk ⊢
  conv=>whnf
  rw [fillRf]
  conv=>whnf
  refine ⟨?_,trivial⟩
  refine WNew.ab fun p m3 hp l3 cp=>?_
  have hne:br≠bk:=ne_free cr hbk
  conv=>whnf
  exact rest_envL (T p br bk m3 (none_of_le (lr.trans lk) hp) hbr (none_of_le lr hbk) hne ((lr.trans lk).trans l3) (by rw [bare_cellsR];exact cp) (l3 _ _ (lk _ _ cr)) (l3 _ _ ck)) ⟨rfl,rfl,rfl,trivial⟩
 ·refine WMake.mk ⟨by omega,Int.le_refl _,by omega⟩ fun bk hbk=>?_
  have ck:(m.set bk (Cells (List.replicate (Int.toNat C.sp) [i 0,i 0]).flatten TVal)) bk=some (Cells (List.replicate C.sp.toNat [i 0,i 0]).flatten TVal):=Mem.set_same _ _ _
  have lk:=Mem.le_set (o:=Cells (List.replicate (Int.toNat C.sp) [i 0,i 0]).flatten TVal) hbk
  generalize m.set bk (Cells (List.replicate (Int.toNat C.sp) [i 0,i 0]).flatten TVal)=mk at ck lk ⊢
  conv=>whnf
  refine ⟨?_,trivial⟩
  refine WMake.mk ⟨by omega,Int.le_refl _,by omega⟩ fun br hbr=>?_
  have cr:(mk.set br (Cells (List.replicate (Int.toNat C.rg) [i 0,i 0]).flatten TVal)) br=some (Cells (List.replicate C.rg.toNat [i 0,i 0]).flatten TVal):=Mem.set_same _ _ _
  have lr:=Mem.le_set (o:=Cells (List.replicate (Int.toNat C.rg) [i 0,i 0]).flatten TVal) hbr
  generalize mk.set br (Cells (List.replicate (Int.toNat C.rg) [i 0,i 0]).flatten TVal)=mr at cr lr ⊢
  conv=>whnf
  rw [fillRf]
  conv=>whnf
  refine ⟨?_,trivial⟩
  refine WNew.ab fun p m3 hp l3 cp=>?_
  have hne:br≠bk:=(ne_free ck hbr).symm
  conv=>whnf
  exact rest_envL (T p br bk m3 (none_of_le (lk.trans lr) hp) (none_of_le lk hbr) hbk hne ((lk.trans lr).trans l3) (by rw [bare_cellsR];exact cp) (l3 _ _ cr) (l3 _ _ (lr _ _ ck))) ⟨rfl,rfl,rfl,trivial⟩
theorem rfStart_ok (V:CV) (hV:CodeAt m V C) (hC:CodeOK C) {aa sa:Option Addr} {ca sl cs:Nat} {args:List Int}
  (hargs:IAt m (.slice aa args.length ca) args) (hal:args.length≤C.rg.toNat) :
  CallsM Tryz.prog 33 [V.val C,M.val,.slice aa args.length ca,.slice sa sl cs] m (BegunR m V C M (.slice sa sl cs) args):=by
 refine calls_of mixed Tryz.func33 ok_biremeref27_Start rfl ?_
 unfold Fn.asks
 rw [rs_body]
 refine rs0_ok (V:=V) (C:=C) (M:=M) hC.rg hC.sp fun p br bk m' hp hbr hbk hne hle cp cr ck=>?_
 exact rsTail_ok (bare_atR hle hp hbr hbk hne cp cr ck) hV hC hargs hal fun m2 H2 G=>⟨p,H2,rfl,G.at'⟩
end
section
variable {m0 m m':Mem} {V:CV} {C:CodeR} {M:Mac} {sv:Value} {p:Nat} {H:HdF} {s s':St} {sh:List Int}
theorem RfAt.outCells (h:RfAt m0 m V C M sv 0 p H s):CellsAt m ((⟨p,0,none⟩:Addr).add 26) [hv H s 0,i s.kind,i s.value]:=fun q v hq=>by
 rw [add_add]
 refine h.cell ?_
 match q,hq with
 | 0,hq=>exact hq
 | 1,hq=>exact hq
 | 2,hq=>exact hq
theorem RfAt.outAt (h:RfAt m0 m V C M sv 0 p H s):OutAt m (.agg ⟨[hv H s 0,i s.kind,i s.value]⟩) s.prints s.kind s.value:=⟨_,_,rfl,h.printsAt⟩
def RunR (m:Mem) (s:St) (e:Ending) (m':Mem):Prop:=∃ A c,e=.returned (.tuple ⟨[.agg ⟨[.slice A s.prints.length c,i s.kind,i s.value]⟩,i (s.took:Int)]⟩)∧Mem.le m m'∧OutAt m' (.agg ⟨[.slice A s.prints.length c,i s.kind,i s.value]⟩) s.prints s.kind s.value
theorem rfRun_ok {T:Nat} {fr:Nat×Nat} (hm:m 0=some (.cells ⟨cells0⟩ T fr)) (V:CV) (M:Mac) (hV:CodeAt m V C) (hC:CodeOK C) (hM:M.ok=true) {aa sa:Option Addr} {ca cs:Nat} {args sh:List Int}
  (hargs:IAt m (.slice aa args.length ca) args) (hal:args.length≤C.rg.toNat) (hsh:IAt m (.slice sa sh.length cs) sh) (hsl:sh.length≤1000) (n:Nat) (hn:n≤1000) :
  CallsM Tryz.prog 20 [V.val C,M.val,.slice aa args.length ca,i (n:Int),.slice sa sh.length cs] m (RunR m (runS C M sh n (beginS C args))):=by
 refine calls_of mixed Tryz.func20 ok_biremeref27_Run rfl ?_
 have hB:SimBase m V C M (.slice sa sh.length cs) sh:=⟨hV,hC,hM,hsh,hsl,T,fr,hm⟩
 have hG:=begin_good hC (args:=args) hal
 refine WCall.mk (rfStart_ok V hV hC hargs hal) ?_
 rintro _ m1 ⟨p,H,rfl,h1⟩
 refine WCall.mk (rfFor_ok h1 hB hG n (by omega)) ?_
 rintro _ m2 ⟨rfl,H2,G2⟩
 have h2:=G2.at'
 have hc:=h2.outCells
 have ho:=h2.outAt
 have hle:=h2.le
 have ht:CellAt m2 ((⟨p,0,none⟩:Addr).add 22) (i ((runS C M sh n (beginS C args)).took:Int)):=h2.cell rfl
 have fin:RunR m (runS C M sh n (beginS C args)) (.returned (.tuple ⟨[.agg ⟨[hv H2 (runS C M sh n (beginS C args)) 0,i (runS C M sh n (beginS C args)).kind,i (runS C M sh n (beginS C args)).value]⟩,i ((runS C M sh n (beginS C args)).took:Int)]⟩)) m2:=⟨_,_,rfl,hle,ho⟩
 generalize RunR m (runS C M sh n (beginS C args))=RR at fin ⊢
 generalize (runS C M sh n (beginS C args)).took=tk at *
 generalize (runS C M sh n (beginS C args)).kind=kd at *
 generalize (runS C M sh n (beginS C args)).value=vl at *
 refine WLds.mk _ hc rfl ?_
 conv=>whnf
 refine ⟨?_,?_,trivial⟩
 ·refine WLd.mk _ ht ?_
  conv=>whnf
  refine ⟨?_,trivial⟩
  exact WRet.same fin
 ·refine WLd.mk _ ht ?_
  exact WRet.same fin
end
def rqPart:Nat→IR:=fun k=>match k,ir_biremeref26_Same.body with
 | 0,.seq a _=>a
 | 1,.seq _ (.seq a _)=>a
 | 2,.seq _ (.seq _ (.seq a _))=>a
 | _,.seq _ (.seq _ (.seq _ r))=>r
 | _,r=>r
theorem rq_body:ir_biremeref26_Same.body=.seq (rqPart 0) (.seq (rqPart 1) (.seq (rqPart 2) (rqPart 3))):=rfl
section
variable {m:Mem} {V W:CV} {C:CodeR}
theorem rq1_ok (hV:CodeAt m V C) (hW:CodeAt m W C) {rs:List Res} {RR:Ending→Mem→Prop} {R:IR} (T:wpI Tryz.prog R (retPost rs RR) (envL [(2,.var (V.cells C)),(3,.var (W.cells C))]) m) :
  wpI Tryz.prog (.seq (rqPart 0) (.seq (rqPart 1) R)) (retPost rs RR) (envOf [V.val C,W.val C]) m:=by
 have n1:=hV.n1
 have n2:=hV.n2
 have k1:=hW.n1
 have k2:=hW.n2
 refine WSc.mk (v:=C.rg != C.rg) (fun _=>And.intro (Mem.le.refl _) rfl) ?_
 refine WSc.mk (v:=C.cd != C.cd) (fun _=>And.intro (Mem.le.refl _) rfl) ?_
 refine WSc.mk (v:=C.sp != C.sp) (fun _=>And.intro (Mem.le.refl _) rfl) ?_
 refine WSc.mk (v:=(V.n1:Int) != (W.n1:Int)) (fun _=>And.intro (Mem.le.refl _) rfl) ?_
 refine WSc.mk (v:=(V.n2:Int) != (W.n2:Int)) (fun _=>And.intro (Mem.le.refl _) rfl) ?_
 refine Br.mk (fun hh=>?_) (fun _=>?_)
 ·have hh:(((((C.pr != C.pr||C.rg != C.rg)||C.cd != C.cd)||C.sp != C.sp)||(V.n1:Int) != (W.n1:Int))||(V.n2:Int) != (W.n2:Int))=true:=hh
  rw [n1,n2,k1,k2] at hh
  simp at hh
 conv=>whnf
 exact rest_envL T ⟨rfl,rfl,trivial⟩
theorem rq2_ok (hV:CodeAt m V C) (hW:CodeAt m W C) {rs:List Res} {RR:Ending→Mem→Prop} {R:IR} (T:wpI Tryz.prog R (retPost rs RR) (envL [(2,.var (V.cells C)),(3,.var (W.cells C))]) m) :
  wpI Tryz.prog (.seq (rqPart 2) R) (retPost rs RR) (envL [(2,.var (V.cells C)),(3,.var (W.cells C))]) m:=by
 have n1:=hV.n1
 have k1:=hW.n1
 have z1:IAt m (.slice V.a1 C.sz.length V.c1) C.sz:=by have:=hV.sz;rw [n1] at this;exact this
 have z2:IAt m (.slice W.a1 C.sz.length W.c1) C.sz:=by have:=hW.sz;rw [k1] at this;exact this
 obtain ⟨a1,c1,e1,p0,p1,_⟩:=z1
 injection e1 with e11 _ e13
 obtain ⟨a2,c2,e2,q0,q1,_⟩:=z2
 injection e2 with e21 _ e23
 refine WLoop.mk Nat (fun k=>[(5,.val (i k))]) (fun k m'=>m=m'∧k≤C.sz.length) (fun k=>C.sz.length - k) 0 ⟨rfl,trivial⟩ ⟨rfl,Nat.zero_le _⟩ ?_
 rintro k m' ⟨rfl,hk⟩
 have hl:=hV.szl
 refine Br.mk (fun hb=>?_) (fun hb=>?_)
 ·have hk2:k<C.sz.length:=by
   have:(k:Int)<(V.n1:Nat):=of_decide_eq_true hb
   omega
  obtain ⟨ad,had⟩:∃ ad,V.a1=some ad:=by
   cases hh:V.a1 with
   | none=>rw [p0 (e11.symm.trans hh)] at hk2;simp at hk2
   | some ad=>exact ⟨ad,rfl⟩
  obtain ⟨bd,hbd⟩:∃ bd,W.a1=some bd:=by
   cases hh:W.a1 with
   | none=>rw [q0 (e21.symm.trans hh)] at hk2;simp at hk2
   | some bd=>exact ⟨bd,rfl⟩
  refine WIdx.mk ad had ⟨by omega,by omega⟩ ?_
  refine WLd.mk (i C.sz[k]) (by simpa using IAt.cell (p1 ad (e11.symm.trans had)) hk2) ?_
  refine WIdx.mk bd hbd ⟨by omega,by omega⟩ ?_
  refine WLd.mk (i C.sz[k]) (by simpa using IAt.cell (q1 bd (e21.symm.trans hbd)) hk2) ?_
  refine Br.mk (fun hh=>?_) (fun _=>?_)
  ·have hh:(C.sz[k] != C.sz[k])=true:=hh
   simp at hh
  refine WRng.mk (by apply wrap_i64<;>omega) ?_
  conv=>whnf
  exact ⟨k+1,⟨rfl,trivial⟩,⟨rfl,hk2⟩,Nat.sub_lt_sub_left hk2 (Nat.lt_succ_self k)⟩
 ·conv=>whnf
  exact rest_envL T ⟨rfl,rfl,trivial⟩
theorem refSame_ok (hV:CodeAt m V C) (hW:CodeAt m W C) (hol:∀ w∈C.ws,w.ops.length≤400):PureM Tryz.prog 21 [V.val C,W.val C] m (.bool true):=by
 refine calls_of mixed Tryz.func21 ok_biremeref26_Same rfl ?_
 unfold Fn.asks
 rw [rq_body]
 refine rq1_ok hV hW (rq2_ok hV hW ?_)
 have n2:=hV.n2
 have k2:=hW.n2
 have hl:=hV.wsl
 generalize hRR:(fun (e:Ending) (m':Mem)=>e=.returned (.bool true)∧m'=m)=RR
 have fin:RR (.returned (.bool true)) m:=by rw [← hRR];exact ⟨rfl,rfl⟩
 refine WLoop.mk Nat (fun k=>[(6,.val (i k))]) (fun k m'=>m=m'∧k≤C.ws.length) (fun k=>C.ws.length - k) 0 ⟨rfl,trivial⟩ ⟨rfl,Nat.zero_le _⟩ ?_
 rintro k m' ⟨rfl,hk⟩
 refine Br.mk (fun hb=>?_) (fun hb=>?_)
 ·have hk2:k<C.ws.length:=by
   have:(k:Int)<(V.n2:Nat):=of_decide_eq_true hb
   omega
  obtain ⟨ad,a3,c3,had,hcv,hov⟩:=word_cells hV hk2
  obtain ⟨bd,b3,d3,hbd,hcw,how⟩:=word_cells hW hk2
  have hol2:=hol _ (wordAt_mem hk2)
  generalize wordAt C k=w at *
  have hv0:CellAt m (ad.add (k * 2)) (.slice a3 w.ops.length c3):=by have:=hcv 0 _ rfl;rw [add_add] at this;exact this
  have hv1:CellAt m ((ad.add (k * 2)).add 1) (i w.ct):=hcv 1 _ rfl
  have hw0:CellAt m (bd.add (k * 2)) (.slice b3 w.ops.length d3):=by have:=hcw 0 _ rfl;rw [add_add] at this;exact this
  have hw1:CellAt m ((bd.add (k * 2)).add 1) (i w.ct):=hcw 1 _ rfl
  have hv0':CellAt m ((ad.add (k * 2)).add 0) (.slice a3 w.ops.length c3):=hcv 0 _ rfl
  have hw0':CellAt m ((bd.add (k * 2)).add 0) (.slice b3 w.ops.length d3):=hcw 0 _ rfl
  obtain ⟨_,_,e1,p0,p1,_⟩:=hov
  injection e1 with e11 _ e13
  subst e11;subst e13
  obtain ⟨_,_,e2,q0,q1,_⟩:=how
  injection e2 with e21 _ e23
  subst e21;subst e23
  refine WIdx.mk ad had ⟨by omega,by omega⟩ ?_
  refine WLd.mk _ hv1 ?_
  refine WIdx.mk bd hbd ⟨by omega,by omega⟩ ?_
  refine WLd.mk _ hw1 ?_
  refine Br.mk (fun hh=>?_) (fun _=>?_)
  ·have hh:(w.ct != w.ct)=true:=hh
   simp at hh
  refine WIdx.mk ad had ⟨by omega,by omega⟩ ?_
  refine WLd.mk _ hv0' ?_
  refine WIdx.mk bd hbd ⟨by omega,by omega⟩ ?_
  refine WLd.mk _ hw0' ?_
  refine Br.mk (fun hh=>by cases hh) (fun _=>?_)
  refine Br.mk (fun hh=>?_) (fun _=>?_)
  ·have hh:((w.ops.length:Int) != (w.ops.length:Int))=true:=hh
   simp at hh
  refine WLoop.mk Nat (fun j=>[(7,.val (i j))]) (fun j m'=>m=m'∧j≤w.ops.length) (fun j=>w.ops.length - j) 0 ⟨rfl,trivial⟩ ⟨rfl,Nat.zero_le _⟩ ?_
  rintro j m' ⟨rfl,hj⟩
  refine WIdx.mk ad had ⟨by omega,by omega⟩ ?_
  refine WLd.mk _ hv0' ?_
  refine Br.mk (fun hx=>?_) (fun hx=>?_)
  ·have hj2:j<w.ops.length:=by
    have:(j:Int)<(w.ops.length:Nat):=of_decide_eq_true hx
    omega
   obtain ⟨aa,rfl⟩:∃ aa,a3=some aa:=by
    cases a3 with
    | none=>rw [p0 rfl] at hj2;simp at hj2
    | some aa=>exact ⟨aa,rfl⟩
   obtain ⟨ba,rfl⟩:∃ ba,b3=some ba:=by
    cases b3 with
    | none=>rw [q0 rfl] at hj2;simp at hj2
    | some ba=>exact ⟨ba,rfl⟩
   have hcj:=OAt.cells (p1 aa rfl) hj2
   have hdj:=OAt.cells (q1 ba rfl) hj2
   generalize w.ops[j]=o at *
   refine WIdx.mk ad had ⟨by omega,by omega⟩ ?_
   refine WLd.mk _ hv0' ?_
   refine WIdx.mk aa rfl ⟨by omega,by omega⟩ ?_
   refine WLds.mk _ (by simpa using hcj) rfl ?_
   refine WIdx.mk bd hbd ⟨by omega,by omega⟩ ?_
   refine WLd.mk _ hw0' ?_
   refine WIdx.mk ba rfl ⟨by omega,by omega⟩ ?_
   refine WLds.mk _ (by simpa using hdj) rfl ?_
   refine Br.mk (fun hh=>?_) (fun _=>?_)
   ·have hh:(!(o.kd==o.kd&&(o.ds==o.ds&&(o.a==o.a&&(o.b==o.b&&(o.c==o.c&&(o.n==o.n&&(o.gd==o.gd&&true))))))))=true:=hh
    simp at hh
   refine WRng.mk (by apply wrap_i64<;>omega) ?_
   conv=>whnf
   exact ⟨j+1,⟨rfl,trivial⟩,⟨rfl,hj2⟩,Nat.sub_lt_sub_left hj2 (Nat.lt_succ_self j)⟩
  ·refine WRng.mk (by apply wrap_i64<;>omega) ?_
   conv=>whnf
   exact ⟨k+1,⟨rfl,trivial⟩,⟨rfl,hk2⟩,Nat.sub_lt_sub_left hk2 (Nat.lt_succ_self k)⟩
 ·exact WRet.same fin
end
end Go.Proofs.YtleofbpepfmfgaaGreatDoor
