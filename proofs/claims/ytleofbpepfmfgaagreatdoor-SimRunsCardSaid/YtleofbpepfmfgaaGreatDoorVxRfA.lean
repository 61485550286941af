import Derived.Test.YtleofbpepfmfgaaGreatDoorVxRfN
import Derived.Test.YtleofbpepfmfgaaGreatDoorVxSimDo
set_option linter.unusedSimpArgs false
set_option linter.unusedVariables false
set_option maxRecDepth 100000
namespace Go.Proofs.YtleofbpepfmfgaaGreatDoor
open Go Go.Vx
open Go.Vx.IOp Go.Vx.IR Go.Vx.Opd
section
variable {m0 m m':Mem} {V:CV} {C:CodeR} {M:Mac} {sv:Value} {lw:Int} {p:Nat} {H:HdF} {s s':St} {sh:List Int}
theorem rfSettle_ok (h:RfAt m0 m V C M sv lw p H s) (hw:∀ w∈s.way,w.rg<s.regs.length) (hl:s.way.length≤1000000000000) :
  CallsM Tryz.prog 35 [ptr p] m fun e m'=>e=.returned unitV∧RfGoes m0 V C M sv lw p m H s m' (H.upd 4 ⟨none,0⟩) (settleS s):=by
 refine calls_of mixed Tryz.func35 ok_biremeref27_Sim_Settle rfl ?_
 refine WLoop.mk Nat (fun k=>[(2,.val (i k))]) (fun k m'=>k≤s.way.length∧RfGoes m0 V C M sv lw p m H s m' H { s with regs:=putsS s.regs (s.way.take k) }) (fun k=>s.way.length - k) 0 ⟨rfl,trivial⟩ ⟨Nat.zero_le _,RfGoes.refl h⟩ ?_
 rintro k m1 ⟨hk,G⟩
 have h1:=G.at'
 refine WLd.mk (hv H s 4) (h1.cell rfl) ?_
 refine Br.mk (fun hb=>?_) (fun hb=>?_)
 ·have hk2:k<s.way.length:=by
   have:(k:Int)<(s.way.length:Nat):=of_decide_eq_true hb
   omega
  obtain ⟨ad,ha,hc⟩:=h1.wayCells (r:=k) hk2
  have hr:(s.way[k]).rg<({ s with regs:=putsS s.regs (s.way.take k) }:St).regs.length:=by show _<(putsS _ _).length;rw [puts_len];exact hw _ (List.getElem_mem hk2)
  obtain ⟨ar,har,_⟩:=h1.regCells hr
  refine WLd.mk (hv H { s with regs:=putsS s.regs (s.way.take k) } 1) (h1.cell rfl) ?_
  refine WLd.mk (hv H s 4) (h1.cell rfl) ?_
  refine WIdx.mk ad ha ⟨by omega,by show (k:Int)<(s.way.length:Nat);omega⟩ ?_
  refine WLd.mk (i ((s.way[k]).rg:Int)) (hc 0 _ rfl) ?_
  refine WLd.mk (hv H s 4) (h1.cell rfl) ?_
  refine WIdx.mk ad ha ⟨by omega,by show (k:Int)<(s.way.length:Nat);omega⟩ ?_
  refine WLds.mk (s.way[k]).v.cells (fun q v hq=>?_) rfl ?_
  ·rw [add_add]
   have hq2:q<2:=(List.getElem?_eq_some_iff.1 hq).1
   refine hc (2+q) v ?_
   have:q=0∨q=1:=by omega
   rcases this with rfl | rfl<;>exact hq
  refine WIdx.mk ar har ⟨by omega,by show ((s.way[k]).rg:Int)<(numS { s with regs:=putsS s.regs (s.way.take k) } 1:Nat);exact Int.ofNat_lt.2 hr⟩ ?_
  conv=>whnf
  refine ⟨?_,trivial⟩
  conv=>whnf
  refine h1.setReg hr har rfl fun m2 G2=>?_
  refine WRng.mk (by apply wrap_i64<;>omega) ?_
  conv=>whnf
  refine ⟨k+1,⟨rfl,trivial⟩,⟨hk2,?_⟩,Nat.sub_lt_sub_left hk2 (Nat.lt_succ_self k)⟩
  have:=G.trans G2
  rw [putsS_take hk2]
  exact this
 ·have hk2:k=s.way.length:=by
   have:¬ (k:Int)<(s.way.length:Nat):=of_decide_eq_false hb
   omega
  subst hk2
  rw [List.take_length] at h1 G
  refine WSt.at _ _ h1.hp (show 21+1≤29 by decide) ?_
  have G2:=h1.dropWay (s':=settleS s) (o:=Cells (spliceL (rfCells V C M sv lw H { s with regs:=putsS s.regs s.way }) 21 (cellsL ns)) TRf) rfl (fun j hj=>by
   match j,hj with
   | 0,_=>exact ⟨rfl,rfl⟩
   | 1,_=>exact ⟨rfl,rfl⟩
   | 2,_=>exact ⟨rfl,rfl⟩
   | 3,_=>exact ⟨rfl,rfl⟩
   | j+5,_=>exact ⟨rfl,rfl⟩) rfl rfl rfl
  exact WRet.same ⟨rfl,G.trans G2⟩
theorem rfEnd_ok (h:RfAt m0 m V C M sv lw p H s) (hlw:s.word=lw) (he:s.ended=false) (kind n:Int) :
  CallsM Tryz.prog 117 [ptr p,i kind,i n] m fun e m'=>e=.returned unitV∧RfGoes m0 V C M sv lw p m H s m' (H.upd 4 ⟨none,0⟩) (endS s kind n):=by
 refine calls_of mixed Tryz.func117 ok_biremeref27_Sim_end rfl ?_
 have hwl:wordR lw s=lw:=by unfold wordR;rw [he];exact hlw
 conv=>whnf
 rw [add_add]
 refine WSt.at _ _ h.hp (show 27+1≤29 by decide) ?_
 conv=>whnf
 rw [add_add]
 refine WSt.at _ _ (Mem.set_same _ _ _) (show 28+1≤29 by decide) ?_
 rw [Mem.set2]
 refine WSt.at _ _ (Mem.set_same _ _ _) (show 25+1≤29 by decide) ?_
 rw [Mem.set2]
 refine WSt.at _ _ (Mem.set_same _ _ _) (show 21+1≤29 by decide) ?_
 rw [Mem.set2]
 have G2:=h.dropWay (s':=endS s kind n) (o:=Cells (rfCells V C M sv lw (H.upd 4 ⟨none,0⟩) (endS s kind n)) TRf) rfl (fun j hj=>by
  match j,hj with
  | 0,_=>exact ⟨rfl,rfl⟩
  | 1,_=>exact ⟨rfl,rfl⟩
  | 2,_=>exact ⟨rfl,rfl⟩
  | 3,_=>exact ⟨rfl,rfl⟩
  | j+5,_=>exact ⟨rfl,rfl⟩) rfl rfl rfl
 have e1:spliceL (spliceL (spliceL (spliceL (rfCells V C M sv lw H s) 27 [i kind]) 28 [i n]) 25 [.bool true]) 21 [ns]=rfCells V C M sv lw (H.upd 4 ⟨none,0⟩) (endS s kind n):=by
  unfold rfCells;rw [hwl];rfl
 refine WRet.same ⟨rfl,?_⟩
 rw [← e1] at G2
 exact G2
theorem rfLat_ok (h:RfAt m0 m V C M sv lw p H s) (hB:SimBase m0 V C M sv sh) (kd:Int) :
  PureM Tryz.prog 145 [ptr p,i (classS kd).1] m (i (latS M sh s.begun kd)):=by
 refine calls_of mixed Tryz.func145 ok_biremeref27_Sim_latency rfl ?_
 have hc:=class_in kd
 obtain ⟨q,hq,hq4⟩:∃ q:Nat,(classS kd).1=q∧q<4:=⟨(classS kd).1.toNat,by omega,by omega⟩
 obtain ⟨a,c,hsv,hs0,hs1,hs2⟩:=hB.shown.mono h.le
 have hy:=lat_in hB.mac hq4
 rw [hq]
 refine WBnd.mk ⟨by omega,by omega⟩ ?_
 refine WLd.mk (i (M.lat q)) ?_ ?_
 ·rw [add_add,add_add]
  have hq5:q=0∨q=1∨q=2∨q=3:=by omega
  rcases hq5 with rfl | rfl | rfl | rfl<;>exact h.cell rfl
 refine WLd.mk sv (h.cell rfl) ?_
 rw [hsv]
 refine Br.mk (fun hb=>?_) (fun hb=>?_)
 ·have h0:sh=[]:=by
   have:((sh.length:Nat):Int)=0:=by simpa using hb
   exact List.length_eq_zero_iff.1 (by omega)
  refine WRet.same ⟨?_,rfl⟩
  unfold latS
  rw [if_pos h0,hq,Int.toNat_natCast]
  rfl
 ·have h0:sh≠[]:=fun e=>by subst e;simp at hb
  have hlen:0<sh.length:=List.length_pos_iff.2 h0
  obtain ⟨ad,rfl⟩:∃ ad,a=some ad:=by
   cases a with
   | none=>exact absurd (hs0 rfl) h0
   | some ad=>exact ⟨ad,rfl⟩
  have hmod:s.begun % sh.length<sh.length:=Nat.mod_lt _ hlen
  have e1:((s.begun:Nat):Int).tmod ((sh.length:Nat):Int)=((s.begun % sh.length:Nat):Int):=rfl
  refine WLd.mk sv (h.cell rfl) ?_
  rw [hsv]
  refine WLd.mk (i (s.begun:Int)) (h.cell rfl) ?_
  refine WLd.mk sv (h.cell rfl) ?_
  rw [hsv]
  refine WNe.mk (by omega) ?_
  rw [e1]
  refine WIdx.mk ad rfl ⟨by omega,by omega⟩ ?_
  refine WLd.mk (i (sh.getD (s.begun % sh.length) 0)) ?_ ?_
  ·have:=IAt.cell (hs1 ad rfl) hmod
   rw [List.getD_eq_getElem?_getD,List.getElem?_eq_getElem hmod]
   rw [Int.toNat_natCast,Nat.mul_one]
   exact this
  refine WRet.same ⟨?_,rfl⟩
  show Ending.returned (i _)=.returned (i _)
  unfold latS
  rw [if_neg h0,hq,Int.toNat_natCast]
  congr 2
  generalize sh.getD (s.begun % sh.length) 0=z
  generalize M.lat q=y at hy
  show (if (if z<y then z else y)>(1:Int) then (if z<y then z else y) else 1)=_
  split<;>split at *<;>omega
theorem rfGive_ok (h:RfAt m0 m V C M sv lw p H s) (hB:SimBase m0 V C M sv sh) {k:Nat} (hl:LimS s k) (hk:k≤1000000000) (o:OpR) (hds:0≤o.ds) (v:VR) :
  CallsM Tryz.prog 119 [ptr p,o.val,v.val] m fun e m'=>e=.returned unitV∧∃ H',RfGoes m0 V C M sv lw p m H s m' H' (giveS M sh s o v):=by
 refine calls_of mixed Tryz.func119 ok_biremeref27_Sim_begin rfl ?_
 obtain ⟨q1,q2⟩:=lat_le (sh:=sh) hB.mac s.begun o.kd
 obtain ⟨l1,l2,l3,l4⟩:=hl
 have hlat:=rfLat_ok h hB o.kd
 have ht:CellAt m ((⟨p,0,none⟩:Addr).add 22) (i (s.took:Int)):=h.cell rfl
 refine WCall.pure (refClass_ok m o.kd) ?_
 unfold pairV
 generalize (classS o.kd).1=q at hlat ⊢
 refine WLd.mk (hv H s 4) (h.cell rfl) ?_
 repeat' (conv=>whnf
          first
          | exact trivial
          | (refine WLd.mk _ ht ?_)
          | (refine WCallG.pure hlat ?_)
          | (refine WRng.mk (by apply wrap_i64<;>omega) ?_)
          | (refine WNew.ab fun bx mx hbx lx cx=>?_
             have hw:[i o.ds,i ((s.took:Int)+latS M sh s.begun o.kd),i v.n,i v.b]=WayR.cellsR ⟨o.ds.toNat,v,s.took+(latS M sh s.begun o.kd).toNat⟩:=by
              unfold WayR.cellsR
              rw [Int.toNat_of_nonneg hds,show ((s.took+(latS M sh s.begun o.kd).toNat:Nat):Int)=(s.took:Int)+latS M sh s.begun o.kd by omega]
             have cx:mx bx=some (Cells [i o.ds,i ((s.took:Int)+latS M sh s.begun o.kd),i v.n,i v.b] TRfRes):=cx
             rw [hw] at cx
             conv=>whnf
             refine ⟨?_,trivial⟩
             conv=>whnf
             refine (h.mono lx).pushWay cx (by omega) fun b' c' m2 hst=>?_
             conv=>whnf
             refine ⟨?_,trivial⟩
             conv=>whnf
             refine hst _ fun m3 H3 G3=>?_
             refine WLd.mk (i (s.begun:Int)) (G3.at'.cell rfl) ?_
             refine WRng.mk (by apply wrap_i64<;>omega) ?_
             conv=>whnf
             refine G3.at'.setInt (giveS M sh s o v) rfl (show 23+1≤29 by decide) rfl rfl rfl rfl rfl fun m4 G4=>?_
             exact WRet.same ⟨rfl,H3,(h.goesMono lx).trans (G3.trans G4)⟩)
          | (refine And.intro ?_ ?_))
end
def Lst0 (m:Mem) (T sz:Nat) (a:Option Addr) (n c:Nat) (L:List Value):Prop :=
 (a=none∧n=0∧c=0∧L=[])∨∃ b rest,a=some ⟨b,0,none⟩∧m b=some (Cells (L++rest) T)∧L.length=n * sz∧n≤c∧L.length+rest.length=c * sz
theorem Lst0.push {m:Mem} {T sz n c bx bytes:Nat} {a:Option Addr} {L x zero:List Value} {K:Value→Mem→Prop} (h:Lst0 m T sz a n c L) (hz:zero.length=sz) (hx:m bx=some (Cells x T)) (hxl:x.length=sz) (hx1:oneL x=true) (hlen:(n+1) * bytes≤35184372088832)
  (k:∀ b' c' m',Lst0 m' T sz (some ⟨b',0,none⟩) (n+1) c' (L++x)→(m b'=none∨a=some ⟨b',0,none⟩)→(∀ b,b≠b'→m' b=m b)→K (.slice (some ⟨b',0,none⟩) (n+1) c') m') :
  WApp m T sz bytes zero a n c (some ⟨bx,0,none⟩) 1 K:=by
 have hnew:FirstCells m (some ⟨bx,0,none⟩) (1 * sz) x:=⟨by omega,fun ad had=>by cases had;exact CellsAt.blk hx fun j v hj=>by rw [Nat.zero_add];exact hj⟩
 have hm1:(n+1) * sz=n * sz+sz:=by rw [Nat.add_mul,Nat.one_mul]
 have grow:L.length=n * sz→(∀ ad,a=some ad→CellsAt m ad L)→(a=none→n=0)→c<n+1→WApp m T sz bytes zero a n c (some ⟨bx,0,none⟩) 1 K:=fun hl hc h0 hcc=>by
  refine WApp.grow _ hnew (fun h=>by cases h) hcc hlen L ⟨hl,hc⟩ h0 fun b2 c2 hb2 hc2=>?_
  refine k b2 c2 _ (.inr ⟨b2,(List.replicate (c2 - (n+1)) zero).flatten,rfl,Mem.set_same _ _ _,by rw [List.length_append,hl,hxl,hm1],hc2,?_⟩) (.inl hb2) fun b hb=>Mem.set_other _ _ hb
  rw [List.length_append,repl_len,hz,hl,hxl,← hm1,← Nat.add_mul,show n+1+(c2 - (n+1))=c2 by omega]
 rcases h with ⟨rfl,rfl,rfl,rfl⟩ | ⟨b,rest,rfl,hm,hl,hc0,hr⟩
 ·exact grow (by simp) (fun ad h=>by cases h) (fun _=>rfl) (by omega)
 ·by_cases hcc:n+1≤c
  ·have h1:(n+1) * sz≤c * sz:=Nat.mul_le_mul_right sz hcc
   refine WApp.in (ad:=⟨b,0,none⟩) _ hnew (fun h=>by cases h) _ _ hcc hm rfl (by simp;omega) hx1 ?_
   have e:spliceL (L++rest) (0+n * sz) x=(L++x)++rest.drop sz:=by
    rw [spliceL_eq _ _ _ (by simp;omega),Nat.zero_add,← hl,List.take_left' rfl,← List.drop_drop,List.drop_left' rfl,hxl]
   refine k b c _ (.inr ⟨b,rest.drop sz,rfl,by rw [Mem.set_same,e],by rw [List.length_append,hl,hxl,hm1],hcc,?_⟩) (.inr rfl) fun b3 hb3=>Mem.set_other _ _ hb3
   rw [List.length_append,List.length_drop,hxl];omega
  ·exact grow hl (fun ad ha=>by cases ha;exact CellsAt.blk hm fun j v hj=>by rw [Nat.zero_add,List.getElem?_append_left (List.getElem?_eq_some_iff.1 hj).1];exact hj) (fun h=>by cases h) (by omega)
section
variable {m0 m m' m2 m3:Mem} {V:CV} {C:CodeR} {M:Mac} {sv:Value} {lw:Int} {p:Nat} {H:HdF} {s s' s1:St} {sh:List Int}
theorem RfGoes.extra (G:RfGoes m0 V C M sv lw p m H s m2 H s1) (h:RfAt m0 m V C M sv lw p H s) (hx:∀ b o,m2 b=some o→m b≠none→m3 b=some o) (hf:∀ b,FootS p H s1 b→FootS p H s b):RfGoes m0 V C M sv lw p m H s m3 H s1:=by
 have hk:Keep (FootS p H s) m m3:=fun b o hb hn=>hx b o (G.keep b o hb hn) (by rw [hb];intro e;cases e)
 refine ⟨G.at'.same (hk.le h.le h.nw) fun b o hb ho=>hx b o ho ?_,hk,G.new⟩
 obtain ⟨o',ho'⟩:=h.live (hf b hb)
 rw [ho'];intro e;cases e
theorem RfGoes.takeWay (G:RfGoes m0 V C M sv lw p m H s m2 H s1) (h:RfAt m0 m V C M sv lw p H s) (hf1:∀ b,FootS p H s1 b↔FootS p H s b) {W:List WayR} {b c:Nat} {rest:List Value} (hb:m b=none) (hm:m2 b=some (Cells (flatL WayR.cellsR W++rest) TRfRes)) (hc:W.length≤c) (hr:(flatL WayR.cellsR W).length+rest.length=c * 4) :
  RfGoes m0 V C M sv lw p m H s (m2.set p (Cells (rfCells V C M sv lw (H.upd 4 ⟨some ⟨b,0,none⟩,c⟩) { s1 with way:=W }) TRf)) (H.upd 4 ⟨some ⟨b,0,none⟩,c⟩) { s1 with way:=W }:=by
 have h1:=G.at'
 have hnf:¬ FootS p H s1 b:=fun hf=>by
  obtain ⟨o,ho⟩:=h.live ((hf1 b).1 hf)
  rw [hb] at ho;cases ho
 have hpb:p≠b:=fun e=>hnf (.inl e.symm)
 have hdel:∀ x,x≠b→(m2.del b) x=m2 x:=fun x hx=>by unfold Mem.del;rw [if_neg hx]
 have hdb:(m2.del b) b=none:=by unfold Mem.del;rw [if_pos rfl]
 have hd:RfAt m0 (m2.del b) V C M sv lw p H s1:=h1.same (fun x o hx=>by
   have hxb:x≠b:=fun e=>by subst e;rw [h.le _ _ hx] at hb;cases hb
   rw [hdel x hxb];exact h1.le _ _ hx) fun x o hf hx=>by
   have hxb:x≠b:=fun e=>hnf (by rw [← e];exact hf)
   rw [hdel x hxb];exact hx
 have R:=hd.relist (s':={ s1 with way:=W }) (k:=4) (b:=b) (c:=c) (rest:=rest) (m':=m2.set p (Cells (rfCells V C M sv lw (H.upd 4 ⟨some ⟨b,0,none⟩,c⟩) { s1 with way:=W }) TRf)) (by decide) rfl (fun j hj=>cont_wayR H s1 W s1.begun j hj) (.inl hdb)
  (by rw [Mem.set_other _ _ hpb.symm];exact hm) (Mem.set_same _ _ _) (fun x e1 e2=>by rw [Mem.set_other _ _ e2,hdel x e1]) (flat_len wr_lenR _) hc hr (fun _=>rfl) (fun e=>absurd rfl e)
 refine ⟨R.at',fun x o hx hn=>?_,fun x hx=>?_⟩
 ·have hxb:x≠b:=fun e=>by subst e;rw [hb] at hx;cases hx
  exact R.keep x o (by rw [hdel x hxb];exact G.keep x o hx hn) fun hf=>hn ((hf1 x).1 hf)
 ·rcases R.new x hx with g | g
  ·exact .inl ((hf1 x).1 g)
  ·by_cases hxb:x=b
   ·subst hxb;exact .inr hb
   ·rw [hdel x hxb] at g
    cases hh:m x with
    | none=>exact .inr rfl
    | some o =>
     by_cases hf:FootS p H s x
     ·exact .inl hf
     ·rw [G.keep x o hh hf] at g;cases g
theorem rfArrive_ok (h:RfAt m0 m V C M sv lw p H s) (hw:∀ w∈s.way,w.rg<s.regs.length) (hl:s.way.length≤1000000000) :
  CallsM Tryz.prog 87 [ptr p] m fun e m'=>e=.returned unitV∧∃ H',RfGoes m0 V C M sv lw p m H s m' H' (arriveS s):=by
 refine calls_of mixed Tryz.func87 ok_biremeref27_Sim_arrive rfl ?_
 have hfoot:∀ R b,FootS p H ({ s with regs:=R }:St) b→FootS p H s b:=fun R b hb=>hb
 refine WLoop.mk (Nat×Option Addr×Nat) (fun x=>[(2,.val (.slice x.2.1 (leftW s.took (s.way.take x.1)).length x.2.2)),(3,.val (i x.1))]) (fun x m'=>x.1≤s.way.length∧RfGoes m0 V C M sv lw p m H s m' H { s with regs:=putsS s.regs (dueW s.took (s.way.take x.1)) } ∧
   Lst0 m' TRfRes 4 x.2.1 (leftW s.took (s.way.take x.1)).length x.2.2 (flatL WayR.cellsR (leftW s.took (s.way.take x.1)))∧∀ ad,x.2.1=some ad→m ad.block=none) (fun x=>s.way.length - x.1) (0,none,0) ⟨rfl,rfl,trivial⟩ ⟨Nat.zero_le _,RfGoes.refl h,.inl ⟨rfl,rfl,rfl,rfl⟩,fun ad h=>by cases h⟩ ?_
 rintro ⟨k,a,c⟩ m1 ⟨hk,G,hL,hfr⟩
 simp only at hk G hL hfr
 have h1:=G.at'
 refine WLd.mk (hv H s 4) (h1.cell rfl) ?_
 refine Br.mk (fun hb=>?_) (fun hb=>?_)
 ·have hk2:k<s.way.length:=by
   have:(k:Int)<(s.way.length:Nat):=of_decide_eq_true hb
   omega
  obtain ⟨ad,ha,hc⟩:=h1.wayCells (r:=k) hk2
  have hds:=due_succ (k:=s.took) hk2
  have hls:=left_succ (k:=s.took) hk2
  have hr:(s.way[k]).rg<({ s with regs:=putsS s.regs (dueW s.took (s.way.take k)) }:St).regs.length:=by show _<(putsS _ _).length;rw [puts_len];exact hw _ (List.getElem_mem hk2)
  have hc:CellsAt m1 (ad.add (k * 4)) (s.way[k]).cellsR:=hc
  generalize hwk:s.way[k]=w at *
  obtain ⟨ar,har,_⟩:=h1.regCells hr
  refine WLd.mk (hv H s 4) (h1.cell rfl) ?_
  refine WIdx.mk ad ha ⟨by omega,by show (k:Int)<(s.way.length:Nat);omega⟩ ?_
  refine WLds.mk w.cellsR (by simpa using hc) rfl ?_
  refine WLd.mk (i (s.took:Int)) (h1.cell rfl) ?_
  refine Br.mk (fun ht=>?_) (fun ht=>?_)
  ·have ht2:w.t≤s.took:=by
    have:(w.t:Int)≤(s.took:Int):=of_decide_eq_true ht
    omega
   rw [if_pos ht2] at hds hls
   refine WLd.mk (hv H { s with regs:=putsS s.regs (dueW s.took (s.way.take k)) } 1) (h1.cell rfl) ?_
   refine WIdx.mk ar har ⟨by omega,by show (w.rg:Int)<(numS { s with regs:=putsS s.regs (dueW s.took (s.way.take k)) } 1:Nat);exact Int.ofNat_lt.2 hr⟩ ?_
   conv=>whnf
   refine ⟨?_,trivial⟩
   conv=>whnf
   refine h1.setReg hr har rfl fun m2 G2=>?_
   refine WRng.mk (by apply wrap_i64<;>omega) ?_
   conv=>whnf
   refine ⟨(k+1,a,c),⟨?_,rfl,trivial⟩,⟨hk2,?_,?_,hfr⟩,Nat.sub_lt_sub_left hk2 (Nat.lt_succ_self k)⟩
   ·show some (AV.val (.slice a (leftW s.took (s.way.take k)).length c))=some (AV.val (.slice a (leftW s.took (s.way.take (k+1))).length c))
    rw [hls]
   ·have:=G.trans G2
    show RfGoes m0 V C M sv lw p m H s m2 H { s with regs:=putsS s.regs (dueW s.took (s.way.take (k+1))) }
    rw [hds,puts_snoc];exact this
   ·show Lst0 m2 TRfRes 4 a (leftW s.took (s.way.take (k+1))).length c (flatL WayR.cellsR (leftW s.took (s.way.take (k+1))))
    rw [hls]
    rcases hL with hL | ⟨b,rest,e1,e2,e3,e4,e5⟩
    ·exact .inl hL
    ·refine .inr ⟨b,rest,e1,G2.keep b _ e2 fun hf=>?_,e3,e4,e5⟩
     obtain ⟨o,ho⟩:=h.live (hfoot _ b hf)
     rw [hfr _ e1] at ho;cases ho
  ·have ht2:¬ w.t≤s.took:=by
    have:¬ (w.t:Int)≤(s.took:Int):=of_decide_eq_false ht
    omega
   rw [if_neg ht2] at hds hls
   have hll:=left_len s.took s.way k
   refine WNew.ab fun bx mx hbx lx cx=>?_
   have cx2:mx bx=some (Cells w.cellsR TRfRes):=cx
   have hLx:Lst0 mx TRfRes 4 a (leftW s.took (s.way.take k)).length c (flatL WayR.cellsR (leftW s.took (s.way.take k))):=by
    rcases hL with hL | ⟨b,rest,e1,e2,e3⟩
    ·exact .inl hL
    ·exact .inr ⟨b,rest,e1,lx _ _ e2,e3⟩
   conv=>whnf
   refine hLx.push rfl cx2 rfl rfl (by omega) fun b' c' m2 hL2 hb' hx2=>?_
   have hmb:m b'=none:=by
    rcases hb' with hb' | hb'
    ·have h1n:m1 b'=none:=none_of_le lx hb'
     cases hh:m b' with
     | none=>rfl
     | some o =>
      by_cases hf:FootS p H s b'
      ·obtain ⟨o2,ho2⟩:=h1.live (show FootS p H { s with regs:=putsS s.regs (dueW s.took (s.way.take k)) } b' from hf)
       rw [h1n] at ho2;cases ho2
      ·rw [G.keep b' o hh hf] at h1n;cases h1n
    ·exact hfr _ hb'
   have G2:RfGoes m0 V C M sv lw p m H s m2 H { s with regs:=putsS s.regs (dueW s.took (s.way.take k)) }:=G.extra h (fun b o hb hn=>by
    have hne:b≠b':=fun e=>by subst e;exact hn hmb
    rw [hx2 b hne];exact lx _ _ hb) (hfoot _)
   refine WRng.mk (by apply wrap_i64<;>omega) ?_
   conv=>whnf
   refine ⟨(k+1,some ⟨b',0,none⟩,c'),⟨?_,rfl,trivial⟩,⟨hk2,?_,?_,fun ad had=>by cases had;exact hmb⟩,Nat.sub_lt_sub_left hk2 (Nat.lt_succ_self k)⟩
   ·show some (AV.val (.slice (some ⟨b',0,none⟩) ((leftW s.took (s.way.take k)).length+1) c'))=some (AV.val (.slice (some ⟨b',0,none⟩) (leftW s.took (s.way.take (k+1))).length c'))
    rw [hls,List.length_append];rfl
   ·show RfGoes m0 V C M sv lw p m H s m2 H { s with regs:=putsS s.regs (dueW s.took (s.way.take (k+1))) }
    rw [hds];exact G2
   ·show Lst0 m2 TRfRes 4 (some ⟨b',0,none⟩) (leftW s.took (s.way.take (k+1))).length c' (flatL WayR.cellsR (leftW s.took (s.way.take (k+1))))
    rw [hls,flat_app,flat_one,List.length_append];exact hL2
 ·have hk2:k=s.way.length:=by
   have:¬ (k:Int)<(s.way.length:Nat):=of_decide_eq_false hb
   omega
  subst hk2
  rw [List.take_length] at h1 G hL
  conv=>whnf
  show WSt m1 ((⟨p,0,none⟩:Addr).add 21) [.slice a (leftW s.took (s.way.take s.way.length)).length c] _
  rw [List.take_length]
  refine WSt.at _ _ h1.hp (show 21+1≤29 by decide) ?_
  rcases hL with ⟨rfl,hn,rfl,hL⟩ | ⟨b,rest,rfl,e2,e3,e4,e5⟩
  ·have hW:leftW s.took s.way=[]:=List.length_eq_zero_iff.1 hn
   have G2:=h1.dropWay (s':={ s with regs:=putsS s.regs (dueW s.took s.way),way:=[] }) (o:=Cells (spliceL (rfCells V C M sv lw H { s with regs:=putsS s.regs (dueW s.took s.way) }) 21 [ns]) TRf) rfl (fun j hj=>by
    match j,hj with
    | 0,_=>exact ⟨rfl,rfl⟩
    | 1,_=>exact ⟨rfl,rfl⟩
    | 2,_=>exact ⟨rfl,rfl⟩
    | 3,_=>exact ⟨rfl,rfl⟩
    | j+5,_=>exact ⟨rfl,rfl⟩) rfl rfl rfl
   have ea:arriveS s={ s with regs:=putsS s.regs (dueW s.took s.way),way:=[] }:=by
    show ({ s with regs:=putsS s.regs (dueW s.took s.way),way:=leftW s.took s.way }:St)=_
    rw [hW]
   rw [hW,ea]
   exact WRet.same ⟨rfl,_,G.trans G2⟩
  ·have G2:=G.takeWay h (fun b=>Iff.rfl) (W:=leftW s.took s.way) (hfr _ rfl) e2 e4 (by rw [e3] at e5 ⊢;exact e5)
   have e:spliceL (rfCells V C M sv lw H { s with regs:=putsS s.regs (dueW s.took s.way) }) 21 [.slice (some ⟨b,0,none⟩) (leftW s.took s.way).length c]=rfCells V C M sv lw (H.upd 4 ⟨some ⟨b,0,none⟩,c⟩) { s with regs:=putsS s.regs (dueW s.took s.way),way:=leftW s.took s.way }:=rfl
   rw [e]
   exact WRet.same ⟨rfl,_,G2⟩
end
end Go.Proofs.YtleofbpepfmfgaaGreatDoor
