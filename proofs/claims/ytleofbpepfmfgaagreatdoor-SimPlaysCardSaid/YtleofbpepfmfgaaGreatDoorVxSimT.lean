import Derived.Test.YtleofbpepfmfgaaGreatDoorVxSimO
set_option maxRecDepth 100000
namespace Go.Proofs.YtleofbpepfmfgaaGreatDoor
open Go Go.Vx
open Go.Vx.IOp Go.Vx.IR Go.Vx.Opd
theorem v4y {R:List VR} {W:List WayR} {j:Nat} (hj:j<W.length):q1h R (W.take (j+1))=(q1h R (W.take j)).set (W[j]).rg (W[j]).v:=by
 unfold q1h
 rw [List.take_succ_eq_append_getElem hj,List.foldl_append];rfl
section
variable {m0 m m':Mem} {V:CV} {C:q0c} {M:Mac} {sv:Value} {p:Nat} {H:HdF} {s s':St} {sh:List Int}
theorem v1i (h:q0l m0 m V C M sv p H s) (hw:∀ w∈s.way,w.rg<s.regs.length) (hl:s.way.length≤1000000000000) :
  q0f Tryz.prog 58 [ptr p] m fun e m'=>e=.returned q2r∧Goes m0 V C M sv p m H s m' (H.upd 4 ⟨none,0⟩) (q4y s):=by
 refine q0e q0d Tryz.func58 j9n rfl ?_
 refine WLd.mk (hv H s 4) (h.cell rfl) ?_
 conv=>whnf
 refine q0v.mk Nat (fun k=>[(9,.val (i k))]) (fun k m'=>k≤s.way.length∧Goes m0 V C M sv p m H s m' H { s with regs:=q1h s.regs (s.way.take k) }) (fun k=>s.way.length - k) 0 ⟨rfl,trivial⟩ ⟨Nat.zero_le _,Goes.refl h⟩ ?_
 rintro k m1 ⟨hk,G⟩
 have h1:=G.at'
 refine Br.mk (fun hb=>?_) (fun hb=>?_)
 ·have hk2:k<s.way.length:=by
   have:(k:Int)<(s.way.length:Nat):=of_decide_eq_true hb
   omega
  obtain ⟨ad,ha,hc⟩:=h1.wayCells (r:=k) hk2
  have hr:(s.way[k]).rg<({ s with regs:=q1h s.regs (s.way.take k) }:St).regs.length:=by show _<(q1h _ _).length;rw [q8i];exact hw _ (List.getElem_mem hk2)
  obtain ⟨ar,har,_⟩:=h1.regCells hr
  refine WIdx.mk ad ha ⟨by omega,by show (k:Int)<(s.way.length:Nat);omega⟩ ?_
  refine WLds.mk _ (by simpa using hc) rfl ?_
  refine WLd.mk (hv H { s with regs:=q1h s.regs (s.way.take k) } 1) (by rw [q0o];exact h1.cell rfl) ?_
  refine WIdx.mk ar har ⟨by omega,by show ((s.way[k]).rg:Int)<(numS { s with regs:=q1h s.regs (s.way.take k) } 1:Nat);exact Int.ofNat_lt.2 hr⟩ ?_
  conv=>whnf
  refine ⟨?_,trivial⟩
  conv=>whnf
  refine h1.setReg hr har rfl fun m2 G2=>?_
  refine WRng.mk (by apply wrap_i64<;>omega) ?_
  conv=>whnf
  refine ⟨k+1,⟨rfl,trivial⟩,⟨hk2,?_⟩,Nat.sub_lt_sub_left hk2 (Nat.lt_succ_self k)⟩
  have:=G.trans G2
  rw [v4y hk2]
  exact this
 ·have hk2:k=s.way.length:=by
   have:¬ (k:Int)<(s.way.length:Nat):=of_decide_eq_false hb
   omega
  subst hk2
  rw [List.take_length] at h1 G
  refine WSt.at _ _ h1.hp (show 27+1≤28 from Nat.le_refl _) ?_
  have G2:=h1.dropWay (s':=q4y s) (o:=Cells (q0j (q1p V C M sv H { s with regs:=q1h s.regs s.way }) 27 (q0k ns)) TSim) rfl (fun j hj=>by
   match j,hj with
   | 0,_=>exact ⟨rfl,rfl⟩
   | 1,_=>exact ⟨rfl,rfl⟩
   | 2,_=>exact ⟨rfl,rfl⟩
   | 3,_=>exact ⟨rfl,rfl⟩
   | j+5,_=>exact ⟨rfl,rfl⟩) rfl rfl rfl
  exact WRet.same ⟨rfl,G.trans G2⟩
theorem v0p (h:q0l m0 m V C M sv p H s) (kind n:Int) :
  q0f Tryz.prog 136 [ptr p,i kind,i n] m fun e m'=>e=.returned q2r∧Goes m0 V C M sv p m H s m' (H.upd 4 ⟨none,0⟩) (endS s kind n):=by
 refine q0e q0d Tryz.func136 k5z rfl ?_
 conv=>whnf
 rw [q0o]
 refine WSt.at _ _ h.hp (show 3+1≤28 by decide) ?_
 conv=>whnf
 rw [q0o]
 refine WSt.at _ _ (Mem.set_same _ _ _) (show 4+1≤28 by decide) ?_
 rw [Mem.set2]
 conv=>whnf
 rw [q0o]
 refine WSt.at _ _ (Mem.set_same _ _ _) (show 0+1≤28 by decide) ?_
 rw [Mem.set2]
 refine WSt.at _ _ (Mem.set_same _ _ _) (show 27+1≤28 by decide) ?_
 rw [Mem.set2]
 have G2:=h.dropWay (s':=endS s kind n) (o:=Cells (q1p V C M sv (H.upd 4 ⟨none,0⟩) (endS s kind n)) TSim) rfl (fun j hj=>by
  match j,hj with
  | 0,_=>exact ⟨rfl,rfl⟩
  | 1,_=>exact ⟨rfl,rfl⟩
  | 2,_=>exact ⟨rfl,rfl⟩
  | 3,_=>exact ⟨rfl,rfl⟩
  | j+5,_=>exact ⟨rfl,rfl⟩) rfl rfl rfl
 exact WRet.same ⟨rfl,G2⟩
theorem w5e (h:q0l m0 m V C M sv p H s) (hB:q1m m0 V C M sv sh) (kd:Int) :
  q0m Tryz.prog 160 [ptr p,i kd] m (i (latS M sh s.begun kd)):=by
 refine q0e q0d Tryz.func160 k5s rfl ?_
 have hc:=z2b kd
 obtain ⟨q,hq,hq4⟩:∃ q:Nat,(q2j kd).1=q∧q<4:=⟨(q2j kd).1.toNat,by omega,by omega⟩
 obtain ⟨T,fr,hm0⟩:=hB.laid
 obtain ⟨a,c,hsv,hs0,hs1,hs2⟩:=hB.shown.mono h.le
 conv=>whnf
 refine q0a.pure (z9d (h.le _ _ hm0) kd) ?_
 unfold q7y
 rw [hq]
 refine WBnd.mk ⟨by omega,by omega⟩ ?_
 refine WLd.mk (i (M.lat q)) ?_ ?_
 ·rw [q0o,q0o]
  have hq5:q=0∨q=1∨q=2∨q=3:=by omega
  rcases hq5 with rfl | rfl | rfl | rfl<;>exact h.cell rfl
 refine WLd.mk sv (h.cell rfl) ?_
 rw [hsv]
 refine Br.mk (fun hb=>?_) (fun hb=>?_)
 ·have h0:sh=[]:=by
   have:((sh.length:Nat):Int)=0:=by simpa using hb
   exact List.length_eq_zero_iff.1 (by omega)
  refine WRet.same ⟨?_,rfl⟩
  unfold latS
  rw [if_pos h0,hq,Int.toNat_natCast]
  rfl
 ·have h0:sh≠[]:=fun e=>by subst e;simp at hb
  have hlen:0<sh.length:=List.length_pos_iff.2 h0
  obtain ⟨ad,rfl⟩:∃ ad,a=some ad:=by
   cases a with
   | none=>exact absurd (hs0 rfl) h0
   | some ad=>exact ⟨ad,rfl⟩
  have hmod:s.begun % sh.length<sh.length:=Nat.mod_lt _ hlen
  have e1:((s.begun:Nat):Int).tmod ((sh.length:Nat):Int)=((s.begun % sh.length:Nat):Int):=rfl
  refine WLd.mk sv (h.cell rfl) ?_
  rw [hsv]
  refine WLd.mk (i (s.begun:Int)) (by rw [q0o];exact h.cell rfl) ?_
  refine WLd.mk sv (h.cell rfl) ?_
  rw [hsv]
  refine WNe.mk (by omega) ?_
  rw [e1]
  refine WIdx.mk ad rfl ⟨by omega,by omega⟩ ?_
  refine WLd.mk (i (sh.getD (s.begun % sh.length) 0)) ?_ ?_
  ·have:=IAt.cell (hs1 ad rfl) hmod
   rw [List.getD_eq_getElem?_getD,List.getElem?_eq_getElem hmod]
   rw [Int.toNat_natCast,Nat.mul_one]
   exact this
  refine WRet.same ⟨?_,rfl⟩
  show Ending.returned (i _)=.returned (i _)
  unfold latS
  rw [if_neg h0,hq,Int.toNat_natCast]
  congr 2
  generalize sh.getD (s.begun % sh.length) 0=z
  generalize M.lat q=y
  show (if y<(if (1:Int)>z then 1 else z) then y else (if (1:Int)>z then 1 else z))=_
  split<;>split<;>omega
theorem z1b (H:HdF) (s:St) (W:List WayR) (nb:Nat) (j:Nat) (hj:j≠4):numS { s with way:=W,begun:=nb } j=numS s j∧q0t H { s with way:=W,begun:=nb } j=q0t H s j:=by
 match j,hj with
 | 0,_=>exact ⟨rfl,rfl⟩
 | 1,_=>exact ⟨rfl,rfl⟩
 | 2,_=>exact ⟨rfl,rfl⟩
 | 3,_=>exact ⟨rfl,rfl⟩
 | j+5,_=>exact ⟨rfl,rfl⟩
theorem v4h (hM:M.ok=true) (n:Nat) (kd:Int):1≤latS M sh n kd∧latS M sh n kd≤8:=by
 have hc:=z2b kd
 have:=z4k hM (q:=(q2j kd).1.toNat) (by omega)
 unfold latS
 split
 ·exact this
 ·omega
theorem q0l.setInt (h:q0l m0 m V C M sv p H s) {q:Nat} {vs:List Value} {K:Mem→Prop} (s':St) (hq:q0j (q1p V C M sv H s) q vs=q1p V C M sv H s') (hq2:q+vs.length≤28) (hN:famN s'=famN s) (hn:numS s'=numS s) (hc:q0t H s'=q0t H s) (hp0:s'.prints=s.prints) (hw:s'.way=s.way)
  (k:∀ m',Goes m0 V C M sv p m H s m' H s'→K m'):WSt m ((⟨p,0,none⟩:Addr).add q) vs K:=by
 refine WSt.at _ _ h.hp hq2 ?_
 rw [hq]
 exact k _ (h.hdr hN hn hc hp0 hw)
theorem q0l.pushWay (h:q0l m0 m V C M sv p H s) {bx:Nat} {w:WayR} {K:Value→Mem→Prop} (hx:m bx=some (Cells w.cells TRes)) (hl:s.way.length≤1000000000)
  (k:∀ b' c' m',(∀ K':Mem→Prop,(∀ m2 H',Goes m0 V C M sv p m H s m2 H' { s with way:=s.way++[w] }→K' m2)→WSt m' ((⟨p,0,none⟩:Addr).add 27) [.slice (some ⟨b',0,none⟩) (s.way.length+1) c'] K')→K (.slice (some ⟨b',0,none⟩) (s.way.length+1) c') m') :
  WApp m TRes 4 32 [i 0,i 0,i 0,i 0] (H 4).a s.way.length (H 4).c (some ⟨bx,0,none⟩) 1 K:=by
 refine h.fam.app (k:=4) (by unfold famN;omega) rfl rfl rfl rfl (by decide) hx rfl rfl (by show (s.way.length+1) * 32≤_;omega) (fun e=>by show s.way.length=0;rw [h.nil4 e];rfl) ?_
 intro b' c' rest m' hm hc hr hb hx'
 have hpb:p≠b':=by
  rcases hb with hb | hb
  ·exact q3y h.hp hb
  ·exact fun e=>h.notp ⟨4,by unfold famN;omega,hb⟩ e.symm
 refine k b' c' m' fun K' hK=>?_
 have hp2:m' p=some (Cells (q1p V C M sv H s) TSim):=by rw [hx' p hpb];exact h.hp
 refine WSt.at _ _ hp2 (show 27+1≤28 from Nat.le_refl _) ?_
 have e1:numS { s with way:=s.way++[w] } 4=s.way.length+1:=by show (s.way++[w]).length=_;rw [List.length_append];rfl
 have e2:q0t H { s with way:=s.way++[w] } 4=q0t H s 4++w.cells:=by show q0r _ (s.way++[w])=_;rw [z0i,z6e];rfl
 have e3:q0j (q1p V C M sv H s) 27 [.slice (some ⟨b',0,none⟩) (s.way.length+1) c']=q1p V C M sv (H.upd 4 ⟨some ⟨b',0,none⟩,c'⟩) { s with way:=s.way++[w] }:=by
  unfold q1p hv;rw [e1];rfl
 rw [e3]
 have hc:s.way.length+1≤c':=hc
 have hL:(q0t H s 4).length=s.way.length * 4:=q1y q7n _
 have hr:(q0t H s 4++w.cells).length+rest.length=c' * 4:=hr
 refine hK _ _ (h.relist (k:=4) (b:=b') (c:=c') (rest:=rest) (by decide) rfl (fun j hj=>z1b H s _ _ j hj) hb ?_ (Mem.set_same _ _ _) (fun x h1 h2=>?_) ?_ ?_ ?_ (fun _=>rfl) (fun e=>absurd rfl e))
 ·rw [Mem.set_other _ _ (Ne.symm hpb),e2];exact hm
 ·rw [Mem.set_other _ _ h2];exact hx' x h1
 ·rw [e1,e2,List.length_append,hL];show _+4=(s.way.length+1) * 4;omega
 ·rw [e1];exact hc
 ·rw [e2];exact hr
theorem z2x (h:q0l m0 m V C M sv p H s) (hB:q1m m0 V C M sv sh) {k:Nat} (hl:LimS s k) (hk:k≤1000000000) (o:OpR) (hds:0≤o.ds) (v:VR) :
  q0f Tryz.prog 135 [ptr p,o.val,v.val] m fun e m'=>e=.returned q2r∧∃ H',Goes m0 V C M sv p m H s m' H' (q4b M sh s o v):=by
 refine q0e q0d Tryz.func135 k8o rfl ?_
 obtain ⟨q1,q2⟩:=v4h (sh:=sh) hB.mac s.begun o.kd
 obtain ⟨l1,l2,l3,l4⟩:=hl
 have hlat:=w5e h hB o.kd
 have ht:q0q m (((⟨p,0,none⟩:Addr).add 0).add 1) (i (s.took:Int)):=by rw [q0o];exact h.cell rfl
 refine WLd.mk (hv H s 4) (h.cell rfl) ?_
 conv=>whnf
 refine ⟨?_,?_⟩
 ·refine WLd.mk _ ht ?_
  conv=>whnf
  refine ⟨?_,trivial⟩
  conv=>whnf
  refine q1r.pure hlat ?_
  refine WRng.mk (by apply wrap_i64<;>omega) ?_
  conv=>whnf
  refine ⟨?_,trivial⟩
  refine WNew.ab fun bx mx hbx lx cx=>?_
  have hw:[i o.ds,i v.n,i v.b,i ((s.took:Int)+latS M sh s.begun o.kd)]=WayR.cells ⟨o.ds.toNat,v,s.took+(latS M sh s.begun o.kd).toNat⟩:=by
   unfold WayR.cells
   rw [Int.toNat_of_nonneg hds,show ((s.took+(latS M sh s.begun o.kd).toNat:Nat):Int)=(s.took:Int)+latS M sh s.begun o.kd by omega]
  have cx:mx bx=some (Cells [i o.ds,i v.n,i v.b,i ((s.took:Int)+latS M sh s.begun o.kd)] TRes):=cx
  rw [hw] at cx
  conv=>whnf
  refine ⟨?_,trivial⟩
  conv=>whnf
  refine (h.mono lx).pushWay cx (by omega) fun b' c' m2 hst=>?_
  conv=>whnf
  refine ⟨?_,trivial⟩
  conv=>whnf
  refine hst _ fun m3 H3 G3=>?_
  refine WLd.mk (i (s.begun:Int)) (by rw [q0o];exact G3.at'.cell rfl) ?_
  refine WRng.mk (by apply wrap_i64<;>omega) ?_
  conv=>whnf
  rw [q0o]
  refine G3.at'.setInt (q4b M sh s o v) rfl (show 0+2+1≤28 by decide) rfl rfl rfl rfl rfl fun m4 G4=>?_
  exact WRet.same ⟨rfl,H3,(h.goesMono lx).trans (G3.trans G4)⟩
 ·refine ⟨?_,trivial⟩
  conv=>whnf
  refine q1r.pure hlat ?_
  conv=>whnf
  refine ⟨?_,trivial⟩
  refine WLd.mk _ ht ?_
  refine WRng.mk (by apply wrap_i64<;>omega) ?_
  conv=>whnf
  refine ⟨?_,trivial⟩
  refine WNew.ab fun bx mx hbx lx cx=>?_
  have hw:[i o.ds,i v.n,i v.b,i ((s.took:Int)+latS M sh s.begun o.kd)]=WayR.cells ⟨o.ds.toNat,v,s.took+(latS M sh s.begun o.kd).toNat⟩:=by
   unfold WayR.cells
   rw [Int.toNat_of_nonneg hds,show ((s.took+(latS M sh s.begun o.kd).toNat:Nat):Int)=(s.took:Int)+latS M sh s.begun o.kd by omega]
  have cx:mx bx=some (Cells [i o.ds,i v.n,i v.b,i ((s.took:Int)+latS M sh s.begun o.kd)] TRes):=cx
  rw [hw] at cx
  conv=>whnf
  refine ⟨?_,trivial⟩
  conv=>whnf
  refine (h.mono lx).pushWay cx (by omega) fun b' c' m2 hst=>?_
  conv=>whnf
  refine ⟨?_,trivial⟩
  conv=>whnf
  refine hst _ fun m3 H3 G3=>?_
  refine WLd.mk (i (s.begun:Int)) (by rw [q0o];exact G3.at'.cell rfl) ?_
  refine WRng.mk (by apply wrap_i64<;>omega) ?_
  conv=>whnf
  rw [q0o]
  refine G3.at'.setInt (q4b M sh s o v) rfl (show 0+2+1≤28 by decide) rfl rfl rfl rfl rfl fun m4 G4=>?_
  exact WRet.same ⟨rfl,H3,(h.goesMono lx).trans (G3.trans G4)⟩
end
def q5q (fv:Value) (F:Int→Int→Int) (D:Int→Prop):Prop:=∃ g,fv=.func (.func g) #[] #[]∧∀ (m:Mem) (a b:Int),D b→q0m Tryz.prog g [i a,i b] m (i (F a b))
abbrev anyI (_:Int):Prop:=True
theorem q9j (b:Int):0≤sh63 b∧sh63 b<64:=by
 unfold sh63 q5f
 show 0≤IntKind.i64.wrap _∧IntKind.i64.wrap _<64
 have h:(BitVec.ofInt IntKind.i64.bits b &&& BitVec.ofInt IntKind.i64.bits 63).toNat≤63:=by
  rw [BitVec.toNat_and]
  exact Nat.le_trans Nat.and_le_right (by decide)
 rw [wrap_i64 (by omega) (by omega)]
 omega
theorem v2t (m:Mem) (b:Bool):q0m Tryz.prog 191 [.bool b] m (i (bitI b)):=by
 refine q0e q0d Tryz.func191 j4v rfl ?_
 refine Br.mk (fun hb=>?_) (fun hb=>?_)
 ·subst hb
  exact WRet.same ⟨rfl,rfl⟩
 ·subst hb
  exact WRet.same ⟨rfl,rfl⟩
theorem mk1:q5q (.func (.func 183) #[] #[]) (q5f .add) anyI:=⟨_,rfl,fun m a b _=>by
 refine q0e q0d Tryz.func183 k3a rfl ?_
 exact WRet.same ⟨rfl,rfl⟩⟩
theorem mk2:q5q (.func (.func 184) #[] #[]) (q5f .sub) anyI:=⟨_,rfl,fun m a b _=>by
 refine q0e q0d Tryz.func184 w2c rfl ?_
 exact WRet.same ⟨rfl,rfl⟩⟩
theorem mk3:q5q (.func (.func 185) #[] #[]) (q5f .and) anyI:=⟨_,rfl,fun m a b _=>by
 refine q0e q0d Tryz.func185 w2y rfl ?_
 exact WRet.same ⟨rfl,rfl⟩⟩
theorem mk4:q5q (.func (.func 186) #[] #[]) (q5f .or) anyI:=⟨_,rfl,fun m a b _=>by
 refine q0e q0d Tryz.func186 k8u rfl ?_
 exact WRet.same ⟨rfl,rfl⟩⟩
theorem mk5:q5q (.func (.func 187) #[] #[]) (q5f .xor) anyI:=⟨_,rfl,fun m a b _=>by
 refine q0e q0d Tryz.func187 w4m rfl ?_
 exact WRet.same ⟨rfl,rfl⟩⟩
theorem mk6:q5q (.func (.func 188) #[] #[]) (fun a b=>IntKind.i64.wrap (a * 2 ^ min (sh63 b).toNat 64)) anyI:=⟨_,rfl,fun m a b _=>by
 refine q0e q0d Tryz.func188 j8x rfl ?_
 refine WBnd.mk (q9j b) ?_
 exact WRet.same ⟨rfl,rfl⟩⟩
theorem mk7:q5q (.func (.func 189) #[] #[]) (fun a b=>a.fdiv (2 ^ min (sh63 b).toNat 64)) anyI:=⟨_,rfl,fun m a b _=>by
 refine q0e q0d Tryz.func189 j0i rfl ?_
 refine WBnd.mk (q9j b) ?_
 exact WRet.same ⟨rfl,rfl⟩⟩
theorem mk8:q5q (.func (.func 190) #[] #[]) (fun a b=>bitI (decide (a<b))) anyI:=⟨_,rfl,fun m a b _=>by
 refine q0e q0d Tryz.func190 k4t rfl ?_
 conv=>whnf
 refine q0a.pure (v2t m _) ?_
 exact WRet.same ⟨rfl,rfl⟩⟩
theorem mk9:q5q (.func (.func 192) #[] #[]) (fun a b=>bitI (a==b)) anyI:=⟨_,rfl,fun m a b _=>by
 refine q0e q0d Tryz.func192 j5a rfl ?_
 conv=>whnf
 refine q0a.pure (v2t m _) ?_
 exact WRet.same ⟨rfl,rfl⟩⟩
theorem mk10:q5q (.func (.func 193) #[] #[]) (q5f .mul) anyI:=⟨_,rfl,fun m a b _=>by
 refine q0e q0d Tryz.func193 w1j rfl ?_
 exact WRet.same ⟨rfl,rfl⟩⟩
theorem mk11:q5q (.func (.func 195) #[] #[]) (fun a b=>IntKind.i64.wrap (a.tdiv b)) (fun b=>b≠0):=⟨_,rfl,fun m a b hb=>by
 refine q0e q0d Tryz.func195 j9d rfl ?_
 refine WNe.mk hb ?_
 exact WRet.same ⟨rfl,rfl⟩⟩
theorem mk12:q5q (.func (.func 196) #[] #[]) (fun a b=>a.tmod b) (fun b=>b≠0):=⟨_,rfl,fun m a b hb=>by
 refine q0e q0d Tryz.func196 j5i rfl ?_
 refine WNe.mk hb ?_
 exact WRet.same ⟨rfl,rfl⟩⟩
def z4l (m:Mem) (v:Value) (k:Int):Prop:=∃ g bx,v=.func (.func g) #[] #[ptr bx]∧∀ m',Mem.le m m'→∀ a b:Int,q0m Tryz.prog g [i a,i b,ptr bx] m' (.tuple ⟨[i (q2o k a b).1,i (q2o k a b).2]⟩)
theorem q7b {m:Mem} {fv:Value} {F:Int→Int→Int} (hf:q5q fv F anyI) {k:Int} (hk:∀ a b,q2o k a b=(F a b,0)) :
  q0f Tryz.prog 182 [fv] m fun e m'=>∃ v,e=.returned v∧Mem.le m m'∧z4l m' v k:=by
 refine q0e q0d Tryz.func182 k8i rfl ?_
 obtain ⟨g0,rfl,hg⟩:=hf
 refine WNew.ab fun bx mx hbx lx cx=>?_
 refine WRet.same ⟨_,rfl,lx,204,bx,rfl,fun m' hle a b=>?_⟩
 refine q0e q0d Tryz.func204 j2n rfl ?_
 refine WLd.mk (.func (.func g0) #[] #[]) ?_ ?_
 ·exact ⟨_,_,_,hle _ _ cx,rfl,rfl⟩
 conv=>whnf
 refine q0a.pure (hg _ a b trivial) ?_
 refine WRet.same ⟨?_,rfl⟩
 rw [hk]
 rfl
theorem v2s {m:Mem} {fv:Value} {F:Int→Int→Int} (hf:q5q fv F (fun b=>b≠0)) {k:Int} (hk:∀ a b,b≠0→q2o k a b=(F a b,0)) (hk0:∀ a,q2o k a 0=(0,-2))
  (hk1:∀ a,IntKind.i64.wrap (F a 1 * F (-1) 1)=F a (-1)) :
  q0f Tryz.prog 194 [fv] m fun e m'=>∃ v,e=.returned v∧Mem.le m m'∧z4l m' v k:=by
 refine q0e q0d Tryz.func194 k7l rfl ?_
 obtain ⟨g0,rfl,hg⟩:=hf
 refine WNew.ab fun bx mx hbx lx cx=>?_
 refine WRet.same ⟨_,rfl,lx,205,bx,rfl,fun m' hle a b=>?_⟩
 have hc:q0q m' ⟨bx,0,none⟩ (.func (.func g0) #[] #[]):=⟨_,_,_,hle _ _ cx,rfl,rfl⟩
 have hone:q0m Tryz.prog 206 [.func (.func g0) #[] #[]] m' (i (F (-1) 1)):=by
  refine q0e q0d Tryz.func206 j3j rfl ?_
  conv=>whnf
  refine q0a.pure (hg _ (-1) 1 (by decide)) ?_
  exact WRet.same ⟨rfl,rfl⟩
 refine q0e q0d Tryz.func205 j4q rfl ?_
 refine Br.mk (fun hb=>?_) (fun hb=>?_)
 ·have hb:b=0:=by simpa using hb
  subst hb
  refine WRet.same ⟨?_,rfl⟩
  rw [hk0];rfl
 ·have hb:b≠0:=by simpa using hb
  refine Br.mk (fun hb1=>?_) (fun hb1=>?_)
  ·have hb1:b=-1:=by simpa using hb1
   subst hb1
   refine WLd.mk _ hc ?_
   refine WLd.mk _ hc ?_
   conv=>whnf
   refine ⟨?_,trivial⟩
   conv=>whnf
   refine q1r.pure (hg _ a 1 (by decide)) ?_
   conv=>whnf
   refine ⟨?_,trivial⟩
   conv=>whnf
   refine q1r.pure hone ?_
   refine WRet.same ⟨?_,rfl⟩
   rw [hk a (-1) (by decide),← hk1]
   rfl
  ·refine WLd.mk _ hc ?_
   conv=>whnf
   refine q0a.pure (hg _ a b hb) ?_
   refine WRet.same ⟨?_,rfl⟩
   rw [hk a b hb];rfl
theorem w3d (a:Int):IntKind.i64.wrap (IntKind.i64.wrap (a.tdiv 1) * IntKind.i64.wrap (Int.tdiv (-1) 1))=IntKind.i64.wrap (a.tdiv (-1)):=by
 rw [show Int.tdiv (-1) 1=-1 by decide,Int.tdiv_one,Int.tdiv_neg,Int.tdiv_one]
 rw [IntKind.wrap_i64,IntKind.wrap_i64,IntKind.wrap_i64,IntKind.wrap_i64]
 omega
theorem k4l (a:Int):IntKind.i64.wrap (a.tmod 1 * Int.tmod (-1) 1)=a.tmod (-1):=by
 rw [show Int.tmod (-1) 1=0 by decide,Int.tmod_neg,Int.tmod_one,Int.mul_zero]
 decide
def q7g (k:Int):Bool:=(decide (3≤k)&&decide (k≤11))||k==13||k==14||k==15
theorem v3j (m:Mem) {k:Int} (hk:q7g k=true):q0f Tryz.prog 157 [i k] m fun e m'=>∃ v,e=.returned v∧Mem.le m m'∧z4l m' v k:=by
 refine q0e q0d Tryz.func157 k8h rfl ?_
 have h:k=3∨k=4∨k=5∨k=6∨k=7∨k=8∨k=9∨k=10∨k=11∨k=13∨k=14∨k=15:=by
  unfold q7g at hk
  simp only [Bool.or_eq_true,Bool.and_eq_true,decide_eq_true_eq,beq_iff_eq] at hk
  omega
 have p1:q0f Tryz.prog 182 [_] m _:=q7b (m:=m) mk1 (k:=3) fun a b=>rfl
 have p2:q0f Tryz.prog 182 [_] m _:=q7b (m:=m) mk2 (k:=4) fun a b=>rfl
 have p3:q0f Tryz.prog 182 [_] m _:=q7b (m:=m) mk3 (k:=5) fun a b=>rfl
 have p4:q0f Tryz.prog 182 [_] m _:=q7b (m:=m) mk4 (k:=6) fun a b=>rfl
 have p5:q0f Tryz.prog 182 [_] m _:=q7b (m:=m) mk5 (k:=7) fun a b=>rfl
 have p6:q0f Tryz.prog 182 [_] m _:=q7b (m:=m) mk6 (k:=8) fun a b=>rfl
 have p7:q0f Tryz.prog 182 [_] m _:=q7b (m:=m) mk7 (k:=9) fun a b=>rfl
 have p8:q0f Tryz.prog 182 [_] m _:=q7b (m:=m) mk8 (k:=10) fun a b=>rfl
 have p9:q0f Tryz.prog 182 [_] m _:=q7b (m:=m) mk9 (k:=11) fun a b=>rfl
 have p10:q0f Tryz.prog 182 [_] m _:=q7b (m:=m) mk10 (k:=13) fun a b=>rfl
 have p11:q0f Tryz.prog 194 [_] m _:=v2s (m:=m) mk11 (k:=14) (fun a b hb=>by rw [v2u,if_neg hb]) (fun a=>rfl) w3d
 have p12:q0f Tryz.prog 194 [_] m _:=v2s (m:=m) mk12 (k:=15) (fun a b hb=>by rw [v1c,if_neg hb]) (fun a=>rfl) k4l
 rcases h with rfl | rfl | rfl | rfl | rfl | rfl | rfl | rfl | rfl | rfl | rfl | rfl
 all_goals
  repeat' (conv=>whnf
           first
           | (refine Br.mk (fun hh=>?_) (fun hh=>?_)<;>try (cases hh;done))
           | (exact WRet.same ⟨_,rfl,by assumption,by assumption⟩)
           | (refine q0a.mk (by assumption) ?_;rintro _ m' ⟨v,rfl,hle,hv⟩))
theorem v1m (m:Mem) (k:Int):q0m Tryz.prog 156 [i k] m (.tuple ⟨[i (q0z k),.bool (q3o k)]⟩):=by
 refine q0e q0d Tryz.func156 j8t rfl ?_
 refine Br.mk (fun h=>?_) (fun h1=>?_)
 ·have h:k=23:=by simpa using h
  subst h
  exact WRet.same ⟨rfl,rfl⟩
 ·have h1:k≠23:=by simpa using h1
  refine Br.mk (fun h=>?_) (fun h2=>?_)
  ·have h:k=24:=by simpa using h
   subst h
   exact WRet.same ⟨rfl,rfl⟩
  ·have h2:k≠24:=by simpa using h2
   refine WRet.same ⟨?_,rfl⟩
   have e1:q0z k=k:=by unfold q0z;rw [if_neg h1,if_neg h2]
   have e2:q3o k=false:=by unfold q3o;simp [h1,h2]
   rw [e1,e2];rfl
theorem z7i (m:Mem) (v:VR) (hv:v.ok):q0m Tryz.prog 158 [v.val] m (.bool true):=by
 refine q0e q0d Tryz.func158 k8q rfl ?_
 refine WSc.mk (v:=v.n==0) (fun _=>And.intro (Mem.le.refl _) rfl) ?_
 refine WRet.same ⟨?_,rfl⟩
 show Ending.returned (.bool (v.b==0||v.n==0))=.returned (.bool true)
 have:(v.b==0||v.n==0)=true:=by rcases hv with e | e<;>simp [e]
 rw [this]
theorem v8d (m:Mem) {k:Int} (hk:q7g (q0z k)=true) (a b:VR) :
  q0f Tryz.prog 159 [i k,a.val,b.val] m fun e m'=>e=.returned (.tuple ⟨[(q2u k a b).1.val,i (q2u k a b).2]⟩)∧Mem.le m m':=by
 refine q0e q0d Tryz.func159 j2j rfl ?_
 have key:∀ {n bad:Int} {m':Mem},(if (if a.b=0 then b.b else a.b)=0 then q2o (q0z k) a.n b.n else (0,if a.b=0 then b.b else a.b))=(n,bad)→Mem.le m m' →
   Br (scB (scB (bad != 0) true ((q0z k==14)||(q0z k==15))) true (!q3o k))
    (WRet m' (fun e m''=>e=.returned (.tuple ⟨[(q2u k a b).1.val,i (q2u k a b).2]⟩)∧Mem.le m m'') (.returned (.tuple ⟨[.agg ⟨[i 0,i 0]⟩,i bad]⟩)))
    (WRet m' (fun e m''=>e=.returned (.tuple ⟨[(q2u k a b).1.val,i (q2u k a b).2]⟩)∧Mem.le m m'') (.returned (.tuple ⟨[.agg ⟨[i n,i bad]⟩,i 0]⟩))):=fun {n bad m'} hr hle=>by
  refine Br.mk (fun hb=>?_) (fun hb=>?_)
  ·have h:bad≠0∧(q0z k=14∨q0z k=15)∧q3o k=false:=by
    simp only [scB,Bool.and_eq_true,bne_iff_ne,ne_eq,Bool.or_eq_true,beq_iff_eq,Bool.not_eq_true'] at hb
    exact ⟨hb.1.1,hb.1.2,hb.2⟩
   refine WRet.same ⟨?_,hle⟩
   have:q2u k a b=(⟨0,0⟩,bad):=by unfold q2u;simp only;rw [hr,if_pos h]
   rw [this];rfl
  ·have h:¬ (bad≠0∧(q0z k=14∨q0z k=15)∧q3o k=false):=fun h=>by
    simp only [scB] at hb
    have:((bad != 0&&((q0z k==14)||(q0z k==15)))&&!q3o k)=true:=by
     simp only [Bool.and_eq_true,bne_iff_ne,ne_eq,Bool.or_eq_true,beq_iff_eq,Bool.not_eq_true']
     exact ⟨⟨h.1,h.2.1⟩,h.2.2⟩
    rw [this] at hb;cases hb
   refine WRet.same ⟨?_,hle⟩
   have:q2u k a b=(⟨n,bad⟩,0):=by unfold q2u;simp only;rw [hr,if_neg h]
   rw [this];rfl
 have tail:∀ {z:Bool},z=((q0z k==14)||(q0z k==15))→True:=fun _=>trivial
 conv=>whnf
 refine q0a.pure (v1m m k) ?_
 refine Br.mk (fun hb=>?_) (fun hb=>?_)
 all_goals
  refine WSc.mk (v:=q0z k==15) (fun _=>And.intro (Mem.le.refl _) rfl) ?_
  refine Br.mk (fun hb2=>?_) (fun hb2=>?_)
 ·have e1:a.b=0:=by simpa using hb
  have e2:b.b=0:=by simpa using hb2
  conv=>whnf
  refine ⟨?_,trivial⟩
  conv=>whnf
  refine q0a.mk (v3j m hk) ?_
  rintro _ m' ⟨_,rfl,hle,g,bx,rfl,hg⟩
  conv=>whnf
  refine ⟨?_,trivial⟩
  conv=>whnf
  refine q0a.pure (hg m' (Mem.le.refl _) _ _) ?_
  refine WSc.mk (v:=((q0z k==14)||(q0z k==15))) (fun _=>And.intro (Mem.le.refl _) rfl) ?_
  refine WSc.mk (v:=!q3o k) (fun _=>And.intro (Mem.le.refl _) rfl) ?_
  exact key (by rw [if_pos (by rw [if_pos e1];exact e2)]) hle
 ·have e1:a.b=0:=by simpa using hb
  have e2:b.b≠0:=by simpa using hb2
  refine WSc.mk (v:=((q0z k==14)||(q0z k==15))) (fun _=>And.intro (Mem.le.refl _) rfl) ?_
  refine WSc.mk (v:=!q3o k) (fun _=>And.intro (Mem.le.refl _) rfl) ?_
  exact key (by rw [if_pos e1,if_neg e2]) (Mem.le.refl _)
 ·have e1:a.b≠0:=by simpa using hb
  exact absurd (by simpa using hb2) e1
 ·have e1:a.b≠0:=by simpa using hb
  refine WSc.mk (v:=((q0z k==14)||(q0z k==15))) (fun _=>And.intro (Mem.le.refl _) rfl) ?_
  refine WSc.mk (v:=!q3o k) (fun _=>And.intro (Mem.le.refl _) rfl) ?_
  exact key (by rw [if_neg e1,if_neg e1]) (Mem.le.refl _)
def q9n (k:Int):Bool:=k==1||k==2||k==12||q7g (q0z k)
theorem k3u (m:Mem) (o:OpR) (hk:q9n o.kd=true) (a b c:VR) (ha:a.ok) (hb:b.ok) (hc:c.ok) :
  q0f Tryz.prog 134 [o.val,a.val,b.val,c.val] m fun e m'=>e=.returned (.tuple ⟨[(q1u o a b c).1.val,i (q1u o a b c).2,i 0]⟩)∧Mem.le m m':=by
 refine q0e q0d Tryz.func134 k9c rfl ?_
 have fin:∀ {m':Mem} {v:VR} {z:Int},q1u o a b c=(v,z)→Mem.le m m'→WRet m' (fun e m''=>e=.returned (.tuple ⟨[(q1u o a b c).1.val,i (q1u o a b c).2,i 0]⟩)∧Mem.le m m'') (.returned (.tuple ⟨[v.val,i z,i 0]⟩)) :=
  fun {m' v z} h hle=>WRet.same ⟨by rw [h],hle⟩
 have nt:∀ {m':Mem},o.kd≠1→o.kd≠2→o.kd≠12→q0f Tryz.prog 157 [i (q0z o.kd)] m' fun e m''=>∃ v,e=.returned v∧Mem.le m' m''∧z4l m'' v (q0z o.kd):=fun {m'} h1 h2 h3=>by
  unfold q9n at hk
  simp only [Bool.or_eq_true,beq_iff_eq] at hk
  exact v3j m' (by rcases hk with ((h | h) | h) | h
                   ·exact absurd h h1
                   ·exact absurd h h2
                   ·exact absurd h h3
                   ·exact h)
 conv=>whnf
 refine q0a.pure (v1m m o.kd) ?_
 refine WSc.mk (v:=o.kd != 2) (fun _=>And.intro (Mem.le.refl _) rfl) ?_
 refine WSc.mk (v:=o.kd != 12) (fun _=>And.intro (Mem.le.refl _) rfl) ?_
 refine WSc.mk (v:=false) (fun hq=>?_) ?_
 ·have h3:(o.kd≠1∧o.kd≠2)∧o.kd≠12:=by
   have hq:((o.kd != 1&&o.kd != 2)&&o.kd != 12)=true:=hq
   simpa using hq
  conv=>whnf
  refine q0a.mk (nt h3.1.1 h3.1.2 h3.2) ?_
  rintro _ m' ⟨_,rfl,hle,g,bx,rfl,_⟩
  conv=>whnf
  exact And.intro hle rfl
 refine Br.mk (fun hq=>?_) (fun _=>?_)
 ·have hq:(((o.kd != 1&&o.kd != 2)&&o.kd != 12)&&false)=true:=hq
  rw [Bool.and_false] at hq;cases hq
 conv=>whnf
 refine q0a.pure (z7i m a ha) ?_
 refine WSc.mk (v:=false) (fun _=>?_) ?_
 ·conv=>whnf
  refine q0a.pure (z7i m b hb) ?_
  conv=>whnf
  exact And.intro (Mem.le.refl _) rfl
 refine WSc.mk (v:=false) (fun _=>?_) ?_
 ·conv=>whnf
  refine q0a.pure (z7i m c hc) ?_
  conv=>whnf
  exact And.intro (Mem.le.refl _) rfl
 refine Br.mk (fun h=>by cases h) (fun _=>?_)
 refine Br.mk (fun h=>?_) (fun h1=>?_)
 ·have h:o.kd=1:=by simpa using h
  conv=>whnf
  exact fin (v:=⟨o.n,0⟩) (z:=0) (by unfold q1u;rw [if_pos h]) (Mem.le.refl _)
 have h1:o.kd≠1:=by simpa using h1
 refine Br.mk (fun h=>?_) (fun h2=>?_)
 ·have h:o.kd=2:=by simpa using h
  conv=>whnf
  exact fin (v:=a) (z:=0) (by unfold q1u;rw [if_neg h1,if_pos h]) (Mem.le.refl _)
 have h2:o.kd≠2:=by simpa using h2
 refine Br.mk (fun h=>?_) (fun h3=>?_)
 ·have h:o.kd=12:=by simpa using h
  have hd:∀ v,(if a.b≠0 then a else if a.n≠0 then b else c)=v→q1u o a b c=(v,0):=fun v e=>by unfold q1u;rw [if_neg h1,if_neg h2,if_pos h,e]
  refine Br.mk (fun h4=>?_) (fun h4=>?_)
  ·have h4:a.b≠0:=by simpa using h4
   conv=>whnf
   exact fin (v:=a) (z:=0) (hd _ (if_pos h4)) (Mem.le.refl _)
  ·have h4:¬ a.b≠0:=by simpa using h4
   refine Br.mk (fun h5=>?_) (fun h5=>?_)
   ·have h5:a.n≠0:=by simpa using h5
    conv=>whnf
    exact fin (v:=b) (z:=0) (hd _ (by rw [if_neg h4,if_pos h5])) (Mem.le.refl _)
   ·have h5:¬ a.n≠0:=by simpa using h5
    conv=>whnf
    exact fin (v:=c) (z:=0) (hd _ (by rw [if_neg h4,if_neg h5])) (Mem.le.refl _)
 have h3:o.kd≠12:=by simpa using h3
 conv=>whnf
 refine q0a.mk (v8d m (k:=o.kd) (by
  unfold q9n at hk
  simp only [Bool.or_eq_true,beq_iff_eq] at hk
  rcases hk with ((h | h) | h) | h
  ·exact absurd h h1
  ·exact absurd h h2
  ·exact absurd h h3
  ·exact h) a b) ?_
 rintro _ m' ⟨rfl,hle⟩
 conv=>whnf
 exact fin (v:=(q2u o.kd a b).1) (z:=(q2u o.kd a b).2) (by unfold q1u;rw [if_neg h1,if_neg h2,if_neg h3]) hle
section
variable {m0 m m':Mem} {V:CV} {C:q0c} {M:Mac} {sv:Value} {p:Nat} {H:HdF} {s s':St} {sh:List Int}
theorem v3l (H:HdF) {A:List (List Int)} {k:Nat} (hk:k<A.length):(q2h H A)[k]? = some (.slice (H (k+5)).a (A.getD k []).length (H (k+5)).c):=by
 unfold q2h
 rw [List.getElem?_map,List.getElem?_range hk];rfl
theorem q0l.rowCell (h:q0l m0 m V C M sv p H s) {k:Nat} (hk:k<s.arr.length):∃ ad,(H 3).a=some ad∧q0q m (ad.add k) (.slice (H (k+5)).a (s.arr.getD k []).length (H (k+5)).c):=by
 obtain ⟨b,rest,hb,hm,_⟩:=h.fam.room (j:=3) (by unfold famN;omega) (show s.arr.length≠0 by omega)
 exact ⟨_,hb.2,h.fam.cellsAt (j:=3) (by unfold famN;omega) hb.2 k _ (v3l H hk)⟩
theorem q0l.elemCell (h:q0l m0 m V C M sv p H s) {k q:Nat} (hk:k<s.arr.length) (hq:q<(s.arr.getD k []).length):∃ ad,(H (k+5)).a=some ad∧q0q m (ad.add q) (i ((s.arr.getD k []).getD q 0)):=by
 obtain ⟨b,rest,hb,hm,_⟩:=h.fam.room (j:=k+5) (by unfold famN;omega) (show (s.arr.getD k []).length≠0 by omega)
 refine ⟨_,hb.2,h.fam.cellsAt (j:=k+5) (by unfold famN;omega) hb.2 q _ ?_⟩
 show ((s.arr.getD k []).map i)[q]? = _
 rw [List.getElem?_map,List.getElem?_eq_getElem hq,List.getD_eq_getElem?_getD (l:=s.arr.getD k []),List.getElem?_eq_getElem hq];rfl
theorem z2o {A:List (List Int)} {k j:Nat} {r:List Int} (hk:k<A.length):(A.set k r).getD j []=if k=j then r else A.getD j []:=by
 rw [List.getD_eq_getElem?_getD,List.getElem?_set,List.getD_eq_getElem?_getD]
 by_cases e:k=j
 ·subst e;simp [hk]
 ·rw [if_neg e,if_neg e]
theorem v0y (H:HdF) {A:List (List Int)} {k:Nat} {r:List Int} (hk:k<A.length) (hl:r.length=(A.getD k []).length):q2h H (A.set k r)=q2h H A:=by
 unfold q2h
 rw [List.length_set]
 apply List.map_congr_left
 intro j _
 rw [z2o hk]
 split
 ·rename_i e;subst e;rw [hl]
 ·rfl
theorem q0l.setElem (h:q0l m0 m V C M sv p H s) {k q:Nat} (hk:k<s.arr.length) (hq:q<(s.arr.getD k []).length) {z:Int} {ad:Addr} {vs:List Value} {K:Mem→Prop} (ha:(H (k+5)).a=some ad) (hv:vs=[i z])
  (kk:∀ m',Goes m0 V C M sv p m H s m' H { s with arr:=s.arr.set k ((s.arr.getD k []).set q z) }→K m'):WSt m (ad.add q) vs K:=by
 subst hv
 obtain ⟨b,rest,hb,hm,hl⟩:=h.fam.room (j:=k+5) (by unfold famN;omega) (show (s.arr.getD k []).length≠0 by omega)
 rw [hb.2] at ha;cases ha
 have hfl:(q0t H s (k+5)).length=(s.arr.getD k []).length:=List.length_map _
 have hnew:(s.arr.set k ((s.arr.getD k []).set q z)).getD k []=(s.arr.getD k []).set q z:=by rw [z2o hk,if_pos rfl]
 have hrow:q2h H (s.arr.set k ((s.arr.getD k []).set q z))=q2h H s.arr:=v0y H hk (by simp)
 refine WSt.at _ _ hm (by rw [List.length_append,hfl];show q+1≤_;omega) ?_
 have e:q0j (q0t H s (k+5)++rest) q [i z]=q0t H { s with arr:=s.arr.set k ((s.arr.getD k []).set q z) } (k+5)++rest:=by
  show q0j ((s.arr.getD k []).map i++rest) q (q0k (i z))=((s.arr.set k ((s.arr.getD k []).set q z)).getD k []).map i++rest
  rw [hnew];exact v2x rfl hq
 rw [e]
 refine kk _ (h.put (k:=k+5) (by unfold famN;omega) hb ?_ ?_ (fun j hj e=>?_) ?_ ?_ hl rfl rfl)
 ·unfold q1p hv
  have:numS { s with arr:=s.arr.set k ((s.arr.getD k []).set q z) } 3=numS s 3:=List.length_set
  rw [this];rfl
 ·show 5+(s.arr.set k _).length=_;rw [List.length_set]
 ·match j,e with
  | 0,_=>exact ⟨rfl,rfl⟩
  | 1,_=>exact ⟨rfl,rfl⟩
  | 2,_=>exact ⟨rfl,rfl⟩
  | 3,_=>exact ⟨List.length_set,hrow⟩
  | 4,_=>exact ⟨rfl,rfl⟩
  | j+5,e =>
   have e2:(s.arr.set k ((s.arr.getD k []).set q z)).getD j []=s.arr.getD j []:=by rw [z2o hk,if_neg (by omega)]
   exact ⟨by show (List.getD _ j []).length=_;rw [e2];rfl,by show (List.getD _ j []).map i=_;rw [e2];rfl⟩
 ·show (List.getD _ k []).length=_;rw [hnew,List.length_set];rfl
 ·show ((List.getD _ k []).map i).length=_;rw [hnew,List.length_map,List.length_set];exact hfl.symm
theorem z9v (he:s.ended=false):q2q s=s.word:=by unfold q2q;rw [if_neg (by rw [he];decide)]
theorem q0l.setWord (h:q0l m0 m V C M sv p H s) (he:s.ended=false) {w:Nat} {z:Int} (hz:z=(w:Int)) {K:Mem→Prop} {vs:List Value} (hvs:vs=[i z])
  (k:∀ m',Goes m0 V C M sv p m H s m' H { s with word:=w }→K m'):WSt m ((⟨p,0,none⟩:Addr).add 0) vs K:=by
 subst hvs;subst hz
 refine h.setInt { s with word:=w } ?_ (show 0+1≤28 by decide) rfl rfl rfl rfl rfl k
 have:q2q { s with word:=w }=(w:Int):=z9v (s:={ s with word:=w }) he
 unfold q1p
 rw [this];rfl
theorem j8n (h:q0l m0 m V C M sv p H s) (hB:q1m m0 V C M sv sh) (hS:StOK C s) (he:s.ended=false) (hl:s.way.length≤1000000000) (ct n:Int) :
  q0f Tryz.prog 102 [ptr p,i ct,i n] m fun e m'=>e=.returned q2r∧∃ H',Goes m0 V C M sv p m H s m' H' (q5i C s ct n):=by
 refine q0e q0d Tryz.func102 k4y rfl ?_
 refine Br.mk (fun hb=>?_) (fun hb=>?_)
 ·have hb:ct<0:=of_decide_eq_true hb
  conv=>whnf
  refine q0a.mk (v0p h 2 n) ?_
  rintro _ m1 ⟨rfl,G⟩
  refine WRet.same ⟨rfl,H.upd 4 ⟨none,0⟩,?_⟩
  unfold q5i;rw [if_pos hb];exact G
 ·have hb:¬ ct<0:=of_decide_eq_false hb
  have hcd:=hB.ok.cd
  have hr:C.cd.toNat<(q4y s).regs.length:=by show _<(q1h _ _).length;rw [q8i,hS.regs];omega
  conv=>whnf
  refine q0a.mk (v1i h (fun w hw=>by rw [hS.regs];exact (hS.way w hw).1) (by omega)) ?_
  rintro _ m1 ⟨rfl,G⟩
  have h1:=G.at'
  obtain ⟨ad,ha,hc⟩:=h1.regCells hr
  refine WLd.mk (hv (H.upd 4 ⟨none,0⟩) (q4y s) 1) (by rw [q0o];exact h1.cell rfl) ?_
  refine WLd.mk (i C.cd) (by rw [q0o];exact h1.cell rfl) ?_
  refine WIdx.mk ad ha ⟨by omega,by show C.cd<((q4y s).regs.length:Nat);omega⟩ ?_
  conv=>whnf
  refine ⟨?_,trivial⟩
  conv=>whnf
  refine h1.setReg hr ha (v:=⟨n,0⟩) rfl fun m2 G2=>?_
  conv=>whnf
  rw [q0o]
  refine G2.at'.setWord (w:=ct.toNat) he (by omega) rfl fun m3 G3=>?_
  refine WRet.same ⟨rfl,H.upd 4 ⟨none,0⟩,?_⟩
  unfold q5i;rw [if_neg hb]
  exact G.trans (G2.trans G3)
def q9l (s:St):List Int→Int
 | []=>0
 | r :: L=>if (s.reg r).b≠0 then (s.reg r).b else q9l s L
theorem v7y (h:q0l m0 m V C M sv p H s) {a:Option Addr} {c:Nat} {L:List Int} (hL:IAt m (.slice a L.length c) L) (hr:∀ r∈L,0≤r∧r.toNat<s.regs.length) (hlen:L.length<1000000) :
  q0m Tryz.prog 155 [ptr p,.slice a L.length c] m (i (q9l s L)):=by
 obtain ⟨a',c',e,q0,q1,hcap⟩:=hL
 injection e with e1 e2 e3
 subst e1;subst e3
 refine q0e q0d Tryz.func155 j3u rfl ?_
 conv=>whnf
 refine q0v.mk Nat (fun k=>[(10,.val (i k))]) (fun k m'=>m=m'∧k≤L.length∧q9l s L=q9l s (L.drop k)) (fun k=>L.length - k) 0 ⟨rfl,trivial⟩ ⟨rfl,Nat.zero_le _,rfl⟩ ?_
 rintro k m' ⟨rfl,hk,hbd⟩
 refine Br.mk (fun hb=>?_) (fun hb=>?_)
 ·have hk2:k<L.length:=by
   have:(k:Int)<(L.length:Nat):=of_decide_eq_true hb
   omega
  have hr2:=hr _ (List.getElem_mem hk2)
  obtain ⟨ad,rfl⟩:∃ ad,a=some ad:=by
   cases a with
   | none=>rw [q0 rfl] at hk2;simp at hk2
   | some ad=>exact ⟨ad,rfl⟩
  obtain ⟨ar,har,hc⟩:=h.regCells hr2.2
  rw [List.drop_eq_getElem_cons hk2] at hbd
  refine WIdx.mk ad rfl ⟨by omega,by omega⟩ ?_
  refine WLd.mk (i L[k]) (by simpa using IAt.cell (q1 ad rfl) hk2) ?_
  refine WLd.mk (hv H s 1) (by rw [q0o];exact h.cell rfl) ?_
  refine WIdx.mk ar har ⟨hr2.1,by show L[k]<(s.regs.length:Nat);omega⟩ ?_
  refine WLd.mk (i (s.reg L[k]).b) (hc 1 _ rfl) ?_
  refine Br.mk (fun hb=>?_) (fun hb=>?_)
  ·have hb:(s.reg L[k]).b≠0:=by simpa using hb
   refine WRet.same ⟨?_,rfl⟩
   rw [hbd,q9l,if_pos hb];rfl
  ·have hb:¬ (s.reg L[k]).b≠0:=by simpa using hb
   rw [q9l,if_neg hb] at hbd
   refine WRng.mk (by apply wrap_i64<;>omega) ?_
   conv=>whnf
   exact ⟨k+1,⟨rfl,trivial⟩,⟨rfl,hk2,hbd⟩,Nat.sub_lt_sub_left hk2 (Nat.lt_succ_self k)⟩
 ·have hk2:k=L.length:=by
   have:¬ (k:Int)<(L.length:Nat):=of_decide_eq_false hb
   omega
  subst hk2
  refine WRet.same ⟨?_,rfl⟩
  rw [hbd,List.drop_length];rfl
end
end Go.Proofs.YtleofbpepfmfgaaGreatDoor
