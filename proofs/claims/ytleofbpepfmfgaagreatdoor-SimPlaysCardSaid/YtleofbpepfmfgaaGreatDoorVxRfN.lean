import Derived.Test.YtleofbpepfmfgaaGreatDoorVxSimT
set_option linter.unusedSimpArgs false
set_option linter.unusedVariables false
set_option maxRecDepth 100000
namespace Go.Proofs.YtleofbpepfmfgaaGreatDoor
open Go Go.Vx
open Go.Vx.IOp Go.Vx.IR Go.Vx.Opd
abbrev TRf:Nat:=79
abbrev q7a:Nat:=126
def WayR.cellsR (w:WayR):List Value:=[i (w.rg:Int),i (w.t:Int),i w.v.n,i w.v.b]
theorem z6q (w:WayR):w.cellsR.length=4:=rfl
def tyR:Nat→Nat | 1=>TVal | 2=>TVal | 3=>TRow | 4=>q7a | _=>T64
def q1f (H:HdF) (s:St):Nat→List Value | 0=>s.prints.map i | 1=>q0r VR.cells s.regs | 2=>q0r VR.cells s.kept | 3=>q2h H s.arr | 4=>q0r WayR.cellsR s.way | k+5=>(s.arr.getD k []).map i
def q5w (lw:Int) (s:St):Int:=if s.ended=true then lw else s.word
def q1l (V:CV) (C:q0c) (M:Mac) (sv:Value) (lw:Int) (H:HdF) (s:St):List Value :=
 V.cells C++M.cells++[sv,hv H s 1,hv H s 3,hv H s 2,hv H s 4,i (s.took:Int),i (s.begun:Int),i (q5w lw s),.bool s.ended,hv H s 0,i s.kind,i s.value]
variable {m0 m m' m2:Mem} {V:CV} {C:q0c} {M:Mac} {sv:Value} {lw:Int} {p:Nat} {H H' H2:HdF} {s s' s2:St} {sh:List Int}
structure RfAt (m0 m:Mem) (V:CV) (C:q0c) (M:Mac) (sv:Value) (lw:Int) (p:Nat) (H:HdF) (s:St):Prop where
 hp:m p=some (Cells (q1l V C M sv lw H s) TRf)
 fam:q2g m (famN s) tyR szS H (numS s) (q1f H s)
 le:Mem.le m0 m
 nw:∀ b,q0s p H s b→m0 b=none
 nil0:(H 0).a=none→s.prints=[]
 nil4:(H 4).a=none→s.way=[]
theorem k0d (j:Nat):tyR j≠TRf:=by
 match j with
 | 0=>decide
 | 1=>decide
 | 2=>decide
 | 3=>decide
 | 4=>decide
 | k+5=>show T64≠TRf;decide
structure q1d (m0:Mem) (V:CV) (C:q0c) (M:Mac) (sv:Value) (lw:Int) (p:Nat) (m:Mem) (H:HdF) (s:St) (m':Mem) (H':HdF) (s':St):Prop where
 at':RfAt m0 m' V C M sv lw p H' s'
 keep:Keep (q0s p H s) m m'
 new:∀ b,q0s p H' s' b→q0s p H s b∨m b=none
theorem q1d.refl (h:RfAt m0 m V C M sv lw p H s):q1d m0 V C M sv lw p m H s m H s:=⟨h,Keep.refl _ _,fun b hb=>.inl hb⟩
theorem q1d.trans (h:q1d m0 V C M sv lw p m H s m' H' s') (k:q1d m0 V C M sv lw p m' H' s' m2 H2 s2):q1d m0 V C M sv lw p m H s m2 H2 s2 :=
 ⟨k.at',h.keep.trans' k.keep h.new,fun b hb=>by
  rcases k.new b hb with h1 | h1
  ·exact h.new b h1
  ·by_cases hf:q0s p H s b
   ·exact .inl hf
   ·refine .inr ?_
    cases hh:m b with
    | none=>rfl
    | some o=>rw [h.keep b o hh hf] at h1;cases h1⟩
theorem RfAt.live (h:RfAt m0 m V C M sv lw p H s) {b:Nat} (hb:q0s p H s b):∃ o,m b=some o:=by
 rcases hb with hb | hb
 ·subst hb;exact ⟨_,h.hp⟩
 ·obtain ⟨L,j,_,h1⟩:=h.fam.live hb;exact ⟨_,h1⟩
theorem RfAt.free (h:RfAt m0 m V C M sv lw p H s) {b:Nat} (hb:m b=none):¬ q0s p H s b:=fun hf=>by
 obtain ⟨o,ho⟩:=h.live hf
 rw [hb] at ho;cases ho
theorem RfAt.notp (h:RfAt m0 m V C M sv lw p H s) {b:Nat} (hb:q5o (famN s) H b):b≠p:=fun e=>by
 subst e
 obtain ⟨L,j,_,h1⟩:=h.fam.live hb
 exact q5a h1 h.hp (k0d j) rfl
theorem RfAt.same (h:RfAt m0 m V C M sv lw p H s) (hle:Mem.le m0 m') (hk:∀ b o,q0s p H s b→m b=some o→m' b=some o):RfAt m0 m' V C M sv lw p H s :=
 ⟨hk _ _ (.inl rfl) h.hp,h.fam.same fun b o hb=>hk b o (.inr hb),hle,h.nw,h.nil0,h.nil4⟩
theorem RfAt.mono (h:RfAt m0 m V C M sv lw p H s) (hle:Mem.le m m'):RfAt m0 m' V C M sv lw p H s:=h.same (h.le.trans hle) fun b o _ hb=>hle b o hb
theorem RfAt.goesMono (h:RfAt m0 m V C M sv lw p H s) (hle:Mem.le m m'):q1d m0 V C M sv lw p m H s m' H s:=⟨h.mono hle,Keep.of_le hle,fun b hb=>.inl hb⟩
theorem RfAt.hdr (h:RfAt m0 m V C M sv lw p H s) (hN:famN s'=famN s) (hn:numS s'=numS s) (hc:q1f H s'=q1f H s) (hp0:s'.prints=s.prints) (hw:s'.way=s.way) :
  q1d m0 V C M sv lw p m H s (m.set p (Cells (q1l V C M sv lw H s') TRf)) H s':=by
 have hk:Keep (q0s p H s) m (m.set p (Cells (q1l V C M sv lw H s') TRf)):=(Keep.refl _ _).set (.inl (.inl rfl))
 have hf:∀ b,q0s p H s' b→q0s p H s b:=fun b hb=>by unfold q0s at hb ⊢;rw [hN] at hb;exact hb
 refine ⟨⟨Mem.set_same _ _ _,?_,hk.le h.le h.nw,fun b hb=>h.nw b (hf b hb),fun e=>by rw [hp0];exact h.nil0 e,fun e=>by rw [hw];exact h.nil4 e⟩,hk,fun b hb=>.inl (hf b hb)⟩
 rw [hN,hn,hc]
 exact h.fam.same fun b o hb hm=>by rw [Mem.set_other _ _ (h.notp hb)];exact hm
theorem RfAt.cell (h:RfAt m0 m V C M sv lw p H s) {k:Nat} {v:Value} (hk:(q1l V C M sv lw H s)[k]? = some v):q0q m ((⟨p,0,none⟩:Addr).add k) v:=by
 rw [add0];exact ⟨_,_,_,h.hp,rfl,by simpa using hk⟩
theorem RfAt.put (h:RfAt m0 m V C M sv lw p H s) {k b:Nat} {rest:List Value} (hk:k<famN s) (hb:q3x (H k) b) (hcells:q1l V C M sv lw H s'=q1l V C M sv lw H s) (hN:famN s'=famN s)
  (hH:∀ j,j<famN s→j≠k→numS s' j=numS s j∧q1f H s' j=q1f H s j) (hn:numS s' k=numS s k) (hl:(q1f H s' k).length=(q1f H s k).length)
  (hr:(q1f H s k).length+rest.length=(H k).c * szS k) (hp0:s'.prints.length=s.prints.length) (hw:s'.way.length=s.way.length) :
  q1d m0 V C M sv lw p m H s (m.set b (Cells (q1f H s' k++rest) (tyR k))) H s':=by
 have hF:q5o (famN s) H b:=⟨k,hk,hb⟩
 have hk2:Keep (q0s p H s) m (m.set b (Cells (q1f H s' k++rest) (tyR k))):=(Keep.refl _ _).set (.inl (.inr hF))
 have hf:∀ b,q0s p H s' b→q0s p H s b:=fun b hb=>by unfold q0s at hb ⊢;rw [hN] at hb;exact hb
 refine ⟨⟨?_,?_,hk2.le h.le h.nw,fun b hb=>h.nw b (hf b hb),fun e=>?_,fun e=>?_⟩,hk2,fun b hb=>.inl (hf b hb)⟩
 ·rw [Mem.set_other _ _ (fun e=>h.notp hF e.symm),hcells];exact h.hp
 ·rw [hN]
  refine h.fam.put hk (fun j hj e=>⟨rfl,hH j hj e⟩) hb.2 (.inr hb) (Mem.set_same _ _ _) (by rw [hl,hn];exact h.fam.len k hk) (by rw [hn];exact h.fam.cap k hk) (by rw [hl];exact hr) fun x o hx _ hm=>by rw [Mem.set_other _ _ hx];exact hm
 ·have:=h.nil0 e;rw [this] at hp0;exact List.length_eq_zero_iff.1 hp0
 ·have:=h.nil4 e;rw [this] at hw;exact List.length_eq_zero_iff.1 hw
theorem z1r (H:HdF) {k:Nat} (hk:k<5) (h:Hd1) (s:St) (j:Nat):q1f (H.upd k h) s j=q1f H s j:=by
 match j with
 | 0=>rfl
 | 1=>rfl
 | 2=>rfl
 | 3=>exact v2e H hk h _
 | 4=>rfl
 | j+5=>rfl
theorem RfAt.relist (h:RfAt m0 m V C M sv lw p H s) {k b c:Nat} {rest:List Value} (hk:k<5) (hN:famN s'=famN s) (hH:∀ j,j≠k→numS s' j=numS s j∧q1f H s' j=q1f H s j)
  (hb:m b=none∨q3x (H k) b) (hm:m' b=some (Cells (q1f H s' k++rest) (tyR k))) (hp:m' p=some (Cells (q1l V C M sv lw (H.upd k ⟨some ⟨b,0,none⟩,c⟩) s') TRf))
  (hx:∀ x,x≠b→x≠p→m' x=m x) (hl:(q1f H s' k).length=numS s' k * szS k) (hcap:numS s' k≤c) (hr:(q1f H s' k).length+rest.length=c * szS k)
  (h0:k≠0→s'.prints=s.prints) (h4:k≠4→s'.way=s.way):q1d m0 V C M sv lw p m H s m' (H.upd k ⟨some ⟨b,0,none⟩,c⟩) s':=by
 have hkN:k<famN s:=by unfold famN;omega
 have hbp:b≠p:=by
  rcases hb with hb | hb
  ·exact fun e=>by subst e;rw [h.hp] at hb;cases hb
  ·exact h.notp ⟨k,hkN,hb⟩
 have hbf:q0s p H s b∨m b=none:=by
  rcases hb with hb | hb
  ·exact .inr hb
  ·exact .inl (.inr ⟨k,hkN,hb⟩)
 have hfoot:∀ x,q0s p (H.upd k ⟨some ⟨b,0,none⟩,c⟩) s' x→q0s p H s x∨m x=none:=fun x hf=>by
  rcases hf with hf | ⟨j,hj,hf⟩
  ·exact .inl (.inl hf)
  ·by_cases e:j=k
   ·subst e
    rw [q1c] at hf
    have:=hf.2
    cases this
    exact hbf
   ·rw [q0u H _ e] at hf
    rw [hN] at hj
    exact .inl (.inr ⟨j,hj,hf⟩)
 have hkeep:Keep (q0s p H s) m m':=fun x o hxo hn=>by
  by_cases e1:x=b
  ·subst e1
   rcases hbf with g | g
   ·exact absurd g hn
   ·rw [g] at hxo;cases hxo
  ·rw [hx x e1 (fun e=>hn (.inl e))];exact hxo
 refine ⟨⟨hp,?_,hkeep.le h.le h.nw,fun x hf=>?_,fun e=>?_,fun e=>?_⟩,hkeep,hfoot⟩
 ·rw [hN]
  refine h.fam.put hkN (b:=b) (fun j hj e=>⟨q0u H _ e,(hH j e).1,by rw [z1r H hk];exact (hH j e).2⟩) (by rw [q1c]) hb (rest:=rest) (by rw [z1r H hk];exact hm) (by rw [z1r H hk];exact hl) (by rw [q1c];exact hcap) (by rw [z1r H hk,q1c];exact hr) fun x o e hf hxo=>?_
  rw [hx x e (h.notp hf)];exact hxo
 ·rcases hfoot x hf with g | g
  ·exact h.nw x g
  ·exact q1z h.le g
 ·by_cases e0:k=0
  ·subst e0;rw [q1c] at e;cases e
  ·rw [q0u H _ (Ne.symm e0)] at e;rw [h0 e0];exact h.nil0 e
 ·by_cases e0:k=4
  ·subst e0;rw [q1c] at e;cases e
  ·rw [q0u H _ (Ne.symm e0)] at e;rw [h4 e0];exact h.nil4 e
theorem RfAt.dropWay (h:RfAt m0 m V C M sv lw p H s) (hN:famN s'=famN s) (hH:∀ j,j≠4→numS s' j=numS s j∧q1f H s' j=q1f H s j) (hw:s'.way=[]) (h0:s'.prints=s.prints) {o:Obj}
  (hp:o=Cells (q1l V C M sv lw (H.upd 4 ⟨none,0⟩) s') TRf):q1d m0 V C M sv lw p m H s (m.set p o) (H.upd 4 ⟨none,0⟩) s':=by
 subst hp
 have hk2:Keep (q0s p H s) m (m.set p (Cells (q1l V C M sv lw (H.upd 4 ⟨none,0⟩) s') TRf)):=(Keep.refl _ _).set (.inl (.inl rfl))
 have hf:∀ b,q0s p (H.upd 4 ⟨none,0⟩) s' b→q0s p H s b:=fun b hb=>by
  rcases hb with hb | ⟨j,hj,hb⟩
  ·exact .inl hb
  ·by_cases e:j=4
   ·subst e;rw [q1c] at hb;exact absurd rfl hb.1
   ·rw [q0u H _ e] at hb;rw [hN] at hj;exact .inr ⟨j,hj,hb⟩
 refine ⟨⟨Mem.set_same _ _ _,?_,hk2.le h.le h.nw,fun b hb=>h.nw b (hf b hb),fun e=>?_,fun _=>hw⟩,hk2,fun b hb=>.inl (hf b hb)⟩
 ·rw [hN]
  have h1:q2g (m.set p (Cells (q1l V C M sv lw (H.upd 4 ⟨none,0⟩) s') TRf)) (famN s) tyR szS H (numS s) (q1f H s):=h.fam.same fun b o hb hm=>by rw [Mem.set_other _ _ (h.notp hb)];exact hm
  exact h1.drop (k:=4) (by unfold famN;omega) (fun j hj e=>⟨q0u H _ e,(hH j e).1,by rw [z1r H (by decide)];exact (hH j e).2⟩) (by rw [q1c]) (by show s'.way.length=0;rw [hw];rfl) (by show q0r _ s'.way=[];rw [hw];rfl)
 ·rw [h0];rw [q0u H _ (by decide)] at e;exact h.nil0 e
theorem RfAt.regCells (h:RfAt m0 m V C M sv lw p H s) {r:Nat} (hr:r<s.regs.length):∃ ad,(H 1).a=some ad∧q0g m (ad.add (r * 2)) (s.regs.getD r VR.zero).cells:=by
 obtain ⟨b,rest,hb,hm,_⟩:=h.fam.room (j:=1) (by unfold famN;omega) (show s.regs.length≠0 by omega)
 refine ⟨_,hb.2,fun q v hq=>?_⟩
 have hq2:q<2:=(List.getElem?_eq_some_iff.1 hq).1
 have:=h.fam.cellsAt (j:=1) (by unfold famN;omega) hb.2 (r * 2+q) v (by
  show (q0r VR.cells s.regs)[_]? = _
  rw [q8a q2c hr hq2]
  rw [List.getD_eq_getElem?_getD,List.getElem?_eq_getElem hr] at hq
  exact hq)
 rw [q0o];exact this
theorem RfAt.keptCells (h:RfAt m0 m V C M sv lw p H s) {r:Nat} (hr:r<s.kept.length):∃ ad,(H 2).a=some ad∧q0g m (ad.add (r * 2)) (s.kept.getD r VR.zero).cells:=by
 obtain ⟨b,rest,hb,hm,_⟩:=h.fam.room (j:=2) (by unfold famN;omega) (show s.kept.length≠0 by omega)
 refine ⟨_,hb.2,fun q v hq=>?_⟩
 have hq2:q<2:=(List.getElem?_eq_some_iff.1 hq).1
 have:=h.fam.cellsAt (j:=2) (by unfold famN;omega) hb.2 (r * 2+q) v (by
  show (q0r VR.cells s.kept)[_]? = _
  rw [q8a q2c hr hq2]
  rw [List.getD_eq_getElem?_getD,List.getElem?_eq_getElem hr] at hq
  exact hq)
 rw [q0o];exact this
theorem RfAt.wayCells (h:RfAt m0 m V C M sv lw p H s) {r:Nat} (hr:r<s.way.length):∃ ad,(H 4).a=some ad∧q0g m (ad.add (r * 4)) (s.way[r]).cellsR:=by
 obtain ⟨b,rest,hb,hm,_⟩:=h.fam.room (j:=4) (by unfold famN;omega) (show s.way.length≠0 by omega)
 refine ⟨_,hb.2,fun q v hq=>?_⟩
 have hq2:q<4:=(List.getElem?_eq_some_iff.1 hq).1
 have:=h.fam.cellsAt (j:=4) (by unfold famN;omega) hb.2 (r * 4+q) v (by
  show (q0r WayR.cellsR s.way)[_]? = _
  rw [q8a z6q hr hq2];exact hq)
 rw [q0o];exact this
theorem RfAt.setReg (h:RfAt m0 m V C M sv lw p H s) {r:Nat} (hr:r<s.regs.length) {v:VR} {ad:Addr} {vs:List Value} {K:Mem→Prop} (ha:(H 1).a=some ad) (hv:vs=v.cells)
  (k:∀ m',q1d m0 V C M sv lw p m H s m' H { s with regs:=s.regs.set r v }→K m'):WSt m (ad.add (r * 2)) vs K:=by
 subst hv
 obtain ⟨b,rest,hb,hm,hl⟩:=h.fam.room (j:=1) (by unfold famN;omega) (show s.regs.length≠0 by omega)
 rw [hb.2] at ha;cases ha
 have hlen:(q1f H s 1++rest).length=(q1f H s 1).length+rest.length:=List.length_append
 have hfl:(q1f H s 1).length=s.regs.length * 2:=q1y q2c _
 refine WSt.at _ _ hm (by rw [hlen,hfl];show r * 2+2≤_;omega) ?_
 have e:q0j (q1f H s 1++rest) (r * 2) v.cells=q1f H { s with regs:=s.regs.set r v } 1++rest:=q9e q2c hr v rest
 rw [e]
 refine k _ (h.put (k:=1) (by unfold famN;omega) hb ?_ rfl (fun j hj e=>?_) ?_ ?_ hl rfl rfl)
 ·unfold q1l hv;show _=_
  have:numS { s with regs:=s.regs.set r v } 1=numS s 1:=List.length_set
  rw [this];rfl
 ·match j,e with
  | 0,_=>exact ⟨rfl,rfl⟩
  | 2,_=>exact ⟨rfl,rfl⟩
  | 3,_=>exact ⟨rfl,rfl⟩
  | 4,_=>exact ⟨rfl,rfl⟩
  | j+5,_=>exact ⟨rfl,rfl⟩
 ·exact List.length_set
 ·show (q0r VR.cells (s.regs.set r v)).length=(q0r VR.cells s.regs).length
  rw [q1y q2c,q1y q2c,List.length_set]
theorem RfAt.setKept (h:RfAt m0 m V C M sv lw p H s) {r:Nat} (hr:r<s.kept.length) {v:VR} {ad:Addr} {vs:List Value} {K:Mem→Prop} (ha:(H 2).a=some ad) (hv:vs=v.cells)
  (k:∀ m',q1d m0 V C M sv lw p m H s m' H { s with kept:=s.kept.set r v }→K m'):WSt m (ad.add (r * 2)) vs K:=by
 subst hv
 obtain ⟨b,rest,hb,hm,hl⟩:=h.fam.room (j:=2) (by unfold famN;omega) (show s.kept.length≠0 by omega)
 rw [hb.2] at ha;cases ha
 have hlen:(q1f H s 2++rest).length=(q1f H s 2).length+rest.length:=List.length_append
 have hfl:(q1f H s 2).length=s.kept.length * 2:=q1y q2c _
 refine WSt.at _ _ hm (by rw [hlen,hfl];show r * 2+2≤_;omega) ?_
 have e:q0j (q1f H s 2++rest) (r * 2) v.cells=q1f H { s with kept:=s.kept.set r v } 2++rest:=q9e q2c hr v rest
 rw [e]
 refine k _ (h.put (k:=2) (by unfold famN;omega) hb ?_ rfl (fun j hj e=>?_) ?_ ?_ hl rfl rfl)
 ·unfold q1l hv;show _=_
  have:numS { s with kept:=s.kept.set r v } 2=numS s 2:=List.length_set
  rw [this];rfl
 ·match j,e with
  | 0,_=>exact ⟨rfl,rfl⟩
  | 1,_=>exact ⟨rfl,rfl⟩
  | 3,_=>exact ⟨rfl,rfl⟩
  | 4,_=>exact ⟨rfl,rfl⟩
  | j+5,_=>exact ⟨rfl,rfl⟩
 ·exact List.length_set
 ·show (q0r VR.cells (s.kept.set r v)).length=(q0r VR.cells s.kept).length
  rw [q1y q2c,q1y q2c,List.length_set]
theorem v0i (H:HdF) (s:St) (W:List WayR) (nb:Nat) (j:Nat) (hj:j≠4):numS { s with way:=W,begun:=nb } j=numS s j∧q1f H { s with way:=W,begun:=nb } j=q1f H s j:=by
 match j,hj with
 | 0,_=>exact ⟨rfl,rfl⟩
 | 1,_=>exact ⟨rfl,rfl⟩
 | 2,_=>exact ⟨rfl,rfl⟩
 | 3,_=>exact ⟨rfl,rfl⟩
 | j+5,_=>exact ⟨rfl,rfl⟩
theorem RfAt.setInt (h:RfAt m0 m V C M sv lw p H s) {q:Nat} {vs:List Value} {K:Mem→Prop} (s':St) (hq:q0j (q1l V C M sv lw H s) q vs=q1l V C M sv lw H s') (hq2:q+vs.length≤29) (hN:famN s'=famN s) (hn:numS s'=numS s) (hc:q1f H s'=q1f H s) (hp0:s'.prints=s.prints) (hw:s'.way=s.way)
  (k:∀ m',q1d m0 V C M sv lw p m H s m' H s'→K m'):WSt m ((⟨p,0,none⟩:Addr).add q) vs K:=by
 refine WSt.at _ _ h.hp hq2 ?_
 rw [hq]
 exact k _ (h.hdr hN hn hc hp0 hw)
theorem RfAt.pushWay (h:RfAt m0 m V C M sv lw p H s) {bx:Nat} {w:WayR} {K:Value→Mem→Prop} (hx:m bx=some (Cells w.cellsR q7a)) (hl:s.way.length≤1000000000)
  (k:∀ b' c' m',(∀ K':Mem→Prop,(∀ m2 H',q1d m0 V C M sv lw p m H s m2 H' { s with way:=s.way++[w] }→K' m2)→WSt m' ((⟨p,0,none⟩:Addr).add 21) [.slice (some ⟨b',0,none⟩) (s.way.length+1) c'] K')→K (.slice (some ⟨b',0,none⟩) (s.way.length+1) c') m') :
  WApp m q7a 4 32 [i 0,i 0,i 0,i 0] (H 4).a s.way.length (H 4).c (some ⟨bx,0,none⟩) 1 K:=by
 refine h.fam.app (k:=4) (by unfold famN;omega) rfl rfl rfl rfl (by decide) hx rfl rfl (by show (s.way.length+1) * 32≤_;omega) (fun e=>by show s.way.length=0;rw [h.nil4 e];rfl) ?_
 intro b' c' rest m' hm hc hr hb hx'
 have hpb:p≠b':=by
  rcases hb with hb | hb
  ·exact q3y h.hp hb
  ·exact fun e=>h.notp ⟨4,by unfold famN;omega,hb⟩ e.symm
 refine k b' c' m' fun K' hK=>?_
 have hp2:m' p=some (Cells (q1l V C M sv lw H s) TRf):=by rw [hx' p hpb];exact h.hp
 refine WSt.at _ _ hp2 (show 21+1≤29 by decide) ?_
 have e1:numS { s with way:=s.way++[w] } 4=s.way.length+1:=by show (s.way++[w]).length=_;rw [List.length_append];rfl
 have e2:q1f H { s with way:=s.way++[w] } 4=q1f H s 4++w.cellsR:=by show q0r _ (s.way++[w])=_;rw [z0i,z6e];rfl
 have e3:q0j (q1l V C M sv lw H s) 21 [.slice (some ⟨b',0,none⟩) (s.way.length+1) c']=q1l V C M sv lw (H.upd 4 ⟨some ⟨b',0,none⟩,c'⟩) { s with way:=s.way++[w] }:=by
  unfold q1l hv;rw [e1];rfl
 rw [e3]
 have hc:s.way.length+1≤c':=hc
 have hL:(q1f H s 4).length=s.way.length * 4:=q1y z6q _
 have hr:(q1f H s 4++w.cellsR).length+rest.length=c' * 4:=hr
 refine hK _ _ (h.relist (k:=4) (b:=b') (c:=c') (rest:=rest) (by decide) rfl (fun j hj=>v0i H s _ _ j hj) hb ?_ (Mem.set_same _ _ _) (fun x h1 h2=>?_) ?_ ?_ ?_ (fun _=>rfl) (fun e=>absurd rfl e))
 ·rw [Mem.set_other _ _ (Ne.symm hpb),e2];exact hm
 ·rw [Mem.set_other _ _ h2];exact hx' x h1
 ·rw [e1,e2,List.length_append,hL];show _+4=(s.way.length+1) * 4;omega
 ·rw [e1];exact hc
 ·rw [e2];exact hr
theorem RfAt.rowCell (h:RfAt m0 m V C M sv lw p H s) {k:Nat} (hk:k<s.arr.length):∃ ad,(H 3).a=some ad∧q0q m (ad.add k) (.slice (H (k+5)).a (s.arr.getD k []).length (H (k+5)).c):=by
 obtain ⟨b,rest,hb,hm,_⟩:=h.fam.room (j:=3) (by unfold famN;omega) (show s.arr.length≠0 by omega)
 exact ⟨_,hb.2,h.fam.cellsAt (j:=3) (by unfold famN;omega) hb.2 k _ (v3l H hk)⟩
theorem RfAt.elemCell (h:RfAt m0 m V C M sv lw p H s) {k q:Nat} (hk:k<s.arr.length) (hq:q<(s.arr.getD k []).length):∃ ad,(H (k+5)).a=some ad∧q0q m (ad.add q) (i ((s.arr.getD k []).getD q 0)):=by
 obtain ⟨b,rest,hb,hm,_⟩:=h.fam.room (j:=k+5) (by unfold famN;omega) (show (s.arr.getD k []).length≠0 by omega)
 refine ⟨_,hb.2,h.fam.cellsAt (j:=k+5) (by unfold famN;omega) hb.2 q _ ?_⟩
 show ((s.arr.getD k []).map i)[q]? = _
 rw [List.getElem?_map,List.getElem?_eq_getElem hq,List.getD_eq_getElem?_getD (l:=s.arr.getD k []),List.getElem?_eq_getElem hq];rfl
theorem RfAt.setElem (h:RfAt m0 m V C M sv lw p H s) {k q:Nat} (hk:k<s.arr.length) (hq:q<(s.arr.getD k []).length) {z:Int} {ad:Addr} {vs:List Value} {K:Mem→Prop} (ha:(H (k+5)).a=some ad) (hv:vs=[i z])
  (kk:∀ m',q1d m0 V C M sv lw p m H s m' H { s with arr:=s.arr.set k ((s.arr.getD k []).set q z) }→K m'):WSt m (ad.add q) vs K:=by
 subst hv
 obtain ⟨b,rest,hb,hm,hl⟩:=h.fam.room (j:=k+5) (by unfold famN;omega) (show (s.arr.getD k []).length≠0 by omega)
 rw [hb.2] at ha;cases ha
 have hfl:(q1f H s (k+5)).length=(s.arr.getD k []).length:=List.length_map _
 have hnew:(s.arr.set k ((s.arr.getD k []).set q z)).getD k []=(s.arr.getD k []).set q z:=by rw [z2o hk,if_pos rfl]
 have hrow:q2h H (s.arr.set k ((s.arr.getD k []).set q z))=q2h H s.arr:=v0y H hk (by simp)
 refine WSt.at _ _ hm (by rw [List.length_append,hfl];show q+1≤_;omega) ?_
 have e:q0j (q1f H s (k+5)++rest) q [i z]=q1f H { s with arr:=s.arr.set k ((s.arr.getD k []).set q z) } (k+5)++rest:=by
  show q0j ((s.arr.getD k []).map i++rest) q (q0k (i z))=((s.arr.set k ((s.arr.getD k []).set q z)).getD k []).map i++rest
  rw [hnew];exact v2x rfl hq
 rw [e]
 refine kk _ (h.put (k:=k+5) (by unfold famN;omega) hb ?_ ?_ (fun j hj e=>?_) ?_ ?_ hl rfl rfl)
 ·unfold q1l hv
  have:numS { s with arr:=s.arr.set k ((s.arr.getD k []).set q z) } 3=numS s 3:=List.length_set
  rw [this];rfl
 ·show 5+(s.arr.set k _).length=_;rw [List.length_set]
 ·match j,e with
  | 0,_=>exact ⟨rfl,rfl⟩
  | 1,_=>exact ⟨rfl,rfl⟩
  | 2,_=>exact ⟨rfl,rfl⟩
  | 3,_=>exact ⟨List.length_set,hrow⟩
  | 4,_=>exact ⟨rfl,rfl⟩
  | j+5,e =>
   have e2:(s.arr.set k ((s.arr.getD k []).set q z)).getD j []=s.arr.getD j []:=by rw [z2o hk,if_neg (by omega)]
   exact ⟨by show (List.getD _ j []).length=_;rw [e2];rfl,by show (List.getD _ j []).map i=_;rw [e2];rfl⟩
 ·show (List.getD _ k []).length=_;rw [hnew,List.length_set];rfl
 ·show ((List.getD _ k []).map i).length=_;rw [hnew,List.length_map,List.length_set];exact hfl.symm
theorem k9e (H:HdF) (s:St) (L:List Int) (j:Nat) (hj:j≠0):numS { s with prints:=L } j=numS s j∧q1f H { s with prints:=L } j=q1f H s j:=by
 match j,hj with
 | 1,_=>exact ⟨rfl,rfl⟩
 | 2,_=>exact ⟨rfl,rfl⟩
 | 3,_=>exact ⟨rfl,rfl⟩
 | 4,_=>exact ⟨rfl,rfl⟩
 | j+5,_=>exact ⟨rfl,rfl⟩
theorem RfAt.pushPrint (h:RfAt m0 m V C M sv lw p H s) {bx:Nat} {z:Int} {K:Value→Mem→Prop} (hx:m bx=some (Cells [i z] T64)) (hl:s.prints.length≤1000000000)
  (k:∀ b' c' m',(∀ K':Mem→Prop,(∀ m2 H',q1d m0 V C M sv lw p m H s m2 H' { s with prints:=s.prints++[z] }→K' m2)→WSt m' ((⟨p,0,none⟩:Addr).add 26) [.slice (some ⟨b',0,none⟩) (s.prints.length+1) c'] K')→K (.slice (some ⟨b',0,none⟩) (s.prints.length+1) c') m') :
  WApp m T64 1 8 [i 0] (H 0).a s.prints.length (H 0).c (some ⟨bx,0,none⟩) 1 K:=by
 refine h.fam.app (k:=0) (by unfold famN;omega) rfl rfl rfl rfl (by decide) hx rfl rfl (by show (s.prints.length+1) * 8≤_;omega) (fun e=>by show s.prints.length=0;rw [h.nil0 e];rfl) ?_
 intro b' c' rest m' hm hc hr hb hx'
 have hpb:p≠b':=by
  rcases hb with hb | hb
  ·exact q3y h.hp hb
  ·exact fun e=>h.notp ⟨0,by unfold famN;omega,hb⟩ e.symm
 refine k b' c' m' fun K' hK=>?_
 have hp2:m' p=some (Cells (q1l V C M sv lw H s) TRf):=by rw [hx' p hpb];exact h.hp
 refine WSt.at _ _ hp2 (show 26+1≤29 by decide) ?_
 have e1:numS { s with prints:=s.prints++[z] } 0=s.prints.length+1:=by show (s.prints++[z]).length=_;rw [List.length_append];rfl
 have e2:q1f H { s with prints:=s.prints++[z] } 0=q1f H s 0++[i z]:=by show (s.prints++[z]).map i=_;rw [List.map_append];rfl
 have e3:q0j (q1l V C M sv lw H s) 26 [.slice (some ⟨b',0,none⟩) (s.prints.length+1) c']=q1l V C M sv lw (H.upd 0 ⟨some ⟨b',0,none⟩,c'⟩) { s with prints:=s.prints++[z] }:=by
  unfold q1l hv;rw [e1];rfl
 rw [e3]
 have hc:s.prints.length+1≤c':=hc
 have hL:(q1f H s 0).length=s.prints.length:=List.length_map _
 have hr:(q1f H s 0++[i z]).length+rest.length=c' * 1:=hr
 refine hK _ _ (h.relist (k:=0) (b:=b') (c:=c') (rest:=rest) (by decide) rfl (fun j hj=>k9e H s _ j hj) hb ?_ (Mem.set_same _ _ _) (fun x h1 h2=>?_) ?_ ?_ ?_ (fun e=>absurd rfl e) (fun _=>rfl))
 ·rw [Mem.set_other _ _ (Ne.symm hpb),e2];exact hm
 ·rw [Mem.set_other _ _ h2];exact hx' x h1
 ·rw [e1,e2,List.length_append,hL];show _+1=(s.prints.length+1) * 1;omega
 ·rw [e1];exact hc
 ·rw [e2];exact hr
end Go.Proofs.YtleofbpepfmfgaaGreatDoor
