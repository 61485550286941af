import Derived.Test.YtleofbpepfmfgaaGreatDoorVxSimRun
set_option maxRecDepth 100000
namespace Go.Proofs.YtleofbpepfmfgaaGreatDoor
open Go Go.Vx
open Go.Vx.IOp Go.Vx.IR Go.Vx.Opd
variable {m0 m m' m2:Mem} {V:CV} {C:q0c} {M:Mac} {sv:Value} {lw:Int} {p:Nat} {H H' H2:HdF} {s s' s2:St} {sh:List Int}
theorem k5p {br bk:Nat} (hle:Mem.le m0 m) (hp:m0 p=none) (hbr:m0 br=none) (hbk:m0 bk=none) (hne:br≠bk)
  (cp:m p=some (Cells (q1l V C M sv lw (q7q br C.rg.toNat bk C.sp.toNat) (q1j C)) TRf)) (cr:m br=some (Cells (List.replicate C.rg.toNat [i 0,i 0]).flatten TVal)) (ck:m bk=some (Cells (List.replicate C.sp.toNat [i 0,i 0]).flatten TVal)) :
  RfAt m0 m V C M sv lw p (q7q br C.rg.toNat bk C.sp.toNat) (q1j C):=by
 have hown:∀ {j b},q3x (q7q br C.rg.toNat bk C.sp.toNat j) b→(j=1∧b=br)∨(j=2∧b=bk):=fun {j b} h=>by
  match j,h with
  | 0,h=>exact absurd rfl h.1
  | 1,h=>exact .inl ⟨rfl,by have:=h.2;cases this;rfl⟩
  | 2,h=>exact .inr ⟨rfl,by have:=h.2;cases this;rfl⟩
  | j+3,h=>exact absurd rfl h.1
 refine ⟨cp,⟨fun j hj=>?_,fun j hj=>?_,fun j hj hc=>?_,fun j k b hj hk h1 h2=>?_⟩,hle,fun b hb=>?_,fun _=>rfl,fun _=>rfl⟩
 ·match j,hj with
  | 0,_=>rfl
  | 1,_=>exact q1y q2c _
  | 2,_=>exact q1y q2c _
  | 3,_=>rfl
  | 4,_=>rfl
  | j+5,hj=>exfalso;unfold famN q1j at hj;simp only [List.length_nil] at hj;omega
 ·match j,hj with
  | 0,_=>exact Nat.le_refl _
  | 1,_=>show (List.replicate _ _).length≤_;rw [List.length_replicate];exact Nat.le_refl _
  | 2,_=>show (List.replicate _ _).length≤_;rw [List.length_replicate];exact Nat.le_refl _
  | 3,_=>exact Nat.le_refl _
  | 4,_=>exact Nat.le_refl _
  | j+5,hj=>exfalso;unfold famN q1j at hj;simp only [List.length_nil] at hj;omega
 ·match j,hj,hc with
  | 0,_,hc=>exact absurd rfl hc
  | 1,_,hc =>
   refine ⟨br,[],rfl,?_,?_⟩
   ·rw [List.append_nil];show m br=some (Cells (q0r VR.cells (List.replicate _ _)) _);rw [z4x];exact cr
   ·show (q0r VR.cells (List.replicate _ _)).length+0=_;rw [q1y q2c,List.length_replicate];rfl
  | 2,_,hc =>
   refine ⟨bk,[],rfl,?_,?_⟩
   ·rw [List.append_nil];show m bk=some (Cells (q0r VR.cells (List.replicate _ _)) _);rw [z4x];exact ck
   ·show (q0r VR.cells (List.replicate _ _)).length+0=_;rw [q1y q2c,List.length_replicate];rfl
  | j+3,_,hc=>exact absurd rfl hc
 ·rcases hown h1 with ⟨e1,e2⟩ | ⟨e1,e2⟩<;>rcases hown h2 with ⟨f1,f2⟩ | ⟨f1,f2⟩
  ·omega
  ·exact absurd (e2.symm.trans f2) hne
  ·exact absurd (f2.symm.trans e2) hne
  ·omega
 ·rcases hb with hb | ⟨j,_,hb⟩
  ·rw [hb];exact hp
  ·rcases hown hb with ⟨_,e⟩ | ⟨_,e⟩<;>rw [e]<;>assumption
theorem RfAt.pushRow (h:RfAt m0 m V C M sv lw p H s) {bn bx n:Nat} {mx:Mem} {K:Value→Mem→Prop} (hbn:m bn=none) (hle:Mem.le m mx) (hcn:mx bn=some (Cells (List.replicate n [i 0]).flatten T64)) (hx:mx bx=some (Cells [.slice (some ⟨bn,0,none⟩) n n] TRow)) (hl:s.arr.length≤1000000)
  (k:∀ b' c' m',(∀ K':Mem→Prop,(∀ m2 H',q1d m0 V C M sv lw p m H s m2 H' { s with arr:=s.arr++[List.replicate n 0] }→K' m2)→WSt m' ((⟨p,0,none⟩:Addr).add 19) [.slice (some ⟨b',0,none⟩) (s.arr.length+1) c'] K')→K (.slice (some ⟨b',0,none⟩) (s.arr.length+1) c') m') :
  WApp mx TRow 1 24 [ns] (H 3).a s.arr.length (H 3).c (some ⟨bx,0,none⟩) 1 K:=by
 have hz:(List.replicate n [i 0]).flatten=(List.replicate n (0:Int)).map i:=v6z n
 rw [hz] at hcn
 have hbp:bn≠p:=fun e=>by subst e;rw [h.hp] at hbn;cases hbn
 have hN:famN s=5+s.arr.length:=rfl
 -- the family with the new array's block
 have hF:q2g mx (famN s+1) tyR szS (H.upd (famN s) ⟨some ⟨bn,0,none⟩,n⟩) (fun j=>if j=famN s then n else numS s j) (fun j=>if j=famN s then (List.replicate n (0:Int)).map i else q1f H s j):=by
  have h1:=h.fam.mono hle
  have hty:tyR (famN s)=T64:=by rw [hN,Nat.add_comm];rfl
  have hsz:szS (famN s)=1:=by rw [hN,Nat.add_comm];rfl
  refine ⟨fun j hj=>?_,fun j hj=>?_,fun j hj hc=>?_,fun j k b hj hk hoj hok=>?_⟩
  ·by_cases e:j=famN s
   ·rw [if_pos e,if_pos e,e,hsz];simp
   ·rw [if_neg e,if_neg e];exact h1.len j (by omega)
  ·by_cases e:j=famN s
   ·rw [if_pos e,e,q1c];exact Nat.le_refl _
   ·rw [if_neg e,q0u H _ e];exact h1.cap j (by omega)
  ·by_cases e:j=famN s
   ·subst e
    rw [q1c,if_pos rfl,hty,hsz]
    exact ⟨bn,[],rfl,by rw [List.append_nil];exact hcn,by simp⟩
   ·rw [q0u H _ e] at hc ⊢
    rw [if_neg e]
    exact h1.blk j (by omega) hc
  ·have key:∀ q,q<famN s→q3x (H q) b→q3x (H.upd (famN s) ⟨some ⟨bn,0,none⟩,n⟩ (famN s)) b→False:=fun q hq h1' h2'=>by
    rw [q1c] at h2'
    have:=h2'.2
    cases this
    exact h.free hbn (.inr ⟨q,hq,h1'⟩)
   by_cases e1:j=famN s
   ·by_cases e2:k=famN s
    ·rw [e1,e2]
    ·subst e1;rw [q0u H _ e2] at hok;exact (key k (by omega) hok hoj).elim
   ·by_cases e2:k=famN s
    ·subst e2;rw [q0u H _ e1] at hoj;exact (key j (by omega) hoj hok).elim
    ·rw [q0u H _ e1] at hoj;rw [q0u H _ e2] at hok
     exact h1.inj j k b (by omega) (by omega) hoj hok
 have n3:(3:Nat)≠famN s:=by omega
 have hH3:(H.upd (famN s) ⟨some ⟨bn,0,none⟩,n⟩) 3=H 3:=q0u H _ n3
 have happ:=hF.app (k:=3) (bx:=bx) (Tx:=TRow) (n:=s.arr.length) (c:=(H 3).c) (bytes:=24) (a:=(H 3).a) (x:=[.slice (some ⟨bn,0,none⟩) n n]) (zero:=[ns]) (K:=K) (by omega) (by rw [hH3]) (by rw [if_neg n3];rfl) (by rw [hH3]) rfl (by decide) hx rfl rfl
  (by rw [if_neg n3];show (s.arr.length+1) * 24≤_;omega) (fun e=>by
   rw [if_neg n3]
   rw [hH3] at e
   cases hh:s.arr.length with
   | zero=>exact hh
   | succ q =>
    obtain ⟨b,_,hb,_⟩:=h.fam.room (j:=3) (by omega) (show s.arr.length≠0 by omega)
    rw [hb.2] at e;cases e)
 refine happ fun b' c' rest m' hm hc hr hb hx'=>?_
 rw [if_neg n3] at hc hm hr
 rw [hH3] at hb
 have h3N:3<famN s:=by omega
 have hpb:p≠b':=by
  rcases hb with hb | hb
  ·exact q3y (hle _ _ h.hp) hb
  ·exact fun e=>h.notp ⟨3,h3N,hb⟩ e.symm
 have e1:(if 3=famN s then n else numS s 3)+1=s.arr.length+1:=by rw [if_neg n3];rfl
 rw [e1]
 refine k b' c' m' fun K' hK=>?_
 have hp2:m' p=some (Cells (q1l V C M sv lw H s) TRf):=by rw [hx' p hpb];exact hle _ _ h.hp
 refine WSt.at _ _ hp2 (show 19+1≤29 by decide) ?_
 generalize hs2:({ s with arr:=s.arr++[List.replicate n 0] }:St)=s2 at hK
 have arr2:s2.arr=s.arr++[List.replicate n 0]:=by rw [← hs2]
 have hN2:famN s2=famN s+1:=by unfold famN;rw [arr2,List.length_append];rfl
 have get2:∀ q,q<s.arr.length→s2.arr.getD q []=s.arr.getD q []:=fun q hq=>by rw [arr2,List.getD_eq_getElem?_getD,List.getElem?_append_left hq,List.getD_eq_getElem?_getD]
 have getN:s2.arr.getD s.arr.length []=List.replicate n 0:=by rw [arr2,List.getD_eq_getElem?_getD,List.getElem?_append_right (Nat.le_refl _),Nat.sub_self];rfl
 generalize hH2:(H.upd (famN s) ⟨some ⟨bn,0,none⟩,n⟩).upd 3 ⟨some ⟨b',0,none⟩,c'⟩=H2
 have h2_3:H2 3=⟨some ⟨b',0,none⟩,c'⟩:=by rw [← hH2,q1c]
 have h2_N:H2 (famN s)=⟨some ⟨bn,0,none⟩,n⟩:=by rw [← hH2,q0u _ _ (Ne.symm n3),q1c]
 have h2_o:∀ j,j≠3→j≠famN s→H2 j=H j:=fun j e1 e2=>by rw [← hH2,q0u _ _ e1,q0u _ _ e2]
 have hrows:q2h H2 s2.arr=q2h H s.arr++[.slice (some ⟨bn,0,none⟩) n n]:=by
  unfold q2h
  have:s2.arr.length=s.arr.length+1:=by rw [arr2,List.length_append];rfl
  rw [this,List.range_succ,List.map_append]
  congr 1
  ·apply List.map_congr_left
   intro j hj
   have hj:=List.mem_range.1 hj
   rw [h2_o (j+5) (by omega) (by omega),get2 j hj]
  ·show [Value.slice (H2 (s.arr.length+5)).a (s2.arr.getD s.arr.length []).length (H2 (s.arr.length+5)).c]=_
   rw [getN,show s.arr.length+5=famN s by omega,h2_N,List.length_replicate]
 have hnum:∀ j,j<famN s+1→j≠3→H2 j=(H.upd (famN s) ⟨some ⟨bn,0,none⟩,n⟩) j∧numS s2 j=(if j=famN s then n else numS s j)∧q1f H2 s2 j=(if j=famN s then (List.replicate n (0:Int)).map i else q1f H s j):=fun j hj e=>by
  by_cases eN:j=famN s
  ·subst eN
   rw [h2_N,q1c,if_pos rfl,if_pos rfl,hN,Nat.add_comm]
   refine ⟨rfl,?_,?_⟩
   ·show (s2.arr.getD s.arr.length []).length=n;rw [getN,List.length_replicate]
   ·show (s2.arr.getD s.arr.length []).map i=_;rw [getN]
  ·rw [h2_o j e eN,q0u _ _ eN,if_neg eN,if_neg eN]
   refine ⟨rfl,?_⟩
   rw [← hs2]
   match j,e,hj with
   | 0,_,_=>exact ⟨rfl,rfl⟩
   | 1,_,_=>exact ⟨rfl,rfl⟩
   | 2,_,_=>exact ⟨rfl,rfl⟩
   | 4,_,_=>exact ⟨rfl,rfl⟩
   | j+5,_,hj =>
    have g:=get2 j (by omega)
    rw [← hs2] at g
    exact ⟨by show (List.getD _ j []).length=_;rw [g];rfl,by show (List.getD _ j []).map i=_;rw [g];rfl⟩
 have hcells:q0j (q1l V C M sv lw H s) 19 [.slice (some ⟨b',0,none⟩) (s.arr.length+1) c']=q1l V C M sv lw H2 s2:=by
  have e8:hv H2 s2 3=.slice (some ⟨b',0,none⟩) (s.arr.length+1) c':=by unfold hv;rw [h2_3];show Value.slice _ s2.arr.length _=_;rw [arr2,List.length_append];rfl
  have e0:∀ j,j<5→j≠3→hv H2 s2 j=hv H s j:=fun j h1 h2=>by
   have:=hnum j (by omega) h2
   unfold hv
   rw [h2_o j h2 (by omega),this.2.1,if_neg (by omega)]
  unfold q1l
  rw [e8,e0 0 (by decide) (by decide),e0 1 (by decide) (by decide),e0 2 (by decide) (by decide),e0 4 (by decide) (by decide),← hs2]
  rfl
 show K' (m'.set p (Cells (q0j (q1l V C M sv lw H s) 19 [.slice (some ⟨b',0,none⟩) (s.arr.length+1) c']) TRf))
 rw [hcells]
 generalize hm2:m'.set p (Cells (q1l V C M sv lw H2 s2) TRf)=m2
 have hfoot:∀ x,q0s p H2 s2 x→q0s p H s x∨m x=none:=fun x hf=>by
  rcases hf with hf | ⟨j,hj,hf⟩
  ·exact .inl (.inl hf)
  ·rw [hN2] at hj
   by_cases e3:j=3
   ·subst e3
    rw [h2_3] at hf
    have:=hf.2
    cases this
    rcases hb with hb | hb
    ·exact .inr (q1z hle hb)
    ·exact .inl (.inr ⟨3,h3N,hb⟩)
   ·by_cases eN:j=famN s
    ·subst eN
     rw [h2_N] at hf
     have:=hf.2
     cases this
     exact .inr hbn
    ·rw [h2_o j e3 eN] at hf
     exact .inl (.inr ⟨j,by omega,hf⟩)
 have hkeep:Keep (q0s p H s) m m2:=fun x o hxo hn=>by
  have e1:x≠p:=fun e=>hn (.inl e)
  have e2:x≠b':=fun e=>by
   subst e
   rcases hb with hb | hb
   ·rw [hle _ _ hxo] at hb;cases hb
   ·exact hn (.inr ⟨3,h3N,hb⟩)
  rw [← hm2,Mem.set_other _ _ e1,hx' x e2];exact hle _ _ hxo
 refine hK m2 H2 ⟨⟨by rw [← hm2,Mem.set_same],?_,hkeep.le h.le h.nw,fun x hf=>?_,fun e=>?_,fun e=>?_⟩,hkeep,hfoot⟩
 ·rw [hN2]
  refine hF.put (k:=3) (b:=b') (rest:=rest) (by omega) hnum (by rw [h2_3]) (by rw [hH3];exact hb) ?_ ?_ ?_ ?_ fun x o e hf hxo=>?_
  ·rw [← hm2,Mem.set_other _ _ (Ne.symm hpb)]
   show m' b'=some (Cells (q2h H2 s2.arr++rest) TRow)
   rw [hrows];exact hm
  ·show (q2h H2 s2.arr).length=s2.arr.length * 1
   unfold q2h;simp
  ·rw [h2_3];show s2.arr.length≤c';rw [arr2,List.length_append];exact hc
  ·rw [h2_3];show (q2h H2 s2.arr).length+rest.length=c' * 1;rw [hrows];exact hr
  ·have e1:x≠p:=by
    rcases hf with ⟨j,hj,hf⟩
    by_cases eN:j=famN s
    ·subst eN
     rw [q1c] at hf
     have:=hf.2
     cases this
     exact hbp
    ·rw [q0u _ _ eN] at hf;exact h.notp ⟨j,by omega,hf⟩
   rw [← hm2,Mem.set_other _ _ e1,hx' x e];exact hxo
 ·rcases hfoot x hf with g | g
  ·exact h.nw x g
  ·exact q1z h.le g
 ·rw [h2_o 0 (by decide) (by omega)] at e;rw [← hs2];exact h.nil0 e
 ·rw [h2_o 4 (by decide) (by omega)] at e;rw [← hs2];exact h.nil4 e
theorem RfAt.setNum (h:RfAt m0 m V C M sv lw p H s) {r:Nat} (hr:r<s.regs.length) {z:Int} {ad:Addr} {vs:List Value} {K:Mem→Prop} (ha:(H 1).a=some ad) (hv:vs=[i z])
  (k:∀ m',q1d m0 V C M sv lw p m H s m' H { s with regs:=s.regs.set r ⟨z,(s.regs.getD r VR.zero).b⟩ }→K m'):WSt m (ad.add (r * 2)) vs K:=by
 subst hv
 obtain ⟨b,rest,hb,hm,hl⟩:=h.fam.room (j:=1) (by unfold famN;omega) (show s.regs.length≠0 by omega)
 rw [hb.2] at ha;cases ha
 have hfl:(q1f H s 1).length=s.regs.length * 2:=q1y q2c _
 refine WSt.at _ _ hm (by rw [List.length_append,hfl];show r * 2+1≤_;omega) ?_
 have hb1:(q1f H s 1++rest)[r * 2+1]? = some (i (s.regs.getD r VR.zero).b):=by
  rw [List.getElem?_append_left (by rw [hfl];omega)]
  show (q0r VR.cells s.regs)[_]? = _
  rw [q8a q2c hr (by decide),List.getD_eq_getElem?_getD,List.getElem?_eq_getElem hr];rfl
 have e:q0j (q1f H s 1++rest) (r * 2) [i z]=q1f H { s with regs:=s.regs.set r ⟨z,(s.regs.getD r VR.zero).b⟩ } 1++rest:=by
  have e2:=q9e q2c hr ⟨z,(s.regs.getD r VR.zero).b⟩ rest
  refine Eq.trans ?_ e2
  show (q1f H s 1++rest).set (r * 2) (i z)=((q1f H s 1++rest).set (r * 2) (i z)).set (r * 2+1) (i (s.regs.getD r VR.zero).b)
  apply List.ext_getElem? 
  intro q
  rw [List.getElem?_set (i:=r * 2+1)]
  split
  ·rename_i e;subst e
   rw [List.getElem?_set_ne (by omega),hb1,if_pos (by rw [List.length_set,List.length_append,hfl];omega)]
  ·rfl
 rw [e]
 refine k _ (h.put (k:=1) (by unfold famN;omega) hb ?_ rfl (fun j hj e=>?_) ?_ ?_ hl rfl rfl)
 ·unfold q1l Go.Proofs.YtleofbpepfmfgaaGreatDoor.hv;show _=_
  have:numS { s with regs:=s.regs.set r ⟨z,(s.regs.getD r VR.zero).b⟩ } 1=numS s 1:=List.length_set
  rw [this];rfl
 ·match j,e with
  | 0,_=>exact ⟨rfl,rfl⟩
  | 2,_=>exact ⟨rfl,rfl⟩
  | 3,_=>exact ⟨rfl,rfl⟩
  | 4,_=>exact ⟨rfl,rfl⟩
  | j+5,_=>exact ⟨rfl,rfl⟩
 ·exact List.length_set
 ·show (q0r VR.cells (s.regs.set r _)).length=(q0r VR.cells s.regs).length
  rw [q1y q2c,q1y q2c,List.length_set]
theorem RfAt.printsAt (h:RfAt m0 m V C M sv lw p H s):IAt m (hv H s 0) s.prints:=by
 refine ⟨(H 0).a,(H 0).c,rfl,h.nil0,fun ad ha=>?_,h.fam.cap 0 (by unfold famN;omega)⟩
 exact h.fam.cellsAt (j:=0) (by unfold famN;omega) ha
end Go.Proofs.YtleofbpepfmfgaaGreatDoor
set_option maxRecDepth 100000
namespace Go.Proofs.YtleofbpepfmfgaaGreatDoor
open Go Go.Vx
open Go.Vx.IOp Go.Vx.IR Go.Vx.Opd
section
variable {m0 m m' m2 m3:Mem} {V:CV} {C:q0c} {M:Mac} {sv:Value} {p:Nat} {H:HdF} {s s' s1:St} {sh:List Int}
theorem w4e (h:RfAt m0 m V C M sv 0 p H s) (hB:q1m m0 V C M sv sh) {k:Nat} (hG:Good C s k) (n:Nat) (hn:k+401 * n≤900000000) :
  q0f Tryz.prog 34 [ptr p,i (n:Int)] m fun e m'=>e=.returned q2r∧∃ H',q1d m0 V C M sv 0 p m H s m' H' (runS C M sh n s):=by
 refine q0e q0d Tryz.func34 k5j rfl ?_
 conv=>whnf
 refine q0v.mk (Nat×St×HdF×Nat) (fun x=>[(4,.val (i x.1))]) (fun x m'=>x.1≤n∧q1d m0 V C M sv 0 p m H s m' x.2.2.1 x.2.1∧Good C x.2.1 x.2.2.2∧x.2.2.2+401 * (n - x.1)≤900000000 ∧
  runS C M sh (n - x.1) x.2.1=runS C M sh n s) (fun x=>n - x.1) (0,s,H,k) ⟨rfl,trivial⟩ ⟨Nat.zero_le _,q1d.refl h,hG,hn,rfl⟩ ?_
 rintro ⟨j,sj,Hj,kj⟩ m1 ⟨hj,G,hGj,hkj,hrj⟩
 simp only at hj G hGj hkj hrj
 have h1:=G.at'
 refine WSc.mk (v:=!sj.ended) (fun _=>?_) ?_
 ·refine WLd.mk (.bool sj.ended) (h1.cell rfl) ?_
  conv=>whnf
  exact And.intro (Mem.le.refl _) rfl
 refine Br.mk (fun hb=>?_) (fun hb=>?_)
 ·have hb:(decide ((j:Int)<(n:Int))&&!sj.ended)=true:=hb
  rw [Bool.and_eq_true,decide_eq_true_eq,Bool.not_eq_true'] at hb
  have hj2:j<n:=by omega
  rw [show n - j=(n - (j+1))+1 by omega,z3k,if_neg (by rw [hb.2];decide)] at hrj
  conv=>whnf
  refine q0a.mk (j2p h1 hB hGj.ok hb.2 hGj.word hGj.lim (by omega)) ?_
  rintro _ m2 ⟨rfl,H2,G2⟩
  refine WRng.mk (by apply wrap_i64<;>omega) ?_
  conv=>whnf
  exact ⟨(j+1,cycS C M sh sj,H2,kj+401),⟨rfl,trivial⟩,⟨hj2,G.trans G2,hGj.cyc hB.ok,by simp only;omega,hrj⟩,Nat.sub_lt_sub_left hj2 (Nat.lt_succ_self j)⟩
 ·have hb:(decide ((j:Int)<(n:Int))&&!sj.ended)=false:=hb
  rw [Bool.and_eq_false_iff,decide_eq_false_iff_not,Bool.not_eq_false'] at hb
  have e:runS C M sh n s=sj:=by
   rw [← hrj]
   rcases hb with hb | hb
   ·obtain rfl:j=n:=by omega
    rw [Nat.sub_self];rfl
   ·exact v1s hb _
  refine WRet.same ⟨rfl,Hj,?_⟩
  rw [e];exact G
end
theorem v1f (V:CV) (C:q0c) (M:Mac) (a:Option Addr) (n c br rc bk kc:Nat):q6k [ns,i 0,i 0,i 0,i 0,ns,i 0,i 0,i 0,i 0,i 0,i 0,i 0,i 0,i 0,i 0,i 0,ns,ns,ns,ns,ns,i 0,i 0,i 0,.bool false,ns,i 0,i 0]
  [(0,6,.agg ⟨List.take 6 (q0k (V.val C))⟩),(6,11,.agg ⟨List.take 11 (q0k M.val)⟩),(17,1,.slice a n c),(18,1,.slice (some ⟨br,0,none⟩) rc rc),(20,1,.slice (some ⟨bk,0,none⟩) kc kc),(26,3,.agg ⟨q0j [ns,i 0,i 0] 1 (q0k (i 3))⟩)] =
  some (V.cells C++M.cells++[.slice a n c,.slice (some ⟨br,0,none⟩) rc rc,ns,.slice (some ⟨bk,0,none⟩) kc kc,ns,i 0,i 0,i 0,.bool false,ns,i 3,i 0]):=by kernel_rfl
theorem v0s (V:CV) (C:q0c) (M:Mac) (sv:Value) (br bk:Nat):q1l V C M sv 0 (q7q br C.rg.toNat bk C.sp.toNat) (q1j C)=V.cells C++M.cells++[sv,.slice (some ⟨br,0,none⟩) C.rg.toNat C.rg.toNat,ns,.slice (some ⟨bk,0,none⟩) C.sp.toNat C.sp.toNat,ns,i 0,i 0,i 0,.bool false,ns,i 3,i 0]:=by
 have e1:numS (q1j C) 1=C.rg.toNat:=List.length_replicate
 have e2:numS (q1j C) 2=C.sp.toNat:=List.length_replicate
 unfold q1l hv
 rw [e1,e2]
 rfl
section
variable {m0 m m':Mem} {V:CV} {C:q0c} {M:Mac} {sv:Value} {p:Nat} {H:HdF} {s s':St} {sh:List Int}
def rsA:IR:=(match z2a.body with | .seq a _=>a | r=>r)
def rsB:IR:=(match z2a.body with | .seq _ (.seq b _)=>b | r=>r)
def z9g:IR:=(match z2a.body with | .seq _ (.seq _ r)=>r | r=>r)
theorem j0s:z2a.body=.seq rsA (.seq rsB z9g):=rfl
theorem w3s {V0:CV} (h:RfAt m0 m V C M sv 0 p H (q1j C)) (hV:q1q m0 V0 C) (hC:q3h C) {aa:Option Addr} {ca:Nat} {args:List Int} (hargs:IAt m0 (.slice aa args.length ca) args) (hal:args.length≤C.rg.toNat)
  {R:Ending→Mem→Prop} (kR:∀ m' H',q1d m0 V C M sv 0 p m H (q1j C) m' H' (q2t C args)→R (.returned (ptr p)) m'):wpI Tryz.prog z9g (q0i [.t 8] R) (envL [(2,.val (.slice aa args.length ca)),(4,.var (V0.cells C)),(9,.val (ptr p))]) m:=by
 have hrg:=hC.rg
 have hszl:=hC.szl
 obtain ⟨aa',ca',ea,q0,q1,q2⟩:=hargs
 injection ea with ea1 ea2 ea3
 subst ea1;subst ea3
 have hsz2:IAt m0 (.slice V0.a1 C.sz.length V0.c1) C.sz:=by have:=hV.sz;rw [hV.n1] at this;exact this
 obtain ⟨as',cs',es,z0,z1,z2⟩:=hsz2
 injection es with es1 es2 es3
 have e0:q1j C={ q1j C with regs:=q1v C (args.take 0) }:=by
  show q1j C={ q1j C with regs:=[]++List.replicate (C.rg.toNat - 0) VR.zero }
  rfl
 conv=>whnf
 refine q0v.mk Nat (fun k=>[(10,.val (i k))]) (fun k m'=>k≤args.length∧q1d m0 V C M sv 0 p m H (q1j C) m' H { q1j C with regs:=q1v C (args.take k) }) (fun k=>args.length - k) 0 ⟨rfl,trivial⟩ ⟨Nat.zero_le _,by rw [← e0];exact q1d.refl h⟩ ?_
 rintro k m1 ⟨hk,G⟩
 have h1:=G.at'
 refine Br.mk (fun hb=>?_) (fun hb=>?_)
 ·have hk2:k<args.length:=by
   have:(k:Int)<(args.length:Nat):=of_decide_eq_true hb
   omega
  obtain ⟨ad,rfl⟩:∃ ad,aa=some ad:=by
   cases aa with
   | none=>rw [q0 rfl] at hk2;simp at hk2
   | some ad=>exact ⟨ad,rfl⟩
  have hln:(q1v C (args.take k)).length=C.rg.toNat:=z8c (by rw [List.length_take];omega)
  have hr:k<({ q1j C with regs:=q1v C (args.take k) }:St).regs.length:=by show k<(q1v C (args.take k)).length;rw [hln];omega
  have hb0:((q1v C (args.take k)).getD k VR.zero).b=0:=by
   unfold q1v
   rw [List.getD_eq_getElem?_getD,List.getElem?_append_right (by simp;omega),List.getElem?_replicate]
   split<;>rfl
  obtain ⟨ar,har,_⟩:=h1.regCells hr
  refine WLd.mk (hv H { q1j C with regs:=q1v C (args.take k) } 1) (h1.cell rfl) ?_
  refine WIdx.mk ad rfl ⟨by omega,by omega⟩ ?_
  refine WLd.mk (i args[k]) (by simpa using (IAt.cell (q1 ad rfl) hk2).mono h1.le) ?_
  refine WIdx.mk ar har ⟨by omega,by show (k:Int)<(numS { q1j C with regs:=q1v C (args.take k) } 1:Nat);exact Int.ofNat_lt.2 hr⟩ ?_
  conv=>whnf
  refine ⟨?_,trivial⟩
  conv=>whnf
  rw [q0o]
  refine h1.setNum hr har (z:=args[k]) rfl fun m2 G2=>?_
  have e2:({ ({ q1j C with regs:=q1v C (args.take k) }:St) with regs:=(q1v C (args.take k)).set k ⟨args[k],((q1v C (args.take k)).getD k VR.zero).b⟩ }:St)={ q1j C with regs:=q1v C (args.take (k+1)) }:=by
   rw [hb0,v1g hk2 hal]
  have G2:=G.trans G2
  refine WRng.mk (by apply wrap_i64<;>omega) ?_
  conv=>whnf
  refine ⟨k+1,⟨rfl,trivial⟩,⟨hk2,?_⟩,Nat.sub_lt_sub_left hk2 (Nat.lt_succ_self k)⟩
  rw [← e2];exact G2
 ·have hk2:k=args.length:=by
   have:¬ (k:Int)<(args.length:Nat):=of_decide_eq_false hb
   omega
  subst hk2
  rw [List.take_length] at G h1
  have hn1:=hV.n1
  have ez:({ q1j C with regs:=q1v C args }:St)={ q1j C with regs:=q1v C args,arr:=(C.sz.take 0).map fun n=>List.replicate n.toNat 0 }:=rfl
  conv=>whnf
  refine q0v.mk (Nat×HdF) (fun x=>[(11,.val (i x.1))]) (fun x m'=>x.1≤C.sz.length∧q1d m0 V C M sv 0 p m H (q1j C) m' x.2 { q1j C with regs:=q1v C args,arr:=(C.sz.take x.1).map fun n=>List.replicate n.toNat 0 }) (fun x=>C.sz.length - x.1) (0,H) ⟨rfl,trivial⟩ ⟨Nat.zero_le _,by rw [← ez];exact G⟩ ?_
  rintro ⟨j,Hj⟩ m2 ⟨hj,G2⟩
  simp only at hj G2
  have h2:=G2.at'
  refine Br.mk (fun hb=>?_) (fun hb=>?_)
  ·have hj2:j<C.sz.length:=by
    have:(j:Int)<(V0.n1:Nat):=of_decide_eq_true hb
    omega
   have hzj:=hC.sz _ (List.getElem_mem hj2)
   obtain ⟨ad,had⟩:∃ ad,V0.a1=some ad:=by
    cases hh:V0.a1 with
    | none=>rw [z0 (es1.symm.trans hh)] at hj2;simp at hj2
    | some ad=>exact ⟨ad,rfl⟩
   have hal2:((C.sz.take j).map fun n:Int=>List.replicate n.toNat (0:Int)).length=j:=by simp;omega
   refine WLd.mk (hv Hj { q1j C with regs:=q1v C args,arr:=(C.sz.take j).map fun n=>List.replicate n.toNat 0 } 3) (h2.cell rfl) ?_
   refine WIdx.mk ad had ⟨by omega,by omega⟩ ?_
   conv=>whnf
   refine ⟨?_,trivial⟩
   refine WLd.mk (i C.sz[j]) (by simpa using (IAt.cell (z1 ad (es1.symm.trans had)) hj2).mono h2.le) ?_
   conv=>whnf
   refine ⟨?_,trivial⟩
   conv=>whnf
   refine q2z.mk ⟨by omega,Int.le_refl _,by omega⟩ fun bn hbn=>?_
   have l3:=Mem.le_set (o:=Cells (List.replicate (Int.toNat C.sz[j]) [i 0]).flatten T64) hbn
   have c3:(m2.set bn (Cells (List.replicate (Int.toNat C.sz[j]) [i 0]).flatten T64)) bn=some (Cells (List.replicate (Int.toNat C.sz[j]) [i 0]).flatten T64):=Mem.set_same _ _ _
   generalize m2.set bn (Cells (List.replicate (Int.toNat C.sz[j]) [i 0]).flatten T64)=m3 at l3 c3 ⊢
   conv=>whnf
   refine ⟨?_,trivial⟩
   refine WNew.ab fun bx m4 hbx l4 cx=>?_
   conv=>whnf
   refine ⟨?_,trivial⟩
   conv=>whnf
   refine h2.pushRow (n:=C.sz[j].toNat) hbn (l3.trans l4) (l4 _ _ c3) cx (by show List.length (List.map _ _)≤_;rw [hal2];omega) fun b' c' m5 hst=>?_
   conv=>whnf
   refine ⟨?_,trivial⟩
   conv=>whnf
   refine hst _ fun m6 H6 G6=>?_
   have e2:(C.sz.take j).map (fun n:Int=>List.replicate n.toNat (0:Int))++[List.replicate C.sz[j].toNat 0]=(C.sz.take (j+1)).map fun n=>List.replicate n.toNat 0:=by
    rw [List.take_succ_eq_append_getElem hj2,List.map_append];rfl
   have G6:=G2.trans G6
   refine WRng.mk (by apply wrap_i64<;>omega) ?_
   conv=>whnf
   refine ⟨(j+1,H6),⟨rfl,trivial⟩,⟨hj2,?_⟩,Nat.sub_lt_sub_left hj2 (Nat.lt_succ_self j)⟩
   show q1d m0 V C M sv 0 p m H (q1j C) m6 H6 { q1j C with regs:=q1v C args,arr:=(C.sz.take (j+1)).map fun n=>List.replicate n.toNat 0 }
   rw [← e2];exact G6
  ·have hj2:j=C.sz.length:=by
    have:¬ (j:Int)<(V0.n1:Nat):=of_decide_eq_false hb
    omega
   subst hj2
   rw [List.take_length] at G2
   exact WRet.same (kR _ _ G2)
attribute [irreducible] z9g
def k8m (m:Mem) (V:CV) (C:q0c) (M:Mac) (sv:Value) (args:List Int) (e:Ending) (m':Mem):Prop:=∃ p H,e=.returned (ptr p)∧RfAt m m' V C M sv 0 p H (q2t C args)
attribute [local irreducible] q0j in
theorem j3x (hrg:1≤C.rg∧C.rg≤4096) (hsp:0≤C.sp∧C.sp≤4096) {av:Value} {sa:Option Addr} {sl cs:Nat} {rs:List Res} {RR:Ending→Mem→Prop} {R:IR}
  (T:∀ p br bk m',m p=none→m br=none→m bk=none→br≠bk→Mem.le m m'→m' p=some (Cells (q1l V C M (.slice sa sl cs) 0 (q7q br C.rg.toNat bk C.sp.toNat) (q1j C)) TRf)→m' br=some (Cells (List.replicate C.rg.toNat [i 0,i 0]).flatten TVal)→m' bk=some (Cells (List.replicate C.sp.toNat [i 0,i 0]).flatten TVal) →
   wpI Tryz.prog R (q0i rs RR) (envL [(2,.val av),(4,.var (V.cells C)),(9,.val (ptr p))]) m') :
  wpI Tryz.prog (.seq rsA (.seq rsB R)) (q0i rs RR) (q5p [V.val C,M.val,av,.slice sa sl cs]) m:=by
 conv=>whnf
 refine ⟨?_,?_,trivial⟩
 ·conv=>whnf
  refine q2z.mk ⟨by omega,Int.le_refl _,by omega⟩ fun br hbr=>?_
  have cr:(m.set br (Cells (List.replicate (Int.toNat C.rg) [i 0,i 0]).flatten TVal)) br=some (Cells (List.replicate C.rg.toNat [i 0,i 0]).flatten TVal):=Mem.set_same _ _ _
  have lr:=Mem.le_set (o:=Cells (List.replicate (Int.toNat C.rg) [i 0,i 0]).flatten TVal) hbr
  generalize m.set br (Cells (List.replicate (Int.toNat C.rg) [i 0,i 0]).flatten TVal)=mr at cr lr ⊢
  conv=>whnf
  refine ⟨?_,trivial⟩
  conv=>whnf
  refine q2z.mk ⟨by omega,Int.le_refl _,by omega⟩ fun bk hbk=>?_
  have ck:(mr.set bk (Cells (List.replicate (Int.toNat C.sp) [i 0,i 0]).flatten TVal)) bk=some (Cells (List.replicate C.sp.toNat [i 0,i 0]).flatten TVal):=Mem.set_same _ _ _
  have lk:=Mem.le_set (o:=Cells (List.replicate (Int.toNat C.sp) [i 0,i 0]).flatten TVal) hbk
  generalize mr.set bk (Cells (List.replicate (Int.toNat C.sp) [i 0,i 0]).flatten TVal)=mk at ck lk ⊢
  conv=>whnf
  rw [v1f]
  conv=>whnf
  refine ⟨?_,trivial⟩
  refine WNew.ab fun p m3 hp l3 cp=>?_
  have hne:br≠bk:=q3y cr hbk
  conv=>whnf
  exact q0x (T p br bk m3 (q1z (lr.trans lk) hp) hbr (q1z lr hbk) hne ((lr.trans lk).trans l3) (by rw [v0s];exact cp) (l3 _ _ (lk _ _ cr)) (l3 _ _ ck)) ⟨rfl,rfl,rfl,trivial⟩
 ·conv=>whnf
  refine q2z.mk ⟨by omega,Int.le_refl _,by omega⟩ fun bk hbk=>?_
  have ck:(m.set bk (Cells (List.replicate (Int.toNat C.sp) [i 0,i 0]).flatten TVal)) bk=some (Cells (List.replicate C.sp.toNat [i 0,i 0]).flatten TVal):=Mem.set_same _ _ _
  have lk:=Mem.le_set (o:=Cells (List.replicate (Int.toNat C.sp) [i 0,i 0]).flatten TVal) hbk
  generalize m.set bk (Cells (List.replicate (Int.toNat C.sp) [i 0,i 0]).flatten TVal)=mk at ck lk ⊢
  conv=>whnf
  refine ⟨?_,trivial⟩
  conv=>whnf
  refine q2z.mk ⟨by omega,Int.le_refl _,by omega⟩ fun br hbr=>?_
  have cr:(mk.set br (Cells (List.replicate (Int.toNat C.rg) [i 0,i 0]).flatten TVal)) br=some (Cells (List.replicate C.rg.toNat [i 0,i 0]).flatten TVal):=Mem.set_same _ _ _
  have lr:=Mem.le_set (o:=Cells (List.replicate (Int.toNat C.rg) [i 0,i 0]).flatten TVal) hbr
  generalize mk.set br (Cells (List.replicate (Int.toNat C.rg) [i 0,i 0]).flatten TVal)=mr at cr lr ⊢
  conv=>whnf
  rw [v1f]
  conv=>whnf
  refine ⟨?_,trivial⟩
  refine WNew.ab fun p m3 hp l3 cp=>?_
  have hne:br≠bk:=(q3y ck hbr).symm
  conv=>whnf
  exact q0x (T p br bk m3 (q1z (lk.trans lr) hp) (q1z lk hbr) hbk hne ((lk.trans lr).trans l3) (by rw [v0s];exact cp) (l3 _ _ cr) (l3 _ _ (lr _ _ ck))) ⟨rfl,rfl,rfl,trivial⟩
theorem k5b (V:CV) (hV:q1q m V C) (hC:q3h C) {aa sa:Option Addr} {ca sl cs:Nat} {args:List Int}
  (hargs:IAt m (.slice aa args.length ca) args) (hal:args.length≤C.rg.toNat) :
  q0f Tryz.prog 33 [V.val C,M.val,.slice aa args.length ca,.slice sa sl cs] m (k8m m V C M (.slice sa sl cs) args):=by
 refine q0e q0d Tryz.func33 w1k rfl ?_
 unfold Fn.asks
 rw [j0s]
 refine j3x (V:=V) (C:=C) (M:=M) hC.rg hC.sp fun p br bk m' hp hbr hbk hne hle cp cr ck=>?_
 exact w3s (k5p hle hp hbr hbk hne cp cr ck) hV hC hargs hal fun m2 H2 G=>⟨p,H2,rfl,G.at'⟩
end
end Go.Proofs.YtleofbpepfmfgaaGreatDoor
