import Derived.Test.YtleofbpepfmfgaaGreatDoorVxWrd
set_option maxRecDepth 100000
namespace Go.Proofs.YtleofbpepfmfgaaGreatDoor
open Go Go.Vx
open Go.Vx.IOp Go.Vx.IR Go.Vx.Opd
def opS (C:q0c) (o:OpR):OpR:=if o.kd=21 then { o with n:=if (decide (o.n<0)||decide (o.n≥C.ws.length))=true then 1 else 0 } else o
theorem j0h (rg:Int) (u:Bool) (r:Int):regB rg u r=!(u&&q1i rg r):=by
 unfold regB inB q1i
 cases u with
 | false=>rfl
 | true =>
  rw [Bool.eq_iff_iff]
  simp only [Bool.not_true,Bool.false_or,Bool.true_and,Bool.and_eq_true,Bool.not_eq_true',Bool.or_eq_false_iff,decide_eq_true_eq,decide_eq_false_iff_not]
  omega
theorem k2p {C:q0c} {o:OpR} (hsp:0≤C.sp) (h:¬ (26≤o.kd∧o.kd≤28)):opE C.rg C.sz.length C.sp 1 (opS C o)=q1t C o:=by
 have hkd:(opS C o).kd=o.kd:=by unfold opS;split<;>rfl
 have hds:(opS C o).ds=o.ds:=by unfold opS;split<;>rfl
 have ha:(opS C o).a=o.a:=by unfold opS;split<;>rfl
 have hb:(opS C o).b=o.b:=by unfold opS;split<;>rfl
 have hc:(opS C o).c=o.c:=by unfold opS;split<;>rfl
 have hgd:(opS C o).gd=o.gd:=by unfold opS;split<;>rfl
 unfold opE q1t q5b
 rw [hkd,hds,ha,hb,hc,hgd]
 by_cases hk:1≤o.kd∧o.kd≤25
 ·rw [if_neg (fun hh=>hh hk),if_neg (show ¬ (o.kd<1∨o.kd>28) by omega)]
  simp only [j0h]
  -- the number
  have key:topB (topC C.sz.length C.sp 1 o.kd) (opS C o).n=!(uN o.kd&&o.kd != 1&&(decide (o.n<0)||decide (o.n≥q2m C o.kd))) ∧
    ((decide (topC C.sz.length C.sp 1 o.kd<0)&&!(o.kd==1))&&(opS C o).n != 0)=(!uN o.kd&&o.n != 0):=by
   by_cases h1:o.kd=16∨o.kd=17∨o.kd=25
   ·have hn:(opS C o).n=o.n:=by unfold opS;rw [if_neg (by omega)]
    have ht:topC C.sz.length C.sp 1 o.kd=C.sz.length:=by unfold topC z0a;rw [if_pos (by simp only [Bool.or_eq_true,beq_iff_eq];omega)]
    have hu:uN o.kd=true:=by rcases h1 with e | e | e<;>rw [e]<;>rfl
    have hu2:(o.kd != 1)=true:=by simp only [bne_iff_ne,ne_eq];omega
    have hm:q2m C o.kd=C.sz.length:=by unfold q2m;rw [if_pos h1]
    rw [hn,ht,hu,hu2,hm]
    unfold topB
    refine ⟨?_,?_⟩
    ·rw [Bool.eq_iff_iff]
     simp only [Bool.or_eq_true,Bool.and_eq_true,Bool.not_eq_true',Bool.true_and,Bool.and_self,Bool.or_eq_false_iff,decide_eq_true_eq,decide_eq_false_iff_not]
     omega
    ·rw [decide_eq_false (by omega)];rfl
   ·by_cases h2:o.kd=18∨o.kd=19
    ·have hn:(opS C o).n=o.n:=by unfold opS;rw [if_neg (by omega)]
     have ht:topC C.sz.length C.sp 1 o.kd=C.sp:=by unfold topC z0a z1v;rw [if_neg (by simp only [Bool.or_eq_true,beq_iff_eq];omega),if_pos (by simp only [Bool.or_eq_true,beq_iff_eq];omega)]
     have hu:uN o.kd=true:=by rcases h2 with e | e<;>rw [e]<;>rfl
     have hu2:(o.kd != 1)=true:=by simp only [bne_iff_ne,ne_eq];omega
     have hm:q2m C o.kd=C.sp:=by unfold q2m;rw [if_neg h1,if_pos h2]
     rw [hn,ht,hu,hu2,hm]
     unfold topB
     refine ⟨?_,?_⟩
     ·rw [Bool.eq_iff_iff]
      simp only [Bool.or_eq_true,Bool.and_eq_true,Bool.not_eq_true',Bool.true_and,Bool.and_self,Bool.or_eq_false_iff,decide_eq_true_eq,decide_eq_false_iff_not]
      omega
     ·rw [decide_eq_false (by omega)];rfl
    ·by_cases h3:o.kd=21
     ·have hn:(opS C o).n=if (decide (o.n<0)||decide (o.n≥C.ws.length))=true then 1 else 0:=by unfold opS;rw [if_pos h3]
      have ht:topC C.sz.length C.sp 1 o.kd=1:=by unfold topC z0a z1v;rw [if_neg (by simp only [Bool.or_eq_true,beq_iff_eq];omega),if_neg (by simp only [Bool.or_eq_true,beq_iff_eq];omega),if_pos h3]
      have hu:uN o.kd=true:=by rw [h3];rfl
      have hu2:(o.kd != 1)=true:=by rw [h3];rfl
      have hm:q2m C o.kd=C.ws.length:=by unfold q2m;rw [if_neg h1,if_neg h2,if_pos (.inl h3)]
      rw [hn,ht,hu,hu2,hm]
      refine ⟨?_,rfl⟩
      cases hq:(decide (o.n<0)||decide (o.n≥C.ws.length))<;>rfl
     ·have hn:(opS C o).n=o.n:=by unfold opS;rw [if_neg h3]
      have ht:topC C.sz.length C.sp 1 o.kd=-1:=by unfold topC z0a z1v;rw [if_neg (by simp only [Bool.or_eq_true,beq_iff_eq];omega),if_neg (by simp only [Bool.or_eq_true,beq_iff_eq];omega),if_neg h3]
      have hu:uN o.kd=(o.kd==1):=by
       unfold uN
       rw [Bool.eq_iff_iff]
       simp only [Bool.or_eq_true,beq_iff_eq]
       omega
      rw [hn,ht,hu]
      have hu2:(o.kd != 1)=!(o.kd==1):=rfl
      rw [hu2]
      refine ⟨?_,rfl⟩
      cases (o.kd==1)<;>rfl
  obtain ⟨k1,k2⟩:=key
  rw [k1,k2]
  generalize (uD o.kd&&q1i C.rg o.ds)=x1
  generalize (uA o.kd&&q1i C.rg o.a)=x2
  generalize (uB o.kd&&q1i C.rg o.b)=x3
  generalize (uC o.kd&&q1i C.rg o.c)=x4
  generalize (o.gd != -1&&q1i C.rg o.gd)=x5
  generalize (uN o.kd&&o.kd != 1&&(decide (o.n<0)||decide (o.n≥q2m C o.kd)))=x6
  generalize (!uN o.kd&&o.n != 0)=x7
  cases x1<;>cases x2<;>cases x3<;>cases x4<;>cases x5<;>cases x6<;>rfl
 ·rw [if_pos hk,if_pos (show o.kd<1∨o.kd>28 by omega)]
theorem op_ok {m:Mem} {T:Nat} {fr:Nat×Nat} (hm:m 0=some (.cells ⟨q2f⟩ T fr)) (V:CV) {C:q0c} (hV:q1q m V C) (hC:q3c C=0) (o:OpR) :
  q0f Tryz.prog 95 [V.val C,o.val] m fun e m'=>e=.returned (i (q1t C o))∧Mem.le m m':=by
 have hsp:0≤C.sp:=by
  unfold q3c at hC
  split at hC
  ·exact absurd hC (by decide)
  ·split at hC
   ·exact absurd hC (by decide)
   ·split at hC
    ·exact absurd hC (by decide)
    ·omega
 refine q0e q0d Tryz.func95 k3s rfl ?_
 conv=>whnf
 refine q0a.pure (v3b _ _) ?_
 refine Br.mk (fun hk=>?_) (fun hk=>?_)
 ·have hk:26≤o.kd∧o.kd≤28:=by
   simp only [Bool.and_eq_true,decide_eq_true_eq] at hk;omega
  conv=>whnf
  refine q0a.mk (j3n V hV o) ?_
  rintro _ m1 ⟨rfl,l1⟩
  exact WRet.same ⟨by rw [j1x hk];rfl,l1⟩
 have hk:¬ (26≤o.kd∧o.kd≤28):=fun hh=>by
  rw [decide_eq_true (show o.kd≥26 by omega),decide_eq_true hh.2] at hk;cases hk
 have hcode:q4u C [opS C o]=q1t C o:=by
  unfold q4u
  rw [if_neg (by rw [hC];decide)]
  show q3d [opE C.rg C.sz.length C.sp 1 (opS C o)]=_
  rw [k2p hsp hk]
  unfold q3d q3d
  split
  ·rename_i h;exact h.symm
  ·rfl
 conv=>whnf
 refine q0a.mk (v7o m V C) ?_
 rintro _ m1 ⟨b,rfl,hb,hc1,l1⟩
 -- OP (printed by wrdop.py)
 refine Br.mk (fun h21=>?_) (fun h21=>?_)
 ·have h21:o.kd=21:=by simpa using h21
  refine WSc.mk (v:=decide (o.n≥C.ws.length)) (fun _=>?_) ?_
  ·conv=>whnf
   rw [hV.n2]
   exact And.intro (Mem.le.refl _) rfl
  refine Br.mk (fun hq=>?_) (fun hq=>?_)
  ·have hq:(decide (o.n<0)||decide (o.n≥C.ws.length))=true:=hq
   have ho:opS C o=⟨o.kd,o.ds,o.a,o.b,o.c,1,o.gd⟩:=by unfold opS;rw [if_pos h21,if_pos hq]
   refine WNew.mk fun bs hbs=>?_
   have l2:Mem.le m1 (m1.set bs (Cells (opS C o).cells 110)):=Mem.le_set hbs
   have c2:m1.set bs (Cells (opS C o).cells 110) bs=some (Cells (opS C o).cells 110):=Mem.set_same _ _ _
   rw [ho] at l2 c2
   refine WIdx.mk ⟨b,0,none⟩ rfl ⟨by omega,by omega⟩ ?_
   refine WSt.mk _ _ (l2 _ _ hc1) rfl (by rw [add0,addo];simp [q0k]) ?_
   have hne:b≠bs:=fun e=>by subst e;rw [hc1] at hbs;cases hbs
   have l3:=q2n (o:=Cells [.slice (some ⟨bs,0,none⟩) 1 1,i 1,i 0,i 0,i 0,i (-1)] 192) (l1.trans l2) hb
   conv=>whnf
   refine q0a.pure (z4c (l3 _ _ hm) C (O:=[opS C o]) ((IAt.mono l3) hV.sz) hV.szl (ad2:=⟨b,0,none⟩) (q0g.blk (Mem.set_same _ _ _) fun j v hj=>by rw [Nat.zero_add];exact hj)
    ⟨some ⟨bs,0,none⟩,1,rfl,(fun h=>by cases h),fun ad ha=>by cases ha;rw [ho];exact q0g.blk (by rw [Mem.set_other _ _ (fun e=>hne e.symm)];exact c2) fun j v hj=>by rw [Nat.zero_add];exact hj,Nat.le_refl _⟩ (by simp)) ?_
   rw [hcode]
   exact WRet.same ⟨rfl,l3⟩

  ·have hq:(decide (o.n<0)||decide (o.n≥C.ws.length))=false:=hq
   have ho:opS C o=⟨o.kd,o.ds,o.a,o.b,o.c,0,o.gd⟩:=by unfold opS;rw [if_pos h21,if_neg (by rw [hq];decide)]
   refine WNew.mk fun bs hbs=>?_
   have l2:Mem.le m1 (m1.set bs (Cells (opS C o).cells 110)):=Mem.le_set hbs
   have c2:m1.set bs (Cells (opS C o).cells 110) bs=some (Cells (opS C o).cells 110):=Mem.set_same _ _ _
   rw [ho] at l2 c2
   refine WIdx.mk ⟨b,0,none⟩ rfl ⟨by omega,by omega⟩ ?_
   refine WSt.mk _ _ (l2 _ _ hc1) rfl (by rw [add0,addo];simp [q0k]) ?_
   have hne:b≠bs:=fun e=>by subst e;rw [hc1] at hbs;cases hbs
   have l3:=q2n (o:=Cells [.slice (some ⟨bs,0,none⟩) 1 1,i 1,i 0,i 0,i 0,i (-1)] 192) (l1.trans l2) hb
   conv=>whnf
   refine q0a.pure (z4c (l3 _ _ hm) C (O:=[opS C o]) ((IAt.mono l3) hV.sz) hV.szl (ad2:=⟨b,0,none⟩) (q0g.blk (Mem.set_same _ _ _) fun j v hj=>by rw [Nat.zero_add];exact hj)
    ⟨some ⟨bs,0,none⟩,1,rfl,(fun h=>by cases h),fun ad ha=>by cases ha;rw [ho];exact q0g.blk (by rw [Mem.set_other _ _ (fun e=>hne e.symm)];exact c2) fun j v hj=>by rw [Nat.zero_add];exact hj,Nat.le_refl _⟩ (by simp)) ?_
   rw [hcode]
   exact WRet.same ⟨rfl,l3⟩

 have h21:o.kd≠21:=by simpa using h21
 have ho:opS C o=o:=by unfold opS;rw [if_neg h21]
 refine WNew.mk fun bs hbs=>?_
 have l2:Mem.le m1 (m1.set bs (Cells (opS C o).cells 110)):=Mem.le_set hbs
 have c2:m1.set bs (Cells (opS C o).cells 110) bs=some (Cells (opS C o).cells 110):=Mem.set_same _ _ _
 rw [ho] at l2 c2
 refine WIdx.mk ⟨b,0,none⟩ rfl ⟨by omega,by omega⟩ ?_
 refine WSt.mk _ _ (l2 _ _ hc1) rfl (by rw [add0,addo];simp [q0k]) ?_
 have hne:b≠bs:=fun e=>by subst e;rw [hc1] at hbs;cases hbs
 have l3:=q2n (o:=Cells [.slice (some ⟨bs,0,none⟩) 1 1,i 1,i 0,i 0,i 0,i (-1)] 192) (l1.trans l2) hb
 conv=>whnf
 refine q0a.pure (z4c (l3 _ _ hm) C (O:=[opS C o]) ((IAt.mono l3) hV.sz) hV.szl (ad2:=⟨b,0,none⟩) (q0g.blk (Mem.set_same _ _ _) fun j v hj=>by rw [Nat.zero_add];exact hj)
  ⟨some ⟨bs,0,none⟩,1,rfl,(fun h=>by cases h),fun ad ha=>by cases ha;rw [ho];exact q0g.blk (by rw [Mem.set_other _ _ (fun e=>hne e.symm)];exact c2) fun j v hj=>by rw [Nat.zero_add];exact hj,Nat.le_refl _⟩ (by simp)) ?_
 rw [hcode]
 exact WRet.same ⟨rfl,l3⟩
 -- END OP
theorem j0l {m:Mem} {v:Value} {O:List OpR} (hv:OAt m v O) (hlen:O.length<2 ^ 63) {g:Nat} {first caps:List Value} (p:OpR→Bool)
  (hp:∀ x∈O,q0m Tryz.prog g (first++[x.val]++caps) m (.bool (p x))) :
  q0m Tryz.prog 126 [v,.func (.func g) ⟨first⟩ ⟨caps⟩] m (i (q4q p O)):=by
 obtain ⟨a,c,rfl,h0,h1,hcap⟩:=hv
 refine q0e q0d Tryz.func126 k4q rfl ?_
 conv=>whnf
 refine q0v.mk Nat (fun k=>[(8,.val (i k))]) (fun k m'=>m=m'∧k≤O.length∧∀ j (hj:j<O.length),j<k→p O[j]=false) (fun k=>O.length - k) 0 ⟨rfl,trivial⟩ ⟨rfl,Nat.zero_le _,fun j hj h=>by omega⟩ ?_
 rintro k m' ⟨rfl,hk,hq⟩
 refine Br.mk (fun hb=>?_) (fun hb=>?_)
 ·have hk2:k<O.length:=by simpa using hb
  obtain ⟨ad,rfl⟩:∃ ad,a=some ad:=by
   cases a with
   | none=>rw [h0 rfl] at hk2;simp at hk2
   | some ad=>exact ⟨ad,rfl⟩
  have hcells:=OAt.cells (h1 ad rfl) hk2
  refine WIdx.mk ad rfl ⟨by omega,by simpa using hk2⟩ ?_
  refine WLds.mk (O[k]).cells (by simpa using hcells) rfl ?_
  conv=>whnf
  refine q0a.pure (hp _ (List.getElem_mem hk2)) ?_
  refine Br.mk (fun hb=>?_) (fun hb=>?_)
  ·refine WRet.same ⟨?_,rfl⟩
   unfold q4q
   rw [z8k hk2 (fun j hj=>hq j (by omega) hj) hb]
   rfl
  ·refine WRng.mk (by apply wrap_i64<;>omega) ?_
   conv=>whnf
   refine ⟨k+1,⟨rfl,trivial⟩,⟨rfl,hk2,fun j hj h=>?_⟩,by omega⟩
   by_cases e:j=k
   ·subst e;exact hb
   ·exact hq j hj (by omega)
 ·have hk2:¬ k<O.length:=by simpa using hb
  refine WRet.same ⟨?_,rfl⟩
  unfold q4q
  rw [z8d fun j hj=>hq j hj (by omega)]
  rfl
theorem j1j {m:Mem} {v:Value} {O:List OpR} (hv:OAt m v O) (hlen:O.length<2 ^ 63) {g:Nat} {first caps:List Value} (p:OpR→Bool)
  (hp:∀ x∈O,q0m Tryz.prog g (first++[x.val]++caps) m (.bool (p x))) :
  q0m Tryz.prog 96 [v,.func (.func g) ⟨first⟩ ⟨caps⟩] m (.bool (O.any p)):=by
 refine q0e q0d Tryz.func96 j8e rfl ?_
 conv=>whnf
 refine q0a.pure (j0l hv hlen p hp) ?_
 refine WRet.same ⟨?_,rfl⟩
 rw [show q8h [Value.bool (decide (q4q p O≥0))]=.bool (decide (q4q p O≥0)) from rfl,z7h]
def q5u (ws:List q3g) (k:Nat):Nat:=((ws.take k).map fun w=>w.ops.length).foldl (·+·) 0
theorem z6r {ws:List q3g} {k:Nat} (hk:k<ws.length):q5u ws (k+1)=q5u ws k+(ws[k]).ops.length:=by
 unfold q5u
 rw [List.take_succ_eq_append_getElem hk,List.map_append,List.foldl_append];rfl
theorem v2p {ws:List q3g} {k:Nat} (hk:k≤ws.length) (h:∀ j (hj:j<ws.length),j<k→(ws[j]).ops.length≤400):q5u ws k≤400 * k:=by
 induction k with
 | zero=>simp [q5u]
 | succ k ih =>
  rw [z6r (by omega)]
  have:=ih (by omega) (fun j hj hjk=>h j hj (by omega))
  have:=h k (by omega) (by omega)
  omega
theorem v6a (ws:List q3g):q5u ws ws.length=q6p ws:=by unfold q5u q6p;rw [List.take_length]
theorem j6b {m:Mem} {T:Nat} {fr:Nat×Nat} (hm:m 0=some (.cells ⟨q2f⟩ T fr)) (V:CV) {C:q0c} (hV:q1q m V C) :
  q0f Tryz.prog 63 [V.val C] m fun e m'=>e=.returned (i (q3n C))∧Mem.le m m':=by
 refine q0e q0d Tryz.func63 j3a rfl ?_
 conv=>whnf
 refine q0a.mk (v7o m V C) ?_
 rintro _ m1 ⟨b,rfl,hb,hc1,l1⟩
 conv=>whnf
 refine q0a.pure (z4c (l1 _ _ hm) C (O:=[]) ((IAt.mono l1) hV.sz) hV.szl (ad2:=⟨b,0,none⟩) (q0g.blk hc1 fun j v hj=>by rw [Nat.zero_add];exact hj) (a3:=none) (n3:=0) (c3:=0)
  ⟨none,0,rfl,fun _=>rfl,(fun ad h=>by cases h),Nat.le_refl _⟩ (by simp)) ?_
 have he:q4u C []=q3c C:=by
  unfold q4u
  split
  ·rfl
  ·rename_i h;exact (Decidable.not_not.1 h).symm
 rw [he]
 refine Br.mk (fun h0=>?_) (fun h0=>?_)
 ·have h0:q3c C≠0:=by simpa using h0
  exact WRet.same ⟨by unfold q3n;rw [if_pos h0];rfl,l1⟩
 have h0:q3c C=0:=by simpa using h0
 refine WSc.mk (fun _=>And.intro (Mem.le.refl _) rfl) ?_
 have hn2:=hV.n2
 refine Br.mk (fun hb1=>?_) (fun hb1=>?_)
 ·refine WRet.same ⟨?_,l1⟩
  have:C.ws.length=0∨C.ws.length>60000:=by
   simp only [scB,Bool.or_eq_true,beq_iff_eq,decide_eq_true_eq] at hb1
   omega
  unfold q3n;rw [if_neg (by rw [h0];decide),if_pos this];rfl
 have hlen:¬ (C.ws.length=0∨C.ws.length>60000):=by
  simp only [scB,Bool.or_eq_false_iff,beq_eq_false_iff_ne,decide_eq_false_iff_not] at hb1
  omega
 have hcode:q3n C=if q3d (C.ws.map (q2d C))≠0 then q3d (C.ws.map (q2d C)) else if q5s C.ws=false then 4 else if q6p C.ws>80000 then 3 else 0:=by
  unfold q3n;rw [if_neg (by rw [h0];decide),if_neg hlen]
 have stop:∀ {k:Nat} (hk:k<C.ws.length),(∀ j (hj:j<C.ws.length),j<k→q2d C C.ws[j]=0)→∀ (e:Int),q2d C C.ws[k]=e→e≠0→q3n C=e:=fun {k} hk hq e h1 h2=>by
  have hf:q3d (C.ws.map (q2d C))=e:=by
   rw [z0w (L:=C.ws.map (q2d C)) (k:=k) (by simpa using hk) (fun j hj hjk=>by simpa using hq j (by simpa using hj) hjk) (by simpa using fun h=>h2 (h1.symm.trans h))]
   simpa using h1
  rw [hcode,hf,if_pos h2]
 obtain ⟨a2,c2,e2,hw0,hw1,hw2⟩:=hV.ws
 have ea:V.a2=a2:=by injection e2
 have ec:V.c2=c2:=by injection e2
 subst ea;subst ec
 conv=>whnf
 refine q0v.mk Nat (fun k=>[(4,.val (i (q5u C.ws k))),(29,.val (i k))]) (fun k m'=>Mem.le m m'∧k≤C.ws.length∧∀ j (hj:j<C.ws.length),j<k→q2d C C.ws[j]=0) (fun k=>C.ws.length - k) 0
  ⟨rfl,rfl,trivial⟩ ⟨l1,Nat.zero_le _,fun j hj h=>by omega⟩ ?_
 rintro k m2 ⟨l2,hk,hq⟩
 rw [hn2]
 have h400:∀ j (hj:j<C.ws.length),j<k→(C.ws[j]).ops.length≤400:=fun j hj hjk=>by
  have:=hq j hj hjk
  unfold q2d at this
  split at this
  ·exact absurd this (by decide)
  ·split at this
   ·exact absurd this (by decide)
   ·omega
 have hle400:=v2p hk h400
 refine Br.mk (fun hb2=>?_) (fun hb2=>?_)
 ·have hk2:k<C.ws.length:=by
   have:(k:Int)<C.ws.length:=of_decide_eq_true hb2
   omega
  obtain ⟨ad,had⟩:∃ ad,V.a2=some ad:=by
   cases hh:V.a2 with
   | none=>rw [hw0 hh] at hk2;simp at hk2
   | some ad=>exact ⟨ad,rfl⟩
  obtain ⟨a3,n3,c3,g1,g2⟩:=hw1 ad had k hk2
  have hn3:n3=(C.ws[k]).ops.length:=by obtain ⟨_,_,e,_⟩:=g2;injection e
  have hst:=stop hk2 hq
  refine WIdx.mk ad had ⟨by omega,by simpa using hk2⟩ ?_
  refine WLds.mk [.slice a3 n3 c3,i (C.ws[k]).ct] (by simpa using g1.mono l2) rfl ?_
  generalize hwk:C.ws[k]=w at *
  refine WSc.mk (v:=!inB w.ct C.ws.length) (fun _=>?_) ?_
  ·conv=>whnf
   refine q0a.pure (v3t _ _ _) ?_
   rw [hn2]
   exact And.intro (Mem.le.refl _) rfl
  refine Br.mk (fun hb3=>?_) (fun hb3=>?_)
  ·have hw:q2d C w=2:=by
    unfold q2d
    rw [if_pos]
    simp only [scB,inB,Bool.and_eq_true,bne_iff_ne,ne_eq,Bool.not_eq_true',Bool.and_eq_false_iff,decide_eq_false_iff_not] at hb3
    omega
   exact WRet.same ⟨by rw [hst _ hw (by decide)];rfl,l2⟩
  have hct:¬ (w.ct < -1∨w.ct≥C.ws.length):=by
   have hb3:((w.ct != -1)&&!inB w.ct C.ws.length)=false:=hb3
   simp only [inB,Bool.and_eq_false_iff,bne_eq_false_iff_eq,Bool.not_eq_false',Bool.and_eq_true,decide_eq_true_eq] at hb3
   omega
  refine Br.mk (fun hb4=>?_) (fun hb4=>?_)
  ·have hw:q2d C w=3:=by
    unfold q2d
    have:(n3:Int)>400:=of_decide_eq_true hb4
    rw [if_neg hct,if_pos (by omega)]
   exact WRet.same ⟨by rw [hst _ hw (by decide)];rfl,l2⟩
  have ho4:w.ops.length≤400:=by
   have:¬ (n3:Int)>400:=of_decide_eq_false hb4
   omega
  have hwc:q2d C w=q3d (w.ops.map (q1t C)):=by unfold q2d;rw [if_neg hct,if_neg (by omega)]
  subst hn3
  conv=>whnf
  refine q0v.mk Nat (fun j=>[(52,.val (i j))]) (fun j m'=>Mem.le m m'∧j≤w.ops.length∧∀ q (hq:q<w.ops.length),q<j→q1t C w.ops[q]=0) (fun j=>w.ops.length - j) 0
   ⟨rfl,trivial⟩ ⟨l2,Nat.zero_le _,fun q hq h=>by omega⟩ ?_
  rintro j m3 ⟨l3,hj,hq3⟩
  refine Br.mk (fun hb5=>?_) (fun hb5=>?_)
  ·have hj2:j<w.ops.length:=by
    have:(j:Int)<w.ops.length:=of_decide_eq_true hb5
    omega
   obtain ⟨a3',c3',e3,hx0,hx1,_⟩:=g2
   have e3a:a3=a3':=by injection e3
   subst e3a
   obtain ⟨ad3,rfl⟩:∃ ad,a3=some ad:=by
    cases a3 with
    | none=>rw [hx0 rfl] at hj2;simp at hj2
    | some ad=>exact ⟨ad,rfl⟩
   have hcells:=(OAt.cells (hx1 ad3 rfl) hj2).mono l3
   refine WIdx.mk ad3 rfl ⟨by omega,by simpa using hj2⟩ ?_
   refine WLds.mk (w.ops[j]).cells (by simpa using hcells) rfl ?_
   conv=>whnf
   refine q0a.mk (op_ok (l3 _ _ hm) V (hV.mono l3) h0 w.ops[j]) ?_
   rintro _ m4 ⟨rfl,l4⟩
   refine Br.mk (fun hb6=>?_) (fun hb6=>?_)
   ·have hne:q1t C w.ops[j]≠0:=by simpa using hb6
    have hw:q2d C w=q1t C w.ops[j]:=by
     rw [hwc,z0w (L:=w.ops.map (q1t C)) (k:=j) (by simpa using hj2) (fun q hq hqj=>by simpa using hq3 q (by simpa using hq) hqj) (by simpa using hne)]
     simp
    exact WRet.same ⟨by rw [hst _ hw hne];rfl,l3.trans l4⟩
   ·have hz:q1t C w.ops[j]=0:=by simpa using hb6
    refine WRng.mk (by apply wrap_i64<;>omega) ?_
    conv=>whnf
    refine ⟨j+1,⟨rfl,trivial⟩,⟨l3.trans l4,hj2,fun q hq h=>?_⟩,by omega⟩
    by_cases e:q=j
    ·subst e;exact hz
    ·exact hq3 q hq (by omega)
  ·have hj2:j=w.ops.length:=by
    have:¬ (j:Int)<w.ops.length:=of_decide_eq_false hb5
    omega
   subst hj2
   have hz:q2d C w=0:=by
    rw [hwc]
    refine q8x.2 fun x hx=>?_
    obtain ⟨o,ho,rfl⟩:=List.mem_map.1 hx
    obtain ⟨q,hq,rfl⟩:=List.getElem_of_mem ho
    exact hq3 q hq hq
   have hsum:q5u C.ws (k+1)=q5u C.ws k+w.ops.length:=by rw [z6r hk2,hwk]
   refine WRng.mk (by apply wrap_i64<;>omega) ?_
   refine WRng.mk (by apply wrap_i64<;>omega) ?_
   conv=>whnf
   refine ⟨k+1,⟨?_,rfl,trivial⟩,⟨l3,hk2,fun q hq2 h=>?_⟩,by omega⟩
   ·rw [hsum];rfl
   ·by_cases e:q=k
    ·subst e;rw [hwk];exact hz
    ·exact hq q hq2 (by omega)
 ·have hk2:k=C.ws.length:=by
   have:¬ (k:Int)<C.ws.length:=of_decide_eq_false hb2
   omega
  subst hk2
  have hall:q3d (C.ws.map (q2d C))=0:=q8x.2 fun x hx=>by
   obtain ⟨w,hw,rfl⟩:=List.mem_map.1 hx
   obtain ⟨q,hq2,rfl⟩:=List.getElem_of_mem hw
   exact hq q hq2 hq2
  have hcode2:q3n C=if q5s C.ws=false then 4 else if q6p C.ws>80000 then 3 else 0:=by rw [hcode,hall];rfl
  have hpos:0<C.ws.length:=by omega
  obtain ⟨ad,had⟩:∃ ad,V.a2=some ad:=by
   cases hh:V.a2 with
   | none=>rw [hw0 hh] at hpos;simp at hpos
   | some ad=>exact ⟨ad,rfl⟩
  obtain ⟨a3,n3,c3,g1,g2⟩:=hw1 ad had (C.ws.length - 1) (by omega)
  have hlast:q5s C.ws=(C.ws[C.ws.length - 1]).ops.any q2e:=by
   unfold q5s
   rw [List.getLast?_eq_getElem?,List.getElem?_eq_getElem (by omega)]
  have ho4:=h400 (C.ws.length - 1) (by omega) (by omega)
  refine WRng.mk (by rw [hn2];apply wrap_i64<;>omega) ?_
  refine WIdx.mk ad had ⟨by omega,by omega⟩ ?_
  refine WLd.mk (.slice a3 n3 c3) ?_ ?_
  ·have:=(g1.mono l2) 0 _ rfl
   rw [show ((V.n2:Int) - 1).toNat=C.ws.length - 1 by rw [hn2];omega]
   simpa using this
  conv=>whnf
  refine q0a.pure (j1j (first:=[]) (caps:=[]) (g2.mono' l2) (by omega) q2e (fun x _=>q8y _ x)) ?_
  rw [← hlast]
  refine Br.mk (fun hb3=>?_) (fun hb3=>?_)
  ·exact WRet.same ⟨by rw [hcode2,if_pos (q9g hb3)];rfl,l2⟩
  have hb3:q5s C.ws=true:=q7s hb3
  conv=>whnf
  rw [v6a]
  refine Br.mk (fun hb4=>?_) (fun hb4=>?_)
  ·have:(q6p C.ws:Int)>80000:=of_decide_eq_true hb4
   exact WRet.same ⟨by rw [hcode2,if_neg (by rw [hb3];decide),if_pos (by omega)];rfl,l2⟩
  ·have:¬ (q6p C.ws:Int)>80000:=of_decide_eq_false hb4
   exact WRet.same ⟨by rw [hcode2,if_neg (by rw [hb3];decide),if_neg (by omega)];rfl,l2⟩
def wrS (o:OpR):Option Nat:=if uD o.kd=true then some o.ds.toNat else none
def dlS (M:Mac) (o:OpR):Nat:=(M.lat (q2j o.kd).1.toNat).toNat
def q3e (M:Mac) (w:List Nat) (o:OpR):List Nat:=match wrS o with | some d=>w.set d (max (w.getD d 0) (dlS M o)) | none=>w
def decW (w:List Nat):List Nat:=w.map (· - 1)
def q4v (o:OpR):Bool:=(o.kd==14||o.kd==15||o.kd==16||o.kd==17||o.kd==20||o.kd==21||o.kd==22||o.kd==27||o.kd==28)||o.gd != -1
def q3q (C:q0c):List Nat:=List.replicate C.rg.toNat 0
def q2l (C:q0c) (M:Mac) (k:Nat) (ct:Int):List OpR→List Nat→List (Nat×List Nat)
 | [],w=>[(k+1,decW w)]
 | o :: os,w =>
  (if o.kd=21∨o.kd=26 then [(o.n.toNat,decW (q3e M w o))] else [])++((if q4v o=true∧0≤ct then [(ct.toNat,q3q C)] else [])++(if q2e o=true then [] else q2l C M k ct os (q3e M w o)))
def leW (w w':List Nat):Prop:=∀ r,w.getD r 0≤w'.getD r 0
abbrev WS:=List (Option (List Nat))
structure IsW (C:q0c) (M:Mac) (A:WS):Prop where
 len:A.length=C.ws.length
 wl:∀ (k:Nat) (w:List Nat),A[k]? = some (some w)→w.length=C.rg.toNat
 zero:∃ w:List Nat,A[0]? = some (some w)
 go:∀ (k:Nat) (w:List Nat),A[k]? = some (some w)→∀ p∈q2l C M k (q1b C k).ct (q1b C k).ops w,∃ w':List Nat,A[p.1]? = some (some w')∧leW p.2 w'
structure z0h (C:q0c) (M:Mac) (A:WS):Prop where
 is:IsW C M A
 le:∀ B:WS,IsW C M B→∀ (k:Nat) (w:List Nat),A[k]? = some (some w)→∃ w':List Nat,B[k]? = some (some w')∧leW w w'
def q5m (M:Mac) (w:List Nat):List OpR→List Nat→Bool
 | [],_=>true
 | o :: os,now=>(q0b o).all (fun r=>w.getD r.toNat 0==0)&&((match wrS o with | some d=>decide (now.getD d 0≤1) | none=>true)&&(q2e o||q5m M w os (q3e M now o)))
def z9p (C:q0c) (M:Mac) (A:WS):Prop:=∀ (k:Nat) (w:List Nat),A[k]? = some (some w)→q5m M w (q1b C k).ops w=true
theorem leW.refl (w:List Nat):leW w w:=fun _=>Nat.le_refl _
theorem leW.trans {a b c:List Nat} (h:leW a b) (k:leW b c):leW a c:=fun r=>Nat.le_trans (h r) (k r)
theorem z3z {w:List Nat} {d r x:Nat}:(w.set d x).getD r 0=if d=r∧d<w.length then x else w.getD r 0:=by
 rw [List.getD_eq_getElem?_getD,List.getElem?_set]
 by_cases h:d=r
 ·subst h
  by_cases h2:d<w.length
  ·rw [if_pos rfl,if_pos h2,if_pos ⟨rfl,h2⟩];rfl
  ·rw [if_pos rfl,if_neg h2,if_neg (fun h=>h2 h.2),List.getD_eq_getElem?_getD,List.getElem?_eq_none (by omega)]
 ·rw [if_neg h,if_neg (fun hh=>h hh.1),List.getD_eq_getElem?_getD]
theorem z3l (M:Mac) (w:List Nat) (o:OpR):(q3e M w o).length=w.length:=by unfold q3e;split<;>simp
theorem z7c (w:List Nat) (r:Nat):(decW w).getD r 0=w.getD r 0 - 1:=by
 unfold decW
 rw [List.getD_eq_getElem?_getD,List.getD_eq_getElem?_getD,List.getElem?_map]
 cases w[r]? with
 | none=>rfl
 | some x=>rfl
theorem k9k {M M':Mac} {w w':List Nat} {o:OpR} (hl:w.length=w'.length) (h:leW w w') (hd:dlS M o≤dlS M' o):leW (q3e M w o) (q3e M' w' o):=by
 intro r
 unfold q3e
 split
 ·rename_i d hd'
  rw [z3z,z3z,← hl]
  have h1:=h d;have h2:=h r
  split
  ·omega
  ·exact h2
 ·exact h r
theorem v4c {w w':List Nat} (h:leW w w'):leW (decW w) (decW w'):=fun r=>by rw [z7c,z7c];have:=h r;omega
theorem z5s (w:List Nat):(decW w).length=w.length:=by simp [decW]
theorem v6n {C:q0c} {M M':Mac} {k:Nat} {ct:Int} (hd:∀ o,dlS M o≤dlS M' o):∀ {L:List OpR} {w w':List Nat},w.length=w'.length→leW w w' →
  ∀ p∈q2l C M k ct L w,∃ p'∈q2l C M' k ct L w',p'.1=p.1∧leW p.2 p'.2
 | [],w,w',hl,h,p,hp=>by
  rw [q2l,List.mem_singleton] at hp
  subst hp
  exact ⟨_,List.mem_singleton.2 rfl,rfl,v4c h⟩
 | o :: L,w,w',hl,h,p,hp=>by
  have hs:=k9k (o:=o) hl h (hd o)
  rw [q2l,List.mem_append,List.mem_append] at hp
  rcases hp with hp | hp | hp
  ·split at hp
   ·rename_i hk
    rw [List.mem_singleton] at hp;subst hp
    exact ⟨(o.n.toNat,decW (q3e M' w' o)),by rw [q2l,List.mem_append];left;rw [if_pos hk];exact List.mem_singleton.2 rfl,rfl,v4c hs⟩
   ·cases hp
  ·split at hp
   ·rename_i hk
    rw [List.mem_singleton] at hp;subst hp
    exact ⟨(ct.toNat,q3q C),by rw [q2l,List.mem_append,List.mem_append];right;left;rw [if_pos hk];exact List.mem_singleton.2 rfl,rfl,leW.refl _⟩
   ·cases hp
  ·split at hp
   ·cases hp
   ·rename_i hk
    obtain ⟨p',g1,g2,g3⟩:=v6n hd (by rw [z3l,z3l];exact hl) hs p hp
    exact ⟨p',by rw [q2l,List.mem_append,List.mem_append];right;right;rw [if_neg hk];exact g1,g2,g3⟩
theorem k3k (C:q0c) (r:Nat):(q3q C).getD r 0=0:=by
 unfold q3q
 rw [List.getD_eq_getElem?_getD,List.getElem?_replicate]
 split<;>rfl
theorem v5z {C:q0c} {M:Mac} {k:Nat} {ct:Int} (hct:ct<C.ws.length):∀ {L:List OpR} {w:List Nat},(∀ o∈L,OpOK C o)→∀ p∈q2l C M k ct L w,p.1<C.ws.length∨(p.1=k+1∧∀ o∈L,q2e o=false)
 | [],w,_,p,hp=>by
  rw [q2l,List.mem_singleton] at hp
  subst hp
  exact .inr ⟨rfl,fun o h=>by cases h⟩
 | o :: L,w,ho,p,hp=>by
  rw [q2l,List.mem_append,List.mem_append] at hp
  rcases hp with hp | hp | hp
  ·split at hp
   ·rename_i hk
    rw [List.mem_singleton] at hp;subst hp
    have:=(ho o (by simp)).n.2.2 hk
    exact .inl (by show o.n.toNat<_;omega)
   ·cases hp
  ·split at hp
   ·rename_i hk
    rw [List.mem_singleton] at hp;subst hp
    exact .inl (by show ct.toNat<_;omega)
   ·cases hp
  ·split at hp
   ·cases hp
   ·rename_i hk
    rcases v5z hct (fun q hq=>ho q (List.mem_cons_of_mem _ hq)) p hp with h | ⟨h1,h2⟩
    ·exact .inl h
    ·refine .inr ⟨h1,fun q hq=>?_⟩
     rcases List.mem_cons.1 hq with e | e
     ·subst e;simpa using hk
     ·exact h2 q e
theorem w2j {C:q0c} {M:Mac} (hC:q3h C) {k:Nat} (hk:k<C.ws.length) {w:List Nat} {p:Nat×List Nat} (hp:p∈q2l C M k (q1b C k).ct (q1b C k).ops w):p.1<C.ws.length:=by
 have hm:=q7o hk
 rcases v5z (hC.ct _ hm).2 (hC.op _ hm) p hp with h | ⟨h1,h2⟩
 ·exact h
 ·rw [h1]
  by_cases e:k+1<C.ws.length
  ·exact e
  ·exfalso
   have hlast:C.ws.getLast? = some (q1b C k):=by
    rw [List.getLast?_eq_getElem?]
    unfold q1b
    rw [List.getD_eq_getElem?_getD,show C.ws.length - 1=k by omega,List.getElem?_eq_getElem hk]
    rfl
   obtain ⟨o,ho,hl⟩:=hC.last _ hlast
   rw [h2 o ho] at hl;cases hl
theorem k1p {acc:List Int} {r x:Int}:x∈putS acc r↔x∈acc∨x=r:=by
 unfold putS
 split
 ·rename_i h
  obtain ⟨y,hy,e⟩:=List.any_eq_true.1 h
  have e:r=y:=by simpa using e
  subst e
  exact ⟨.inl,fun h=>by rcases h with h | h
                        ·exact h
                        ·rw [h];exact hy⟩
 ·simp
theorem v6f:∀ {L acc:List Int} {x:Int},x∈L.foldl putS acc↔x∈acc∨x∈L
 | [],acc,x=>by simp
 | r :: L,acc,x=>by rw [List.foldl_cons,v6f,k1p,List.mem_cons];exact or_assoc
theorem w4b {L:List Int} {x:Int}:x∈q0h L↔x∈L:=by unfold q0h;rw [v6f];simp
abbrev SoW (W:List WayR):Prop:=W.Pairwise fun a b=>a.rg=b.rg→a.t≤b.t
structure Same (s t:St):Prop where
 word:s.word=t.word
 took:s.took=t.took
 ended:s.ended=t.ended
 kind:s.kind=t.kind
 value:s.value=t.value
 prints:s.prints=t.prints
 kept:s.kept=t.kept
 arr:s.arr=t.arr
structure Mid (w now:List Nat) (z0 z:List VR) (s:St):Prop where
 zz:q1h s.regs s.way=z
 it:∀ x∈s.way,s.took<x.t∧x.t≤s.took+now.getD x.rg 0
 so:SoW s.way
 rd:∀ r,w.getD r 0=0→s.regs.getD r VR.zero=z0.getD r VR.zero
theorem k3z {o:OpR} {a b c a' b' c':VR} (ha:uA o.kd=true→a=a') (hb:uB o.kd=true→b=b') (hc:uC o.kd=true→c=c') (hk:q4d o.kd=false) (hk2:q4r o.kd=false) (hk3:1≤o.kd∧o.kd≤28):q1u o a b c=q1u o a' b' c':=by
 unfold q1u
 by_cases h1:o.kd=1
 ·rw [if_pos h1,if_pos h1]
 ·rw [if_neg h1,if_neg h1]
  by_cases h2:o.kd=2
  ·rw [if_pos h2,if_pos h2,ha (by rw [h2];rfl)]
  ·rw [if_neg h2,if_neg h2]
   by_cases h3:o.kd=12
   ·rw [if_pos h3,if_pos h3,ha (by rw [h3];rfl),hb (by rw [h3];rfl),hc (by rw [h3];rfl)]
   ·rw [if_neg h3,if_neg h3]
    have hA:uA o.kd=true:=by
     unfold uA q4d at *
     simp only [Bool.or_eq_false_iff,beq_eq_false_iff_ne,Bool.not_eq_true',ne_eq] at *
     unfold q4r at hk2
     simp only [Bool.or_eq_false_iff,beq_eq_false_iff_ne,ne_eq] at hk2
     omega
    have hB:uB o.kd=true:=by
     unfold uB q4d q4r at *
     simp only [Bool.or_eq_false_iff,beq_eq_false_iff_ne,ne_eq,Bool.or_eq_true,Bool.and_eq_true,decide_eq_true_eq,beq_iff_eq] at *
     omega
    rw [ha hA,hb hB]
structure DoSame (M0:Mac) (w now:List Nat) (z0:List VR) (d e:DoR):Prop where
 n:d.n=e.n
 trap:d.trap=e.trap
 left:d.left=e.left
 same:Same d.s e.s
 mid:d.s.ended=false→∃ z,Mid w now z0 z d.s∧Mid w now z0 z e.s
theorem j9a {C:q0c} {o:OpR} (h:OpOK C o) (k:Nat):0≤o.arg k∧o.arg k<C.rg:=by
 rcases k with _ | _ | k
 ·exact h.a
 ·exact h.b
 ·exact h.c
theorem z6u {C:q0c} {o:OpR} (h:OpOK C o):∀ r∈q0b o,0≤r∧r<C.rg:=by
 intro r hr
 unfold q0b at hr
 rw [w4b] at hr
 have hg:r∈q0w o→0≤r∧r<C.rg:=fun hh=>by
  unfold q0w at hh
  split at hh
  ·cases hh
  ·rename_i hne
   rw [List.mem_singleton] at hh
   rcases h.gd with e | e
   ·exact absurd e hne
   ·rw [hh];exact e
 unfold rawS at hr
 split at hr
 ·exact hg hr
 ·split at hr
  ·rcases List.mem_append.1 hr with hh | hh
   ·exact hg hh
   ·rw [List.mem_singleton] at hh;rw [hh];exact h.a
  ·split at hr
   ·rcases List.mem_append.1 hr with hh | hh
    ·exact hg hh
    ·obtain ⟨k,_,rfl⟩:=List.mem_map.1 hh
     exact j9a h k
   ·cases hr
theorem j8u {C:q0c} {M:Mac} {o:OpR} (h:OpOK C o) (hrg:C.rg≤M.rg):q7p M o=false:=by
 unfold q7p
 have hcl:(q2j o.kd).2=true:=by
  have:=h.kd
  unfold q2j
  split
  ·rfl
  ·split
   ·rfl
   ·split
    ·rfl
    ·split
     ·rfl
     ·omega
 rw [hcl,Bool.not_true,Bool.false_or,List.any_eq_false]
 intro r hr
 have:=z6u h r hr
 unfold z6w inR
 rw [decide_eq_true (show r≥0 by omega),decide_eq_true (show r≤M.rg - 1 by omega)]
 decide
attribute [local irreducible] q0j in
theorem z4a {m:Mem} {T:Nat} {fr:Nat×Nat} (hm:m 0=some (.cells ⟨q2f⟩ T fr)) (V:CV) {C:q0c} (hV:q1q m V C) (M:Mac) :
  q0f Tryz.prog 50 [V.val C,M.val] m fun e m'=>e=.returned (i (q2b C M))∧Mem.le m m':=by
 refine q0e q0d Tryz.func50 j7x rfl ?_
 conv=>whnf
 refine q0a.mk (j6b hm V hV) ?_
 rintro _ m1 ⟨rfl,l1⟩
 refine Br.mk (fun h0=>?_) (fun h0=>?_)
 ·have h0:q3n C≠0:=by simpa using h0
  exact WRet.same ⟨by unfold q2b;rw [if_pos h0];rfl,l1⟩
 have h0:q3n C=0:=by simpa using h0
 have hC:=z4m h0
 conv=>whnf
 refine q0a.pure (j6j m1 M) ?_
 cases hM:M.ok with
 | false =>
  rw [if_neg (by decide)]
  refine Br.mk (fun _=>?_) (fun h=>absurd h (by decide))
  exact WRet.same ⟨by unfold q2b;rw [if_neg (by rw [h0];decide),if_pos hM];rfl,l1⟩
 | true =>
 rw [if_pos rfl]
 refine Br.mk (fun h=>absurd h (by decide)) (fun _=>?_)
 refine Br.mk (fun hr=>?_) (fun hr=>?_)
 ·have hr:C.rg>M.rg:=of_decide_eq_true hr
  exact WRet.same ⟨by unfold q2b;rw [if_neg (by rw [h0];decide),if_neg (by rw [hM];decide),if_pos hr];rfl,l1⟩
 have hr:¬ C.rg>M.rg:=of_decide_eq_false hr
 have hcode:q2b C M=if C.ws.any (fun w=>!q4w (q0p M w.ops))=true then 7 else 0:=by unfold q2b;rw [if_neg (by rw [h0];decide),if_neg (by rw [hM];decide),if_neg hr]
 obtain ⟨_,hbk,_⟩:=z6f hM
 have hn2:=hV.n2
 obtain ⟨a2,c2,e2,hw0,hw1,hw2⟩:=hV.ws
 have ea:V.a2=a2:=by injection e2
 have ec:V.c2=c2:=by injection e2
 subst ea;subst ec
 have hl:=hV.wsl
 conv=>whnf
 refine q0v.mk Nat (fun k=>[(30,.val (i k))]) (fun k m'=>Mem.le m m'∧k≤C.ws.length∧∀ j (hj:j<C.ws.length),j<k→q4w (q0p M (C.ws[j]).ops)=true) (fun k=>C.ws.length - k) 0
  ⟨rfl,trivial⟩ ⟨l1,Nat.zero_le _,fun j hj h=>by omega⟩ ?_
 rintro k m2 ⟨l2,hk,hq⟩
 rw [hn2]
 refine Br.mk (fun hb2=>?_) (fun hb2=>?_)
 ·have hk2:k<C.ws.length:=by
   have:(k:Int)<C.ws.length:=of_decide_eq_true hb2
   omega
  obtain ⟨ad,had⟩:∃ ad,V.a2=some ad:=by
   cases hh:V.a2 with
   | none=>rw [hw0 hh] at hk2;simp at hk2
   | some ad=>exact ⟨ad,rfl⟩
  obtain ⟨a3,n3,c3,g1,g2⟩:=hw1 ad had k hk2
  have hn3:n3=(C.ws[k]).ops.length:=by obtain ⟨_,_,e,_⟩:=g2;injection e
  have hol:=hC.ol _ (List.getElem_mem hk2)
  have hop:=hC.op _ (List.getElem_mem hk2)
  refine WIdx.mk ad had ⟨by omega,by simpa using hk2⟩ ?_
  refine WLds.mk [.slice a3 n3 c3,i (C.ws[k]).ct] (by simpa using g1.mono l2) rfl ?_
  generalize hwk:C.ws[k]=w at *
  subst hn3
  conv=>whnf
  rw [q8d (l:=[ns,i 0]) (vs:=q0k (.agg ⟨[.slice a3 w.ops.length c3,i w.ct]⟩)) rfl]
  conv=>whnf
  refine q0a.pure (k7a m2 M) ?_
  conv=>whnf
  refine q0v.mk Nat (fun j=>[(39,.val (i j)),(9,.var (q0p M (w.ops.take j)).cells)]) (fun j m'=>Mem.le m m'∧j≤w.ops.length) (fun j=>w.ops.length - j) 0
   ⟨rfl,congrArg (fun l=>some (AV.var l)) (spAll (newU M)),trivial⟩ ⟨l2,Nat.zero_le _⟩ ?_
  rintro j m3 ⟨l3,hj⟩
  have hXM:(q0p M (w.ops.take j)).M=M:=by unfold q0p;rw [z8z];rfl
  have hXs:(q0p M (w.ops.take j)).small 2000:=by
   unfold q0p
   refine q5r (z2t _ (z4o M)) ?_
   rw [List.length_take];omega
  refine Br.mk (fun hb5=>?_) (fun hb5=>?_)
  ·have hj2:j<w.ops.length:=by
    have:(j:Int)<w.ops.length:=of_decide_eq_true hb5
    omega
   obtain ⟨a3',c3',e3,hx0,hx1,_⟩:=g2
   have e3a:a3=a3':=by injection e3
   subst e3a
   obtain ⟨ad3,rfl⟩:∃ ad,a3=some ad:=by
    cases a3 with
    | none=>rw [hx0 rfl] at hj2;simp at hj2
    | some ad=>exact ⟨ad,rfl⟩
   have hcells:=(OAt.cells (hx1 ad3 rfl) hj2).mono l3
   have hsucc:q0p M (w.ops.take (j+1))=q4e (q0p M (w.ops.take j)) w.ops[j]:=by unfold q0p;exact q4k hj2
   have hpos:∀ r∈q0b w.ops[j],0≤r:=fun r hr=>(z6u (hop _ (List.getElem_mem hj2)) r hr).1
   refine WIdx.mk ad3 rfl ⟨by omega,by simpa using hj2⟩ ?_
   refine WLds.mk (w.ops[j]).cells (by simpa using hcells) rfl ?_
   generalize w.ops[j]=o at *
   conv=>whnf
   rw [sp7 o]
   conv=>whnf
   refine q0a.mk (k4f (l3 _ _ hm) (q0p M (w.ops.take j)) o (q5r hXs (by omega)) (by rw [hXM];exact hbk) hpos) ?_
   rintro _ m4 ⟨rfl,l4⟩
   refine WRng.mk (by apply wrap_i64<;>omega) ?_
   conv=>whnf
   refine ⟨j+1,⟨rfl,?_,trivial⟩,⟨l3.trans l4,hj2⟩,by omega⟩
   rw [hsucc]
   exact congrArg (fun l=>some (AV.var l)) (w0n (q0p M (w.ops.take j)) (q4e (q0p M (w.ops.take j)) o))
  ·have hj2:j=w.ops.length:=by
    have:¬ (j:Int)<w.ops.length:=of_decide_eq_false hb5
    omega
   subst hj2
   rw [List.take_length]
   conv=>whnf
   refine q0a.mk (j4x m3 (q0p M w.ops)) ?_
   rintro _ m4 ⟨rfl,l4⟩
   refine Br.mk (fun hb6=>?_) (fun hb6=>?_)
   ·refine WRet.same ⟨?_,l3.trans l4⟩
    rw [hcode,if_pos (List.any_eq_true.2 ⟨w,by rw [← hwk];exact List.getElem_mem hk2,hb6⟩)];rfl
   ·refine WRng.mk (by apply wrap_i64<;>omega) ?_
    conv=>whnf
    refine ⟨k+1,⟨rfl,trivial⟩,⟨l3.trans l4,hk2,fun q hq2 h=>?_⟩,by omega⟩
    by_cases e:q=k
    ·subst e;rw [hwk];exact q7s hb6
    ·exact hq q hq2 (by omega)
 ·have hk2:k=C.ws.length:=by
   have:¬ (k:Int)<C.ws.length:=of_decide_eq_false hb2
   omega
  subst hk2
  have hany:C.ws.any (fun w=>!q4w (q0p M w.ops))=false:=by
   rw [List.any_eq_false]
   intro w hw h
   obtain ⟨q,hq2,rfl⟩:=List.getElem_of_mem hw
   rw [hq q hq2 hq2] at h;cases h
  exact WRet.same ⟨by rw [hcode,hany];rfl,l2⟩
end Go.Proofs.YtleofbpepfmfgaaGreatDoor
