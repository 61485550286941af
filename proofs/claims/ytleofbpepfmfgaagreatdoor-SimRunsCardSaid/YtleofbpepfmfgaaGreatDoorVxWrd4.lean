import Derived.Test.YtleofbpepfmfgaaGreatDoorVxWrd
import Derived.Test.YtleofbpepfmfgaaGreatDoorVxSimS
set_option linter.unusedSimpArgs false
set_option linter.unusedVariables false
set_option maxRecDepth 100000
namespace Go.Proofs.YtleofbpepfmfgaaGreatDoor
open Go Go.Vx
open Go.Vx.IOp Go.Vx.IR Go.Vx.Opd
def opS (C:CodeR) (o:OpR):OpR:=if o.kd=21 then { o with n:=if (decide (o.n<0)||decide (o.n≥C.ws.length))=true then 1 else 0 } else o
theorem regB_none (rg:Int) (u:Bool) (r:Int):regB rg u r=!(u&&noneR rg r):=by
 unfold regB inB noneR
 cases u with
 | false=>rfl
 | true =>
  rw [Bool.eq_iff_iff]
  simp only [Bool.not_true,Bool.false_or,Bool.true_and,Bool.and_eq_true,Bool.not_eq_true',Bool.or_eq_false_iff,decide_eq_true_eq,decide_eq_false_iff_not]
  omega
theorem opE_op {C:CodeR} {o:OpR} (hsp:0≤C.sp) (h:¬ (26≤o.kd∧o.kd≤28)):opE C.rg C.sz.length C.sp 1 (opS C o)=opCode C o:=by
 have hkd:(opS C o).kd=o.kd:=by unfold opS;split<;>rfl
 have hds:(opS C o).ds=o.ds:=by unfold opS;split<;>rfl
 have ha:(opS C o).a=o.a:=by unfold opS;split<;>rfl
 have hb:(opS C o).b=o.b:=by unfold opS;split<;>rfl
 have hc:(opS C o).c=o.c:=by unfold opS;split<;>rfl
 have hgd:(opS C o).gd=o.gd:=by unfold opS;split<;>rfl
 unfold opE opCode idleB
 rw [hkd,hds,ha,hb,hc,hgd]
 by_cases hk:1≤o.kd∧o.kd≤25
 ·rw [if_neg (fun hh=>hh hk),if_neg (show ¬ (o.kd<1∨o.kd>28) by omega)]
  simp only [regB_none]
  -- the number
  have key:topB (topC C.sz.length C.sp 1 o.kd) (opS C o).n=!(uN o.kd&&o.kd != 1&&(decide (o.n<0)||decide (o.n≥manyN C o.kd))) ∧
    ((decide (topC C.sz.length C.sp 1 o.kd<0)&&!(o.kd==1))&&(opS C o).n != 0)=(!uN o.kd&&o.n != 0):=by
   by_cases h1:o.kd=16∨o.kd=17∨o.kd=25
   ·have hn:(opS C o).n=o.n:=by unfold opS;rw [if_neg (by omega)]
    have ht:topC C.sz.length C.sp 1 o.kd=C.sz.length:=by unfold topC isArr;rw [if_pos (by simp only [Bool.or_eq_true,beq_iff_eq];omega)]
    have hu:uN o.kd=true:=by rcases h1 with e | e | e<;>rw [e]<;>rfl
    have hu2:(o.kd != 1)=true:=by simp only [bne_iff_ne,ne_eq];omega
    have hm:manyN C o.kd=C.sz.length:=by unfold manyN;rw [if_pos h1]
    rw [hn,ht,hu,hu2,hm]
    unfold topB
    refine ⟨?_,?_⟩
    ·rw [Bool.eq_iff_iff]
     simp only [Bool.or_eq_true,Bool.and_eq_true,Bool.not_eq_true',Bool.true_and,Bool.and_self,Bool.or_eq_false_iff,decide_eq_true_eq,decide_eq_false_iff_not]
     omega
    ·rw [decide_eq_false (by omega)];rfl
   ·by_cases h2:o.kd=18∨o.kd=19
    ·have hn:(opS C o).n=o.n:=by unfold opS;rw [if_neg (by omega)]
     have ht:topC C.sz.length C.sp 1 o.kd=C.sp:=by unfold topC isArr isCel;rw [if_neg (by simp only [Bool.or_eq_true,beq_iff_eq];omega),if_pos (by simp only [Bool.or_eq_true,beq_iff_eq];omega)]
     have hu:uN o.kd=true:=by rcases h2 with e | e<;>rw [e]<;>rfl
     have hu2:(o.kd != 1)=true:=by simp only [bne_iff_ne,ne_eq];omega
     have hm:manyN C o.kd=C.sp:=by unfold manyN;rw [if_neg h1,if_pos h2]
     rw [hn,ht,hu,hu2,hm]
     unfold topB
     refine ⟨?_,?_⟩
     ·rw [Bool.eq_iff_iff]
      simp only [Bool.or_eq_true,Bool.and_eq_true,Bool.not_eq_true',Bool.true_and,Bool.and_self,Bool.or_eq_false_iff,decide_eq_true_eq,decide_eq_false_iff_not]
      omega
     ·rw [decide_eq_false (by omega)];rfl
    ·by_cases h3:o.kd=21
     ·have hn:(opS C o).n=if (decide (o.n<0)||decide (o.n≥C.ws.length))=true then 1 else 0:=by unfold opS;rw [if_pos h3]
      have ht:topC C.sz.length C.sp 1 o.kd=1:=by unfold topC isArr isCel;rw [if_neg (by simp only [Bool.or_eq_true,beq_iff_eq];omega),if_neg (by simp only [Bool.or_eq_true,beq_iff_eq];omega),if_pos h3]
      have hu:uN o.kd=true:=by rw [h3];rfl
      have hu2:(o.kd != 1)=true:=by rw [h3];rfl
      have hm:manyN C o.kd=C.ws.length:=by unfold manyN;rw [if_neg h1,if_neg h2,if_pos (.inl h3)]
      rw [hn,ht,hu,hu2,hm]
      refine ⟨?_,rfl⟩
      cases hq:(decide (o.n<0)||decide (o.n≥C.ws.length))<;>rfl
     ·have hn:(opS C o).n=o.n:=by unfold opS;rw [if_neg h3]
      have ht:topC C.sz.length C.sp 1 o.kd=-1:=by unfold topC isArr isCel;rw [if_neg (by simp only [Bool.or_eq_true,beq_iff_eq];omega),if_neg (by simp only [Bool.or_eq_true,beq_iff_eq];omega),if_neg h3]
      have hu:uN o.kd=(o.kd==1):=by
       unfold uN
       rw [Bool.eq_iff_iff]
       simp only [Bool.or_eq_true,beq_iff_eq]
       omega
      rw [hn,ht,hu]
      have hu2:(o.kd != 1)=!(o.kd==1):=rfl
      rw [hu2]
      refine ⟨?_,rfl⟩
      cases (o.kd==1)<;>rfl
  obtain ⟨k1,k2⟩:=key
  rw [k1,k2]
  generalize (uD o.kd&&noneR C.rg o.ds)=x1
  generalize (uA o.kd&&noneR C.rg o.a)=x2
  generalize (uB o.kd&&noneR C.rg o.b)=x3
  generalize (uC o.kd&&noneR C.rg o.c)=x4
  generalize (o.gd != -1&&noneR C.rg o.gd)=x5
  generalize (uN o.kd&&o.kd != 1&&(decide (o.n<0)||decide (o.n≥manyN C o.kd)))=x6
  generalize (!uN o.kd&&o.n != 0)=x7
  cases x1<;>cases x2<;>cases x3<;>cases x4<;>cases x5<;>cases x6<;>rfl
 ·rw [if_pos hk,if_pos (show o.kd<1∨o.kd>28 by omega)]
theorem op_ok {m:Mem} {T:Nat} {fr:Nat×Nat} (hm:m 0=some (.cells ⟨cells0⟩ T fr)) (V:CV) {C:CodeR} (hV:CodeAt m V C) (hC:headCode C=0) (o:OpR) :
  CallsM Tryz.prog 95 [V.val C,o.val] m fun e m'=>e=.returned (i (opCode C o))∧Mem.le m m':=by
 have hsp:0≤C.sp:=by
  unfold headCode at hC
  split at hC
  ·exact absurd hC (by decide)
  ·split at hC
   ·exact absurd hC (by decide)
   ·split at hC
    ·exact absurd hC (by decide)
    ·omega
 refine calls_of mixed Tryz.func95 ok_words_op rfl ?_
 refine WCall.pure (isOwn_ok _ _) ?_
 refine Br.mk (fun hk=>?_) (fun hk=>?_)
 ·have hk:26≤o.kd∧o.kd≤28:=by
   simp only [Bool.and_eq_true,decide_eq_true_eq] at hk;omega
  refine WCall.mk (own_ok V hV o) ?_
  rintro _ m1 ⟨rfl,l1⟩
  exact WRet.same ⟨by rw [ownE_op hk];rfl,l1⟩
 have hk:¬ (26≤o.kd∧o.kd≤28):=fun hh=>by
  rw [decide_eq_true (show o.kd≥26 by omega),decide_eq_true hh.2] at hk;cases hk
 have hcode:unitE C [opS C o]=opCode C o:=by
  unfold unitE
  rw [if_neg (by rw [hC];decide)]
  show firstE [opE C.rg C.sz.length C.sp 1 (opS C o)]=_
  rw [opE_op hsp hk]
  unfold firstE firstE
  split
  ·rename_i h;exact h.symm
  ·rfl
 refine WCall.mk (head_ok m V C) ?_
 rintro _ m1 ⟨b,rfl,hb,hc1,l1⟩
 -- OP (printed by wrdop.py)
 refine Br.mk (fun h21=>?_) (fun h21=>?_)
 ·have h21:o.kd=21:=by simpa using h21
  refine WSc.mk (v:=decide (o.n≥C.ws.length)) (fun _=>?_) ?_
  ·conv=>whnf
   rw [hV.n2]
   exact And.intro (Mem.le.refl _) rfl
  refine Br.mk (fun hq=>?_) (fun hq=>?_)
  ·have hq:(decide (o.n<0)||decide (o.n≥C.ws.length))=true:=hq
   have ho:opS C o=⟨o.kd,o.ds,o.a,o.b,o.c,1,o.gd⟩:=by unfold opS;rw [if_pos h21,if_pos hq]
   refine WNew.mk fun bs hbs=>?_
   have l2:Mem.le m1 (m1.set bs (Cells (opS C o).cells 110)):=Mem.le_set hbs
   have c2:m1.set bs (Cells (opS C o).cells 110) bs=some (Cells (opS C o).cells 110):=Mem.set_same _ _ _
   rw [ho] at l2 c2
   refine WIdx.mk ⟨b,0,none⟩ rfl ⟨by omega,by omega⟩ ?_
   refine WSt.mk _ _ (l2 _ _ hc1) rfl (by rw [add0,addo];simp [cellsL]) ?_
   have hne:b≠bs:=fun e=>by subst e;rw [hc1] at hbs;cases hbs
   have l3:=le_setn (o:=Cells [.slice (some ⟨bs,0,none⟩) 1 1,i 1,i 0,i 0,i 0,i (-1)] 192) (l1.trans l2) hb
   refine WCall.pure (codeCheck_ok (l3 _ _ hm) C (O:=[opS C o]) ((IAt.mono l3) hV.sz) hV.szl (ad2:=⟨b,0,none⟩) (CellsAt.blk (Mem.set_same _ _ _) fun j v hj=>by rw [Nat.zero_add];exact hj)
    ⟨some ⟨bs,0,none⟩,1,rfl,(fun h=>by cases h),fun ad ha=>by cases ha;rw [ho];exact CellsAt.blk (by rw [Mem.set_other _ _ (fun e=>hne e.symm)];exact c2) fun j v hj=>by rw [Nat.zero_add];exact hj,Nat.le_refl _⟩ (by simp)) ?_
   rw [hcode]
   exact WRet.same ⟨rfl,l3⟩

  ·have hq:(decide (o.n<0)||decide (o.n≥C.ws.length))=false:=hq
   have ho:opS C o=⟨o.kd,o.ds,o.a,o.b,o.c,0,o.gd⟩:=by unfold opS;rw [if_pos h21,if_neg (by rw [hq];decide)]
   refine WNew.mk fun bs hbs=>?_
   have l2:Mem.le m1 (m1.set bs (Cells (opS C o).cells 110)):=Mem.le_set hbs
   have c2:m1.set bs (Cells (opS C o).cells 110) bs=some (Cells (opS C o).cells 110):=Mem.set_same _ _ _
   rw [ho] at l2 c2
   refine WIdx.mk ⟨b,0,none⟩ rfl ⟨by omega,by omega⟩ ?_
   refine WSt.mk _ _ (l2 _ _ hc1) rfl (by rw [add0,addo];simp [cellsL]) ?_
   have hne:b≠bs:=fun e=>by subst e;rw [hc1] at hbs;cases hbs
   have l3:=le_setn (o:=Cells [.slice (some ⟨bs,0,none⟩) 1 1,i 1,i 0,i 0,i 0,i (-1)] 192) (l1.trans l2) hb
   refine WCall.pure (codeCheck_ok (l3 _ _ hm) C (O:=[opS C o]) ((IAt.mono l3) hV.sz) hV.szl (ad2:=⟨b,0,none⟩) (CellsAt.blk (Mem.set_same _ _ _) fun j v hj=>by rw [Nat.zero_add];exact hj)
    ⟨some ⟨bs,0,none⟩,1,rfl,(fun h=>by cases h),fun ad ha=>by cases ha;rw [ho];exact CellsAt.blk (by rw [Mem.set_other _ _ (fun e=>hne e.symm)];exact c2) fun j v hj=>by rw [Nat.zero_add];exact hj,Nat.le_refl _⟩ (by simp)) ?_
   rw [hcode]
   exact WRet.same ⟨rfl,l3⟩

 have h21:o.kd≠21:=by simpa using h21
 have ho:opS C o=o:=by unfold opS;rw [if_neg h21]
 refine WNew.mk fun bs hbs=>?_
 have l2:Mem.le m1 (m1.set bs (Cells (opS C o).cells 110)):=Mem.le_set hbs
 have c2:m1.set bs (Cells (opS C o).cells 110) bs=some (Cells (opS C o).cells 110):=Mem.set_same _ _ _
 rw [ho] at l2 c2
 refine WIdx.mk ⟨b,0,none⟩ rfl ⟨by omega,by omega⟩ ?_
 refine WSt.mk _ _ (l2 _ _ hc1) rfl (by rw [add0,addo];simp [cellsL]) ?_
 have hne:b≠bs:=fun e=>by subst e;rw [hc1] at hbs;cases hbs
 have l3:=le_setn (o:=Cells [.slice (some ⟨bs,0,none⟩) 1 1,i 1,i 0,i 0,i 0,i (-1)] 192) (l1.trans l2) hb
 refine WCall.pure (codeCheck_ok (l3 _ _ hm) C (O:=[opS C o]) ((IAt.mono l3) hV.sz) hV.szl (ad2:=⟨b,0,none⟩) (CellsAt.blk (Mem.set_same _ _ _) fun j v hj=>by rw [Nat.zero_add];exact hj)
  ⟨some ⟨bs,0,none⟩,1,rfl,(fun h=>by cases h),fun ad ha=>by cases ha;rw [ho];exact CellsAt.blk (by rw [Mem.set_other _ _ (fun e=>hne e.symm)];exact c2) fun j v hj=>by rw [Nat.zero_add];exact hj,Nat.le_refl _⟩ (by simp)) ?_
 rw [hcode]
 exact WRet.same ⟨rfl,l3⟩
 -- END OP
theorem idx_op {m:Mem} {v:Value} {O:List OpR} (hv:OAt m v O) (hlen:O.length<2 ^ 63) {g:Nat} {first caps:List Value} (p:OpR→Bool)
  (hp:∀ x∈O,PureM Tryz.prog g (first++[x.val]++caps) m (.bool (p x))) :
  PureM Tryz.prog 126 [v,.func (.func g) ⟨first⟩ ⟨caps⟩] m (i (idxFrom p O)):=by
 obtain ⟨a,c,rfl,h0,h1,hcap⟩:=hv
 refine calls_of mixed Tryz.func126 ok_slices_IndexFunc_api_Op_api_Op rfl ?_
 refine WLoop.mk Nat (fun k=>[(8,.val (i k))]) (fun k m'=>m=m'∧k≤O.length∧∀ j (hj:j<O.length),j<k→p O[j]=false) (fun k=>O.length - k) 0 ⟨rfl,trivial⟩ ⟨rfl,Nat.zero_le _,fun j hj h=>by omega⟩ ?_
 rintro k m' ⟨rfl,hk,hq⟩
 refine Br.mk (fun hb=>?_) (fun hb=>?_)
 ·have hk2:k<O.length:=by simpa using hb
  obtain ⟨ad,rfl⟩:∃ ad,a=some ad:=by
   cases a with
   | none=>rw [h0 rfl] at hk2;simp at hk2
   | some ad=>exact ⟨ad,rfl⟩
  have hcells:=OAt.cells (h1 ad rfl) hk2
  refine WIdx.mk ad rfl ⟨by omega,by simpa using hk2⟩ ?_
  refine WLds.mk (O[k]).cells (by simpa using hcells) rfl ?_
  refine WCall.pure (hp _ (List.getElem_mem hk2)) ?_
  refine Br.mk (fun hb=>?_) (fun hb=>?_)
  ·refine WRet.same ⟨?_,rfl⟩
   unfold idxFrom
   rw [findIdx_at hk2 (fun j hj=>hq j (by omega) hj) hb]
   rfl
  ·refine WRng.mk (by apply wrap_i64<;>omega) ?_
   conv=>whnf
   refine ⟨k+1,⟨rfl,trivial⟩,⟨rfl,hk2,fun j hj h=>?_⟩,by omega⟩
   by_cases e:j=k
   ·subst e;exact hb
   ·exact hq j hj (by omega)
 ·have hk2:¬ k<O.length:=by simpa using hb
  refine WRet.same ⟨?_,rfl⟩
  unfold idxFrom
  rw [findIdx_none fun j hj=>hq j hj (by omega)]
  rfl
theorem contains_op {m:Mem} {v:Value} {O:List OpR} (hv:OAt m v O) (hlen:O.length<2 ^ 63) {g:Nat} {first caps:List Value} (p:OpR→Bool)
  (hp:∀ x∈O,PureM Tryz.prog g (first++[x.val]++caps) m (.bool (p x))) :
  PureM Tryz.prog 96 [v,.func (.func g) ⟨first⟩ ⟨caps⟩] m (.bool (O.any p)):=by
 refine calls_of mixed Tryz.func96 ok_slices_ContainsFunc_api_Op_api_Op rfl ?_
 refine WCall.pure (idx_op hv hlen p hp) ?_
 refine WRet.same ⟨?_,rfl⟩
 rw [show resVal [Value.bool (decide (idxFrom p O≥0))]=.bool (decide (idxFrom p O≥0)) from rfl,idxFrom_any]
def opsBefore (ws:List WordR) (k:Nat):Nat:=((ws.take k).map fun w=>w.ops.length).foldl (·+·) 0
theorem opsBefore_succ {ws:List WordR} {k:Nat} (hk:k<ws.length):opsBefore ws (k+1)=opsBefore ws k+(ws[k]).ops.length:=by
 unfold opsBefore
 rw [List.take_succ_eq_append_getElem hk,List.map_append,List.foldl_append];rfl
theorem opsBefore_le {ws:List WordR} {k:Nat} (hk:k≤ws.length) (h:∀ j (hj:j<ws.length),j<k→(ws[j]).ops.length≤400):opsBefore ws k≤400 * k:=by
 induction k with
 | zero=>simp [opsBefore]
 | succ k ih =>
  rw [opsBefore_succ (by omega)]
  have:=ih (by omega) (fun j hj hjk=>h j hj (by omega))
  have:=h k (by omega) (by omega)
  omega
theorem opsBefore_all (ws:List WordR):opsBefore ws ws.length=manyOps ws:=by unfold opsBefore manyOps;rw [List.take_length]
theorem wCheck_ok {m:Mem} {T:Nat} {fr:Nat×Nat} (hm:m 0=some (.cells ⟨cells0⟩ T fr)) (V:CV) {C:CodeR} (hV:CodeAt m V C) :
  CallsM Tryz.prog 63 [V.val C] m fun e m'=>e=.returned (i (checkCode C))∧Mem.le m m':=by
 refine calls_of mixed Tryz.func63 ok_words_Check rfl ?_
 refine WCall.mk (head_ok m V C) ?_
 rintro _ m1 ⟨b,rfl,hb,hc1,l1⟩
 refine WCall.pure (codeCheck_ok (l1 _ _ hm) C (O:=[]) ((IAt.mono l1) hV.sz) hV.szl (ad2:=⟨b,0,none⟩) (CellsAt.blk hc1 fun j v hj=>by rw [Nat.zero_add];exact hj) (a3:=none) (n3:=0) (c3:=0)
  ⟨none,0,rfl,fun _=>rfl,(fun ad h=>by cases h),Nat.le_refl _⟩ (by simp)) ?_
 have he:unitE C []=headCode C:=by
  unfold unitE
  split
  ·rfl
  ·rename_i h;exact (Decidable.not_not.1 h).symm
 rw [he]
 refine Br.mk (fun h0=>?_) (fun h0=>?_)
 ·have h0:headCode C≠0:=by simpa using h0
  exact WRet.same ⟨by unfold checkCode;rw [if_pos h0];rfl,l1⟩
 have h0:headCode C=0:=by simpa using h0
 refine WSc.mk (fun _=>And.intro (Mem.le.refl _) rfl) ?_
 have hn2:=hV.n2
 refine Br.mk (fun hb1=>?_) (fun hb1=>?_)
 ·refine WRet.same ⟨?_,l1⟩
  have:C.ws.length=0∨C.ws.length>60000:=by
   simp only [scB,Bool.or_eq_true,beq_iff_eq,decide_eq_true_eq] at hb1
   omega
  unfold checkCode;rw [if_neg (by rw [h0];decide),if_pos this];rfl
 have hlen:¬ (C.ws.length=0∨C.ws.length>60000):=by
  simp only [scB,Bool.or_eq_false_iff,beq_eq_false_iff_ne,decide_eq_false_iff_not] at hb1
  omega
 have hcode:checkCode C=if firstE (C.ws.map (wordCode C))≠0 then firstE (C.ws.map (wordCode C)) else if lastLeaves C.ws=false then 4 else if manyOps C.ws>80000 then 3 else 0:=by
  unfold checkCode;rw [if_neg (by rw [h0];decide),if_neg hlen]
 have stop:∀ {k:Nat} (hk:k<C.ws.length),(∀ j (hj:j<C.ws.length),j<k→wordCode C C.ws[j]=0)→∀ (e:Int),wordCode C C.ws[k]=e→e≠0→checkCode C=e:=fun {k} hk hq e h1 h2=>by
  have hf:firstE (C.ws.map (wordCode C))=e:=by
   rw [firstE_at (L:=C.ws.map (wordCode C)) (k:=k) (by simpa using hk) (fun j hj hjk=>by simpa using hq j (by simpa using hj) hjk) (by simpa using fun h=>h2 (h1.symm.trans h))]
   simpa using h1
  rw [hcode,hf,if_pos h2]
 obtain ⟨a2,c2,e2,hw0,hw1,hw2⟩:=hV.ws
 have ea:V.a2=a2:=by injection e2
 have ec:V.c2=c2:=by injection e2
 subst ea;subst ec
 refine WLoop.mk Nat (fun k=>[(4,.val (i (opsBefore C.ws k))),(29,.val (i k))]) (fun k m'=>Mem.le m m'∧k≤C.ws.length∧∀ j (hj:j<C.ws.length),j<k→wordCode C C.ws[j]=0) (fun k=>C.ws.length - k) 0
  ⟨rfl,rfl,trivial⟩ ⟨l1,Nat.zero_le _,fun j hj h=>by omega⟩ ?_
 rintro k m2 ⟨l2,hk,hq⟩
 rw [hn2]
 have h400:∀ j (hj:j<C.ws.length),j<k→(C.ws[j]).ops.length≤400:=fun j hj hjk=>by
  have:=hq j hj hjk
  unfold wordCode at this
  split at this
  ·exact absurd this (by decide)
  ·split at this
   ·exact absurd this (by decide)
   ·omega
 have hle400:=opsBefore_le hk h400
 refine Br.mk (fun hb2=>?_) (fun hb2=>?_)
 ·have hk2:k<C.ws.length:=by
   have:(k:Int)<C.ws.length:=of_decide_eq_true hb2
   omega
  obtain ⟨ad,had⟩:∃ ad,V.a2=some ad:=by
   cases hh:V.a2 with
   | none=>rw [hw0 hh] at hk2;simp at hk2
   | some ad=>exact ⟨ad,rfl⟩
  obtain ⟨a3,n3,c3,g1,g2⟩:=hw1 ad had k hk2
  have hn3:n3=(C.ws[k]).ops.length:=by obtain ⟨_,_,e,_⟩:=g2;injection e
  have hst:=stop hk2 hq
  refine WIdx.mk ad had ⟨by omega,by simpa using hk2⟩ ?_
  refine WLds.mk [.slice a3 n3 c3,i (C.ws[k]).ct] (by simpa using g1.mono l2) rfl ?_
  generalize hwk:C.ws[k]=w at *
  refine WSc.mk (v:=!inB w.ct C.ws.length) (fun _=>?_) ?_
  ·refine WCall.pure (within2_ok _ _ _) ?_
   rw [hn2]
   exact And.intro (Mem.le.refl _) rfl
  refine Br.mk (fun hb3=>?_) (fun hb3=>?_)
  ·have hw:wordCode C w=2:=by
    unfold wordCode
    rw [if_pos]
    simp only [scB,inB,Bool.and_eq_true,bne_iff_ne,ne_eq,Bool.not_eq_true',Bool.and_eq_false_iff,decide_eq_false_iff_not] at hb3
    omega
   exact WRet.same ⟨by rw [hst _ hw (by decide)];rfl,l2⟩
  have hct:¬ (w.ct < -1∨w.ct≥C.ws.length):=by
   have hb3:((w.ct != -1)&&!inB w.ct C.ws.length)=false:=hb3
   simp only [inB,Bool.and_eq_false_iff,bne_eq_false_iff_eq,Bool.not_eq_false',Bool.and_eq_true,decide_eq_true_eq] at hb3
   omega
  refine Br.mk (fun hb4=>?_) (fun hb4=>?_)
  ·have hw:wordCode C w=3:=by
    unfold wordCode
    have:(n3:Int)>400:=of_decide_eq_true hb4
    rw [if_neg hct,if_pos (by omega)]
   exact WRet.same ⟨by rw [hst _ hw (by decide)];rfl,l2⟩
  have ho4:w.ops.length≤400:=by
   have:¬ (n3:Int)>400:=of_decide_eq_false hb4
   omega
  have hwc:wordCode C w=firstE (w.ops.map (opCode C)):=by unfold wordCode;rw [if_neg hct,if_neg (by omega)]
  subst hn3
  refine WLoop.mk Nat (fun j=>[(52,.val (i j))]) (fun j m'=>Mem.le m m'∧j≤w.ops.length∧∀ q (hq:q<w.ops.length),q<j→opCode C w.ops[q]=0) (fun j=>w.ops.length - j) 0
   ⟨rfl,trivial⟩ ⟨l2,Nat.zero_le _,fun q hq h=>by omega⟩ ?_
  rintro j m3 ⟨l3,hj,hq3⟩
  refine Br.mk (fun hb5=>?_) (fun hb5=>?_)
  ·have hj2:j<w.ops.length:=by
    have:(j:Int)<w.ops.length:=of_decide_eq_true hb5
    omega
   obtain ⟨a3',c3',e3,hx0,hx1,_⟩:=g2
   have e3a:a3=a3':=by injection e3
   subst e3a
   obtain ⟨ad3,rfl⟩:∃ ad,a3=some ad:=by
    cases a3 with
    | none=>rw [hx0 rfl] at hj2;simp at hj2
    | some ad=>exact ⟨ad,rfl⟩
   have hcells:=(OAt.cells (hx1 ad3 rfl) hj2).mono l3
   refine WIdx.mk ad3 rfl ⟨by omega,by simpa using hj2⟩ ?_
   refine WLds.mk (w.ops[j]).cells (by simpa using hcells) rfl ?_
   refine WCall.mk (op_ok (l3 _ _ hm) V (hV.mono l3) h0 w.ops[j]) ?_
   rintro _ m4 ⟨rfl,l4⟩
   refine Br.mk (fun hb6=>?_) (fun hb6=>?_)
   ·have hne:opCode C w.ops[j]≠0:=by simpa using hb6
    have hw:wordCode C w=opCode C w.ops[j]:=by
     rw [hwc,firstE_at (L:=w.ops.map (opCode C)) (k:=j) (by simpa using hj2) (fun q hq hqj=>by simpa using hq3 q (by simpa using hq) hqj) (by simpa using hne)]
     simp
    exact WRet.same ⟨by rw [hst _ hw hne];rfl,l3.trans l4⟩
   ·have hz:opCode C w.ops[j]=0:=by simpa using hb6
    refine WRng.mk (by apply wrap_i64<;>omega) ?_
    conv=>whnf
    refine ⟨j+1,⟨rfl,trivial⟩,⟨l3.trans l4,hj2,fun q hq h=>?_⟩,by omega⟩
    by_cases e:q=j
    ·subst e;exact hz
    ·exact hq3 q hq (by omega)
  ·have hj2:j=w.ops.length:=by
    have:¬ (j:Int)<w.ops.length:=of_decide_eq_false hb5
    omega
   subst hj2
   have hz:wordCode C w=0:=by
    rw [hwc]
    refine firstE_zero.2 fun x hx=>?_
    obtain ⟨o,ho,rfl⟩:=List.mem_map.1 hx
    obtain ⟨q,hq,rfl⟩:=List.getElem_of_mem ho
    exact hq3 q hq hq
   have hsum:opsBefore C.ws (k+1)=opsBefore C.ws k+w.ops.length:=by rw [opsBefore_succ hk2,hwk]
   refine WRng.mk (by apply wrap_i64<;>omega) ?_
   refine WRng.mk (by apply wrap_i64<;>omega) ?_
   conv=>whnf
   refine ⟨k+1,⟨?_,rfl,trivial⟩,⟨l3,hk2,fun q hq2 h=>?_⟩,by omega⟩
   ·rw [hsum];rfl
   ·by_cases e:q=k
    ·subst e;rw [hwk];exact hz
    ·exact hq q hq2 (by omega)
 ·have hk2:k=C.ws.length:=by
   have:¬ (k:Int)<C.ws.length:=of_decide_eq_false hb2
   omega
  subst hk2
  have hall:firstE (C.ws.map (wordCode C))=0:=firstE_zero.2 fun x hx=>by
   obtain ⟨w,hw,rfl⟩:=List.mem_map.1 hx
   obtain ⟨q,hq2,rfl⟩:=List.getElem_of_mem hw
   exact hq q hq2 hq2
  have hcode2:checkCode C=if lastLeaves C.ws=false then 4 else if manyOps C.ws>80000 then 3 else 0:=by rw [hcode,hall];rfl
  have hpos:0<C.ws.length:=by omega
  obtain ⟨ad,had⟩:∃ ad,V.a2=some ad:=by
   cases hh:V.a2 with
   | none=>rw [hw0 hh] at hpos;simp at hpos
   | some ad=>exact ⟨ad,rfl⟩
  obtain ⟨a3,n3,c3,g1,g2⟩:=hw1 ad had (C.ws.length - 1) (by omega)
  have hlast:lastLeaves C.ws=(C.ws[C.ws.length - 1]).ops.any leavesS:=by
   unfold lastLeaves
   rw [List.getLast?_eq_getElem?,List.getElem?_eq_getElem (by omega)]
  have ho4:=h400 (C.ws.length - 1) (by omega) (by omega)
  refine WRng.mk (by rw [hn2];apply wrap_i64<;>omega) ?_
  refine WIdx.mk ad had ⟨by omega,by omega⟩ ?_
  refine WLd.mk (.slice a3 n3 c3) ?_ ?_
  ·have:=(g1.mono l2) 0 _ rfl
   rw [show ((V.n2:Int) - 1).toNat=C.ws.length - 1 by rw [hn2];omega]
   simpa using this
  refine WCall.pure (contains_op (first:=[]) (caps:=[]) (g2.mono' l2) (by omega) leavesS (fun x _=>wLeaves_ok _ x)) ?_
  rw [← hlast]
  refine Br.mk (fun hb3=>?_) (fun hb3=>?_)
  ·exact WRet.same ⟨by rw [hcode2,if_pos (not_t hb3)];rfl,l2⟩
  have hb3:lastLeaves C.ws=true:=not_f hb3
  conv=>whnf
  rw [opsBefore_all]
  refine Br.mk (fun hb4=>?_) (fun hb4=>?_)
  ·have:(manyOps C.ws:Int)>80000:=of_decide_eq_true hb4
   exact WRet.same ⟨by rw [hcode2,if_neg (by rw [hb3];decide),if_pos (by omega)];rfl,l2⟩
  ·have:¬ (manyOps C.ws:Int)>80000:=of_decide_eq_false hb4
   exact WRet.same ⟨by rw [hcode2,if_neg (by rw [hb3];decide),if_neg (by omega)];rfl,l2⟩
def wrS (o:OpR):Option Nat:=if uD o.kd=true then some o.ds.toNat else none
def dlS (M:Mac) (o:OpR):Nat:=(M.lat (classS o.kd).1.toNat).toNat
def stepW (M:Mac) (w:List Nat) (o:OpR):List Nat:=match wrS o with | some d=>w.set d (max (w.getD d 0) (dlS M o)) | none=>w
def decW (w:List Nat):List Nat:=w.map (· - 1)
def mayTrapS (o:OpR):Bool:=(o.kd==14||o.kd==15||o.kd==16||o.kd==17||o.kd==20||o.kd==21||o.kd==22||o.kd==27||o.kd==28)||o.gd != -1
def zerosW (C:CodeR):List Nat:=List.replicate C.rg.toNat 0
def outsW (C:CodeR) (M:Mac) (k:Nat) (ct:Int):List OpR→List Nat→List (Nat×List Nat)
 | [],w=>[(k+1,decW w)]
 | o :: os,w =>
  (if o.kd=21∨o.kd=26 then [(o.n.toNat,decW (stepW M w o))] else [])++((if mayTrapS o=true∧0≤ct then [(ct.toNat,zerosW C)] else [])++(if leavesS o=true then [] else outsW C M k ct os (stepW M w o)))
def leW (w w':List Nat):Prop:=∀ r,w.getD r 0≤w'.getD r 0
abbrev WS:=List (Option (List Nat))
structure IsW (C:CodeR) (M:Mac) (A:WS):Prop where
 len:A.length=C.ws.length
 wl:∀ (k:Nat) (w:List Nat),A[k]? = some (some w)→w.length=C.rg.toNat
 zero:∃ w:List Nat,A[0]? = some (some w)
 go:∀ (k:Nat) (w:List Nat),A[k]? = some (some w)→∀ p∈outsW C M k (wordAt C k).ct (wordAt C k).ops w,∃ w':List Nat,A[p.1]? = some (some w')∧leW p.2 w'
structure Least (C:CodeR) (M:Mac) (A:WS):Prop where
 is:IsW C M A
 le:∀ B:WS,IsW C M B→∀ (k:Nat) (w:List Nat),A[k]? = some (some w)→∃ w':List Nat,B[k]? = some (some w')∧leW w w'
def strictO (M:Mac) (w:List Nat):List OpR→List Nat→Bool
 | [],_=>true
 | o :: os,now=>(readsS o).all (fun r=>w.getD r.toNat 0==0)&&((match wrS o with | some d=>decide (now.getD d 0≤1) | none=>true)&&(leavesS o||strictO M w os (stepW M now o)))
def strictA (C:CodeR) (M:Mac) (A:WS):Prop:=∀ (k:Nat) (w:List Nat),A[k]? = some (some w)→strictO M w (wordAt C k).ops w=true
theorem leW.refl (w:List Nat):leW w w:=fun _=>Nat.le_refl _
theorem leW.trans {a b c:List Nat} (h:leW a b) (k:leW b c):leW a c:=fun r=>Nat.le_trans (h r) (k r)
theorem getD_setN {w:List Nat} {d r x:Nat}:(w.set d x).getD r 0=if d=r∧d<w.length then x else w.getD r 0:=by
 rw [List.getD_eq_getElem?_getD,List.getElem?_set]
 by_cases h:d=r
 ·subst h
  by_cases h2:d<w.length
  ·rw [if_pos rfl,if_pos h2,if_pos ⟨rfl,h2⟩];rfl
  ·rw [if_pos rfl,if_neg h2,if_neg (fun h=>h2 h.2),List.getD_eq_getElem?_getD,List.getElem?_eq_none (by omega)]
 ·rw [if_neg h,if_neg (fun hh=>h hh.1),List.getD_eq_getElem?_getD]
theorem step_len (M:Mac) (w:List Nat) (o:OpR):(stepW M w o).length=w.length:=by unfold stepW;split<;>simp
theorem dec_get (w:List Nat) (r:Nat):(decW w).getD r 0=w.getD r 0 - 1:=by
 unfold decW
 rw [List.getD_eq_getElem?_getD,List.getD_eq_getElem?_getD,List.getElem?_map]
 cases w[r]? with
 | none=>rfl
 | some x=>rfl
theorem step_mono {M M':Mac} {w w':List Nat} {o:OpR} (hl:w.length=w'.length) (h:leW w w') (hd:dlS M o≤dlS M' o):leW (stepW M w o) (stepW M' w' o):=by
 intro r
 unfold stepW
 split
 ·rename_i d hd'
  rw [getD_setN,getD_setN,← hl]
  have h1:=h d;have h2:=h r
  split
  ·omega
  ·exact h2
 ·exact h r
theorem dec_mono {w w':List Nat} (h:leW w w'):leW (decW w) (decW w'):=fun r=>by rw [dec_get,dec_get];have:=h r;omega
theorem dec_len (w:List Nat):(decW w).length=w.length:=by simp [decW]
theorem outs_mono {C:CodeR} {M M':Mac} {k:Nat} {ct:Int} (hd:∀ o,dlS M o≤dlS M' o):∀ {L:List OpR} {w w':List Nat},w.length=w'.length→leW w w' →
  ∀ p∈outsW C M k ct L w,∃ p'∈outsW C M' k ct L w',p'.1=p.1∧leW p.2 p'.2
 | [],w,w',hl,h,p,hp=>by
  rw [outsW,List.mem_singleton] at hp
  subst hp
  exact ⟨_,List.mem_singleton.2 rfl,rfl,dec_mono h⟩
 | o :: L,w,w',hl,h,p,hp=>by
  have hs:=step_mono (o:=o) hl h (hd o)
  rw [outsW,List.mem_append,List.mem_append] at hp
  rcases hp with hp | hp | hp
  ·split at hp
   ·rename_i hk
    rw [List.mem_singleton] at hp;subst hp
    exact ⟨(o.n.toNat,decW (stepW M' w' o)),by rw [outsW,List.mem_append];left;rw [if_pos hk];exact List.mem_singleton.2 rfl,rfl,dec_mono hs⟩
   ·cases hp
  ·split at hp
   ·rename_i hk
    rw [List.mem_singleton] at hp;subst hp
    exact ⟨(ct.toNat,zerosW C),by rw [outsW,List.mem_append,List.mem_append];right;left;rw [if_pos hk];exact List.mem_singleton.2 rfl,rfl,leW.refl _⟩
   ·cases hp
  ·split at hp
   ·cases hp
   ·rename_i hk
    obtain ⟨p',g1,g2,g3⟩:=outs_mono hd (by rw [step_len,step_len];exact hl) hs p hp
    exact ⟨p',by rw [outsW,List.mem_append,List.mem_append];right;right;rw [if_neg hk];exact g1,g2,g3⟩
theorem zeros_get (C:CodeR) (r:Nat):(zerosW C).getD r 0=0:=by
 unfold zerosW
 rw [List.getD_eq_getElem?_getD,List.getElem?_replicate]
 split<;>rfl
theorem outs_in {C:CodeR} {M:Mac} {k:Nat} {ct:Int} (hct:ct<C.ws.length):∀ {L:List OpR} {w:List Nat},(∀ o∈L,OpOK C o)→∀ p∈outsW C M k ct L w,p.1<C.ws.length∨(p.1=k+1∧∀ o∈L,leavesS o=false)
 | [],w,_,p,hp=>by
  rw [outsW,List.mem_singleton] at hp
  subst hp
  exact .inr ⟨rfl,fun o h=>by cases h⟩
 | o :: L,w,ho,p,hp=>by
  rw [outsW,List.mem_append,List.mem_append] at hp
  rcases hp with hp | hp | hp
  ·split at hp
   ·rename_i hk
    rw [List.mem_singleton] at hp;subst hp
    have:=(ho o (by simp)).n.2.2 hk
    exact .inl (by show o.n.toNat<_;omega)
   ·cases hp
  ·split at hp
   ·rename_i hk
    rw [List.mem_singleton] at hp;subst hp
    exact .inl (by show ct.toNat<_;omega)
   ·cases hp
  ·split at hp
   ·cases hp
   ·rename_i hk
    rcases outs_in hct (fun q hq=>ho q (List.mem_cons_of_mem _ hq)) p hp with h | ⟨h1,h2⟩
    ·exact .inl h
    ·refine .inr ⟨h1,fun q hq=>?_⟩
     rcases List.mem_cons.1 hq with e | e
     ·subst e;simpa using hk
     ·exact h2 q e
theorem outs_lt {C:CodeR} {M:Mac} (hC:CodeOK C) {k:Nat} (hk:k<C.ws.length) {w:List Nat} {p:Nat×List Nat} (hp:p∈outsW C M k (wordAt C k).ct (wordAt C k).ops w):p.1<C.ws.length:=by
 have hm:=wordAt_mem hk
 rcases outs_in (hC.ct _ hm).2 (hC.op _ hm) p hp with h | ⟨h1,h2⟩
 ·exact h
 ·rw [h1]
  by_cases e:k+1<C.ws.length
  ·exact e
  ·exfalso
   have hlast:C.ws.getLast? = some (wordAt C k):=by
    rw [List.getLast?_eq_getElem?]
    unfold wordAt
    rw [List.getD_eq_getElem?_getD,show C.ws.length - 1=k by omega,List.getElem?_eq_getElem hk]
    rfl
   obtain ⟨o,ho,hl⟩:=hC.last _ hlast
   rw [h2 o ho] at hl;cases hl
theorem mem_putS {acc:List Int} {r x:Int}:x∈putS acc r↔x∈acc∨x=r:=by
 unfold putS
 split
 ·rename_i h
  obtain ⟨y,hy,e⟩:=List.any_eq_true.1 h
  have e:r=y:=by simpa using e
  subst e
  exact ⟨.inl,fun h=>by rcases h with h | h
                        ·exact h
                        ·rw [h];exact hy⟩
 ·simp
theorem mem_foldPut:∀ {L acc:List Int} {x:Int},x∈L.foldl putS acc↔x∈acc∨x∈L
 | [],acc,x=>by simp
 | r :: L,acc,x=>by rw [List.foldl_cons,mem_foldPut,mem_putS,List.mem_cons];exact or_assoc
theorem mem_once {L:List Int} {x:Int}:x∈onceS L↔x∈L:=by unfold onceS;rw [mem_foldPut];simp
abbrev SoW (W:List WayR):Prop:=W.Pairwise fun a b=>a.rg=b.rg→a.t≤b.t
structure Same (s t:St):Prop where
 word:s.word=t.word
 took:s.took=t.took
 ended:s.ended=t.ended
 kind:s.kind=t.kind
 value:s.value=t.value
 prints:s.prints=t.prints
 kept:s.kept=t.kept
 arr:s.arr=t.arr
structure Mid (w now:List Nat) (z0 z:List VR) (s:St):Prop where
 zz:putsS s.regs s.way=z
 it:∀ x∈s.way,s.took<x.t∧x.t≤s.took+now.getD x.rg 0
 so:SoW s.way
 rd:∀ r,w.getD r 0=0→s.regs.getD r VR.zero=z0.getD r VR.zero
theorem doVal_congr {o:OpR} {a b c a' b' c':VR} (ha:uA o.kd=true→a=a') (hb:uB o.kd=true→b=b') (hc:uC o.kd=true→c=c') (hk:isMem o.kd=false) (hk2:isOut o.kd=false) (hk3:1≤o.kd∧o.kd≤28):doVal o a b c=doVal o a' b' c':=by
 unfold doVal
 by_cases h1:o.kd=1
 ·rw [if_pos h1,if_pos h1]
 ·rw [if_neg h1,if_neg h1]
  by_cases h2:o.kd=2
  ·rw [if_pos h2,if_pos h2,ha (by rw [h2];rfl)]
  ·rw [if_neg h2,if_neg h2]
   by_cases h3:o.kd=12
   ·rw [if_pos h3,if_pos h3,ha (by rw [h3];rfl),hb (by rw [h3];rfl),hc (by rw [h3];rfl)]
   ·rw [if_neg h3,if_neg h3]
    have hA:uA o.kd=true:=by
     unfold uA isMem at *
     simp only [Bool.or_eq_false_iff,beq_eq_false_iff_ne,Bool.not_eq_true',ne_eq] at *
     unfold isOut at hk2
     simp only [Bool.or_eq_false_iff,beq_eq_false_iff_ne,ne_eq] at hk2
     omega
    have hB:uB o.kd=true:=by
     unfold uB isMem isOut at *
     simp only [Bool.or_eq_false_iff,beq_eq_false_iff_ne,ne_eq,Bool.or_eq_true,Bool.and_eq_true,decide_eq_true_eq,beq_iff_eq] at *
     omega
    rw [ha hA,hb hB]
structure DoSame (M0:Mac) (w now:List Nat) (z0:List VR) (d e:DoR):Prop where
 n:d.n=e.n
 trap:d.trap=e.trap
 left:d.left=e.left
 same:Same d.s e.s
 mid:d.s.ended=false→∃ z,Mid w now z0 z d.s∧Mid w now z0 z e.s
theorem arg_in {C:CodeR} {o:OpR} (h:OpOK C o) (k:Nat):0≤o.arg k∧o.arg k<C.rg:=by
 rcases k with _ | _ | k
 ·exact h.a
 ·exact h.b
 ·exact h.c
theorem reads_in {C:CodeR} {o:OpR} (h:OpOK C o):∀ r∈readsS o,0≤r∧r<C.rg:=by
 intro r hr
 unfold readsS at hr
 rw [mem_once] at hr
 have hg:r∈guardL o→0≤r∧r<C.rg:=fun hh=>by
  unfold guardL at hh
  split at hh
  ·cases hh
  ·rename_i hne
   rw [List.mem_singleton] at hh
   rcases h.gd with e | e
   ·exact absurd e hne
   ·rw [hh];exact e
 unfold rawS at hr
 split at hr
 ·exact hg hr
 ·split at hr
  ·rcases List.mem_append.1 hr with hh | hh
   ·exact hg hh
   ·rw [List.mem_singleton] at hh;rw [hh];exact h.a
  ·split at hr
   ·rcases List.mem_append.1 hr with hh | hh
    ·exact hg hh
    ·obtain ⟨k,_,rfl⟩:=List.mem_map.1 hh
     exact arg_in h k
   ·cases hr
theorem good_op {C:CodeR} {M:Mac} {o:OpR} (h:OpOK C o) (hrg:C.rg≤M.rg):badOp M o=false:=by
 unfold badOp
 have hcl:(classS o.kd).2=true:=by
  have:=h.kd
  unfold classS
  split
  ·rfl
  ·split
   ·rfl
   ·split
    ·rfl
    ·split
     ·rfl
     ·omega
 rw [hcl,Bool.not_true,Bool.false_or,List.any_eq_false]
 intro r hr
 have:=reads_in h r hr
 unfold badRead inR
 rw [decide_eq_true (show r≥0 by omega),decide_eq_true (show r≤M.rg - 1 by omega)]
 decide
attribute [local irreducible] spliceL in
theorem wFits_ok {m:Mem} {T:Nat} {fr:Nat×Nat} (hm:m 0=some (.cells ⟨cells0⟩ T fr)) (V:CV) {C:CodeR} (hV:CodeAt m V C) (M:Mac) :
  CallsM Tryz.prog 50 [V.val C,M.val] m fun e m'=>e=.returned (i (fitsCode C M))∧Mem.le m m':=by
 refine calls_of mixed Tryz.func50 ok_words_Fits rfl ?_
 refine WCall.mk (wCheck_ok hm V hV) ?_
 rintro _ m1 ⟨rfl,l1⟩
 refine Br.mk (fun h0=>?_) (fun h0=>?_)
 ·have h0:checkCode C≠0:=by simpa using h0
  exact WRet.same ⟨by unfold fitsCode;rw [if_pos h0];rfl,l1⟩
 have h0:checkCode C=0:=by simpa using h0
 have hC:=checkCode_ok h0
 refine WCall.pure (check_ok m1 M) ?_
 cases hM:M.ok with
 | false =>
  rw [if_neg (by decide)]
  refine Br.mk (fun _=>?_) (fun h=>absurd h (by decide))
  exact WRet.same ⟨by unfold fitsCode;rw [if_neg (by rw [h0];decide),if_pos hM];rfl,l1⟩
 | true =>
 rw [if_pos rfl]
 refine Br.mk (fun h=>absurd h (by decide)) (fun _=>?_)
 refine Br.mk (fun hr=>?_) (fun hr=>?_)
 ·have hr:C.rg>M.rg:=of_decide_eq_true hr
  exact WRet.same ⟨by unfold fitsCode;rw [if_neg (by rw [h0];decide),if_neg (by rw [hM];decide),if_pos hr];rfl,l1⟩
 have hr:¬ C.rg>M.rg:=of_decide_eq_false hr
 have hcode:fitsCode C M=if C.ws.any (fun w=>!fitsS (usesAll M w.ops))=true then 7 else 0:=by unfold fitsCode;rw [if_neg (by rw [h0];decide),if_neg (by rw [hM];decide),if_neg hr]
 obtain ⟨_,hbk,_⟩:=ok_range hM
 have hn2:=hV.n2
 obtain ⟨a2,c2,e2,hw0,hw1,hw2⟩:=hV.ws
 have ea:V.a2=a2:=by injection e2
 have ec:V.c2=c2:=by injection e2
 subst ea;subst ec
 have hl:=hV.wsl
 refine WLoop.mk Nat (fun k=>[(30,.val (i k))]) (fun k m'=>Mem.le m m'∧k≤C.ws.length∧∀ j (hj:j<C.ws.length),j<k→fitsS (usesAll M (C.ws[j]).ops)=true) (fun k=>C.ws.length - k) 0
  ⟨rfl,trivial⟩ ⟨l1,Nat.zero_le _,fun j hj h=>by omega⟩ ?_
 rintro k m2 ⟨l2,hk,hq⟩
 rw [hn2]
 refine Br.mk (fun hb2=>?_) (fun hb2=>?_)
 ·have hk2:k<C.ws.length:=by
   have:(k:Int)<C.ws.length:=of_decide_eq_true hb2
   omega
  obtain ⟨ad,had⟩:∃ ad,V.a2=some ad:=by
   cases hh:V.a2 with
   | none=>rw [hw0 hh] at hk2;simp at hk2
   | some ad=>exact ⟨ad,rfl⟩
  obtain ⟨a3,n3,c3,g1,g2⟩:=hw1 ad had k hk2
  have hn3:n3=(C.ws[k]).ops.length:=by obtain ⟨_,_,e,_⟩:=g2;injection e
  have hol:=hC.ol _ (List.getElem_mem hk2)
  have hop:=hC.op _ (List.getElem_mem hk2)
  refine WIdx.mk ad had ⟨by omega,by simpa using hk2⟩ ?_
  refine WLds.mk [.slice a3 n3 c3,i (C.ws[k]).ct] (by simpa using g1.mono l2) rfl ?_
  generalize hwk:C.ws[k]=w at *
  subst hn3
  conv=>whnf
  rw [spliceL_all (l:=[ns,i 0]) (vs:=cellsL (.agg ⟨[.slice a3 w.ops.length c3,i w.ct]⟩)) rfl]
  refine WCall.pure (newUse_ok m2 M) ?_
  refine WLoop.mk Nat (fun j=>[(39,.val (i j)),(9,.var (usesAll M (w.ops.take j)).cells)]) (fun j m'=>Mem.le m m'∧j≤w.ops.length) (fun j=>w.ops.length - j) 0
   ⟨rfl,congrArg (fun l=>some (AV.var l)) (spAll (newU M)),trivial⟩ ⟨l2,Nat.zero_le _⟩ ?_
  rintro j m3 ⟨l3,hj⟩
  have hXM:(usesAll M (w.ops.take j)).M=M:=by unfold usesAll;rw [fold_M];rfl
  have hXs:(usesAll M (w.ops.take j)).small 2000:=by
   unfold usesAll
   refine small_mono (fold_small _ (newU_small M)) ?_
   rw [List.length_take];omega
  refine Br.mk (fun hb5=>?_) (fun hb5=>?_)
  ·have hj2:j<w.ops.length:=by
    have:(j:Int)<w.ops.length:=of_decide_eq_true hb5
    omega
   obtain ⟨a3',c3',e3,hx0,hx1,_⟩:=g2
   have e3a:a3=a3':=by injection e3
   subst e3a
   obtain ⟨ad3,rfl⟩:∃ ad,a3=some ad:=by
    cases a3 with
    | none=>rw [hx0 rfl] at hj2;simp at hj2
    | some ad=>exact ⟨ad,rfl⟩
   have hcells:=(OAt.cells (hx1 ad3 rfl) hj2).mono l3
   have hsucc:usesAll M (w.ops.take (j+1))=withS (usesAll M (w.ops.take j)) w.ops[j]:=by unfold usesAll;exact fold_succ hj2
   have hpos:∀ r∈readsS w.ops[j],0≤r:=fun r hr=>(reads_in (hop _ (List.getElem_mem hj2)) r hr).1
   refine WIdx.mk ad3 rfl ⟨by omega,by simpa using hj2⟩ ?_
   refine WLds.mk (w.ops[j]).cells (by simpa using hcells) rfl ?_
   generalize w.ops[j]=o at *
   conv=>whnf
   rw [sp7 o]
   refine WCall.mk (with_ok (l3 _ _ hm) (usesAll M (w.ops.take j)) o (small_mono hXs (by omega)) (by rw [hXM];exact hbk) hpos) ?_
   rintro _ m4 ⟨rfl,l4⟩
   refine WRng.mk (by apply wrap_i64<;>omega) ?_
   conv=>whnf
   refine ⟨j+1,⟨rfl,?_,trivial⟩,⟨l3.trans l4,hj2⟩,by omega⟩
   rw [hsucc]
   exact congrArg (fun l=>some (AV.var l)) (spAll2 (usesAll M (w.ops.take j)) (withS (usesAll M (w.ops.take j)) o))
  ·have hj2:j=w.ops.length:=by
    have:¬ (j:Int)<w.ops.length:=of_decide_eq_false hb5
    omega
   subst hj2
   rw [List.take_length]
   refine WCall.mk (fits_ok m3 (usesAll M w.ops)) ?_
   rintro _ m4 ⟨rfl,l4⟩
   refine Br.mk (fun hb6=>?_) (fun hb6=>?_)
   ·refine WRet.same ⟨?_,l3.trans l4⟩
    rw [hcode,if_pos (List.any_eq_true.2 ⟨w,by rw [← hwk];exact List.getElem_mem hk2,hb6⟩)];rfl
   ·refine WRng.mk (by apply wrap_i64<;>omega) ?_
    conv=>whnf
    refine ⟨k+1,⟨rfl,trivial⟩,⟨l3.trans l4,hk2,fun q hq2 h=>?_⟩,by omega⟩
    by_cases e:q=k
    ·subst e;rw [hwk];exact not_f hb6
    ·exact hq q hq2 (by omega)
 ·have hk2:k=C.ws.length:=by
   have:¬ (k:Int)<C.ws.length:=of_decide_eq_false hb2
   omega
  subst hk2
  have hany:C.ws.any (fun w=>!fitsS (usesAll M w.ops))=false:=by
   rw [List.any_eq_false]
   intro w hw h
   obtain ⟨q,hq2,rfl⟩:=List.getElem_of_mem hw
   rw [hq q hq2 hq2] at h;cases h
  exact WRet.same ⟨by rw [hcode,hany];rfl,l2⟩
end Go.Proofs.YtleofbpepfmfgaaGreatDoor
