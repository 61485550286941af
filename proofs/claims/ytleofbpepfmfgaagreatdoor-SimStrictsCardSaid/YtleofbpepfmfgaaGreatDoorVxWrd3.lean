import Derived.Test.YtleofbpepfmfgaaGreatDoorVxWrd
set_option linter.unusedSimpArgs false
set_option linter.unusedVariables false
set_option maxRecDepth 100000
namespace Go.Proofs.YtleofbpepfmfgaaGreatDoor
open Go Go.Vx
open Go.Vx.IOp Go.Vx.IR Go.Vx.Opd
def opS (C:CodeR) (o:OpR):OpR:=if o.kd = 21 then { o with n:=if (decide (o.n < 0) || decide (o.n ≥ C.ws.length)) = true then 1 else 0 } else o
theorem regB_none (rg:Int) (u:Bool) (r:Int):regB rg u r = !(u && noneR rg r):=by
 unfold regB inB noneR
 cases u with
 | false=>rfl
 | true =>
  rw [Bool.eq_iff_iff]
  simp only [Bool.not_true,Bool.false_or,Bool.true_and,Bool.and_eq_true,Bool.not_eq_true',Bool.or_eq_false_iff,decide_eq_true_eq,decide_eq_false_iff_not]
  omega
theorem opE_op {C:CodeR} {o:OpR} (hsp:0 ≤ C.sp) (h:¬ (26 ≤ o.kd ∧ o.kd ≤ 28)):opE C.rg C.sz.length C.sp 1 (opS C o) = opCode C o:=by
 have hkd:(opS C o).kd = o.kd:=by unfold opS;split <;> rfl
 have hds:(opS C o).ds = o.ds:=by unfold opS;split <;> rfl
 have ha:(opS C o).a = o.a:=by unfold opS;split <;> rfl
 have hb:(opS C o).b = o.b:=by unfold opS;split <;> rfl
 have hc:(opS C o).c = o.c:=by unfold opS;split <;> rfl
 have hgd:(opS C o).gd = o.gd:=by unfold opS;split <;> rfl
 unfold opE opCode idleB
 rw [hkd,hds,ha,hb,hc,hgd]
 by_cases hk:1 ≤ o.kd ∧ o.kd ≤ 25
 ·rw [if_neg (fun hh=>hh hk),if_neg (show ¬ (o.kd < 1 ∨ o.kd > 28) by omega)]
  simp only [regB_none]
  -- the number
  have key:topB (topC C.sz.length C.sp 1 o.kd) (opS C o).n = !(uN o.kd && o.kd != 1 && (decide (o.n < 0) || decide (o.n ≥ manyN C o.kd))) ∧
    ((decide (topC C.sz.length C.sp 1 o.kd < 0) && !(o.kd == 1)) && (opS C o).n != 0) = (!uN o.kd && o.n != 0):=by
   by_cases h1:o.kd = 16 ∨ o.kd = 17 ∨ o.kd = 25
   ·have hn:(opS C o).n = o.n:=by unfold opS;rw [if_neg (by omega)]
    have ht:topC C.sz.length C.sp 1 o.kd = C.sz.length:=by unfold topC isArr;rw [if_pos (by simp only [Bool.or_eq_true,beq_iff_eq];omega)]
    have hu:uN o.kd = true:=by rcases h1 with e | e | e <;> rw [e] <;> rfl
    have hu2:(o.kd != 1) = true:=by simp only [bne_iff_ne,ne_eq];omega
    have hm:manyN C o.kd = C.sz.length:=by unfold manyN;rw [if_pos h1]
    rw [hn,ht,hu,hu2,hm]
    unfold topB
    refine ⟨?_,?_⟩
    ·rw [Bool.eq_iff_iff]
     simp only [Bool.or_eq_true,Bool.and_eq_true,Bool.not_eq_true',Bool.true_and,Bool.and_self,Bool.or_eq_false_iff,decide_eq_true_eq,decide_eq_false_iff_not]
     omega
    ·rw [decide_eq_false (by omega)];rfl
   ·by_cases h2:o.kd = 18 ∨ o.kd = 19
    ·have hn:(opS C o).n = o.n:=by unfold opS;rw [if_neg (by omega)]
     have ht:topC C.sz.length C.sp 1 o.kd = C.sp:=by unfold topC isArr isCel;rw [if_neg (by simp only [Bool.or_eq_true,beq_iff_eq];omega),if_pos (by simp only [Bool.or_eq_true,beq_iff_eq];omega)]
     have hu:uN o.kd = true:=by rcases h2 with e | e <;> rw [e] <;> rfl
     have hu2:(o.kd != 1) = true:=by simp only [bne_iff_ne,ne_eq];omega
     have hm:manyN C o.kd = C.sp:=by unfold manyN;rw [if_neg h1,if_pos h2]
     rw [hn,ht,hu,hu2,hm]
     unfold topB
     refine ⟨?_,?_⟩
     ·rw [Bool.eq_iff_iff]
      simp only [Bool.or_eq_true,Bool.and_eq_true,Bool.not_eq_true',Bool.true_and,Bool.and_self,Bool.or_eq_false_iff,decide_eq_true_eq,decide_eq_false_iff_not]
      omega
     ·rw [decide_eq_false (by omega)];rfl
    ·by_cases h3:o.kd = 21
     ·have hn:(opS C o).n = if (decide (o.n < 0) || decide (o.n ≥ C.ws.length)) = true then 1 else 0:=by unfold opS;rw [if_pos h3]
      have ht:topC C.sz.length C.sp 1 o.kd = 1:=by unfold topC isArr isCel;rw [if_neg (by simp only [Bool.or_eq_true,beq_iff_eq];omega),if_neg (by simp only [Bool.or_eq_true,beq_iff_eq];omega),if_pos h3]
      have hu:uN o.kd = true:=by rw [h3];rfl
      have hu2:(o.kd != 1) = true:=by rw [h3];rfl
      have hm:manyN C o.kd = C.ws.length:=by unfold manyN;rw [if_neg h1,if_neg h2,if_pos (.inl h3)]
      rw [hn,ht,hu,hu2,hm]
      refine ⟨?_,rfl⟩
      cases hq:(decide (o.n < 0) || decide (o.n ≥ C.ws.length)) <;> rfl
     ·have hn:(opS C o).n = o.n:=by unfold opS;rw [if_neg h3]
      have ht:topC C.sz.length C.sp 1 o.kd = -1:=by unfold topC isArr isCel;rw [if_neg (by simp only [Bool.or_eq_true,beq_iff_eq];omega),if_neg (by simp only [Bool.or_eq_true,beq_iff_eq];omega),if_neg h3]
      have hu:uN o.kd = (o.kd == 1):=by
       unfold uN
       rw [Bool.eq_iff_iff]
       simp only [Bool.or_eq_true,beq_iff_eq]
       omega
      rw [hn,ht,hu]
      have hu2:(o.kd != 1) = !(o.kd == 1):=rfl
      rw [hu2]
      refine ⟨?_,rfl⟩
      cases (o.kd == 1) <;> rfl
  obtain ⟨k1,k2⟩:=key
  rw [k1,k2]
  generalize (uD o.kd && noneR C.rg o.ds) = x1
  generalize (uA o.kd && noneR C.rg o.a) = x2
  generalize (uB o.kd && noneR C.rg o.b) = x3
  generalize (uC o.kd && noneR C.rg o.c) = x4
  generalize (o.gd != -1 && noneR C.rg o.gd) = x5
  generalize (uN o.kd && o.kd != 1 && (decide (o.n < 0) || decide (o.n ≥ manyN C o.kd))) = x6
  generalize (!uN o.kd && o.n != 0) = x7
  cases x1 <;> cases x2 <;> cases x3 <;> cases x4 <;> cases x5 <;> cases x6 <;> rfl
 ·rw [if_pos hk,if_pos (show o.kd < 1 ∨ o.kd > 28 by omega)]
theorem op_ok {m:Mem} {T:Nat} {fr:Nat × Nat} (hm:m 0 = some (.cells ⟨cells0⟩ T fr)) (V:CV) {C:CodeR} (hV:CodeAt m V C) (hC:headCode C = 0) (o:OpR) :
  CallsM Tryz.prog 95 [V.val C,o.val] m fun e m'=>e = .returned (i (opCode C o)) ∧ Mem.le m m':=by
 have hsp:0 ≤ C.sp:=by
  unfold headCode at hC
  split at hC
  ·exact absurd hC (by decide)
  ·split at hC
   ·exact absurd hC (by decide)
   ·split at hC
    ·exact absurd hC (by decide)
    ·omega
 refine calls_of mixed Tryz.func95 ok_words_op rfl ?_
 conv=>whnf
 refine WCall.pure (isOwn_ok _ _) ?_
 conv=>whnf
 refine Br.mk (fun hk=>?_) (fun hk=>?_)
 ·have hk:26 ≤ o.kd ∧ o.kd ≤ 28:=by
   simp only [Bool.and_eq_true,decide_eq_true_eq] at hk;omega
  conv=>whnf
  refine WCall.mk (own_ok V hV o) ?_
  rintro _ m1 ⟨rfl,l1⟩
  conv=>whnf
  exact WRet.same ⟨by rw [ownE_op hk];rfl,l1⟩
 have hk:¬ (26 ≤ o.kd ∧ o.kd ≤ 28):=fun hh=>by
  rw [decide_eq_true (show o.kd ≥ 26 by omega),decide_eq_true hh.2] at hk;cases hk
 have hcode:unitE C [opS C o] = opCode C o:=by
  unfold unitE
  rw [if_neg (by rw [hC];decide)]
  show firstE [opE C.rg C.sz.length C.sp 1 (opS C o)] = _
  rw [opE_op hsp hk]
  unfold firstE firstE
  split
  ·rename_i h;exact h.symm
  ·rfl
 conv=>whnf
 refine WCall.mk (head_ok m V C) ?_
 rintro _ m1 ⟨b,rfl,hb,hc1,l1⟩
 -- OP (printed by wrdop.py)
 conv=>whnf
 refine Br.mk (fun h21=>?_) (fun h21=>?_)
 ·have h21:o.kd = 21:=by simpa using h21
  conv=>whnf
  refine WSc.mk (v:=decide (o.n ≥ C.ws.length)) (fun _=>?_) ?_
  ·conv=>whnf
   rw [hV.n2]
   exact And.intro (Mem.le.refl _) rfl
  conv=>whnf
  refine Br.mk (fun hq=>?_) (fun hq=>?_)
  ·have hq:(decide (o.n < 0) || decide (o.n ≥ C.ws.length)) = true:=hq
   have ho:opS C o = ⟨o.kd,o.ds,o.a,o.b,o.c,1,o.gd⟩:=by unfold opS;rw [if_pos h21,if_pos hq]
   conv=>whnf
   refine WNew.mk fun bs hbs=>?_
   have l2:Mem.le m1 (m1.set bs (Cells (opS C o).cells 110)):=Mem.le_set hbs
   have c2:m1.set bs (Cells (opS C o).cells 110) bs = some (Cells (opS C o).cells 110):=Mem.set_same _ _ _
   rw [ho] at l2 c2
   conv=>whnf
   refine WIdx.mk ⟨b,0,none⟩ rfl ⟨by omega,by omega⟩ ?_
   conv=>whnf
   refine WSt.mk _ _ (l2 _ _ hc1) rfl (by rw [add0,addo];simp [cellsL]) ?_
   have hne:b ≠ bs:=fun e=>by subst e;rw [hc1] at hbs;cases hbs
   have l3:=le_setn (o:=Cells [.slice (some ⟨bs,0,none⟩) 1 1,i 1,i 0,i 0,i 0,i (-1)] 192) (l1.trans l2) hb
   conv=>whnf
   refine WCall.pure (codeCheck_ok (l3 _ _ hm) C (O:=[opS C o]) ((IAt.mono l3) hV.sz) hV.szl (ad2:=⟨b,0,none⟩) (CellsAt.blk (Mem.set_same _ _ _) fun j v hj=>by rw [Nat.zero_add];exact hj)
    ⟨some ⟨bs,0,none⟩,1,rfl,(fun h=>by cases h),fun ad ha=>by cases ha;rw [ho];exact CellsAt.blk (by rw [Mem.set_other _ _ (fun e=>hne e.symm)];exact c2) fun j v hj=>by rw [Nat.zero_add];exact hj,Nat.le_refl _⟩ (by simp)) ?_
   rw [hcode]
   conv=>whnf
   exact WRet.same ⟨rfl,l3⟩

  ·have hq:(decide (o.n < 0) || decide (o.n ≥ C.ws.length)) = false:=hq
   have ho:opS C o = ⟨o.kd,o.ds,o.a,o.b,o.c,0,o.gd⟩:=by unfold opS;rw [if_pos h21,if_neg (by rw [hq];decide)]
   conv=>whnf
   refine WNew.mk fun bs hbs=>?_
   have l2:Mem.le m1 (m1.set bs (Cells (opS C o).cells 110)):=Mem.le_set hbs
   have c2:m1.set bs (Cells (opS C o).cells 110) bs = some (Cells (opS C o).cells 110):=Mem.set_same _ _ _
   rw [ho] at l2 c2
   conv=>whnf
   refine WIdx.mk ⟨b,0,none⟩ rfl ⟨by omega,by omega⟩ ?_
   conv=>whnf
   refine WSt.mk _ _ (l2 _ _ hc1) rfl (by rw [add0,addo];simp [cellsL]) ?_
   have hne:b ≠ bs:=fun e=>by subst e;rw [hc1] at hbs;cases hbs
   have l3:=le_setn (o:=Cells [.slice (some ⟨bs,0,none⟩) 1 1,i 1,i 0,i 0,i 0,i (-1)] 192) (l1.trans l2) hb
   conv=>whnf
   refine WCall.pure (codeCheck_ok (l3 _ _ hm) C (O:=[opS C o]) ((IAt.mono l3) hV.sz) hV.szl (ad2:=⟨b,0,none⟩) (CellsAt.blk (Mem.set_same _ _ _) fun j v hj=>by rw [Nat.zero_add];exact hj)
    ⟨some ⟨bs,0,none⟩,1,rfl,(fun h=>by cases h),fun ad ha=>by cases ha;rw [ho];exact CellsAt.blk (by rw [Mem.set_other _ _ (fun e=>hne e.symm)];exact c2) fun j v hj=>by rw [Nat.zero_add];exact hj,Nat.le_refl _⟩ (by simp)) ?_
   rw [hcode]
   conv=>whnf
   exact WRet.same ⟨rfl,l3⟩

 have h21:o.kd ≠ 21:=by simpa using h21
 have ho:opS C o = o:=by unfold opS;rw [if_neg h21]
 conv=>whnf
 refine WNew.mk fun bs hbs=>?_
 have l2:Mem.le m1 (m1.set bs (Cells (opS C o).cells 110)):=Mem.le_set hbs
 have c2:m1.set bs (Cells (opS C o).cells 110) bs = some (Cells (opS C o).cells 110):=Mem.set_same _ _ _
 rw [ho] at l2 c2
 conv=>whnf
 refine WIdx.mk ⟨b,0,none⟩ rfl ⟨by omega,by omega⟩ ?_
 conv=>whnf
 refine WSt.mk _ _ (l2 _ _ hc1) rfl (by rw [add0,addo];simp [cellsL]) ?_
 have hne:b ≠ bs:=fun e=>by subst e;rw [hc1] at hbs;cases hbs
 have l3:=le_setn (o:=Cells [.slice (some ⟨bs,0,none⟩) 1 1,i 1,i 0,i 0,i 0,i (-1)] 192) (l1.trans l2) hb
 conv=>whnf
 refine WCall.pure (codeCheck_ok (l3 _ _ hm) C (O:=[opS C o]) ((IAt.mono l3) hV.sz) hV.szl (ad2:=⟨b,0,none⟩) (CellsAt.blk (Mem.set_same _ _ _) fun j v hj=>by rw [Nat.zero_add];exact hj)
  ⟨some ⟨bs,0,none⟩,1,rfl,(fun h=>by cases h),fun ad ha=>by cases ha;rw [ho];exact CellsAt.blk (by rw [Mem.set_other _ _ (fun e=>hne e.symm)];exact c2) fun j v hj=>by rw [Nat.zero_add];exact hj,Nat.le_refl _⟩ (by simp)) ?_
 rw [hcode]
 conv=>whnf
 exact WRet.same ⟨rfl,l3⟩
 -- END OP
end Go.Proofs.YtleofbpepfmfgaaGreatDoor
set_option linter.unusedSimpArgs false
set_option linter.unusedVariables false
set_option maxRecDepth 100000
namespace Go.Proofs.YtleofbpepfmfgaaGreatDoor
open Go Go.Vx
open Go.Vx.IOp Go.Vx.IR Go.Vx.Opd
theorem idx_op {m:Mem} {v:Value} {O:List OpR} (hv:OAt m v O) (hlen:O.length < 2 ^ 63) {g:Nat} {first caps:List Value} (p:OpR → Bool)
  (hp:∀ x ∈ O,PureM Tryz.prog g (first ++ [x.val] ++ caps) m (.bool (p x))) :
  PureM Tryz.prog 126 [v,.func (.func g) ⟨first⟩ ⟨caps⟩] m (i (idxFrom p O)):=by
 obtain ⟨a,c,rfl,h0,h1,hcap⟩:=hv
 refine calls_of mixed Tryz.func126 ok_slices_IndexFunc_api_Op_api_Op rfl ?_
 conv=>whnf
 refine WLoop.mk Nat (fun k=>[(8,.val (i k))]) (fun k m'=>m = m' ∧ k ≤ O.length ∧ ∀ j (hj:j < O.length),j < k → p O[j] = false) (fun k=>O.length - k) 0 ⟨rfl,trivial⟩ ⟨rfl,Nat.zero_le _,fun j hj h=>by omega⟩ ?_
 rintro k m' ⟨rfl,hk,hq⟩
 conv=>whnf
 refine Br.mk (fun hb=>?_) (fun hb=>?_)
 ·have hk2:k < O.length:=by simpa using hb
  obtain ⟨ad,rfl⟩:∃ ad,a = some ad:=by
   cases a with
   | none=>rw [h0 rfl] at hk2;simp at hk2
   | some ad=>exact ⟨ad,rfl⟩
  have hcells:=OAt.cells (h1 ad rfl) hk2
  conv=>whnf
  refine WIdx.mk ad rfl ⟨by omega,by simpa using hk2⟩ ?_
  conv=>whnf
  refine WLds.mk (O[k]).cells (by simpa using hcells) rfl ?_
  conv=>whnf
  refine WCall.pure (hp _ (List.getElem_mem hk2)) ?_
  conv=>whnf
  refine Br.mk (fun hb=>?_) (fun hb=>?_)
  ·conv=>whnf
   refine WRet.same ⟨?_,rfl⟩
   unfold idxFrom
   rw [findIdx_at hk2 (fun j hj=>hq j (by omega) hj) hb]
   rfl
  ·conv=>whnf
   refine WRng.mk (by apply wrap_i64 <;> omega) ?_
   conv=>whnf
   refine ⟨k + 1,⟨rfl,trivial⟩,⟨rfl,hk2,fun j hj h=>?_⟩,by omega⟩
   by_cases e:j = k
   ·subst e;exact hb
   ·exact hq j hj (by omega)
 ·have hk2:¬ k < O.length:=by simpa using hb
  conv=>whnf
  refine WRet.same ⟨?_,rfl⟩
  unfold idxFrom
  rw [findIdx_none fun j hj=>hq j hj (by omega)]
  rfl
theorem contains_op {m:Mem} {v:Value} {O:List OpR} (hv:OAt m v O) (hlen:O.length < 2 ^ 63) {g:Nat} {first caps:List Value} (p:OpR → Bool)
  (hp:∀ x ∈ O,PureM Tryz.prog g (first ++ [x.val] ++ caps) m (.bool (p x))) :
  PureM Tryz.prog 96 [v,.func (.func g) ⟨first⟩ ⟨caps⟩] m (.bool (O.any p)):=by
 refine calls_of mixed Tryz.func96 ok_slices_ContainsFunc_api_Op_api_Op rfl ?_
 conv=>whnf
 refine WCall.pure (idx_op hv hlen p hp) ?_
 conv=>whnf
 refine WRet.same ⟨?_,rfl⟩
 rw [show resVal [Value.bool (decide (idxFrom p O ≥ 0))] = .bool (decide (idxFrom p O ≥ 0)) from rfl,idxFrom_any]
def opsBefore (ws:List WordR) (k:Nat):Nat:=((ws.take k).map fun w=>w.ops.length).foldl (· + ·) 0
theorem opsBefore_succ {ws:List WordR} {k:Nat} (hk:k < ws.length):opsBefore ws (k + 1) = opsBefore ws k + (ws[k]).ops.length:=by
 unfold opsBefore
 rw [List.take_succ_eq_append_getElem hk,List.map_append,List.foldl_append];rfl
theorem opsBefore_le {ws:List WordR} {k:Nat} (hk:k ≤ ws.length) (h:∀ j (hj:j < ws.length),j < k → (ws[j]).ops.length ≤ 400):opsBefore ws k ≤ 400 * k:=by
 induction k with
 | zero=>simp [opsBefore]
 | succ k ih =>
  rw [opsBefore_succ (by omega)]
  have:=ih (by omega) (fun j hj hjk=>h j hj (by omega))
  have:=h k (by omega) (by omega)
  omega
theorem opsBefore_all (ws:List WordR):opsBefore ws ws.length = manyOps ws:=by unfold opsBefore manyOps;rw [List.take_length]
theorem wCheck_ok {m:Mem} {T:Nat} {fr:Nat × Nat} (hm:m 0 = some (.cells ⟨cells0⟩ T fr)) (V:CV) {C:CodeR} (hV:CodeAt m V C) :
  CallsM Tryz.prog 63 [V.val C] m fun e m'=>e = .returned (i (checkCode C)) ∧ Mem.le m m':=by
 refine calls_of mixed Tryz.func63 ok_words_Check rfl ?_
 conv=>whnf
 refine WCall.mk (head_ok m V C) ?_
 rintro _ m1 ⟨b,rfl,hb,hc1,l1⟩
 conv=>whnf
 refine WCall.pure (codeCheck_ok (l1 _ _ hm) C (O:=[]) ((IAt.mono l1) hV.sz) hV.szl (ad2:=⟨b,0,none⟩) (CellsAt.blk hc1 fun j v hj=>by rw [Nat.zero_add];exact hj) (a3:=none) (n3:=0) (c3:=0)
  ⟨none,0,rfl,fun _=>rfl,(fun ad h=>by cases h),Nat.le_refl _⟩ (by simp)) ?_
 have he:unitE C [] = headCode C:=by
  unfold unitE
  split
  ·rfl
  ·rename_i h;exact (Decidable.not_not.1 h).symm
 rw [he]
 conv=>whnf
 refine Br.mk (fun h0=>?_) (fun h0=>?_)
 ·have h0:headCode C ≠ 0:=by simpa using h0
  conv=>whnf
  exact WRet.same ⟨by unfold checkCode;rw [if_pos h0];rfl,l1⟩
 have h0:headCode C = 0:=by simpa using h0
 conv=>whnf
 refine WSc.mk (fun _=>And.intro (Mem.le.refl _) rfl) ?_
 have hn2:=hV.n2
 conv=>whnf
 refine Br.mk (fun hb1=>?_) (fun hb1=>?_)
 ·conv=>whnf
  refine WRet.same ⟨?_,l1⟩
  have:C.ws.length = 0 ∨ C.ws.length > 60000:=by
   simp only [scB,Bool.or_eq_true,beq_iff_eq,decide_eq_true_eq] at hb1
   omega
  unfold checkCode;rw [if_neg (by rw [h0];decide),if_pos this];rfl
 have hlen:¬ (C.ws.length = 0 ∨ C.ws.length > 60000):=by
  simp only [scB,Bool.or_eq_false_iff,beq_eq_false_iff_ne,decide_eq_false_iff_not] at hb1
  omega
 have hcode:checkCode C = if firstE (C.ws.map (wordCode C)) ≠ 0 then firstE (C.ws.map (wordCode C)) else if lastLeaves C.ws = false then 4 else if manyOps C.ws > 80000 then 3 else 0:=by
  unfold checkCode;rw [if_neg (by rw [h0];decide),if_neg hlen]
 have stop:∀ {k:Nat} (hk:k < C.ws.length),(∀ j (hj:j < C.ws.length),j < k → wordCode C C.ws[j] = 0) → ∀ (e:Int),wordCode C C.ws[k] = e → e ≠ 0 → checkCode C = e:=fun {k} hk hq e h1 h2=>by
  have hf:firstE (C.ws.map (wordCode C)) = e:=by
   rw [firstE_at (L:=C.ws.map (wordCode C)) (k:=k) (by simpa using hk) (fun j hj hjk=>by simpa using hq j (by simpa using hj) hjk) (by simpa using fun h=>h2 (h1.symm.trans h))]
   simpa using h1
  rw [hcode,hf,if_pos h2]
 obtain ⟨a2,c2,e2,hw0,hw1,hw2⟩:=hV.ws
 have ea:V.a2 = a2:=by injection e2
 have ec:V.c2 = c2:=by injection e2
 subst ea;subst ec
 conv=>whnf
 refine WLoop.mk Nat (fun k=>[(4,.val (i (opsBefore C.ws k))),(29,.val (i k))]) (fun k m'=>Mem.le m m' ∧ k ≤ C.ws.length ∧ ∀ j (hj:j < C.ws.length),j < k → wordCode C C.ws[j] = 0) (fun k=>C.ws.length - k) 0
  ⟨rfl,rfl,trivial⟩ ⟨l1,Nat.zero_le _,fun j hj h=>by omega⟩ ?_
 rintro k m2 ⟨l2,hk,hq⟩
 rw [hn2]
 have h400:∀ j (hj:j < C.ws.length),j < k → (C.ws[j]).ops.length ≤ 400:=fun j hj hjk=>by
  have:=hq j hj hjk
  unfold wordCode at this
  split at this
  ·exact absurd this (by decide)
  ·split at this
   ·exact absurd this (by decide)
   ·omega
 have hle400:=opsBefore_le hk h400
 conv=>whnf
 refine Br.mk (fun hb2=>?_) (fun hb2=>?_)
 ·have hk2:k < C.ws.length:=by
   have:(k:Int) < C.ws.length:=of_decide_eq_true hb2
   omega
  obtain ⟨ad,had⟩:∃ ad,V.a2 = some ad:=by
   cases hh:V.a2 with
   | none=>rw [hw0 hh] at hk2;simp at hk2
   | some ad=>exact ⟨ad,rfl⟩
  obtain ⟨a3,n3,c3,g1,g2⟩:=hw1 ad had k hk2
  have hn3:n3 = (C.ws[k]).ops.length:=by obtain ⟨_,_,e,_⟩:=g2;injection e
  have hst:=stop hk2 hq
  conv=>whnf
  refine WIdx.mk ad had ⟨by omega,by simpa using hk2⟩ ?_
  conv=>whnf
  refine WLds.mk [.slice a3 n3 c3,i (C.ws[k]).ct] (by simpa using g1.mono l2) rfl ?_
  generalize hwk:C.ws[k] = w at *
  conv=>whnf
  refine WSc.mk (v:=!inB w.ct C.ws.length) (fun _=>?_) ?_
  ·conv=>whnf
   refine WCall.pure (within2_ok _ _ _) ?_
   rw [hn2]
   exact And.intro (Mem.le.refl _) rfl
  conv=>whnf
  refine Br.mk (fun hb3=>?_) (fun hb3=>?_)
  ·have hw:wordCode C w = 2:=by
    unfold wordCode
    rw [if_pos]
    simp only [scB,inB,Bool.and_eq_true,bne_iff_ne,ne_eq,Bool.not_eq_true',Bool.and_eq_false_iff,decide_eq_false_iff_not] at hb3
    omega
   conv=>whnf
   exact WRet.same ⟨by rw [hst _ hw (by decide)];rfl,l2⟩
  have hct:¬ (w.ct < -1 ∨ w.ct ≥ C.ws.length):=by
   have hb3:((w.ct != -1) && !inB w.ct C.ws.length) = false:=hb3
   simp only [inB,Bool.and_eq_false_iff,bne_eq_false_iff_eq,Bool.not_eq_false',Bool.and_eq_true,decide_eq_true_eq] at hb3
   omega
  conv=>whnf
  refine Br.mk (fun hb4=>?_) (fun hb4=>?_)
  ·have hw:wordCode C w = 3:=by
    unfold wordCode
    have:(n3:Int) > 400:=of_decide_eq_true hb4
    rw [if_neg hct,if_pos (by omega)]
   conv=>whnf
   exact WRet.same ⟨by rw [hst _ hw (by decide)];rfl,l2⟩
  have ho4:w.ops.length ≤ 400:=by
   have:¬ (n3:Int) > 400:=of_decide_eq_false hb4
   omega
  have hwc:wordCode C w = firstE (w.ops.map (opCode C)):=by unfold wordCode;rw [if_neg hct,if_neg (by omega)]
  subst hn3
  conv=>whnf
  refine WLoop.mk Nat (fun j=>[(52,.val (i j))]) (fun j m'=>Mem.le m m' ∧ j ≤ w.ops.length ∧ ∀ q (hq:q < w.ops.length),q < j → opCode C w.ops[q] = 0) (fun j=>w.ops.length - j) 0
   ⟨rfl,trivial⟩ ⟨l2,Nat.zero_le _,fun q hq h=>by omega⟩ ?_
  rintro j m3 ⟨l3,hj,hq3⟩
  conv=>whnf
  refine Br.mk (fun hb5=>?_) (fun hb5=>?_)
  ·have hj2:j < w.ops.length:=by
    have:(j:Int) < w.ops.length:=of_decide_eq_true hb5
    omega
   obtain ⟨a3',c3',e3,hx0,hx1,_⟩:=g2
   have e3a:a3 = a3':=by injection e3
   subst e3a
   obtain ⟨ad3,rfl⟩:∃ ad,a3 = some ad:=by
    cases a3 with
    | none=>rw [hx0 rfl] at hj2;simp at hj2
    | some ad=>exact ⟨ad,rfl⟩
   have hcells:=(OAt.cells (hx1 ad3 rfl) hj2).mono l3
   conv=>whnf
   refine WIdx.mk ad3 rfl ⟨by omega,by simpa using hj2⟩ ?_
   conv=>whnf
   refine WLds.mk (w.ops[j]).cells (by simpa using hcells) rfl ?_
   conv=>whnf
   refine WCall.mk (op_ok (l3 _ _ hm) V (hV.mono l3) h0 w.ops[j]) ?_
   rintro _ m4 ⟨rfl,l4⟩
   conv=>whnf
   refine Br.mk (fun hb6=>?_) (fun hb6=>?_)
   ·have hne:opCode C w.ops[j] ≠ 0:=by simpa using hb6
    have hw:wordCode C w = opCode C w.ops[j]:=by
     rw [hwc,firstE_at (L:=w.ops.map (opCode C)) (k:=j) (by simpa using hj2) (fun q hq hqj=>by simpa using hq3 q (by simpa using hq) hqj) (by simpa using hne)]
     simp
    conv=>whnf
    exact WRet.same ⟨by rw [hst _ hw hne];rfl,l3.trans l4⟩
   ·have hz:opCode C w.ops[j] = 0:=by simpa using hb6
    conv=>whnf
    refine WRng.mk (by apply wrap_i64 <;> omega) ?_
    conv=>whnf
    refine ⟨j + 1,⟨rfl,trivial⟩,⟨l3.trans l4,hj2,fun q hq h=>?_⟩,by omega⟩
    by_cases e:q = j
    ·subst e;exact hz
    ·exact hq3 q hq (by omega)
  ·have hj2:j = w.ops.length:=by
    have:¬ (j:Int) < w.ops.length:=of_decide_eq_false hb5
    omega
   subst hj2
   have hz:wordCode C w = 0:=by
    rw [hwc]
    refine firstE_zero.2 fun x hx=>?_
    obtain ⟨o,ho,rfl⟩:=List.mem_map.1 hx
    obtain ⟨q,hq,rfl⟩:=List.getElem_of_mem ho
    exact hq3 q hq hq
   have hsum:opsBefore C.ws (k + 1) = opsBefore C.ws k + w.ops.length:=by rw [opsBefore_succ hk2,hwk]
   conv=>whnf
   refine WRng.mk (by apply wrap_i64 <;> omega) ?_
   conv=>whnf
   refine WRng.mk (by apply wrap_i64 <;> omega) ?_
   conv=>whnf
   refine ⟨k + 1,⟨?_,rfl,trivial⟩,⟨l3,hk2,fun q hq2 h=>?_⟩,by omega⟩
   ·rw [hsum];rfl
   ·by_cases e:q = k
    ·subst e;rw [hwk];exact hz
    ·exact hq q hq2 (by omega)
 ·have hk2:k = C.ws.length:=by
   have:¬ (k:Int) < C.ws.length:=of_decide_eq_false hb2
   omega
  subst hk2
  have hall:firstE (C.ws.map (wordCode C)) = 0:=firstE_zero.2 fun x hx=>by
   obtain ⟨w,hw,rfl⟩:=List.mem_map.1 hx
   obtain ⟨q,hq2,rfl⟩:=List.getElem_of_mem hw
   exact hq q hq2 hq2
  have hcode2:checkCode C = if lastLeaves C.ws = false then 4 else if manyOps C.ws > 80000 then 3 else 0:=by rw [hcode,hall];rfl
  have hpos:0 < C.ws.length:=by omega
  obtain ⟨ad,had⟩:∃ ad,V.a2 = some ad:=by
   cases hh:V.a2 with
   | none=>rw [hw0 hh] at hpos;simp at hpos
   | some ad=>exact ⟨ad,rfl⟩
  obtain ⟨a3,n3,c3,g1,g2⟩:=hw1 ad had (C.ws.length - 1) (by omega)
  have hlast:lastLeaves C.ws = (C.ws[C.ws.length - 1]).ops.any leavesS:=by
   unfold lastLeaves
   rw [List.getLast?_eq_getElem?,List.getElem?_eq_getElem (by omega)]
  have ho4:=h400 (C.ws.length - 1) (by omega) (by omega)
  conv=>whnf
  refine WRng.mk (by rw [hn2];apply wrap_i64 <;> omega) ?_
  conv=>whnf
  refine WIdx.mk ad had ⟨by omega,by omega⟩ ?_
  conv=>whnf
  refine WLd.mk (.slice a3 n3 c3) ?_ ?_
  ·have:=(g1.mono l2) 0 _ rfl
   rw [show ((V.n2:Int) - 1).toNat = C.ws.length - 1 by rw [hn2];omega]
   simpa using this
  conv=>whnf
  refine WCall.pure (contains_op (first:=[]) (caps:=[]) (g2.mono' l2) (by omega) leavesS (fun x _=>wLeaves_ok _ x)) ?_
  rw [← hlast]
  conv=>whnf
  refine Br.mk (fun hb3=>?_) (fun hb3=>?_)
  ·conv=>whnf
   exact WRet.same ⟨by rw [hcode2,if_pos (not_t hb3)];rfl,l2⟩
  have hb3:lastLeaves C.ws = true:=not_f hb3
  conv=>whnf
  rw [opsBefore_all]
  refine Br.mk (fun hb4=>?_) (fun hb4=>?_)
  ·have:(manyOps C.ws:Int) > 80000:=of_decide_eq_true hb4
   conv=>whnf
   exact WRet.same ⟨by rw [hcode2,if_neg (by rw [hb3];decide),if_pos (by omega)];rfl,l2⟩
  ·have:¬ (manyOps C.ws:Int) > 80000:=of_decide_eq_false hb4
   conv=>whnf
   exact WRet.same ⟨by rw [hcode2,if_neg (by rw [hb3];decide),if_neg (by omega)];rfl,l2⟩
end Go.Proofs.YtleofbpepfmfgaaGreatDoor
