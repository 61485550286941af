import Derived.Test.YtleofbpepfmfgaaGreatDoorVxSimPt
set_option linter.unusedSimpArgs false
set_option linter.unusedVariables false
set_option maxRecDepth 100000
namespace Go.Proofs.YtleofbpepfmfgaaGreatDoor
open Go Go.Vx
open Go.Vx.IOp Go.Vx.IR Go.Vx.Opd
def q4m:Nat→IR:=fun k=>match k,z3o.body with
 | 0,.seq a _=>a
 | 1,.seq _ (.seq a _)=>a
 | 2,.seq _ (.seq _ (.seq a _))=>a
 | 3,.seq _ (.seq _ (.seq _ (.seq a _)))=>a
 | 4,.seq _ (.seq _ (.seq _ (.seq _ (.seq a _))))=>a
 | 5,.seq _ (.seq _ (.seq _ (.seq _ (.seq _ (.seq a _)))))=>a
 | 6,.seq _ (.seq _ (.seq _ (.seq _ (.seq _ (.seq _ (.seq a _))))))=>a
 | _,.seq _ (.seq _ (.seq _ (.seq _ (.seq _ (.seq _ (.seq _ (.seq _ r)))))))=>r
 | _,r=>r
theorem j7q:z3o.body=.seq (q4m 0) (.seq (q4m 1) (.seq (q4m 2) (.seq (q4m 3) (.seq (q4m 4) (.seq (q4m 5) (.seq (q4m 6) (.seq q8q (q4m 7)))))))):=rfl
section
variable {mb mr m:Mem} {V V1:CV} {C:q0c} {M:Mac} {sv sw:Value} {ps pw:Nat} {H Hw:HdF} {s:St} {sh:List Int} {x0 x1 x2 x3:Int} {rs:List Res} {RR:Ending→Mem→Prop} {R:IR}
theorem j8i (hB1:q1m mb V C M sv sh) (hB2:q1m mr V1 C M sw sh) (B:Both mb mr m V V1 C M sv sw ps pw H Hw s s) {k kmax j:Nat} (hG:Good C s k) (hk:k+24060≤kmax) (hkm:kmax≤400000)
  {aa:Option Addr} {ca:Nat} {L:List (Int×Int)} (hA:q6o m (.slice aa L.length ca) L) (hj:j<L.length) :
  wpI Tryz.prog plB (q6b (fun x:RSt=>[(15,.val (ptr x.1)),(19,.val (i j))]) (PInv mb mr V V1 C M sv sw pw kmax)) (envL (pl5 (.slice aa L.length ca) x0 x1 x2 x3 pw j ps)) m:=by
 rw [j3w]
 refine cutN (w3g hA hj) ⟨rfl,rfl,rfl,rfl,rfl,trivial⟩ ?_
 rintro _ m1 e1 hc1 rfl
 refine cutN k3c hc1 ?_
 rintro _ m2 e2 hc2 rfl
 refine cutN (w1h hB1 hB2 B hG hk hkm (j6i _) hA hj) hc2 ?_
 rintro x m3 e3 hc3 hi
 refine z7m (j5k hB1 hi.1) hc3 ?_
 rintro _ m4 e4 hc4 rfl
 exact ⟨rfl,x,hc4,hi⟩
theorem j5j (hB1:q1m mb V C M sv sh) (hB2:q1m mr V1 C M sw sh) (B:Both mb mr m V V1 C M sv sw ps pw H Hw s s) (hG:Good C s 0)
  {aa:Option Addr} {ca:Nat} {L:List (Int×Int)} (hA:q6o mb (.slice aa L.length ca) L)
  (K:∀ m',Mem.le mb m'→wpI Tryz.prog R (q0i rs RR) (envL []) m') :
  wpI Tryz.prog (.seq q8q R) (q0i rs RR) (envL [(4,.val (.slice aa L.length ca)),(11,.var [i x0,i x1,i x2,i x3]),(15,.val (ptr ps)),(18,.val (ptr pw))]) m:=by
 rw [j4f]
 conv=>whnf
 refine q0v.mk (Nat×RSt) (fun x=>[(15,.val (ptr x.2.1)),(19,.val (i x.1))]) (fun x m'=>x.1≤12∧x.1≤L.length∧PInv mb mr V V1 C M sv sw pw (24060 * x.1) x.2 m') (fun x=>L.length - x.1) (0,ps,H,Hw,s,0) ⟨rfl,rfl,trivial⟩ ⟨Nat.zero_le _,Nat.zero_le _,B,hG,Nat.zero_le _⟩ ?_
 rintro ⟨j,p1,H1,Hw1,s1,k1⟩ m1 ⟨hj1,hj2,B1,hG1,hk1⟩
 simp only at hj1 hj2 B1 hG1 hk1
 refine WSc.mk (v:=decide ((j:Int)<12)) (fun _=>And.intro (Mem.le.refl _) rfl) ?_
 refine Br.mk (fun hb=>?_) (fun hb=>?_)
 ·have hb:(decide ((j:Int)<(L.length:Nat))&&decide ((j:Int)<12))=true:=hb
  rw [Bool.and_eq_true,decide_eq_true_eq,decide_eq_true_eq] at hb
  have hj3:j<L.length:=by omega
  refine q5l ?_
  show wpI Tryz.prog (.seq (.block 1 plB) z6j) _ _ _
  refine j2a (j8i (x0:=x0) (x1:=x1) (x2:=x2) (x3:=x3) (kmax:=24060 * (j+1)) hB1 hB2 B1 hG1 (by omega) (by omega) (hA.mono B1.one.le) hj3) ⟨rfl,rfl,rfl,rfl,rfl,trivial⟩ ?_
  rintro x m2 e2 hc2 hi
  refine z7m (j9s (by omega)) hc2 ?_
  rintro _ m3 e3 hc3 rfl
  exact ⟨(j+1,x),hc3,⟨by show j+1≤12;omega,hj3,hi⟩,Nat.sub_lt_sub_left hj3 (Nat.lt_succ_self j)⟩
 ·conv=>whnf
  exact q0x (K m1 B1.one.le) trivial
theorem j0q (hrs:rs=[.t 12]) (hV:q1q m V C) {av bv cv:Value}
  (hal:okC C=false→∀ m1,Mem.le m m1→q0f Tryz.prog 14 [] m1 fun e m''=>e=.returned (.bool true)∧RR (.returned (.bool true)) m'')
  (K:okC C=true→∀ m1 V1,Mem.le m m1→q1q m1 V1 (q3a C)→wpI Tryz.prog R (q0i rs RR) (envL [(2,.val av),(3,.val bv),(4,.val cv),(6,.var (V.cells C)),(7,.var M.cells),(11,.var [i x0,i x1,i x2,i x3]),(13,.var (V1.cells (q3a C)))]) m1) :
  wpI Tryz.prog (.seq (q4m 0) (.seq (q4m 1) (.seq (q4m 2) R))) (q0i rs RR) (q5p [V.val C,M.val,av,bv,cv,.agg ⟨[i x0,i x1,i x2,i x3]⟩]) m:=by
 conv=>whnf
 refine q0a.mk (w3z V hV) ?_
 rintro _ m1 ⟨V1,rfl,l1,hV1⟩
 refine Br.mk (fun hk=>?_) (fun hk=>?_)
 ·have hk:okC C=false:=by simpa using hk
  conv=>whnf
  refine q0a.mk (hal hk m1 l1) ?_
  rintro _ m2 ⟨rfl,h⟩
  subst hrs
  exact WRet.same h
 ·have hk:okC C=true:=by simpa using hk
  conv=>whnf
  exact q0x (K hk m1 V1 l1 hV1) ⟨rfl,rfl,rfl,rfl,rfl,rfl,rfl,trivial⟩
theorem w1i {T:Nat} {fr:Nat×Nat} (hm:m 0=some (.cells ⟨q2f⟩ T fr)) (hV:q1q m V C) {aa ba:Option Addr} {ca cb:Nat} {args sh:List Int} (hargs:IAt m (.slice aa args.length ca) args) (hsh:IAt m (.slice ba sh.length cb) sh) {cv:Value} {xc c13:List Value}
  (Kb:q3r (q3a C) M (args.take 20).length (sh.take 1001).length≠0→∀ m',Mem.le m m'→wpI Tryz.prog R (q0i rs RR) (envL [(2,.val (.slice aa args.length ca)),(3,.val (.slice ba sh.length cb)),(4,.val cv),(7,.var M.cells),(11,.var xc),(13,.var c13),(15,.val np),(16,.val (i (q3r (q3a C) M (args.take 20).length (sh.take 1001).length)))]) m')
  (Kg:q3r (q3a C) M (args.take 20).length (sh.take 1001).length=0→∀ m' p mb V4 sv H,Mem.le m mb→q1m mb V4 (q3a C) M sv (sh.take 1001)→q0l mb m' V4 (q3a C) M sv p H (q2t (q3a C) (args.take 20)) →
   wpI Tryz.prog R (q0i rs RR) (envL [(2,.val (.slice aa args.length ca)),(3,.val (.slice ba sh.length cb)),(4,.val cv),(7,.var M.cells),(11,.var xc),(13,.var c13),(15,.val (ptr p)),(16,.val (i 0))]) m') :
  wpI Tryz.prog (.seq (q4m 3) R) (q0i rs RR) (envL [(2,.val (.slice aa args.length ca)),(3,.val (.slice ba sh.length cb)),(4,.val cv),(6,.var (V.cells C)),(7,.var M.cells),(11,.var xc),(13,.var c13)]) m:=by
 have ht:=hargs.take 20
 obtain ⟨a1,c1,e1,q0,q1,q2⟩:=id ht
 injection e1 with e11 _ e13
 subst e11;subst e13
 have hcap:args.length≤ca:=by
  obtain ⟨_,c2,e2,_,_,hcap⟩:=hargs
  injection e2 with _ _ e23
  subst e23
  exact hcap
 have hl:(args.take 20).length=min 20 args.length:=List.length_take
 have em:(if (20:Int)<args.length then (20:Int) else args.length)=((args.take 20).length:Int):=by rw [hl];split<;>omega
 refine WSl.mk ⟨Int.le_refl _,by show (0:Int)≤(if (20:Int)<args.length then (20:Int) else args.length);rw [em];omega,by show (if (20:Int)<args.length then (20:Int) else args.length)≤(ca:Int);rw [em];omega⟩ ?_
 conv=>whnf
 refine ⟨?_,?_,trivial⟩
 ·conv=>whnf
  refine q1r.mk (v4g V hV) ?_
  rintro _ m1 ⟨V2,rfl,l1,hV2⟩
  refine ⟨l1,?_⟩
  conv=>whnf
  refine ⟨?_,trivial⟩
  refine WNew.ab fun b1 m2 hb1 l2 cc1=>?_
  conv=>whnf
  refine ⟨?_,trivial⟩
  refine WApp.copyE cc1 (A:=aa) (n:=(args.take 20).length) (q8r rfl) (by rw [em];show Int.toNat _ - Int.toNat 0=_;simp) ((args.take 20).map i) ⟨by simp,fun ad had=>(q1 ad had).mono (l1.trans l2)⟩ (fun ha=>by rw [q0 ha];rfl) (by rw [hl];omega) fun b' cb' m3 rest hle hcb hcells=>?_
  have L3:Mem.le m m3:=(l1.trans l2).trans hle
  have hI3:IAt m3 (.slice (some ⟨b',0,none⟩) (args.take 20).length cb') (args.take 20):=⟨_,cb',rfl,(fun h=>by cases h),fun ad had=>(by cases had;exact q0g.blk hcells fun q v hq=>by rw [Nat.zero_add,List.getElem?_append_left (List.getElem?_eq_some_iff.1 hq).1];exact hq),hcb⟩
  conv=>whnf
  refine ⟨?_,trivial⟩
  conv=>whnf
  refine q1r.mk (z9j (hsh.mono L3)) ?_
  rintro _ m4 ⟨A5,c5,rfl,l4,hI5⟩
  refine ⟨l4,?_⟩
  conv=>whnf
  refine ⟨?_,trivial⟩
  conv=>whnf
  refine q1r.mk (z6t ((L3.trans l4) _ _ hm) V2 M (hV2.mono ((l2.trans hle).trans l4)) (hI3.mono l4) hI5) ?_
  rintro e m5 ⟨l5,hb,hg⟩
  by_cases h0:q3r (q3a C) M (args.take 20).length (sh.take 1001).length=0
  ·obtain ⟨p,mb,V4,sv,H,rfl,lb,hB,hS⟩:=hg h0
   refine ⟨l5,?_⟩
   conv=>whnf
   exact q0x (Kg h0 m5 p mb V4 sv H ((L3.trans l4).trans lb) hB hS) ⟨rfl,rfl,rfl,rfl,rfl,rfl,rfl,rfl,trivial⟩
  ·obtain rfl:=hb h0
   refine ⟨l5,?_⟩
   conv=>whnf
   exact q0x (Kb h0 m5 ((L3.trans l4).trans l5)) ⟨rfl,rfl,rfl,rfl,rfl,rfl,rfl,rfl,trivial⟩
 ·refine WNew.ab fun b1 m2 hb1 l2 cc1=>?_
  conv=>whnf
  refine ⟨?_,trivial⟩
  conv=>whnf
  refine q1r.mk (v4g V (hV.mono l2)) ?_
  rintro _ m1 ⟨V2,rfl,l1,hV2⟩
  refine ⟨l1,?_⟩
  conv=>whnf
  refine ⟨?_,trivial⟩
  refine WApp.copyE (l1 _ _ cc1) (A:=aa) (n:=(args.take 20).length) (q8r rfl) (by rw [em];show Int.toNat _ - Int.toNat 0=_;simp) ((args.take 20).map i) ⟨by simp,fun ad had=>(q1 ad had).mono (l2.trans l1)⟩ (fun ha=>by rw [q0 ha];rfl) (by rw [hl];omega) fun b' cb' m3 rest hle hcb hcells=>?_
  have L3:Mem.le m m3:=(l2.trans l1).trans hle
  have hI3:IAt m3 (.slice (some ⟨b',0,none⟩) (args.take 20).length cb') (args.take 20):=⟨_,cb',rfl,(fun h=>by cases h),fun ad had=>(by cases had;exact q0g.blk hcells fun q v hq=>by rw [Nat.zero_add,List.getElem?_append_left (List.getElem?_eq_some_iff.1 hq).1];exact hq),hcb⟩
  conv=>whnf
  refine ⟨?_,trivial⟩
  conv=>whnf
  refine q1r.mk (z9j (hsh.mono L3)) ?_
  rintro _ m4 ⟨A5,c5,rfl,l4,hI5⟩
  refine ⟨l4,?_⟩
  conv=>whnf
  refine ⟨?_,trivial⟩
  conv=>whnf
  refine q1r.mk (z6t ((L3.trans l4) _ _ hm) V2 M (hV2.mono (hle.trans l4)) (hI3.mono l4) hI5) ?_
  rintro e m5 ⟨l5,hb,hg⟩
  by_cases h0:q3r (q3a C) M (args.take 20).length (sh.take 1001).length=0
  ·obtain ⟨p,mb,V4,sv,H,rfl,lb,hB,hS⟩:=hg h0
   refine ⟨l5,?_⟩
   conv=>whnf
   exact q0x (Kg h0 m5 p mb V4 sv H ((L3.trans l4).trans lb) hB hS) ⟨rfl,rfl,rfl,rfl,rfl,rfl,rfl,rfl,trivial⟩
  ·obtain rfl:=hb h0
   refine ⟨l5,?_⟩
   conv=>whnf
   exact q0x (Kb h0 m5 ((L3.trans l4).trans l5)) ⟨rfl,rfl,rfl,rfl,rfl,rfl,rfl,rfl,trivial⟩
end
theorem v5m (C:q0c) (M:Mac) (al sl:Nat):canS C M al 0 sl=q3r C M al sl:=by
 unfold canS q3r
 have e:(((al:Int) != C.pr||decide ((0:Int)<0)||decide ((0:Int)>4194304))=true)=((al:Int)≠C.pr):=by simp
 simp only [e]
def pl4A:IR:=match q4m 4 with | .seq a _=>a | r=>r
def pl4B:IR:=match q4m 4 with | .seq _ a=>a | r=>r
theorem v2w:q4m 4=.seq pl4A pl4B:=rfl
section
variable {m:Mem} {V V1:CV} {C:q0c} {M:Mac} {sv sw:Value} {ps pw:Nat} {H Hw:HdF} {s:St} {x0 x1 x2 x3:Int} {rs:List Res} {RR:Ending→Mem→Prop} {R:IR}
theorem j6q (hV1:q1q m V1 C) {a' sa:Option Addr} {al al' ca' sl cs:Nat} (q:Int) (hal:al'=al) :
  q0f Tryz.prog 18 [V1.val C,M.val,.slice a' al' ca',i q,.slice sa sl cs] m fun e m'=>e=.returned (i (canS C M al q sl))∧Mem.le m m':=by
 subst hal;exact v9v V1 M hV1 q
theorem v4q (hV1:q1q m V1 C) {aa ba:Option Addr} {ca cb:Nat} {args sh:List Int} (hargs:IAt m (.slice aa args.length ca) args) (hsh:IAt m (.slice ba sh.length cb) sh) {cv pv:Value} {xc:List Value} {er:Int}
  (K:∀ m',Mem.le m m'→wpI Tryz.prog R (q0i rs RR) (envL [(2,.val (.slice aa args.length ca)),(3,.val (.slice ba sh.length cb)),(4,.val cv),(7,.var M.cells),(11,.var xc),(13,.var (V1.cells C)),(15,.val pv),(16,.val (i er)),(17,.val (i (canS C M (args.take 20).length 0 (sh.take 1001).length)))]) m') :
  wpI Tryz.prog (.seq pl4A R) (q0i rs RR) (envL [(2,.val (.slice aa args.length ca)),(3,.val (.slice ba sh.length cb)),(4,.val cv),(7,.var M.cells),(11,.var xc),(13,.var (V1.cells C)),(15,.val pv),(16,.val (i er))]) m:=by
 have hcap:args.length≤ca:=by
  obtain ⟨_,c2,e2,_,_,hcap⟩:=hargs
  injection e2 with _ _ e23
  subst e23
  exact hcap
 have hl:(args.take 20).length=min 20 args.length:=List.length_take
 have em:(if (20:Int)<args.length then (20:Int) else args.length)=((args.take 20).length:Int):=by rw [hl];split<;>omega
 refine WSl.mk ⟨Int.le_refl _,by show (0:Int)≤(if (20:Int)<args.length then (20:Int) else args.length);rw [em];omega,by show (if (20:Int)<args.length then (20:Int) else args.length)≤(ca:Int);rw [em];omega⟩ ?_
 conv=>whnf
 refine ⟨?_,trivial⟩
 conv=>whnf
 refine q0a.mk (z9j hsh) ?_
 rintro _ m1 ⟨A5,c5,rfl,l1,hI5⟩
 conv=>whnf
 refine ⟨?_,trivial⟩
 conv=>whnf
 refine q0a.mk (j6q (hV1.mono l1) (al:=(args.take 20).length) 0 (by rw [em];show Int.toNat _ - Int.toNat 0=_;simp)) ?_
 rintro _ m2 ⟨rfl,l2⟩
 conv=>whnf
 exact q0x (K m2 (l1.trans l2)) ⟨rfl,rfl,rfl,rfl,rfl,rfl,rfl,rfl,rfl,trivial⟩
theorem k4b (hrs:rs=[.t 12]) {er:Int} (her:er≠0) (hal:q0f Tryz.prog 14 [] m fun e m''=>e=.returned (.bool true)∧m''=m) (fin:RR (.returned (.bool true)) m) :
  wpI Tryz.prog (.seq pl4B R) (q0i rs RR) (envL [(15,.val np),(16,.val (i er)),(17,.val (i er))]) m:=by
 have hee:(er==er)=true:=by simp
 refine Br.mk (fun _=>?_) (fun h=>?_)
 ·refine WSc.mk (v:=true) (fun _=>And.intro (Mem.le.refl _) rfl) ?_
  refine WSc.mk (v:=true) (fun _=>?_) ?_
  ·conv=>whnf
   refine q0a.mk hal ?_
   rintro _ _ ⟨rfl,rfl⟩
   conv=>whnf
   exact And.intro (Mem.le.refl _) rfl
  subst hrs
  refine WRet.same ?_
  show RR (.returned (.bool (((er==er)&&true)&&true))) m
  rw [hee];exact fin
 ·have h:(er != 0)=false:=h
  simp at h
  exact absurd h her
theorem j4s {e4:List (Nat×AV)} {p:Nat} {av bv cv:Value} {m7 x11 c13:List Value}
  (K:wpI Tryz.prog R (q0i rs RR) (envL [(2,.val av),(3,.val bv),(4,.val cv),(7,.var m7),(11,.var x11),(13,.var c13),(15,.val (ptr p))]) m) :
  wpI Tryz.prog (.seq pl4B (.seq (q4m 5) R)) (q0i rs RR) (envL [(2,.val av),(3,.val bv),(4,.val cv),(7,.var m7),(11,.var x11),(13,.var c13),(15,.val (ptr p)),(16,.val (i 0)),(17,.val (i 0))]) m:=by
 refine Br.mk (fun h=>by cases h) (fun _=>?_)
 refine WSc.mk (v:=false) (fun _=>And.intro (Mem.le.refl _) rfl) ?_
 refine Br.mk (fun h=>by cases h) (fun _=>?_)
 conv=>whnf
 exact q0x K ⟨rfl,rfl,rfl,rfl,rfl,rfl,rfl,trivial⟩
theorem j3l {aa ba:Option Addr} {ca cb:Nat} {args sh:List Int} (hsh:IAt m (.slice ba sh.length cb) sh) (hsl:sh.length≤1000) (hV1:q1q m V1 C) (hC:q3h C) (hargs:IAt m (.slice aa args.length ca) args) (hal:args.length≤C.rg.toNat) {p:Nat} {cv:Value}
  (K:∀ m1 m2 A c pw Hw,Mem.le m m1→IAt m1 (.slice A sh.length c) sh→q9r m A→RfAt m1 m2 V1 C M (.slice A sh.length c) 0 pw Hw (q2t C args) →
   wpI Tryz.prog R (q0i rs RR) (envL [(4,.val cv),(11,.var [i x0,i x1,i x2,i x3]),(15,.val (ptr p)),(18,.val (ptr pw))]) m2) :
  wpI Tryz.prog (.seq (q4m 6) R) (q0i rs RR) (envL [(2,.val (.slice aa args.length ca)),(3,.val (.slice ba sh.length cb)),(4,.val cv),(7,.var M.cells),(11,.var [i x0,i x1,i x2,i x3]),(13,.var (V1.cells C)),(15,.val (ptr p))]) m:=by
 conv=>whnf
 refine ⟨?_,trivial⟩
 conv=>whnf
 refine q0a.mk (w3i hsh hsl) ?_
 rintro _ m1 ⟨A,c,rfl,l1,hI,hF⟩
 conv=>whnf
 refine ⟨?_,trivial⟩
 conv=>whnf
 refine q0a.mk (k5b V1 (hV1.mono l1) hC (hargs.mono l1) hal) ?_
 rintro _ m2 ⟨pw,Hw,rfl,hW⟩
 conv=>whnf
 exact q0x (K m1 m2 A c pw Hw l1 hI hF hW) ⟨rfl,rfl,rfl,rfl,trivial⟩
theorem w5g (hrs:rs=[.t 12]) (hal:q0f Tryz.prog 14 [] m fun e m''=>e=.returned (.bool true)∧m''=m) (fin:RR (.returned (.bool true)) m) :
  wpI Tryz.prog (q4m 7) (q0i rs RR) (envL []) m:=by
 subst hrs
 conv=>whnf
 refine q0a.mk hal ?_
 rintro _ _ ⟨rfl,rfl⟩
 exact WRet.same fin
end
noncomputable def offM (m:Mem) (F:Nat→Prop):Mem:=fun b=>@ite _ (F b) (Classical.propDecidable _) none (m b)
theorem v2m {m:Mem} {F:Nat→Prop} {b:Nat} (h:F b):offM m F b=none:=by unfold offM;rw [if_pos h]
theorem z7d {m:Mem} {F:Nat→Prop} {b:Nat} (h:¬ F b):offM m F b=m b:=by unfold offM;rw [if_neg h]
theorem v7k (m:Mem) (F:Nat→Prop):Mem.le (offM m F) m:=fun b o h=>by
 by_cases hf:F b
 ·rw [v2m hf] at h;cases h
 ·rw [z7d hf] at h;exact h
theorem w3o {m m':Mem} {F:Nat→Prop} (hle:Mem.le m m') (hf:∀ b,F b→m b=none):Mem.le m (offM m' F):=fun b o h=>by
 have:¬ F b:=fun hb=>by rw [hf b hb] at h;cases h
 rw [z7d this];exact hle b o h
section
variable {m:Mem} {T:Nat} {fr:Nat×Nat} {V:CV} {C:q0c} {M:Mac} {aa ba da:Option Addr} {ca cb cd:Nat} {args sh:List Int} {x0 x1 x2 x3:Int}
theorem j7v (hm:m 0=some (.cells ⟨q2f⟩ T fr)) (hV:q1q m V C) (hargs:IAt m (.slice aa args.length ca) args) (hsh:IAt m (.slice ba sh.length cb) sh) {L:List (Int×Int)} (hA:q6o m (.slice da L.length cd) L)
  (hal:∀ m',Mem.le m m'→q0f Tryz.prog 14 [] m' fun e m''=>e=.returned (.bool true)∧m''=m') :
  q0f Tryz.prog 10 [V.val C,M.val,.slice aa args.length ca,.slice ba sh.length cb,.slice da L.length cd,.agg ⟨[i x0,i x1,i x2,i x3]⟩] m fun e m'=>e=.returned (.bool true)∧Mem.le m m':=by
 refine q0e q0d Tryz.func10 k0a rfl ?_
 unfold Fn.asks
 rw [j7q]
 refine j0q rfl hV (fun _ m1 l1=>q0f.mono (hal m1 l1) ?_) fun hok m1 V1 l1 hV1=>w1i (l1 _ _ hm) (hV.mono l1) (hargs.mono l1) (hsh.mono l1) (fun h0 m2 l2=>?_) fun h0 m2 p mb V4 sv H lb hB hS=>?_
 ·rintro _ _ ⟨rfl,rfl⟩;exact ⟨rfl,rfl,l1⟩
 ·have L2:=l1.trans l2
  rw [v2w,q8s]
  refine v4q (hV1.mono l2) (hargs.mono L2) (hsh.mono L2) fun m3 l3=>?_
  rw [v5m]
  have L3:=L2.trans l3
  exact q0x (k4b rfl h0 (hal m3 L3) ⟨rfl,L3⟩) ⟨rfl,rfl,rfl,trivial⟩
 ·have L2:Mem.le m m2:=(l1.trans lb).trans hS.le
  have hV2:=hV1.mono (lb.trans hS.le)
  rw [v2w,q8s]
  refine v4q hV2 (hargs.mono L2) (hsh.mono L2) fun m3 l3=>?_
  have hcan:=v5m (q3a C) M (args.take 20).length (sh.take 1001).length
  rw [h0] at hcan
  rw [hcan]
  obtain ⟨hC,hM,hpa,_,_,hsl⟩:=v6m hcan
  have hpr:=hC.pr
  have hal20:(args.take 20).length≤8:=by omega
  have hAr:args.take 20=args:=by
   rw [List.length_take] at hal20
   exact List.take_of_length_le (by omega)
  have hSr:sh.take 1001=sh:=by
   rw [List.length_take] at hsl
   exact List.take_of_length_le (by omega)
  rw [hAr] at hpa
  rw [hSr] at hsl
  rw [hAr] at hS
  rw [hSr] at hB
  have L3:=L2.trans l3
  have hal2:args.length≤(q3a C).rg.toNat:=by omega
  have hS3:=hS.mono l3
  have hl1:Mem.le m1 m3:=(lb.trans hS.le).trans l3
  refine j4s (e4:=[]) (j3l (hsh.mono L3) hsl (hV1.mono hl1) hC (hargs.mono L3) hal2 fun m4 m5 A c pw Hw l4 hI hF hW=>?_)
  have hfn:∀ b,q0s p H (q2t (q3a C) args) b→mb b=none:=hS3.nw
  have lbm:Mem.le mb m4:=hS3.le.trans l4
  have hsub:Mem.le mb (offM m4 (q0s p H (q2t (q3a C) args))):=w3o lbm hfn
  have hW2:RfAt (offM m4 (q0s p H (q2t (q3a C) args))) m5 V1 (q3a C) M (.slice A sh.length c) 0 pw Hw (q2t (q3a C) args) :=
   ⟨hW.hp,hW.fam,(v7k _ _).trans hW.le,fun b hb=>q1z (v7k _ _) (hW.nw b hb),hW.nil0,hW.nil4⟩
  have hB2:q1m (offM m4 (q0s p H (q2t (q3a C) args))) V1 (q3a C) M (.slice A sh.length c) sh:=by
   refine ⟨hV1.mono (lb.trans hsub),hC,hM,v7n hI ?_,hsl,T,fr,hsub _ _ (lb _ _ (l1 _ _ hm))⟩
   rcases hF with h | ⟨b,h,hb⟩
   ·exact .inl h
   ·exact .inr ⟨b,h,fun o ho=>by rw [z7d (hS3.free hb)];exact ho⟩
  have hBoth:Both mb (offM m4 (q0s p H (q2t (q3a C) args))) m5 V4 V1 (q3a C) M sv (.slice A sh.length c) p pw H Hw (q2t (q3a C) args) (q2t (q3a C) args):=by
   refine ⟨hS3.mono (l4.trans hW.le),hW2,fun b hf hw=>?_,hsub,fun b hf=>v2m hf⟩
   obtain ⟨o,ho⟩:=hS3.live hf
   have:=hW.nw b hw
   rw [l4 _ _ ho] at this;cases this
  refine j5j hB hB2 hBoth (z5a hC hal2) (hA.mono (l1.trans lb)) fun m6 l6=>?_
  have L6:Mem.le m m6:=(l1.trans lb).trans l6
  exact w5g rfl (hal m6 L6) ⟨rfl,L6⟩
end
theorem w1d {m:Mem} {V:CV} {C:q0c} {M:Mac} {v2 v3 v4 v5:Value} {args sh:List Int} {L:List (Int×Int)} (hV:q1q m V C) (h2:IAt m v2 args) (h3:IAt m v3 sh) (h4:q6o m v4 L) (h5:∃ x0 x1 x2 x3:Int,v5=.agg ⟨[i x0,i x1,i x2,i x3]⟩) {T:Nat} {fr:Nat×Nat} (hm:m 0=some (.cells ⟨q2f⟩ T fr)) :
  q0f Tryz.prog 10 [V.val C,M.val,v2,v3,v4,v5] m fun e m'=>e=.returned (.bool true)∧Mem.le m m':=by
 have g2:=h2
 have g3:=h3
 have g4:=h4
 obtain ⟨a2,c2,rfl,_⟩:=h2
 obtain ⟨a3,c3,rfl,_⟩:=h3
 obtain ⟨a4,c4,rfl,_⟩:=h4
 obtain ⟨x0,x1,x2,x3,rfl⟩:=h5
 exact j7v hm hV g2 g3 g4 fun m' hle=>w5l (hle _ _ hm)
end Go.Proofs.YtleofbpepfmfgaaGreatDoor
