import Derived.Test.YtleofbpepfmfgaaGreatDoorVxSimDo
import Derived.Test.YtleofbpepfmfgaaGreatDoorVxSimY
import Derived.Test.YtleofbpepfmfgaaGreatDoorVxRfF
set_option linter.unusedSimpArgs false
set_option linter.unusedVariables false
set_option maxRecDepth 100000
namespace Go.Proofs.YtleofbpepfmfgaaGreatDoor
open Go Go.Vx
open Go.Vx.IOp Go.Vx.IR Go.Vx.Opd
section
variable {C:CodeR} {M:Mac} {sh:List Int} {s:St} {k:Nat}
theorem LimS.give (h:LimS s k) {o:OpR} {v:VR}:LimS (giveS M sh s o v) (k+1) :=
 ⟨by show s.took≤_;have:=h.took;omega,by show s.begun+1≤_;have:=h.begun;omega,by show (s.way++[_]).length≤_;have:=h.way;simp;omega,by show s.prints.length≤_;have:=h.prints;omega⟩
theorem LimS.same (h:LimS s k) {t:St} (h1:t.took=s.took) (h2:t.begun=s.begun) (h3:t.way=s.way∨t.way=[]) (h4:t.prints=s.prints):LimS t k :=
 ⟨by rw [h1];exact h.took,by rw [h2];exact h.begun,by
  rcases h3 with e | e
  ·rw [e];exact h.way
  ·rw [e];exact Nat.zero_le _,by rw [h4];exact h.prints⟩
theorem LimS.mem (h:LimS s k) {o:OpR}:LimS (memS M sh s o).1 (k+1):=by
 have up:=h.up (Nat.le_succ k)
 unfold memS
 split
 ·exact h.give
 ·split
  ·exact up.same rfl rfl (.inl rfl) rfl
  ·generalize nMem s o=n
   split
   ·exact h.give
   ·split
    ·exact up
    ·split
     ·exact up.same rfl rfl (.inl rfl) rfl
     ·exact h.give
theorem LimS.out (h:LimS s k) {o:OpR}:LimS (outS s o).s (k+1):=by
 have up:=h.up (Nat.le_succ k)
 unfold outS
 split
 ·exact up.same rfl rfl (.inl rfl) rfl
 ·split
  ·exact up
  ·split
   ·exact ⟨up.took,up.begun,up.way,by show (s.prints++[_]).length≤_;have:=h.prints;simp;omega⟩
   ·split
    ·split
     ·exact up.same rfl rfl (.inl rfl) rfl
     ·exact up
    ·split
     ·exact up.same rfl rfl (.inr rfl) rfl
     ·split<;>exact up
theorem LimS.do (h:LimS s k) {o:OpR}:LimS (doS M sh s o).s (k+1):=by
 have up:=h.up (Nat.le_succ k)
 unfold doS
 split
 ·exact up
 ·split
  ·exact up
  ·unfold bodyS
   split
   ·exact h.mem
   ·split
    ·exact h.out
    ·split
     ·exact up
     ·exact h.give
theorem LimS.trap (h:LimS s k) {ct n:Int}:LimS (trapS C s ct n) k:=by
 unfold trapS
 split
 ·exact h.same rfl rfl (.inr rfl) rfl
 ·exact h.same rfl rfl (.inr rfl) rfl
theorem LimS.arrive (h:LimS s k):LimS (arriveS s) k :=
 ⟨h.took,h.begun,Nat.le_trans (List.length_filter_le _ _) h.way,h.prints⟩
theorem LimS.ops {ct:Int}:∀ {L:List OpR} {s:St} {k:Nat},LimS s k→LimS (opsS C M sh ct L s) (k+L.length)
 | [],s,k,h=>h
 | o :: L,s,k,h=>by
  unfold opsS
  split
  ·exact (h.do.trap).up (by simp)
  ·split
   ·exact h.do.up (by simp)
   ·have:=LimS.ops (ct:=ct) (L:=L) (h.do (M:=M) (sh:=sh) (o:=o))
    exact this.up (by simp;omega)
theorem wordAt_len (hC:CodeOK C) {w:Nat}:(wordAt C w).ops.length≤400:=by
 by_cases h:w<C.ws.length
 ·exact hC.ol _ (wordAt_mem h)
 ·unfold wordAt;rw [List.getD_eq_getElem?_getD,List.getElem?_eq_none (by omega)];exact Nat.zero_le _
theorem LimS.cyc (hC:CodeOK C) (h:LimS s k):LimS (cycS C M sh s) (k+401):=by
 have h1:LimS (goS s) k:=(h.arrive).same rfl rfl (.inl rfl) rfl
 have h2:=LimS.ops (C:=C) (M:=M) (sh:=sh) (ct:=(wordAt C s.word).ct) (L:=(wordAt C s.word).ops) h1
 have hl:=wordAt_len hC (w:=s.word)
 exact ⟨by show _+1≤_;have:=h2.took;omega,by show (opsS _ _ _ _ _ _).begun≤_;have:=h2.begun;omega,by show (opsS _ _ _ _ _ _).way.length≤_;have:=h2.way;omega,by show (opsS _ _ _ _ _ _).prints.length≤_;have:=h2.prints;omega⟩
end
section
variable {m0 m m':Mem} {V:CV} {C:CodeR} {M:Mac} {sv:Value} {p:Nat} {H:HdF} {s s':St} {sh:List Int}
def cycTail:IR:=(match ir_sim_Sim_cycle.body with | .seq _ (.seq _ (.seq _ (.seq _ r)))=>r | r=>r)
def cycA:IR:=(match ir_sim_Sim_cycle.body with | .seq a _=>a | r=>r)
def cycB:IR:=(match ir_sim_Sim_cycle.body with | .seq _ (.seq b _)=>b | r=>r)
def cycC:IR:=(match ir_sim_Sim_cycle.body with | .seq _ (.seq _ (.seq b _))=>b | r=>r)
def cycD:IR:=(match ir_sim_Sim_cycle.body with | .seq _ (.seq _ (.seq _ (.seq b _)))=>b | r=>r)
theorem cyc_body:ir_sim_Sim_cycle.body=.seq cycA (.seq cycB (.seq cycC (.seq cycD cycTail))):=rfl
theorem cycTail_ok {m1:Mem} {H1:HdF} {s1:St} (h0:Goes m0 V C M sv p m H s m1 H1 s1) {k:Nat} (hl:LimS s1 k) (hk:k≤1000000000000) :
  wpI Tryz.prog cycTail (retPost [] fun e m'=>e=.returned unitV∧∃ H',Goes m0 V C M sv p m H s m' H' { s1 with took:=s1.took+1 }) (envL [(0,.val (ptr p))]) m1:=by
 have h:=h0.at'
 have ht:=hl.took
 refine WLd.mk (i (s1.took:Int)) (by rw [add_add];exact h.cell rfl) ?_
 refine WRng.mk (by apply wrap_i64<;>omega) ?_
 conv=>whnf
 rw [add_add]
 refine h.setInt { s1 with took:=s1.took+1 } rfl (show 0+1+1≤28 by decide) rfl rfl rfl rfl rfl fun m2 G2=>?_
 exact WRet.same ⟨rfl,H1,h0.trans G2⟩
attribute [irreducible] cycTail
theorem cyc_ok2 (h:SimAt m0 m V C M sv p H s) (hB:SimBase m0 V C M sv sh) (hS:StOK C s) (he:s.ended=false) (hw:s.word<C.ws.length) {k:Nat} (hl:LimS s k) (hk:k≤900000000) :
  CallsM Tryz.prog 67 [ptr p] m fun e m'=>e=.returned unitV∧∃ H',Goes m0 V C M sv p m H s m' H' (cycS C M sh s):=by
 refine calls_of mixed Tryz.func67 ok_sim_Sim_cycle rfl ?_
 have hwl:=hB.ok.wl
 have hol:=wordAt_len hB.ok (w:=s.word)
 have hO:=hB.ok.op _ (wordAt_mem hw)
 have hct:=hB.ok.ct _ (wordAt_mem hw)
 generalize hW:wordAt C s.word=W at hol hO hct
 unfold Fn.asks
 rw [cyc_body]
 refine WCall.mk (arrive_ok2 h (fun w hw'=>by rw [hS.regs];exact (hS.way w hw').1) (by have:=hl.way;omega)) ?_
 rintro _ m1 ⟨rfl,H1,G1⟩
 have h1:=G1.at'
 obtain ⟨ad,a3,c3,had,hcells,hops⟩:=word_cells hB.code hw
 rw [hW] at hcells hops
 refine WLd.mk (.slice V.a2 V.n2 V.c2) (by rw [add_add];exact h1.cell rfl) ?_
 refine WLd.mk (i (s.word:Int)) ?_ ?_
 ·rw [add_add]
  refine h1.cell ?_
  show some (i (wordV (arriveS s)))=_
  rw [wordV_live (s:=arriveS s) he];rfl
 refine WIdx.mk ad had ⟨by omega,by rw [hB.code.n2];omega⟩ ?_
 refine WLds.mk _ (hcells.mono h1.le) rfl ?_
 conv=>whnf
 refine ⟨?_,trivial⟩
 conv=>whnf
 refine ⟨?_,trivial⟩
 refine WLd.mk (i (s.word:Int)) ?_ ?_
 ·rw [add_add]
  refine h1.cell ?_
  show some (i (wordV (arriveS s)))=_
  rw [wordV_live (s:=arriveS s) he];rfl
 refine WRng.mk (by apply wrap_i64<;>omega) ?_
 conv=>whnf
 rw [add_add]
 refine h1.setWord (w:=s.word+1) he (by omega) rfl fun m2 G2=>?_
 have G2:Goes m0 V C M sv p m H s m2 H1 (goS s):=G1.trans G2
 have hS2:StOK C (goS s):=by
  have:=arrive_ok hS
  exact ⟨this.regs,this.kept,this.arr,this.way,this.rok,this.kok⟩
 have hl2:LimS (goS s) k:=(hl.arrive).same rfl rfl (.inl rfl) rfl
 obtain ⟨ao,co,eo,ho0,ho1,ho2⟩:=hops
 injection eo with eo1 eo2 eo3
 subst eo1;subst eo3
 have tail:∀ {m3:Mem} {H3:HdF} {s3:St},Goes m0 V C M sv p m H s m3 H3 s3→s3=opsS C M sh W.ct W.ops (goS s)→LimS s3 (k+400) →
   wpI Tryz.prog cycTail (retPost [] fun e m'=>e=.returned unitV∧∃ H',Goes m0 V C M sv p m H s m' H' (cycS C M sh s)) (envL [(0,.val (ptr p))]) m3:=fun {m3 H3 s3} G e hl3=>by
  have e2:cycS C M sh s={ s3 with took:=s3.took+1 }:=by unfold cycS;rw [hW,e]
  rw [e2]
  exact cycTail_ok G hl3 (by omega)
 refine WLoop.mk (Nat×St×HdF) (fun x=>[(34,.val (i x.1))]) (fun x m'=>x.1≤W.ops.length∧Goes m0 V C M sv p m H s m' x.2.2 x.2.1∧StOK C x.2.1∧x.2.1.ended=false∧LimS x.2.1 (k+x.1) ∧
  opsS C M sh W.ct (W.ops.drop x.1) x.2.1=opsS C M sh W.ct W.ops (goS s)) (fun x=>W.ops.length - x.1) (0,goS s,H1) ⟨rfl,trivial⟩ ⟨Nat.zero_le _,G2,hS2,he,hl2,rfl⟩ ?_
 rintro ⟨j,sj,Hj⟩ m3 ⟨hj,G3,hSj,hej,hlj,hopj⟩
 simp only at hj G3 hSj hej hlj hopj
 have h3:=G3.at'
 refine Br.mk (fun hb=>?_) (fun hb=>?_)
 ·have hj2:j<W.ops.length:=by
   have:(j:Int)<(W.ops.length:Nat):=of_decide_eq_true hb
   omega
  obtain ⟨aa,haa⟩:∃ aa,a3=some aa:=by
   cases a3 with
   | none=>rw [ho0 rfl] at hj2;simp at hj2
   | some aa=>exact ⟨aa,rfl⟩
  have hcj:=(OAt.cells (ho1 aa haa) hj2).mono h3.le
  have hOj:=hO _ (List.getElem_mem hj2)
  rw [List.drop_eq_getElem_cons hj2,opsS] at hopj
  have hdo:=do_ok2 h3 hB hSj hej hlj (by omega) hOj
  generalize hd:doS M sh sj W.ops[j]=d at hdo hopj
  have hSd:StOK C d.s:=by rw [← hd];exact do_ok hSj hOj
  have hld:LimS d.s (k+j+1):=by rw [← hd];exact hlj.do
  have hed:d.left=false→d.s.ended=false:=fun e=>by rw [← hd] at e ⊢;rw [do_end e];exact hej
  have htl:d.trap=true→d.left=false:=fun e=>by rw [← hd] at e ⊢;exact trap_left e
  refine WIdx.mk aa haa ⟨by omega,by omega⟩ ?_
  refine WLds.mk _ (by simpa using hcj) rfl ?_
  refine WCall.mk hdo ?_
  rintro _ m4 ⟨rfl,H4,G4⟩
  have G4:=G3.trans G4
  refine Br.mk (fun ht=>?_) (fun ht=>?_)
  ·have ht:d.trap=true:=ht
   rw [if_pos ht] at hopj
   refine WCall.mk (trap_ok2 G4.at' hB hSd (hed (htl ht)) (by have:=hld.way;omega) W.ct d.n) ?_
   rintro _ m5 ⟨rfl,H5,G5⟩
   have G5:=G4.trans G5
   refine WSc.mk (v:=d.left) (fun _=>And.intro (Mem.le.refl _) rfl) ?_
   refine Br.mk (fun _=>?_) (fun hh=>?_)
   ·conv=>whnf
    exact rest_envL (tail G5 hopj (hld.trap.up (by omega))) ⟨rfl,trivial⟩
   ·have hh:(d.trap||d.left)=false:=hh
    rw [ht] at hh;cases hh
  ·have ht:d.trap=false:=ht
   rw [if_neg (by rw [ht];decide)] at hopj
   refine WSc.mk (v:=d.left) (fun _=>And.intro (Mem.le.refl _) rfl) ?_
   refine Br.mk (fun hh=>?_) (fun hh=>?_)
   ·have hh:(d.trap||d.left)=true:=hh
    have hlf:d.left=true:=by rw [ht] at hh;exact hh
    rw [if_pos hlf] at hopj
    conv=>whnf
    exact rest_envL (tail G4 hopj (hld.up (by omega))) ⟨rfl,trivial⟩
   ·have hh:(d.trap||d.left)=false:=hh
    have hlf:d.left=false:=by rw [ht] at hh;exact hh
    rw [if_neg (by rw [hlf];decide)] at hopj
    refine WRng.mk (by apply wrap_i64<;>omega) ?_
    conv=>whnf
    exact ⟨(j+1,d.s,H4),⟨rfl,trivial⟩,⟨hj2,G4,hSd,hed hlf,hld.up (by omega),hopj⟩,Nat.sub_lt_sub_left hj2 (Nat.lt_succ_self j)⟩
 ·have hj2:j=W.ops.length:=by
   have:¬ (j:Int)<(W.ops.length:Nat):=of_decide_eq_false hb
   omega
  subst hj2
  rw [List.drop_length] at hopj
  conv=>whnf
  exact rest_envL (tail G3 hopj (hlj.up (by omega))) ⟨rfl,trivial⟩
structure Good (C:CodeR) (s:St) (k:Nat):Prop where
 ok:StOK C s
 word:s.word<C.ws.length
 lim:LimS s k
theorem Good.cyc {k:Nat} (hC:CodeOK C) (h:Good C s k):Good C (cycS C M sh s) (k+401):=⟨cyc_ok hC h.ok h.word,cyc_word hC h.word,h.lim.cyc hC⟩
theorem Good.up {j k:Nat} (h:Good C s j) (e:j≤k):Good C s k:=⟨h.ok,h.word,h.lim.up e⟩
theorem Good.run (hC:CodeOK C):∀ {n:Nat} {s:St} {k:Nat},Good C s k→Good C (runS C M sh n s) (k+401 * n)
 | 0,s,k,h=>h
 | n+1,s,k,h=>by
  rw [runS_succ]
  split
  ·exact h.up (by omega)
  ·exact (Good.run hC (h.cyc hC)).up (by omega)
theorem for_ok (h:SimAt m0 m V C M sv p H s) (hB:SimBase m0 V C M sv sh) {k:Nat} (hG:Good C s k) (n:Nat) (hn:k+401 * n≤900000000) :
  CallsM Tryz.prog 48 [ptr p,i (n:Int)] m fun e m'=>e=.returned unitV∧∃ H',Goes m0 V C M sv p m H s m' H' (runS C M sh n s):=by
 refine calls_of mixed Tryz.func48 ok_sim_Sim_For rfl ?_
 refine WLoop.mk (Nat×St×HdF×Nat) (fun x=>[(1,.val (i x.1))]) (fun x m'=>Goes m0 V C M sv p m H s m' x.2.2.1 x.2.1∧Good C x.2.1 x.2.2.2∧x.2.2.2+401 * x.1≤900000000 ∧
  runS C M sh x.1 x.2.1=runS C M sh n s) (fun x=>x.1) (n,s,H,k) ⟨rfl,trivial⟩ ⟨Goes.refl h,hG,hn,rfl⟩ ?_
 rintro ⟨j,sj,Hj,kj⟩ m1 ⟨G,hGj,hkj,hrj⟩
 simp only at G hGj hkj hrj
 have h1:=G.at'
 refine WSc.mk (v:=decide (wordV sj≥0)) (fun _=>?_) ?_
 ·refine WLd.mk (i (wordV sj)) (by rw [add_add];exact h1.cell rfl) ?_
  conv=>whnf
  exact And.intro (Mem.le.refl _) rfl
 have hwv:decide (wordV sj≥0)=!sj.ended:=by
  unfold wordV
  cases sj.ended with
  | true=>rfl
  | false=>rw [if_neg (by decide)];exact decide_eq_true (by omega)
 refine Br.mk (fun hb=>?_) (fun hb=>?_)
 ·have hb:(decide ((j:Int)>0)&&decide (wordV sj≥0))=true:=hb
  rw [hwv,Bool.and_eq_true,decide_eq_true_eq,Bool.not_eq_true'] at hb
  obtain ⟨j',rfl⟩:∃ j',j=j'+1:=⟨j - 1,by omega⟩
  rw [runS_succ,if_neg (by rw [hb.2];decide)] at hrj
  refine WCall.mk (cyc_ok2 h1 hB hGj.ok hb.2 hGj.word hGj.lim (by omega)) ?_
  rintro _ m2 ⟨rfl,H2,G2⟩
  refine WRng.mk (by apply wrap_i64<;>omega) ?_
  conv=>whnf
  refine ⟨(j',cycS C M sh sj,H2,kj+401),⟨?_,trivial⟩,⟨G.trans G2,hGj.cyc hB.ok,by simp only;omega,hrj⟩,Nat.lt_succ_self j'⟩
  show some (AV.val (i (((j'+1:Nat):Int) - 1)))=some (AV.val (i (j':Int)))
  rw [show ((j'+1:Nat):Int) - 1=(j':Int) by omega]
 ·have hb:(decide ((j:Int)>0)&&decide (wordV sj≥0))=false:=hb
  rw [hwv,Bool.and_eq_false_iff,decide_eq_false_iff_not,Bool.not_eq_false'] at hb
  have e:runS C M sh n s=sj:=by
   rw [← hrj]
   rcases hb with hb | hb
   ·obtain rfl:j=0:=by omega
    rfl
   ·exact runS_ended hb j
  exact WRet.same ⟨rfl,Hj,by rw [e];exact G⟩
end
theorem do_regs {M:Mac} {sh:List Int} {s:St} {o:OpR}:(doS M sh s o).s.regs=s.regs:=by
 unfold doS
 split
 ·rfl
 ·split
  ·rfl
  ·unfold bodyS
   split
   ·unfold memS
    split
    ·rfl
    ·split
     ·rfl
     ·generalize nMem s o=n
      split
      ·rfl
      ·split
       ·rfl
       ·split<;>rfl
   ·split
    ·unfold outS
     split
     ·rfl
     ·split
      ·rfl
      ·split
       ·rfl
       ·split
        ·split<;>rfl
        ·split
         ·rfl
         ·split<;>rfl
    ·split<;>rfl
section
variable {m0 m m' m2 m3:Mem} {V:CV} {C:CodeR} {M:Mac} {sv:Value} {lw lw2:Int} {p:Nat} {H:HdF} {s s' s1:St} {sh:List Int}
theorem RfAt.anyLw (h:RfAt m0 m V C M sv lw p H s) (he:s.ended=false):RfAt m0 m V C M sv lw2 p H s:=by
 refine ⟨?_,h.fam,h.le,h.nw,h.nil0,h.nil4⟩
 have e:rfCells V C M sv lw2 H s=rfCells V C M sv lw H s:=by
  have:∀ x,wordR x s=(s.word:Int):=fun x=>by unfold wordR;rw [if_neg (by rw [he];decide)]
  unfold rfCells;rw [this,this]
 rw [e];exact h.hp
theorem RfAt.relw (h:RfAt m0 m V C M sv lw p H s):RfAt m0 (m.set p (Cells (rfCells V C M sv lw2 H s) TRf)) V C M sv lw2 p H s∧Keep (FootS p H s) m (m.set p (Cells (rfCells V C M sv lw2 H s) TRf)):=by
 have hk:Keep (FootS p H s) m (m.set p (Cells (rfCells V C M sv lw2 H s) TRf)):=(Keep.refl _ _).set (.inl (.inl rfl))
 exact ⟨⟨Mem.set_same _ _ _,h.fam.same fun b o hb hm=>by rw [Mem.set_other _ _ (h.notp hb)];exact hm,hk.le h.le h.nw,h.nw,h.nil0,h.nil4⟩,hk⟩
def fsPart:Nat→IR:=fun k=>match k,ir_biremeref27_Sim_Step.body with
 | 0,.seq a _=>a
 | 1,.seq _ (.seq a _)=>a
 | 2,.seq _ (.seq _ (.seq a _))=>a
 | 3,.seq _ (.seq _ (.seq _ (.seq a _)))=>a
 | 4,.seq _ (.seq _ (.seq _ (.seq _ (.seq a _))))=>a
 | _,.seq _ (.seq _ (.seq _ (.seq _ (.seq _ r))))=>r
 | _,r=>r
def fsTail:IR:=fsPart 5
theorem fs_body:ir_biremeref27_Sim_Step.body=.seq (fsPart 0) (.seq (fsPart 1) (.seq (fsPart 2) (.seq (fsPart 3) (.seq (fsPart 4) fsTail)))):=rfl
theorem fsTail_ok {m1:Mem} {H1:HdF} {s1:St} (h:RfAt m0 m1 V C M sv lw p H1 s1) (hk:Keep (FootS p H s) m m1) (hnew:∀ b,FootS p H1 s1 b→FootS p H s b∨m b=none) {k:Nat} (hl:LimS s1 k) (hkk:k≤1000000000000) :
  wpI Tryz.prog fsTail (retPost [] fun e m'=>e=.returned unitV∧∃ H',RfGoes m0 V C M sv 0 p m H s m' H' { s1 with took:=s1.took+1 }) (envL [(0,.val (ptr p))]) m1:=by
 have ht:=hl.took
 have fin:∀ {m4:Mem} {lw':Int},RfAt m0 m4 V C M sv 0 p H1 { s1 with took:=s1.took+1 }→Keep (FootS p H1 s1) m1 m4→RfGoes m0 V C M sv 0 p m H s m4 H1 { s1 with took:=s1.took+1 }:=fun {m4 lw'} h4 k4=>⟨h4,hk.trans' k4 hnew,fun b hb=>hnew b hb⟩
 refine WLd.mk (i (s1.took:Int)) (h.cell rfl) ?_
 refine WRng.mk (by apply wrap_i64<;>omega) ?_
 conv=>whnf
 refine h.setInt { s1 with took:=s1.took+1 } rfl (show 22+1≤29 by decide) rfl rfl rfl rfl rfl fun m2 G2=>?_
 have h2:=G2.at'
 refine WLd.mk (.bool s1.ended) (h2.cell rfl) ?_
 refine Br.mk (fun he=>?_) (fun he=>?_)
 ·have he:s1.ended=true:=he
  refine WSt.at _ _ h2.hp (show 24+1≤29 by decide) ?_
  have e:spliceL (rfCells V C M sv lw H1 { s1 with took:=s1.took+1 }) 24 (cellsL (i 0))=rfCells V C M sv 0 H1 { s1 with took:=s1.took+1 }:=by
   have:wordR 0 { s1 with took:=s1.took+1 }=0:=by unfold wordR;rw [if_pos (show ({ s1 with took:=s1.took+1 }:St).ended=true from he)]
   unfold rfCells;rw [this];rfl
  rw [e]
  obtain ⟨h3,k3⟩:=h2.relw (lw2:=0)
  exact WRet.same ⟨rfl,H1,fin (lw':=0) h3 (G2.keep.trans' k3 G2.new)⟩
 ·have he:s1.ended=false:=he
  exact WRet.same ⟨rfl,H1,fin (lw':=0) (h2.anyLw he) G2.keep⟩
attribute [irreducible] fsTail
theorem rfStep_ok (h:RfAt m0 m V C M sv 0 p H s) (hB:SimBase m0 V C M sv sh) (hS:StOK C s) (he:s.ended=false) (hw:s.word<C.ws.length) {k:Nat} (hl:LimS s k) (hk:k≤900000000) :
  CallsM Tryz.prog 59 [ptr p] m fun e m'=>e=.returned unitV∧∃ H',RfGoes m0 V C M sv 0 p m H s m' H' (cycS C M sh s):=by
 refine calls_of mixed Tryz.func59 ok_biremeref27_Sim_Step rfl ?_
 have hwl:=hB.ok.wl
 have hol:=wordAt_len hB.ok (w:=s.word)
 have hO:=hB.ok.op _ (wordAt_mem hw)
 have hct:=hB.ok.ct _ (wordAt_mem hw)
 have hrg:=hB.ok.rg
 generalize hW:wordAt C s.word=W at hol hO hct
 unfold Fn.asks
 rw [fs_body]
 refine WCall.mk (rfArrive_ok h (fun w hw'=>by rw [hS.regs];exact (hS.way w hw').1) (by have:=hl.way;omega)) ?_
 rintro _ m1 ⟨rfl,H1,G1⟩
 have h1:=G1.at'
 have hSa:=arrive_ok hS
 have hrl:(arriveS s).regs.length=C.rg.toNat:=hSa.regs
 refine WNew.mk fun bn hbn=>?_
 refine WLd.mk (hv H1 (arriveS s) 1) ((h1.mono (Mem.le_set hbn)).cell rfl) ?_
 refine WApp.copyB hbn (A:=(H1 1).a) (n:=(arriveS s).regs.length) rfl rfl (flatL VR.cells (arriveS s).regs) ⟨flat_len vr_len _,fun ad had=>h1.fam.cellsAt (j:=1) (by unfold famN;omega) had⟩ (fun hn=>by
   obtain ⟨ar,har,_⟩:=h1.regCells (r:=0) (by rw [hrl];omega)
   rw [har] at hn;cases hn) (by rw [hrl];omega) fun rb rc mc rest lc hrc hrb hcp=>?_
 generalize hlwE:(((s.word+1:Nat)):Int)=lw
 have G1c:RfGoes m0 V C M sv lw p m H s mc H1 (arriveS s):=by
  have:=G1.trans (h1.goesMono lc)
  exact ⟨this.at'.anyLw he,this.keep,this.new⟩
 have hc:=G1c.at'
 have hrf:¬ FootS p H1 (arriveS s) rb:=h1.free hrb
 have hwR:wordR lw (arriveS s)=(s.word:Int):=by unfold wordR;rw [if_neg (by show ¬ s.ended=true;rw [he];decide)];rfl
 obtain ⟨ad,a3,c3,had,hcells,hops⟩:=word_cells hB.code hw
 rw [hW] at hcells hops
 refine WLd.mk (.slice V.a2 V.n2 V.c2) (by rw [add_add];exact hc.cell rfl) ?_
 refine WLd.mk (i (s.word:Int)) (hc.cell (by show some (i (wordR lw (arriveS s)))=_;rw [hwR])) ?_
 refine WIdx.mk ad had ⟨by omega,by rw [hB.code.n2];omega⟩ ?_
 refine WLds.mk _ (hcells.mono hc.le) rfl ?_
 conv=>whnf
 refine ⟨?_,trivial⟩
 conv=>whnf
 refine ⟨?_,trivial⟩
 refine WLd.mk (i (s.word:Int)) (hc.cell (by show some (i (wordR lw (arriveS s)))=_;rw [hwR])) ?_
 refine WRng.mk (by apply wrap_i64<;>omega) ?_
 conv=>whnf
 refine hc.setWord (w:=s.word+1) he (by omega) rfl fun m2 G2=>?_
 have G2:RfGoes m0 V C M sv lw p mc H1 (arriveS s) m2 H1 (goS s):=G2
 have hS2:StOK C (goS s):=⟨hSa.regs,hSa.kept,hSa.arr,hSa.way,hSa.rok,hSa.kok⟩
 have hl2:LimS (goS s) k:=(hl.arrive).same rfl rfl (.inl rfl) rfl
 obtain ⟨ao,co,eo,ho0,ho1,ho2⟩:=hops
 injection eo with eo1 eo2 eo3
 subst eo1;subst eo3
 have tail:∀ {m4:Mem} {H4:HdF} {s4:St},RfGoes m0 V C M sv lw p mc H1 (arriveS s) m4 H4 s4→s4=opsS C M sh W.ct W.ops (goS s)→LimS s4 (k+400) →
   wpI Tryz.prog fsTail (retPost [] fun e m'=>e=.returned unitV∧∃ H',RfGoes m0 V C M sv 0 p m H s m' H' (cycS C M sh s)) (envL [(0,.val (ptr p))]) m4:=fun {m4 H4 s4} G e hl4=>by
  have e2:cycS C M sh s={ s4 with took:=s4.took+1 }:=by unfold cycS;rw [hW,e]
  rw [e2]
  have Gt:=G1c.trans G
  exact fsTail_ok Gt.at' Gt.keep Gt.new hl4 (by omega)
 refine WLoop.mk (Nat×St×HdF) (fun x=>[(4,.val (i x.1))]) (fun x m'=>x.1≤W.ops.length∧RfGoes m0 V C M sv lw p mc H1 (arriveS s) m' x.2.2 x.2.1∧StOK C x.2.1∧x.2.1.ended=false∧x.2.1.word=s.word+1∧x.2.1.regs=(arriveS s).regs∧LimS x.2.1 (k+x.1) ∧
  opsS C M sh W.ct (W.ops.drop x.1) x.2.1=opsS C M sh W.ct W.ops (goS s)) (fun x=>W.ops.length - x.1) (0,goS s,H1) ⟨rfl,trivial⟩ ⟨Nat.zero_le _,G2,hS2,he,rfl,rfl,hl2,rfl⟩ ?_
 rintro ⟨j,sj,Hj⟩ m3 ⟨hj,G3,hSj,hej,hwj,hrj,hlj,hopj⟩
 simp only at hj G3 hSj hej hwj hrj hlj hopj
 have h3:=G3.at'
 have hlwj:(sj.word:Int)=lw:=by rw [hwj];exact hlwE
 have hrc3:CellsAt m3 ⟨rb,0,none⟩ (flatL VR.cells sj.regs):=by
  rw [hrj]
  exact CellsAt.blk (G3.keep rb _ hcp hrf) fun q v hq=>by rw [Nat.zero_add,List.getElem?_append_left (List.getElem?_eq_some_iff.1 hq).1];exact hq
 refine Br.mk (fun hb=>?_) (fun hb=>?_)
 ·have hj2:j<W.ops.length:=by
   have:(j:Int)<(W.ops.length:Nat):=of_decide_eq_true hb
   omega
  obtain ⟨aa,haa⟩:∃ aa,a3=some aa:=by
   cases a3 with
   | none=>rw [ho0 rfl] at hj2;simp at hj2
   | some aa=>exact ⟨aa,rfl⟩
  have hcj:=(OAt.cells (ho1 aa haa) hj2).mono h3.le
  have hOj:=hO _ (List.getElem_mem hj2)
  rw [List.drop_eq_getElem_cons hj2,opsS] at hopj
  have hgd:=hOj.gd
  generalize W.ops[j]=o at *
  have hdo:doS M sh sj o=bodyS M sh sj o→CallsM Tryz.prog 89 [ptr p,o.val,.slice (some ⟨rb,0,none⟩) (arriveS s).regs.length rc,i W.ct] m3 (OutPost m0 V C M sv lw p m3 Hj sj W.ct (doS M sh sj o)):=fun e=>by
   rw [e,← hrj]
   exact rfDo_ok h3 hB hSj hlwj hej hlj (by omega) hOj W.ct hrc3
  have hgr:o.gd≠-1→o.gd.toNat<sj.regs.length:=fun h=>by rw [hSj.regs];omega
  have hdS:doS M sh sj o=if o.gd≠-1∧(sj.reg o.gd).b≠0 then ⟨sj,(sj.reg o.gd).b,true,false⟩ else if o.gd≠-1∧(sj.reg o.gd).n=0 then ⟨sj,0,false,false⟩ else bodyS M sh sj o:=rfl
  have hSd:StOK C (doS M sh sj o).s:=do_ok hSj hOj
  have hld:LimS (doS M sh sj o).s (k+j+1):=hlj.do
  have hed:(doS M sh sj o).left=false→(doS M sh sj o).s.ended=false:=fun e=>by rw [do_end e];exact hej
  have hwd:(doS M sh sj o).left=false→(doS M sh sj o).s.word=sj.word:=(do_word hOj hwl.1).2
  have hrd:(doS M sh sj o).s.regs=sj.regs:=do_regs
  generalize hdd:doS M sh sj o=d at *
  refine WIdx.mk aa haa ⟨by omega,by omega⟩ ?_
  refine WLds.mk _ (by simpa using hcj) rfl ?_
  refine Br.mk (fun hg=>?_) (fun hg=>?_)
  ·have hg:o.gd≥0:=of_decide_eq_true hg
   have hg1:o.gd≠-1:=by omega
   have hrcg:=regs_cells hrc3 (hgr hg1)
   have hrn:(arriveS s).regs.length=sj.regs.length:=by rw [hrj]
   have hgr1:=hgr hg1
   refine WIdx.mk ⟨rb,0,none⟩ rfl ⟨by omega,by omega⟩ ?_
   refine WLds.mk (sj.reg o.gd).cells hrcg rfl ?_
   refine Br.mk (fun hq=>?_) (fun hq=>?_)
   ·have hq:(sj.reg o.gd).b≠0:=by
     have hq:((sj.reg o.gd).b != 0)=true:=hq
     simpa using hq
    rw [if_pos ⟨hg1,hq⟩] at hdS
    subst hdS
    rw [if_pos rfl] at hopj
    refine WCall.mk (rfTrap_ok h3 hB hSj hlwj hej (by have:=hlj.way;omega) W.ct (sj.reg o.gd).b) ?_
    rintro _ m4 ⟨rfl,H4,G4⟩
    conv=>whnf
    exact rest_envL (tail (G3.trans G4) hopj (hlj.trap.up (by omega))) ⟨rfl,trivial⟩
   ·have hq:¬ (sj.reg o.gd).b≠0:=by
     have hq:((sj.reg o.gd).b != 0)=false:=hq
     simpa using hq
    rw [if_neg (fun h=>hq h.2)] at hdS
    refine Br.mk (fun hz=>?_) (fun hz=>?_)
    ·have hz:(sj.reg o.gd).n=0:=by
      have hz:((sj.reg o.gd).n==0)=true:=hz
      simpa using hz
     rw [if_pos ⟨hg1,hz⟩] at hdS
     subst hdS
     rw [if_neg (fun h=>by cases h),if_neg (fun h=>by cases h)] at hopj
     refine WRng.mk (by apply wrap_i64<;>omega) ?_
     conv=>whnf
     exact ⟨(j+1,sj,Hj),⟨rfl,trivial⟩,⟨hj2,G3,hSj,hej,hwj,hrj,hlj.up (by omega),hopj⟩,Nat.sub_lt_sub_left hj2 (Nat.lt_succ_self j)⟩
    ·have hz:¬ (sj.reg o.gd).n=0:=by
      have hz:((sj.reg o.gd).n==0)=false:=hz
      simpa using hz
     rw [if_neg (fun h=>hz h.2)] at hdS
     refine WCall.mk (hdo hdS) ?_
     rintro _ m4 ⟨rfl,H4,G4⟩
     have G4:=G3.trans G4
     refine Br.mk (fun hx=>?_) (fun hx=>?_)
     ·have hx:(d.trap||d.left)=true:=hx
      conv=>whnf
      refine rest_envL (tail G4 ?_ ?_) ⟨rfl,trivial⟩
      ·unfold afterS
       cases ht:d.trap with
       | true=>rw [if_pos rfl];rw [if_pos ht] at hopj;exact hopj
       | false =>
        rw [ht,Bool.false_or] at hx
        rw [if_neg (by decide)];rw [if_neg (by rw [ht];decide),if_pos hx] at hopj;exact hopj
      ·unfold afterS
       split
       ·exact hld.trap.up (by omega)
       ·exact hld.up (by omega)
     ·have hx:(d.trap||d.left)=false:=hx
      rw [Bool.or_eq_false_iff] at hx
      rw [if_neg (by rw [hx.1];decide),if_neg (by rw [hx.2];decide)] at hopj
      have ea:afterS C W.ct d=d.s:=by unfold afterS;rw [if_neg (by rw [hx.1];decide)]
      rw [ea] at G4
      refine WRng.mk (by apply wrap_i64<;>omega) ?_
      conv=>whnf
      exact ⟨(j+1,d.s,H4),⟨rfl,trivial⟩,⟨hj2,G4,hSd,hed hx.2,(hwd hx.2).trans hwj,hrd.trans hrj,hld.up (by omega),hopj⟩,Nat.sub_lt_sub_left hj2 (Nat.lt_succ_self j)⟩
  ·have hg:¬ o.gd≥0:=of_decide_eq_false hg
   have hg1:¬ o.gd≠-1:=by omega
   rw [if_neg (fun h=>hg1 h.1),if_neg (fun h=>hg1 h.1)] at hdS
   refine WCall.mk (hdo hdS) ?_
   rintro _ m4 ⟨rfl,H4,G4⟩
   have G4:=G3.trans G4
   refine Br.mk (fun hx=>?_) (fun hx=>?_)
   ·have hx:(d.trap||d.left)=true:=hx
    conv=>whnf
    refine rest_envL (tail G4 ?_ ?_) ⟨rfl,trivial⟩
    ·unfold afterS
     cases ht:d.trap with
     | true=>rw [if_pos rfl];rw [if_pos ht] at hopj;exact hopj
     | false =>
      rw [ht,Bool.false_or] at hx
      rw [if_neg (by decide)];rw [if_neg (by rw [ht];decide),if_pos hx] at hopj;exact hopj
    ·unfold afterS
     split
     ·exact hld.trap.up (by omega)
     ·exact hld.up (by omega)
   ·have hx:(d.trap||d.left)=false:=hx
    rw [Bool.or_eq_false_iff] at hx
    rw [if_neg (by rw [hx.1];decide),if_neg (by rw [hx.2];decide)] at hopj
    have ea:afterS C W.ct d=d.s:=by unfold afterS;rw [if_neg (by rw [hx.1];decide)]
    rw [ea] at G4
    refine WRng.mk (by apply wrap_i64<;>omega) ?_
    conv=>whnf
    exact ⟨(j+1,d.s,H4),⟨rfl,trivial⟩,⟨hj2,G4,hSd,hed hx.2,(hwd hx.2).trans hwj,hrd.trans hrj,hld.up (by omega),hopj⟩,Nat.sub_lt_sub_left hj2 (Nat.lt_succ_self j)⟩
 ·have hj2:j=W.ops.length:=by
   have:¬ (j:Int)<(W.ops.length:Nat):=of_decide_eq_false hb
   omega
  subst hj2
  rw [List.drop_length] at hopj
  conv=>whnf
  exact rest_envL (tail G3 hopj (hlj.up (by omega))) ⟨rfl,trivial⟩
end
end Go.Proofs.YtleofbpepfmfgaaGreatDoor
