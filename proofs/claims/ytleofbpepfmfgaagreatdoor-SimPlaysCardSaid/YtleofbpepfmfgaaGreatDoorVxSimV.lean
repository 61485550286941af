import Derived.Test.YtleofbpepfmfgaaGreatDoorVxSimT
set_option linter.unusedSimpArgs false
set_option linter.unusedVariables false
set_option maxRecDepth 100000
namespace Go.Proofs.YtleofbpepfmfgaaGreatDoor
open Go Go.Vx
open Go.Vx.IOp Go.Vx.IR Go.Vx.Opd
def z5z:IR:=(match q8m.body with | .seq _ (.seq _ (.seq _ (.seq _ (.seq _ r))))=>r | r=>r)
def memA:IR:=(match q8m.body with | .seq a _=>a | r=>r)
def memB:IR:=(match q8m.body with | .seq _ (.seq b _)=>b | r=>r)
def memC:IR:=(match q8m.body with | .seq _ (.seq _ (.seq b _))=>b | r=>r)
def memD:IR:=(match q8m.body with | .seq _ (.seq _ (.seq _ (.seq b _)))=>b | r=>r)
def memE:IR:=(match q8m.body with | .seq _ (.seq _ (.seq _ (.seq _ (.seq b _))))=>b | r=>r)
theorem j1e:q8m.body=.seq memA (.seq memB (.seq memC (.seq memD (.seq memE z5z)))):=rfl
section
variable {m0 m m':Mem} {V:CV} {C:q0c} {M:Mac} {sv:Value} {p:Nat} {H:HdF} {s s':St} {sh:List Int}
def v7p (m0:Mem) (V:CV) (C:q0c) (M:Mac) (sv:Value) (p:Nat) (m:Mem) (H:HdF) (s r:St) (v:Value) (e:Ending) (m':Mem):Prop:=e=.returned v∧∃ H',Goes m0 V C M sv p m H s m' H' r
theorem w1v {m1:Mem} (h0:Goes m0 V C M sv p m1 H s m H s) (hB:q1m m0 V C M sv sh) (hS:StOK C s) {k:Nat} (hl:LimS s k) (hk:k≤1000000000) {o:OpR} (ho:OpOK C o)
  (hkd:o.kd=16∨o.kd=17∨o.kd=25) :
  wpI Tryz.prog z5z (q0i [.t 4] (v7p m0 V C M sv p m1 H s (memS M sh s o).1 (i (memS M sh s o).2)))
   (envL [(0,.val (ptr p)),(3,.var (q0k o.val)),(4,.val (i 0)),(5,.val (i (nMem s o))),(6,.val (.slice (H (o.n.toNat+5)).a (q3b s o).length (H (o.n.toNat+5)).c)),(7,.val (i (s.reg o.a).n))]) m:=by
 have h:=h0.at'
 have hds:=ho.ds
 have hb:=ho.b
 have n18:¬ o.kd=18:=by omega
 have n19:¬ o.kd=19:=by omega
 have hn:=ho.n.1 (by omega)
 have hal:s.arr.length=C.sz.length:=by have:=congrArg List.length hS.arr;simpa using this
 have hkA:o.n.toNat<s.arr.length:=by omega
 have hz:nMem s o=0→0≤(s.reg o.a).n∧(s.reg o.a).n<(q3b s o).length:=fun e=>by
  unfold nMem at e
  split at e
  ·exact absurd e (by decide)
  ·rename_i hh
   have:badN s o=0:=e
   simp only [this,true_and,not_or,ge_iff_le] at hh
   omega
 refine WSc.mk (v:=o.kd==25) (fun _=>And.intro (Mem.le.refl _) rfl) ?_
 refine Br.mk (fun hb1=>?_) (fun hb1=>?_)
 ·have hb1:nMem s o≠0∧o.kd=25:=by
   have hb1:(nMem s o != 0&&o.kd==25)=true:=hb1
   simpa using hb1
  have e:memS M sh s o=(q4b M sh s o ⟨0,nMem s o⟩,0):=by unfold memS;rw [if_neg n18,if_neg n19,if_pos hb1]
  conv=>whnf
  refine q0a.mk (z2x h hB hl hk o hds.1 ⟨0,nMem s o⟩) ?_
  rintro _ m2 ⟨rfl,H2,G2⟩
  refine WRet.same ⟨?_,H2,?_⟩
  ·rw [e];rfl
  ·rw [e];exact h0.trans G2
 ·have hb1:¬ (nMem s o≠0∧o.kd=25):=fun hh=>by
   have hb1:(nMem s o != 0&&o.kd==25)=false:=hb1
   rw [show (nMem s o != 0&&o.kd==25)=true by simpa using hh] at hb1;cases hb1
  refine Br.mk (fun hb2=>?_) (fun hb2=>?_)
  ·have hb2:nMem s o≠0:=by simpa using hb2
   have e:memS M sh s o=(s,nMem s o):=by unfold memS;rw [if_neg n18,if_neg n19,if_neg hb1,if_pos hb2]
   refine WRet.same ⟨?_,H,?_⟩
   ·rw [e];rfl
   ·rw [e];exact h0
  ·have hb2:¬ nMem s o≠0:=by simpa using hb2
   have hz:=hz (Decidable.not_not.1 hb2)
   have hzl:(s.reg o.a).n.toNat<(s.arr.getD o.n.toNat []).length:=by have:(s.reg o.a).n<(s.arr.getD o.n.toNat []).length:=hz.2;omega
   obtain ⟨ae,hae,hce⟩:=h.elemCell hkA hzl
   refine Br.mk (fun hb3=>?_) (fun hb3=>?_)
   ·have hb3:o.kd=17:=by simpa using hb3
    have e:memS M sh s o=({ s with arr:=s.arr.set o.n.toNat ((q3b s o).set (s.reg o.a).n.toNat (s.reg o.b).n) },0):=by unfold memS;rw [if_neg n18,if_neg n19,if_neg hb1,if_neg hb2,if_pos hb3]
    have hrb:o.b.toNat<s.regs.length:=by rw [hS.regs];omega
    obtain ⟨ar,har,hcr⟩:=h.regCells hrb
    refine WLd.mk (hv H s 1) (by rw [q0o];exact h.cell rfl) ?_
    refine WIdx.mk ar har ⟨hb.1,by show o.b<(s.regs.length:Nat);omega⟩ ?_
    refine WLd.mk (i (s.reg o.b).n) (hcr 0 _ rfl) ?_
    refine WIdx.mk ae hae hz ?_
    conv=>whnf
    refine ⟨?_,trivial⟩
    conv=>whnf
    rw [Nat.mul_one]
    refine h.setElem hkA hzl hae rfl fun m2 G2=>?_
    refine WRet.same ⟨?_,H,?_⟩
    ·rw [e];rfl
    ·rw [e];exact h0.trans G2
   ·have hb3:¬ o.kd=17:=by simpa using hb3
    have e:memS M sh s o=(q4b M sh s o ⟨(q3b s o).getD (s.reg o.a).n.toNat 0,0⟩,0):=by unfold memS;rw [if_neg n18,if_neg n19,if_neg hb1,if_neg hb2,if_neg hb3]
    refine WIdx.mk ae hae hz ?_
    conv=>whnf
    refine ⟨?_,trivial⟩
    refine WLd.mk _ (by rw [Nat.mul_one];exact hce) ?_
    conv=>whnf
    refine ⟨?_,trivial⟩
    conv=>whnf
    refine q0a.mk (z2x h hB hl hk o hds.1 ⟨(q3b s o).getD (s.reg o.a).n.toNat 0,0⟩) ?_
    rintro _ m2 ⟨rfl,H2,G2⟩
    refine WRet.same ⟨?_,H2,?_⟩
    ·rw [e];rfl
    ·rw [e];exact h0.trans G2
attribute [irreducible] z5z
theorem w1w {o:OpR} (hkd:o.kd=16∨o.kd=17∨o.kd=25):q9l s (q2x o 3)=badN s o∧(∀ r∈q2x o 3,r=o.a∨r=o.b):=by
 rcases hkd with e | e | e
 all_goals
  have e3:q2x o 3=(if o.kd=17 then [o.a,o.b] else [o.a]):=by unfold q2x;rw [e];rfl
  rw [e3];unfold badN
  rw [e]
 ·rw [if_neg (by decide),if_neg (show ¬ (16:Int)=17 by decide)]
  exact ⟨rfl,fun r hr=>.inl (List.mem_singleton.1 hr)⟩
 ·rw [if_pos rfl,if_pos rfl]
  refine ⟨?_,fun r hr=>by simpa using hr⟩
  show (if _ then _ else if _ then _ else _)=_
  by_cases h:(s.reg o.a).b≠0
  ·rw [if_pos h,if_pos h]
  ·rw [if_neg h,if_neg h]
   by_cases h2:(s.reg o.b).b≠0
   ·rw [if_pos h2]
   ·rw [if_neg h2];exact (Decidable.not_not.1 h2).symm
 ·rw [if_neg (by decide),if_neg (show ¬ (25:Int)=17 by decide)]
  exact ⟨rfl,fun r hr=>.inl (List.mem_singleton.1 hr)⟩
theorem k1q (h:q0l m0 m V C M sv p H s) (hB:q1m m0 V C M sv sh) (hS:StOK C s) {k:Nat} (hl:LimS s k) (hk:k≤1000000000) {o:OpR} (ho:OpOK C o) (hm:q4d o.kd=true) :
  q0f Tryz.prog 132 [ptr p,o.val] m (v7p m0 V C M sv p m H s (memS M sh s o).1 (i (memS M sh s o).2)):=by
 refine q0e q0d Tryz.func132 k7u rfl ?_
 obtain ⟨T,fr,hm0⟩:=hB.laid
 have hds:=ho.ds
 have ha:=ho.a
 have hb:=ho.b
 have hra:o.a.toNat<s.regs.length:=by rw [hS.regs];omega
 have hrb:o.b.toNat<s.regs.length:=by rw [hS.regs];omega
 obtain ⟨ar,har,hcr⟩:=h.regCells hra
 unfold Fn.asks
 rw [j1e]
 refine Br.mk (fun h18=>?_) (fun h18=>?_)
 ·have h18:o.kd=18:=by simpa using h18
  have e:memS M sh s o=(q4b M sh s o (s.kept.getD o.n.toNat VR.zero),0):=by unfold memS;rw [if_pos h18]
  have hn:=ho.n.2.1 (.inl h18)
  have hkn:o.n.toNat<s.kept.length:=by rw [hS.kept];omega
  obtain ⟨ak,hak,hck⟩:=h.keptCells hkn
  conv=>whnf
  refine ⟨?_,trivial⟩
  refine WLd.mk (hv H s 2) (by rw [q0o];exact h.cell rfl) ?_
  refine WIdx.mk ak hak ⟨hn.1,by show o.n<(s.kept.length:Nat);omega⟩ ?_
  refine WLds.mk _ hck rfl ?_
  conv=>whnf
  refine ⟨?_,trivial⟩
  conv=>whnf
  refine q0a.mk (z2x h hB hl hk o hds.1 (s.kept.getD o.n.toNat VR.zero)) ?_
  rintro _ m2 ⟨rfl,H2,G2⟩
  refine WRet.same ⟨?_,H2,?_⟩
  ·rw [e];rfl
  ·rw [e];exact G2
 have n18:¬ o.kd=18:=by simpa using h18
 refine Br.mk (fun h19=>?_) (fun h19=>?_)
 ·have h19:o.kd=19:=by simpa using h19
  have e:memS M sh s o=({ s with kept:=s.kept.set o.n.toNat (s.reg o.a) },0):=by unfold memS;rw [if_neg n18,if_pos h19]
  have hn:=ho.n.2.1 (.inr h19)
  have hkn:o.n.toNat<s.kept.length:=by rw [hS.kept];omega
  obtain ⟨ak,hak,hck⟩:=h.keptCells hkn
  refine WLd.mk (hv H s 2) (by rw [q0o];exact h.cell rfl) ?_
  refine WLd.mk (hv H s 1) (by rw [q0o];exact h.cell rfl) ?_
  refine WIdx.mk ar har ⟨ha.1,by show o.a<(s.regs.length:Nat);omega⟩ ?_
  refine WLds.mk _ hcr rfl ?_
  refine WIdx.mk ak hak ⟨hn.1,by show o.n<(s.kept.length:Nat);omega⟩ ?_
  conv=>whnf
  refine ⟨?_,trivial⟩
  conv=>whnf
  refine h.setKept hkn hak (v:=s.reg o.a) rfl fun m2 G2=>?_
  refine WRet.same ⟨?_,H,?_⟩
  ·rw [e];rfl
  ·rw [e];exact G2
 have n19:¬ o.kd=19:=by simpa using h19
 have hkd:o.kd=16∨o.kd=17∨o.kd=25:=by
  unfold q4d at hm
  simp only [Bool.or_eq_true,beq_iff_eq] at hm
  omega
 obtain ⟨eb,er⟩:=w1w (s:=s) hkd
 have hn:=ho.n.1 (by omega)
 have hal:s.arr.length=C.sz.length:=by have:=congrArg List.length hS.arr;simpa using this
 have hkA:o.n.toNat<s.arr.length:=by omega
 conv=>whnf
 refine q0a.mk (z4d (h.le _ _ hm0) o (by omega)) ?_
 rintro _ m1 ⟨a,c,rfl,l1,hP⟩
 have h1:=h.mono l1
 have hlen3:=z3d (o:=o) (k:=3)
 conv=>whnf
 refine q0a.pure (v7y h1 hP.iat (fun r hr=>by rcases er r hr with e | e<;>rw [e]<;>omega) (by omega)) ?_
 rw [eb]
 obtain ⟨ak,hak,hck⟩:=h1.rowCell hkA
 refine WLd.mk (hv H s 3) (by rw [q0o];exact h1.cell rfl) ?_
 refine WIdx.mk ak hak ⟨hn.1,by show o.n<(s.arr.length:Nat);omega⟩ ?_
 refine WLd.mk _ (by rw [Nat.mul_one];exact hck) ?_
 refine WLd.mk (hv H s 1) (by rw [q0o];exact h1.cell rfl) ?_
 refine WIdx.mk ar har ⟨ha.1,by show o.a<(s.regs.length:Nat);omega⟩ ?_
 refine WLd.mk (i (s.reg o.a).n) ((hcr.mono l1) 0 _ rfl) ?_
 refine WSc.mk (v:=decide ((s.reg o.a).n<0)||decide ((s.reg o.a).n≥(q3b s o).length)) (fun _=>?_) ?_
 ·refine WSc.mk (v:=decide ((s.reg o.a).n≥(q3b s o).length)) (fun _=>And.intro (Mem.le.refl _) rfl) ?_
  conv=>whnf
  exact And.intro (Mem.le.refl _) rfl
 conv=>whnf
 have tail:=w1v (h.goesMono l1) hB hS hl hk ho hkd
 refine Br.mk (fun hq=>?_) (fun hq=>?_)
 ·have hq:badN s o=0∧((s.reg o.a).n<0∨(s.reg o.a).n≥(q3b s o).length):=by
   have hq:(badN s o==0&&(decide ((s.reg o.a).n<0)||decide ((s.reg o.a).n≥(q3b s o).length)))=true:=hq
   simpa only [Bool.and_eq_true,beq_iff_eq,Bool.or_eq_true,decide_eq_true_eq] using hq
  have e:nMem s o=-1:=by unfold nMem;rw [if_pos hq]
  rw [e] at tail
  conv=>whnf
  exact q0x tail ⟨rfl,rfl,rfl,rfl,rfl,rfl,trivial⟩
 ·have hq:¬ (badN s o=0∧((s.reg o.a).n<0∨(s.reg o.a).n≥(q3b s o).length)):=fun hh=>by
   have hq:(badN s o==0&&(decide ((s.reg o.a).n<0)||decide ((s.reg o.a).n≥(q3b s o).length)))=false:=hq
   rw [show (badN s o==0&&(decide ((s.reg o.a).n<0)||decide ((s.reg o.a).n≥(q3b s o).length)))=true by simpa only [Bool.and_eq_true,beq_iff_eq,Bool.or_eq_true,decide_eq_true_eq] using hh] at hq
   cases hq
  have e:nMem s o=badN s o:=by unfold nMem;rw [if_neg hq]
  rw [e] at tail
  conv=>whnf
  exact q0x tail ⟨rfl,rfl,rfl,rfl,rfl,rfl,trivial⟩
end
section
variable {m0 m m':Mem} {V:CV} {C:q0c} {M:Mac} {sv:Value} {p:Nat} {H:HdF} {s s':St} {sh:List Int}
theorem w4z (H:HdF) (s:St) (L:List Int) (j:Nat) (hj:j≠0):numS { s with prints:=L } j=numS s j∧q0t H { s with prints:=L } j=q0t H s j:=by
 match j,hj with
 | 1,_=>exact ⟨rfl,rfl⟩
 | 2,_=>exact ⟨rfl,rfl⟩
 | 3,_=>exact ⟨rfl,rfl⟩
 | 4,_=>exact ⟨rfl,rfl⟩
 | j+5,_=>exact ⟨rfl,rfl⟩
theorem q0l.pushPrint (h:q0l m0 m V C M sv p H s) {bx:Nat} {z:Int} {K:Value→Mem→Prop} (hx:m bx=some (Cells [i z] T64)) (hl:s.prints.length≤1000000000)
  (k:∀ b' c' m',(∀ K':Mem→Prop,(∀ m2 H',Goes m0 V C M sv p m H s m2 H' { s with prints:=s.prints++[z] }→K' m2)→WSt m' ((⟨p,0,none⟩:Addr).add 5) [.slice (some ⟨b',0,none⟩) (s.prints.length+1) c'] K')→K (.slice (some ⟨b',0,none⟩) (s.prints.length+1) c') m') :
  WApp m T64 1 8 [i 0] (H 0).a s.prints.length (H 0).c (some ⟨bx,0,none⟩) 1 K:=by
 refine h.fam.app (k:=0) (by unfold famN;omega) rfl rfl rfl rfl (by decide) hx rfl rfl (by show (s.prints.length+1) * 8≤_;omega) (fun e=>by show s.prints.length=0;rw [h.nil0 e];rfl) ?_
 intro b' c' rest m' hm hc hr hb hx'
 have hpb:p≠b':=by
  rcases hb with hb | hb
  ·exact q3y h.hp hb
  ·exact fun e=>h.notp ⟨0,by unfold famN;omega,hb⟩ e.symm
 refine k b' c' m' fun K' hK=>?_
 have hp2:m' p=some (Cells (q1p V C M sv H s) TSim):=by rw [hx' p hpb];exact h.hp
 refine WSt.at _ _ hp2 (show 5+1≤28 by decide) ?_
 have e1:numS { s with prints:=s.prints++[z] } 0=s.prints.length+1:=by show (s.prints++[z]).length=_;rw [List.length_append];rfl
 have e2:q0t H { s with prints:=s.prints++[z] } 0=q0t H s 0++[i z]:=by show (s.prints++[z]).map i=_;rw [List.map_append];rfl
 have e3:q0j (q1p V C M sv H s) 5 [.slice (some ⟨b',0,none⟩) (s.prints.length+1) c']=q1p V C M sv (H.upd 0 ⟨some ⟨b',0,none⟩,c'⟩) { s with prints:=s.prints++[z] }:=by
  unfold q1p hv;rw [e1];rfl
 rw [e3]
 have hc:s.prints.length+1≤c':=hc
 have hL:(q0t H s 0).length=s.prints.length:=List.length_map _
 have hr:(q0t H s 0++[i z]).length+rest.length=c' * 1:=hr
 refine hK _ _ (h.relist (k:=0) (b:=b') (c:=c') (rest:=rest) (by decide) rfl (fun j hj=>w4z H s _ j hj) hb ?_ (Mem.set_same _ _ _) (fun x h1 h2=>?_) ?_ ?_ ?_ (fun e=>absurd rfl e) (fun _=>rfl))
 ·rw [Mem.set_other _ _ (Ne.symm hpb),e2];exact hm
 ·rw [Mem.set_other _ _ h2];exact hx' x h1
 ·rw [e1,e2,List.length_append,hL];show _+1=(s.prints.length+1) * 1;omega
 ·rw [e1];exact hc
 ·rw [e2];exact hr
def z7w (d:DoR):Value:=.tuple ⟨[i d.n,.bool d.trap,.bool d.left]⟩
def z3x (m0:Mem) (V:CV) (C:q0c) (M:Mac) (sv:Value) (p:Nat) (m:Mem) (H:HdF) (s:St) (d:DoR) (e:Ending) (m':Mem):Prop:=e=.returned (z7w d)∧∃ H',Goes m0 V C M sv p m H s m' H' d.s
theorem k3n (h:q0l m0 m V C M sv p H s) (hS:StOK C s) (he:s.ended=false) {k:Nat} (hl:LimS s k) (hk:k≤1000000000) {o:OpR} (ho:OpOK C o) (hO:q4r o.kd=true) :
  q0f Tryz.prog 133 [ptr p,o.val] m (z3x m0 V C M sv p m H s (outS s o)):=by
 refine q0e q0d Tryz.func133 k2g rfl ?_
 have ha:=ho.a
 have hra:o.a.toNat<s.regs.length:=by rw [hS.regs];omega
 obtain ⟨ar,har,hcr⟩:=h.regCells hra
 obtain ⟨l1,l2,l3,l4⟩:=hl
 refine Br.mk (fun h26=>?_) (fun h26=>?_)
 ·have h26:o.kd=26:=by simpa using h26
  have hn:=ho.n.2.2 (.inr h26)
  have e:outS s o=⟨{ s with word:=o.n.toNat },0,false,true⟩:=by unfold outS;rw [if_pos h26]
  conv=>whnf
  rw [q0o]
  refine h.setWord he (w:=o.n.toNat) (by omega) rfl fun m2 G2=>?_
  refine WRet.same ⟨?_,H,?_⟩
  ·rw [e];rfl
  ·rw [e];exact G2
 have n26:¬ o.kd=26:=by simpa using h26
 refine WLd.mk (hv H s 1) (by rw [q0o];exact h.cell rfl) ?_
 refine WIdx.mk ar har ⟨ha.1,by show o.a<(s.regs.length:Nat);omega⟩ ?_
 refine WLds.mk _ hcr rfl ?_
 conv=>whnf
 refine ⟨?_,trivial⟩
 conv=>whnf
 refine ⟨?_,trivial⟩
 refine Br.mk (fun hb=>?_) (fun hb=>?_)
 ·have hb:(s.reg o.a).b≠0:=by
   have hb:((s.reg o.a).b != 0)=true:=hb
   simpa using hb
  have e:outS s o=⟨s,(s.reg o.a).b,true,false⟩:=by unfold outS;rw [if_neg n26,if_pos hb]
  refine WRet.same ⟨?_,H,?_⟩
  ·rw [e];rfl
  ·rw [e];exact Goes.refl h
 have nb:¬ (s.reg o.a).b≠0:=by
  have hb:((s.reg o.a).b != 0)=false:=hb
  simpa using hb
 refine Br.mk (fun h20=>?_) (fun h20=>?_)
 ·have h20:o.kd=20:=by simpa using h20
  have e:outS s o=⟨{ s with prints:=s.prints++[(s.reg o.a).n] },0,false,false⟩:=by unfold outS;rw [if_neg n26,if_neg nb,if_pos h20]
  refine WLd.mk (hv H s 0) (by rw [q0o];exact h.cell rfl) ?_
  conv=>whnf
  refine ⟨?_,trivial⟩
  refine WNew.ab fun bx mx hbx lx cx=>?_
  conv=>whnf
  refine ⟨?_,trivial⟩
  conv=>whnf
  refine (h.mono lx).pushPrint (z:=(s.reg o.a).n) cx (by omega) fun b' c' m2 hst=>?_
  conv=>whnf
  refine ⟨?_,trivial⟩
  conv=>whnf
  rw [q0o]
  refine hst _ fun m3 H3 G3=>?_
  refine WRet.same ⟨?_,H3,?_⟩
  ·rw [e];rfl
  ·rw [e];exact (h.goesMono lx).trans G3
 have n20:¬ o.kd=20:=by simpa using h20
 refine Br.mk (fun h21=>?_) (fun h21=>?_)
 ·have h21:o.kd=21:=by simpa using h21
  have hn:=ho.n.2.2 (.inl h21)
  refine Br.mk (fun hz=>?_) (fun hz=>?_)
  ·have hz:(s.reg o.a).n≠0:=by
    have hz:((s.reg o.a).n != 0)=true:=hz
    simpa using hz
   have e:outS s o=⟨{ s with word:=o.n.toNat },0,false,true⟩:=by unfold outS;rw [if_neg n26,if_neg nb,if_neg n20,if_pos h21,if_pos hz]
   conv=>whnf
   rw [q0o]
   refine h.setWord he (w:=o.n.toNat) (by omega) rfl fun m2 G2=>?_
   refine WRet.same ⟨?_,H,?_⟩
   ·rw [e];rfl
   ·rw [e];exact G2
  ·have hz:¬ (s.reg o.a).n≠0:=by
    have hz:((s.reg o.a).n != 0)=false:=hz
    simpa using hz
   have e:outS s o=⟨s,0,false,false⟩:=by unfold outS;rw [if_neg n26,if_neg nb,if_neg n20,if_pos h21,if_neg hz]
   refine WRet.same ⟨?_,H,?_⟩
   ·rw [e];rfl
   ·rw [e];exact Goes.refl h
 have n21:¬ o.kd=21:=by simpa using h21
 refine Br.mk (fun h27=>?_) (fun h27=>?_)
 ·have h27:o.kd=27:=by simpa using h27
  have e:outS s o=⟨endS s 1 (s.reg o.a).n,0,false,true⟩:=by unfold outS;rw [if_neg n26,if_neg nb,if_neg n20,if_neg n21,if_pos h27]
  conv=>whnf
  refine q0a.mk (v0p h 1 (s.reg o.a).n) ?_
  rintro _ m2 ⟨rfl,G2⟩
  refine WRet.same ⟨?_,H.upd 4 ⟨none,0⟩,?_⟩
  ·rw [e];rfl
  ·rw [e];exact G2
 have n27:¬ o.kd=27:=by simpa using h27
 refine Br.mk (fun h28=>?_) (fun h28=>?_)
 ·have h28:o.kd=28:=by simpa using h28
  have e:outS s o=⟨s,(s.reg o.a).n,true,false⟩:=by unfold outS;rw [if_neg n26,if_neg nb,if_neg n20,if_neg n21,if_neg n27,if_pos h28]
  refine WRet.same ⟨?_,H,?_⟩
  ·rw [e];rfl
  ·rw [e];exact Goes.refl h
 have n28:¬ o.kd=28:=by simpa using h28
 have e:outS s o=⟨s,0,false,false⟩:=by unfold outS;rw [if_neg n26,if_neg nb,if_neg n20,if_neg n21,if_neg n27,if_neg n28]
 refine WRet.same ⟨?_,H,?_⟩
 ·rw [e];rfl
 ·rw [e];exact Goes.refl h
end
theorem q8c {P:Program} {n:Nat} {a b:IR} {Q:Post} {e:Env} {m:Mem} (he:e n=some (.val (.bool true))) (h:wpI P a Q (e.upd n (.val (.bool true))) m):wpI P (.cond (.t n) a b) Q e m:=by
 show (match e n with | some (.val (.bool q))=>Br q (wpI P a Q (e.upd n (.val (.bool true))) m) (wpI P b Q (e.upd n (.val (.bool false))) m) | _=>False)
 rw [he]
 exact Br.mk (fun _=>h) (fun hh=>by cases hh)
def z9o:IR:=(match z0t.body with | .seq _ (.seq _ (.seq _ r))=>r | r=>r)
def doA:IR:=(match z0t.body with | .seq a _=>a | r=>r)
def doB:IR:=(match z0t.body with | .seq _ (.seq b _)=>b | r=>r)
def doC:IR:=(match z0t.body with | .seq _ (.seq _ (.seq b _))=>b | r=>r)
def z6y:IR:=.seq doC z9o
theorem k7o:z0t.body=.seq doA (.seq doB z6y):=rfl
section
variable {m0 m m':Mem} {V:CV} {C:q0c} {M:Mac} {sv:Value} {p:Nat} {H:HdF} {s s':St} {sh:List Int}
theorem j5t (h:q0l m0 m V C M sv p H s) (hB:q1m m0 V C M sv sh) (hS:StOK C s) (he:s.ended=false) {k:Nat} (hl:LimS s k) (hk:k≤1000000000) {o:OpR} (ho:OpOK C o) (hm:q4d o.kd=false) (hO:q4r o.kd=false) :
  wpI Tryz.prog z9o (q0i [.t 4,.t 5,.t 6] (z3x m0 V C M sv p m H s (q1x M sh s o))) (envL [(0,.val (ptr p)),(3,.var (q0k o.val)),(4,.val (i 0)),(5,.val (.bool false)),(6,.val (.bool false))]) m:=by
 have hk2:=ho.kd
 have ds:=ho.ds
 have ha:=ho.a
 have hb:=ho.b
 have hc:=ho.c
 have hM:q9n o.kd=true:=by
  have hm':=hm
  have hO':=hO
  unfold q4d at hm'
  unfold q4r at hO'
  simp only [Bool.or_eq_false_iff,beq_eq_false_iff_ne,ne_eq] at hm' hO'
  have:o.kd=1∨o.kd=2∨o.kd=12∨o.kd=3∨o.kd=4∨o.kd=5∨o.kd=6∨o.kd=7∨o.kd=8∨o.kd=9∨o.kd=10∨o.kd=11∨o.kd=13∨o.kd=14∨o.kd=15∨o.kd=23∨o.kd=24:=by omega
  rcases this with e | e | e | e | e | e | e | e | e | e | e | e | e | e | e | e | e<;>rw [e]<;>rfl
 have hra:o.a.toNat<s.regs.length:=by rw [hS.regs];omega
 have hrb:o.b.toNat<s.regs.length:=by rw [hS.regs];omega
 have hrc:o.c.toNat<s.regs.length:=by rw [hS.regs];omega
 obtain ⟨ar,har,hca⟩:=h.regCells hra
 obtain ⟨ar2,har2,hcb⟩:=h.regCells hrb
 obtain ⟨ar3,har3,hcc⟩:=h.regCells hrc
 have hdo:q0f Tryz.prog 134 [o.val,(s.reg o.a).val,(s.reg o.b).val,(s.reg o.c).val] m fun e m'=>e=.returned (.tuple ⟨[(q1u o (s.reg o.a) (s.reg o.b) (s.reg o.c)).1.val,i (q1u o (s.reg o.a) (s.reg o.b) (s.reg o.c)).2,i 0]⟩)∧Mem.le m m' :=
  k3u m o hM _ _ _ (hS.reg _) (hS.reg _) (hS.reg _)
 have hR:q0q m (((⟨p,0,none⟩:Addr).add 0).add 6) (hv H s 1):=by rw [q0o];exact h.cell rfl
 generalize hdv:q1u o (s.reg o.a) (s.reg o.b) (s.reg o.c)=dv at hdo
 have e:q1x M sh s o=if dv.2≠0 then ⟨s,dv.2,true,false⟩ else ⟨q4b M sh s o dv.1,0,false,false⟩:=by unfold q1x;rw [if_neg (by rw [hm];decide),if_neg (by rw [hO];decide),hdv]
 refine WLd.mk _ hR ?_
 refine WIdx.mk ar har ⟨ha.1,by show o.a<(s.regs.length:Nat);omega⟩ ?_
 refine WLds.mk _ hca rfl ?_
 refine WLd.mk _ hR ?_
 refine WIdx.mk ar2 har2 ⟨hb.1,by show o.b<(s.regs.length:Nat);omega⟩ ?_
 refine WLds.mk _ hcb rfl ?_
 refine WLd.mk _ hR ?_
 refine WIdx.mk ar3 har3 ⟨hc.1,by show o.c<(s.regs.length:Nat);omega⟩ ?_
 refine WLds.mk _ hcc rfl ?_
 conv=>whnf
 refine ⟨?_,?_,trivial⟩
 ·conv=>whnf
  refine q1r.mk hdo ?_
  rintro _ m2 ⟨rfl,hle⟩
  refine ⟨hle,?_⟩
  conv=>whnf
  refine ⟨?_,trivial⟩
  conv=>whnf
  refine ⟨?_,trivial⟩
  refine Br.mk (fun hq=>?_) (fun hq=>?_)
  ·have hq:dv.2≠0:=by
    have hq:(dv.2 != 0)=true:=hq
    simpa using hq
   refine WRet.same ⟨?_,H,?_⟩
   ·rw [e,if_pos hq];rfl
   ·rw [e,if_pos hq];exact h.goesMono hle
  ·have hq:¬ dv.2≠0:=by
    have hq:(dv.2 != 0)=false:=hq
    simpa using hq
   conv=>whnf
   refine q0a.mk (z2x (h.mono hle) hB hl hk o ds.1 dv.1) ?_
   rintro _ m3 ⟨rfl,H3,G3⟩
   refine WRet.same ⟨?_,H3,?_⟩
   ·rw [e,if_neg hq];rfl
   ·rw [e,if_neg hq];exact (h.goesMono hle).trans G3
 ·conv=>whnf
  refine ⟨?_,trivial⟩
  conv=>whnf
  refine q1r.mk hdo ?_
  rintro _ m2 ⟨rfl,hle⟩
  refine ⟨hle,?_⟩
  conv=>whnf
  refine ⟨?_,trivial⟩
  refine Br.mk (fun hq=>?_) (fun hq=>?_)
  ·have hq:dv.2≠0:=by
    have hq:(dv.2 != 0)=true:=hq
    simpa using hq
   refine WRet.same ⟨?_,H,?_⟩
   ·rw [e,if_pos hq];rfl
   ·rw [e,if_pos hq];exact h.goesMono hle
  ·have hq:¬ dv.2≠0:=by
    have hq:(dv.2 != 0)=false:=hq
    simpa using hq
   conv=>whnf
   refine q0a.mk (z2x (h.mono hle) hB hl hk o ds.1 dv.1) ?_
   rintro _ m3 ⟨rfl,H3,G3⟩
   refine WRet.same ⟨?_,H3,?_⟩
   ·rw [e,if_neg hq];rfl
   ·rw [e,if_neg hq];exact (h.goesMono hle).trans G3
attribute [irreducible] z9o
theorem j2w (h:q0l m0 m V C M sv p H s) (hB:q1m m0 V C M sv sh) (hS:StOK C s) (he:s.ended=false) {k:Nat} (hl:LimS s k) (hk:k≤1000000000) {o:OpR} (ho:OpOK C o) :
  wpI Tryz.prog z6y (q0i [.t 4,.t 5,.t 6] (z3x m0 V C M sv p m H s (q1x M sh s o))) (envL [(0,.val (ptr p)),(3,.var (q0k o.val)),(4,.val (i 0)),(5,.val (.bool false)),(6,.val (.bool false))]) m:=by
 have memCase:q4d o.kd=true→q0f Tryz.prog 132 [ptr p,o.val] m fun e m'=>∃ z,e=.returned (i z)∧∃ H',Goes m0 V C M sv p m H s m' H' (q1x M sh s o).s∧Ending.returned (.tuple ⟨[i z,.bool (z != 0),.bool false]⟩)=.returned (z7w (q1x M sh s o)):=fun hm=>by
  have e:q1x M sh s o=⟨(memS M sh s o).1,(memS M sh s o).2,(memS M sh s o).2 != 0,false⟩:=by unfold q1x;rw [if_pos hm]
  refine q0f.mono (k1q h hB hS hl hk ho hm) ?_
  rintro en m' ⟨rfl,H',G⟩
  exact ⟨_,rfl,H',by rw [e];exact G,by rw [e];rfl⟩
 have outCase:q4d o.kd=false→q4r o.kd=true→q0f Tryz.prog 133 [ptr p,o.val] m fun e m'=>∃ z t l,e=.returned (.tuple ⟨[i z,.bool t,.bool l]⟩)∧∃ H',Goes m0 V C M sv p m H s m' H' (q1x M sh s o).s∧Ending.returned (.tuple ⟨[i z,.bool t,.bool l]⟩)=.returned (z7w (q1x M sh s o)):=fun hm hO=>by
  have e:q1x M sh s o=outS s o:=by unfold q1x;rw [if_neg (by rw [hm];decide),if_pos hO]
  refine q0f.mono (k3n h hS he hl hk ho hO) ?_
  rintro en m' ⟨rfl,H',G⟩
  exact ⟨_,_,_,rfl,H',by rw [e];exact G,by rw [e];rfl⟩
 refine Br.mk (fun hh=>?_) (fun g18=>?_)
 ·have hc:o.kd=18:=by simpa using hh
  refine q5l (q8c rfl ?_)
  conv=>whnf
  refine q0a.mk (memCase (by rw [hc];rfl)) ?_
  rintro _ m2 ⟨z,rfl,H2,G2,e2⟩
  exact WRet.same ⟨e2,H2,G2⟩
 have g18:¬ o.kd=18:=by simpa using g18
 refine Br.mk (fun hh=>?_) (fun g19=>?_)
 ·have hc:o.kd=19:=by simpa using hh
  refine q5l (q8c rfl ?_)
  conv=>whnf
  refine q0a.mk (memCase (by rw [hc];rfl)) ?_
  rintro _ m2 ⟨z,rfl,H2,G2,e2⟩
  exact WRet.same ⟨e2,H2,G2⟩
 have g19:¬ o.kd=19:=by simpa using g19
 refine Br.mk (fun hh=>?_) (fun g16=>?_)
 ·have hc:o.kd=16:=by simpa using hh
  refine q5l (q8c rfl ?_)
  conv=>whnf
  refine q0a.mk (memCase (by rw [hc];rfl)) ?_
  rintro _ m2 ⟨z,rfl,H2,G2,e2⟩
  exact WRet.same ⟨e2,H2,G2⟩
 have g16:¬ o.kd=16:=by simpa using g16
 refine Br.mk (fun hh=>?_) (fun g25=>?_)
 ·have hc:o.kd=25:=by simpa using hh
  refine q5l (q8c rfl ?_)
  conv=>whnf
  refine q0a.mk (memCase (by rw [hc];rfl)) ?_
  rintro _ m2 ⟨z,rfl,H2,G2,e2⟩
  exact WRet.same ⟨e2,H2,G2⟩
 have g25:¬ o.kd=25:=by simpa using g25
 refine Br.mk (fun hh=>?_) (fun g17=>?_)
 ·have hc:o.kd=17:=by simpa using hh
  conv=>whnf
  refine q0a.mk (memCase (by rw [hc];rfl)) ?_
  rintro _ m2 ⟨z,rfl,H2,G2,e2⟩
  exact WRet.same ⟨e2,H2,G2⟩
 have g17:¬ o.kd=17:=by simpa using g17
 have hm:q4d o.kd=false:=by unfold q4d;simp [g18,g19,g16,g25,g17]
 refine Br.mk (fun hh=>?_) (fun g20=>?_)
 ·have hc:o.kd=20:=by simpa using hh
  refine q5l (q8c rfl ?_)
  conv=>whnf
  refine q0a.mk (outCase hm (by rw [hc];rfl)) ?_
  rintro _ m2 ⟨z,t,l,rfl,H2,G2,e2⟩
  exact WRet.same ⟨e2,H2,G2⟩
 have g20:¬ o.kd=20:=by simpa using g20
 refine Br.mk (fun hh=>?_) (fun g21=>?_)
 ·have hc:o.kd=21:=by simpa using hh
  refine q5l (q8c rfl ?_)
  conv=>whnf
  refine q0a.mk (outCase hm (by rw [hc];rfl)) ?_
  rintro _ m2 ⟨z,t,l,rfl,H2,G2,e2⟩
  exact WRet.same ⟨e2,H2,G2⟩
 have g21:¬ o.kd=21:=by simpa using g21
 refine Br.mk (fun hh=>?_) (fun g22=>?_)
 ·have hc:o.kd=22:=by simpa using hh
  refine q5l (q8c rfl ?_)
  conv=>whnf
  refine q0a.mk (outCase hm (by rw [hc];rfl)) ?_
  rintro _ m2 ⟨z,t,l,rfl,H2,G2,e2⟩
  exact WRet.same ⟨e2,H2,G2⟩
 have g22:¬ o.kd=22:=by simpa using g22
 refine Br.mk (fun hh=>?_) (fun g26=>?_)
 ·have hc:o.kd=26:=by simpa using hh
  refine q5l (q8c rfl ?_)
  conv=>whnf
  refine q0a.mk (outCase hm (by rw [hc];rfl)) ?_
  rintro _ m2 ⟨z,t,l,rfl,H2,G2,e2⟩
  exact WRet.same ⟨e2,H2,G2⟩
 have g26:¬ o.kd=26:=by simpa using g26
 refine Br.mk (fun hh=>?_) (fun g27=>?_)
 ·have hc:o.kd=27:=by simpa using hh
  refine q5l (q8c rfl ?_)
  conv=>whnf
  refine q0a.mk (outCase hm (by rw [hc];rfl)) ?_
  rintro _ m2 ⟨z,t,l,rfl,H2,G2,e2⟩
  exact WRet.same ⟨e2,H2,G2⟩
 have g27:¬ o.kd=27:=by simpa using g27
 refine Br.mk (fun hh=>?_) (fun g28=>?_)
 ·have hc:o.kd=28:=by simpa using hh
  conv=>whnf
  refine q0a.mk (outCase hm (by rw [hc];rfl)) ?_
  rintro _ m2 ⟨z,t,l,rfl,H2,G2,e2⟩
  exact WRet.same ⟨e2,H2,G2⟩
 have g28:¬ o.kd=28:=by simpa using g28
 have hO:q4r o.kd=false:=by unfold q4r;simp [g20,g21,g22,g26,g27,g28]
 conv=>whnf
 exact q0x (j5t h hB hS he hl hk ho hm hO) ⟨rfl,rfl,rfl,rfl,rfl,trivial⟩
attribute [irreducible] z6y
end
end Go.Proofs.YtleofbpepfmfgaaGreatDoor
