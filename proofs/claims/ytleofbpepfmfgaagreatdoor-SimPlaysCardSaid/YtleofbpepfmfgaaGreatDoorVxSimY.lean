import Derived.Test.YtleofbpepfmfgaaGreatDoorVxRfA
set_option linter.unusedSimpArgs false
set_option linter.unusedVariables false
set_option maxRecDepth 100000
namespace Go.Proofs.YtleofbpepfmfgaaGreatDoor
open Go Go.Vx
open Go.Vx.IOp Go.Vx.IR Go.Vx.Opd
section
variable {m0 m m' m2 m3:Mem} {V:CV} {C:q0c} {M:Mac} {sv:Value} {lw:Int} {p:Nat} {H:HdF} {s s' s1:St} {sh:List Int}
theorem RfAt.setWord (h:RfAt m0 m V C M sv lw p H s) (he:s.ended=false) {w:Nat} {z:Int} (hz:z=(w:Int)) {K:Mem→Prop} {vs:List Value} (hvs:vs=[i z])
  (k:∀ m',q1d m0 V C M sv lw p m H s m' H { s with word:=w }→K m'):WSt m ((⟨p,0,none⟩:Addr).add 24) vs K:=by
 subst hvs;subst hz
 refine h.setInt { s with word:=w } ?_ (show 24+1≤29 by decide) rfl rfl rfl rfl rfl k
 have:q5w lw { s with word:=w }=(w:Int):=by unfold q5w;rw [if_neg (by show ¬ s.ended=true;rw [he];decide)]
 unfold q1l
 rw [this];rfl
theorem z3r (h:RfAt m0 m V C M sv lw p H s) (hB:q1m m0 V C M sv sh) (hS:StOK C s) (hlw:s.word=lw) (he:s.ended=false) (hl:s.way.length≤1000000000) (ct n:Int) :
  q0f Tryz.prog 88 [ptr p,i n,i ct] m fun e m'=>e=.returned q2r∧∃ H',q1d m0 V C M sv lw p m H s m' H' (q5i C s ct n):=by
 refine q0e q0d Tryz.func88 k2d rfl ?_
 refine Br.mk (fun hb=>?_) (fun hb=>?_)
 ·have hb:ct<0:=of_decide_eq_true hb
  conv=>whnf
  refine q0a.mk (v7f h hlw he 2 n) ?_
  rintro _ m1 ⟨rfl,G⟩
  refine WRet.same ⟨rfl,H.upd 4 ⟨none,0⟩,?_⟩
  unfold q5i;rw [if_pos hb];exact G
 ·have hb:¬ ct<0:=of_decide_eq_false hb
  have hcd:=hB.ok.cd
  have hr:C.cd.toNat<(q4y s).regs.length:=by show _<(q1h _ _).length;rw [q8i,hS.regs];omega
  conv=>whnf
  refine q0a.mk (v0v h (fun w hw=>by rw [hS.regs];exact (hS.way w hw).1) (by omega)) ?_
  rintro _ m1 ⟨rfl,G⟩
  have h1:=G.at'
  obtain ⟨ad,ha,hc⟩:=h1.regCells hr
  refine WLd.mk (hv (H.upd 4 ⟨none,0⟩) (q4y s) 1) (h1.cell rfl) ?_
  refine WLd.mk (i C.cd) (by rw [q0o];exact h1.cell rfl) ?_
  refine WIdx.mk ad ha ⟨by omega,by show C.cd<((q4y s).regs.length:Nat);omega⟩ ?_
  conv=>whnf
  refine ⟨?_,trivial⟩
  conv=>whnf
  refine h1.setReg hr ha (v:=⟨n,0⟩) rfl fun m2 G2=>?_
  conv=>whnf
  refine G2.at'.setWord (w:=ct.toNat) he (by omega) rfl fun m3 G3=>?_
  refine WRet.same ⟨rfl,H.upd 4 ⟨none,0⟩,?_⟩
  unfold q5i;rw [if_neg hb]
  exact G.trans (G2.trans G3)
theorem k6c (h:RfAt m0 m V C M sv lw p H s) {o:OpR} (hn:0≤o.n∧o.n<s.arr.length) (z:Int) :
  q0m Tryz.prog 144 [ptr p,o.val,i z] m (if 0≤z∧z<(q3b s o).length then .tuple ⟨[.pointer ((H (o.n.toNat+5)).a.map (·.add (z.toNat * 1))),.bool true]⟩ else .tuple ⟨[np,.bool false]⟩):=by
 refine q0e q0d Tryz.func144 w3c rfl ?_
 obtain ⟨ad,ha,hc⟩:=h.rowCell (k:=o.n.toNat) (by omega)
 refine WLd.mk (hv H s 3) (h.cell rfl) ?_
 refine WIdx.mk ad ha ⟨hn.1,by show o.n<(s.arr.length:Nat);omega⟩ ?_
 refine WLd.mk (.slice (H (o.n.toNat+5)).a (s.arr.getD o.n.toNat []).length (H (o.n.toNat+5)).c) (by simpa using hc) ?_
 refine WSc.mk (v:=decide (z≥(((s.arr.getD o.n.toNat []).length:Nat):Int))) (fun _=>And.intro (Mem.le.refl _) rfl) ?_
 refine Br.mk (fun hb=>?_) (fun hb=>?_)
 ·have hb:(decide (z<0)||decide (z≥(((s.arr.getD o.n.toNat []).length:Nat):Int)))=true:=hb
  simp only [Bool.or_eq_true,decide_eq_true_eq] at hb
  refine WRet.same ⟨?_,rfl⟩
  rw [if_neg (by show ¬ (0≤z∧z<(((s.arr.getD o.n.toNat []).length:Nat):Int));omega)];rfl
 ·have hb:(decide (z<0)||decide (z≥(((s.arr.getD o.n.toNat []).length:Nat):Int)))=false:=hb
  simp only [Bool.or_eq_false_iff,decide_eq_false_iff_not] at hb
  obtain ⟨ae,hae,_⟩:=h.elemCell (k:=o.n.toNat) (q:=z.toNat) (by omega) (by omega)
  refine WIdx.mk ae hae ⟨by omega,by omega⟩ ?_
  refine WRet.same ⟨?_,rfl⟩
  rw [if_pos (by show (0≤z∧z<(((s.arr.getD o.n.toNat []).length:Nat):Int));omega),hae];rfl
end
section
variable {m0 m m' m2 m3:Mem} {V:CV} {C:q0c} {M:Mac} {sv:Value} {lw:Int} {p:Nat} {H:HdF} {s s' s1:St} {sh:List Int}
def q7t (C:q0c) (ct:Int) (d:DoR):St:=if d.trap=true then q5i C d.s ct d.n else d.s
def q7c (m0:Mem) (V:CV) (C:q0c) (M:Mac) (sv:Value) (lw:Int) (p:Nat) (m:Mem) (H:HdF) (s:St) (ct:Int) (d:DoR) (e:Ending) (m':Mem):Prop:=e=.returned (.bool (d.trap||d.left))∧∃ H',q1d m0 V C M sv lw p m H s m' H' (q7t C ct d)
theorem j3p (h:RfAt m0 m V C M sv lw p H s) (hB:q1m m0 V C M sv sh) (hS:StOK C s) (hlw:s.word=lw) (he:s.ended=false) {k:Nat} (hl:LimS s k) (hk:k≤1000000000) {o:OpR} (ho:OpOK C o) (hO:o.kd=20∨o.kd=21∨o.kd=22∨o.kd=27∨o.kd=28) (ct:Int) :
  q0f Tryz.prog 120 [ptr p,o.val,(s.reg o.a).val,i ct] m (q7c m0 V C M sv lw p m H s ct (outS s o)):=by
 refine q0e q0d Tryz.func120 k8l rfl ?_
 obtain ⟨l1,l2,l3,l4⟩:=hl
 have h26:¬ o.kd=26:=by omega
 have htr:=fun n=>z3r h hB hS hlw he (by omega) ct n
 generalize hz:s.reg o.a=z at *
 refine Br.mk (fun hb=>?_) (fun hb=>?_)
 ·have hb:z.b≠0:=by simpa using hb
  have e:outS s o=⟨s,z.b,true,false⟩:=by unfold outS;rw [if_neg h26,hz,if_pos hb]
  rw [e]
  conv=>whnf
  refine q0a.mk (htr z.b) ?_
  rintro _ m1 ⟨rfl,H1,G⟩
  exact WRet.same ⟨rfl,H1,G⟩
 have hb:¬ z.b≠0:=by simpa using hb
 refine Br.mk (fun h20=>?_) (fun h20=>?_)
 ·have h20:o.kd=20:=by simpa using h20
  have e:outS s o=⟨{ s with prints:=s.prints++[z.n] },0,false,false⟩:=by unfold outS;rw [if_neg h26,hz,if_neg hb,if_pos h20]
  rw [e]
  refine WLd.mk (hv H s 0) (by rw [q0o];exact h.cell rfl) ?_
  conv=>whnf
  refine ⟨?_,trivial⟩
  refine WNew.ab fun bx mx hbx lx cx=>?_
  have cx2:mx bx=some (Cells [i z.n] T64):=cx
  conv=>whnf
  refine ⟨?_,trivial⟩
  conv=>whnf
  refine (h.mono lx).pushPrint cx2 (by omega) fun b' c' m2 hst=>?_
  conv=>whnf
  refine ⟨?_,trivial⟩
  conv=>whnf
  rw [q0o]
  refine hst _ fun m3 H3 G3=>?_
  exact WRet.same ⟨rfl,H3,(h.goesMono lx).trans G3⟩
 have h20:¬ o.kd=20:=by simpa using h20
 refine Br.mk (fun h27=>?_) (fun h27=>?_)
 ·have h27:o.kd=27:=by simpa using h27
  have e:outS s o=⟨endS s 1 z.n,0,false,true⟩:=by unfold outS;rw [if_neg h26,hz,if_neg hb,if_neg h20,if_neg (by omega),if_pos h27]
  rw [e]
  conv=>whnf
  refine q0a.mk (v7f h hlw he 1 z.n) ?_
  rintro _ m1 ⟨rfl,G⟩
  exact WRet.same ⟨rfl,_,G⟩
 have h27:¬ o.kd=27:=by simpa using h27
 refine Br.mk (fun h28=>?_) (fun h28=>?_)
 ·have h28:o.kd=28:=by simpa using h28
  have e:outS s o=⟨s,z.n,true,false⟩:=by unfold outS;rw [if_neg h26,hz,if_neg hb,if_neg h20,if_neg (by omega),if_neg h27,if_pos h28]
  rw [e]
  conv=>whnf
  refine q0a.mk (htr z.n) ?_
  rintro _ m1 ⟨rfl,H1,G⟩
  exact WRet.same ⟨rfl,H1,G⟩
 have h28:¬ o.kd=28:=by simpa using h28
 refine WSc.mk (v:=z.n != 0) (fun _=>And.intro (Mem.le.refl _) rfl) ?_
 refine Br.mk (fun h21=>?_) (fun h21=>?_)
 ·have h21:(o.kd==21&&z.n != 0)=true:=h21
  simp only [Bool.and_eq_true,beq_iff_eq,bne_iff_ne,ne_eq] at h21
  have hn:=ho.n.2.2 (.inl h21.1)
  have e:outS s o=⟨{ s with word:=o.n.toNat },0,false,true⟩:=by unfold outS;rw [if_neg h26,hz,if_neg hb,if_neg h20,if_pos h21.1,if_pos h21.2]
  rw [e]
  conv=>whnf
  refine h.setWord (w:=o.n.toNat) he (by omega) rfl fun m3 G3=>?_
  exact WRet.same ⟨rfl,H,G3⟩
 ·have h21:(o.kd==21&&z.n != 0)=false:=h21
  have e:outS s o=⟨s,0,false,false⟩:=by
   unfold outS
   rw [if_neg h26,hz,if_neg hb,if_neg h20]
   by_cases hh:o.kd=21
   ·have:z.n=0:=by rw [hh] at h21;simpa using h21
    rw [if_pos hh,if_neg (by omega)]
   ·rw [if_neg hh,if_neg h27,if_neg h28]
  rw [e]
  exact WRet.same ⟨rfl,H,q1d.refl h⟩
end
def z4w:IR:=(match z5u.body with | .seq _ (.seq _ (.seq _ r))=>r | r=>r)
def z8n:Nat→IR:=fun k=>match k,z5u.body with
 | 0,.seq a _=>a
 | 1,.seq _ (.seq a _)=>a
 | 2,.seq _ (.seq _ (.seq a _))=>a
 | _,r=>r
theorem k9d:z5u.body=.seq (z8n 0) (.seq (z8n 1) (.seq (z8n 2) z4w)):=rfl
section
variable {m0 m m' m2 m3:Mem} {V:CV} {C:q0c} {M:Mac} {sv:Value} {lw:Int} {p:Nat} {H:HdF} {s s' s1:St} {sh:List Int}
def q6e (M:Mac) (sh:List Int) (s:St) (o:OpR):DoR:=⟨(memS M sh s o).1,(memS M sh s o).2,(memS M sh s o).2 != 0,false⟩
theorem k1b (h:RfAt m0 m V C M sv lw p H s) (hB:q1m m0 V C M sv sh) (hS:StOK C s) (hlw:s.word=lw) (he:s.ended=false) {k:Nat} (hl:LimS s k) (hk:k≤1000000000) {o:OpR} (ho:OpOK C o) (hO:o.kd=16∨o.kd=17∨o.kd=25) (ct:Int) (hn:nMem s o≠0) :
  wpI Tryz.prog z4w (q0i [.t 12] (q7c m0 V C M sv lw p m H s ct (q6e M sh s o)))
   (envL [(0,.val (ptr p)),(4,.val (i (nMem s o))),(5,.val (i ct)),(7,.var o.cells)]) m:=by
 have hds:=ho.ds
 have h18:¬ o.kd=18:=by omega
 have h19:¬ o.kd=19:=by omega
 have hlw2:=hl.way
 have hbn:(nMem s o != 0)=true:=by simpa using hn
 generalize hnn:nMem s o=n at *
 refine WSc.mk (v:=o.kd==25) (fun _=>And.intro (Mem.le.refl _) rfl) ?_
 refine Br.mk (fun h25=>?_) (fun h25=>?_)
 ·have h25:(n != 0&&o.kd==25)=true:=h25
  rw [hbn,Bool.true_and,beq_iff_eq] at h25
  have e:q6e M sh s o=⟨q4b M sh s o ⟨0,n⟩,0,false,false⟩:=by
   unfold q6e memS
   rw [if_neg h18,if_neg h19,hnn,if_pos ⟨hn,h25⟩];rfl
  rw [e]
  conv=>whnf
  refine q0a.mk (z4g h hB hl hk o hds.1 ⟨0,n⟩) ?_
  rintro _ m1 ⟨rfl,H1,G⟩
  exact WRet.same ⟨rfl,H1,G⟩
 ·have h25:(n != 0&&o.kd==25)=false:=h25
  rw [hbn,Bool.true_and,beq_eq_false_iff_ne] at h25
  have e:q6e M sh s o=⟨s,n,true,false⟩:=by
   unfold q6e memS
   rw [if_neg h18,if_neg h19,hnn,if_neg (fun h=>h25 h.2),if_pos hn]
   show (⟨s,n,n != 0,false⟩:DoR)=_
   rw [hbn]
  rw [e]
  conv=>whnf
  rw [hbn]
  refine Br.mk (fun _=>?_) (fun h=>by cases h)
  conv=>whnf
  refine q0a.mk (z3r h hB hS hlw he (by omega) ct n) ?_
  rintro _ m1 ⟨rfl,H1,G⟩
  exact WRet.same ⟨rfl,H1,G⟩
theorem k4j (h:RfAt m0 m V C M sv lw p H s) (hB:q1m m0 V C M sv sh) (hS:StOK C s) {k:Nat} (hl:LimS s k) (hk:k≤1000000000) {o:OpR} (ho:OpOK C o) (hO:o.kd=16∨o.kd=17∨o.kd=25) {bv:VR} (hbv:o.kd=17→bv=s.reg o.b) (ct:Int) (hn:nMem s o=0) {n0:Int} (hn0:n0=0)
  (hin:0≤(s.reg o.a).n∧(s.reg o.a).n<(q3b s o).length) (hnn:o.n.toNat<s.arr.length) {ae:Addr} (hae:(H (o.n.toNat+5)).a=some ae) (hce:q0q m (ae.add (s.reg o.a).n.toNat) (i ((q3b s o).getD (s.reg o.a).n.toNat 0))) :
  wpI Tryz.prog z4w (q0i [.t 12] (q7c m0 V C M sv lw p m H s ct (q6e M sh s o)))
   (envL [(0,.val (ptr p)),(4,.val (i n0)),(5,.val (i ct)),(7,.var o.cells),(9,.var bv.cells),(13,.val (.pointer (some (ae.add ((s.reg o.a).n.toNat * 1)))))]) m:=by
 have hds:=ho.ds
 have h18:¬ o.kd=18:=by omega
 have h19:¬ o.kd=19:=by omega
 have hb0:(n0 != 0)=false:=by rw [hn0];rfl
 refine WSc.mk (v:=o.kd==25) (fun _=>And.intro (Mem.le.refl _) rfl) ?_
 rw [hb0]
 refine Br.mk (fun h=>by cases h) (fun _=>?_)
 conv=>whnf
 rw [hb0]
 refine Br.mk (fun h=>by cases h) (fun _=>?_)
 refine Br.mk (fun h17=>?_) (fun h17=>?_)
 ·have h17:o.kd=17:=by simpa using h17
  have e:q6e M sh s o=⟨{ s with arr:=s.arr.set o.n.toNat ((q3b s o).set (s.reg o.a).n.toNat (s.reg o.b).n) },0,false,false⟩:=by
   unfold q6e memS
   rw [if_neg h18,if_neg h19,if_neg (by omega),if_neg (by omega),if_pos h17];rfl
  rw [e,hbv h17]
  conv=>whnf
  rw [Nat.mul_one]
  refine h.setElem (k:=o.n.toNat) (q:=(s.reg o.a).n.toNat) hnn (by show _<(q3b s o).length;omega) hae rfl fun m2 G2=>?_
  exact WRet.same ⟨rfl,H,G2⟩
 ·have h17:¬ o.kd=17:=by simpa using h17
  have e:q6e M sh s o=⟨q4b M sh s o ⟨(q3b s o).getD (s.reg o.a).n.toNat 0,0⟩,0,false,false⟩:=by
   unfold q6e memS
   rw [if_neg h18,if_neg h19,if_neg (by omega),if_neg (by omega),if_neg h17];rfl
  rw [e]
  conv=>whnf
  refine ⟨?_,trivial⟩
  refine WLd.mk (i ((q3b s o).getD (s.reg o.a).n.toNat 0)) (by simpa using hce) ?_
  conv=>whnf
  refine ⟨?_,trivial⟩
  conv=>whnf
  refine q0a.mk (z4g h hB hl hk o hds.1 ⟨(q3b s o).getD (s.reg o.a).n.toNat 0,0⟩) ?_
  rintro _ m1 ⟨rfl,H1,G⟩
  exact WRet.same ⟨rfl,H1,G⟩
attribute [irreducible] z4w
theorem k6e (h:RfAt m0 m V C M sv lw p H s) (hB:q1m m0 V C M sv sh) (hS:StOK C s) (hlw:s.word=lw) (he:s.ended=false) {k:Nat} (hl:LimS s k) (hk:k≤1000000000) {o:OpR} (ho:OpOK C o) (hO:o.kd=16∨o.kd=17∨o.kd=25) {bv:VR} (hbv:o.kd=17→bv=s.reg o.b) (ct:Int) :
  q0f Tryz.prog 118 [ptr p,o.val,(s.reg o.a).val,bv.val,i (badN s o),i ct] m (q7c m0 V C M sv lw p m H s ct (q6e M sh s o)):=by
 refine q0e q0d Tryz.func118 k0l rfl ?_
 have hds:=ho.ds
 have hn:=ho.n.1 (by omega)
 have hal:s.arr.length=C.sz.length:=by
  have:=congrArg List.length hS.arr
  simpa using this
 have hcell:=k6c h (o:=o) (by omega) (s.reg o.a).n
 have hbad:=k1b h hB hS hlw he hl hk ho hO ct
 unfold Fn.asks
 rw [k9d]
 conv=>whnf
 refine q0a.pure hcell ?_
 by_cases hin:0≤(s.reg o.a).n∧(s.reg o.a).n<(q3b s o).length
 ·rw [if_pos hin]
  have hnm:nMem s o=badN s o:=by unfold nMem;rw [if_neg (by omega)]
  obtain ⟨ae,hae,hce⟩:=h.elemCell (k:=o.n.toNat) (q:=(s.reg o.a).n.toNat) (by omega) (by show _<(q3b s o).length;omega)
  rw [hae]
  refine WSc.mk (v:=false) (fun _=>And.intro (Mem.le.refl _) rfl) ?_
  refine Br.mk (fun hh=>?_) (fun _=>?_)
  ·have hh:(badN s o==0&&false)=true:=hh
   simp at hh
  conv=>whnf
  by_cases hb:badN s o=0
  ·exact q0x (k4j h hB hS hl hk ho hO hbv ct (by rw [hnm];exact hb) hb hin (by omega) hae hce) ⟨rfl,rfl,rfl,rfl,rfl,rfl,trivial⟩
  ·rw [hnm] at hbad
   exact q0x (hbad hb) ⟨rfl,rfl,rfl,rfl,trivial⟩
 ·rw [if_neg hin]
  refine WSc.mk (v:=true) (fun _=>And.intro (Mem.le.refl _) rfl) ?_
  refine Br.mk (fun hh=>?_) (fun hh=>?_)
  ·have hh:(badN s o==0&&true)=true:=hh
   have hb:badN s o=0:=by simpa using hh
   have hnm:nMem s o=-1:=by unfold nMem;rw [if_pos ⟨hb,by omega⟩]
   rw [hnm] at hbad
   conv=>whnf
   exact q0x (hbad (by decide)) ⟨rfl,rfl,rfl,rfl,trivial⟩
  ·have hh:(badN s o==0&&true)=false:=hh
   have hb:badN s o≠0:=by simpa using hh
   have hnm:nMem s o=badN s o:=by unfold nMem;rw [if_neg (fun h=>hb h.1)]
   rw [hnm] at hbad
   conv=>whnf
   exact q0x (hbad hb) ⟨rfl,rfl,rfl,rfl,trivial⟩
end
theorem v5q (m:Mem) (b:Bool):q0m Tryz.prog 162 [.bool b] m (i (bitI b)):=by
 refine q0e q0d Tryz.func162 v7u rfl ?_
 refine Br.mk (fun hb=>?_) (fun hb=>?_)
 ·subst hb
  exact WRet.same ⟨rfl,rfl⟩
 ·subst hb
  exact WRet.same ⟨rfl,rfl⟩
theorem z0z (b:Int):IntKind.u64.wrap (q5f .and b 63)=sh63 b:=by
 have h:=q9j b
 show IntKind.u64.wrap (sh63 b)=sh63 b
 have e:IntKind.u64.wrap (sh63 b)=(sh63 b) % 18446744073709551616:=rfl
 rw [e];omega
theorem k5k (m:Mem) {k:Int} (hk:q7g k=true) (a b:Int):q0m Tryz.prog 146 [i k,i a,i b] m (.tuple ⟨[i (q2o k a b).1,i (q2o k a b).2,.bool true]⟩):=by
 refine q0e q0d Tryz.func146 j5o rfl ?_
 refine Br.mk (fun h3=>?_) (fun h3=>?_)
 ·have h3:k=3:=by simpa using h3
  subst h3
  exact WRet.same ⟨rfl,rfl⟩
 refine Br.mk (fun h4=>?_) (fun h4=>?_)
 ·have h4:k=4:=by simpa using h4
  subst h4
  exact WRet.same ⟨rfl,rfl⟩
 refine Br.mk (fun h5=>?_) (fun h5=>?_)
 ·have h5:k=5:=by simpa using h5
  subst h5
  exact WRet.same ⟨rfl,rfl⟩
 refine Br.mk (fun h6=>?_) (fun h6=>?_)
 ·have h6:k=6:=by simpa using h6
  subst h6
  exact WRet.same ⟨rfl,rfl⟩
 refine Br.mk (fun h7=>?_) (fun h7=>?_)
 ·have h7:k=7:=by simpa using h7
  subst h7
  exact WRet.same ⟨rfl,rfl⟩
 refine Br.mk (fun h8=>?_) (fun h8=>?_)
 ·have h8:k=8:=by simpa using h8
  subst h8
  refine WBnd.mk (by have:=q9j b;have:=z0z b;exact (z0z b).symm▸q9j b) ?_
  refine WRet.same ⟨?_,rfl⟩
  show Ending.returned (.tuple ⟨[i (IntKind.i64.wrap (a * 2 ^ min (IntKind.u64.wrap (sh63 b)).toNat 64)),i 0,.bool true]⟩)=_
  rw [show IntKind.u64.wrap (sh63 b)=sh63 b from z0z b];rfl
 refine Br.mk (fun h9=>?_) (fun h9=>?_)
 ·have h9:k=9:=by simpa using h9
  subst h9
  refine WBnd.mk (by have:=q9j b;have:=z0z b;exact (z0z b).symm▸q9j b) ?_
  refine WRet.same ⟨?_,rfl⟩
  show Ending.returned (.tuple ⟨[i (a.fdiv (2 ^ min (IntKind.u64.wrap (sh63 b)).toNat 64)),i 0,.bool true]⟩)=_
  rw [show IntKind.u64.wrap (sh63 b)=sh63 b from z0z b];rfl
 refine Br.mk (fun h10=>?_) (fun h10=>?_)
 ·have h10:k=10:=by simpa using h10
  subst h10
  conv=>whnf
  refine q0a.pure (v5q m _) ?_
  exact WRet.same ⟨rfl,rfl⟩
 refine Br.mk (fun h11=>?_) (fun h11=>?_)
 ·have h11:k=11:=by simpa using h11
  subst h11
  conv=>whnf
  refine q0a.pure (v5q m _) ?_
  exact WRet.same ⟨rfl,rfl⟩
 refine Br.mk (fun h13=>?_) (fun h13=>?_)
 ·have h13:k=13:=by simpa using h13
  subst h13
  exact WRet.same ⟨rfl,rfl⟩
 refine Br.mk (fun h14=>?_) (fun h14=>?_)
 ·have h14:k=14:=by simpa using h14
  subst h14
  refine Br.mk (fun hb=>?_) (fun hb=>?_)
  ·have hb:b=0:=by simpa using hb
   subst hb
   exact WRet.same ⟨rfl,rfl⟩
  ·have hb:b≠0:=by simpa using hb
   refine WNe.mk hb ?_
   refine WRet.same ⟨?_,rfl⟩
   have e:q2o 14 a b=(IntKind.i64.wrap (a.tdiv b),0):=by unfold q2o;simp [hb]
   rw [e];rfl
 refine Br.mk (fun h15=>?_) (fun h15=>?_)
 ·have h15:k=15:=by simpa using h15
  subst h15
  refine Br.mk (fun hb=>?_) (fun hb=>?_)
  ·have hb:b=0:=by simpa using hb
   subst hb
   exact WRet.same ⟨rfl,rfl⟩
  ·have hb:b≠0:=by simpa using hb
   refine WNe.mk hb ?_
   refine WRet.same ⟨?_,rfl⟩
   have e:q2o 15 a b=(a.tmod b,0):=by unfold q2o;simp [hb]
   rw [e];rfl
 exfalso
 simp at h3 h4 h5 h6 h7 h8 h9 h10 h11 h13 h14 h15
 unfold q7g at hk
 simp only [Bool.or_eq_true,Bool.and_eq_true,decide_eq_true_eq,beq_iff_eq] at hk
 omega
def q4z:Nat→IR:=fun k=>match k,z5j.body with
 | 0,.seq a _=>a
 | 1,.seq _ (.seq a _)=>a
 | 2,.seq _ (.seq _ (.seq a _))=>a
 | 3,.seq _ (.seq _ (.seq _ (.seq a _)))=>a
 | 4,.seq _ (.seq _ (.seq _ (.seq _ (.seq a _))))=>a
 | 5,.seq _ (.seq _ (.seq _ (.seq _ (.seq _ (.seq a _)))))=>a
 | 6,.seq _ (.seq _ (.seq _ (.seq _ (.seq _ (.seq _ (.seq a _))))))=>a
 | _,.seq _ (.seq _ (.seq _ (.seq _ (.seq _ (.seq _ (.seq _ r))))))=>r
 | _,r=>r
def z8b:IR:=q4z 7
def z4h:IR:=.seq (q4z 4) (.seq (q4z 5) (.seq (q4z 6) z8b))
theorem v9q:z5j.body=.seq (q4z 0) (.seq (q4z 1) (.seq (q4z 2) (.seq (q4z 3) z4h))):=rfl
theorem w1m (k a b:Int):(q2o k a b).2≠0→(q2o k a b).1=0:=fun h=>by
 have key:(q2o k a b).2=0∨(q2o k a b).1=0:=by
  unfold q2o
  by_cases e3:k=3
  ·rw [if_pos e3];exact .inl rfl
  rw [if_neg e3]
  by_cases e4:k=4
  ·rw [if_pos e4];exact .inl rfl
  rw [if_neg e4]
  by_cases e5:k=5
  ·rw [if_pos e5];exact .inl rfl
  rw [if_neg e5]
  by_cases e6:k=6
  ·rw [if_pos e6];exact .inl rfl
  rw [if_neg e6]
  by_cases e7:k=7
  ·rw [if_pos e7];exact .inl rfl
  rw [if_neg e7]
  by_cases e8:k=8
  ·rw [if_pos e8];exact .inl rfl
  rw [if_neg e8]
  by_cases e9:k=9
  ·rw [if_pos e9];exact .inl rfl
  rw [if_neg e9]
  by_cases e10:k=10
  ·rw [if_pos e10];exact .inl rfl
  rw [if_neg e10]
  by_cases e11:k=11
  ·rw [if_pos e11];exact .inl rfl
  rw [if_neg e11]
  by_cases e13:k=13
  ·rw [if_pos e13];exact .inl rfl
  rw [if_neg e13]
  by_cases e14:k=14
  ·rw [if_pos e14]
   by_cases eb:b=0
   ·rw [if_pos eb];exact .inr rfl
   ·rw [if_neg eb];exact .inl rfl
  rw [if_neg e14]
  by_cases e15:k=15
  ·rw [if_pos e15]
   by_cases eb:b=0
   ·rw [if_pos eb];exact .inr rfl
   ·rw [if_neg eb];exact .inl rfl
  rw [if_neg e15]
  exact .inl rfl
 exact key.resolve_left h
theorem v6y {m:Mem} {k:Int} (hk:q7g (q0z k)=true) {a b:VR} {bad:Int} (hbad:bad=if a.b=0 then b.b else a.b) :
  wpI Tryz.prog z8b (q0i [.c 8 2 true,.t 9] fun e m'=>e=.returned (.tuple ⟨[(q2u k a b).1.val,i (q2u k a b).2]⟩)∧m'=m)
   (envL [(5,.var a.cells),(6,.var b.cells),(8,.var [i 0,i 0]),(10,.val (i bad)),(11,.val (i (q0z k))),(12,.val (.bool (q3o k)))]) m:=by
 have key:q2u k a b=(if (if bad=0 then q2o (q0z k) a.n b.n else (0,bad)).2≠0∧(q0z k=14∨q0z k=15)∧q3o k=false then (⟨0,0⟩,(if bad=0 then q2o (q0z k) a.n b.n else (0,bad)).2) else (⟨(if bad=0 then q2o (q0z k) a.n b.n else (0,bad)).1,(if bad=0 then q2o (q0z k) a.n b.n else (0,bad)).2⟩,0)):=by
  unfold q2u;simp only;rw [← hbad]
 have finT:∀ {z:Int},z≠0→(if bad=0 then q2o (q0z k) a.n b.n else (0,bad))=(0,z)→((q0z k==14||q0z k==15)&&!q3o k)=true→q2u k a b=(⟨0,0⟩,z):=fun {z} hz hr hb=>by
  rw [hr] at key
  simp only [Bool.and_eq_true,Bool.or_eq_true,beq_iff_eq,Bool.not_eq_true'] at hb
  rw [key,if_pos ⟨hz,hb.1,hb.2⟩]
 have finF:∀ {z:Int},z≠0→(if bad=0 then q2o (q0z k) a.n b.n else (0,bad))=(0,z)→((q0z k==14||q0z k==15)&&!q3o k)=false→q2u k a b=(⟨0,z⟩,0):=fun {z} hz hr hb=>by
  rw [hr] at key
  rw [key,if_neg (fun h=>by
   have:((q0z k==14||q0z k==15)&&!q3o k)=true:=by
    simp only [Bool.and_eq_true,Bool.or_eq_true,beq_iff_eq,Bool.not_eq_true'];exact h.2
   rw [this] at hb;cases hb)]
 refine WSc.mk (v:=q0z k==15) (fun _=>And.intro (Mem.le.refl _) rfl) ?_
 refine Br.mk (fun hb0=>?_) (fun hb0=>?_)
 ·have hb0:bad=0:=by simpa using hb0
  rw [if_pos hb0] at finT finF key
  conv=>whnf
  refine q0a.pure (k5k m hk a.n b.n) ?_
  generalize hq:q2o (q0z k) a.n b.n=q at *
  refine Br.mk (fun ht=>?_) (fun ht=>?_)
  ·have ht:q.2=0:=by simpa using ht
   rw [if_neg (fun h=>h.1 ht)] at key
   refine WRet.same ⟨?_,rfl⟩
   rw [key,ht];rfl
  ·have ht:q.2≠0:=by simpa using ht
   have h1:q.1=0:=by rw [← hq] at ht ⊢;exact w1m _ _ _ ht
   refine WSc.mk (v:=!q3o k) (fun _=>And.intro (Mem.le.refl _) rfl) ?_
   refine Br.mk (fun hb=>?_) (fun hb=>?_)
   ·refine WRet.same ⟨?_,rfl⟩
    rw [finT ht (by rw [← h1]) hb];rfl
   ·refine WRet.same ⟨?_,rfl⟩
    rw [finF ht (by rw [← h1]) hb];rfl
 ·have hb0:bad≠0:=by simpa using hb0
  refine WSc.mk (v:=!q3o k) (fun _=>And.intro (Mem.le.refl _) rfl) ?_
  refine Br.mk (fun hb=>?_) (fun hb=>?_)
  ·refine WRet.same ⟨?_,rfl⟩
   rw [finT hb0 (by rw [if_neg hb0]) hb];rfl
  ·refine WRet.same ⟨?_,rfl⟩
   rw [finF hb0 (by rw [if_neg hb0]) hb];rfl
attribute [irreducible] z8b
theorem w4g {m:Mem} {o:OpR} (hkd:1≤o.kd∧o.kd≤28) (hk:q7g (q0z o.kd)=true) {a b:VR} {bad:Int} (hbad:bad=if a.b=0 then b.b else a.b) :
  wpI Tryz.prog z4h (q0i [.c 8 2 true,.t 9] fun e m'=>e=.returned (.tuple ⟨[(q2u o.kd a b).1.val,i (q2u o.kd a b).2]⟩)∧m'=m)
   (envL [(4,.var o.cells),(5,.var a.cells),(6,.var b.cells),(8,.var [i 0,i 0]),(10,.val (i bad))]) m:=by
 refine WSc.mk (v:=o.kd==24) (fun _=>And.intro (Mem.le.refl _) rfl) ?_
 refine Br.mk (fun hb=>?_) (fun hb=>?_)
 ·have hb:(o.kd==23||o.kd==24)=true:=hb
  simp only [Bool.or_eq_true,beq_iff_eq] at hb
  have e:o.kd - 9=q0z o.kd:=by unfold q0z;rcases hb with h | h<;>rw [h]<;>rfl
  refine WRng.mk (by apply wrap_i64<;>omega) ?_
  rw [e]
  conv=>whnf
  exact q0x (v6y hk hbad) ⟨rfl,rfl,rfl,rfl,rfl,rfl,trivial⟩
 ·have hb:(o.kd==23||o.kd==24)=false:=hb
  simp only [Bool.or_eq_false_iff,beq_eq_false_iff_ne,ne_eq] at hb
  have e:q0z o.kd=o.kd:=by unfold q0z;rw [if_neg hb.1,if_neg hb.2]
  have h2:=v6y (m:=m) hk hbad
  rw [e] at h2
  conv=>whnf
  exact q0x h2 ⟨rfl,rfl,rfl,rfl,rfl,rfl,trivial⟩
attribute [irreducible] z4h
def z8p:IR:=.seq (q4z 3) z4h
theorem j4t:z5j.body=.seq (q4z 0) (.seq (q4z 1) (.seq (q4z 2) z8p)):=v9q
theorem j0f {m:Mem} {o:OpR} {a b:VR} {rs:List Res} {RR:Ending→Mem→Prop} {R:IR} (T:∀ bad:Int,(bad=if a.b=0 then b.b else a.b)→wpI Tryz.prog R (q0i rs RR) (envL [(4,.var o.cells),(5,.var a.cells),(6,.var b.cells),(8,.var [i 0,i 0]),(10,.val (i bad))]) m) :
  wpI Tryz.prog (.seq (q4z 3) R) (q0i rs RR) (envL [(4,.var o.cells),(5,.var a.cells),(6,.var b.cells),(8,.var [i 0,i 0]),(10,.val (i a.b))]) m:=by
 refine Br.mk (fun hb=>?_) (fun hb=>?_)
 ·have hb:a.b=0:=by simpa using hb
  conv=>whnf
  exact q0x (T b.b (by rw [if_pos hb])) ⟨rfl,rfl,rfl,rfl,rfl,trivial⟩
 ·have hb:¬ a.b=0:=by simpa using hb
  conv=>whnf
  exact q0x (T a.b (by rw [if_neg hb])) ⟨rfl,rfl,rfl,rfl,rfl,trivial⟩
theorem k2y {m:Mem} {o:OpR} (hkd:1≤o.kd∧o.kd≤28) (hk:q7g (q0z o.kd)=true) {a b:VR} :
  wpI Tryz.prog z8p (q0i [.c 8 2 true,.t 9] fun e m'=>e=.returned (.tuple ⟨[(q2u o.kd a b).1.val,i (q2u o.kd a b).2]⟩)∧m'=m)
   (envL [(4,.var o.cells),(5,.var a.cells),(6,.var b.cells),(8,.var [i 0,i 0]),(10,.val (i a.b))]) m :=
 j0f fun bad hbad=>w4g (m:=m) hkd hk (bad:=bad) hbad
attribute [irreducible] z8p
theorem k5l {m:Mem} {o:OpR} {a b c:VR} (ha:a.ok) {rs:List Res} {RR:Ending→Mem→Prop} {R:IR} (hrs:rs=[.c 8 2 true,.t 9]) (hR:∀ v t,q1u o a b c=(v,t)→RR (.returned (.tuple ⟨[v.val,i t]⟩)) m)
  (T:o.kd≠1→o.kd≠2→o.kd≠12→wpI Tryz.prog R (q0i rs RR) (envL [(4,.var o.cells),(5,.var a.cells),(6,.var b.cells),(8,.var [i 0,i 0]),(10,.val (i a.b))]) m) :
  wpI Tryz.prog (.seq (q4z 0) (.seq (q4z 1) (.seq (q4z 2) R))) (q0i rs RR) (q5p [o.val,a.val,b.val,c.val]) m:=by
 refine Br.mk (fun h1=>?_) (fun h1=>?_)
 ·have h1:o.kd=1:=by simpa using h1
  subst hrs
  refine WRet.same ?_
  exact hR ⟨o.n,0⟩ 0 (by unfold q1u;rw [if_pos h1])
 have h1:o.kd≠1:=by simpa using h1
 refine Br.mk (fun h2=>?_) (fun h2=>?_)
 ·have h2:o.kd=2:=by simpa using h2
  subst hrs
  refine WRet.same ?_
  exact hR a 0 (by unfold q1u;rw [if_neg h1,if_pos h2])
 have h2:o.kd≠2:=by simpa using h2
 refine Br.mk (fun h3=>?_) (fun h3=>?_)
 ·have h3:o.kd=12:=by simpa using h3
  have e:q1u o a b c=(if a.b≠0 then a else if a.n≠0 then b else c,0):=by unfold q1u;rw [if_neg h1,if_neg h2,if_pos h3]
  subst hrs
  refine Br.mk (fun hb=>?_) (fun hb=>?_)
  ·have hb:a.b≠0:=by simpa using hb
   have hn:a.n=0:=ha.resolve_left hb
   refine WRet.same ?_
   refine hR ⟨0,a.b⟩ 0 ?_
   rw [e,if_pos hb,← hn]
  ·have hb:¬ a.b≠0:=by simpa using hb
   refine Br.mk (fun hn=>?_) (fun hn=>?_)
   ·have hn:a.n≠0:=by simpa using hn
    refine WRet.same ?_
    exact hR b 0 (by rw [e,if_neg hb,if_pos hn])
   ·have hn:¬ a.n≠0:=by simpa using hn
    refine WRet.same ?_
    exact hR c 0 (by rw [e,if_neg hb,if_neg hn])
 have h3:o.kd≠12:=by simpa using h3
 conv=>whnf
 exact q0x (T h1 h2 h3) ⟨rfl,rfl,rfl,rfl,rfl,trivial⟩
theorem w4t (m:Mem) (o:OpR) (hkd:1≤o.kd∧o.kd≤28) (hk:q9n o.kd=true) (a b c:VR) (ha:a.ok) :
  q0m Tryz.prog 121 [o.val,a.val,b.val,c.val] m (.tuple ⟨[(q1u o a b c).1.val,i (q1u o a b c).2]⟩):=by
 refine q0e q0d Tryz.func121 j1i rfl ?_
 unfold Fn.asks
 rw [j4t]
 refine k5l ha rfl (fun v t e=>⟨by rw [e],rfl⟩) fun h1 h2 h3=>?_
 have hk2:q7g (q0z o.kd)=true:=by
  unfold q9n at hk
  simp only [Bool.or_eq_true,beq_iff_eq] at hk
  rcases hk with ((h | h) | h) | h
  ·exact absurd h h1
  ·exact absurd h h2
  ·exact absurd h h3
  ·exact h
 have e:q1u o a b c=q2u o.kd a b:=by unfold q1u;rw [if_neg h1,if_neg h2,if_neg h3]
 rw [e]
 exact k2y (m:=m) (a:=a) (b:=b) hkd hk2
end Go.Proofs.YtleofbpepfmfgaaGreatDoor
set_option maxRecDepth 100000
namespace Go.Proofs.YtleofbpepfmfgaaGreatDoor
open Go Go.Vx
theorem j7p {M:Mac} {sh:List Int} {s:St} {o:OpR}:(memS M sh s o).1.ended=s.ended:=by
 unfold memS
 split
 ·rfl
 ·split
  ·rfl
  ·generalize nMem s o=n
   split
   ·rfl
   ·split
    ·rfl
    ·split<;>rfl
theorem v1b {M:Mac} {sh:List Int} {s:St} {o:OpR} (h:(doS M sh s o).left=false):(doS M sh s o).s.ended=s.ended:=by
 unfold doS at h ⊢
 split
 ·rfl
 ·rename_i g1
  rw [if_neg g1] at h
  split
  ·rfl
  ·rename_i g2
   rw [if_neg g2] at h
   unfold q1x at h ⊢
   split
   ·exact j7p
   ·rename_i g3
    rw [if_neg g3] at h
    split
    ·rename_i g4
     rw [if_pos g4] at h
     unfold outS at h ⊢
     split
     ·rfl
     ·rename_i g5;rw [if_neg g5] at h
      split
      ·rfl
      ·rename_i g6;rw [if_neg g6] at h
       split
       ·rfl
       ·rename_i g7;rw [if_neg g7] at h
        split
        ·split<;>rfl
        ·rename_i g8;rw [if_neg g8] at h
         split
         ·rename_i g9;rw [if_pos g9] at h;cases h
         ·split<;>rfl
    ·split<;>rfl
theorem w3u {k:Int} {a b:VR} (h:(q2u k a b).2≠0):(q0z k=14∨q0z k=15)∧q3o k=false:=by
 unfold q2u at h
 simp only at h
 generalize (if (if a.b=0 then b.b else a.b)=0 then q2o (q0z k) a.n b.n else (0,if a.b=0 then b.b else a.b))=r at h
 by_cases g:r.2≠0∧(q0z k=14∨q0z k=15)∧q3o k=false
 ·exact g.2
 ·rw [if_neg g] at h;exact absurd rfl h
theorem k0g {M:Mac} {sh:List Int} {s:St} {o:OpR} (h:(doS M sh s o).trap=true):(doS M sh s o).left=false:=by
 unfold doS at h ⊢
 split
 ·rfl
 ·rename_i g1
  rw [if_neg g1] at h
  split
  ·rfl
  ·rename_i g2
   rw [if_neg g2] at h
   unfold q1x at h ⊢
   split
   ·rfl
   ·rename_i g3
    rw [if_neg g3] at h
    split
    ·rename_i g4
     rw [if_pos g4] at h
     unfold outS at h ⊢
     split
     ·rename_i g5;rw [if_pos g5] at h;cases h
     ·rename_i g5;rw [if_neg g5] at h
      split
      ·rfl
      ·rename_i g6;rw [if_neg g6] at h
       split
       ·rfl
       ·rename_i g7;rw [if_neg g7] at h
        split
        ·rename_i g8;rw [if_pos g8] at h
         split
         ·rename_i g9;rw [if_pos g9] at h;cases h
         ·rfl
        ·rename_i g8;rw [if_neg g8] at h
         split
         ·rename_i g9;rw [if_pos g9] at h;cases h
         ·split<;>rfl
    ·split<;>rfl
structure After (l:List Nat) (z:List VR) (s:St):Prop where
 zz:q1h s.regs s.way=z
 it:∀ x∈s.way,x.t≤s.took+1+l.getD x.rg 0
 so:SoW s.way
structure Hd (w:List Nat) (z:List VR) (s:St):Prop where
 zz:q1h s.regs s.way=z
 it:∀ x∈s.way,x.t≤s.took+w.getD x.rg 0
 so:SoW s.way
end Go.Proofs.YtleofbpepfmfgaaGreatDoor
