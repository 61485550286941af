import Derived.Test.YtleofbpepfmfgaaGreatDoorVxSimY
set_option linter.unusedSimpArgs false
set_option linter.unusedVariables false
set_option maxRecDepth 100000
namespace Go.Proofs.YtleofbpepfmfgaaGreatDoor
open Go Go.Vx
open Go.Vx.IOp Go.Vx.IR Go.Vx.Opd
theorem rfTraps_ok (m:Mem) (o:OpR) (bad trap:Int):PureM Tryz.prog 122 [o.val,i bad,i trap] m (.bool ((o.kd==14||o.kd==15)&&(bad != 0||trap != 0))):=by
 refine calls_of mixed Tryz.func122 ok_biremeref27_traps rfl ?_
 refine WSc.mk (v:=o.kd==15) (fun _=>And.intro (Mem.le.refl _) rfl) ?_
 refine WSc.mk (v:=(bad != 0||trap != 0)) (fun _=>?_) ?_
 ·refine WSc.mk (v:=trap != 0) (fun _=>And.intro (Mem.le.refl _) rfl) ?_
  conv=>whnf
  exact And.intro (Mem.le.refl _) rfl
 exact WRet.same ⟨rfl,rfl⟩
theorem traps_iff {o:OpR} {a b c:VR} {bad:Int} (hbad:bad=if a.b=0 then b.b else a.b):((o.kd==14||o.kd==15)&&(bad != 0||(doVal o a b c).2 != 0))=((doVal o a b c).2 != 0):=by
 by_cases h:o.kd=14∨o.kd=15
 ·have e1:(o.kd==14||o.kd==15)=true:=by simpa using h
  rw [e1,Bool.true_and]
  by_cases hb:bad=0
  ·rw [hb];rfl
  ·have ed:doVal o a b c=bothS o.kd a b:=by unfold doVal;rw [if_neg (by omega),if_neg (by omega),if_neg (by omega)]
   have e2:(doVal o a b c).2=bad:=by
    rw [ed];unfold bothS;simp only;rw [← hbad,if_neg hb]
    rw [if_pos ⟨hb,by unfold lateS;rcases h with h | h<;>rw [h]<;>decide,by unfold waitsS;rcases h with h | h<;>rw [h]<;>decide⟩]
   rw [e2,Bool.or_self]
 ·have e1:(o.kd==14||o.kd==15)=false:=by simpa using h
  rw [e1,Bool.false_and]
  have e2:(doVal o a b c).2=0:=by
   unfold doVal
   split
   ·rfl
   ·split
    ·rfl
    ·split
     ·rfl
     ·by_cases hz:(bothS o.kd a b).2=0
      ·exact hz
      ·exfalso
       obtain ⟨h1,h2⟩:=both_trap hz
       unfold waitsS at h2
       simp only [Bool.or_eq_false_iff,beq_eq_false_iff_ne,ne_eq] at h2
       unfold lateS at h1
       rw [if_neg h2.1,if_neg h2.2] at h1
       exact h h1
  rw [e2];rfl
theorem regs_cells {m:Mem} {ad:Addr} {R:List VR} (h:CellsAt m ad (flatL VR.cells R)) {r:Nat} (hr:r<R.length):CellsAt m (ad.add (r * 2)) (R.getD r VR.zero).cells:=by
 intro q v hq
 have hq2:q<2:=(List.getElem?_eq_some_iff.1 hq).1
 rw [add_add]
 refine h (r * 2+q) v ?_
 rw [flat_get vr_len hr hq2]
 rw [List.getD_eq_getElem?_getD,List.getElem?_eq_getElem hr] at hq
 exact hq
structure ReadsR (s:St) (o:OpR) (a b c:VR):Prop where
 a1:uA o.kd=true→a=s.reg o.a
 a0:uA o.kd=false→a=VR.zero
 b1:uB o.kd=true→b=s.reg o.b
 b0:uB o.kd=false→b=VR.zero
 c1:uC o.kd=true→c=s.reg o.c
def fdPart:Nat→IR:=fun k=>match k,ir_biremeref27_Sim_do.body with
 | 0,.seq a _=>a
 | 1,.seq _ (.seq a _)=>a
 | 2,.seq _ (.seq _ (.seq a _))=>a
 | 3,.seq _ (.seq _ (.seq _ (.seq a _)))=>a
 | 4,.seq _ (.seq _ (.seq _ (.seq _ (.seq a _))))=>a
 | 5,.seq _ (.seq _ (.seq _ (.seq _ (.seq _ (.seq a _)))))=>a
 | 6,.seq _ (.seq _ (.seq _ (.seq _ (.seq _ (.seq _ (.seq a _))))))=>a
 | 7,.seq _ (.seq _ (.seq _ (.seq _ (.seq _ (.seq _ (.seq _ (.seq a _)))))))=>a
 | 8,.seq _ (.seq _ (.seq _ (.seq _ (.seq _ (.seq _ (.seq _ (.seq _ (.seq a _))))))))=>a
 | _,.seq _ (.seq _ (.seq _ (.seq _ (.seq _ (.seq _ (.seq _ (.seq _ (.seq _ r))))))))=>r
 | _,r=>r
def fdMath:IR:=fdPart 9
def fdT8:IR:=.seq (fdPart 8) fdMath
theorem fd_body:ir_biremeref27_Sim_do.body=.seq (fdPart 0) (.seq (fdPart 1) (.seq (fdPart 2) (.seq (fdPart 3) (.seq (fdPart 4) (.seq (fdPart 5) (.seq (fdPart 6) (.seq (fdPart 7) fdT8))))))):=rfl
section
variable {m0 m m' m2 m3:Mem} {V:CV} {C:CodeR} {M:Mac} {sv:Value} {lw:Int} {p:Nat} {H:HdF} {s s' s1:St} {sh:List Int}
theorem fm_ok {m:Mem} {rs:List Res} {RR:Ending→Mem→Prop} {ct bad:Int} {o:OpR} {a b c v:VR} {t:Int} (hrs:rs=[.t 8]) (hdo:PureM Tryz.prog 121 [o.val,a.val,b.val,c.val] m (.tuple ⟨[v.val,i t]⟩))
  (htr:PureM Tryz.prog 122 [o.val,i bad,i t] m (.bool (t != 0)))
  (hT:t≠0→CallsM Tryz.prog 88 [ptr p,i t,i ct] m fun e m'=>e=.returned unitV∧RR (.returned (.bool true)) m')
  (hG:t=0→CallsM Tryz.prog 119 [ptr p,o.val,v.val] m fun e m'=>e=.returned unitV∧RR (.returned (.bool false)) m') :
  wpI Tryz.prog fdMath (retPost rs RR)
   (envL [(0,.val (ptr p)),(3,.val (i ct)),(5,.var o.cells),(10,.var a.cells),(11,.var b.cells),(12,.var c.cells),(13,.val (i bad))]) m:=by
 subst hrs
 refine WCall.pure hdo ?_
 refine WCall.pure htr ?_
 refine Br.mk (fun ht=>?_) (fun ht=>?_)
 ·have ht:t≠0:=by simpa using ht
  refine Br.mk (fun hz=>?_) (fun _=>?_)
  ·have hz:t=0:=by simpa using hz
   exact absurd hz ht
  refine WCall.mk (hT ht) ?_
  rintro _ m1 ⟨rfl,G⟩
  exact WRet.same G
 ·have ht:t=0:=by simpa using ht
  refine WCall.mk (hG ht) ?_
  rintro _ m1 ⟨rfl,G⟩
  exact WRet.same G
attribute [irreducible] fdMath
theorem fdMath_ok (h:RfAt m0 m V C M sv lw p H s) (hB:SimBase m0 V C M sv sh) (hS:StOK C s) (hlw:s.word=lw) (he:s.ended=false) {k:Nat} (hl:LimS s k) (hk:k≤1000000000) {o:OpR} (ho:OpOK C o) (ct:Int)
  {a b c:VR} (hR:ReadsR s o a b c) {bad:Int} (hbad:bad=if a.b=0 then b.b else a.b) (hm:isMem o.kd=false) (hO:isOut o.kd=false) :
  wpI Tryz.prog fdMath (retPost [.t 8] (OutPost m0 V C M sv lw p m H s ct (bodyS M sh s o)))
   (envL [(0,.val (ptr p)),(3,.val (i ct)),(5,.var o.cells),(10,.var a.cells),(11,.var b.cells),(12,.var c.cells),(13,.val (i bad))]) m:=by
 have hk2:=ho.kd
 have hM:isMath o.kd=true:=by
  have hm':=hm
  have hO':=hO
  unfold isMem at hm'
  unfold isOut at hO'
  simp only [Bool.or_eq_false_iff,beq_eq_false_iff_ne,ne_eq] at hm' hO'
  have:o.kd=1∨o.kd=2∨o.kd=12∨o.kd=3∨o.kd=4∨o.kd=5∨o.kd=6∨o.kd=7∨o.kd=8∨o.kd=9∨o.kd=10∨o.kd=11∨o.kd=13∨o.kd=14∨o.kd=15∨o.kd=23∨o.kd=24:=by omega
  rcases this with e | e | e | e | e | e | e | e | e | e | e | e | e | e | e | e | e<;>rw [e]<;>rfl
 have haok:a.ok:=by
  cases hu:uA o.kd with
  | true=>rw [hR.a1 hu];exact getD_ok hS.rok _
  | false=>rw [hR.a0 hu];exact VR.zero_ok
 have hdo:=refDo_ok m o hk2 hM a b c haok
 have ed:doVal o (s.reg o.a) (s.reg o.b) (s.reg o.c)=doVal o a b c:=doVal_congr (fun u=>(hR.a1 u).symm) (fun u=>(hR.b1 u).symm) (fun u=>(hR.c1 u).symm) hm hO hk2
 have htr:=rfTraps_ok m o bad (doVal o a b c).2
 rw [traps_iff hbad] at htr
 have eb:bodyS M sh s o=if (doVal o a b c).2≠0 then ⟨s,(doVal o a b c).2,true,false⟩ else ⟨giveS M sh s o (doVal o a b c).1,0,false,false⟩:=by
  unfold bodyS;rw [if_neg (by rw [hm];decide),if_neg (by rw [hO];decide),ed]
 have hlway:=hl.way
 generalize doVal o a b c=d at *
 obtain ⟨v,t⟩:=d
 simp only at hdo htr eb
 refine fm_ok rfl hdo htr (fun ht=>?_) (fun ht=>?_)
 ·rw [eb,if_pos ht]
  refine CallsM.mono (rfTrap_ok h hB hS hlw he (by omega) ct t) ?_
  rintro _ m1 ⟨rfl,H1,G⟩
  exact ⟨rfl,rfl,H1,G⟩
 ·rw [eb,if_neg (fun h=>h ht)]
  refine CallsM.mono (rfGive_ok h hB hl hk o ho.ds.1 v) ?_
  rintro _ m1 ⟨rfl,H1,G⟩
  exact ⟨rfl,rfl,H1,G⟩
theorem fd8_ok (h:RfAt m0 m V C M sv lw p H s) (hB:SimBase m0 V C M sv sh) (hS:StOK C s) (he:s.ended=false) {k:Nat} (hl:LimS s k) (hk:k≤1000000000) {o:OpR} (ho:OpOK C o) {ct bad:Int}
  {a b c:VR} (ha:o.kd=19→a=s.reg o.a) {rs:List Res} {RR:Ending→Mem→Prop} {R:IR} (hrs:rs=[.t 8])
  (hmem:(o.kd=16∨o.kd=17∨o.kd=25)→CallsM Tryz.prog 118 [ptr p,o.val,a.val,b.val,i bad,i ct] m fun e m'=>∃ q,e=.returned (.bool q)∧RR (.returned (.bool q)) m')
  (hout:(o.kd=20∨o.kd=21∨o.kd=22∨o.kd=27∨o.kd=28)→CallsM Tryz.prog 120 [ptr p,o.val,a.val,i ct] m fun e m'=>∃ q,e=.returned (.bool q)∧RR (.returned (.bool q)) m')
  (h18':o.kd=18→∀ m1 H1,RfGoes m0 V C M sv lw p m H s m1 H1 (giveS M sh s o (s.kept.getD o.n.toNat VR.zero))→RR (.returned (.bool false)) m1)
  (h19':o.kd=19→∀ m1,RfGoes m0 V C M sv lw p m H s m1 H { s with kept:=s.kept.set o.n.toNat (s.reg o.a) }→RR (.returned (.bool false)) m1)
  (h26':o.kd=26→∀ m1,RfGoes m0 V C M sv lw p m H s m1 H { s with word:=o.n.toNat }→RR (.returned (.bool true)) m1)
  (hmath:isMem o.kd=false→isOut o.kd=false→wpI Tryz.prog R (retPost rs RR) (envL [(0,.val (ptr p)),(3,.val (i ct)),(5,.var o.cells),(10,.var a.cells),(11,.var b.cells),(12,.var c.cells),(13,.val (i bad))]) m) :
  wpI Tryz.prog (.seq (fdPart 8) R) (retPost rs RR)
   (envL [(0,.val (ptr p)),(3,.val (i ct)),(5,.var o.cells),(10,.var a.cells),(11,.var b.cells),(12,.var c.cells),(13,.val (i bad))]) m:=by
 have hn:=ho.n
 refine Br.mk (fun h16=>?_) (fun h16=>?_)
 ·have h16:o.kd=16:=by simpa using h16
  refine Br.mk (fun _=>?_) (fun hh=>by cases hh)
  refine WCall.mk (hmem (.inl h16)) ?_
  rintro _ m1 ⟨q,rfl,G⟩
  subst hrs
  exact WRet.same G
 have h16:o.kd≠16:=by simpa using h16
 refine Br.mk (fun h17=>?_) (fun h17=>?_)
 ·have h17:o.kd=17:=by simpa using h17
  refine Br.mk (fun _=>?_) (fun hh=>by cases hh)
  refine WCall.mk (hmem (.inr (.inl h17))) ?_
  rintro _ m1 ⟨q,rfl,G⟩
  subst hrs
  exact WRet.same G
 have h17:o.kd≠17:=by simpa using h17
 refine Br.mk (fun h25=>?_) (fun h25=>?_)
 ·have h25:o.kd=25:=by simpa using h25
  refine WCall.mk (hmem (.inr (.inr h25))) ?_
  rintro _ m1 ⟨q,rfl,G⟩
  subst hrs
  exact WRet.same G
 have h25:o.kd≠25:=by simpa using h25
 refine Br.mk (fun h18=>?_) (fun h18=>?_)
 ·have h18:o.kd=18:=by simpa using h18
  have hn:=hn.2.1 (.inl h18)
  have hr:o.n.toNat<s.kept.length:=by rw [hS.kept];omega
  obtain ⟨ad,had,hc⟩:=h.keptCells hr
  conv=>whnf
  refine ⟨?_,trivial⟩
  refine WLd.mk (hv H s 2) (h.cell rfl) ?_
  refine WIdx.mk ad had ⟨hn.1,by show o.n<(s.kept.length:Nat);omega⟩ ?_
  refine WLds.mk _ hc rfl ?_
  conv=>whnf
  refine ⟨?_,trivial⟩
  refine WCall.mk (rfGive_ok h hB hl hk o ho.ds.1 (s.kept.getD o.n.toNat VR.zero)) ?_
  rintro _ m1 ⟨rfl,H1,G⟩
  subst hrs
  exact WRet.same (h18' h18 m1 H1 G)
 have h18:o.kd≠18:=by simpa using h18
 refine Br.mk (fun h19=>?_) (fun h19=>?_)
 ·have h19:o.kd=19:=by simpa using h19
  have hn:=hn.2.1 (.inr h19)
  have hr:o.n.toNat<s.kept.length:=by rw [hS.kept];omega
  obtain ⟨ad,had,hc⟩:=h.keptCells hr
  have ea:=ha h19
  refine WLd.mk (hv H s 2) (h.cell rfl) ?_
  refine WIdx.mk ad had ⟨hn.1,by show o.n<(s.kept.length:Nat);omega⟩ ?_
  conv=>whnf
  refine ⟨?_,trivial⟩
  conv=>whnf
  refine h.setKept hr had (v:=s.reg o.a) (by rw [ea];rfl) fun m1 G=>?_
  subst hrs
  exact WRet.same (h19' h19 m1 G)
 have h19:o.kd≠19:=by simpa using h19
 refine Br.mk (fun h26=>?_) (fun h26=>?_)
 ·have h26:o.kd=26:=by simpa using h26
  have hn:=hn.2.2 (.inr h26)
  conv=>whnf
  refine h.setWord he (w:=o.n.toNat) (by omega) rfl fun m1 G=>?_
  subst hrs
  exact WRet.same (h26' h26 m1 G)
 have h26:o.kd≠26:=by simpa using h26
 refine Br.mk (fun h20=>?_) (fun h20=>?_)
 ·have h20:o.kd=20:=by simpa using h20
  refine Br.mk (fun _=>?_) (fun hh=>by cases hh)
  refine WCall.mk (hout (.inl h20)) ?_
  rintro _ m1 ⟨q,rfl,G⟩
  subst hrs
  exact WRet.same G
 have h20:o.kd≠20:=by simpa using h20
 refine Br.mk (fun h21=>?_) (fun h21=>?_)
 ·have h21:o.kd=21:=by simpa using h21
  refine Br.mk (fun _=>?_) (fun hh=>by cases hh)
  refine WCall.mk (hout (.inr (.inl h21))) ?_
  rintro _ m1 ⟨q,rfl,G⟩
  subst hrs
  exact WRet.same G
 have h21:o.kd≠21:=by simpa using h21
 refine Br.mk (fun h22=>?_) (fun h22=>?_)
 ·have h22:o.kd=22:=by simpa using h22
  refine Br.mk (fun _=>?_) (fun hh=>by cases hh)
  refine WCall.mk (hout (.inr (.inr (.inl h22)))) ?_
  rintro _ m1 ⟨q,rfl,G⟩
  subst hrs
  exact WRet.same G
 have h22:o.kd≠22:=by simpa using h22
 refine Br.mk (fun h27=>?_) (fun h27=>?_)
 ·have h27:o.kd=27:=by simpa using h27
  refine Br.mk (fun _=>?_) (fun hh=>by cases hh)
  refine WCall.mk (hout (.inr (.inr (.inr (.inl h27))))) ?_
  rintro _ m1 ⟨q,rfl,G⟩
  subst hrs
  exact WRet.same G
 have h27:o.kd≠27:=by simpa using h27
 refine Br.mk (fun h28=>?_) (fun h28=>?_)
 ·have h28:o.kd=28:=by simpa using h28
  refine WCall.mk (hout (.inr (.inr (.inr (.inr h28))))) ?_
  rintro _ m1 ⟨q,rfl,G⟩
  subst hrs
  exact WRet.same G
 have h28:o.kd≠28:=by simpa using h28
 have hm:isMem o.kd=false:=by unfold isMem;simp [h16,h17,h18,h19,h25]
 have hO:isOut o.kd=false:=by unfold isOut;simp [h20,h21,h22,h26,h27,h28]
 conv=>whnf
 exact rest_envL (hmath hm hO) ⟨rfl,rfl,rfl,rfl,rfl,rfl,rfl,trivial⟩
theorem fdT8_ok (h:RfAt m0 m V C M sv lw p H s) (hB:SimBase m0 V C M sv sh) (hS:StOK C s) (hlw:s.word=lw) (he:s.ended=false) {k:Nat} (hl:LimS s k) (hk:k≤1000000000) {o:OpR} (ho:OpOK C o) (ct:Int)
  {a b c:VR} (hR:ReadsR s o a b c) {bad:Int} (hbad:bad=if a.b=0 then b.b else a.b) :
  wpI Tryz.prog fdT8 (retPost [.t 8] (OutPost m0 V C M sv lw p m H s ct (bodyS M sh s o)))
   (envL [(0,.val (ptr p)),(3,.val (i ct)),(5,.var o.cells),(10,.var a.cells),(11,.var b.cells),(12,.var c.cells),(13,.val (i bad))]) m:=by
 have hn:=ho.n
 have hmath:=fdMath_ok h hB hS hlw he hl hk ho ct hR hbad
 have hmem:(o.kd=16∨o.kd=17∨o.kd=25)→CallsM Tryz.prog 118 [ptr p,o.val,a.val,b.val,i bad,i ct] m (OutPost m0 V C M sv lw p m H s ct (bodyS M sh s o)):=fun hO=>by
  have eb:bodyS M sh s o=memRD M sh s o:=by
   unfold bodyS;rw [if_pos (by unfold isMem;rcases hO with e | e | e<;>rw [e]<;>rfl)];rfl
  have ea:a=s.reg o.a:=hR.a1 (by rcases hO with e | e | e<;>rw [e]<;>rfl)
  have ebad:bad=badN s o:=by
   rw [hbad,ea];unfold badN
   by_cases h17:o.kd=17
   ·rw [if_pos h17,hR.b1 (by rw [h17];rfl)]
    by_cases hz:(s.reg o.a).b=0
    ·rw [if_pos hz,if_neg (by simp [hz])]
    ·rw [if_neg hz,if_pos hz]
   ·have:b=VR.zero:=hR.b0 (by rcases hO with e | e | e<;>first | exact absurd e h17 | (rw [e];rfl))
    rw [if_neg h17,this]
    by_cases hz:(s.reg o.a).b=0
    ·rw [if_pos hz,if_neg (by simp [hz])];rfl
    ·rw [if_neg hz,if_pos hz]
  rw [eb,ea,ebad]
  exact rfMemory_ok h hB hS hlw he hl hk ho hO (fun e=>hR.b1 (by rw [e];rfl)) ct
 have hout:(o.kd=20∨o.kd=21∨o.kd=22∨o.kd=27∨o.kd=28)→CallsM Tryz.prog 120 [ptr p,o.val,a.val,i ct] m (OutPost m0 V C M sv lw p m H s ct (bodyS M sh s o)):=fun hO=>by
  have eb:bodyS M sh s o=outS s o:=by
   unfold bodyS;rw [if_neg (by unfold isMem;rcases hO with e | e | e | e | e<;>rw [e]<;>decide),if_pos (by unfold isOut;rcases hO with e | e | e | e | e<;>rw [e]<;>rfl)]
  have ea:a=s.reg o.a:=hR.a1 (by rcases hO with e | e | e | e | e<;>rw [e]<;>rfl)
  rw [eb,ea]
  exact rfOut_ok h hB hS hlw he hl hk ho hO ct
 have h18:∀ {q:Int},q=18→q≠19∧q≠26:=fun {q} e=>by rw [e];decide
 refine fd8_ok h hB hS he hl hk ho (fun e=>hR.a1 (by rw [e];rfl)) rfl (fun hO=>CallsM.mono (hmem hO) ?_) (fun hO=>CallsM.mono (hout hO) ?_) (fun e m1 H1 G=>?_) (fun e m1 G=>?_) (fun e m1 G=>?_) hmath
 ·rintro _ m1 ⟨rfl,H1,G⟩;exact ⟨_,rfl,rfl,H1,G⟩
 ·rintro _ m1 ⟨rfl,H1,G⟩;exact ⟨_,rfl,rfl,H1,G⟩
 ·have eb:bodyS M sh s o=⟨giveS M sh s o (s.kept.getD o.n.toNat VR.zero),0,false,false⟩:=by
   unfold bodyS memS;rw [if_pos (by rw [e];rfl),if_pos e];rfl
  rw [eb];exact ⟨rfl,H1,G⟩
 ·have eb:bodyS M sh s o=⟨{ s with kept:=s.kept.set o.n.toNat (s.reg o.a) },0,false,false⟩:=by
   unfold bodyS memS;rw [if_pos (by rw [e];rfl),if_neg (by rw [e];decide),if_pos e];rfl
  rw [eb];exact ⟨rfl,H,G⟩
 ·have eb:bodyS M sh s o=⟨{ s with word:=o.n.toNat },0,false,true⟩:=by
   unfold bodyS outS;rw [if_neg (by rw [e];decide),if_pos (by rw [e];rfl),if_pos e]
  rw [eb];exact ⟨rfl,H,G⟩
attribute [irreducible] fdT8
theorem fd3_ok {m:Mem} {rs:List Res} {RR:Ending→Mem→Prop} {R:IR} {ct:Int} {o:OpR} (ho:OpOK C o) {Z:List VR} (hZ:Z.length=C.rg.toNat) {ad:Addr} {cc:Nat} (hrv:CellsAt m ad (flatL VR.cells Z))
  (T:∀ a:VR,(uA o.kd=true→a=Z.getD o.a.toNat VR.zero)→(uA o.kd=false→a=VR.zero)→wpI Tryz.prog R (retPost rs RR)
   (envL [(0,.val (ptr p)),(2,.val (.slice (some ad) Z.length cc)),(3,.val (i ct)),(5,.var o.cells),(9,.var [.bool (uD o.kd),.bool (uA o.kd),.bool (uB o.kd),.bool (uC o.kd),.bool (uN o.kd)]),(10,.var a.cells),(11,.var [i 0,i 0]),(12,.var [i 0,i 0])]) m) :
  wpI Tryz.prog (.seq (fdPart 3) R) (retPost rs RR)
   (envL [(0,.val (ptr p)),(2,.val (.slice (some ad) Z.length cc)),(3,.val (i ct)),(5,.var o.cells),(9,.var [.bool (uD o.kd),.bool (uA o.kd),.bool (uB o.kd),.bool (uC o.kd),.bool (uN o.kd)]),(10,.var [i 0,i 0]),(11,.var [i 0,i 0]),(12,.var [i 0,i 0])]) m:=by
 have ha:=ho.a
 have hr:o.a.toNat<Z.length:=by rw [hZ];omega
 refine Br.mk (fun hu=>?_) (fun hu=>?_)
 ·refine WIdx.mk ad rfl ⟨ha.1,by omega⟩ ?_
  refine WLds.mk (Z.getD o.a.toNat VR.zero).cells (regs_cells hrv hr) rfl ?_
  conv=>whnf
  exact rest_envL (T _ (fun _=>rfl) (fun h=>by rw [hu] at h;cases h)) ⟨rfl,rfl,rfl,rfl,rfl,rfl,rfl,rfl,trivial⟩
 ·conv=>whnf
  exact rest_envL (T VR.zero (fun h=>by rw [hu] at h;cases h) (fun _=>rfl)) ⟨rfl,rfl,rfl,rfl,rfl,rfl,rfl,rfl,trivial⟩
theorem fd4_ok {m:Mem} {rs:List Res} {RR:Ending→Mem→Prop} {R:IR} {ct:Int} {o:OpR} (ho:OpOK C o) {Z:List VR} (hZ:Z.length=C.rg.toNat) {ad:Addr} {cc:Nat} (hrv:CellsAt m ad (flatL VR.cells Z)) {a:VR}
  (T:∀ b:VR,(uB o.kd=true→b=Z.getD o.b.toNat VR.zero)→(uB o.kd=false→b=VR.zero)→wpI Tryz.prog R (retPost rs RR)
   (envL [(0,.val (ptr p)),(2,.val (.slice (some ad) Z.length cc)),(3,.val (i ct)),(5,.var o.cells),(9,.var [.bool (uD o.kd),.bool (uA o.kd),.bool (uB o.kd),.bool (uC o.kd),.bool (uN o.kd)]),(10,.var a.cells),(11,.var b.cells),(12,.var [i 0,i 0])]) m) :
  wpI Tryz.prog (.seq (fdPart 4) R) (retPost rs RR)
   (envL [(0,.val (ptr p)),(2,.val (.slice (some ad) Z.length cc)),(3,.val (i ct)),(5,.var o.cells),(9,.var [.bool (uD o.kd),.bool (uA o.kd),.bool (uB o.kd),.bool (uC o.kd),.bool (uN o.kd)]),(10,.var a.cells),(11,.var [i 0,i 0]),(12,.var [i 0,i 0])]) m:=by
 have ha:=ho.b
 have hr:o.b.toNat<Z.length:=by rw [hZ];omega
 refine Br.mk (fun hu=>?_) (fun hu=>?_)
 ·refine WIdx.mk ad rfl ⟨ha.1,by omega⟩ ?_
  refine WLds.mk (Z.getD o.b.toNat VR.zero).cells (regs_cells hrv hr) rfl ?_
  conv=>whnf
  exact rest_envL (T _ (fun _=>rfl) (fun h=>by rw [hu] at h;cases h)) ⟨rfl,rfl,rfl,rfl,rfl,rfl,rfl,rfl,trivial⟩
 ·conv=>whnf
  exact rest_envL (T VR.zero (fun h=>by rw [hu] at h;cases h) (fun _=>rfl)) ⟨rfl,rfl,rfl,rfl,rfl,rfl,rfl,rfl,trivial⟩
theorem fd5_ok {m:Mem} {rs:List Res} {RR:Ending→Mem→Prop} {R:IR} {ct:Int} {o:OpR} (ho:OpOK C o) {Z:List VR} (hZ:Z.length=C.rg.toNat) {ad:Addr} {cc:Nat} (hrv:CellsAt m ad (flatL VR.cells Z)) {a b:VR}
  (T:∀ c:VR,(uC o.kd=true→c=Z.getD o.c.toNat VR.zero)→wpI Tryz.prog R (retPost rs RR)
   (envL [(0,.val (ptr p)),(3,.val (i ct)),(5,.var o.cells),(10,.var a.cells),(11,.var b.cells),(12,.var c.cells)]) m) :
  wpI Tryz.prog (.seq (fdPart 5) R) (retPost rs RR)
   (envL [(0,.val (ptr p)),(2,.val (.slice (some ad) Z.length cc)),(3,.val (i ct)),(5,.var o.cells),(9,.var [.bool (uD o.kd),.bool (uA o.kd),.bool (uB o.kd),.bool (uC o.kd),.bool (uN o.kd)]),(10,.var a.cells),(11,.var b.cells),(12,.var [i 0,i 0])]) m:=by
 have ha:=ho.c
 have hr:o.c.toNat<Z.length:=by rw [hZ];omega
 refine Br.mk (fun hu=>?_) (fun hu=>?_)
 ·refine WIdx.mk ad rfl ⟨ha.1,by omega⟩ ?_
  refine WLds.mk (Z.getD o.c.toNat VR.zero).cells (regs_cells hrv hr) rfl ?_
  conv=>whnf
  exact rest_envL (T _ (fun _=>rfl)) ⟨rfl,rfl,rfl,rfl,rfl,rfl,trivial⟩
 ·conv=>whnf
  exact rest_envL (T VR.zero (fun h=>by rw [hu] at h;cases h)) ⟨rfl,rfl,rfl,rfl,rfl,rfl,trivial⟩
theorem fd7_ok {m:Mem} {rs:List Res} {RR:Ending→Mem→Prop} {R:IR} {ct:Int} {o:OpR} {a b c:VR}
  (T:∀ bad:Int,(bad=if a.b=0 then b.b else a.b)→wpI Tryz.prog R (retPost rs RR)
   (envL [(0,.val (ptr p)),(3,.val (i ct)),(5,.var o.cells),(10,.var a.cells),(11,.var b.cells),(12,.var c.cells),(13,.val (i bad))]) m) :
  wpI Tryz.prog (.seq (fdPart 6) (.seq (fdPart 7) R)) (retPost rs RR)
   (envL [(0,.val (ptr p)),(3,.val (i ct)),(5,.var o.cells),(10,.var a.cells),(11,.var b.cells),(12,.var c.cells)]) m:=by
 refine Br.mk (fun hz=>?_) (fun hz=>?_)
 ·have hz:a.b=0:=by simpa using hz
  conv=>whnf
  exact rest_envL (T b.b (by rw [if_pos hz])) ⟨rfl,rfl,rfl,rfl,rfl,rfl,rfl,trivial⟩
 ·have hz:¬ a.b=0:=by simpa using hz
  conv=>whnf
  exact rest_envL (T a.b (by rw [if_neg hz])) ⟨rfl,rfl,rfl,rfl,rfl,rfl,rfl,trivial⟩
theorem fd2_ok {m:Mem} {rs:List Res} {RR:Ending→Mem→Prop} {R:IR} {ct:Int} {o:OpR} {rv:Value}
  (T:wpI Tryz.prog R (retPost rs RR) (envL [(0,.val (ptr p)),(2,.val rv),(3,.val (i ct)),(5,.var o.cells),(9,.var [.bool (uD o.kd),.bool (uA o.kd),.bool (uB o.kd),.bool (uC o.kd),.bool (uN o.kd)]),(10,.var [i 0,i 0]),(11,.var [i 0,i 0]),(12,.var [i 0,i 0])]) m) :
  wpI Tryz.prog (.seq (fdPart 0) (.seq (fdPart 1) (.seq (fdPart 2) R))) (retPost rs RR) (envOf [ptr p,o.val,rv,i ct]) m:=by
 refine WCall.pure (uses26_ok m o.kd) ?_
 conv=>whnf
 exact rest_envL T ⟨rfl,rfl,rfl,rfl,rfl,rfl,rfl,rfl,trivial⟩
theorem rfDo_ok (h:RfAt m0 m V C M sv lw p H s) (hB:SimBase m0 V C M sv sh) (hS:StOK C s) (hlw:s.word=lw) (he:s.ended=false) {k:Nat} (hl:LimS s k) (hk:k≤1000000000) {o:OpR} (ho:OpOK C o) (ct:Int) {ad:Addr} {cc:Nat} (hrv:CellsAt m ad (flatL VR.cells s.regs)) :
  CallsM Tryz.prog 89 [ptr p,o.val,.slice (some ad) s.regs.length cc,i ct] m (OutPost m0 V C M sv lw p m H s ct (bodyS M sh s o)):=by
 refine calls_of mixed Tryz.func89 ok_biremeref27_Sim_do rfl ?_
 unfold Fn.asks
 rw [fd_body]
 refine fd2_ok (fd3_ok ho hS.regs hrv fun a ha1 ha0=>fd4_ok ho hS.regs hrv fun b hb1 hb0=>fd5_ok ho hS.regs hrv fun c hc1=>fd7_ok fun bad hbad=>?_)
 exact fdT8_ok h hB hS hlw he hl hk ho ct ⟨ha1,ha0,hb1,hb0,hc1⟩ hbad
end
end Go.Proofs.YtleofbpepfmfgaaGreatDoor
