import Derived.Test.YtleofbpepfmfgaaGreatDoorVxSimY
set_option maxRecDepth 100000
namespace Go.Proofs.YtleofbpepfmfgaaGreatDoor
open Go Go.Vx
open Go.Vx.IOp Go.Vx.IR Go.Vx.Opd
theorem w3x (m:Mem) (o:OpR) (bad trap:Int):q0m Tryz.prog 122 [o.val,i bad,i trap] m (.bool ((o.kd==14||o.kd==15)&&(bad != 0||trap != 0))):=by
 refine q0e q0d Tryz.func122 w2m rfl ?_
 refine WSc.mk (v:=o.kd==15) (fun _=>And.intro (Mem.le.refl _) rfl) ?_
 refine WSc.mk (v:=(bad != 0||trap != 0)) (fun _=>?_) ?_
 ·refine WSc.mk (v:=trap != 0) (fun _=>And.intro (Mem.le.refl _) rfl) ?_
  conv=>whnf
  exact And.intro (Mem.le.refl _) rfl
 exact WRet.same ⟨rfl,rfl⟩
theorem j0w {o:OpR} {a b c:VR} {bad:Int} (hbad:bad=if a.b=0 then b.b else a.b):((o.kd==14||o.kd==15)&&(bad != 0||(q1u o a b c).2 != 0))=((q1u o a b c).2 != 0):=by
 by_cases h:o.kd=14∨o.kd=15
 ·have e1:(o.kd==14||o.kd==15)=true:=by simpa using h
  rw [e1,Bool.true_and]
  by_cases hb:bad=0
  ·rw [hb];rfl
  ·have ed:q1u o a b c=q2u o.kd a b:=by unfold q1u;rw [if_neg (by omega),if_neg (by omega),if_neg (by omega)]
   have e2:(q1u o a b c).2=bad:=by
    rw [ed];unfold q2u;simp only;rw [← hbad,if_neg hb]
    rw [if_pos ⟨hb,by unfold q0z;rcases h with h | h<;>rw [h]<;>decide,by unfold q3o;rcases h with h | h<;>rw [h]<;>decide⟩]
   rw [e2,Bool.or_self]
 ·have e1:(o.kd==14||o.kd==15)=false:=by simpa using h
  rw [e1,Bool.false_and]
  have e2:(q1u o a b c).2=0:=by
   unfold q1u
   split
   ·rfl
   ·split
    ·rfl
    ·split
     ·rfl
     ·by_cases hz:(q2u o.kd a b).2=0
      ·exact hz
      ·exfalso
       obtain ⟨h1,h2⟩:=w3u hz
       unfold q3o at h2
       simp only [Bool.or_eq_false_iff,beq_eq_false_iff_ne,ne_eq] at h2
       unfold q0z at h1
       rw [if_neg h2.1,if_neg h2.2] at h1
       exact h h1
  rw [e2];rfl
theorem z4i {m:Mem} {ad:Addr} {R:List VR} (h:q0g m ad (q0r VR.cells R)) {r:Nat} (hr:r<R.length):q0g m (ad.add (r * 2)) (R.getD r VR.zero).cells:=by
 intro q v hq
 have hq2:q<2:=(List.getElem?_eq_some_iff.1 hq).1
 rw [q0o]
 refine h (r * 2+q) v ?_
 rw [q8a q2c hr hq2]
 rw [List.getD_eq_getElem?_getD,List.getElem?_eq_getElem hr] at hq
 exact hq
structure v2g (s:St) (o:OpR) (a b c:VR):Prop where
 a1:uA o.kd=true→a=s.reg o.a
 a0:uA o.kd=false→a=VR.zero
 b1:uB o.kd=true→b=s.reg o.b
 b0:uB o.kd=false→b=VR.zero
 c1:uC o.kd=true→c=s.reg o.c
def q4f:Nat→IR:=fun k=>match k,z6a.body with
 | 0,.seq a _=>a
 | 1,.seq _ (.seq a _)=>a
 | 2,.seq _ (.seq _ (.seq a _))=>a
 | 3,.seq _ (.seq _ (.seq _ (.seq a _)))=>a
 | 4,.seq _ (.seq _ (.seq _ (.seq _ (.seq a _))))=>a
 | 5,.seq _ (.seq _ (.seq _ (.seq _ (.seq _ (.seq a _)))))=>a
 | 6,.seq _ (.seq _ (.seq _ (.seq _ (.seq _ (.seq _ (.seq a _))))))=>a
 | 7,.seq _ (.seq _ (.seq _ (.seq _ (.seq _ (.seq _ (.seq _ (.seq a _)))))))=>a
 | 8,.seq _ (.seq _ (.seq _ (.seq _ (.seq _ (.seq _ (.seq _ (.seq _ (.seq a _))))))))=>a
 | _,.seq _ (.seq _ (.seq _ (.seq _ (.seq _ (.seq _ (.seq _ (.seq _ (.seq _ r))))))))=>r
 | _,r=>r
def z5f:IR:=q4f 9
def fdT8:IR:=.seq (q4f 8) z5f
theorem w5t:z6a.body=.seq (q4f 0) (.seq (q4f 1) (.seq (q4f 2) (.seq (q4f 3) (.seq (q4f 4) (.seq (q4f 5) (.seq (q4f 6) (.seq (q4f 7) fdT8))))))):=rfl
section
variable {m0 m m' m2 m3:Mem} {V:CV} {C:q0c} {M:Mac} {sv:Value} {lw:Int} {p:Nat} {H:HdF} {s s' s1:St} {sh:List Int}
theorem fm_ok {m:Mem} {rs:List Res} {RR:Ending→Mem→Prop} {ct bad:Int} {o:OpR} {a b c v:VR} {t:Int} (hrs:rs=[.t 8]) (hdo:q0m Tryz.prog 121 [o.val,a.val,b.val,c.val] m (.tuple ⟨[v.val,i t]⟩))
  (htr:q0m Tryz.prog 122 [o.val,i bad,i t] m (.bool (t != 0)))
  (hT:t≠0→q0f Tryz.prog 88 [ptr p,i t,i ct] m fun e m'=>e=.returned q2r∧RR (.returned (.bool true)) m')
  (hG:t=0→q0f Tryz.prog 119 [ptr p,o.val,v.val] m fun e m'=>e=.returned q2r∧RR (.returned (.bool false)) m') :
  wpI Tryz.prog z5f (q0i rs RR)
   (envL [(0,.val (ptr p)),(3,.val (i ct)),(5,.var o.cells),(10,.var a.cells),(11,.var b.cells),(12,.var c.cells),(13,.val (i bad))]) m:=by
 subst hrs
 conv=>whnf
 refine q0a.pure hdo ?_
 conv=>whnf
 refine q0a.pure htr ?_
 refine Br.mk (fun ht=>?_) (fun ht=>?_)
 ·have ht:t≠0:=by simpa using ht
  refine Br.mk (fun hz=>?_) (fun _=>?_)
  ·have hz:t=0:=by simpa using hz
   exact absurd hz ht
  conv=>whnf
  refine q0a.mk (hT ht) ?_
  rintro _ m1 ⟨rfl,G⟩
  exact WRet.same G
 ·have ht:t=0:=by simpa using ht
  conv=>whnf
  refine q0a.mk (hG ht) ?_
  rintro _ m1 ⟨rfl,G⟩
  exact WRet.same G
attribute [irreducible] z5f
theorem j0r (h:RfAt m0 m V C M sv lw p H s) (hB:q1m m0 V C M sv sh) (hS:StOK C s) (hlw:s.word=lw) (he:s.ended=false) {k:Nat} (hl:LimS s k) (hk:k≤1000000000) {o:OpR} (ho:OpOK C o) (ct:Int)
  {a b c:VR} (hR:v2g s o a b c) {bad:Int} (hbad:bad=if a.b=0 then b.b else a.b) (hm:q4d o.kd=false) (hO:q4r o.kd=false) :
  wpI Tryz.prog z5f (q0i [.t 8] (q7c m0 V C M sv lw p m H s ct (q1x M sh s o)))
   (envL [(0,.val (ptr p)),(3,.val (i ct)),(5,.var o.cells),(10,.var a.cells),(11,.var b.cells),(12,.var c.cells),(13,.val (i bad))]) m:=by
 have hk2:=ho.kd
 have hM:q9n o.kd=true:=by
  have hm':=hm
  have hO':=hO
  unfold q4d at hm'
  unfold q4r at hO'
  simp only [Bool.or_eq_false_iff,beq_eq_false_iff_ne,ne_eq] at hm' hO'
  have:o.kd=1∨o.kd=2∨o.kd=12∨o.kd=3∨o.kd=4∨o.kd=5∨o.kd=6∨o.kd=7∨o.kd=8∨o.kd=9∨o.kd=10∨o.kd=11∨o.kd=13∨o.kd=14∨o.kd=15∨o.kd=23∨o.kd=24:=by omega
  rcases this with e | e | e | e | e | e | e | e | e | e | e | e | e | e | e | e | e<;>rw [e]<;>rfl
 have haok:a.ok:=by
  cases hu:uA o.kd with
  | true=>rw [hR.a1 hu];exact z8q hS.rok _
  | false=>rw [hR.a0 hu];exact VR.zero_ok
 have hdo:=w4t m o hk2 hM a b c haok
 have ed:q1u o (s.reg o.a) (s.reg o.b) (s.reg o.c)=q1u o a b c:=k3z (fun u=>(hR.a1 u).symm) (fun u=>(hR.b1 u).symm) (fun u=>(hR.c1 u).symm) hm hO hk2
 have htr:=w3x m o bad (q1u o a b c).2
 rw [j0w hbad] at htr
 have eb:q1x M sh s o=if (q1u o a b c).2≠0 then ⟨s,(q1u o a b c).2,true,false⟩ else ⟨q4b M sh s o (q1u o a b c).1,0,false,false⟩:=by
  unfold q1x;rw [if_neg (by rw [hm];decide),if_neg (by rw [hO];decide),ed]
 have hlway:=hl.way
 generalize q1u o a b c=d at *
 obtain ⟨v,t⟩:=d
 simp only at hdo htr eb
 refine fm_ok rfl hdo htr (fun ht=>?_) (fun ht=>?_)
 ·rw [eb,if_pos ht]
  refine q0f.mono (z3r h hB hS hlw he (by omega) ct t) ?_
  rintro _ m1 ⟨rfl,H1,G⟩
  exact ⟨rfl,rfl,H1,G⟩
 ·rw [eb,if_neg (fun h=>h ht)]
  refine q0f.mono (z4g h hB hl hk o ho.ds.1 v) ?_
  rintro _ m1 ⟨rfl,H1,G⟩
  exact ⟨rfl,rfl,H1,G⟩
theorem v8x (h:RfAt m0 m V C M sv lw p H s) (hB:q1m m0 V C M sv sh) (hS:StOK C s) (he:s.ended=false) {k:Nat} (hl:LimS s k) (hk:k≤1000000000) {o:OpR} (ho:OpOK C o) {ct bad:Int}
  {a b c:VR} (ha:o.kd=19→a=s.reg o.a) {rs:List Res} {RR:Ending→Mem→Prop} {R:IR} (hrs:rs=[.t 8])
  (hmem:(o.kd=16∨o.kd=17∨o.kd=25)→q0f Tryz.prog 118 [ptr p,o.val,a.val,b.val,i bad,i ct] m fun e m'=>∃ q,e=.returned (.bool q)∧RR (.returned (.bool q)) m')
  (hout:(o.kd=20∨o.kd=21∨o.kd=22∨o.kd=27∨o.kd=28)→q0f Tryz.prog 120 [ptr p,o.val,a.val,i ct] m fun e m'=>∃ q,e=.returned (.bool q)∧RR (.returned (.bool q)) m')
  (h18':o.kd=18→∀ m1 H1,q1d m0 V C M sv lw p m H s m1 H1 (q4b M sh s o (s.kept.getD o.n.toNat VR.zero))→RR (.returned (.bool false)) m1)
  (h19':o.kd=19→∀ m1,q1d m0 V C M sv lw p m H s m1 H { s with kept:=s.kept.set o.n.toNat (s.reg o.a) }→RR (.returned (.bool false)) m1)
  (h26':o.kd=26→∀ m1,q1d m0 V C M sv lw p m H s m1 H { s with word:=o.n.toNat }→RR (.returned (.bool true)) m1)
  (hmath:q4d o.kd=false→q4r o.kd=false→wpI Tryz.prog R (q0i rs RR) (envL [(0,.val (ptr p)),(3,.val (i ct)),(5,.var o.cells),(10,.var a.cells),(11,.var b.cells),(12,.var c.cells),(13,.val (i bad))]) m) :
  wpI Tryz.prog (.seq (q4f 8) R) (q0i rs RR)
   (envL [(0,.val (ptr p)),(3,.val (i ct)),(5,.var o.cells),(10,.var a.cells),(11,.var b.cells),(12,.var c.cells),(13,.val (i bad))]) m:=by
 have hn:=ho.n
 refine Br.mk (fun h16=>?_) (fun h16=>?_)
 ·have h16:o.kd=16:=by simpa using h16
  refine Br.mk (fun _=>?_) (fun hh=>by cases hh)
  conv=>whnf
  refine q0a.mk (hmem (.inl h16)) ?_
  rintro _ m1 ⟨q,rfl,G⟩
  subst hrs
  exact WRet.same G
 have h16:o.kd≠16:=by simpa using h16
 refine Br.mk (fun h17=>?_) (fun h17=>?_)
 ·have h17:o.kd=17:=by simpa using h17
  refine Br.mk (fun _=>?_) (fun hh=>by cases hh)
  conv=>whnf
  refine q0a.mk (hmem (.inr (.inl h17))) ?_
  rintro _ m1 ⟨q,rfl,G⟩
  subst hrs
  exact WRet.same G
 have h17:o.kd≠17:=by simpa using h17
 refine Br.mk (fun h25=>?_) (fun h25=>?_)
 ·have h25:o.kd=25:=by simpa using h25
  conv=>whnf
  refine q0a.mk (hmem (.inr (.inr h25))) ?_
  rintro _ m1 ⟨q,rfl,G⟩
  subst hrs
  exact WRet.same G
 have h25:o.kd≠25:=by simpa using h25
 refine Br.mk (fun h18=>?_) (fun h18=>?_)
 ·have h18:o.kd=18:=by simpa using h18
  have hn:=hn.2.1 (.inl h18)
  have hr:o.n.toNat<s.kept.length:=by rw [hS.kept];omega
  obtain ⟨ad,had,hc⟩:=h.keptCells hr
  conv=>whnf
  refine ⟨?_,trivial⟩
  refine WLd.mk (hv H s 2) (h.cell rfl) ?_
  refine WIdx.mk ad had ⟨hn.1,by show o.n<(s.kept.length:Nat);omega⟩ ?_
  refine WLds.mk _ hc rfl ?_
  conv=>whnf
  refine ⟨?_,trivial⟩
  conv=>whnf
  refine q0a.mk (z4g h hB hl hk o ho.ds.1 (s.kept.getD o.n.toNat VR.zero)) ?_
  rintro _ m1 ⟨rfl,H1,G⟩
  subst hrs
  exact WRet.same (h18' h18 m1 H1 G)
 have h18:o.kd≠18:=by simpa using h18
 refine Br.mk (fun h19=>?_) (fun h19=>?_)
 ·have h19:o.kd=19:=by simpa using h19
  have hn:=hn.2.1 (.inr h19)
  have hr:o.n.toNat<s.kept.length:=by rw [hS.kept];omega
  obtain ⟨ad,had,hc⟩:=h.keptCells hr
  have ea:=ha h19
  refine WLd.mk (hv H s 2) (h.cell rfl) ?_
  refine WIdx.mk ad had ⟨hn.1,by show o.n<(s.kept.length:Nat);omega⟩ ?_
  conv=>whnf
  refine ⟨?_,trivial⟩
  conv=>whnf
  refine h.setKept hr had (v:=s.reg o.a) (by rw [ea];rfl) fun m1 G=>?_
  subst hrs
  exact WRet.same (h19' h19 m1 G)
 have h19:o.kd≠19:=by simpa using h19
 refine Br.mk (fun h26=>?_) (fun h26=>?_)
 ·have h26:o.kd=26:=by simpa using h26
  have hn:=hn.2.2 (.inr h26)
  conv=>whnf
  refine h.setWord he (w:=o.n.toNat) (by omega) rfl fun m1 G=>?_
  subst hrs
  exact WRet.same (h26' h26 m1 G)
 have h26:o.kd≠26:=by simpa using h26
 refine Br.mk (fun h20=>?_) (fun h20=>?_)
 ·have h20:o.kd=20:=by simpa using h20
  refine Br.mk (fun _=>?_) (fun hh=>by cases hh)
  conv=>whnf
  refine q0a.mk (hout (.inl h20)) ?_
  rintro _ m1 ⟨q,rfl,G⟩
  subst hrs
  exact WRet.same G
 have h20:o.kd≠20:=by simpa using h20
 refine Br.mk (fun h21=>?_) (fun h21=>?_)
 ·have h21:o.kd=21:=by simpa using h21
  refine Br.mk (fun _=>?_) (fun hh=>by cases hh)
  conv=>whnf
  refine q0a.mk (hout (.inr (.inl h21))) ?_
  rintro _ m1 ⟨q,rfl,G⟩
  subst hrs
  exact WRet.same G
 have h21:o.kd≠21:=by simpa using h21
 refine Br.mk (fun h22=>?_) (fun h22=>?_)
 ·have h22:o.kd=22:=by simpa using h22
  refine Br.mk (fun _=>?_) (fun hh=>by cases hh)
  conv=>whnf
  refine q0a.mk (hout (.inr (.inr (.inl h22)))) ?_
  rintro _ m1 ⟨q,rfl,G⟩
  subst hrs
  exact WRet.same G
 have h22:o.kd≠22:=by simpa using h22
 refine Br.mk (fun h27=>?_) (fun h27=>?_)
 ·have h27:o.kd=27:=by simpa using h27
  refine Br.mk (fun _=>?_) (fun hh=>by cases hh)
  conv=>whnf
  refine q0a.mk (hout (.inr (.inr (.inr (.inl h27))))) ?_
  rintro _ m1 ⟨q,rfl,G⟩
  subst hrs
  exact WRet.same G
 have h27:o.kd≠27:=by simpa using h27
 refine Br.mk (fun h28=>?_) (fun h28=>?_)
 ·have h28:o.kd=28:=by simpa using h28
  conv=>whnf
  refine q0a.mk (hout (.inr (.inr (.inr (.inr h28))))) ?_
  rintro _ m1 ⟨q,rfl,G⟩
  subst hrs
  exact WRet.same G
 have h28:o.kd≠28:=by simpa using h28
 have hm:q4d o.kd=false:=by unfold q4d;simp [h16,h17,h18,h19,h25]
 have hO:q4r o.kd=false:=by unfold q4r;simp [h20,h21,h22,h26,h27,h28]
 conv=>whnf
 exact q0x (hmath hm hO) ⟨rfl,rfl,rfl,rfl,rfl,rfl,rfl,trivial⟩
theorem w2r (h:RfAt m0 m V C M sv lw p H s) (hB:q1m m0 V C M sv sh) (hS:StOK C s) (hlw:s.word=lw) (he:s.ended=false) {k:Nat} (hl:LimS s k) (hk:k≤1000000000) {o:OpR} (ho:OpOK C o) (ct:Int)
  {a b c:VR} (hR:v2g s o a b c) {bad:Int} (hbad:bad=if a.b=0 then b.b else a.b) :
  wpI Tryz.prog fdT8 (q0i [.t 8] (q7c m0 V C M sv lw p m H s ct (q1x M sh s o)))
   (envL [(0,.val (ptr p)),(3,.val (i ct)),(5,.var o.cells),(10,.var a.cells),(11,.var b.cells),(12,.var c.cells),(13,.val (i bad))]) m:=by
 have hn:=ho.n
 have hmath:=j0r h hB hS hlw he hl hk ho ct hR hbad
 have hmem:(o.kd=16∨o.kd=17∨o.kd=25)→q0f Tryz.prog 118 [ptr p,o.val,a.val,b.val,i bad,i ct] m (q7c m0 V C M sv lw p m H s ct (q1x M sh s o)):=fun hO=>by
  have eb:q1x M sh s o=q6e M sh s o:=by
   unfold q1x;rw [if_pos (by unfold q4d;rcases hO with e | e | e<;>rw [e]<;>rfl)];rfl
  have ea:a=s.reg o.a:=hR.a1 (by rcases hO with e | e | e<;>rw [e]<;>rfl)
  have ebad:bad=badN s o:=by
   rw [hbad,ea];unfold badN
   by_cases h17:o.kd=17
   ·rw [if_pos h17,hR.b1 (by rw [h17];rfl)]
    by_cases hz:(s.reg o.a).b=0
    ·rw [if_pos hz,if_neg (by simp [hz])]
    ·rw [if_neg hz,if_pos hz]
   ·have:b=VR.zero:=hR.b0 (by rcases hO with e | e | e<;>first | exact absurd e h17 | (rw [e];rfl))
    rw [if_neg h17,this]
    by_cases hz:(s.reg o.a).b=0
    ·rw [if_pos hz,if_neg (by simp [hz])];rfl
    ·rw [if_neg hz,if_pos hz]
  rw [eb,ea,ebad]
  exact k6e h hB hS hlw he hl hk ho hO (fun e=>hR.b1 (by rw [e];rfl)) ct
 have hout:(o.kd=20∨o.kd=21∨o.kd=22∨o.kd=27∨o.kd=28)→q0f Tryz.prog 120 [ptr p,o.val,a.val,i ct] m (q7c m0 V C M sv lw p m H s ct (q1x M sh s o)):=fun hO=>by
  have eb:q1x M sh s o=outS s o:=by
   unfold q1x;rw [if_neg (by unfold q4d;rcases hO with e | e | e | e | e<;>rw [e]<;>decide),if_pos (by unfold q4r;rcases hO with e | e | e | e | e<;>rw [e]<;>rfl)]
  have ea:a=s.reg o.a:=hR.a1 (by rcases hO with e | e | e | e | e<;>rw [e]<;>rfl)
  rw [eb,ea]
  exact j3p h hB hS hlw he hl hk ho hO ct
 have h18:∀ {q:Int},q=18→q≠19∧q≠26:=fun {q} e=>by rw [e];decide
 refine v8x h hB hS he hl hk ho (fun e=>hR.a1 (by rw [e];rfl)) rfl (fun hO=>q0f.mono (hmem hO) ?_) (fun hO=>q0f.mono (hout hO) ?_) (fun e m1 H1 G=>?_) (fun e m1 G=>?_) (fun e m1 G=>?_) hmath
 ·rintro _ m1 ⟨rfl,H1,G⟩;exact ⟨_,rfl,rfl,H1,G⟩
 ·rintro _ m1 ⟨rfl,H1,G⟩;exact ⟨_,rfl,rfl,H1,G⟩
 ·have eb:q1x M sh s o=⟨q4b M sh s o (s.kept.getD o.n.toNat VR.zero),0,false,false⟩:=by
   unfold q1x memS;rw [if_pos (by rw [e];rfl),if_pos e];rfl
  rw [eb];exact ⟨rfl,H1,G⟩
 ·have eb:q1x M sh s o=⟨{ s with kept:=s.kept.set o.n.toNat (s.reg o.a) },0,false,false⟩:=by
   unfold q1x memS;rw [if_pos (by rw [e];rfl),if_neg (by rw [e];decide),if_pos e];rfl
  rw [eb];exact ⟨rfl,H,G⟩
 ·have eb:q1x M sh s o=⟨{ s with word:=o.n.toNat },0,false,true⟩:=by
   unfold q1x outS;rw [if_neg (by rw [e];decide),if_pos (by rw [e];rfl),if_pos e]
  rw [eb];exact ⟨rfl,H,G⟩
attribute [irreducible] fdT8
theorem w2e {m:Mem} {rs:List Res} {RR:Ending→Mem→Prop} {R:IR} {ct:Int} {o:OpR} (ho:OpOK C o) {Z:List VR} (hZ:Z.length=C.rg.toNat) {ad:Addr} {cc:Nat} (hrv:q0g m ad (q0r VR.cells Z))
  (T:∀ a:VR,(uA o.kd=true→a=Z.getD o.a.toNat VR.zero)→(uA o.kd=false→a=VR.zero)→wpI Tryz.prog R (q0i rs RR)
   (envL [(0,.val (ptr p)),(2,.val (.slice (some ad) Z.length cc)),(3,.val (i ct)),(5,.var o.cells),(9,.var [.bool (uD o.kd),.bool (uA o.kd),.bool (uB o.kd),.bool (uC o.kd),.bool (uN o.kd)]),(10,.var a.cells),(11,.var [i 0,i 0]),(12,.var [i 0,i 0])]) m) :
  wpI Tryz.prog (.seq (q4f 3) R) (q0i rs RR)
   (envL [(0,.val (ptr p)),(2,.val (.slice (some ad) Z.length cc)),(3,.val (i ct)),(5,.var o.cells),(9,.var [.bool (uD o.kd),.bool (uA o.kd),.bool (uB o.kd),.bool (uC o.kd),.bool (uN o.kd)]),(10,.var [i 0,i 0]),(11,.var [i 0,i 0]),(12,.var [i 0,i 0])]) m:=by
 have ha:=ho.a
 have hr:o.a.toNat<Z.length:=by rw [hZ];omega
 refine Br.mk (fun hu=>?_) (fun hu=>?_)
 ·refine WIdx.mk ad rfl ⟨ha.1,by omega⟩ ?_
  refine WLds.mk (Z.getD o.a.toNat VR.zero).cells (z4i hrv hr) rfl ?_
  conv=>whnf
  exact q0x (T _ (fun _=>rfl) (fun h=>by rw [hu] at h;cases h)) ⟨rfl,rfl,rfl,rfl,rfl,rfl,rfl,rfl,trivial⟩
 ·conv=>whnf
  exact q0x (T VR.zero (fun h=>by rw [hu] at h;cases h) (fun _=>rfl)) ⟨rfl,rfl,rfl,rfl,rfl,rfl,rfl,rfl,trivial⟩
theorem w2l {m:Mem} {rs:List Res} {RR:Ending→Mem→Prop} {R:IR} {ct:Int} {o:OpR} (ho:OpOK C o) {Z:List VR} (hZ:Z.length=C.rg.toNat) {ad:Addr} {cc:Nat} (hrv:q0g m ad (q0r VR.cells Z)) {a:VR}
  (T:∀ b:VR,(uB o.kd=true→b=Z.getD o.b.toNat VR.zero)→(uB o.kd=false→b=VR.zero)→wpI Tryz.prog R (q0i rs RR)
   (envL [(0,.val (ptr p)),(2,.val (.slice (some ad) Z.length cc)),(3,.val (i ct)),(5,.var o.cells),(9,.var [.bool (uD o.kd),.bool (uA o.kd),.bool (uB o.kd),.bool (uC o.kd),.bool (uN o.kd)]),(10,.var a.cells),(11,.var b.cells),(12,.var [i 0,i 0])]) m) :
  wpI Tryz.prog (.seq (q4f 4) R) (q0i rs RR)
   (envL [(0,.val (ptr p)),(2,.val (.slice (some ad) Z.length cc)),(3,.val (i ct)),(5,.var o.cells),(9,.var [.bool (uD o.kd),.bool (uA o.kd),.bool (uB o.kd),.bool (uC o.kd),.bool (uN o.kd)]),(10,.var a.cells),(11,.var [i 0,i 0]),(12,.var [i 0,i 0])]) m:=by
 have ha:=ho.b
 have hr:o.b.toNat<Z.length:=by rw [hZ];omega
 refine Br.mk (fun hu=>?_) (fun hu=>?_)
 ·refine WIdx.mk ad rfl ⟨ha.1,by omega⟩ ?_
  refine WLds.mk (Z.getD o.b.toNat VR.zero).cells (z4i hrv hr) rfl ?_
  conv=>whnf
  exact q0x (T _ (fun _=>rfl) (fun h=>by rw [hu] at h;cases h)) ⟨rfl,rfl,rfl,rfl,rfl,rfl,rfl,rfl,trivial⟩
 ·conv=>whnf
  exact q0x (T VR.zero (fun h=>by rw [hu] at h;cases h) (fun _=>rfl)) ⟨rfl,rfl,rfl,rfl,rfl,rfl,rfl,rfl,trivial⟩
theorem k5v {m:Mem} {rs:List Res} {RR:Ending→Mem→Prop} {R:IR} {ct:Int} {o:OpR} (ho:OpOK C o) {Z:List VR} (hZ:Z.length=C.rg.toNat) {ad:Addr} {cc:Nat} (hrv:q0g m ad (q0r VR.cells Z)) {a b:VR}
  (T:∀ c:VR,(uC o.kd=true→c=Z.getD o.c.toNat VR.zero)→wpI Tryz.prog R (q0i rs RR)
   (envL [(0,.val (ptr p)),(3,.val (i ct)),(5,.var o.cells),(10,.var a.cells),(11,.var b.cells),(12,.var c.cells)]) m) :
  wpI Tryz.prog (.seq (q4f 5) R) (q0i rs RR)
   (envL [(0,.val (ptr p)),(2,.val (.slice (some ad) Z.length cc)),(3,.val (i ct)),(5,.var o.cells),(9,.var [.bool (uD o.kd),.bool (uA o.kd),.bool (uB o.kd),.bool (uC o.kd),.bool (uN o.kd)]),(10,.var a.cells),(11,.var b.cells),(12,.var [i 0,i 0])]) m:=by
 have ha:=ho.c
 have hr:o.c.toNat<Z.length:=by rw [hZ];omega
 refine Br.mk (fun hu=>?_) (fun hu=>?_)
 ·refine WIdx.mk ad rfl ⟨ha.1,by omega⟩ ?_
  refine WLds.mk (Z.getD o.c.toNat VR.zero).cells (z4i hrv hr) rfl ?_
  conv=>whnf
  exact q0x (T _ (fun _=>rfl)) ⟨rfl,rfl,rfl,rfl,rfl,rfl,trivial⟩
 ·conv=>whnf
  exact q0x (T VR.zero (fun h=>by rw [hu] at h;cases h)) ⟨rfl,rfl,rfl,rfl,rfl,rfl,trivial⟩
theorem k8w {m:Mem} {rs:List Res} {RR:Ending→Mem→Prop} {R:IR} {ct:Int} {o:OpR} {a b c:VR}
  (T:∀ bad:Int,(bad=if a.b=0 then b.b else a.b)→wpI Tryz.prog R (q0i rs RR)
   (envL [(0,.val (ptr p)),(3,.val (i ct)),(5,.var o.cells),(10,.var a.cells),(11,.var b.cells),(12,.var c.cells),(13,.val (i bad))]) m) :
  wpI Tryz.prog (.seq (q4f 6) (.seq (q4f 7) R)) (q0i rs RR)
   (envL [(0,.val (ptr p)),(3,.val (i ct)),(5,.var o.cells),(10,.var a.cells),(11,.var b.cells),(12,.var c.cells)]) m:=by
 refine Br.mk (fun hz=>?_) (fun hz=>?_)
 ·have hz:a.b=0:=by simpa using hz
  conv=>whnf
  exact q0x (T b.b (by rw [if_pos hz])) ⟨rfl,rfl,rfl,rfl,rfl,rfl,rfl,trivial⟩
 ·have hz:¬ a.b=0:=by simpa using hz
  conv=>whnf
  exact q0x (T a.b (by rw [if_neg hz])) ⟨rfl,rfl,rfl,rfl,rfl,rfl,rfl,trivial⟩
theorem w0d {m:Mem} {rs:List Res} {RR:Ending→Mem→Prop} {R:IR} {ct:Int} {o:OpR} {rv:Value}
  (T:wpI Tryz.prog R (q0i rs RR) (envL [(0,.val (ptr p)),(2,.val rv),(3,.val (i ct)),(5,.var o.cells),(9,.var [.bool (uD o.kd),.bool (uA o.kd),.bool (uB o.kd),.bool (uC o.kd),.bool (uN o.kd)]),(10,.var [i 0,i 0]),(11,.var [i 0,i 0]),(12,.var [i 0,i 0])]) m) :
  wpI Tryz.prog (.seq (q4f 0) (.seq (q4f 1) (.seq (q4f 2) R))) (q0i rs RR) (q5p [ptr p,o.val,rv,i ct]) m:=by
 conv=>whnf
 refine q0a.pure (v6v m o.kd) ?_
 conv=>whnf
 exact q0x T ⟨rfl,rfl,rfl,rfl,rfl,rfl,rfl,rfl,trivial⟩
theorem j9v (h:RfAt m0 m V C M sv lw p H s) (hB:q1m m0 V C M sv sh) (hS:StOK C s) (hlw:s.word=lw) (he:s.ended=false) {k:Nat} (hl:LimS s k) (hk:k≤1000000000) {o:OpR} (ho:OpOK C o) (ct:Int) {ad:Addr} {cc:Nat} (hrv:q0g m ad (q0r VR.cells s.regs)) :
  q0f Tryz.prog 89 [ptr p,o.val,.slice (some ad) s.regs.length cc,i ct] m (q7c m0 V C M sv lw p m H s ct (q1x M sh s o)):=by
 refine q0e q0d Tryz.func89 w1t rfl ?_
 unfold Fn.asks
 rw [w5t]
 refine w0d (w2e ho hS.regs hrv fun a ha1 ha0=>w2l ho hS.regs hrv fun b hb1 hb0=>k5v ho hS.regs hrv fun c hc1=>k8w fun bad hbad=>?_)
 exact w2r h hB hS hlw he hl hk ho ct ⟨ha1,ha0,hb1,hb0,hc1⟩ hbad
end
section
variable {C:q0c} {M:Mac} {sh:List Int} {s:St} {k:Nat}
theorem LimS.give (h:LimS s k) {o:OpR} {v:VR}:LimS (q4b M sh s o v) (k+1) :=
 ⟨by show s.took≤_;have:=h.took;omega,by show s.begun+1≤_;have:=h.begun;omega,by show (s.way++[_]).length≤_;have:=h.way;simp;omega,by show s.prints.length≤_;have:=h.prints;omega⟩
theorem LimS.same (h:LimS s k) {t:St} (h1:t.took=s.took) (h2:t.begun=s.begun) (h3:t.way=s.way∨t.way=[]) (h4:t.prints=s.prints):LimS t k :=
 ⟨by rw [h1];exact h.took,by rw [h2];exact h.begun,by
  rcases h3 with e | e
  ·rw [e];exact h.way
  ·rw [e];exact Nat.zero_le _,by rw [h4];exact h.prints⟩
theorem LimS.mem (h:LimS s k) {o:OpR}:LimS (memS M sh s o).1 (k+1):=by
 have up:=h.up (Nat.le_succ k)
 unfold memS
 split
 ·exact h.give
 ·split
  ·exact up.same rfl rfl (.inl rfl) rfl
  ·generalize nMem s o=n
   split
   ·exact h.give
   ·split
    ·exact up
    ·split
     ·exact up.same rfl rfl (.inl rfl) rfl
     ·exact h.give
theorem LimS.out (h:LimS s k) {o:OpR}:LimS (outS s o).s (k+1):=by
 have up:=h.up (Nat.le_succ k)
 unfold outS
 split
 ·exact up.same rfl rfl (.inl rfl) rfl
 ·split
  ·exact up
  ·split
   ·exact ⟨up.took,up.begun,up.way,by show (s.prints++[_]).length≤_;have:=h.prints;simp;omega⟩
   ·split
    ·split
     ·exact up.same rfl rfl (.inl rfl) rfl
     ·exact up
    ·split
     ·exact up.same rfl rfl (.inr rfl) rfl
     ·split<;>exact up
theorem LimS.do (h:LimS s k) {o:OpR}:LimS (doS M sh s o).s (k+1):=by
 have up:=h.up (Nat.le_succ k)
 unfold doS
 split
 ·exact up
 ·split
  ·exact up
  ·unfold q1x
   split
   ·exact h.mem
   ·split
    ·exact h.out
    ·split
     ·exact up
     ·exact h.give
theorem LimS.trap (h:LimS s k) {ct n:Int}:LimS (q5i C s ct n) k:=by
 unfold q5i
 split
 ·exact h.same rfl rfl (.inr rfl) rfl
 ·exact h.same rfl rfl (.inr rfl) rfl
theorem LimS.arrive (h:LimS s k):LimS (q2y s) k :=
 ⟨h.took,h.begun,Nat.le_trans (List.length_filter_le _ _) h.way,h.prints⟩
theorem LimS.ops {ct:Int}:∀ {L:List OpR} {s:St} {k:Nat},LimS s k→LimS (opsS C M sh ct L s) (k+L.length)
 | [],s,k,h=>h
 | o :: L,s,k,h=>by
  unfold opsS
  split
  ·exact (h.do.trap).up (by simp)
  ·split
   ·exact h.do.up (by simp)
   ·have:=LimS.ops (ct:=ct) (L:=L) (h.do (M:=M) (sh:=sh) (o:=o))
    exact this.up (by simp;omega)
theorem z7t (hC:q3h C) {w:Nat}:(q1b C w).ops.length≤400:=by
 by_cases h:w<C.ws.length
 ·exact hC.ol _ (q7o h)
 ·unfold q1b;rw [List.getD_eq_getElem?_getD,List.getElem?_eq_none (by omega)];exact Nat.zero_le _
theorem LimS.cyc (hC:q3h C) (h:LimS s k):LimS (cycS C M sh s) (k+401):=by
 have h1:LimS (goS s) k:=(h.arrive).same rfl rfl (.inl rfl) rfl
 have h2:=LimS.ops (C:=C) (M:=M) (sh:=sh) (ct:=(q1b C s.word).ct) (L:=(q1b C s.word).ops) h1
 have hl:=z7t hC (w:=s.word)
 exact ⟨by show _+1≤_;have:=h2.took;omega,by show (opsS _ _ _ _ _ _).begun≤_;have:=h2.begun;omega,by show (opsS _ _ _ _ _ _).way.length≤_;have:=h2.way;omega,by show (opsS _ _ _ _ _ _).prints.length≤_;have:=h2.prints;omega⟩
end
section
variable {m0 m m':Mem} {V:CV} {C:q0c} {M:Mac} {sv:Value} {p:Nat} {H:HdF} {s s':St} {sh:List Int}
def z4t:IR:=(match q9c.body with | .seq _ (.seq _ (.seq _ (.seq _ r)))=>r | r=>r)
def cycA:IR:=(match q9c.body with | .seq a _=>a | r=>r)
def cycB:IR:=(match q9c.body with | .seq _ (.seq b _)=>b | r=>r)
def cycC:IR:=(match q9c.body with | .seq _ (.seq _ (.seq b _))=>b | r=>r)
def cycD:IR:=(match q9c.body with | .seq _ (.seq _ (.seq _ (.seq b _)))=>b | r=>r)
theorem k1n:q9c.body=.seq cycA (.seq cycB (.seq cycC (.seq cycD z4t))):=rfl
theorem w0f {m1:Mem} {H1:HdF} {s1:St} (h0:Goes m0 V C M sv p m H s m1 H1 s1) {k:Nat} (hl:LimS s1 k) (hk:k≤1000000000000) :
  wpI Tryz.prog z4t (q0i [] fun e m'=>e=.returned q2r∧∃ H',Goes m0 V C M sv p m H s m' H' { s1 with took:=s1.took+1 }) (envL [(0,.val (ptr p))]) m1:=by
 have h:=h0.at'
 have ht:=hl.took
 refine WLd.mk (i (s1.took:Int)) (by rw [q0o];exact h.cell rfl) ?_
 refine WRng.mk (by apply wrap_i64<;>omega) ?_
 conv=>whnf
 rw [q0o]
 refine h.setInt { s1 with took:=s1.took+1 } rfl (show 0+1+1≤28 by decide) rfl rfl rfl rfl rfl fun m2 G2=>?_
 exact WRet.same ⟨rfl,H1,h0.trans G2⟩
attribute [irreducible] z4t
theorem w0k (h:q0l m0 m V C M sv p H s) (hB:q1m m0 V C M sv sh) (hS:StOK C s) (he:s.ended=false) (hw:s.word<C.ws.length) {k:Nat} (hl:LimS s k) (hk:k≤900000000) :
  q0f Tryz.prog 67 [ptr p] m fun e m'=>e=.returned q2r∧∃ H',Goes m0 V C M sv p m H s m' H' (cycS C M sh s):=by
 refine q0e q0d Tryz.func67 j7i rfl ?_
 have hwl:=hB.ok.wl
 have hol:=z7t hB.ok (w:=s.word)
 have hO:=hB.ok.op _ (q7o hw)
 have hct:=hB.ok.ct _ (q7o hw)
 generalize hW:q1b C s.word=W at hol hO hct
 unfold Fn.asks
 rw [k1n]
 conv=>whnf
 refine q0a.mk (k8r h (fun w hw'=>by rw [hS.regs];exact (hS.way w hw').1) (by have:=hl.way;omega)) ?_
 rintro _ m1 ⟨rfl,H1,G1⟩
 have h1:=G1.at'
 obtain ⟨ad,a3,c3,had,hcells,hops⟩:=z5n hB.code hw
 rw [hW] at hcells hops
 refine WLd.mk (.slice V.a2 V.n2 V.c2) (by rw [q0o];exact h1.cell rfl) ?_
 refine WLd.mk (i (s.word:Int)) ?_ ?_
 ·rw [q0o]
  refine h1.cell ?_
  show some (i (q2q (q2y s)))=_
  rw [z9v (s:=q2y s) he];rfl
 refine WIdx.mk ad had ⟨by omega,by rw [hB.code.n2];omega⟩ ?_
 refine WLds.mk _ (hcells.mono h1.le) rfl ?_
 conv=>whnf
 refine ⟨?_,trivial⟩
 conv=>whnf
 refine ⟨?_,trivial⟩
 refine WLd.mk (i (s.word:Int)) ?_ ?_
 ·rw [q0o]
  refine h1.cell ?_
  show some (i (q2q (q2y s)))=_
  rw [z9v (s:=q2y s) he];rfl
 refine WRng.mk (by apply wrap_i64<;>omega) ?_
 conv=>whnf
 rw [q0o]
 refine h1.setWord (w:=s.word+1) he (by omega) rfl fun m2 G2=>?_
 have G2:Goes m0 V C M sv p m H s m2 H1 (goS s):=G1.trans G2
 have hS2:StOK C (goS s):=by
  have:=z9e hS
  exact ⟨this.regs,this.kept,this.arr,this.way,this.rok,this.kok⟩
 have hl2:LimS (goS s) k:=(hl.arrive).same rfl rfl (.inl rfl) rfl
 obtain ⟨ao,co,eo,ho0,ho1,ho2⟩:=hops
 injection eo with eo1 eo2 eo3
 subst eo1;subst eo3
 have tail:∀ {m3:Mem} {H3:HdF} {s3:St},Goes m0 V C M sv p m H s m3 H3 s3→s3=opsS C M sh W.ct W.ops (goS s)→LimS s3 (k+400) →
   wpI Tryz.prog z4t (q0i [] fun e m'=>e=.returned q2r∧∃ H',Goes m0 V C M sv p m H s m' H' (cycS C M sh s)) (envL [(0,.val (ptr p))]) m3:=fun {m3 H3 s3} G e hl3=>by
  have e2:cycS C M sh s={ s3 with took:=s3.took+1 }:=by unfold cycS;rw [hW,e]
  rw [e2]
  exact w0f G hl3 (by omega)
 conv=>whnf
 refine q0v.mk (Nat×St×HdF) (fun x=>[(34,.val (i x.1))]) (fun x m'=>x.1≤W.ops.length∧Goes m0 V C M sv p m H s m' x.2.2 x.2.1∧StOK C x.2.1∧x.2.1.ended=false∧LimS x.2.1 (k+x.1) ∧
  opsS C M sh W.ct (W.ops.drop x.1) x.2.1=opsS C M sh W.ct W.ops (goS s)) (fun x=>W.ops.length - x.1) (0,goS s,H1) ⟨rfl,trivial⟩ ⟨Nat.zero_le _,G2,hS2,he,hl2,rfl⟩ ?_
 rintro ⟨j,sj,Hj⟩ m3 ⟨hj,G3,hSj,hej,hlj,hopj⟩
 simp only at hj G3 hSj hej hlj hopj
 have h3:=G3.at'
 refine Br.mk (fun hb=>?_) (fun hb=>?_)
 ·have hj2:j<W.ops.length:=by
   have:(j:Int)<(W.ops.length:Nat):=of_decide_eq_true hb
   omega
  obtain ⟨aa,haa⟩:∃ aa,a3=some aa:=by
   cases a3 with
   | none=>rw [ho0 rfl] at hj2;simp at hj2
   | some aa=>exact ⟨aa,rfl⟩
  have hcj:=(OAt.cells (ho1 aa haa) hj2).mono h3.le
  have hOj:=hO _ (List.getElem_mem hj2)
  rw [List.drop_eq_getElem_cons hj2,opsS] at hopj
  have hdo:=k1z h3 hB hSj hej hlj (by omega) hOj
  generalize hd:doS M sh sj W.ops[j]=d at hdo hopj
  have hSd:StOK C d.s:=by rw [← hd];exact z8o hSj hOj
  have hld:LimS d.s (k+j+1):=by rw [← hd];exact hlj.do
  have hed:d.left=false→d.s.ended=false:=fun e=>by rw [← hd] at e ⊢;rw [v1b e];exact hej
  have htl:d.trap=true→d.left=false:=fun e=>by rw [← hd] at e ⊢;exact k0g e
  refine WIdx.mk aa haa ⟨by omega,by omega⟩ ?_
  refine WLds.mk _ (by simpa using hcj) rfl ?_
  conv=>whnf
  refine q0a.mk hdo ?_
  rintro _ m4 ⟨rfl,H4,G4⟩
  have G4:=G3.trans G4
  refine Br.mk (fun ht=>?_) (fun ht=>?_)
  ·have ht:d.trap=true:=ht
   rw [if_pos ht] at hopj
   conv=>whnf
   refine q0a.mk (j8n G4.at' hB hSd (hed (htl ht)) (by have:=hld.way;omega) W.ct d.n) ?_
   rintro _ m5 ⟨rfl,H5,G5⟩
   have G5:=G4.trans G5
   refine WSc.mk (v:=d.left) (fun _=>And.intro (Mem.le.refl _) rfl) ?_
   refine Br.mk (fun _=>?_) (fun hh=>?_)
   ·conv=>whnf
    exact q0x (tail G5 hopj (hld.trap.up (by omega))) ⟨rfl,trivial⟩
   ·have hh:(d.trap||d.left)=false:=hh
    rw [ht] at hh;cases hh
  ·have ht:d.trap=false:=ht
   rw [if_neg (by rw [ht];decide)] at hopj
   refine WSc.mk (v:=d.left) (fun _=>And.intro (Mem.le.refl _) rfl) ?_
   refine Br.mk (fun hh=>?_) (fun hh=>?_)
   ·have hh:(d.trap||d.left)=true:=hh
    have hlf:d.left=true:=by rw [ht] at hh;exact hh
    rw [if_pos hlf] at hopj
    conv=>whnf
    exact q0x (tail G4 hopj (hld.up (by omega))) ⟨rfl,trivial⟩
   ·have hh:(d.trap||d.left)=false:=hh
    have hlf:d.left=false:=by rw [ht] at hh;exact hh
    rw [if_neg (by rw [hlf];decide)] at hopj
    refine WRng.mk (by apply wrap_i64<;>omega) ?_
    conv=>whnf
    exact ⟨(j+1,d.s,H4),⟨rfl,trivial⟩,⟨hj2,G4,hSd,hed hlf,hld.up (by omega),hopj⟩,Nat.sub_lt_sub_left hj2 (Nat.lt_succ_self j)⟩
 ·have hj2:j=W.ops.length:=by
   have:¬ (j:Int)<(W.ops.length:Nat):=of_decide_eq_false hb
   omega
  subst hj2
  rw [List.drop_length] at hopj
  conv=>whnf
  exact q0x (tail G3 hopj (hlj.up (by omega))) ⟨rfl,trivial⟩
structure Good (C:q0c) (s:St) (k:Nat):Prop where
 ok:StOK C s
 word:s.word<C.ws.length
 lim:LimS s k
theorem Good.cyc {k:Nat} (hC:q3h C) (h:Good C s k):Good C (cycS C M sh s) (k+401):=⟨j1s hC h.ok h.word,j7r hC h.word,h.lim.cyc hC⟩
theorem Good.up {j k:Nat} (h:Good C s j) (e:j≤k):Good C s k:=⟨h.ok,h.word,h.lim.up e⟩
theorem Good.run (hC:q3h C):∀ {n:Nat} {s:St} {k:Nat},Good C s k→Good C (runS C M sh n s) (k+401 * n)
 | 0,s,k,h=>h
 | n+1,s,k,h=>by
  rw [z3k]
  split
  ·exact h.up (by omega)
  ·exact (Good.run hC (h.cyc hC)).up (by omega)
theorem z9q (h:q0l m0 m V C M sv p H s) (hB:q1m m0 V C M sv sh) {k:Nat} (hG:Good C s k) (n:Nat) (hn:k+401 * n≤900000000) :
  q0f Tryz.prog 48 [ptr p,i (n:Int)] m fun e m'=>e=.returned q2r∧∃ H',Goes m0 V C M sv p m H s m' H' (runS C M sh n s):=by
 refine q0e q0d Tryz.func48 j2f rfl ?_
 conv=>whnf
 refine q0v.mk (Nat×St×HdF×Nat) (fun x=>[(1,.val (i x.1))]) (fun x m'=>Goes m0 V C M sv p m H s m' x.2.2.1 x.2.1∧Good C x.2.1 x.2.2.2∧x.2.2.2+401 * x.1≤900000000 ∧
  runS C M sh x.1 x.2.1=runS C M sh n s) (fun x=>x.1) (n,s,H,k) ⟨rfl,trivial⟩ ⟨Goes.refl h,hG,hn,rfl⟩ ?_
 rintro ⟨j,sj,Hj,kj⟩ m1 ⟨G,hGj,hkj,hrj⟩
 simp only at G hGj hkj hrj
 have h1:=G.at'
 refine WSc.mk (v:=decide (q2q sj≥0)) (fun _=>?_) ?_
 ·refine WLd.mk (i (q2q sj)) (by rw [q0o];exact h1.cell rfl) ?_
  conv=>whnf
  exact And.intro (Mem.le.refl _) rfl
 have hwv:decide (q2q sj≥0)=!sj.ended:=by
  unfold q2q
  cases sj.ended with
  | true=>rfl
  | false=>rw [if_neg (by decide)];exact decide_eq_true (by omega)
 refine Br.mk (fun hb=>?_) (fun hb=>?_)
 ·have hb:(decide ((j:Int)>0)&&decide (q2q sj≥0))=true:=hb
  rw [hwv,Bool.and_eq_true,decide_eq_true_eq,Bool.not_eq_true'] at hb
  obtain ⟨j',rfl⟩:∃ j',j=j'+1:=⟨j - 1,by omega⟩
  rw [z3k,if_neg (by rw [hb.2];decide)] at hrj
  conv=>whnf
  refine q0a.mk (w0k h1 hB hGj.ok hb.2 hGj.word hGj.lim (by omega)) ?_
  rintro _ m2 ⟨rfl,H2,G2⟩
  refine WRng.mk (by apply wrap_i64<;>omega) ?_
  conv=>whnf
  refine ⟨(j',cycS C M sh sj,H2,kj+401),⟨?_,trivial⟩,⟨G.trans G2,hGj.cyc hB.ok,by simp only;omega,hrj⟩,Nat.lt_succ_self j'⟩
  show some (AV.val (i (((j'+1:Nat):Int) - 1)))=some (AV.val (i (j':Int)))
  rw [show ((j'+1:Nat):Int) - 1=(j':Int) by omega]
 ·have hb:(decide ((j:Int)>0)&&decide (q2q sj≥0))=false:=hb
  rw [hwv,Bool.and_eq_false_iff,decide_eq_false_iff_not,Bool.not_eq_false'] at hb
  have e:runS C M sh n s=sj:=by
   rw [← hrj]
   rcases hb with hb | hb
   ·obtain rfl:j=0:=by omega
    rfl
   ·exact v1s hb j
  exact WRet.same ⟨rfl,Hj,by rw [e];exact G⟩
end
theorem j2m {M:Mac} {sh:List Int} {s:St} {o:OpR}:(doS M sh s o).s.regs=s.regs:=by
 unfold doS
 split
 ·rfl
 ·split
  ·rfl
  ·unfold q1x
   split
   ·unfold memS
    split
    ·rfl
    ·split
     ·rfl
     ·generalize nMem s o=n
      split
      ·rfl
      ·split
       ·rfl
       ·split<;>rfl
   ·split
    ·unfold outS
     split
     ·rfl
     ·split
      ·rfl
      ·split
       ·rfl
       ·split
        ·split<;>rfl
        ·split
         ·rfl
         ·split<;>rfl
    ·split<;>rfl
section
variable {m0 m m' m2 m3:Mem} {V:CV} {C:q0c} {M:Mac} {sv:Value} {lw lw2:Int} {p:Nat} {H:HdF} {s s' s1:St} {sh:List Int}
theorem RfAt.anyLw (h:RfAt m0 m V C M sv lw p H s) (he:s.ended=false):RfAt m0 m V C M sv lw2 p H s:=by
 refine ⟨?_,h.fam,h.le,h.nw,h.nil0,h.nil4⟩
 have e:q1l V C M sv lw2 H s=q1l V C M sv lw H s:=by
  have:∀ x,q5w x s=(s.word:Int):=fun x=>by unfold q5w;rw [if_neg (by rw [he];decide)]
  unfold q1l;rw [this,this]
 rw [e];exact h.hp
theorem RfAt.relw (h:RfAt m0 m V C M sv lw p H s):RfAt m0 (m.set p (Cells (q1l V C M sv lw2 H s) TRf)) V C M sv lw2 p H s∧Keep (q0s p H s) m (m.set p (Cells (q1l V C M sv lw2 H s) TRf)):=by
 have hk:Keep (q0s p H s) m (m.set p (Cells (q1l V C M sv lw2 H s) TRf)):=(Keep.refl _ _).set (.inl (.inl rfl))
 exact ⟨⟨Mem.set_same _ _ _,h.fam.same fun b o hb hm=>by rw [Mem.set_other _ _ (h.notp hb)];exact hm,hk.le h.le h.nw,h.nw,h.nil0,h.nil4⟩,hk⟩
def z0e:Nat→IR:=fun k=>match k,z9f.body with
 | 0,.seq a _=>a
 | 1,.seq _ (.seq a _)=>a
 | 2,.seq _ (.seq _ (.seq a _))=>a
 | 3,.seq _ (.seq _ (.seq _ (.seq a _)))=>a
 | 4,.seq _ (.seq _ (.seq _ (.seq _ (.seq a _))))=>a
 | _,.seq _ (.seq _ (.seq _ (.seq _ (.seq _ r))))=>r
 | _,r=>r
def z5p:IR:=z0e 5
theorem j2u:z9f.body=.seq (z0e 0) (.seq (z0e 1) (.seq (z0e 2) (.seq (z0e 3) (.seq (z0e 4) z5p)))):=rfl
theorem k9u {m1:Mem} {H1:HdF} {s1:St} (h:RfAt m0 m1 V C M sv lw p H1 s1) (hk:Keep (q0s p H s) m m1) (hnew:∀ b,q0s p H1 s1 b→q0s p H s b∨m b=none) {k:Nat} (hl:LimS s1 k) (hkk:k≤1000000000000) :
  wpI Tryz.prog z5p (q0i [] fun e m'=>e=.returned q2r∧∃ H',q1d m0 V C M sv 0 p m H s m' H' { s1 with took:=s1.took+1 }) (envL [(0,.val (ptr p))]) m1:=by
 have ht:=hl.took
 have fin:∀ {m4:Mem} {lw':Int},RfAt m0 m4 V C M sv 0 p H1 { s1 with took:=s1.took+1 }→Keep (q0s p H1 s1) m1 m4→q1d m0 V C M sv 0 p m H s m4 H1 { s1 with took:=s1.took+1 }:=fun {m4 lw'} h4 k4=>⟨h4,hk.trans' k4 hnew,fun b hb=>hnew b hb⟩
 refine WLd.mk (i (s1.took:Int)) (h.cell rfl) ?_
 refine WRng.mk (by apply wrap_i64<;>omega) ?_
 conv=>whnf
 refine h.setInt { s1 with took:=s1.took+1 } rfl (show 22+1≤29 by decide) rfl rfl rfl rfl rfl fun m2 G2=>?_
 have h2:=G2.at'
 refine WLd.mk (.bool s1.ended) (h2.cell rfl) ?_
 refine Br.mk (fun he=>?_) (fun he=>?_)
 ·have he:s1.ended=true:=he
  refine WSt.at _ _ h2.hp (show 24+1≤29 by decide) ?_
  have e:q0j (q1l V C M sv lw H1 { s1 with took:=s1.took+1 }) 24 (q0k (i 0))=q1l V C M sv 0 H1 { s1 with took:=s1.took+1 }:=by
   have:q5w 0 { s1 with took:=s1.took+1 }=0:=by unfold q5w;rw [if_pos (show ({ s1 with took:=s1.took+1 }:St).ended=true from he)]
   unfold q1l;rw [this];rfl
  rw [e]
  obtain ⟨h3,k3⟩:=h2.relw (lw2:=0)
  exact WRet.same ⟨rfl,H1,fin (lw':=0) h3 (G2.keep.trans' k3 G2.new)⟩
 ·have he:s1.ended=false:=he
  exact WRet.same ⟨rfl,H1,fin (lw':=0) (h2.anyLw he) G2.keep⟩
attribute [irreducible] z5p
theorem j2p (h:RfAt m0 m V C M sv 0 p H s) (hB:q1m m0 V C M sv sh) (hS:StOK C s) (he:s.ended=false) (hw:s.word<C.ws.length) {k:Nat} (hl:LimS s k) (hk:k≤900000000) :
  q0f Tryz.prog 59 [ptr p] m fun e m'=>e=.returned q2r∧∃ H',q1d m0 V C M sv 0 p m H s m' H' (cycS C M sh s):=by
 refine q0e q0d Tryz.func59 j9c rfl ?_
 have hwl:=hB.ok.wl
 have hol:=z7t hB.ok (w:=s.word)
 have hO:=hB.ok.op _ (q7o hw)
 have hct:=hB.ok.ct _ (q7o hw)
 have hrg:=hB.ok.rg
 generalize hW:q1b C s.word=W at hol hO hct
 unfold Fn.asks
 rw [j2u]
 conv=>whnf
 refine q0a.mk (j0n h (fun w hw'=>by rw [hS.regs];exact (hS.way w hw').1) (by have:=hl.way;omega)) ?_
 rintro _ m1 ⟨rfl,H1,G1⟩
 have h1:=G1.at'
 have hSa:=z9e hS
 have hrl:(q2y s).regs.length=C.rg.toNat:=hSa.regs
 refine WNew.mk fun bn hbn=>?_
 refine WLd.mk (hv H1 (q2y s) 1) ((h1.mono (Mem.le_set hbn)).cell rfl) ?_
 refine WApp.copyB hbn (A:=(H1 1).a) (n:=(q2y s).regs.length) rfl rfl (q0r VR.cells (q2y s).regs) ⟨q1y q2c _,fun ad had=>h1.fam.cellsAt (j:=1) (by unfold famN;omega) had⟩ (fun hn=>by
   obtain ⟨ar,har,_⟩:=h1.regCells (r:=0) (by rw [hrl];omega)
   rw [har] at hn;cases hn) (by rw [hrl];omega) fun rb rc mc rest lc hrc hrb hcp=>?_
 generalize hlwE:(((s.word+1:Nat)):Int)=lw
 have G1c:q1d m0 V C M sv lw p m H s mc H1 (q2y s):=by
  have:=G1.trans (h1.goesMono lc)
  exact ⟨this.at'.anyLw he,this.keep,this.new⟩
 have hc:=G1c.at'
 have hrf:¬ q0s p H1 (q2y s) rb:=h1.free hrb
 have hwR:q5w lw (q2y s)=(s.word:Int):=by unfold q5w;rw [if_neg (by show ¬ s.ended=true;rw [he];decide)];rfl
 obtain ⟨ad,a3,c3,had,hcells,hops⟩:=z5n hB.code hw
 rw [hW] at hcells hops
 refine WLd.mk (.slice V.a2 V.n2 V.c2) (by rw [q0o];exact hc.cell rfl) ?_
 refine WLd.mk (i (s.word:Int)) (hc.cell (by show some (i (q5w lw (q2y s)))=_;rw [hwR])) ?_
 refine WIdx.mk ad had ⟨by omega,by rw [hB.code.n2];omega⟩ ?_
 refine WLds.mk _ (hcells.mono hc.le) rfl ?_
 conv=>whnf
 refine ⟨?_,trivial⟩
 conv=>whnf
 refine ⟨?_,trivial⟩
 refine WLd.mk (i (s.word:Int)) (hc.cell (by show some (i (q5w lw (q2y s)))=_;rw [hwR])) ?_
 refine WRng.mk (by apply wrap_i64<;>omega) ?_
 conv=>whnf
 refine hc.setWord (w:=s.word+1) he (by omega) rfl fun m2 G2=>?_
 have G2:q1d m0 V C M sv lw p mc H1 (q2y s) m2 H1 (goS s):=G2
 have hS2:StOK C (goS s):=⟨hSa.regs,hSa.kept,hSa.arr,hSa.way,hSa.rok,hSa.kok⟩
 have hl2:LimS (goS s) k:=(hl.arrive).same rfl rfl (.inl rfl) rfl
 obtain ⟨ao,co,eo,ho0,ho1,ho2⟩:=hops
 injection eo with eo1 eo2 eo3
 subst eo1;subst eo3
 have tail:∀ {m4:Mem} {H4:HdF} {s4:St},q1d m0 V C M sv lw p mc H1 (q2y s) m4 H4 s4→s4=opsS C M sh W.ct W.ops (goS s)→LimS s4 (k+400) →
   wpI Tryz.prog z5p (q0i [] fun e m'=>e=.returned q2r∧∃ H',q1d m0 V C M sv 0 p m H s m' H' (cycS C M sh s)) (envL [(0,.val (ptr p))]) m4:=fun {m4 H4 s4} G e hl4=>by
  have e2:cycS C M sh s={ s4 with took:=s4.took+1 }:=by unfold cycS;rw [hW,e]
  rw [e2]
  have Gt:=G1c.trans G
  exact k9u Gt.at' Gt.keep Gt.new hl4 (by omega)
 conv=>whnf
 refine q0v.mk (Nat×St×HdF) (fun x=>[(4,.val (i x.1))]) (fun x m'=>x.1≤W.ops.length∧q1d m0 V C M sv lw p mc H1 (q2y s) m' x.2.2 x.2.1∧StOK C x.2.1∧x.2.1.ended=false∧x.2.1.word=s.word+1∧x.2.1.regs=(q2y s).regs∧LimS x.2.1 (k+x.1) ∧
  opsS C M sh W.ct (W.ops.drop x.1) x.2.1=opsS C M sh W.ct W.ops (goS s)) (fun x=>W.ops.length - x.1) (0,goS s,H1) ⟨rfl,trivial⟩ ⟨Nat.zero_le _,G2,hS2,he,rfl,rfl,hl2,rfl⟩ ?_
 rintro ⟨j,sj,Hj⟩ m3 ⟨hj,G3,hSj,hej,hwj,hrj,hlj,hopj⟩
 simp only at hj G3 hSj hej hwj hrj hlj hopj
 have h3:=G3.at'
 have hlwj:(sj.word:Int)=lw:=by rw [hwj];exact hlwE
 have hrc3:q0g m3 ⟨rb,0,none⟩ (q0r VR.cells sj.regs):=by
  rw [hrj]
  exact q0g.blk (G3.keep rb _ hcp hrf) fun q v hq=>by rw [Nat.zero_add,List.getElem?_append_left (List.getElem?_eq_some_iff.1 hq).1];exact hq
 refine Br.mk (fun hb=>?_) (fun hb=>?_)
 ·have hj2:j<W.ops.length:=by
   have:(j:Int)<(W.ops.length:Nat):=of_decide_eq_true hb
   omega
  obtain ⟨aa,haa⟩:∃ aa,a3=some aa:=by
   cases a3 with
   | none=>rw [ho0 rfl] at hj2;simp at hj2
   | some aa=>exact ⟨aa,rfl⟩
  have hcj:=(OAt.cells (ho1 aa haa) hj2).mono h3.le
  have hOj:=hO _ (List.getElem_mem hj2)
  rw [List.drop_eq_getElem_cons hj2,opsS] at hopj
  have hgd:=hOj.gd
  generalize W.ops[j]=o at *
  have hdo:doS M sh sj o=q1x M sh sj o→q0f Tryz.prog 89 [ptr p,o.val,.slice (some ⟨rb,0,none⟩) (q2y s).regs.length rc,i W.ct] m3 (q7c m0 V C M sv lw p m3 Hj sj W.ct (doS M sh sj o)):=fun e=>by
   rw [e,← hrj]
   exact j9v h3 hB hSj hlwj hej hlj (by omega) hOj W.ct hrc3
  have hgr:o.gd≠-1→o.gd.toNat<sj.regs.length:=fun h=>by rw [hSj.regs];omega
  have hdS:doS M sh sj o=if o.gd≠-1∧(sj.reg o.gd).b≠0 then ⟨sj,(sj.reg o.gd).b,true,false⟩ else if o.gd≠-1∧(sj.reg o.gd).n=0 then ⟨sj,0,false,false⟩ else q1x M sh sj o:=rfl
  have hSd:StOK C (doS M sh sj o).s:=z8o hSj hOj
  have hld:LimS (doS M sh sj o).s (k+j+1):=hlj.do
  have hed:(doS M sh sj o).left=false→(doS M sh sj o).s.ended=false:=fun e=>by rw [v1b e];exact hej
  have hwd:(doS M sh sj o).left=false→(doS M sh sj o).s.word=sj.word:=(v3m hOj hwl.1).2
  have hrd:(doS M sh sj o).s.regs=sj.regs:=j2m
  generalize hdd:doS M sh sj o=d at *
  refine WIdx.mk aa haa ⟨by omega,by omega⟩ ?_
  refine WLds.mk _ (by simpa using hcj) rfl ?_
  refine Br.mk (fun hg=>?_) (fun hg=>?_)
  ·have hg:o.gd≥0:=of_decide_eq_true hg
   have hg1:o.gd≠-1:=by omega
   have hrcg:=z4i hrc3 (hgr hg1)
   have hrn:(q2y s).regs.length=sj.regs.length:=by rw [hrj]
   have hgr1:=hgr hg1
   refine WIdx.mk ⟨rb,0,none⟩ rfl ⟨by omega,by omega⟩ ?_
   refine WLds.mk (sj.reg o.gd).cells hrcg rfl ?_
   refine Br.mk (fun hq=>?_) (fun hq=>?_)
   ·have hq:(sj.reg o.gd).b≠0:=by
     have hq:((sj.reg o.gd).b != 0)=true:=hq
     simpa using hq
    rw [if_pos ⟨hg1,hq⟩] at hdS
    subst hdS
    rw [if_pos rfl] at hopj
    conv=>whnf
    refine q0a.mk (z3r h3 hB hSj hlwj hej (by have:=hlj.way;omega) W.ct (sj.reg o.gd).b) ?_
    rintro _ m4 ⟨rfl,H4,G4⟩
    conv=>whnf
    exact q0x (tail (G3.trans G4) hopj (hlj.trap.up (by omega))) ⟨rfl,trivial⟩
   ·have hq:¬ (sj.reg o.gd).b≠0:=by
     have hq:((sj.reg o.gd).b != 0)=false:=hq
     simpa using hq
    rw [if_neg (fun h=>hq h.2)] at hdS
    refine Br.mk (fun hz=>?_) (fun hz=>?_)
    ·have hz:(sj.reg o.gd).n=0:=by
      have hz:((sj.reg o.gd).n==0)=true:=hz
      simpa using hz
     rw [if_pos ⟨hg1,hz⟩] at hdS
     subst hdS
     rw [if_neg (fun h=>by cases h),if_neg (fun h=>by cases h)] at hopj
     refine WRng.mk (by apply wrap_i64<;>omega) ?_
     conv=>whnf
     exact ⟨(j+1,sj,Hj),⟨rfl,trivial⟩,⟨hj2,G3,hSj,hej,hwj,hrj,hlj.up (by omega),hopj⟩,Nat.sub_lt_sub_left hj2 (Nat.lt_succ_self j)⟩
    ·have hz:¬ (sj.reg o.gd).n=0:=by
      have hz:((sj.reg o.gd).n==0)=false:=hz
      simpa using hz
     rw [if_neg (fun h=>hz h.2)] at hdS
     conv=>whnf
     refine q0a.mk (hdo hdS) ?_
     rintro _ m4 ⟨rfl,H4,G4⟩
     have G4:=G3.trans G4
     refine Br.mk (fun hx=>?_) (fun hx=>?_)
     ·have hx:(d.trap||d.left)=true:=hx
      conv=>whnf
      refine q0x (tail G4 ?_ ?_) ⟨rfl,trivial⟩
      ·unfold q7t
       cases ht:d.trap with
       | true=>rw [if_pos rfl];rw [if_pos ht] at hopj;exact hopj
       | false =>
        rw [ht,Bool.false_or] at hx
        rw [if_neg (by decide)];rw [if_neg (by rw [ht];decide),if_pos hx] at hopj;exact hopj
      ·unfold q7t
       split
       ·exact hld.trap.up (by omega)
       ·exact hld.up (by omega)
     ·have hx:(d.trap||d.left)=false:=hx
      rw [Bool.or_eq_false_iff] at hx
      rw [if_neg (by rw [hx.1];decide),if_neg (by rw [hx.2];decide)] at hopj
      have ea:q7t C W.ct d=d.s:=by unfold q7t;rw [if_neg (by rw [hx.1];decide)]
      rw [ea] at G4
      refine WRng.mk (by apply wrap_i64<;>omega) ?_
      conv=>whnf
      exact ⟨(j+1,d.s,H4),⟨rfl,trivial⟩,⟨hj2,G4,hSd,hed hx.2,(hwd hx.2).trans hwj,hrd.trans hrj,hld.up (by omega),hopj⟩,Nat.sub_lt_sub_left hj2 (Nat.lt_succ_self j)⟩
  ·have hg:¬ o.gd≥0:=of_decide_eq_false hg
   have hg1:¬ o.gd≠-1:=by omega
   rw [if_neg (fun h=>hg1 h.1),if_neg (fun h=>hg1 h.1)] at hdS
   conv=>whnf
   refine q0a.mk (hdo hdS) ?_
   rintro _ m4 ⟨rfl,H4,G4⟩
   have G4:=G3.trans G4
   refine Br.mk (fun hx=>?_) (fun hx=>?_)
   ·have hx:(d.trap||d.left)=true:=hx
    conv=>whnf
    refine q0x (tail G4 ?_ ?_) ⟨rfl,trivial⟩
    ·unfold q7t
     cases ht:d.trap with
     | true=>rw [if_pos rfl];rw [if_pos ht] at hopj;exact hopj
     | false =>
      rw [ht,Bool.false_or] at hx
      rw [if_neg (by decide)];rw [if_neg (by rw [ht];decide),if_pos hx] at hopj;exact hopj
    ·unfold q7t
     split
     ·exact hld.trap.up (by omega)
     ·exact hld.up (by omega)
   ·have hx:(d.trap||d.left)=false:=hx
    rw [Bool.or_eq_false_iff] at hx
    rw [if_neg (by rw [hx.1];decide),if_neg (by rw [hx.2];decide)] at hopj
    have ea:q7t C W.ct d=d.s:=by unfold q7t;rw [if_neg (by rw [hx.1];decide)]
    rw [ea] at G4
    refine WRng.mk (by apply wrap_i64<;>omega) ?_
    conv=>whnf
    exact ⟨(j+1,d.s,H4),⟨rfl,trivial⟩,⟨hj2,G4,hSd,hed hx.2,(hwd hx.2).trans hwj,hrd.trans hrj,hld.up (by omega),hopj⟩,Nat.sub_lt_sub_left hj2 (Nat.lt_succ_self j)⟩
 ·have hj2:j=W.ops.length:=by
   have:¬ (j:Int)<(W.ops.length:Nat):=of_decide_eq_false hb
   omega
  subst hj2
  rw [List.drop_length] at hopj
  conv=>whnf
  exact q0x (tail G3 hopj (hlj.up (by omega))) ⟨rfl,trivial⟩
end
end Go.Proofs.YtleofbpepfmfgaaGreatDoor
