import Derived.Test.YtleofbpepfmfgaaGreatDoorVxRefTog
set_option linter.unusedSimpArgs false
set_option linter.unusedVariables false
set_option maxRecDepth 100000
namespace Go.Proofs.YtleofbpepfmfgaaGreatDoor
open Go Go.Vx
open Go.Vx.IOp Go.Vx.IR Go.Vx.Opd
structure VR where
 n:Int
 b:Int
def VR.zero:VR:=⟨0,0⟩
def VR.cells (v:VR):List Value:=[i v.n,i v.b]
def VR.val (v:VR):Value:=.agg ⟨v.cells⟩
def VR.ok (v:VR):Prop:=v.b=0∨v.n=0
structure q3g where
 ops:List OpR
 ct:Int
structure q0c where
 sz:List Int
 pr:Int
 rg:Int
 cd:Int
 sp:Int
 ws:List q3g
structure WayR where
 rg:Nat
 v:VR
 t:Nat
structure St where
 word:Nat
 took:Nat
 begun:Nat
 ended:Bool
 kind:Int
 value:Int
 prints:List Int
 regs:List VR
 kept:List VR
 arr:List (List Int)
 way:List WayR
def uD (k:Int):Bool:=!(k==17||k==19||k==20||k==21||k==22||k==26||k==27||k==28)
def uA (k:Int):Bool:=!(k==1||k==18||k==26)
def uB (k:Int):Bool:=(decide (k≥3)&&decide (k≤15))||k==17||k==23||k==24
def uC (k:Int):Bool:=k==12
def uN (k:Int):Bool:=k==1||k==16||k==17||k==18||k==19||k==21||k==25||k==26
def q1i (rg r:Int):Bool:=decide (r<0)||decide (r≥rg)
def q2m (C:q0c) (k:Int):Int:=if k=16∨k=17∨k=25 then C.sz.length else if k=18∨k=19 then C.sp else if k=21∨k=26 then C.ws.length else 0
def q1t (C:q0c) (o:OpR):Int :=
 if o.kd<1∨o.kd>28 then 4
 else if ((uD o.kd&&q1i C.rg o.ds)||(uA o.kd&&q1i C.rg o.a)||(uB o.kd&&q1i C.rg o.b)||(uC o.kd&&q1i C.rg o.c)||(o.gd != -1&&q1i C.rg o.gd))=true then 2
 else if (uN o.kd&&o.kd != 1&&(decide (o.n<0)||decide (o.n≥q2m C o.kd)))=true then 5
 else if ((!uD o.kd&&o.ds != 0)||(!uA o.kd&&o.a != 0)||(!uB o.kd&&o.b != 0)||(!uC o.kd&&o.c != 0)||(!uN o.kd&&o.n != 0))=true then 4
 else 0
def q2e (o:OpR):Bool:=o.gd==-1&&(o.kd==26||o.kd==27||o.kd==28)
def q3d:List Int→Int
 | []=>0
 | x :: L=>if x=0 then q3d L else x
def q2d (C:q0c) (w:q3g):Int :=
 if w.ct < -1∨w.ct≥C.ws.length then 2 else if w.ops.length>400 then 3 else q3d (w.ops.map (q1t C))
def q3c (C:q0c):Int :=
 if C.sz.length>16∨C.rg>4096∨C.sp>4096 then 3
 else if C.sz.any (fun n=>decide (n<1)||decide (n>65536))=true then 2
 else if C.rg<1∨C.sp<0∨C.pr<0∨C.pr>8∨C.pr>C.rg∨C.cd<0∨C.cd≥C.rg then 2 else 0
def q6p (ws:List q3g):Nat:=(ws.map fun w=>w.ops.length).foldl (·+·) 0
def q5s (ws:List q3g):Bool:=match ws.getLast? with | some w=>w.ops.any q2e | none=>false
def q3n (C:q0c):Int :=
 if q3c C≠0 then q3c C
 else if C.ws.length=0∨C.ws.length>60000 then 3
 else if q3d (C.ws.map (q2d C))≠0 then q3d (C.ws.map (q2d C))
 else if q5s C.ws=false then 4
 else if q6p C.ws>80000 then 3 else 0
def q2b (C:q0c) (M:Mac):Int :=
 if q3n C≠0 then q3n C
 else if M.ok=false then 2
 else if C.rg>M.rg then 3
 else if C.ws.any (fun w=>!q4w (q0p M w.ops))=true then 7 else 0
def q5f (op:BinOp) (a b:Int):Int:=match z0c op .i64 a b with | some (.int _ z)=>z | _=>0
def sh63 (b:Int):Int:=q5f .and b 63
def bitI (b:Bool):Int:=if b=true then 1 else 0
def q2o (k a b:Int):Int×Int :=
 if k=3 then (q5f .add a b,0)
 else if k=4 then (q5f .sub a b,0)
 else if k=5 then (q5f .and a b,0)
 else if k=6 then (q5f .or a b,0)
 else if k=7 then (q5f .xor a b,0)
 else if k=8 then (IntKind.i64.wrap (a * 2 ^ min (sh63 b).toNat 64),0)
 else if k=9 then (a.fdiv (2 ^ min (sh63 b).toNat 64),0)
 else if k=10 then (bitI (decide (a<b)),0)
 else if k=11 then (bitI (a==b),0)
 else if k=13 then (q5f .mul a b,0)
 else if k=14 then (if b=0 then (0,-2) else (IntKind.i64.wrap (a.tdiv b),0))
 else if k=15 then (if b=0 then (0,-2) else (a.tmod b,0))
 else (0,0)
def q0z (k:Int):Int:=if k=23 then 14 else if k=24 then 15 else k
def q3o (k:Int):Bool:=k==23||k==24
def q2u (k:Int) (a b:VR):VR×Int :=
 let bad:=if a.b=0 then b.b else a.b
 let r:=if bad=0 then q2o (q0z k) a.n b.n else (0,bad)
 if r.2≠0∧(q0z k=14∨q0z k=15)∧q3o k=false then (⟨0,0⟩,r.2) else (⟨r.1,r.2⟩,0)
def q1u (o:OpR) (a b c:VR):VR×Int :=
 if o.kd=1 then (⟨o.n,0⟩,0)
 else if o.kd=2 then (a,0)
 else if o.kd=12 then (if a.b≠0 then a else if a.n≠0 then b else c,0)
 else q2u o.kd a b
def St.reg (s:St) (r:Int):VR:=s.regs.getD r.toNat VR.zero
def q1h (R:List VR) (W:List WayR):List VR:=W.foldl (fun R w=>R.set w.rg w.v) R
def q2y (s:St):St:={ s with regs:=q1h s.regs (s.way.filter fun w=>decide (w.t≤s.took)),way:=s.way.filter fun w=>!decide (w.t≤s.took) }
def q4y (s:St):St:={ s with regs:=q1h s.regs s.way,way:=[] }
def latS (M:Mac) (sh:List Int) (begun:Nat) (kd:Int):Int :=
 if sh=[] then M.lat (q2j kd).1.toNat else min (max (sh.getD (begun % sh.length) 0) 1) (M.lat (q2j kd).1.toNat)
def q4b (M:Mac) (sh:List Int) (s:St) (o:OpR) (v:VR):St :=
 { s with way:=s.way++[⟨o.ds.toNat,v,s.took+(latS M sh s.begun o.kd).toNat⟩],begun:=s.begun+1 }
def endS (s:St) (kind n:Int):St:={ s with kind:=kind,value:=n,ended:=true,word:=0,way:=[] }
def q5i (C:q0c) (s:St) (ct n:Int):St :=
 if ct<0 then endS s 2 n else { q4y s with regs:=(q4y s).regs.set C.cd.toNat ⟨n,0⟩,word:=ct.toNat }
def badN (s:St) (o:OpR):Int:=if (s.reg o.a).b≠0 then (s.reg o.a).b else if o.kd=17 then (s.reg o.b).b else 0
def q3b (s:St) (o:OpR):List Int:=s.arr.getD o.n.toNat []
def nMem (s:St) (o:OpR):Int:=if badN s o=0∧((s.reg o.a).n<0∨(s.reg o.a).n≥(q3b s o).length) then -1 else badN s o
def memS (M:Mac) (sh:List Int) (s:St) (o:OpR):St×Int :=
 if o.kd=18 then (q4b M sh s o (s.kept.getD o.n.toNat VR.zero),0)
 else if o.kd=19 then ({ s with kept:=s.kept.set o.n.toNat (s.reg o.a) },0)
 else if nMem s o≠0∧o.kd=25 then (q4b M sh s o ⟨0,nMem s o⟩,0)
 else if nMem s o≠0 then (s,nMem s o)
 else if o.kd=17 then ({ s with arr:=s.arr.set o.n.toNat ((q3b s o).set (s.reg o.a).n.toNat (s.reg o.b).n) },0)
 else (q4b M sh s o ⟨(q3b s o).getD (s.reg o.a).n.toNat 0,0⟩,0)
structure DoR where
 s:St
 n:Int
 trap:Bool
 left:Bool
def outS (s:St) (o:OpR):DoR :=
 if o.kd=26 then ⟨{ s with word:=o.n.toNat },0,false,true⟩
 else if (s.reg o.a).b≠0 then ⟨s,(s.reg o.a).b,true,false⟩
 else if o.kd=20 then ⟨{ s with prints:=s.prints++[(s.reg o.a).n] },0,false,false⟩
 else if o.kd=21 then (if (s.reg o.a).n≠0 then ⟨{ s with word:=o.n.toNat },0,false,true⟩ else ⟨s,0,false,false⟩)
 else if o.kd=27 then ⟨endS s 1 (s.reg o.a).n,0,false,true⟩
 else if o.kd=28 then ⟨s,(s.reg o.a).n,true,false⟩
 else ⟨s,0,false,false⟩
def q4d (k:Int):Bool:=k==18||k==19||k==16||k==25||k==17
def q4r (k:Int):Bool:=k==20||k==21||k==22||k==26||k==27||k==28
def q1x (M:Mac) (sh:List Int) (s:St) (o:OpR):DoR :=
 if q4d o.kd=true then ⟨(memS M sh s o).1,(memS M sh s o).2,(memS M sh s o).2 != 0,false⟩
 else if q4r o.kd=true then outS s o
 else if (q1u o (s.reg o.a) (s.reg o.b) (s.reg o.c)).2≠0 then ⟨s,(q1u o (s.reg o.a) (s.reg o.b) (s.reg o.c)).2,true,false⟩
 else ⟨q4b M sh s o (q1u o (s.reg o.a) (s.reg o.b) (s.reg o.c)).1,0,false,false⟩
def doS (M:Mac) (sh:List Int) (s:St) (o:OpR):DoR :=
 if o.gd≠-1∧(s.reg o.gd).b≠0 then ⟨s,(s.reg o.gd).b,true,false⟩
 else if o.gd≠-1∧(s.reg o.gd).n=0 then ⟨s,0,false,false⟩
 else q1x M sh s o
def opsS (C:q0c) (M:Mac) (sh:List Int) (ct:Int):List OpR→St→St
 | [],s=>s
 | o :: os,s =>
  if (doS M sh s o).trap=true then q5i C (doS M sh s o).s ct (doS M sh s o).n
  else if (doS M sh s o).left=true then (doS M sh s o).s
  else opsS C M sh ct os (doS M sh s o).s
def q1b (C:q0c) (k:Nat):q3g:=C.ws.getD k ⟨[],-1⟩
def goS (s:St):St:={ q2y s with word:=s.word+1 }
def cycS (C:q0c) (M:Mac) (sh:List Int) (s:St):St :=
 let s':=opsS C M sh (q1b C s.word).ct (q1b C s.word).ops (goS s)
 { s' with took:=s'.took+1 }
def runS (C:q0c) (M:Mac) (sh:List Int):Nat→St→St
 | 0,s=>s
 | n+1,s=>if s.ended=true then s else runS C M sh n (cycS C M sh s)
def q2t (C:q0c) (args:List Int):St :=
 ⟨0,0,0,false,3,0,[],(args.map fun n=>⟨n,0⟩)++List.replicate (C.rg.toNat - args.length) VR.zero,List.replicate C.sp.toNat VR.zero,C.sz.map fun n=>List.replicate n.toNat 0,[]⟩
theorem z3k (C:q0c) (M:Mac) (sh:List Int) (n:Nat) (s:St):runS C M sh (n+1) s=if s.ended=true then s else runS C M sh n (cycS C M sh s):=rfl
theorem v1s {C:q0c} {M:Mac} {sh:List Int} {s:St} (h:s.ended=true):∀ n,runS C M sh n s=s
 | 0=>rfl
 | n+1=>by rw [z3k,if_pos h]
structure OpOK (C:q0c) (o:OpR):Prop where
 kd:1≤o.kd∧o.kd≤28
 ds:0≤o.ds∧o.ds<C.rg
 a:0≤o.a∧o.a<C.rg
 b:0≤o.b∧o.b<C.rg
 c:0≤o.c∧o.c<C.rg
 gd:o.gd=-1∨(0≤o.gd∧o.gd<C.rg)
 n:(o.kd=16∨o.kd=17∨o.kd=25→0≤o.n∧o.n<C.sz.length)∧(o.kd=18∨o.kd=19→0≤o.n∧o.n<C.sp)∧(o.kd=21∨o.kd=26→0≤o.n∧o.n<C.ws.length)
structure q3h (C:q0c):Prop where
 szl:C.sz.length≤16
 sz:∀ n∈C.sz,1≤n∧n≤65536
 rg:1≤C.rg∧C.rg≤4096
 sp:0≤C.sp∧C.sp≤4096
 pr:0≤C.pr∧C.pr≤8∧C.pr≤C.rg
 cd:0≤C.cd∧C.cd<C.rg
 wl:1≤C.ws.length∧C.ws.length≤60000
 ct:∀ w∈C.ws,-1≤w.ct∧w.ct<C.ws.length
 ol:∀ w∈C.ws,w.ops.length≤400
 op:∀ w∈C.ws,∀ o∈w.ops,OpOK C o
 last:∀ w,C.ws.getLast? = some w→∃ o∈w.ops,q2e o=true
theorem q8x {L:List Int}:q3d L=0↔∀ x∈L,x=0:=by
 induction L with
 | nil=>simp [q3d]
 | cons x L ih =>
  unfold q3d
  by_cases h:x=0
  ·rw [if_pos h,ih];simp [h]
  ·rw [if_neg h];simp [h]
theorem j3z {C:q0c} {o:OpR} (hrg:1≤C.rg) (h:q1t C o=0):OpOK C o:=by
 unfold q1t at h
 split at h
 ·exact absurd h (by decide)
 ·rename_i h1
  split at h
  ·exact absurd h (by decide)
  ·rename_i h2
   split at h
   ·exact absurd h (by decide)
   ·rename_i h3
    split at h
    ·exact absurd h (by decide)
    ·rename_i h4
     simp only [Bool.or_eq_true,Bool.and_eq_true,not_or,not_and,Bool.not_eq_true,q1i,Bool.or_eq_false_iff,decide_eq_false_iff_not,Bool.not_eq_false',Bool.not_eq_true',bne_iff_ne,ne_eq,bne_eq_false_iff_eq,beq_iff_eq] at h2 h3 h4
     obtain ⟨⟨⟨⟨a1,a2⟩,a3⟩,a4⟩,a5⟩:=h2
     obtain ⟨⟨⟨⟨b1,b2⟩,b3⟩,b4⟩,b5⟩:=h4
     have fld:∀ (u:Bool) (r:Int),(u=true→¬ r<0∧¬ r≥C.rg)→(u=false→r=0)→0≤r∧r<C.rg:=fun u r p q=>by
      cases u with
      | true=>have:=p rfl;omega
      | false=>have:=q rfl;omega
     refine ⟨by omega,fld _ _ a1 (fun u=>Decidable.not_not.1 (b1 u)),fld _ _ a2 (fun u=>Decidable.not_not.1 (b2 u)),fld _ _ a3 (fun u=>Decidable.not_not.1 (b3 u)),fld _ _ a4 (fun u=>Decidable.not_not.1 (b4 u)),?_,?_,?_,?_⟩
     ·by_cases e:o.gd=-1
      ·exact .inl e
      ·have:=a5 e;right;omega
     ·intro hk
      have hu:uN o.kd=true:=by rcases hk with e | e | e<;>rw [e]<;>rfl
      have hm:q2m C o.kd=C.sz.length:=by unfold q2m;rw [if_pos hk]
      have:=h3 ⟨hu,by omega⟩
      rw [hm] at this;omega
     ·intro hk
      have hu:uN o.kd=true:=by rcases hk with e | e<;>rw [e]<;>rfl
      have hm:q2m C o.kd=C.sp:=by unfold q2m;rw [if_neg (by omega),if_pos hk]
      have:=h3 ⟨hu,by omega⟩
      rw [hm] at this;omega
     ·intro hk
      have hu:uN o.kd=true:=by rcases hk with e | e<;>rw [e]<;>rfl
      have hm:q2m C o.kd=C.ws.length:=by unfold q2m;rw [if_neg (by omega),if_neg (by omega),if_pos hk]
      have:=h3 ⟨hu,by omega⟩
      rw [hm] at this;omega
theorem z4m {C:q0c} (h:q3n C=0):q3h C:=by
 unfold q3n at h
 split at h
 ·rename_i h0;exact absurd h h0
 ·rename_i h0
  have h0:q3c C=0:=Decidable.not_not.1 h0
  split at h
  ·exact absurd h (by decide)
  ·rename_i h1
   split at h
   ·rename_i h2;exact absurd h h2
   ·rename_i h2
    have h2:q3d (C.ws.map (q2d C))=0:=Decidable.not_not.1 h2
    split at h
    ·exact absurd h (by decide)
    ·rename_i h3
     unfold q3c at h0
     split at h0
     ·exact absurd h0 (by decide)
     ·rename_i g1
      split at h0
      ·exact absurd h0 (by decide)
      ·rename_i g2
       split at h0
       ·exact absurd h0 (by decide)
       ·rename_i g3
        have hw:∀ w∈C.ws,q2d C w=0:=fun w hw=>q8x.1 h2 _ (List.mem_map.2 ⟨w,hw,rfl⟩)
        have hw2:∀ w∈C.ws,(-1≤w.ct∧w.ct<C.ws.length)∧w.ops.length≤400∧∀ o∈w.ops,q1t C o=0:=fun w hm=>by
         have:=hw w hm
         unfold q2d at this
         split at this
         ·exact absurd this (by decide)
         ·split at this
          ·exact absurd this (by decide)
          ·exact ⟨by omega,by omega,fun o ho=>q8x.1 this _ (List.mem_map.2 ⟨o,ho,rfl⟩)⟩
        refine ⟨by omega,fun n hn=>?_,by omega,by omega,by omega,by omega,by omega,fun w hm=>(hw2 w hm).1,fun w hm=>(hw2 w hm).2.1,fun w hm o ho=>j3z (by omega) ((hw2 w hm).2.2 o ho),fun w hl=>?_⟩
        ·have:=List.any_eq_false.1 ((Bool.not_eq_true _).mp g2) n hn
         simp only [Bool.or_eq_true,decide_eq_true_eq,not_or] at this
         omega
        ·have h3:q5s C.ws=true:=by simpa using h3
         unfold q5s at h3
         rw [hl] at h3
         exact List.any_eq_true.1 h3
structure StOK (C:q0c) (s:St):Prop where
 regs:s.regs.length=C.rg.toNat
 kept:s.kept.length=C.sp.toNat
 arr:s.arr.map List.length=C.sz.map Int.toNat
 way:∀ w∈s.way,w.rg<C.rg.toNat∧w.v.ok
 rok:∀ v∈s.regs,v.ok
 kok:∀ v∈s.kept,v.ok
theorem VR.zero_ok:VR.zero.ok:=.inl rfl
theorem z8q {L:List VR} (h:∀ v∈L,v.ok) (k:Nat):(L.getD k VR.zero).ok:=by
 rw [List.getD_eq_getElem?_getD]
 cases hk:L[k]? with
 | none=>exact VR.zero_ok
 | some v=>exact h v (List.mem_of_getElem? hk)
theorem StOK.reg {C:q0c} {s:St} (h:StOK C s) (r:Int):(s.reg r).ok:=z8q h.rok _
theorem z8m {L:List VR} (h:∀ v∈L,v.ok) {k:Nat} {v:VR} (hv:v.ok):∀ u∈L.set k v,u.ok:=fun u hu=>by
 rcases List.mem_or_eq_of_mem_set hu with h1 | h1
 ·exact h u h1
 ·rw [h1];exact hv
theorem q8i (W:List WayR):∀ R:List VR,(q1h R W).length=R.length:=by
 induction W with
 | nil=>intro R;rfl
 | cons w W ih=>intro R;show (q1h (R.set w.rg w.v) W).length=_;rw [ih];simp
theorem v5x {W:List WayR} (hW:∀ w∈W,w.v.ok):∀ {R:List VR},(∀ v∈R,v.ok)→∀ v∈q1h R W,v.ok:=by
 induction W with
 | nil=>intro R h;exact h
 | cons w W ih=>intro R h;exact ih (fun u hu=>hW u (by simp [hu])) (z8m h (hW w (by simp)))
theorem z9e {C:q0c} {s:St} (h:StOK C s):StOK C (q2y s) :=
 ⟨by show (q1h _ _).length=_;rw [q8i];exact h.regs,h.kept,h.arr,fun w hw=>h.way w (List.mem_filter.1 hw).1,v5x (fun w hw=>(h.way w (List.mem_filter.1 hw).1).2) h.rok,h.kok⟩
theorem v0g {C:q0c} {s:St} (h:StOK C s):StOK C (q4y s) :=
 ⟨by show (q1h _ _).length=_;rw [q8i];exact h.regs,h.kept,h.arr,(fun w hw=>by cases hw),v5x (fun w hw=>(h.way w hw).2) h.rok,h.kok⟩
theorem v2f {C:q0c} {s:St} (h:StOK C s) (k n:Int):StOK C (endS s k n):=⟨h.regs,h.kept,h.arr,(fun w hw=>by cases hw),h.rok,h.kok⟩
theorem z5y {C:q0c} {M:Mac} {sh:List Int} {s:St} {o:OpR} {v:VR} (h:StOK C s) (ho:OpOK C o) (hv:v.ok):StOK C (q4b M sh s o v) :=
 ⟨h.regs,h.kept,h.arr,fun w hw=>by
  rcases List.mem_append.1 hw with h1 | h1
  ·exact h.way w h1
  ·rw [List.mem_singleton] at h1;subst h1
   have:=ho.ds
   exact ⟨by show o.ds.toNat<_;omega,hv⟩,h.rok,h.kok⟩
theorem v9w {C:q0c} {s:St} (h:StOK C s) (ct n:Int):StOK C (q5i C s ct n):=by
 unfold q5i
 split
 ·exact v2f h _ _
 ·have h1:=v0g h
  exact ⟨by show (List.set _ _ _).length=_;rw [List.length_set];exact h1.regs,h1.kept,h1.arr,h1.way,z8m h1.rok (.inl rfl),h1.kok⟩
theorem k5t {k a b:Int} (h14:k≠14) (h15:k≠15):(q2o k a b).2=0:=by
 unfold q2o
 repeat' split
 all_goals first | rfl | (exfalso;omega)
theorem v2u (a b:Int):q2o 14 a b=if b=0 then (0,-2) else (IntKind.i64.wrap (a.tdiv b),0):=rfl
theorem v1c (a b:Int):q2o 15 a b=if b=0 then (0,-2) else (a.tmod b,0):=rfl
theorem w5h (k a b:Int):(q2o k a b).2=0∨(q2o k a b).1=0:=by
 by_cases h14:k=14
 ·subst h14;rw [v2u]
  by_cases h:b=0
  ·rw [if_pos h];exact .inr rfl
  ·rw [if_neg h];exact .inl rfl
 ·by_cases h15:k=15
  ·subst h15;rw [v1c]
   by_cases h:b=0
   ·rw [if_pos h];exact .inr rfl
   ·rw [if_neg h];exact .inl rfl
  ·exact .inl (k5t h14 h15)
theorem k3x (k:Int) (a b:VR):(q2u k a b).1.ok:=by
 unfold q2u
 simp only
 generalize hr:(if (if a.b=0 then b.b else a.b)=0 then q2o (q0z k) a.n b.n else (0,if a.b=0 then b.b else a.b))=r
 have hr2:r.2=0∨r.1=0:=by
  rw [← hr]
  by_cases h:(if a.b=0 then b.b else a.b)=0
  ·rw [if_pos h];exact w5h _ _ _
  ·rw [if_neg h];exact .inr rfl
 by_cases h:r.2≠0∧(q0z k=14∨q0z k=15)∧q3o k=false
 ·rw [if_pos h];exact .inl rfl
 ·rw [if_neg h];exact hr2
theorem k0i {o:OpR} {a b c:VR} (ha:a.ok) (hb:b.ok) (hc:c.ok):(q1u o a b c).1.ok:=by
 unfold q1u
 split
 ·exact .inl rfl
 ·split
  ·exact ha
  ·split
   ·show (if _ then a else if _ then b else c).ok
    split
    ·exact ha
    ·split
     ·exact hb
     ·exact hc
   ·exact k3x _ _ _
theorem k4v {A:List (List Int)} {k j:Nat} {z:Int}:(A.set k ((A.getD k []).set j z)).map List.length=A.map List.length:=by
 rw [List.map_set,List.length_set]
 by_cases h:k<A.length
 ·rw [List.getD_eq_getElem?_getD,List.getElem?_eq_getElem h]
  apply List.ext_getElem
  ·simp
  ·intro q h1 h2
   rw [List.getElem_set]
   split
   ·rename_i e;subst e;simp
   ·rfl
 ·rw [List.set_eq_of_length_le (by simp;omega)]
theorem v8o {C:q0c} {M:Mac} {sh:List Int} {s:St} {o:OpR} (h:StOK C s) (ho:OpOK C o):StOK C (memS M sh s o).1:=by
 unfold memS
 split
 ·exact z5y h ho (z8q h.kok _)
 ·split
  ·exact ⟨h.regs,by show (List.set _ _ _).length=_;rw [List.length_set];exact h.kept,h.arr,h.way,h.rok,z8m h.kok (h.reg _)⟩
  ·generalize nMem s o=n
   split
   ·exact z5y h ho (.inr rfl)
   ·split
    ·exact h
    ·split
     ·exact ⟨h.regs,h.kept,by show (List.set _ _ (List.set (q3b s o) _ _)).map _=_;unfold q3b;rw [k4v];exact h.arr,h.way,h.rok,h.kok⟩
     ·exact z5y h ho (.inl rfl)
theorem k8g {C:q0c} {s:St} {o:OpR} (h:StOK C s):StOK C (outS s o).s:=by
 unfold outS
 split
 ·exact ⟨h.regs,h.kept,h.arr,h.way,h.rok,h.kok⟩
 ·split
  ·exact h
  ·split
   ·exact ⟨h.regs,h.kept,h.arr,h.way,h.rok,h.kok⟩
   ·split
    ·split
     ·exact ⟨h.regs,h.kept,h.arr,h.way,h.rok,h.kok⟩
     ·exact h
    ·split
     ·exact v2f h _ _
     ·split<;>exact h
theorem z8o {C:q0c} {M:Mac} {sh:List Int} {s:St} {o:OpR} (h:StOK C s) (ho:OpOK C o):StOK C (doS M sh s o).s:=by
 unfold doS
 split
 ·exact h
 ·split
  ·exact h
  ·unfold q1x
   split
   ·exact v8o h ho
   ·split
    ·exact k8g h
    ·split
     ·exact h
     ·exact z5y h ho (k0i (h.reg _) (h.reg _) (h.reg _))
theorem v5e {C:q0c} {M:Mac} {sh:List Int} {ct:Int}:∀ {L:List OpR} {s:St},StOK C s→(∀ o∈L,OpOK C o)→StOK C (opsS C M sh ct L s)
 | [],s,h,_=>h
 | o :: L,s,h,ho=>by
  unfold opsS
  have h1:=z8o (M:=M) (sh:=sh) h (ho o (by simp))
  split
  ·exact v9w h1 _ _
  ·split
   ·exact h1
   ·exact v5e h1 fun q hq=>ho q (by simp [hq])
theorem q7o {C:q0c} {k:Nat} (h:k<C.ws.length):q1b C k∈C.ws:=by
 unfold q1b
 rw [List.getD_eq_getElem?_getD,List.getElem?_eq_getElem h]
 exact List.getElem_mem h
theorem j1s {C:q0c} {M:Mac} {sh:List Int} {s:St} (hC:q3h C) (h:StOK C s) (hw:s.word<C.ws.length):StOK C (cycS C M sh s):=by
 have h1:StOK C (goS s):=by
  have:=z9e h
  exact ⟨this.regs,this.kept,this.arr,this.way,this.rok,this.kok⟩
 have h2:=v5e (M:=M) (sh:=sh) (ct:=(q1b C s.word).ct) h1 (hC.op _ (q7o hw))
 exact ⟨h2.regs,h2.kept,h2.arr,h2.way,h2.rok,h2.kok⟩
theorem k4x {M:Mac} {sh:List Int} {s:St} {o:OpR}:(memS M sh s o).1.word=s.word:=by
 unfold memS
 split
 ·rfl
 ·split
  ·rfl
  ·generalize nMem s o=n
   split
   ·rfl
   ·split
    ·rfl
    ·split<;>rfl
theorem w2o {C:q0c} {s:St} {o:OpR} (ho:OpOK C o) (hC:1≤C.ws.length):((outS s o).left=true→(outS s o).s.word<C.ws.length)∧((outS s o).left=false→(outS s o).s.word=s.word):=by
 have h0:=ho.n.2.2
 unfold outS
 split
 ·rename_i e
  have:=h0 (.inr e)
  exact ⟨fun _=>by show o.n.toNat<_;omega,fun h=>by cases h⟩
 ·split
  ·exact ⟨(fun h=>by cases h),fun _=>rfl⟩
  ·split
   ·exact ⟨(fun h=>by cases h),fun _=>rfl⟩
   ·split
    ·rename_i e
     have:=h0 (.inl e)
     split
     ·exact ⟨fun _=>by show o.n.toNat<_;omega,fun h=>by cases h⟩
     ·exact ⟨(fun h=>by cases h),fun _=>rfl⟩
    ·split
     ·exact ⟨fun _=>by show 0<_;omega,fun h=>by cases h⟩
     ·split<;>exact ⟨(fun h=>by cases h),fun _=>rfl⟩
theorem v3m {C:q0c} {M:Mac} {sh:List Int} {s:St} {o:OpR} (ho:OpOK C o) (hC:1≤C.ws.length) :
  ((doS M sh s o).left=true→(doS M sh s o).s.word<C.ws.length)∧((doS M sh s o).left=false→(doS M sh s o).s.word=s.word):=by
 unfold doS
 split
 ·exact ⟨(fun h=>by cases h),fun _=>rfl⟩
 ·split
  ·exact ⟨(fun h=>by cases h),fun _=>rfl⟩
  ·unfold q1x
   split
   ·exact ⟨(fun h=>by cases h),fun _=>k4x⟩
   ·split
    ·exact w2o ho hC
    ·split
     ·exact ⟨(fun h=>by cases h),fun _=>rfl⟩
     ·exact ⟨(fun h=>by cases h),fun _=>rfl⟩
theorem k3m {M:Mac} {sh:List Int} {s:St} {o:OpR} (h:q2e o=true):(doS M sh s o).trap=true∨(doS M sh s o).left=true:=by
 unfold q2e at h
 simp only [Bool.and_eq_true,Bool.or_eq_true,beq_iff_eq] at h
 obtain ⟨hg,hk⟩:=h
 unfold doS
 rw [if_neg (by simp [hg]),if_neg (by simp [hg])]
 have h1:q4d o.kd=false:=by rcases hk with (e | e) | e<;>rw [e]<;>rfl
 have h2:q4r o.kd=true:=by rcases hk with (e | e) | e<;>rw [e]<;>rfl
 unfold q1x
 rw [if_neg (by rw [h1];decide),if_pos h2]
 unfold outS
 have n20:o.kd≠20:=by omega
 have n21:o.kd≠21:=by omega
 rcases hk with (e | e) | e
 ·rw [if_pos e];exact .inr rfl
 ·rw [if_neg (show ¬ o.kd=26 by omega)]
  split
  ·exact .inl rfl
  ·exact .inr rfl
 ·rw [if_neg (show ¬ o.kd=26 by omega)]
  split
  ·exact .inl rfl
  ·rw [if_neg (show ¬ o.kd=27 by omega)];exact .inl rfl
theorem k5d {C:q0c} {s:St} {ct n:Int} (hct:-1≤ct∧ct<C.ws.length) (hC:1≤C.ws.length):(q5i C s ct n).word<C.ws.length:=by
 unfold q5i
 split
 ·show 0<_;omega
 ·show ct.toNat<_;omega
theorem v3g {C:q0c} {M:Mac} {sh:List Int} {ct:Int} (hct:-1≤ct∧ct<C.ws.length) (hC:1≤C.ws.length):∀ {L:List OpR} {s:St},(∀ o∈L,OpOK C o) →
  (opsS C M sh ct L s).word<C.ws.length∨((opsS C M sh ct L s).word=s.word∧∀ o∈L,q2e o=false)
 | [],s,_=>.inr ⟨rfl,fun o h=>by cases h⟩
 | o :: L,s,ho=>by
  unfold opsS
  obtain ⟨h1,h2⟩:=v3m (M:=M) (sh:=sh) (s:=s) (ho o (by simp)) hC
  split
  ·exact .inl (k5d hct hC)
  ·rename_i ht
   split
   ·rename_i hl;exact .inl (h1 hl)
   ·rename_i hl
    have hl2:(doS M sh s o).left=false:=by simpa using hl
    rcases v3g hct hC (s:=(doS M sh s o).s) (fun q hq=>ho q (List.mem_cons_of_mem _ hq)) with h3 | ⟨h3,h4⟩
    ·exact .inl h3
    ·refine .inr ⟨by rw [h3,h2 hl2],fun q hq=>?_⟩
     rcases List.mem_cons.1 hq with e | e
     ·subst e
      cases hh:q2e q with
      | false=>rfl
      | true=>rcases k3m (M:=M) (sh:=sh) (s:=s) hh with g | g
              ·exact absurd g ht
              ·exact absurd g hl
     ·exact h4 q e
theorem j7r {C:q0c} {M:Mac} {sh:List Int} {s:St} (hC:q3h C) (hw:s.word<C.ws.length):(cycS C M sh s).word<C.ws.length:=by
 have hm:=q7o hw
 show (opsS C M sh _ _ (goS s)).word<_
 rcases v3g (M:=M) (sh:=sh) (s:=goS s) (hC.ct _ hm) hC.wl.1 (hC.op _ hm) with h | ⟨h1,h2⟩
 ·exact h
 ·rw [h1]
  show s.word+1<_
  by_cases e:s.word+1<C.ws.length
  ·exact e
  ·exfalso
   have hlast:C.ws.getLast? = some (q1b C s.word):=by
    rw [List.getLast?_eq_getElem?]
    unfold q1b
    rw [List.getD_eq_getElem?_getD,show C.ws.length - 1=s.word by omega,List.getElem?_eq_getElem hw]
    rfl
   obtain ⟨o,ho,hl⟩:=hC.last _ hlast
   rw [h2 o ho] at hl;cases hl
end Go.Proofs.YtleofbpepfmfgaaGreatDoor
