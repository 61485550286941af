import Derived.Test.YtleofbpepfmfgaaGreatDoorVxRefTog
set_option linter.unusedSimpArgs false
set_option linter.unusedVariables false
set_option maxRecDepth 100000
namespace Go.Proofs.YtleofbpepfmfgaaGreatDoor
open Go Go.Vx
open Go.Vx.IOp Go.Vx.IR Go.Vx.Opd
structure VR where
 n:Int
 b:Int
def VR.zero:VR:=⟨0,0⟩
def VR.cells (v:VR):List Value:=[i v.n,i v.b]
def VR.val (v:VR):Value:=.agg ⟨v.cells⟩
def VR.ok (v:VR):Prop:=v.b=0∨v.n=0
structure WordR where
 ops:List OpR
 ct:Int
structure CodeR where
 sz:List Int
 pr:Int
 rg:Int
 cd:Int
 sp:Int
 ws:List WordR
structure WayR where
 rg:Nat
 v:VR
 t:Nat
structure St where
 word:Nat
 took:Nat
 begun:Nat
 ended:Bool
 kind:Int
 value:Int
 prints:List Int
 regs:List VR
 kept:List VR
 arr:List (List Int)
 way:List WayR
def uD (k:Int):Bool:=!(k==17||k==19||k==20||k==21||k==22||k==26||k==27||k==28)
def uA (k:Int):Bool:=!(k==1||k==18||k==26)
def uB (k:Int):Bool:=(decide (k≥3)&&decide (k≤15))||k==17||k==23||k==24
def uC (k:Int):Bool:=k==12
def uN (k:Int):Bool:=k==1||k==16||k==17||k==18||k==19||k==21||k==25||k==26
def noneR (rg r:Int):Bool:=decide (r<0)||decide (r≥rg)
def manyN (C:CodeR) (k:Int):Int:=if k=16∨k=17∨k=25 then C.sz.length else if k=18∨k=19 then C.sp else if k=21∨k=26 then C.ws.length else 0
def opCode (C:CodeR) (o:OpR):Int :=
 if o.kd<1∨o.kd>28 then 4
 else if ((uD o.kd&&noneR C.rg o.ds)||(uA o.kd&&noneR C.rg o.a)||(uB o.kd&&noneR C.rg o.b)||(uC o.kd&&noneR C.rg o.c)||(o.gd != -1&&noneR C.rg o.gd))=true then 2
 else if (uN o.kd&&o.kd != 1&&(decide (o.n<0)||decide (o.n≥manyN C o.kd)))=true then 5
 else if ((!uD o.kd&&o.ds != 0)||(!uA o.kd&&o.a != 0)||(!uB o.kd&&o.b != 0)||(!uC o.kd&&o.c != 0)||(!uN o.kd&&o.n != 0))=true then 4
 else 0
def leavesS (o:OpR):Bool:=o.gd==-1&&(o.kd==26||o.kd==27||o.kd==28)
def firstE:List Int→Int
 | []=>0
 | x :: L=>if x=0 then firstE L else x
def wordCode (C:CodeR) (w:WordR):Int :=
 if w.ct < -1∨w.ct≥C.ws.length then 2 else if w.ops.length>400 then 3 else firstE (w.ops.map (opCode C))
def headCode (C:CodeR):Int :=
 if C.sz.length>16∨C.rg>4096∨C.sp>4096 then 3
 else if C.sz.any (fun n=>decide (n<1)||decide (n>65536))=true then 2
 else if C.rg<1∨C.sp<0∨C.pr<0∨C.pr>8∨C.pr>C.rg∨C.cd<0∨C.cd≥C.rg then 2 else 0
def manyOps (ws:List WordR):Nat:=(ws.map fun w=>w.ops.length).foldl (·+·) 0
def lastLeaves (ws:List WordR):Bool:=match ws.getLast? with | some w=>w.ops.any leavesS | none=>false
def checkCode (C:CodeR):Int :=
 if headCode C≠0 then headCode C
 else if C.ws.length=0∨C.ws.length>60000 then 3
 else if firstE (C.ws.map (wordCode C))≠0 then firstE (C.ws.map (wordCode C))
 else if lastLeaves C.ws=false then 4
 else if manyOps C.ws>80000 then 3 else 0
def fitsCode (C:CodeR) (M:Mac):Int :=
 if checkCode C≠0 then checkCode C
 else if M.ok=false then 2
 else if C.rg>M.rg then 3
 else if C.ws.any (fun w=>!fitsS (usesAll M w.ops))=true then 7 else 0
def bin64 (op:BinOp) (a b:Int):Int:=match binInt op .i64 a b with | some (.int _ z)=>z | _=>0
def sh63 (b:Int):Int:=bin64 .and b 63
def bitI (b:Bool):Int:=if b=true then 1 else 0
def mathS (k a b:Int):Int×Int :=
 if k=3 then (bin64 .add a b,0)
 else if k=4 then (bin64 .sub a b,0)
 else if k=5 then (bin64 .and a b,0)
 else if k=6 then (bin64 .or a b,0)
 else if k=7 then (bin64 .xor a b,0)
 else if k=8 then (IntKind.i64.wrap (a * 2 ^ min (sh63 b).toNat 64),0)
 else if k=9 then (a.fdiv (2 ^ min (sh63 b).toNat 64),0)
 else if k=10 then (bitI (decide (a<b)),0)
 else if k=11 then (bitI (a==b),0)
 else if k=13 then (bin64 .mul a b,0)
 else if k=14 then (if b=0 then (0,-2) else (IntKind.i64.wrap (a.tdiv b),0))
 else if k=15 then (if b=0 then (0,-2) else (a.tmod b,0))
 else (0,0)
def lateS (k:Int):Int:=if k=23 then 14 else if k=24 then 15 else k
def waitsS (k:Int):Bool:=k==23||k==24
def bothS (k:Int) (a b:VR):VR×Int :=
 let bad:=if a.b=0 then b.b else a.b
 let r:=if bad=0 then mathS (lateS k) a.n b.n else (0,bad)
 if r.2≠0∧(lateS k=14∨lateS k=15)∧waitsS k=false then (⟨0,0⟩,r.2) else (⟨r.1,r.2⟩,0)
def doVal (o:OpR) (a b c:VR):VR×Int :=
 if o.kd=1 then (⟨o.n,0⟩,0)
 else if o.kd=2 then (a,0)
 else if o.kd=12 then (if a.b≠0 then a else if a.n≠0 then b else c,0)
 else bothS o.kd a b
def St.reg (s:St) (r:Int):VR:=s.regs.getD r.toNat VR.zero
def putsS (R:List VR) (W:List WayR):List VR:=W.foldl (fun R w=>R.set w.rg w.v) R
def arriveS (s:St):St:={ s with regs:=putsS s.regs (s.way.filter fun w=>decide (w.t≤s.took)),way:=s.way.filter fun w=>!decide (w.t≤s.took) }
def settleS (s:St):St:={ s with regs:=putsS s.regs s.way,way:=[] }
def latS (M:Mac) (sh:List Int) (begun:Nat) (kd:Int):Int :=
 if sh=[] then M.lat (classS kd).1.toNat else min (max (sh.getD (begun % sh.length) 0) 1) (M.lat (classS kd).1.toNat)
def giveS (M:Mac) (sh:List Int) (s:St) (o:OpR) (v:VR):St :=
 { s with way:=s.way++[⟨o.ds.toNat,v,s.took+(latS M sh s.begun o.kd).toNat⟩],begun:=s.begun+1 }
def endS (s:St) (kind n:Int):St:={ s with kind:=kind,value:=n,ended:=true,word:=0,way:=[] }
def trapS (C:CodeR) (s:St) (ct n:Int):St :=
 if ct<0 then endS s 2 n else { settleS s with regs:=(settleS s).regs.set C.cd.toNat ⟨n,0⟩,word:=ct.toNat }
def badN (s:St) (o:OpR):Int:=if (s.reg o.a).b≠0 then (s.reg o.a).b else if o.kd=17 then (s.reg o.b).b else 0
def arrAt (s:St) (o:OpR):List Int:=s.arr.getD o.n.toNat []
def nMem (s:St) (o:OpR):Int:=if badN s o=0∧((s.reg o.a).n<0∨(s.reg o.a).n≥(arrAt s o).length) then -1 else badN s o
def memS (M:Mac) (sh:List Int) (s:St) (o:OpR):St×Int :=
 if o.kd=18 then (giveS M sh s o (s.kept.getD o.n.toNat VR.zero),0)
 else if o.kd=19 then ({ s with kept:=s.kept.set o.n.toNat (s.reg o.a) },0)
 else if nMem s o≠0∧o.kd=25 then (giveS M sh s o ⟨0,nMem s o⟩,0)
 else if nMem s o≠0 then (s,nMem s o)
 else if o.kd=17 then ({ s with arr:=s.arr.set o.n.toNat ((arrAt s o).set (s.reg o.a).n.toNat (s.reg o.b).n) },0)
 else (giveS M sh s o ⟨(arrAt s o).getD (s.reg o.a).n.toNat 0,0⟩,0)
structure DoR where
 s:St
 n:Int
 trap:Bool
 left:Bool
def outS (s:St) (o:OpR):DoR :=
 if o.kd=26 then ⟨{ s with word:=o.n.toNat },0,false,true⟩
 else if (s.reg o.a).b≠0 then ⟨s,(s.reg o.a).b,true,false⟩
 else if o.kd=20 then ⟨{ s with prints:=s.prints++[(s.reg o.a).n] },0,false,false⟩
 else if o.kd=21 then (if (s.reg o.a).n≠0 then ⟨{ s with word:=o.n.toNat },0,false,true⟩ else ⟨s,0,false,false⟩)
 else if o.kd=27 then ⟨endS s 1 (s.reg o.a).n,0,false,true⟩
 else if o.kd=28 then ⟨s,(s.reg o.a).n,true,false⟩
 else ⟨s,0,false,false⟩
def isMem (k:Int):Bool:=k==18||k==19||k==16||k==25||k==17
def isOut (k:Int):Bool:=k==20||k==21||k==22||k==26||k==27||k==28
def bodyS (M:Mac) (sh:List Int) (s:St) (o:OpR):DoR :=
 if isMem o.kd=true then ⟨(memS M sh s o).1,(memS M sh s o).2,(memS M sh s o).2 != 0,false⟩
 else if isOut o.kd=true then outS s o
 else if (doVal o (s.reg o.a) (s.reg o.b) (s.reg o.c)).2≠0 then ⟨s,(doVal o (s.reg o.a) (s.reg o.b) (s.reg o.c)).2,true,false⟩
 else ⟨giveS M sh s o (doVal o (s.reg o.a) (s.reg o.b) (s.reg o.c)).1,0,false,false⟩
def doS (M:Mac) (sh:List Int) (s:St) (o:OpR):DoR :=
 if o.gd≠-1∧(s.reg o.gd).b≠0 then ⟨s,(s.reg o.gd).b,true,false⟩
 else if o.gd≠-1∧(s.reg o.gd).n=0 then ⟨s,0,false,false⟩
 else bodyS M sh s o
def opsS (C:CodeR) (M:Mac) (sh:List Int) (ct:Int):List OpR→St→St
 | [],s=>s
 | o :: os,s =>
  if (doS M sh s o).trap=true then trapS C (doS M sh s o).s ct (doS M sh s o).n
  else if (doS M sh s o).left=true then (doS M sh s o).s
  else opsS C M sh ct os (doS M sh s o).s
def wordAt (C:CodeR) (k:Nat):WordR:=C.ws.getD k ⟨[],-1⟩
def goS (s:St):St:={ arriveS s with word:=s.word+1 }
def cycS (C:CodeR) (M:Mac) (sh:List Int) (s:St):St :=
 let s':=opsS C M sh (wordAt C s.word).ct (wordAt C s.word).ops (goS s)
 { s' with took:=s'.took+1 }
def runS (C:CodeR) (M:Mac) (sh:List Int):Nat→St→St
 | 0,s=>s
 | n+1,s=>if s.ended=true then s else runS C M sh n (cycS C M sh s)
def beginS (C:CodeR) (args:List Int):St :=
 ⟨0,0,0,false,3,0,[],(args.map fun n=>⟨n,0⟩)++List.replicate (C.rg.toNat - args.length) VR.zero,List.replicate C.sp.toNat VR.zero,C.sz.map fun n=>List.replicate n.toNat 0,[]⟩
theorem runS_succ (C:CodeR) (M:Mac) (sh:List Int) (n:Nat) (s:St):runS C M sh (n+1) s=if s.ended=true then s else runS C M sh n (cycS C M sh s):=rfl
theorem runS_ended {C:CodeR} {M:Mac} {sh:List Int} {s:St} (h:s.ended=true):∀ n,runS C M sh n s=s
 | 0=>rfl
 | n+1=>by rw [runS_succ,if_pos h]
structure OpOK (C:CodeR) (o:OpR):Prop where
 kd:1≤o.kd∧o.kd≤28
 ds:0≤o.ds∧o.ds<C.rg
 a:0≤o.a∧o.a<C.rg
 b:0≤o.b∧o.b<C.rg
 c:0≤o.c∧o.c<C.rg
 gd:o.gd=-1∨(0≤o.gd∧o.gd<C.rg)
 n:(o.kd=16∨o.kd=17∨o.kd=25→0≤o.n∧o.n<C.sz.length)∧(o.kd=18∨o.kd=19→0≤o.n∧o.n<C.sp)∧(o.kd=21∨o.kd=26→0≤o.n∧o.n<C.ws.length)
structure CodeOK (C:CodeR):Prop where
 szl:C.sz.length≤16
 sz:∀ n∈C.sz,1≤n∧n≤65536
 rg:1≤C.rg∧C.rg≤4096
 sp:0≤C.sp∧C.sp≤4096
 pr:0≤C.pr∧C.pr≤8∧C.pr≤C.rg
 cd:0≤C.cd∧C.cd<C.rg
 wl:1≤C.ws.length∧C.ws.length≤60000
 ct:∀ w∈C.ws,-1≤w.ct∧w.ct<C.ws.length
 ol:∀ w∈C.ws,w.ops.length≤400
 op:∀ w∈C.ws,∀ o∈w.ops,OpOK C o
 last:∀ w,C.ws.getLast? = some w→∃ o∈w.ops,leavesS o=true
theorem firstE_zero {L:List Int}:firstE L=0↔∀ x∈L,x=0:=by
 induction L with
 | nil=>simp [firstE]
 | cons x L ih =>
  unfold firstE
  by_cases h:x=0
  ·rw [if_pos h,ih];simp [h]
  ·rw [if_neg h];simp [h]
theorem opCode_ok {C:CodeR} {o:OpR} (hrg:1≤C.rg) (h:opCode C o=0):OpOK C o:=by
 unfold opCode at h
 split at h
 ·exact absurd h (by decide)
 ·rename_i h1
  split at h
  ·exact absurd h (by decide)
  ·rename_i h2
   split at h
   ·exact absurd h (by decide)
   ·rename_i h3
    split at h
    ·exact absurd h (by decide)
    ·rename_i h4
     simp only [Bool.or_eq_true,Bool.and_eq_true,not_or,not_and,Bool.not_eq_true,noneR,Bool.or_eq_false_iff,decide_eq_false_iff_not,Bool.not_eq_false',Bool.not_eq_true',bne_iff_ne,ne_eq,bne_eq_false_iff_eq,beq_iff_eq] at h2 h3 h4
     obtain ⟨⟨⟨⟨a1,a2⟩,a3⟩,a4⟩,a5⟩:=h2
     obtain ⟨⟨⟨⟨b1,b2⟩,b3⟩,b4⟩,b5⟩:=h4
     have fld:∀ (u:Bool) (r:Int),(u=true→¬ r<0∧¬ r≥C.rg)→(u=false→r=0)→0≤r∧r<C.rg:=fun u r p q=>by
      cases u with
      | true=>have:=p rfl;omega
      | false=>have:=q rfl;omega
     refine ⟨by omega,fld _ _ a1 (fun u=>Decidable.not_not.1 (b1 u)),fld _ _ a2 (fun u=>Decidable.not_not.1 (b2 u)),fld _ _ a3 (fun u=>Decidable.not_not.1 (b3 u)),fld _ _ a4 (fun u=>Decidable.not_not.1 (b4 u)),?_,?_,?_,?_⟩
     ·by_cases e:o.gd=-1
      ·exact .inl e
      ·have:=a5 e;right;omega
     ·intro hk
      have hu:uN o.kd=true:=by rcases hk with e | e | e<;>rw [e]<;>rfl
      have hm:manyN C o.kd=C.sz.length:=by unfold manyN;rw [if_pos hk]
      have:=h3 ⟨hu,by omega⟩
      rw [hm] at this;omega
     ·intro hk
      have hu:uN o.kd=true:=by rcases hk with e | e<;>rw [e]<;>rfl
      have hm:manyN C o.kd=C.sp:=by unfold manyN;rw [if_neg (by omega),if_pos hk]
      have:=h3 ⟨hu,by omega⟩
      rw [hm] at this;omega
     ·intro hk
      have hu:uN o.kd=true:=by rcases hk with e | e<;>rw [e]<;>rfl
      have hm:manyN C o.kd=C.ws.length:=by unfold manyN;rw [if_neg (by omega),if_neg (by omega),if_pos hk]
      have:=h3 ⟨hu,by omega⟩
      rw [hm] at this;omega
theorem checkCode_ok {C:CodeR} (h:checkCode C=0):CodeOK C:=by
 unfold checkCode at h
 split at h
 ·rename_i h0;exact absurd h h0
 ·rename_i h0
  have h0:headCode C=0:=Decidable.not_not.1 h0
  split at h
  ·exact absurd h (by decide)
  ·rename_i h1
   split at h
   ·rename_i h2;exact absurd h h2
   ·rename_i h2
    have h2:firstE (C.ws.map (wordCode C))=0:=Decidable.not_not.1 h2
    split at h
    ·exact absurd h (by decide)
    ·rename_i h3
     unfold headCode at h0
     split at h0
     ·exact absurd h0 (by decide)
     ·rename_i g1
      split at h0
      ·exact absurd h0 (by decide)
      ·rename_i g2
       split at h0
       ·exact absurd h0 (by decide)
       ·rename_i g3
        have hw:∀ w∈C.ws,wordCode C w=0:=fun w hw=>firstE_zero.1 h2 _ (List.mem_map.2 ⟨w,hw,rfl⟩)
        have hw2:∀ w∈C.ws,(-1≤w.ct∧w.ct<C.ws.length)∧w.ops.length≤400∧∀ o∈w.ops,opCode C o=0:=fun w hm=>by
         have:=hw w hm
         unfold wordCode at this
         split at this
         ·exact absurd this (by decide)
         ·split at this
          ·exact absurd this (by decide)
          ·exact ⟨by omega,by omega,fun o ho=>firstE_zero.1 this _ (List.mem_map.2 ⟨o,ho,rfl⟩)⟩
        refine ⟨by omega,fun n hn=>?_,by omega,by omega,by omega,by omega,by omega,fun w hm=>(hw2 w hm).1,fun w hm=>(hw2 w hm).2.1,fun w hm o ho=>opCode_ok (by omega) ((hw2 w hm).2.2 o ho),fun w hl=>?_⟩
        ·have:=List.any_eq_false.1 ((Bool.not_eq_true _).mp g2) n hn
         simp only [Bool.or_eq_true,decide_eq_true_eq,not_or] at this
         omega
        ·have h3:lastLeaves C.ws=true:=by simpa using h3
         unfold lastLeaves at h3
         rw [hl] at h3
         exact List.any_eq_true.1 h3
structure StOK (C:CodeR) (s:St):Prop where
 regs:s.regs.length=C.rg.toNat
 kept:s.kept.length=C.sp.toNat
 arr:s.arr.map List.length=C.sz.map Int.toNat
 way:∀ w∈s.way,w.rg<C.rg.toNat∧w.v.ok
 rok:∀ v∈s.regs,v.ok
 kok:∀ v∈s.kept,v.ok
theorem VR.zero_ok:VR.zero.ok:=.inl rfl
theorem getD_ok {L:List VR} (h:∀ v∈L,v.ok) (k:Nat):(L.getD k VR.zero).ok:=by
 rw [List.getD_eq_getElem?_getD]
 cases hk:L[k]? with
 | none=>exact VR.zero_ok
 | some v=>exact h v (List.mem_of_getElem? hk)
theorem StOK.reg {C:CodeR} {s:St} (h:StOK C s) (r:Int):(s.reg r).ok:=getD_ok h.rok _
theorem set_ok {L:List VR} (h:∀ v∈L,v.ok) {k:Nat} {v:VR} (hv:v.ok):∀ u∈L.set k v,u.ok:=fun u hu=>by
 rcases List.mem_or_eq_of_mem_set hu with h1 | h1
 ·exact h u h1
 ·rw [h1];exact hv
theorem puts_len (W:List WayR):∀ R:List VR,(putsS R W).length=R.length:=by
 induction W with
 | nil=>intro R;rfl
 | cons w W ih=>intro R;show (putsS (R.set w.rg w.v) W).length=_;rw [ih];simp
theorem puts_ok {W:List WayR} (hW:∀ w∈W,w.v.ok):∀ {R:List VR},(∀ v∈R,v.ok)→∀ v∈putsS R W,v.ok:=by
 induction W with
 | nil=>intro R h;exact h
 | cons w W ih=>intro R h;exact ih (fun u hu=>hW u (by simp [hu])) (set_ok h (hW w (by simp)))
theorem arrive_ok {C:CodeR} {s:St} (h:StOK C s):StOK C (arriveS s) :=
 ⟨by show (putsS _ _).length=_;rw [puts_len];exact h.regs,h.kept,h.arr,fun w hw=>h.way w (List.mem_filter.1 hw).1,puts_ok (fun w hw=>(h.way w (List.mem_filter.1 hw).1).2) h.rok,h.kok⟩
theorem settle_ok {C:CodeR} {s:St} (h:StOK C s):StOK C (settleS s) :=
 ⟨by show (putsS _ _).length=_;rw [puts_len];exact h.regs,h.kept,h.arr,(fun w hw=>by cases hw),puts_ok (fun w hw=>(h.way w hw).2) h.rok,h.kok⟩
theorem end_ok {C:CodeR} {s:St} (h:StOK C s) (k n:Int):StOK C (endS s k n):=⟨h.regs,h.kept,h.arr,(fun w hw=>by cases hw),h.rok,h.kok⟩
theorem give_ok {C:CodeR} {M:Mac} {sh:List Int} {s:St} {o:OpR} {v:VR} (h:StOK C s) (ho:OpOK C o) (hv:v.ok):StOK C (giveS M sh s o v) :=
 ⟨h.regs,h.kept,h.arr,fun w hw=>by
  rcases List.mem_append.1 hw with h1 | h1
  ·exact h.way w h1
  ·rw [List.mem_singleton] at h1;subst h1
   have:=ho.ds
   exact ⟨by show o.ds.toNat<_;omega,hv⟩,h.rok,h.kok⟩
theorem trap_ok {C:CodeR} {s:St} (h:StOK C s) (ct n:Int):StOK C (trapS C s ct n):=by
 unfold trapS
 split
 ·exact end_ok h _ _
 ·have h1:=settle_ok h
  exact ⟨by show (List.set _ _ _).length=_;rw [List.length_set];exact h1.regs,h1.kept,h1.arr,h1.way,set_ok h1.rok (.inl rfl),h1.kok⟩
theorem math_two {k a b:Int} (h14:k≠14) (h15:k≠15):(mathS k a b).2=0:=by
 unfold mathS
 repeat' split
 all_goals first | rfl | (exfalso;omega)
theorem math_14 (a b:Int):mathS 14 a b=if b=0 then (0,-2) else (IntKind.i64.wrap (a.tdiv b),0):=rfl
theorem math_15 (a b:Int):mathS 15 a b=if b=0 then (0,-2) else (a.tmod b,0):=rfl
theorem math_ok (k a b:Int):(mathS k a b).2=0∨(mathS k a b).1=0:=by
 by_cases h14:k=14
 ·subst h14;rw [math_14]
  by_cases h:b=0
  ·rw [if_pos h];exact .inr rfl
  ·rw [if_neg h];exact .inl rfl
 ·by_cases h15:k=15
  ·subst h15;rw [math_15]
   by_cases h:b=0
   ·rw [if_pos h];exact .inr rfl
   ·rw [if_neg h];exact .inl rfl
  ·exact .inl (math_two h14 h15)
theorem both_ok (k:Int) (a b:VR):(bothS k a b).1.ok:=by
 unfold bothS
 simp only
 generalize hr:(if (if a.b=0 then b.b else a.b)=0 then mathS (lateS k) a.n b.n else (0,if a.b=0 then b.b else a.b))=r
 have hr2:r.2=0∨r.1=0:=by
  rw [← hr]
  by_cases h:(if a.b=0 then b.b else a.b)=0
  ·rw [if_pos h];exact math_ok _ _ _
  ·rw [if_neg h];exact .inr rfl
 by_cases h:r.2≠0∧(lateS k=14∨lateS k=15)∧waitsS k=false
 ·rw [if_pos h];exact .inl rfl
 ·rw [if_neg h];exact hr2
theorem doVal_ok {o:OpR} {a b c:VR} (ha:a.ok) (hb:b.ok) (hc:c.ok):(doVal o a b c).1.ok:=by
 unfold doVal
 split
 ·exact .inl rfl
 ·split
  ·exact ha
  ·split
   ·show (if _ then a else if _ then b else c).ok
    split
    ·exact ha
    ·split
     ·exact hb
     ·exact hc
   ·exact both_ok _ _ _
theorem arr_set {A:List (List Int)} {k j:Nat} {z:Int}:(A.set k ((A.getD k []).set j z)).map List.length=A.map List.length:=by
 rw [List.map_set,List.length_set]
 by_cases h:k<A.length
 ·rw [List.getD_eq_getElem?_getD,List.getElem?_eq_getElem h]
  apply List.ext_getElem
  ·simp
  ·intro q h1 h2
   rw [List.getElem_set]
   split
   ·rename_i e;subst e;simp
   ·rfl
 ·rw [List.set_eq_of_length_le (by simp;omega)]
theorem mem_ok {C:CodeR} {M:Mac} {sh:List Int} {s:St} {o:OpR} (h:StOK C s) (ho:OpOK C o):StOK C (memS M sh s o).1:=by
 unfold memS
 split
 ·exact give_ok h ho (getD_ok h.kok _)
 ·split
  ·exact ⟨h.regs,by show (List.set _ _ _).length=_;rw [List.length_set];exact h.kept,h.arr,h.way,h.rok,set_ok h.kok (h.reg _)⟩
  ·generalize nMem s o=n
   split
   ·exact give_ok h ho (.inr rfl)
   ·split
    ·exact h
    ·split
     ·exact ⟨h.regs,h.kept,by show (List.set _ _ (List.set (arrAt s o) _ _)).map _=_;unfold arrAt;rw [arr_set];exact h.arr,h.way,h.rok,h.kok⟩
     ·exact give_ok h ho (.inl rfl)
theorem out_ok {C:CodeR} {s:St} {o:OpR} (h:StOK C s):StOK C (outS s o).s:=by
 unfold outS
 split
 ·exact ⟨h.regs,h.kept,h.arr,h.way,h.rok,h.kok⟩
 ·split
  ·exact h
  ·split
   ·exact ⟨h.regs,h.kept,h.arr,h.way,h.rok,h.kok⟩
   ·split
    ·split
     ·exact ⟨h.regs,h.kept,h.arr,h.way,h.rok,h.kok⟩
     ·exact h
    ·split
     ·exact end_ok h _ _
     ·split<;>exact h
theorem do_ok {C:CodeR} {M:Mac} {sh:List Int} {s:St} {o:OpR} (h:StOK C s) (ho:OpOK C o):StOK C (doS M sh s o).s:=by
 unfold doS
 split
 ·exact h
 ·split
  ·exact h
  ·unfold bodyS
   split
   ·exact mem_ok h ho
   ·split
    ·exact out_ok h
    ·split
     ·exact h
     ·exact give_ok h ho (doVal_ok (h.reg _) (h.reg _) (h.reg _))
theorem ops_ok {C:CodeR} {M:Mac} {sh:List Int} {ct:Int}:∀ {L:List OpR} {s:St},StOK C s→(∀ o∈L,OpOK C o)→StOK C (opsS C M sh ct L s)
 | [],s,h,_=>h
 | o :: L,s,h,ho=>by
  unfold opsS
  have h1:=do_ok (M:=M) (sh:=sh) h (ho o (by simp))
  split
  ·exact trap_ok h1 _ _
  ·split
   ·exact h1
   ·exact ops_ok h1 fun q hq=>ho q (by simp [hq])
theorem wordAt_mem {C:CodeR} {k:Nat} (h:k<C.ws.length):wordAt C k∈C.ws:=by
 unfold wordAt
 rw [List.getD_eq_getElem?_getD,List.getElem?_eq_getElem h]
 exact List.getElem_mem h
theorem cyc_ok {C:CodeR} {M:Mac} {sh:List Int} {s:St} (hC:CodeOK C) (h:StOK C s) (hw:s.word<C.ws.length):StOK C (cycS C M sh s):=by
 have h1:StOK C (goS s):=by
  have:=arrive_ok h
  exact ⟨this.regs,this.kept,this.arr,this.way,this.rok,this.kok⟩
 have h2:=ops_ok (M:=M) (sh:=sh) (ct:=(wordAt C s.word).ct) h1 (hC.op _ (wordAt_mem hw))
 exact ⟨h2.regs,h2.kept,h2.arr,h2.way,h2.rok,h2.kok⟩
theorem mem_word {M:Mac} {sh:List Int} {s:St} {o:OpR}:(memS M sh s o).1.word=s.word:=by
 unfold memS
 split
 ·rfl
 ·split
  ·rfl
  ·generalize nMem s o=n
   split
   ·rfl
   ·split
    ·rfl
    ·split<;>rfl
theorem out_word {C:CodeR} {s:St} {o:OpR} (ho:OpOK C o) (hC:1≤C.ws.length):((outS s o).left=true→(outS s o).s.word<C.ws.length)∧((outS s o).left=false→(outS s o).s.word=s.word):=by
 have h0:=ho.n.2.2
 unfold outS
 split
 ·rename_i e
  have:=h0 (.inr e)
  exact ⟨fun _=>by show o.n.toNat<_;omega,fun h=>by cases h⟩
 ·split
  ·exact ⟨(fun h=>by cases h),fun _=>rfl⟩
  ·split
   ·exact ⟨(fun h=>by cases h),fun _=>rfl⟩
   ·split
    ·rename_i e
     have:=h0 (.inl e)
     split
     ·exact ⟨fun _=>by show o.n.toNat<_;omega,fun h=>by cases h⟩
     ·exact ⟨(fun h=>by cases h),fun _=>rfl⟩
    ·split
     ·exact ⟨fun _=>by show 0<_;omega,fun h=>by cases h⟩
     ·split<;>exact ⟨(fun h=>by cases h),fun _=>rfl⟩
theorem do_word {C:CodeR} {M:Mac} {sh:List Int} {s:St} {o:OpR} (ho:OpOK C o) (hC:1≤C.ws.length) :
  ((doS M sh s o).left=true→(doS M sh s o).s.word<C.ws.length)∧((doS M sh s o).left=false→(doS M sh s o).s.word=s.word):=by
 unfold doS
 split
 ·exact ⟨(fun h=>by cases h),fun _=>rfl⟩
 ·split
  ·exact ⟨(fun h=>by cases h),fun _=>rfl⟩
  ·unfold bodyS
   split
   ·exact ⟨(fun h=>by cases h),fun _=>mem_word⟩
   ·split
    ·exact out_word ho hC
    ·split
     ·exact ⟨(fun h=>by cases h),fun _=>rfl⟩
     ·exact ⟨(fun h=>by cases h),fun _=>rfl⟩
theorem do_leaves {M:Mac} {sh:List Int} {s:St} {o:OpR} (h:leavesS o=true):(doS M sh s o).trap=true∨(doS M sh s o).left=true:=by
 unfold leavesS at h
 simp only [Bool.and_eq_true,Bool.or_eq_true,beq_iff_eq] at h
 obtain ⟨hg,hk⟩:=h
 unfold doS
 rw [if_neg (by simp [hg]),if_neg (by simp [hg])]
 have h1:isMem o.kd=false:=by rcases hk with (e | e) | e<;>rw [e]<;>rfl
 have h2:isOut o.kd=true:=by rcases hk with (e | e) | e<;>rw [e]<;>rfl
 unfold bodyS
 rw [if_neg (by rw [h1];decide),if_pos h2]
 unfold outS
 have n20:o.kd≠20:=by omega
 have n21:o.kd≠21:=by omega
 rcases hk with (e | e) | e
 ·rw [if_pos e];exact .inr rfl
 ·rw [if_neg (show ¬ o.kd=26 by omega)]
  split
  ·exact .inl rfl
  ·exact .inr rfl
 ·rw [if_neg (show ¬ o.kd=26 by omega)]
  split
  ·exact .inl rfl
  ·rw [if_neg (show ¬ o.kd=27 by omega)];exact .inl rfl
theorem trap_word {C:CodeR} {s:St} {ct n:Int} (hct:-1≤ct∧ct<C.ws.length) (hC:1≤C.ws.length):(trapS C s ct n).word<C.ws.length:=by
 unfold trapS
 split
 ·show 0<_;omega
 ·show ct.toNat<_;omega
theorem ops_word {C:CodeR} {M:Mac} {sh:List Int} {ct:Int} (hct:-1≤ct∧ct<C.ws.length) (hC:1≤C.ws.length):∀ {L:List OpR} {s:St},(∀ o∈L,OpOK C o) →
  (opsS C M sh ct L s).word<C.ws.length∨((opsS C M sh ct L s).word=s.word∧∀ o∈L,leavesS o=false)
 | [],s,_=>.inr ⟨rfl,fun o h=>by cases h⟩
 | o :: L,s,ho=>by
  unfold opsS
  obtain ⟨h1,h2⟩:=do_word (M:=M) (sh:=sh) (s:=s) (ho o (by simp)) hC
  split
  ·exact .inl (trap_word hct hC)
  ·rename_i ht
   split
   ·rename_i hl;exact .inl (h1 hl)
   ·rename_i hl
    have hl2:(doS M sh s o).left=false:=by simpa using hl
    rcases ops_word hct hC (s:=(doS M sh s o).s) (fun q hq=>ho q (List.mem_cons_of_mem _ hq)) with h3 | ⟨h3,h4⟩
    ·exact .inl h3
    ·refine .inr ⟨by rw [h3,h2 hl2],fun q hq=>?_⟩
     rcases List.mem_cons.1 hq with e | e
     ·subst e
      cases hh:leavesS q with
      | false=>rfl
      | true=>rcases do_leaves (M:=M) (sh:=sh) (s:=s) hh with g | g
              ·exact absurd g ht
              ·exact absurd g hl
     ·exact h4 q e
theorem cyc_word {C:CodeR} {M:Mac} {sh:List Int} {s:St} (hC:CodeOK C) (hw:s.word<C.ws.length):(cycS C M sh s).word<C.ws.length:=by
 have hm:=wordAt_mem hw
 show (opsS C M sh _ _ (goS s)).word<_
 rcases ops_word (M:=M) (sh:=sh) (s:=goS s) (hC.ct _ hm) hC.wl.1 (hC.op _ hm) with h | ⟨h1,h2⟩
 ·exact h
 ·rw [h1]
  show s.word+1<_
  by_cases e:s.word+1<C.ws.length
  ·exact e
  ·exfalso
   have hlast:C.ws.getLast? = some (wordAt C s.word):=by
    rw [List.getLast?_eq_getElem?]
    unfold wordAt
    rw [List.getD_eq_getElem?_getD,show C.ws.length - 1=s.word by omega,List.getElem?_eq_getElem hw]
    rfl
   obtain ⟨o,ho,hl⟩:=hC.last _ hlast
   rw [h2 o ho] at hl;cases hl
end Go.Proofs.YtleofbpepfmfgaaGreatDoor
