import Derived.Test.YtleofbpepfmfgaaGreatDoorVxChkF
set_option linter.unusedSimpArgs false
set_option linter.unusedVariables false
set_option maxRecDepth 100000
namespace Go.Proofs.YtleofbpepfmfgaaGreatDoor
open Go Go.Vx
open Go.Vx.IOp Go.Vx.IR Go.Vx.Opd
theorem and32:∀ k:Fin 401,IntKind.u64.wrap (((BitVec.ofInt IntKind.u64.bits ((k.val:Nat):Int)) &&& (BitVec.ofInt IntKind.u64.bits 4294967295)).toNat:Int)=(k.val:Int):=by decide
theorem div32:∀ k:Fin 401,((k.val:Nat):Int).fdiv (2 ^ min (Int.toNat 32) IntKind.u64.bits)=0:=by decide
theorem v8p:∀ k:Fin 401,IntKind.u64.wrap ((k.val:Nat):Int)=(k.val:Int):=by decide
theorem k0e (m:Mem) {n:Nat} (hn:n≤400):q0m Tryz.prog 169 [.int .u64 1,.int .u64 n] m (.tuple ⟨[.int .u64 0,.int .u64 n]⟩):=by
 refine q0e q0d Tryz.func169 j1v rfl ?_
 refine WBnd.mk (by decide) ?_
 refine WBnd.mk (by decide) ?_
 refine WBnd.mk (by decide) ?_
 refine WBnd.mk (by decide) ?_
 refine WBnd.mk (by decide) ?_
 refine WRet.same ⟨?_,rfl⟩
 have a1:=and32 ⟨n,by omega⟩
 have a2:=div32 ⟨n,by omega⟩
 have a3:=v8p ⟨n,by omega⟩
 have a4:IntKind.u64.wrap (((BitVec.ofInt IntKind.u64.bits 1) &&& (BitVec.ofInt IntKind.u64.bits 4294967295)).toNat:Int)=1:=by decide
 have a5:Int.fdiv 1 (2 ^ min (Int.toNat 32) IntKind.u64.bits)=0:=by decide
 have a6:(((BitVec.ofInt IntKind.u64.bits 0) &&& (BitVec.ofInt IntKind.u64.bits 4294967295)).toNat:Int)=0:=by decide
 have a7:IntKind.u64.wrap 0=0:=by decide
 have a8:Int.fdiv 0 (2 ^ min (Int.toNat 32) IntKind.u64.bits)=0:=by decide
 simp only at a1 a2 a3
 simp only [a1,a2,a3,a4,a5,a6,a7,a8,Int.zero_mul,Int.mul_zero,Int.one_mul,Int.add_zero,Int.zero_add]
 rfl
theorem j2s (m:Mem) {n:Nat} (hn:n≤400):q0m Tryz.prog 149 [.int .u64 1,.int .u64 n] m (.tuple ⟨[.int .u64 0,.int .u64 n]⟩):=by
 refine q0e q0d Tryz.func149 w2a rfl ?_
 conv=>whnf
 refine q0a.pure (k0e m hn) ?_
 exact WRet.same ⟨rfl,rfl⟩
theorem q6c.mk' {m:Mem} {sz:Nat} {a:Option Addr} {alen:Nat} {x:Option Addr} {xlen:Nat} {K:Value→Mem→Prop} (new:List Value) (h1:q2v m x (min xlen alen * sz) new) (h2:x=none→min xlen alen=0) (ad:Addr) (ha:a=some ad) (l:List Value) (U:TypeId) (hm:m ad.block=some (Cells l U)) (hs:ad.spot=none) (hb:ad.off+min xlen alen * sz≤l.length) (ho:oneL new=true)
  (k:K (.int .i64 (min xlen alen:Nat)) (m.set ad.block (Cells (q0j l ad.off new) U))):q6c m sz a alen x xlen K:=by
 unfold q6c
 exact ⟨new,h1,h2,.inr ⟨ad,ha,l,U,hm,hs,hb,ho,k⟩⟩
abbrev blk0:List Value:=[ns,i 1,i 0,i 0,i 0,i (-1)]
theorem k3o {m:Mem} {b0 T0:Nat} (h0:m b0=some (Cells blk0 T0)) :
  q0f Tryz.prog 124 [.slice (some ⟨b0,0,none⟩) 1 1,i 1] m fun e m'=>∃ b,e=.returned (.slice (some ⟨b,0,none⟩) 1 1)∧m b=none∧m' b=some (Cells blk0 192)∧Mem.le m m':=by
 refine q0e q0d Tryz.func124 j9u rfl ?_
 refine Br.mk (fun h=>absurd h (by decide)) (fun _=>?_)
 conv=>whnf
 rw [show IntKind.u64.wrap 1=1 from by decide]
 refine q0a.pure (j2s m (n:=1) (by decide)) ?_
 refine WSc.mk (v:=false) (fun _=>And.intro (Mem.le.refl _) rfl) ?_
 refine Br.mk (fun h=>absurd h (by decide)) (fun _=>?_)
 refine WRng.mk (by decide) ?_
 conv=>whnf
 refine q2z.mk (by decide) fun b hb=>?_
 have hne:b≠b0:=fun e=>by subst e;rw [hb] at h0;cases h0
 have l1:Mem.le m (m.set b (Cells (List.replicate (Int.toNat 1) [ns,i 0,i 0,i 0,i 0,i 0]).flatten 192)):=Mem.le_set hb
 conv=>whnf
 refine q6c.mk' blk0 ⟨rfl,fun ad ha=>by cases ha;exact q0g.blk ((l1 _ _ h0)) fun j v hj=>by rw [Nat.zero_add];exact hj⟩ (fun h=>by cases h) ⟨b,0,none⟩ rfl _ _ (Mem.set_same _ _ _) rfl (show (0:Nat)+6≤6 from Nat.le_refl _) rfl ?_
 conv=>whnf
 refine q0v.mk Unit (fun _=>[(8,.val (i 1))]) (fun _ m'=>Mem.le m m'∧m' b=some (Cells blk0 192)) (fun _=>0) () ⟨rfl,trivial⟩ ⟨q2n l1 hb,?_⟩ ?_
 ·rw [Mem.set_same];rfl
 rintro _ m2 ⟨l2,hb2⟩
 refine Br.mk (fun h=>absurd h (by decide)) (fun _=>?_)
 exact WRet.same ⟨b,rfl,hb,hb2,l2⟩
def WAt (m:Mem) (v:Value) (ws:List q3g):Prop:=∃ a c,v=.slice a ws.length c∧(a=none→ws=[])∧(∀ ad,a=some ad→∀ (k:Nat) (hk:k<ws.length),∃ a3 n3 c3,q0g m (ad.add (k * 2)) [.slice a3 n3 c3,i (ws[k]).ct]∧OAt m (.slice a3 n3 c3) (ws[k]).ops)∧ws.length≤c
theorem OAt.mono' {m m':Mem} (h:Mem.le m m') {v:Value} {O:List OpR} (k:OAt m v O):OAt m' v O:=by
 obtain ⟨a,c,e,h0,h1,h2⟩:=k
 exact ⟨a,c,e,h0,fun ad ha=>(h1 ad ha).mono h,h2⟩
theorem WAt.mono {m m':Mem} (h:Mem.le m m') {v:Value} {ws:List q3g} (k:WAt m v ws):WAt m' v ws:=by
 obtain ⟨a,c,e,h0,h1,h2⟩:=k
 refine ⟨a,c,e,h0,fun ad ha q hq=>?_,h2⟩
 obtain ⟨a3,n3,c3,g1,g2⟩:=h1 ad ha q hq
 exact ⟨a3,n3,c3,g1.mono h,g2.mono' h⟩
structure CV where
 a1:Option Addr
 n1:Nat
 c1:Nat
 a2:Option Addr
 n2:Nat
 c2:Nat
def CV.sv (V:CV):Value:=.slice V.a1 V.n1 V.c1
def CV.cells (V:CV) (C:q0c):List Value:=[.slice V.a1 V.n1 V.c1,i C.pr,i C.rg,i C.cd,i C.sp,.slice V.a2 V.n2 V.c2]
def CV.val (V:CV) (C:q0c):Value:=.agg ⟨V.cells C⟩
structure q1q (m:Mem) (V:CV) (C:q0c):Prop where
 sz:IAt m (.slice V.a1 V.n1 V.c1) C.sz
 ws:WAt m (.slice V.a2 V.n2 V.c2) C.ws
 szl:C.sz.length<2 ^ 63
 wsl:C.ws.length<2 ^ 63
theorem q1q.mono {m m':Mem} (h:Mem.le m m') {V:CV} {C:q0c} (k:q1q m V C):q1q m' V C:=⟨IAt.mono h k.sz,k.ws.mono h,k.szl,k.wsl⟩
theorem q1q.n1 {m:Mem} {V:CV} {C:q0c} (k:q1q m V C):V.n1=C.sz.length:=by obtain ⟨_,_,e,_⟩:=k.sz;injection e
theorem q1q.n2 {m:Mem} {V:CV} {C:q0c} (k:q1q m V C):V.n2=C.ws.length:=by obtain ⟨_,_,e,_⟩:=k.ws;injection e
def headV (V:CV) (C:q0c) (b:Nat):Value:=.agg ⟨[.slice V.a1 V.n1 V.c1,i C.pr,i C.rg,i C.cd,i C.sp,.slice (some ⟨b,0,none⟩) 1 1]⟩
theorem v7o (m:Mem) (V:CV) (C:q0c) :
  q0f Tryz.prog 93 [V.val C,i 1] m fun e m'=>∃ b,e=.returned (headV V C b)∧m b=none∧m' b=some (Cells blk0 192)∧Mem.le m m':=by
 refine q0e q0d Tryz.func93 j5b rfl ?_
 refine WNew.mk fun b0 hb0=>?_
 have l1:Mem.le m (m.set b0 (Cells blk0 192)):=Mem.le_set hb0
 conv=>whnf
 refine q0a.mk (k3o (show _=some (Cells blk0 192) from Mem.set_same _ _ _)) ?_
 rintro _ m2 ⟨b,rfl,hb,hc,l2⟩
 have hb:m.set b0 (Cells blk0 192) b=none:=hb
 have l2:Mem.le (m.set b0 (Cells blk0 192)) m2:=l2
 refine WRet.same ⟨b,rfl,?_,hc,l1.trans l2⟩
 cases hh:m b with
 | none=>rfl
 | some o=>rw [l1 b o hh] at hb;cases hb
theorem v3b (m:Mem) (k:Int):q0m Tryz.prog 111 [i k] m (.bool (decide (k≥26)&&decide (k≤28))):=by
 refine q0e q0d Tryz.func111 j2v rfl ?_
 refine WSc.mk (fun _=>And.intro (Mem.le.refl _) rfl) ?_
 exact WRet.same ⟨rfl,rfl⟩
theorem v3t (m:Mem) (a b:Int):q0m Tryz.prog 94 [i a,i b] m (.bool (inB a b)):=by
 refine q0e q0d Tryz.func94 j8d rfl ?_
 refine WSc.mk (fun _=>And.intro (Mem.le.refl _) rfl) ?_
 exact WRet.same ⟨rfl,rfl⟩
theorem q8y (m:Mem) (o:OpR):q0m Tryz.prog 79 [o.val] m (.bool (q2e o)):=by
 refine q0e q0d Tryz.func79 j7y rfl ?_
 conv=>whnf
 refine q0a.pure (v3b _ _) ?_
 refine WSc.mk (fun _=>And.intro (Mem.le.refl _) rfl) ?_
 refine WRet.same ⟨?_,rfl⟩
 have:q2e o=((decide (o.kd≥26)&&decide (o.kd≤28))&&(o.gd==-1)):=by
  unfold q2e
  rw [Bool.eq_iff_iff]
  simp only [Bool.and_eq_true,Bool.or_eq_true,beq_iff_eq,decide_eq_true_eq]
  omega
 rw [this];rfl
theorem z4b {m:Mem} {b:Nat} {V:CV} {C:q0c} (hb:m b=some (Cells (V.cells C) 25)) (x:Int):q0m Tryz.prog 151 ([]++[i x]++[ptr b]) m (.bool (q1i C.rg x)):=by
 refine q0e q0d Tryz.func151 k4u rfl ?_
 refine WLd.mk (i C.rg) ⟨_,_,_,hb,rfl,rfl⟩ ?_
 conv=>whnf
 refine q0a.pure (v3t _ _ _) ?_
 refine WRet.same ⟨?_,rfl⟩
 have:q1i C.rg x=!inB x C.rg:=by
  unfold q1i inB
  rw [Bool.eq_iff_iff]
  simp only [Bool.or_eq_true,Bool.not_eq_true',Bool.and_eq_false_iff,decide_eq_true_eq,decide_eq_false_iff_not]
  omega
 rw [this];rfl
abbrev z0s (m:Mem) (bc:Nat) (V:CV) (C:q0c):Prop:=m bc=some (Cells (V.cells C) 25)
def ownL (o:OpR):List Int:=(if o.gd=-1 then [] else [o.gd])++(if o.kd=26 then [] else [o.a])
def ownE (C:q0c) (o:OpR):Int :=
 if (ownL o).any (q1i C.rg)=true then 2
 else if (o.kd==26&&(decide (o.n<0)||decide (o.n≥C.ws.length)))=true then 5
 else if ((((o.ds != 0||o.b != 0)||o.c != 0)||(o.kd==26&&o.a != 0))||(o.kd != 26&&o.n != 0))=true then 4 else 0
theorem j1x {C:q0c} {o:OpR} (hk:26≤o.kd∧o.kd≤28):ownE C o=q1t C o:=by
 have h3:o.kd=26∨o.kd=27∨o.kd=28:=by omega
 have hD:uD o.kd=false:=by rcases h3 with e | e | e<;>rw [e]<;>rfl
 have hB:uB o.kd=false:=by rcases h3 with e | e | e<;>rw [e]<;>rfl
 have hC:uC o.kd=false:=by rcases h3 with e | e | e<;>rw [e]<;>rfl
 have hA:uA o.kd=(o.kd != 26):=by rcases h3 with e | e | e<;>rw [e]<;>rfl
 have hN:uN o.kd=(o.kd==26):=by rcases h3 with e | e | e<;>rw [e]<;>rfl
 have h1:(o.kd != 1)=true:=by simp;omega
 unfold ownE q1t
 rw [if_neg (show ¬ (o.kd<1∨o.kd>28) by omega),hD,hB,hC,hA,hN,h1]
 have e1:(ownL o).any (q1i C.rg)=(((((false&&q1i C.rg o.ds)||(o.kd != 26&&q1i C.rg o.a))||(false&&q1i C.rg o.b))||(false&&q1i C.rg o.c))||(o.gd != -1&&q1i C.rg o.gd)):=by
  unfold ownL
  rw [List.any_append]
  have hg:(o.gd != -1)=!(o.gd==-1):=rfl
  have hk2:(o.kd != 26)=!(o.kd==26):=rfl
  rw [hg,hk2]
  by_cases g:o.gd=-1
  ·have g':(o.gd==-1)=true:=by simpa using g
   by_cases k:o.kd=26
   ·have k':(o.kd==26)=true:=by simpa using k
    rw [if_pos g,if_pos k,g',k'];rfl
   ·have k':(o.kd==26)=false:=by simpa using k
    rw [if_pos g,if_neg k,g',k'];simp
  ·have g':(o.gd==-1)=false:=by simpa using g
   by_cases k:o.kd=26
   ·have k':(o.kd==26)=true:=by simpa using k
    rw [if_neg g,if_pos k,g',k'];simp
   ·have k':(o.kd==26)=false:=by simpa using k
    rw [if_neg g,if_neg k,g',k'];simp [Bool.or_comm]
 rw [e1]
 have e2:((o.kd==26)&&true&&(decide (o.n<0)||decide (o.n≥q2m C o.kd)))=(o.kd==26&&(decide (o.n<0)||decide (o.n≥C.ws.length))):=by
  by_cases k:o.kd=26
  ·have:q2m C o.kd=C.ws.length:=by unfold q2m;rw [if_neg (by omega),if_neg (by omega),if_pos (by omega)]
   rw [this,Bool.and_true]
  ·have k':(o.kd==26)=false:=by simpa using k
   rw [k'];rfl
 rw [e2]
 have e3:((((!false&&o.ds != 0)||(!(o.kd != 26)&&o.a != 0))||(!false&&o.b != 0))||(!false&&o.c != 0)||(!(o.kd==26)&&o.n != 0))=((((o.ds != 0||o.b != 0)||o.c != 0)||(o.kd==26&&o.a != 0))||(o.kd != 26&&o.n != 0)):=by
  have hk2:(o.kd != 26)=!(o.kd==26):=rfl
  rw [hk2]
  generalize (o.kd==26)=q1
  generalize (o.ds != 0)=q2
  generalize (o.a != 0)=q3
  generalize (o.b != 0)=q4
  generalize (o.c != 0)=q5
  generalize (o.n != 0)=q6
  cases q1<;>cases q2<;>cases q3<;>cases q4<;>cases q5<;>cases q6<;>rfl
 rw [e3]
theorem j3n {m:Mem} (V:CV) {C:q0c} (hV:q1q m V C) (o:OpR) :
  q0f Tryz.prog 125 [V.val C,o.val] m fun e m'=>e=.returned (i (ownE C o))∧Mem.le m m':=by
 refine q0e q0d Tryz.func125 j6g rfl ?_
 refine WNew.mk fun bc hbc=>?_
 have l1:Mem.le m (m.set bc (Cells (V.cells C) 25)):=Mem.le_set hbc
 have c1:z0s (m.set bc (Cells (V.cells C) 25)) bc V C:=Mem.set_same _ _ _
 have e1:m.set bc (Cells (q0k (V.val C)) 25)=m.set bc (Cells (V.cells C) 25):=rfl
 rw [e1]
 generalize m.set bc (Cells (V.cells C) 25)=m1 at *
 refine WNew.mk fun b6 hb6=>?_
 have l2:Mem.le m1 (m1.set b6 (Cells [] 3)):=Mem.le_set hb6
 have p2:q1s m1 (m1.set b6 (Cells [] 3)) (some ⟨b6,0,none⟩) 0 []:=.inr ⟨b6,rfl,Nat.le_refl _,hb6,Mem.set_same _ _ _⟩
 generalize m1.set b6 (Cells [] 3)=m2 at *
 have l02:Mem.le m1 m2:=l2
 have c2:z0s m2 bc V C:=l2 _ _ c1
 have keepC:∀ m',Mem.le m1 m'→z0s m' bc V C:=fun m' h=>h _ _ c1
 -- OWN (printed by wrdown.py)
 refine Br.mk (fun hg=>?_) (fun hg=>?_)
 ·have hg:o.gd≠-1:=by simpa using hg
  refine WNew.mk fun bx3 hbx3=>?_
  conv=>whnf
  refine q4a (L:=[]) (z:=o.gd) ((l02).trans (Mem.le_set hbx3)) ((p2).mono (Mem.le_set hbx3)) (Mem.set_same _ _ _) rfl (by simp) fun a3 cc3 m3 l3 p3=>?_
  have c3:z0s m3 bc V C:=keepC m3 l3
  refine Br.mk (fun hk=>?_) (fun hk=>?_)
  ·have hk:o.kd≠26:=by simpa using hk
   refine WNew.mk fun bx4 hbx4=>?_
   conv=>whnf
   refine q4a (L:=[o.gd]) (z:=o.a) ((l3).trans (Mem.le_set hbx4)) ((p3).mono (Mem.le_set hbx4)) (Mem.set_same _ _ _) rfl (by simp) fun a4 cc4 m4 l4 p4=>?_
   have c4:z0s m4 bc V C:=keepC m4 l4
   have hL:ownL o=[o.gd]++[o.a]:=by unfold ownL;rw [if_neg hg,if_neg hk]
   conv=>whnf
   refine q0a.pure (z1q (first:=[]) (caps:=[ptr bc]) (p4).iat (by simp) (q1i C.rg) (fun x _=>z4b c4 x)) ?_
   rw [← hL]
   refine Br.mk (fun hb=>?_) (fun g1=>?_)
   ·have hb:(ownL o).any (q1i C.rg)=true:=hb
    exact WRet.same ⟨by unfold ownE;rw [if_pos hb];rfl,l1.trans (l4)⟩
   have g1:(ownL o).any (q1i C.rg)=false:=g1
   refine WSc.mk (v:=decide (o.n<0)||decide (o.n≥C.ws.length)) (fun _=>?_) ?_
   ·refine WSc.mk (v:=decide (o.n≥C.ws.length)) (fun _=>?_) ?_
    ·refine WLd.mk (.slice V.a2 V.n2 V.c2) ⟨_,_,_,c4,rfl,rfl⟩ ?_
     rw [hV.n2]
     exact And.intro (Mem.le.refl _) rfl
    conv=>whnf
    exact And.intro (Mem.le.refl _) rfl
   refine Br.mk (fun hb=>?_) (fun g2=>?_)
   ·exact WRet.same ⟨by unfold ownE;rw [if_neg (by rw [g1];decide),if_pos (show (o.kd==26&&(decide (o.n<0)||decide (o.n≥C.ws.length)))=true from hb)];rfl,l1.trans (l4)⟩
   have g2:(o.kd==26&&(decide (o.n<0)||decide (o.n≥C.ws.length)))=false:=g2
   refine WSc.mk (fun _=>And.intro (Mem.le.refl _) rfl) ?_
   refine WSc.mk (fun _=>And.intro (Mem.le.refl _) rfl) ?_
   refine WSc.mk (v:=o.kd==26&&o.a != 0) (fun _=>?_) ?_
   ·refine WSc.mk (fun _=>And.intro (Mem.le.refl _) rfl) ?_
    conv=>whnf
    exact And.intro (Mem.le.refl _) rfl
   refine WSc.mk (v:=o.kd != 26&&o.n != 0) (fun _=>?_) ?_
   ·refine WSc.mk (fun _=>And.intro (Mem.le.refl _) rfl) ?_
    conv=>whnf
    exact And.intro (Mem.le.refl _) rfl
   refine Br.mk (fun hb=>?_) (fun g3=>?_)
   ·exact WRet.same ⟨by unfold ownE;rw [if_neg (by rw [g1];decide),if_neg (by rw [g2];decide),if_pos (show ((((o.ds != 0||o.b != 0)||o.c != 0)||(o.kd==26&&o.a != 0))||(o.kd != 26&&o.n != 0))=true from hb)];rfl,l1.trans (l4)⟩
   have g3:((((o.ds != 0||o.b != 0)||o.c != 0)||(o.kd==26&&o.a != 0))||(o.kd != 26&&o.n != 0))=false:=g3
   exact WRet.same ⟨by unfold ownE;rw [if_neg (by rw [g1];decide),if_neg (by rw [g2];decide),if_neg (by rw [g3];decide)];rfl,l1.trans (l4)⟩
  ·have hk:o.kd=26:=by simpa using hk
   have hL:ownL o=[o.gd]:=by unfold ownL;rw [if_neg hg,if_pos hk];rfl
   conv=>whnf
   refine q0a.pure (z1q (first:=[]) (caps:=[ptr bc]) (p3).iat (by simp) (q1i C.rg) (fun x _=>z4b c3 x)) ?_
   rw [← hL]
   refine Br.mk (fun hb=>?_) (fun g1=>?_)
   ·have hb:(ownL o).any (q1i C.rg)=true:=hb
    exact WRet.same ⟨by unfold ownE;rw [if_pos hb];rfl,l1.trans (l3)⟩
   have g1:(ownL o).any (q1i C.rg)=false:=g1
   refine WSc.mk (v:=decide (o.n<0)||decide (o.n≥C.ws.length)) (fun _=>?_) ?_
   ·refine WSc.mk (v:=decide (o.n≥C.ws.length)) (fun _=>?_) ?_
    ·refine WLd.mk (.slice V.a2 V.n2 V.c2) ⟨_,_,_,c3,rfl,rfl⟩ ?_
     rw [hV.n2]
     exact And.intro (Mem.le.refl _) rfl
    conv=>whnf
    exact And.intro (Mem.le.refl _) rfl
   refine Br.mk (fun hb=>?_) (fun g2=>?_)
   ·exact WRet.same ⟨by unfold ownE;rw [if_neg (by rw [g1];decide),if_pos (show (o.kd==26&&(decide (o.n<0)||decide (o.n≥C.ws.length)))=true from hb)];rfl,l1.trans (l3)⟩
   have g2:(o.kd==26&&(decide (o.n<0)||decide (o.n≥C.ws.length)))=false:=g2
   refine WSc.mk (fun _=>And.intro (Mem.le.refl _) rfl) ?_
   refine WSc.mk (fun _=>And.intro (Mem.le.refl _) rfl) ?_
   refine WSc.mk (v:=o.kd==26&&o.a != 0) (fun _=>?_) ?_
   ·refine WSc.mk (fun _=>And.intro (Mem.le.refl _) rfl) ?_
    conv=>whnf
    exact And.intro (Mem.le.refl _) rfl
   refine WSc.mk (v:=o.kd != 26&&o.n != 0) (fun _=>?_) ?_
   ·refine WSc.mk (fun _=>And.intro (Mem.le.refl _) rfl) ?_
    conv=>whnf
    exact And.intro (Mem.le.refl _) rfl
   refine Br.mk (fun hb=>?_) (fun g3=>?_)
   ·exact WRet.same ⟨by unfold ownE;rw [if_neg (by rw [g1];decide),if_neg (by rw [g2];decide),if_pos (show ((((o.ds != 0||o.b != 0)||o.c != 0)||(o.kd==26&&o.a != 0))||(o.kd != 26&&o.n != 0))=true from hb)];rfl,l1.trans (l3)⟩
   have g3:((((o.ds != 0||o.b != 0)||o.c != 0)||(o.kd==26&&o.a != 0))||(o.kd != 26&&o.n != 0))=false:=g3
   exact WRet.same ⟨by unfold ownE;rw [if_neg (by rw [g1];decide),if_neg (by rw [g2];decide),if_neg (by rw [g3];decide)];rfl,l1.trans (l3)⟩
 ·have hg:o.gd=-1:=by simpa using hg
  refine Br.mk (fun hk=>?_) (fun hk=>?_)
  ·have hk:o.kd≠26:=by simpa using hk
   refine WNew.mk fun bx4 hbx4=>?_
   conv=>whnf
   refine q4a (L:=[]) (z:=o.a) ((l02).trans (Mem.le_set hbx4)) ((p2).mono (Mem.le_set hbx4)) (Mem.set_same _ _ _) rfl (by simp) fun a4 cc4 m4 l4 p4=>?_
   have c4:z0s m4 bc V C:=keepC m4 l4
   have hL:ownL o=[]++[o.a]:=by unfold ownL;rw [if_pos hg,if_neg hk]
   conv=>whnf
   refine q0a.pure (z1q (first:=[]) (caps:=[ptr bc]) (p4).iat (by simp) (q1i C.rg) (fun x _=>z4b c4 x)) ?_
   rw [← hL]
   refine Br.mk (fun hb=>?_) (fun g1=>?_)
   ·have hb:(ownL o).any (q1i C.rg)=true:=hb
    exact WRet.same ⟨by unfold ownE;rw [if_pos hb];rfl,l1.trans (l4)⟩
   have g1:(ownL o).any (q1i C.rg)=false:=g1
   refine WSc.mk (v:=decide (o.n<0)||decide (o.n≥C.ws.length)) (fun _=>?_) ?_
   ·refine WSc.mk (v:=decide (o.n≥C.ws.length)) (fun _=>?_) ?_
    ·refine WLd.mk (.slice V.a2 V.n2 V.c2) ⟨_,_,_,c4,rfl,rfl⟩ ?_
     rw [hV.n2]
     exact And.intro (Mem.le.refl _) rfl
    conv=>whnf
    exact And.intro (Mem.le.refl _) rfl
   refine Br.mk (fun hb=>?_) (fun g2=>?_)
   ·exact WRet.same ⟨by unfold ownE;rw [if_neg (by rw [g1];decide),if_pos (show (o.kd==26&&(decide (o.n<0)||decide (o.n≥C.ws.length)))=true from hb)];rfl,l1.trans (l4)⟩
   have g2:(o.kd==26&&(decide (o.n<0)||decide (o.n≥C.ws.length)))=false:=g2
   refine WSc.mk (fun _=>And.intro (Mem.le.refl _) rfl) ?_
   refine WSc.mk (fun _=>And.intro (Mem.le.refl _) rfl) ?_
   refine WSc.mk (v:=o.kd==26&&o.a != 0) (fun _=>?_) ?_
   ·refine WSc.mk (fun _=>And.intro (Mem.le.refl _) rfl) ?_
    conv=>whnf
    exact And.intro (Mem.le.refl _) rfl
   refine WSc.mk (v:=o.kd != 26&&o.n != 0) (fun _=>?_) ?_
   ·refine WSc.mk (fun _=>And.intro (Mem.le.refl _) rfl) ?_
    conv=>whnf
    exact And.intro (Mem.le.refl _) rfl
   refine Br.mk (fun hb=>?_) (fun g3=>?_)
   ·exact WRet.same ⟨by unfold ownE;rw [if_neg (by rw [g1];decide),if_neg (by rw [g2];decide),if_pos (show ((((o.ds != 0||o.b != 0)||o.c != 0)||(o.kd==26&&o.a != 0))||(o.kd != 26&&o.n != 0))=true from hb)];rfl,l1.trans (l4)⟩
   have g3:((((o.ds != 0||o.b != 0)||o.c != 0)||(o.kd==26&&o.a != 0))||(o.kd != 26&&o.n != 0))=false:=g3
   exact WRet.same ⟨by unfold ownE;rw [if_neg (by rw [g1];decide),if_neg (by rw [g2];decide),if_neg (by rw [g3];decide)];rfl,l1.trans (l4)⟩
  ·have hk:o.kd=26:=by simpa using hk
   have hL:ownL o=[]:=by unfold ownL;rw [if_pos hg,if_pos hk];rfl
   conv=>whnf
   refine q0a.pure (z1q (first:=[]) (caps:=[ptr bc]) (p2).iat (by simp) (q1i C.rg) (fun x _=>z4b c2 x)) ?_
   rw [← hL]
   refine Br.mk (fun hb=>?_) (fun g1=>?_)
   ·have hb:(ownL o).any (q1i C.rg)=true:=hb
    exact WRet.same ⟨by unfold ownE;rw [if_pos hb];rfl,l1.trans (l02)⟩
   have g1:(ownL o).any (q1i C.rg)=false:=g1
   refine WSc.mk (v:=decide (o.n<0)||decide (o.n≥C.ws.length)) (fun _=>?_) ?_
   ·refine WSc.mk (v:=decide (o.n≥C.ws.length)) (fun _=>?_) ?_
    ·refine WLd.mk (.slice V.a2 V.n2 V.c2) ⟨_,_,_,c2,rfl,rfl⟩ ?_
     rw [hV.n2]
     exact And.intro (Mem.le.refl _) rfl
    conv=>whnf
    exact And.intro (Mem.le.refl _) rfl
   refine Br.mk (fun hb=>?_) (fun g2=>?_)
   ·exact WRet.same ⟨by unfold ownE;rw [if_neg (by rw [g1];decide),if_pos (show (o.kd==26&&(decide (o.n<0)||decide (o.n≥C.ws.length)))=true from hb)];rfl,l1.trans (l02)⟩
   have g2:(o.kd==26&&(decide (o.n<0)||decide (o.n≥C.ws.length)))=false:=g2
   refine WSc.mk (fun _=>And.intro (Mem.le.refl _) rfl) ?_
   refine WSc.mk (fun _=>And.intro (Mem.le.refl _) rfl) ?_
   refine WSc.mk (v:=o.kd==26&&o.a != 0) (fun _=>?_) ?_
   ·refine WSc.mk (fun _=>And.intro (Mem.le.refl _) rfl) ?_
    conv=>whnf
    exact And.intro (Mem.le.refl _) rfl
   refine WSc.mk (v:=o.kd != 26&&o.n != 0) (fun _=>?_) ?_
   ·refine WSc.mk (fun _=>And.intro (Mem.le.refl _) rfl) ?_
    conv=>whnf
    exact And.intro (Mem.le.refl _) rfl
   refine Br.mk (fun hb=>?_) (fun g3=>?_)
   ·exact WRet.same ⟨by unfold ownE;rw [if_neg (by rw [g1];decide),if_neg (by rw [g2];decide),if_pos (show ((((o.ds != 0||o.b != 0)||o.c != 0)||(o.kd==26&&o.a != 0))||(o.kd != 26&&o.n != 0))=true from hb)];rfl,l1.trans (l02)⟩
   have g3:((((o.ds != 0||o.b != 0)||o.c != 0)||(o.kd==26&&o.a != 0))||(o.kd != 26&&o.n != 0))=false:=g3
   exact WRet.same ⟨by unfold ownE;rw [if_neg (by rw [g1];decide),if_neg (by rw [g2];decide),if_neg (by rw [g3];decide)];rfl,l1.trans (l02)⟩
 -- END OWN
end Go.Proofs.YtleofbpepfmfgaaGreatDoor
