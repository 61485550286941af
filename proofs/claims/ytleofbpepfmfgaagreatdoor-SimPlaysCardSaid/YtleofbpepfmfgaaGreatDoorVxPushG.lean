import Derived.Test.YtleofbpepfmfgaaGreatDoorVxRefWrd
set_option linter.unusedSimpArgs false
set_option linter.unusedVariables false
set_option maxRecDepth 100000
namespace Go.Proofs.YtleofbpepfmfgaaGreatDoor
open Go Go.Vx
open Go.Vx.IOp Go.Vx.IR Go.Vx.Opd
def z6v (ws:List q3g) (k:Nat):Bool:=match k with | 0=>false | k+1=>(match ws[k]? with | some w=>w.ops.any q2e | none=>false)
theorem v8c {m:Mem} (V:CV) {C:q0c} (hV:q1q m V C):q0m Tryz.prog 53 [V.val C] m (i (q3n C)):=by
 refine q0e q0d Tryz.func53 w2n rfl ?_
 have hn1:=hV.n1
 have hn2:=hV.n2
 have hszl:=hV.szl
 have hwsl:=hV.wsl
 obtain ⟨a1',c1',e1,hs0,hs1,hs2⟩:=hV.sz
 have ea1:V.a1=a1':=by injection e1
 subst ea1
 obtain ⟨a2',c2',e2,hw0,hw1,hw2⟩:=hV.ws
 have ea2:V.a2=a2':=by injection e2
 subst ea2
 refine WSc.mk (fun _=>And.intro (Mem.le.refl _) rfl) ?_
 refine WSc.mk (fun _=>And.intro (Mem.le.refl _) rfl) ?_
 rw [hn1]
 refine Br.mk (fun hb=>?_) (fun hb=>?_)
 ·have hc:q3c C=3:=by
   unfold q3c
   rw [if_pos]
   simp only [scB,Bool.or_eq_true,decide_eq_true_eq] at hb
   omega
  exact WRet.same ⟨by unfold q3n;rw [if_pos (by rw [hc];decide),hc];rfl,rfl⟩
 have hc1:¬ (C.sz.length>16∨C.rg>4096∨C.sp>4096):=by
  simp only [scB,Bool.or_eq_false_iff,decide_eq_false_iff_not] at hb
  omega
 conv=>whnf
 refine q0v.mk Nat (fun k=>[(3,.val (i k))]) (fun k m'=>m=m'∧k≤C.sz.length∧∀ j (hj:j<C.sz.length),j<k→z1j C.sz[j]=false) (fun k=>C.sz.length - k) 0
  ⟨rfl,trivial⟩ ⟨rfl,Nat.zero_le _,fun j hj h=>by omega⟩ ?_
 rintro k m' ⟨rfl,hk,hq⟩
 conv=>whnf
 rw [hn1]
 refine Br.mk (fun hb2=>?_) (fun hb2=>?_)
 ·have hk2:k<C.sz.length:=by
   have:(k:Int)<C.sz.length:=of_decide_eq_true hb2
   omega
  obtain ⟨ad,had⟩:∃ ad,V.a1=some ad:=by
   cases hh:V.a1 with
   | none=>rw [hs0 hh] at hk2;simp at hk2
   | some ad=>exact ⟨ad,rfl⟩
  have hcell:=IAt.cell (hs1 ad had) hk2
  conv=>whnf
  rw [hn1]
  refine WIdx.mk ad had ⟨by omega,by omega⟩ ?_
  refine WLd.mk (i C.sz[k]) (by simpa using hcell) ?_
  refine WSc.mk (v:=decide (C.sz[k]>65536)) (fun _=>?_) ?_
  ·conv=>whnf
   rw [hn1]
   refine WIdx.mk ad had ⟨by omega,by omega⟩ ?_
   refine WLd.mk (i C.sz[k]) (by simpa using hcell) ?_
   exact And.intro (Mem.le.refl _) rfl
  refine Br.mk (fun hb3=>?_) (fun hb3=>?_)
  ·have hc:q3c C=2:=by
    unfold q3c
    rw [if_neg hc1,if_pos (List.any_eq_true.2 ⟨C.sz[k],List.getElem_mem hk2,hb3⟩)]
   exact WRet.same ⟨by unfold q3n;rw [if_pos (by rw [hc];decide),hc];rfl,rfl⟩
  ·refine WRng.mk (by apply wrap_i64<;>omega) ?_
   conv=>whnf
   refine ⟨k+1,⟨rfl,trivial⟩,⟨rfl,hk2,fun j hj h=>?_⟩,by omega⟩
   by_cases e:j=k
   ·subst e;exact hb3
   ·exact hq j hj (by omega)
 have hk2:k=C.sz.length:=by
  have:¬ (k:Int)<C.sz.length:=of_decide_eq_false hb2
  omega
 subst hk2
 have g2:(C.sz.any fun n=>decide (n<1)||decide (n>65536))=false:=by
  rw [List.any_eq_false]
  intro x hx h
  obtain ⟨q,hq2,rfl⟩:=List.getElem_of_mem hx
  have:=hq q hq2 hq2
  unfold z1j at this
  rw [this] at h;cases h
 refine WSc.mk (fun _=>And.intro (Mem.le.refl _) rfl) ?_
 refine WSc.mk (fun _=>And.intro (Mem.le.refl _) rfl) ?_
 refine WSc.mk (fun _=>And.intro (Mem.le.refl _) rfl) ?_
 refine WSc.mk (fun _=>And.intro (Mem.le.refl _) rfl) ?_
 refine WSc.mk (fun _=>And.intro (Mem.le.refl _) rfl) ?_
 refine WSc.mk (fun _=>And.intro (Mem.le.refl _) rfl) ?_
 refine Br.mk (fun hb3=>?_) (fun hb3=>?_)
 ·have hc:q3c C=2:=by
   unfold q3c
   rw [if_neg hc1,if_neg (by rw [g2];decide),if_pos]
   simp only [scB,Bool.or_eq_true,decide_eq_true_eq] at hb3
   omega
  exact WRet.same ⟨by unfold q3n;rw [if_pos (by rw [hc];decide),hc];rfl,rfl⟩
 have h0:q3c C=0:=by
  unfold q3c
  rw [if_neg hc1,if_neg (by rw [g2];decide),if_neg]
  simp only [scB,Bool.or_eq_false_iff,decide_eq_false_iff_not] at hb3
  omega
 refine WSc.mk (fun _=>And.intro (Mem.le.refl _) rfl) ?_
 rw [hn2]
 refine Br.mk (fun hb4=>?_) (fun hb4=>?_)
 ·refine WRet.same ⟨?_,rfl⟩
  have:C.ws.length=0∨C.ws.length>60000:=by
   simp only [scB,Bool.or_eq_true,beq_iff_eq,decide_eq_true_eq] at hb4
   omega
  unfold q3n;rw [if_neg (by rw [h0];decide),if_pos this];rfl
 have hlen:¬ (C.ws.length=0∨C.ws.length>60000):=by
  simp only [scB,Bool.or_eq_false_iff,beq_eq_false_iff_ne,decide_eq_false_iff_not] at hb4
  omega
 have hcode:q3n C=if q3d (C.ws.map (q2d C))≠0 then q3d (C.ws.map (q2d C)) else if q5s C.ws=false then 4 else if q6p C.ws>80000 then 3 else 0:=by
  unfold q3n;rw [if_neg (by rw [h0];decide),if_neg hlen]
 have stop:∀ {k:Nat} (hk:k<C.ws.length),(∀ j (hj:j<C.ws.length),j<k→q2d C C.ws[j]=0)→∀ (e:Int),q2d C C.ws[k]=e→e≠0→q3n C=e:=fun {k} hk hq e h1 h2=>by
  have hf:q3d (C.ws.map (q2d C))=e:=by
   rw [z0w (L:=C.ws.map (q2d C)) (k:=k) (by simpa using hk) (fun j hj hjk=>by simpa using hq j (by simpa using hj) hjk) (by simpa using fun h=>h2 (h1.symm.trans h))]
   simpa using h1
  rw [hcode,hf,if_pos h2]
 clear hb2 hb3 hb4 hq hk
 conv=>whnf
 refine q0v.mk Nat (fun k=>[(4,.val (i (q5u C.ws k))),(5,.val (.bool (z6v C.ws k))),(6,.val (i k))]) (fun k m'=>m=m'∧k≤C.ws.length∧∀ j (hj:j<C.ws.length),j<k→q2d C C.ws[j]=0) (fun k=>C.ws.length - k) 0
  ⟨rfl,rfl,rfl,trivial⟩ ⟨rfl,Nat.zero_le _,fun j hj h=>by omega⟩ ?_
 rintro k m' ⟨rfl,hk,hq⟩
 have h400:∀ j (hj:j<C.ws.length),j<k→(C.ws[j]).ops.length≤400:=fun j hj hjk=>by
  have:=hq j hj hjk
  unfold q2d at this
  split at this
  ·exact absurd this (by decide)
  ·split at this
   ·exact absurd this (by decide)
   ·omega
 have hle400:=v2p hk h400
 conv=>whnf
 rw [hn2]
 refine Br.mk (fun hb2=>?_) (fun hb2=>?_)
 ·have hk2:k<C.ws.length:=by
   have:(k:Int)<C.ws.length:=of_decide_eq_true hb2
   omega
  obtain ⟨ad,had⟩:∃ ad,V.a2=some ad:=by
   cases hh:V.a2 with
   | none=>rw [hw0 hh] at hk2;simp at hk2
   | some ad=>exact ⟨ad,rfl⟩
  obtain ⟨a3,n3,c3,g1,g2⟩:=hw1 ad had k hk2
  have hn3:n3=(C.ws[k]).ops.length:=by obtain ⟨_,_,e,_⟩:=g2;injection e
  have hst:=stop hk2 hq
  refine WIdx.mk ad had ⟨by omega,by omega⟩ ?_
  refine WLds.mk [.slice a3 n3 c3,i (C.ws[k]).ct] (by simpa using g1) rfl ?_
  generalize hwk:C.ws[k]=w at *
  refine WSc.mk (v:=decide (w.ct≥C.ws.length)) (fun _=>?_) ?_
  ·conv=>whnf
   rw [hn2]
   exact And.intro (Mem.le.refl _) rfl
  refine Br.mk (fun hb3=>?_) (fun hb3=>?_)
  ·have hw:q2d C w=2:=by
    unfold q2d
    rw [if_pos]
    simp only [scB,Bool.or_eq_true,decide_eq_true_eq] at hb3
    omega
   exact WRet.same ⟨by rw [hst _ hw (by decide)];rfl,rfl⟩
  have hct:¬ (w.ct < -1∨w.ct≥C.ws.length):=by
   simp only [scB,Bool.or_eq_false_iff,decide_eq_false_iff_not] at hb3
   omega
  refine Br.mk (fun hb4=>?_) (fun hb4=>?_)
  ·have hw:q2d C w=3:=by
    unfold q2d
    have:(n3:Int)>400:=of_decide_eq_true hb4
    rw [if_neg hct,if_pos (by omega)]
   exact WRet.same ⟨by rw [hst _ hw (by decide)];rfl,rfl⟩
  have ho4:w.ops.length≤400:=by
   have:¬ (n3:Int)>400:=of_decide_eq_false hb4
   omega
  have hwc:q2d C w=q3d (w.ops.map (q1t C)):=by unfold q2d;rw [if_neg hct,if_neg (by omega)]
  subst hn3
  conv=>whnf
  refine q0v.mk Nat (fun j=>[(5,.val (.bool ((w.ops.take j).any q2e))),(8,.val (i j))]) (fun j m'=>m=m'∧j≤w.ops.length∧∀ q (hq:q<w.ops.length),q<j→q1t C w.ops[q]=0) (fun j=>w.ops.length - j) 0
   ⟨rfl,rfl,trivial⟩ ⟨rfl,Nat.zero_le _,fun q hq h=>by omega⟩ ?_
  rintro j m' ⟨rfl,hj,hq3⟩
  refine Br.mk (fun hb5=>?_) (fun hb5=>?_)
  ·have hj2:j<w.ops.length:=by
    have:(j:Int)<w.ops.length:=of_decide_eq_true hb5
    omega
   obtain ⟨a3',c3',e3,hx0,hx1,_⟩:=g2
   have e3a:a3=a3':=by injection e3
   subst e3a
   obtain ⟨ad3,rfl⟩:∃ ad,a3=some ad:=by
    cases a3 with
    | none=>rw [hx0 rfl] at hj2;simp at hj2
    | some ad=>exact ⟨ad,rfl⟩
   have hcells:=OAt.cells (hx1 ad3 rfl) hj2
   refine WIdx.mk ad3 rfl ⟨by omega,by simpa using hj2⟩ ?_
   refine WLds.mk (w.ops[j]).cells (by simpa using hcells) rfl ?_
   conv=>whnf
   refine ⟨?_,trivial⟩
   conv=>whnf
   refine q0a.pure (w4o V hV w.ops[j]) ?_
   refine Br.mk (fun hb6=>?_) (fun hb6=>?_)
   ·have hne:q1t C w.ops[j]≠0:=by simpa using hb6
    have hw:q2d C w=q1t C w.ops[j]:=by
     rw [hwc,z0w (L:=w.ops.map (q1t C)) (k:=j) (by simpa using hj2) (fun q hq hqj=>by simpa using hq3 q (by simpa using hq) hqj) (by simpa using hne)]
     simp
    exact WRet.same ⟨by rw [hst _ hw hne];rfl,rfl⟩
   ·have hz:q1t C w.ops[j]=0:=by simpa using hb6
    have hany:(w.ops.take (j+1)).any q2e=((w.ops.take j).any q2e||q2e w.ops[j]):=by rw [List.take_succ_eq_append_getElem hj2,List.any_append];simp
    refine WSc.mk (v:=q2e w.ops[j]) (fun _=>?_) ?_
    ·refine WIdx.mk ad3 rfl ⟨by omega,by simpa using hj2⟩ ?_
     refine WLds.mk (w.ops[j]).cells (by simpa using hcells) rfl ?_
     conv=>whnf
     refine q0a.pure (w4c _ w.ops[j]) ?_
     exact And.intro (Mem.le.refl _) rfl
    refine WRng.mk (by apply wrap_i64<;>omega) ?_
    conv=>whnf
    refine ⟨j+1,⟨by rw [hany];rfl,rfl,trivial⟩,⟨rfl,hj2,fun q hq h=>?_⟩,by omega⟩
    by_cases e:q=j
    ·subst e;exact hz
    ·exact hq3 q hq (by omega)
  ·have hj2:j=w.ops.length:=by
    have:¬ (j:Int)<w.ops.length:=of_decide_eq_false hb5
    omega
   subst hj2
   have hz:q2d C w=0:=by
    rw [hwc]
    refine q8x.2 fun x hx=>?_
    obtain ⟨o,ho,rfl⟩:=List.mem_map.1 hx
    obtain ⟨q,hq,rfl⟩:=List.getElem_of_mem ho
    exact hq3 q hq hq
   have hsum:q5u C.ws (k+1)=q5u C.ws k+w.ops.length:=by rw [z6r hk2,hwk]
   have hlv:z6v C.ws (k+1)=(w.ops.take w.ops.length).any q2e:=by
    show (match C.ws[k]? with | some w=>w.ops.any q2e | none=>false)=_
    rw [List.getElem?_eq_getElem hk2,hwk,List.take_length]
   refine WRng.mk (by apply wrap_i64<;>omega) ?_
   refine WRng.mk (by apply wrap_i64<;>omega) ?_
   conv=>whnf
   refine ⟨k+1,⟨?_,?_,rfl,trivial⟩,⟨rfl,hk2,fun q hq2 h=>?_⟩,by omega⟩
   ·rw [hsum];rfl
   ·rw [hlv];rfl
   ·by_cases e:q=k
    ·subst e;rw [hwk];exact hz
    ·exact hq q hq2 (by omega)
 ·have hk2:k=C.ws.length:=by
   have:¬ (k:Int)<C.ws.length:=of_decide_eq_false hb2
   omega
  subst hk2
  have hall:q3d (C.ws.map (q2d C))=0:=q8x.2 fun x hx=>by
   obtain ⟨w,hw,rfl⟩:=List.mem_map.1 hx
   obtain ⟨q,hq2,rfl⟩:=List.getElem_of_mem hw
   exact hq q hq2 hq2
  have hcode2:q3n C=if q5s C.ws=false then 4 else if q6p C.ws>80000 then 3 else 0:=by rw [hcode,hall];rfl
  have hlast:z6v C.ws C.ws.length=q5s C.ws:=by
   unfold q5s
   obtain ⟨q,hq2⟩:∃ q,C.ws.length=q+1:=⟨C.ws.length - 1,by omega⟩
   rw [List.getLast?_eq_getElem?,hq2];rfl
  rw [hlast,v6a]
  refine Br.mk (fun hb3=>?_) (fun hb3=>?_)
  ·exact WRet.same ⟨by rw [hcode2,if_pos (q9g hb3)];rfl,rfl⟩
  have hb3:q5s C.ws=true:=q7s hb3
  refine Br.mk (fun hb4=>?_) (fun hb4=>?_)
  ·have:(q6p C.ws:Int)>80000:=of_decide_eq_true hb4
   exact WRet.same ⟨by rw [hcode2,if_neg (by rw [hb3];decide),if_pos (by omega)];rfl,rfl⟩
  ·have:¬ (q6p C.ws:Int)>80000:=of_decide_eq_false hb4
   exact WRet.same ⟨by rw [hcode2,if_neg (by rw [hb3];decide),if_neg (by omega)];rfl,rfl⟩
theorem k0n {m:Mem} (V:CV) {C:q0c} (hV:q1q m V C) (M:Mac) :
  q0f Tryz.prog 24 [V.val C,M.val] m fun e m'=>e=.returned (i (q2b C M))∧Mem.le m m':=by
 refine q0e q0d Tryz.func24 j1p rfl ?_
 conv=>whnf
 refine q0a.pure (v8c V hV) ?_
 refine Br.mk (fun h0=>?_) (fun h0=>?_)
 ·have h0:q3n C≠0:=by simpa using h0
  exact WRet.same ⟨by unfold q2b;rw [if_pos h0];rfl,Mem.le.refl _⟩
 have h0:q3n C=0:=by simpa using h0
 have hC:=z4m h0
 conv=>whnf
 refine q0a.pure (k4e m M) ?_
 cases hM:M.ok with
 | false =>
  rw [if_neg (by decide)]
  refine Br.mk (fun _=>?_) (fun h=>absurd h (by decide))
  exact WRet.same ⟨by unfold q2b;rw [if_neg (by rw [h0];decide),if_pos hM];rfl,Mem.le.refl _⟩
 | true =>
 rw [if_pos rfl]
 refine Br.mk (fun h=>absurd h (by decide)) (fun _=>?_)
 refine Br.mk (fun hr=>?_) (fun hr=>?_)
 ·have hr:C.rg>M.rg:=of_decide_eq_true hr
  exact WRet.same ⟨by unfold q2b;rw [if_neg (by rw [h0];decide),if_neg (by rw [hM];decide),if_pos hr];rfl,Mem.le.refl _⟩
 have hr:¬ C.rg>M.rg:=of_decide_eq_false hr
 have hcode:q2b C M=if C.ws.any (fun w=>!q4w (q0p M w.ops))=true then 7 else 0:=by unfold q2b;rw [if_neg (by rw [h0];decide),if_neg (by rw [hM];decide),if_neg hr]
 have hn2:=hV.n2
 obtain ⟨a2,c2,e2,hw0,hw1,hw2⟩:=hV.ws
 have ea:V.a2=a2:=by injection e2
 subst ea
 have hl:=hV.wsl
 conv=>whnf
 refine q0v.mk Nat (fun k=>[(7,.val (i k))]) (fun k m'=>Mem.le m m'∧k≤C.ws.length∧∀ j (hj:j<C.ws.length),j<k→q4w (q0p M (C.ws[j]).ops)=true) (fun k=>C.ws.length - k) 0
  ⟨rfl,trivial⟩ ⟨Mem.le.refl _,Nat.zero_le _,fun j hj h=>by omega⟩ ?_
 rintro k m2 ⟨l2,hk,hq⟩
 conv=>whnf
 rw [hn2]
 refine Br.mk (fun hb2=>?_) (fun hb2=>?_)
 ·have hk2:k<C.ws.length:=by
   have:(k:Int)<C.ws.length:=of_decide_eq_true hb2
   omega
  obtain ⟨ad,had⟩:∃ ad,V.a2=some ad:=by
   cases hh:V.a2 with
   | none=>rw [hw0 hh] at hk2;simp at hk2
   | some ad=>exact ⟨ad,rfl⟩
  obtain ⟨a3,n3,c3,g1,g2⟩:=hw1 ad had k hk2
  have hol:=hC.ol _ (List.getElem_mem hk2)
  have hop:=hC.op _ (List.getElem_mem hk2)
  refine WIdx.mk ad had ⟨by omega,by omega⟩ ?_
  refine WLd.mk (.slice a3 n3 c3) (by have:=(g1.mono l2) 0 _ rfl;simpa using this) ?_
  generalize hwk:C.ws[k]=w at *
  conv=>whnf
  refine ⟨?_,trivial⟩
  conv=>whnf
  refine q0a.mk (j0d M (g2.mono' l2) hol hM (fun o ho=>j8u (hop o ho) (by omega))) ?_
  rintro _ m3 ⟨rfl,l3⟩
  refine Br.mk (fun hb6=>?_) (fun hb6=>?_)
  ·refine WRet.same ⟨?_,l2.trans l3⟩
   rw [hcode,if_pos (List.any_eq_true.2 ⟨w,by rw [← hwk];exact List.getElem_mem hk2,hb6⟩)];rfl
  ·refine WRng.mk (by apply wrap_i64<;>omega) ?_
   conv=>whnf
   refine ⟨k+1,⟨rfl,trivial⟩,⟨l2.trans l3,hk2,fun q hq2 h=>?_⟩,by omega⟩
   by_cases e:q=k
   ·subst e;rw [hwk];exact q7s hb6
   ·exact hq q hq2 (by omega)
 ·have hk2:k=C.ws.length:=by
   have:¬ (k:Int)<C.ws.length:=of_decide_eq_false hb2
   omega
  subst hk2
  have hany:C.ws.any (fun w=>!q4w (q0p M w.ops))=false:=by
   rw [List.any_eq_false]
   intro w hw h
   obtain ⟨q,hq2,rfl⟩:=List.getElem_of_mem hw
   rw [hq q hq2 hq2] at h;cases h
  exact WRet.same ⟨by rw [hcode,hany];rfl,l2⟩
def q5t (T sz:Nat) (zero:List Value) (m0 m:Mem) (A:Option Addr) (c n:Nat) (L:List Value):Prop :=
 L.length=n * sz∧((c=0∧n=0)∨∃ b,A=some ⟨b,0,none⟩∧n≤c∧m0 b=none∧m b=some (Cells (L++(List.replicate (c - n) zero).flatten) T))
theorem z2z (n:Nat) (z:List Value):(List.replicate n z).flatten.length=n * z.length:=by
 induction n with
 | zero=>simp
 | succ n ih=>rw [List.replicate_succ,List.flatten_cons,List.length_append,ih,Nat.add_mul,Nat.one_mul,Nat.add_comm]
theorem q5t.mono {T sz:Nat} {zero:List Value} {m0 m m':Mem} {A:Option Addr} {c n:Nat} {L:List Value} (h:q5t T sz zero m0 m A c n L) (hle:Mem.le m m'):q5t T sz zero m0 m' A c n L:=by
 obtain ⟨h1,h2⟩:=h
 refine ⟨h1,?_⟩
 rcases h2 with h2 | ⟨b,g1,g2,g3,g4⟩
 ·exact .inl h2
 ·exact .inr ⟨b,g1,g2,g3,hle _ _ g4⟩
theorem q1z {m0 m:Mem} (h:Mem.le m0 m) {b:Nat} (hb:m b=none):m0 b=none:=by
 cases hh:m0 b with
 | none=>rfl
 | some o=>rw [h b o hh] at hb;cases hb
theorem w1b {T sz bytes:Nat} {zero:List Value} {m0 m:Mem} {A:Option Addr} {c n n':Nat} {L x:List Value} {bx Tx:Nat} {K:Value→Mem→Prop} (hz:zero.length=sz) (hs:0<sz) (hle:Mem.le m0 m) (hp:q5t T sz zero m0 m A c n L)
  (hx:m bx=some (Cells x Tx)) (hxl:x.length=sz) (ho:oneL x=true) (hn:n'=n) (hlen:(n+1) * bytes≤35184372088832)
  (k:∀ b' c' m',Mem.le m0 m'→q5t T sz zero m0 m' (some ⟨b',0,none⟩) c' (n+1) (L++x)→m0 b'=none→(m b'=none∨A=some ⟨b',0,none⟩)→(∀ b,b≠b'→m' b=m b)→K (.slice (some ⟨b',0,none⟩) (n+1) c') m') :
  WApp m T sz bytes zero A n' c (some ⟨bx,0,none⟩) 1 K:=by
 subst hn
 obtain ⟨hL,hp⟩:=hp
 have hnew:q2v m (some ⟨bx,0,none⟩) (1 * sz) x:=⟨by rw [hxl,Nat.one_mul],fun ad had=>by cases had;exact q0g.blk hx fun j v hj=>by rw [Nat.zero_add];exact hj⟩
 have grow:∀ (old:List Value),old=L→(∀ ad,A=some ad→q0g m ad old)→(A=none→n'=0)→c<n'+1→WApp m T sz bytes zero A n' c (some ⟨bx,0,none⟩) 1 K:=by
  rintro old rfl h1 h2 hc
  refine WApp.grow _ hnew (fun h=>by cases h) hc hlen old ⟨hL,h1⟩ h2 fun b2 c2 hb2 hc2=>?_
  refine k b2 c2 _ (q2n hle (q1z hle hb2)) ⟨by rw [List.length_append,hL,hxl,Nat.add_mul,Nat.one_mul],.inr ⟨b2,rfl,hc2,q1z hle hb2,?_⟩⟩ (q1z hle hb2) (.inl hb2) fun b hb=>Mem.set_other _ _ hb
  rw [Mem.set_same]
 rcases hp with ⟨rfl,rfl⟩ | ⟨b,rfl,h1,h2,h3⟩
 ·have hL0:L=[]:=List.length_eq_zero_iff.1 (by rw [hL,Nat.zero_mul])
  subst hL0
  exact grow [] rfl (fun ad _ j v hj=>by simp at hj) (fun _=>rfl) (by omega)
 ·by_cases hcc:n'+1≤c
  ·obtain ⟨q,hq⟩:∃ q,c - n'=q+1:=⟨c - n' - 1,by omega⟩
   have hlen2:(L++(List.replicate (c - n') zero).flatten).length=n' * sz+(c - n') * sz:=by rw [List.length_append,hL,z2z,hz]
   have hle3:n' * sz+1 * sz≤n' * sz+(c - n') * sz:=Nat.add_le_add_left (Nat.mul_le_mul_right _ (by omega)) _
   refine WApp.in (ad:=⟨b,0,none⟩) _ hnew (fun h=>by cases h) _ T hcc h3 rfl (by rw [hlen2];simp only;omega) ho ?_
   refine k b c _ (q2n hle h2) ⟨by rw [List.length_append,hL,hxl,Nat.add_mul,Nat.one_mul],.inr ⟨b,rfl,hcc,h2,?_⟩⟩ h2 (.inr rfl) fun b3 hb3=>Mem.set_other _ _ hb3
   rw [Mem.set_same]
   have e:q0j (L++(List.replicate (c - n') zero).flatten) (0+n' * sz) x=L++x++(List.replicate (c - (n'+1)) zero).flatten:=by
    rw [q5x _ _ _ (by rw [hlen2,hxl];omega),Nat.zero_add,← hL,List.take_left' rfl,hq,List.replicate_succ,List.flatten_cons,← List.append_assoc]
    have e2:(L++zero++(List.replicate q zero).flatten).drop (L.length+x.length)=(List.replicate q zero).flatten:=by
     rw [show L.length+x.length=(L++zero).length by rw [List.length_append,hz,hxl],List.drop_left' rfl]
    rw [e2,show c - (n'+1)=q by omega]
   rw [e]
  ·exact grow L rfl (fun ad had=>by cases had;exact q0g.blk h3 fun j v hj=>by rw [Nat.zero_add,List.getElem?_append_left (List.getElem?_eq_some_iff.1 hj).1];exact hj) (fun h=>by cases h) (by omega)
end Go.Proofs.YtleofbpepfmfgaaGreatDoor
