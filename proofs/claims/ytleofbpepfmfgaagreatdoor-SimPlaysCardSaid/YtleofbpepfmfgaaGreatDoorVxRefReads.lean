import Derived.Test.YtleofbpepfmfgaaGreatDoorVxReads
set_option linter.unusedSimpArgs false
set_option linter.unusedVariables false
set_option maxRecDepth 100000
namespace Go.Proofs.YtleofbpepfmfgaaGreatDoor
open Go Go.Vx
open Go.Vx.IOp Go.Vx.IR Go.Vx.Opd
theorem w4h {m:Mem} {v:Value} {C:List Int} (hv:IAt m v C) (hlen:C.length<2 ^ 63) (z:Int):q0m Tryz.prog 161 [v,i z] m (.bool (C.any fun y=>z==y)):=by
 obtain ⟨a,c,rfl,h0,h1,hcap⟩:=hv
 refine q0e q0d Tryz.func161 j7b rfl ?_
 conv=>whnf
 refine q0v.mk Nat (fun k=>[(5,.val (i k))]) (fun k m'=>m=m'∧k≤C.length∧∀ j (hj:j<C.length),j<k→(C[j]==z)=false) (fun k=>C.length - k) 0 ⟨rfl,trivial⟩ ⟨rfl,Nat.zero_le _,fun j hj h=>by omega⟩ ?_
 rintro k m' ⟨rfl,hk,hq⟩
 refine Br.mk (fun hb=>?_) (fun hb=>?_)
 ·have hk2:k<C.length:=by simpa using hb
  conv=>whnf
  cases a with
  | none=>rw [h0 rfl] at hk2;simp at hk2
  | some ad =>
   refine WIdx.mk ad rfl ⟨by omega,by simpa using hk2⟩ ?_
   refine WLd.mk (i C[k]) (by simpa using IAt.cell (h1 ad rfl) hk2) ?_
   refine Br.mk (fun hb2=>?_) (fun hb2=>?_)
   ·refine WRet.same ⟨?_,rfl⟩
    have:(C.any fun y=>z==y)=true:=List.any_eq_true.2 ⟨C[k],List.getElem_mem hk2,by
     have h3:C[k]=z:=by simpa using hb2
     rw [h3];simp⟩
    rw [this];rfl
   ·refine WRng.mk (by apply wrap_i64<;>omega) ?_
    conv=>whnf
    refine ⟨k+1,⟨rfl,trivial⟩,⟨rfl,hk2,fun j hj h=>?_⟩,by omega⟩
    by_cases e:j=k
    ·subst e;exact hb2
    ·exact hq j hj (by omega)
 ·have hk2:¬ k<C.length:=by simpa using hb
  refine WRet.same ⟨?_,rfl⟩
  have:(C.any fun y=>z==y)=false:=by
   rw [List.any_eq_false]
   intro y hy
   obtain ⟨j,hj,rfl⟩:=List.getElem_of_mem hy
   have h3:=hq j hj (by omega)
   intro h4
   have h5:z=C[j]:=by simpa using h4
   rw [h5] at h3;simp at h3
  rw [this];rfl
theorem z0g {m0 m:Mem} {a:Option Addr} {c:Nat} {L:List Int} (hle:Mem.le m0 m) (hp:q1s m0 m a c L) (hlen:L.length<1000) (r:Int) :
  q0f Tryz.prog 143 [.slice a L.length c,i r] m fun e m'=>∃ a' c',e=.returned (.slice a' (putS L r).length c')∧Mem.le m0 m'∧q1s m0 m' a' c' (putS L r):=by
 refine q0e q0d Tryz.func143 j3y rfl ?_
 conv=>whnf
 refine q0a.pure (w4h hp.iat (by omega) r) ?_
 refine Br.mk (fun hb=>?_) (fun hb=>?_)
 ·have e:putS L r=L:=by unfold putS;rw [if_pos hb]
  exact WRet.same ⟨a,c,by rw [e];rfl,hle,by rw [e];exact hp⟩
 ·have e:putS L r=L++[r]:=by unfold putS;rw [if_neg (fun h=>by rw [h] at hb;cases hb)]
  refine WNew.mk fun bx hbx=>?_
  conv=>whnf
  refine q4a (L:=L) (z:=r) (hle.trans (Mem.le_set hbx)) (hp.mono (Mem.le_set hbx)) (Mem.set_same _ _ _) rfl (by omega) fun a' c' m' hle8 hp8=>?_
  exact WRet.same ⟨a',c',by rw [e,List.length_append];rfl,hle8,by rw [e];exact hp8⟩
def z1w (k:Int):Bool:=((decide (k<1)||decide (k>25))||k==1)||k==18
def twoU (k:Int):Bool:=((decide (k≥3)&&decide (k≤15))||k==17)||k==23||k==24
def useA (k:Int):Bool:=!z1w k
def useB (k:Int):Bool:=!z1w k&&(k==12||twoU k)
def useC (k:Int):Bool:=!z1w k&&k==12
def q7l (k:Int):Value:=.tuple ⟨[.bool (useA k),.bool (useB k),.bool (useC k)]⟩
theorem k4m (m:Mem) (k:Int):q0m Tryz.prog 142 [i k] m (q7l k):=by
 refine q0e q0d Tryz.func142 j1c rfl ?_
 refine WSc.mk (fun _=>And.intro (Mem.le.refl _) rfl) ?_
 refine WSc.mk (fun _=>And.intro (Mem.le.refl _) rfl) ?_
 refine WSc.mk (fun _=>And.intro (Mem.le.refl _) rfl) ?_
 have e1:scB (scB (scB (decide (k<1)) false (decide (k>25))) false (k==1)) false (k==18)=z1w k:=by
  unfold z1w
  cases decide (k<1)<;>cases decide (k>25)<;>cases (k==1)<;>cases (k==18)<;>rfl
 refine Br.mk (fun hb=>?_) (fun hb=>?_)
 ·rw [e1] at hb
  have:q7l k=.tuple ⟨[.bool false,.bool false,.bool false]⟩:=by unfold q7l useA useB useC;rw [hb];rfl
  rw [this]
  exact WRet.same ⟨rfl,rfl⟩
 rw [e1] at hb
 refine Br.mk (fun hb2=>?_) (fun hb2=>?_)
 ·have:q7l k=.tuple ⟨[.bool true,.bool true,.bool true]⟩:=by unfold q7l useA useB useC;rw [hb,hb2];rfl
  rw [this]
  exact WRet.same ⟨rfl,rfl⟩
 have fin2:twoU k=true→q7l k=.tuple ⟨[.bool true,.bool true,.bool false]⟩:=fun h=>by unfold q7l useA useB useC;rw [hb,hb2,h];rfl
 refine WSc.mk (fun _=>And.intro (Mem.le.refl _) rfl) ?_
 refine Br.mk (fun hb3=>?_) (fun hb3=>?_)
 ·have h3:twoU k=true:=by unfold twoU;rw [show (decide (k≥3)&&decide (k≤15))=true by simp only [scB] at hb3;simpa using hb3];rfl
  rw [fin2 h3]
  refine Br.mk (fun _=>?_) (fun h2=>by cases h2)
  exact WRet.same ⟨rfl,rfl⟩
 have h3:(decide (k≥3)&&decide (k≤15))=false:=by
  simp only [scB] at hb3
  cases h1:decide (k≥3)<;>cases h2:decide (k≤15)<;>simp_all
 refine Br.mk (fun hb4=>?_) (fun hb4=>?_)
 ·have h4:twoU k=true:=by unfold twoU;rw [h3,hb4];rfl
  rw [fin2 h4]
  refine Br.mk (fun _=>?_) (fun h2=>by cases h2)
  exact WRet.same ⟨rfl,rfl⟩
 refine Br.mk (fun hb5=>?_) (fun hb5=>?_)
 ·have h4:twoU k=true:=by unfold twoU;rw [h3,hb4,hb5];rfl
  rw [fin2 h4]
  refine Br.mk (fun _=>?_) (fun h2=>by cases h2)
  exact WRet.same ⟨rfl,rfl⟩
 refine Br.mk (fun hb6=>?_) (fun hb6=>?_)
 ·have h4:twoU k=true:=by unfold twoU;rw [h3,hb4,hb5,hb6];rfl
  rw [fin2 h4]
  exact WRet.same ⟨rfl,rfl⟩
 ·have h4:twoU k=false:=by unfold twoU;rw [h3,hb4,hb5,hb6];rfl
  have:q7l k=.tuple ⟨[.bool true,.bool false,.bool false]⟩:=by unfold q7l useA useB useC;rw [hb,hb2,h4];rfl
  rw [this]
  exact WRet.same ⟨rfl,rfl⟩
def q3t (o:OpR):List Int:=(if useA o.kd=true then [o.a] else [])++(if useB o.kd=true then [o.b] else [])++(if useC o.kd=true then [o.c] else [])
theorem v8b {k:Int} (h:useB k=true):useA k=true:=by
 unfold useB at h;unfold useA;rw [Bool.and_eq_true] at h;exact h.1
theorem v0f {k:Int} (h:useC k=true):useB k=true:=by
 unfold useC at h;unfold useB;rw [Bool.and_eq_true] at h ⊢;exact ⟨h.1,by rw [h.2];rfl⟩
theorem bits {k:Int} (h1:1≤k) (h2:k≤25):bitU (useT k) 0=useA k∧bitU (useT k) 1=useB k∧bitU (useT k) 2=useC k:=by
 rcases q4x h1 h2 with rfl|rfl|rfl|rfl|rfl|rfl|rfl|rfl|rfl|rfl|rfl|rfl|rfl|rfl|rfl|rfl|rfl|rfl|rfl|rfl|rfl|rfl|rfl|rfl|rfl<;>exact ⟨by decide,by decide,by decide⟩
theorem w3j {o:OpR} (h:1≤o.kd∧o.kd≤25):q2x o 3=q3t o:=by
 obtain ⟨b0,b1,b2⟩:=bits h.1 h.2
 rw [z1l,z1l,z1l,b0,b1,b2]
 unfold q3t
 have e:q2x o 0=[]:=rfl
 rw [e]
 cases useA o.kd<;>cases useB o.kd<;>cases useC o.kd<;>rfl
theorem v5v (m:Mem) (o:OpR) (hgd:o.gd=-1):z1k Tryz.prog 116 [o.val] m (if 1≤o.kd∧o.kd≤25 then q0h (q3t o) else []):=by
 refine q0e q0d Tryz.func116 j5v rfl ?_
 refine WSc.mk (fun _=>And.intro (Mem.le.refl _) rfl) ?_
 refine Br.mk (fun hb=>?_) (fun hb=>?_)
 ·have hk:¬ (1≤o.kd∧o.kd≤25):=by simp only [scB,Bool.or_eq_true,decide_eq_true_eq] at hb;omega
  simp only [if_neg hk]
  exact WRet.same ⟨none,0,rfl,Mem.le.refl _,.inl ⟨rfl,rfl,rfl⟩⟩
 have hk:1≤o.kd∧o.kd≤25:=by simp only [scB,Bool.or_eq_false_iff,decide_eq_false_iff_not] at hb;omega
 simp only [if_pos hk]
 conv=>whnf
 refine q0a.pure (k4m m o.kd) ?_
 unfold q7l
 cases hA:useA o.kd with
 | false =>
  have hB:useB o.kd=false:=by
   cases h:useB o.kd with
   | false=>rfl
   | true=>rw [v8b h] at hA;cases hA
  have hC:useC o.kd=false:=by
   cases h:useC o.kd with
   | false=>rfl
   | true=>rw [v0f h] at hB;cases hB
  have hr:q0h (q3t o)=[]:=by unfold q3t;rw [hA,hB,hC];rfl
  rw [hr,hB,hC]
  conv=>whnf
  have hp0:q1s m m none 0 []:=.inl ⟨rfl,rfl,rfl⟩
  have hle0:=Mem.le.refl m
  refine Br.mk (fun h=>by cases h) (fun _=>?_)
  refine Br.mk (fun h=>by cases h) (fun _=>?_)
  refine Br.mk (fun h=>by cases h) (fun _=>?_)
  refine Br.mk (fun hg=>?_) (fun _=>?_)
  ·exfalso;rw [hgd] at hg;cases hg
  exact WRet.same ⟨none,0,rfl,hle0,hp0⟩
 | true =>
  cases hB:useB o.kd with
  | false =>
   have hC:useC o.kd=false:=by
    cases h:useC o.kd with
    | false=>rfl
    | true=>rw [v0f h] at hB;cases hB
   have hr:q0h (q3t o)=[o.a].foldl putS []:=by unfold q3t;rw [hA,hB,hC];rfl
   rw [hr,hC]
   conv=>whnf
   have hp0:q1s m m none 0 []:=.inl ⟨rfl,rfl,rfl⟩
   have hle0:=Mem.le.refl m
   refine Br.mk (fun _=>?_) (fun h=>by cases h)
   conv=>whnf
   refine q0a.mk (z0g hle0 hp0 (by have h1:=q4t [] [];simp only [List.length_nil,List.length_cons,List.foldl_cons,List.foldl_nil] at h1 ⊢;omega) o.a) ?_
   rintro _ m1 ⟨A1,c1,rfl,hle1,hp1⟩
   refine Br.mk (fun h=>by cases h) (fun _=>?_)
   refine Br.mk (fun h=>by cases h) (fun _=>?_)
   refine Br.mk (fun hg=>?_) (fun _=>?_)
   ·exfalso;rw [hgd] at hg;cases hg
   exact WRet.same ⟨A1,c1,rfl,hle1,hp1⟩
  | true =>
   cases hC:useC o.kd with
   | false =>
    have hr:q0h (q3t o)=[o.a,o.b].foldl putS []:=by unfold q3t;rw [hA,hB,hC];rfl
    rw [hr]
    conv=>whnf
    have hp0:q1s m m none 0 []:=.inl ⟨rfl,rfl,rfl⟩
    have hle0:=Mem.le.refl m
    refine Br.mk (fun _=>?_) (fun h=>by cases h)
    conv=>whnf
    refine q0a.mk (z0g hle0 hp0 (by have h1:=q4t [] [];simp only [List.length_nil,List.length_cons,List.foldl_cons,List.foldl_nil] at h1 ⊢;omega) o.a) ?_
    rintro _ m1 ⟨A1,c1,rfl,hle1,hp1⟩
    refine Br.mk (fun _=>?_) (fun h=>by cases h)
    conv=>whnf
    refine q0a.mk (z0g hle1 hp1 (by have h1:=q4t [o.a] [];simp only [List.length_nil,List.length_cons,List.foldl_cons,List.foldl_nil] at h1 ⊢;omega) o.b) ?_
    rintro _ m2 ⟨A2,c2,rfl,hle2,hp2⟩
    refine Br.mk (fun h=>by cases h) (fun _=>?_)
    refine Br.mk (fun hg=>?_) (fun _=>?_)
    ·exfalso;rw [hgd] at hg;cases hg
    exact WRet.same ⟨A2,c2,rfl,hle2,hp2⟩
   | true =>
    have hr:q0h (q3t o)=[o.a,o.b,o.c].foldl putS []:=by unfold q3t;rw [hA,hB,hC];rfl
    rw [hr]
    conv=>whnf
    have hp0:q1s m m none 0 []:=.inl ⟨rfl,rfl,rfl⟩
    have hle0:=Mem.le.refl m
    refine Br.mk (fun _=>?_) (fun h=>by cases h)
    conv=>whnf
    refine q0a.mk (z0g hle0 hp0 (by have h1:=q4t [] [];simp only [List.length_nil,List.length_cons,List.foldl_cons,List.foldl_nil] at h1 ⊢;omega) o.a) ?_
    rintro _ m1 ⟨A1,c1,rfl,hle1,hp1⟩
    refine Br.mk (fun _=>?_) (fun h=>by cases h)
    conv=>whnf
    refine q0a.mk (z0g hle1 hp1 (by have h1:=q4t [o.a] [];simp only [List.length_nil,List.length_cons,List.foldl_cons,List.foldl_nil] at h1 ⊢;omega) o.b) ?_
    rintro _ m2 ⟨A2,c2,rfl,hle2,hp2⟩
    refine Br.mk (fun _=>?_) (fun h=>by cases h)
    conv=>whnf
    refine q0a.mk (z0g hle2 hp2 (by have h1:=q4t [o.a,o.b] [];simp only [List.length_nil,List.length_cons,List.foldl_cons,List.foldl_nil] at h1 ⊢;omega) o.c) ?_
    rintro _ m3 ⟨A3,c3,rfl,hle3,hp3⟩
    refine Br.mk (fun hg=>?_) (fun _=>?_)
    ·exfalso;rw [hgd] at hg;cases hg
    exact WRet.same ⟨A3,c3,rfl,hle3,hp3⟩
def q7r (a:Option Addr) (b:Nat):Prop:=∀ bb,a=some ⟨bb,0,none⟩→b≠bb
theorem q0g.keep {m m':Mem} {ad:Addr} {vs:List Value} (h:q0g m ad vs) (hm:∀ o,m ad.block=some o→m' ad.block=some o):q0g m' ad vs:=fun j v hj=>by
 obtain ⟨c,T,fr,h1,h2,h3⟩:=h j v hj
 have hb:(ad.add j).block=ad.block:=by unfold Addr.add;split<;>rfl
 rw [hb] at h1
 exact ⟨c,T,fr,by rw [hb];exact hm _ h1,h2,h3⟩
theorem z4n {m0 m:Mem} {a:Option Addr} {c n:Nat} {L:List Int} {z:Int} {bx:Nat} {K:Value→Mem→Prop} (hle:Mem.le m0 m) (hp:q1s m0 m a c L) (hx:m bx=some (Cells [i z] 3)) (hn:n=L.length) (hlen:L.length<1099511627776)
  (k:∀ a' c' m',Mem.le m0 m'→q1s m0 m' a' c' (L++[z])→(∀ b o,m b=some o→q7r a b→m' b=some o∧q7r a' b)→K (.slice a' (L.length+1) c') m'):WApp m 3 1 8 [i 0] a n c (some ⟨bx,0,none⟩) 1 K:=by
 subst hn
 have hnew:q2v m (some ⟨bx,0,none⟩) (1 * 1) [i z]:=⟨rfl,fun ad had=>by cases had;exact q0g.blk hx fun j v hj=>by rw [Nat.zero_add];exact hj⟩
 have hnone:∀ b2,m b2=none→m0 b2=none:=fun b2 h=>by
  cases hh:m0 b2 with
  | none=>rfl
  | some o=>rw [hle b2 o hh] at h;cases h
 have hfr:∀ b2 o2,m b2=none→∀ b o,m b=some o→(m.set b2 o2) b=some o∧q7r (some ⟨b2,0,none⟩) b:=fun b2 o2 h b o hb=>by
  have hne:b≠b2:=fun e=>by subst e;rw [h] at hb;cases hb
  exact ⟨by rw [Mem.set_other _ _ hne];exact hb,fun bb e=>by cases e;exact hne⟩
 rcases hp with ⟨rfl,rfl,rfl⟩ | ⟨b,rfl,h1,h2,h3⟩
 ·refine WApp.grow _ hnew (fun h=>by cases h) (by decide) (by decide) [] ⟨rfl,fun ad h=>by cases h⟩ (fun _=>rfl) fun b2 c2 hb2 hc2=>?_
  refine k _ _ _ (q2n hle (hnone _ hb2)) (.inr ⟨b2,rfl,by simpa using hc2,hnone _ hb2,?_⟩) (fun b o hb _=>hfr _ _ hb2 b o hb)
  rw [Mem.set_same,q9z];rfl
 ·by_cases hcc:L.length+1≤c
  ·refine WApp.in (ad:=⟨b,0,none⟩) _ hnew (fun h=>by cases h) _ 3 hcc h3 rfl ?_ rfl ?_
   ·rw [List.length_append,List.length_map,List.length_replicate];simp only;omega
   ·refine k _ _ _ (q2n hle h2) (.inr ⟨b,rfl,by simpa using hcc,h2,?_⟩) (fun b' o hb ha=>⟨by rw [Mem.set_other _ _ (ha b rfl)];exact hb,ha⟩)
    rw [Mem.set_same]
    have e:q0j (L.map i++List.replicate (c - L.length) (i 0)) (0+L.length * 1) [i z]=(L++[z]).map i++List.replicate (c - (L++[z]).length) (i 0):=by
     obtain ⟨q,hq⟩:∃ q,c - L.length=q+1:=⟨c - L.length - 1,by omega⟩
     rw [hq,Nat.zero_add,Nat.mul_one]
     show (L.map i++List.replicate (q+1) (i 0)).set L.length (i z)=_
     rw [List.set_append_right _ _ (by simp),List.length_map,Nat.sub_self,List.replicate_succ,List.set_cons_zero,List.map_append,List.length_append,show c - (L.length+[z].length)=q by simp;omega]
     simp
    rw [e]
  ·refine WApp.grow _ hnew (fun h=>by cases h) (by omega) (by omega) (L.map i) ⟨by simp,fun ad had=>by cases had;exact q0g.blk h3 fun j v hj=>by rw [Nat.zero_add,List.getElem?_append_left (List.getElem?_eq_some_iff.1 hj).1];exact hj⟩ (fun h=>by cases h) fun b2 c2 hb2 hc2=>?_
   refine k _ _ _ (q2n hle (hnone _ hb2)) (.inr ⟨b2,rfl,by simpa using hc2,hnone _ hb2,?_⟩) (fun b o hb _=>hfr _ _ hb2 b o hb)
   rw [Mem.set_same,q9z]
   simp
theorem v4s {g:Int}:∀ (X acc:List Int),X.foldl putS (g :: acc.filter fun x=>!(x==g))=g :: (X.foldl putS acc).filter fun x=>!(x==g)
 | [],acc=>rfl
 | x :: X,acc=>by
  have key:putS (g :: acc.filter fun x=>!(x==g)) x=g :: (putS acc x).filter fun x=>!(x==g):=by
   unfold putS
   by_cases hxg:x=g
   ·subst hxg
    have h1:((x :: acc.filter fun y=>!(y==x)).any fun y=>x==y)=true:=by simp
    rw [if_pos h1]
    split
    ·rfl
    ·simp
   ·have e:((g :: acc.filter fun y=>!(y==g)).any fun y=>x==y)=acc.any fun y=>x==y:=by
     rw [Bool.eq_iff_iff]
     simp only [List.any_cons,Bool.or_eq_true,List.any_eq_true,List.mem_filter,beq_iff_eq,Bool.not_eq_true',beq_eq_false_iff_ne]
     constructor
     ·rintro (h | ⟨y,⟨h1,h2⟩,rfl⟩)
      ·exact absurd h hxg
      ·exact ⟨_,h1,rfl⟩
     ·rintro ⟨y,h1,rfl⟩
      exact .inr ⟨x,⟨h1,hxg⟩,rfl⟩
    rw [e]
    split
    ·rfl
    ·rw [List.filter_append,List.cons_append]
     congr 1
     have:(x==g)=false:=by simpa using hxg
     simp [this]
  rw [List.foldl_cons,List.foldl_cons,key,v4s X (putS acc x)]
def q1a (o:OpR) (X:List Int):List Int:=X.filter fun x=>(o.gd==-1)||!(x==o.gd)
theorem z6x (o:OpR) (X:List Int):q0h (q0w o++X)=q0w o++q1a o (q0h X):=by
 unfold q0w q1a
 by_cases h:o.gd=-1
 ·rw [if_pos h]
  have h2:(o.gd==-1)=true:=by simp [h]
  rw [h2,List.nil_append,List.nil_append]
  exact (List.filter_eq_self.2 fun x _=>by simp).symm
 ·rw [if_neg h]
  have h2:(o.gd==-1)=false:=by simpa using h
  rw [h2]
  simp only [Bool.false_or]
  show (o.gd :: X).foldl putS []=_
  rw [List.foldl_cons]
  have h3:=v4s (g:=o.gd) X []
  exact h3
def q3s (o:OpR):List Int:=if o.kd=27∨o.kd=28 then [o.a] else if o.kd=26 then [] else if 1≤o.kd∧o.kd≤25 then q0h (q3t o) else []
theorem j8f (o:OpR):q0b o=if (q2j o.kd).2=true then q0w o++q1a o (q3s o) else []:=by
 have hcl:(q2j o.kd).2=decide (1≤o.kd∧o.kd≤28):=by
  unfold q2j
  by_cases h1:1≤o.kd∧o.kd≤12
  ·rw [if_pos h1,decide_eq_true (by omega)]
  rw [if_neg h1]
  by_cases h2:(13≤o.kd∧o.kd≤15)∨o.kd=23∨o.kd=24
  ·rw [if_pos h2,decide_eq_true (by omega)]
  rw [if_neg h2]
  by_cases h3:(16≤o.kd∧o.kd≤19)∨o.kd=25
  ·rw [if_pos h3,decide_eq_true (by omega)]
  rw [if_neg h3]
  by_cases h4:(20≤o.kd∧o.kd≤22)∨(26≤o.kd∧o.kd≤28)
  ·rw [if_pos h4,decide_eq_true (by omega)]
  rw [if_neg h4,decide_eq_false (by omega)]
 rw [hcl]
 unfold q0b rawS q3s
 by_cases h26:o.kd=26
 ·rw [if_pos h26,if_pos (by simp;omega),if_neg (by omega),if_pos h26]
  have:=z6x o []
  rw [List.append_nil] at this
  exact this
 rw [if_neg h26]
 by_cases h27:o.kd=27∨o.kd=28
 ·rw [if_pos h27,if_pos (by simp;omega),if_pos h27]
  exact z6x o [o.a]
 rw [if_neg h27]
 by_cases hk:1≤o.kd∧o.kd≤25
 ·rw [if_pos hk,if_pos (by simp;omega),if_neg h27,if_neg h26,if_pos hk,w3j hk]
  exact z6x o (q3t o)
 ·rw [if_neg hk,if_neg (by simp;omega)];rfl
theorem q5l {P:Program} {K:Env→Mem→Prop} {Q:Post} {e:Env} {m:Mem} (h:K e m):wpI P .skip (q4i K Q) e m:=h
theorem q6m {P:Program} {a b:IR} {Q:Post} {e:Env} {m:Mem} (h:wpI P a (q4i (fun e' m'=>wpI P b Q e' m') Q) e m):wpI P (.seq a b) Q e m:=h
theorem z3y {P:Program} {n:Nat} {a:IR} {Q:Post} {e:Env} {m:Mem} (h:wpI P a (q6x n Q) e m):wpI P (.block n a) Q e m:=h
theorem q9k {P:Program} {l:List E} {r:RT} {Q:Post} {e:Env} {m:Mem} (h:q1n P l (Q .normal) (fun ch m'=>Q (.panic ch) (fun _=>none) m') r e m):wpI P (.tree l r) Q e m:=h
theorem q7k {P:Program} {l:List E} {j:Nat} {r:RT} {K:Env→Mem→Prop} {X:List PanicEntry→Mem→Prop} {e:Env} {m:Mem} {x:E} (hx:l[j]? = some x) (h:q1w P x e m (fun e' m'=>q1n P l K X r e' m') X):q1n P l K X (.pure j r) e m:=by
 show (match l[j]? with | some x=>q1w P x e m (fun e' m'=>q1n P l K X r e' m') X | none=>False)
 rw [hx];exact h
theorem z0q {o:OpR} {Ls:List Int} {k:Nat} (hk:k<Ls.length):q1a o (Ls.take (k+1))=if ((o.gd==-1)||!(Ls[k]==o.gd))=true then q1a o (Ls.take k)++[Ls[k]] else q1a o (Ls.take k):=by
 unfold q1a
 rw [List.take_succ_eq_append_getElem hk,List.filter_append]
 by_cases h:((o.gd==-1)||!(Ls[k]==o.gd))=true
 ·rw [if_pos h];simp [h]
 ·rw [if_neg h];simp [h]
theorem z5c (m:Mem) (o:OpR):z1k Tryz.prog 83 [o.val] m (q0b o):=by
 refine q0e q0d Tryz.func83 j5l rfl ?_
 have hres:=j8f o
 conv=>whnf
 refine q0a.pure (z8i m o.kd) ?_
 cases hcl:(q2j o.kd).2 with
 | false =>
  rw [hcl] at hres
  have hres:q0b o=[]:=hres
  rw [hres]
  unfold q7y
  rw [hcl]
  refine Br.mk (fun _=>?_) (fun h=>by cases h)
  exact WRet.same ⟨none,0,rfl,Mem.le.refl _,.inl ⟨rfl,rfl,rfl⟩⟩
 | true =>
  rw [hcl,if_pos rfl] at hres
  rw [hres]
  unfold q7y
  rw [hcl]
  refine Br.mk (fun h=>by cases h) (fun _=>?_)
  refine Br.mk (fun hg=>?_) (fun hg=>?_)
  ·have hgd:o.gd≠-1:=by simpa using hg
   have hgf:(o.gd==-1)=false:=by simpa using hgd
   have hgl:q0w o=[o.gd]:=by unfold q0w;rw [if_neg hgd]
   refine WNew.mk fun bx hbx=>?_
   conv=>whnf
   refine q4a (L:=[]) (z:=o.gd) (Mem.le_set hbx) (.inl ⟨rfl,rfl,rfl⟩) (Mem.set_same _ _ _) rfl (by decide) fun A0 c0 m1 hle1 hp1=>?_
   have hap0:∀ (m2:Mem) (X:Option Addr) (cX:Nat) {Y:List Int},q1s m1 m2 X cX Y→∀ ad,X=some ad→q7r A0 ad.block:=fun m2 X cX Y hX ad ha bb hbb e=>by
    rcases hX with ⟨h1,_⟩ | ⟨b,h1,_,h2,_⟩
    ·rw [h1] at ha;cases ha
    ·rw [h1] at ha;cases ha
     rcases hp1 with ⟨h3,_⟩ | ⟨b',h3,_,_,h4⟩
     ·rw [h3] at hbb;cases hbb
     ·rw [h3] at hbb;cases hbb
      rw [← e,h2] at h4;cases h4
   have hp1:q1s m m1 A0 c0 (q0w o):=by rw [hgl];exact hp1
   have hgl2:([]:List Int).length+1=(q0w o).length:=by rw [hgl];rfl
   rw [hgl2]
   refine WSc.mk (fun _=>And.intro (Mem.le.refl _) rfl) ?_
   refine Br.mk (fun hb=>?_) (fun hb=>?_)
   ·have h27:o.kd=27∨o.kd=28:=by simp only [scB] at hb;simp at hb;omega
    refine WNew.mk fun bl hbl=>?_
    have hpl:q1s m1 (m1.set bl (Cells [i o.a] 3)) (some ⟨bl,0,none⟩) 1 [o.a]:=z4e hbl (Mem.set_same _ _ _)
    have hle2:=hle1.trans (Mem.le_set (o:=Cells [i o.a] 3) hbl)
    have hp2:=hp1.mono (Mem.le_set (o:=Cells [i o.a] 3) hbl)
    have hap:=hap0 _ _ _ hpl
    have hls:=hpl.cells
    have hLs0:q3s o=[o.a]:=by unfold q3s;rw [if_pos h27]
    conv=>whnf
    obtain ⟨Ls,hLe⟩:∃ Ls,Ls=[o.a]:=⟨_,rfl⟩
    have hLs:q3s o=Ls:=by rw [hLs0,hLe]
    have hll:Ls.length=1:=by rw [hLe];rfl
    have hl4:Ls.length≤4:=by omega
    have hr0:q1a o (Ls.take 0)=[]:=rfl
    rw [← hLe] at hls
    generalize (some (⟨bl,0,none⟩:Addr))=Al at *
    refine q0v.mk (Nat×Option Addr×Nat) (fun s=>[(8,.val (i s.1)),(3,.val (.slice s.2.1 (q0w o++q1a o (Ls.take s.1)).length s.2.2))]) (fun s m''=>Mem.le m m''∧q1s m m'' s.2.1 s.2.2 (q0w o++q1a o (Ls.take s.1))∧s.1≤Ls.length∧∀ ad,Al=some ad→q0g m'' ad (Ls.map i)∧q7r s.2.1 ad.block) (fun s=>Ls.length - s.1) (0,A0,c0) ⟨rfl,by show _=some (AV.val (.slice A0 (q0w o++q1a o (Ls.take 0)).length c0));rw [hr0,List.append_nil];rfl,trivial⟩ ⟨hle2,by show q1s m _ A0 c0 (q0w o++q1a o (Ls.take 0));rw [hr0,List.append_nil];exact hp2,Nat.zero_le _,fun ad ha=>⟨hls.2 ad ha,hap ad ha⟩⟩ ?_
    rintro ⟨k,B,cB⟩ m6 ⟨g1,g2,g3,g4⟩
    simp only at g2 g3 g4
    refine Br.mk (fun hb3=>?_) (fun hb3=>?_)
    ·have hk:k<Ls.length:=by
      have:(k:Int)<(1:Nat):=of_decide_eq_true hb3
      omega
     have hlen:(q0w o++q1a o (Ls.take k)).length≤5:=by
      have h1:=z1u o
      have h2:(q1a o (Ls.take k)).length≤Ls.length:=Nat.le_trans (List.length_filter_le _ _) (by rw [List.length_take];omega)
      rw [List.length_append];omega
     obtain ⟨ad,rfl⟩:∃ ad,Al=some ad:=by
      cases Al with
      | none=>rw [hls.1 rfl] at hk;simp at hk
      | some ad=>exact ⟨ad,rfl⟩
     have hcell:q0q m6 (ad.add k) (i Ls[k]):=IAt.cell (g4 ad rfl).1 hk
     refine q5l ?_
     refine q6m ?_
     refine z3y ?_
     refine q6m ?_
     refine q9k ?_
     refine q7k rfl ?_
     refine Br.mk (fun h=>absurd h (by rw [hgf];decide)) (fun _=>?_)
     refine WIdx.mk ad rfl ⟨by omega,by show (k:Int)<_;omega⟩ ?_
     refine WLd.mk (i Ls[k]) (by simpa using hcell) ?_
     refine Br.mk (fun h=>by cases h) (fun _=>?_)
     refine Br.mk (fun hb4=>?_) (fun hb4=>?_)
     ·have hB:((o.gd==-1)||!(Ls[k]==o.gd))=true:=by rw [hgf];exact hb4
      have hput:q0w o++q1a o (Ls.take (k+1))=(q0w o++q1a o (Ls.take k))++[Ls[k]]:=by rw [z0q hk,if_pos hB,List.append_assoc]
      refine WIdx.mk ad rfl ⟨by omega,by show (k:Int)<_;omega⟩ ?_
      refine WLd.mk (i Ls[k]) (by simpa using hcell) ?_
      refine WNew.mk fun bz hbz=>?_
      conv=>whnf
      refine z4n (L:=q0w o++q1a o (Ls.take k)) (z:=Ls[k]) (g1.trans (Mem.le_set hbz)) (g2.mono (Mem.le_set hbz)) (Mem.set_same _ _ _) rfl (by omega) fun a9 c9 m9 hle9 hp9 hfr=>?_
      have hl2:(q0w o++q1a o (Ls.take k)).length+1=(q0w o++q1a o (Ls.take (k+1))).length:=by rw [hput];simp only [List.length_append,List.length_singleton]
      rw [← hput] at hp9
      rw [hl2]
      have hobj:∃ ob,m6 ad.block=some ob:=by
       obtain ⟨c1,T1,f1,e1,_⟩:=hcell
       have hb:(ad.add k).block=ad.block:=by unfold Addr.add;split<;>rfl
       exact ⟨_,by rw [← hb];exact e1⟩
      obtain ⟨ob,hob⟩:=hobj
      have hkeep:=hfr ad.block ob (Mem.le_set hbz _ _ hob) (g4 ad rfl).2
      refine WRng.mk (by apply wrap_i64<;>omega) ?_
      conv=>whnf
      exact ⟨(k+1,a9,c9),⟨rfl,rfl,trivial⟩,⟨hle9,hp9,hk,fun ad' ha'=>by cases ha';exact ⟨q0g.keep (g4 ad rfl).1 fun o2 h2=>by rw [hob] at h2;cases h2;exact hkeep.1,hkeep.2⟩⟩,by simp only;omega⟩
     ·have hB:((o.gd==-1)||!(Ls[k]==o.gd))=false:=by rw [hgf];exact hb4
      have hput:q0w o++q1a o (Ls.take (k+1))=q0w o++q1a o (Ls.take k):=by rw [z0q hk,if_neg (by rw [hB];decide)]
      refine WRng.mk (by apply wrap_i64<;>omega) ?_
      conv=>whnf
      exact ⟨(k+1,B,cB),⟨rfl,by rw [hput];rfl,trivial⟩,⟨g1,by rw [hput];exact g2,hk,g4⟩,by simp only;omega⟩
    ·have hk:k=Ls.length:=by
      have:¬ (k:Int)<(1:Nat):=of_decide_eq_false hb3
      omega
     subst hk
     rw [List.take_length] at g2
     exact WRet.same ⟨B,cB,by rw [List.take_length,hLs];rfl,g1,by rw [hLs];exact g2⟩
   have h27:¬ (o.kd=27∨o.kd=28):=by simp only [scB] at hb;simp at hb;omega
   refine Br.mk (fun hb2=>?_) (fun hb2=>?_)
   ·have h26:o.kd≠26:=by simpa using hb2
    conv=>whnf
    have hm0:q3s o=(if 1≤o.kd∧o.kd≤25 then q0h (q3t o) else []):=by unfold q3s;rw [if_neg h27,if_neg h26]
    have h18:z1k Tryz.prog 116 [(OpR.mk o.kd o.ds o.a o.b o.c o.n (-1)).val] m1 (q3s o):=by
     rw [hm0];exact v5v m1 (OpR.mk o.kd o.ds o.a o.b o.c o.n (-1)) rfl
    have hl4:(q3s o).length≤4:=by
     rw [hm0]
     split
     ·have h1:=q4t (q3t o) []
      have h2:(q3t o).length≤3:=by
       unfold q3t;simp only [List.length_append];split<;>split<;>split<;>simp
      unfold q0h;simp only [List.length_nil] at h1;omega
     ·simp
    clear hm0
    refine q0a.mk h18 ?_
    rintro _ m2 ⟨Al,cl,rfl,hle2',hpl⟩
    have hle2:=hle1.trans hle2'
    have hp2:=hp1.mono hle2'
    have hap:=hap0 _ _ _ hpl
    have hls:=hpl.cells
    clear h18
    generalize hLs:q3s o=Ls at *
    have hr0:q1a o (Ls.take 0)=[]:=rfl
    conv=>whnf
    refine q0v.mk (Nat×Option Addr×Nat) (fun s=>[(8,.val (i s.1)),(3,.val (.slice s.2.1 (q0w o++q1a o (Ls.take s.1)).length s.2.2))]) (fun s m''=>Mem.le m m''∧q1s m m'' s.2.1 s.2.2 (q0w o++q1a o (Ls.take s.1))∧s.1≤Ls.length∧∀ ad,Al=some ad→q0g m'' ad (Ls.map i)∧q7r s.2.1 ad.block) (fun s=>Ls.length - s.1) (0,A0,c0) ⟨rfl,by show _=some (AV.val (.slice A0 (q0w o++q1a o (Ls.take 0)).length c0));rw [hr0,List.append_nil];rfl,trivial⟩ ⟨hle2,by show q1s m _ A0 c0 (q0w o++q1a o (Ls.take 0));rw [hr0,List.append_nil];exact hp2,Nat.zero_le _,fun ad ha=>⟨hls.2 ad ha,hap ad ha⟩⟩ ?_
    rintro ⟨k,B,cB⟩ m6 ⟨g1,g2,g3,g4⟩
    simp only at g2 g3 g4
    refine Br.mk (fun hb3=>?_) (fun hb3=>?_)
    ·have hk:k<Ls.length:=by
      have:(k:Int)<Ls.length:=of_decide_eq_true hb3
      omega
     have hlen:(q0w o++q1a o (Ls.take k)).length≤5:=by
      have h1:=z1u o
      have h2:(q1a o (Ls.take k)).length≤Ls.length:=Nat.le_trans (List.length_filter_le _ _) (by rw [List.length_take];omega)
      rw [List.length_append];omega
     obtain ⟨ad,rfl⟩:∃ ad,Al=some ad:=by
      cases Al with
      | none=>rw [hls.1 rfl] at hk;simp at hk
      | some ad=>exact ⟨ad,rfl⟩
     have hcell:q0q m6 (ad.add k) (i Ls[k]):=IAt.cell (g4 ad rfl).1 hk
     refine q5l ?_
     refine q6m ?_
     refine z3y ?_
     refine q6m ?_
     refine q9k ?_
     refine q7k rfl ?_
     refine Br.mk (fun h=>absurd h (by rw [hgf];decide)) (fun _=>?_)
     refine WIdx.mk ad rfl ⟨by omega,by simpa using hk⟩ ?_
     refine WLd.mk (i Ls[k]) (by simpa using hcell) ?_
     refine Br.mk (fun h=>by cases h) (fun _=>?_)
     refine Br.mk (fun hb4=>?_) (fun hb4=>?_)
     ·have hB:((o.gd==-1)||!(Ls[k]==o.gd))=true:=by rw [hgf];exact hb4
      have hput:q0w o++q1a o (Ls.take (k+1))=(q0w o++q1a o (Ls.take k))++[Ls[k]]:=by rw [z0q hk,if_pos hB,List.append_assoc]
      refine WIdx.mk ad rfl ⟨by omega,by simpa using hk⟩ ?_
      refine WLd.mk (i Ls[k]) (by simpa using hcell) ?_
      refine WNew.mk fun bz hbz=>?_
      conv=>whnf
      refine z4n (L:=q0w o++q1a o (Ls.take k)) (z:=Ls[k]) (g1.trans (Mem.le_set hbz)) (g2.mono (Mem.le_set hbz)) (Mem.set_same _ _ _) rfl (by omega) fun a9 c9 m9 hle9 hp9 hfr=>?_
      have hl2:(q0w o++q1a o (Ls.take k)).length+1=(q0w o++q1a o (Ls.take (k+1))).length:=by rw [hput];simp only [List.length_append,List.length_singleton]
      rw [← hput] at hp9
      rw [hl2]
      have hobj:∃ ob,m6 ad.block=some ob:=by
       obtain ⟨c1,T1,f1,e1,_⟩:=hcell
       have hb:(ad.add k).block=ad.block:=by unfold Addr.add;split<;>rfl
       exact ⟨_,by rw [← hb];exact e1⟩
      obtain ⟨ob,hob⟩:=hobj
      have hkeep:=hfr ad.block ob (Mem.le_set hbz _ _ hob) (g4 ad rfl).2
      refine WRng.mk (by apply wrap_i64<;>omega) ?_
      conv=>whnf
      exact ⟨(k+1,a9,c9),⟨rfl,rfl,trivial⟩,⟨hle9,hp9,hk,fun ad' ha'=>by cases ha';exact ⟨q0g.keep (g4 ad rfl).1 fun o2 h2=>by rw [hob] at h2;cases h2;exact hkeep.1,hkeep.2⟩⟩,by simp only;omega⟩
     ·have hB:((o.gd==-1)||!(Ls[k]==o.gd))=false:=by rw [hgf];exact hb4
      have hput:q0w o++q1a o (Ls.take (k+1))=q0w o++q1a o (Ls.take k):=by rw [z0q hk,if_neg (by rw [hB];decide)]
      refine WRng.mk (by apply wrap_i64<;>omega) ?_
      conv=>whnf
      exact ⟨(k+1,B,cB),⟨rfl,by rw [hput];rfl,trivial⟩,⟨g1,by rw [hput];exact g2,hk,g4⟩,by simp only;omega⟩
    ·have hk:k=Ls.length:=by
      have:¬ (k:Int)<Ls.length:=of_decide_eq_false hb3
      omega
     subst hk
     rw [List.take_length] at g2
     exact WRet.same ⟨B,cB,by rw [List.take_length];rfl,g1,g2⟩
   have h26:o.kd=26:=by simpa using hb2
   conv=>whnf
   obtain ⟨Ls,hLe⟩:∃ Ls:List Int,Ls=[]:=⟨_,rfl⟩
   have hLs:q3s o=[]:=by unfold q3s;rw [if_neg h27,if_pos h26]
   rw [hLs]
   have hr0:q1a o []=[]:=rfl
   rw [hr0,List.append_nil]
   refine q0v.mk Unit (fun _=>[(8,.val (i 0)),(3,.val (.slice A0 (q0w o).length c0))]) (fun _ m''=>m1=m'') (fun _=>0) () ⟨rfl,rfl,trivial⟩ rfl ?_
   rintro _ m6 rfl
   refine Br.mk (fun h=>?_) (fun _=>?_)
   ·exfalso;simp at h
   exact WRet.same ⟨A0,c0,rfl,hle1,hp1⟩
  ·have hgd:o.gd=-1:=by simpa using hg
   have hgf:(o.gd==-1)=true:=by simp [hgd]
   have hgl:q0w o=[]:=by unfold q0w;rw [if_pos hgd]
   have hp1:q1s m m none 0 (q0w o):=by rw [hgl];exact .inl ⟨rfl,rfl,rfl⟩
   have hle1:=Mem.le.refl m
   have hap0:∀ (m2:Mem) (X:Option Addr) (cX:Nat) {Y:List Int},q1s m m2 X cX Y→∀ (ad:Addr),X=some ad→q7r none ad.block:=fun m2 X cX Y hX ad ha bb hbb=>by cases hbb
   refine WSc.mk (fun _=>And.intro (Mem.le.refl _) rfl) ?_
   refine Br.mk (fun hb=>?_) (fun hb=>?_)
   ·have h27:o.kd=27∨o.kd=28:=by simp only [scB] at hb;simp at hb;omega
    refine WNew.mk fun bl hbl=>?_
    have hpl:q1s m (m.set bl (Cells [i o.a] 3)) (some ⟨bl,0,none⟩) 1 [o.a]:=z4e hbl (Mem.set_same _ _ _)
    have hle2:=hle1.trans (Mem.le_set (o:=Cells [i o.a] 3) hbl)
    have hp2:=hp1.mono (Mem.le_set (o:=Cells [i o.a] 3) hbl)
    have hap:=hap0 _ _ _ hpl
    have hls:=hpl.cells
    have hLs0:q3s o=[o.a]:=by unfold q3s;rw [if_pos h27]
    conv=>whnf
    obtain ⟨Ls,hLe⟩:∃ Ls,Ls=[o.a]:=⟨_,rfl⟩
    have hLs:q3s o=Ls:=by rw [hLs0,hLe]
    have hll:Ls.length=1:=by rw [hLe];rfl
    have hl4:Ls.length≤4:=by omega
    have hr0:q1a o (Ls.take 0)=[]:=rfl
    rw [← hLe] at hls
    generalize (some (⟨bl,0,none⟩:Addr))=Al at *
    refine q0v.mk (Nat×Option Addr×Nat) (fun s=>[(8,.val (i s.1)),(3,.val (.slice s.2.1 (q0w o++q1a o (Ls.take s.1)).length s.2.2))]) (fun s m''=>Mem.le m m''∧q1s m m'' s.2.1 s.2.2 (q0w o++q1a o (Ls.take s.1))∧s.1≤Ls.length∧∀ ad,Al=some ad→q0g m'' ad (Ls.map i)∧q7r s.2.1 ad.block) (fun s=>Ls.length - s.1) (0,none,0) ⟨rfl,by show _=some (AV.val (.slice none (q0w o++q1a o (Ls.take 0)).length 0));rw [hr0,List.append_nil,hgl];rfl,trivial⟩ ⟨hle2,by show q1s m _ none 0 (q0w o++q1a o (Ls.take 0));rw [hr0,List.append_nil];exact hp2,Nat.zero_le _,fun ad ha=>⟨hls.2 ad ha,hap ad ha⟩⟩ ?_
    rintro ⟨k,B,cB⟩ m6 ⟨g1,g2,g3,g4⟩
    simp only at g2 g3 g4
    refine Br.mk (fun hb3=>?_) (fun hb3=>?_)
    ·have hk:k<Ls.length:=by
      have:(k:Int)<(1:Nat):=of_decide_eq_true hb3
      omega
     have hlen:(q0w o++q1a o (Ls.take k)).length≤5:=by
      have h1:=z1u o
      have h2:(q1a o (Ls.take k)).length≤Ls.length:=Nat.le_trans (List.length_filter_le _ _) (by rw [List.length_take];omega)
      rw [List.length_append];omega
     obtain ⟨ad,rfl⟩:∃ ad,Al=some ad:=by
      cases Al with
      | none=>rw [hls.1 rfl] at hk;simp at hk
      | some ad=>exact ⟨ad,rfl⟩
     have hcell:q0q m6 (ad.add k) (i Ls[k]):=IAt.cell (g4 ad rfl).1 hk
     refine q5l ?_
     refine q6m ?_
     refine z3y ?_
     refine q6m ?_
     refine q9k ?_
     refine q7k rfl ?_
     refine Br.mk (fun _=>?_) (fun h=>absurd h (by rw [hgf];decide))
     refine Br.mk (fun _=>?_) (fun h=>by cases h)
     refine Br.mk (fun _=>?_) (fun h=>by cases h)
     have hB:((o.gd==-1)||!(Ls[k]==o.gd))=true:=by rw [hgf];rfl
     have hput:q0w o++q1a o (Ls.take (k+1))=(q0w o++q1a o (Ls.take k))++[Ls[k]]:=by rw [z0q hk,if_pos hB,List.append_assoc]
     refine WIdx.mk ad rfl ⟨by omega,by show (k:Int)<_;omega⟩ ?_
     refine WLd.mk (i Ls[k]) (by simpa using hcell) ?_
     refine WNew.mk fun bz hbz=>?_
     conv=>whnf
     refine z4n (L:=q0w o++q1a o (Ls.take k)) (z:=Ls[k]) (g1.trans (Mem.le_set hbz)) (g2.mono (Mem.le_set hbz)) (Mem.set_same _ _ _) rfl (by omega) fun a9 c9 m9 hle9 hp9 hfr=>?_
     have hl2:(q0w o++q1a o (Ls.take k)).length+1=(q0w o++q1a o (Ls.take (k+1))).length:=by rw [hput];simp only [List.length_append,List.length_singleton]
     rw [← hput] at hp9
     rw [hl2]
     have hobj:∃ ob,m6 ad.block=some ob:=by
      obtain ⟨c1,T1,f1,e1,_⟩:=hcell
      have hb:(ad.add k).block=ad.block:=by unfold Addr.add;split<;>rfl
      exact ⟨_,by rw [← hb];exact e1⟩
     obtain ⟨ob,hob⟩:=hobj
     have hkeep:=hfr ad.block ob (Mem.le_set hbz _ _ hob) (g4 ad rfl).2
     refine WRng.mk (by apply wrap_i64<;>omega) ?_
     conv=>whnf
     exact ⟨(k+1,a9,c9),⟨rfl,rfl,trivial⟩,⟨hle9,hp9,hk,fun ad' ha'=>by cases ha';exact ⟨q0g.keep (g4 ad rfl).1 fun o2 h2=>by rw [hob] at h2;cases h2;exact hkeep.1,hkeep.2⟩⟩,by simp only;omega⟩
    ·have hk:k=Ls.length:=by
      have:¬ (k:Int)<(1:Nat):=of_decide_eq_false hb3
      omega
     subst hk
     rw [List.take_length] at g2
     exact WRet.same ⟨B,cB,by rw [List.take_length,hLs];rfl,g1,by rw [hLs];exact g2⟩
   have h27:¬ (o.kd=27∨o.kd=28):=by simp only [scB] at hb;simp at hb;omega
   refine Br.mk (fun hb2=>?_) (fun hb2=>?_)
   ·have h26:o.kd≠26:=by simpa using hb2
    conv=>whnf
    have hm0:q3s o=(if 1≤o.kd∧o.kd≤25 then q0h (q3t o) else []):=by unfold q3s;rw [if_neg h27,if_neg h26]
    have h18:z1k Tryz.prog 116 [(OpR.mk o.kd o.ds o.a o.b o.c o.n (-1)).val] m (q3s o):=by
     rw [hm0];exact v5v m (OpR.mk o.kd o.ds o.a o.b o.c o.n (-1)) rfl
    have hl4:(q3s o).length≤4:=by
     rw [hm0]
     split
     ·have h1:=q4t (q3t o) []
      have h2:(q3t o).length≤3:=by
       unfold q3t;simp only [List.length_append];split<;>split<;>split<;>simp
      unfold q0h;simp only [List.length_nil] at h1;omega
     ·simp
    clear hm0
    refine q0a.mk h18 ?_
    rintro _ m2 ⟨Al,cl,rfl,hle2',hpl⟩
    have hle2:=hle1.trans hle2'
    have hp2:=hp1.mono hle2'
    have hap:=hap0 _ _ _ hpl
    have hls:=hpl.cells
    clear h18
    generalize hLs:q3s o=Ls at *
    have hr0:q1a o (Ls.take 0)=[]:=rfl
    conv=>whnf
    refine q0v.mk (Nat×Option Addr×Nat) (fun s=>[(8,.val (i s.1)),(3,.val (.slice s.2.1 (q0w o++q1a o (Ls.take s.1)).length s.2.2))]) (fun s m''=>Mem.le m m''∧q1s m m'' s.2.1 s.2.2 (q0w o++q1a o (Ls.take s.1))∧s.1≤Ls.length∧∀ ad,Al=some ad→q0g m'' ad (Ls.map i)∧q7r s.2.1 ad.block) (fun s=>Ls.length - s.1) (0,none,0) ⟨rfl,by show _=some (AV.val (.slice none (q0w o++q1a o (Ls.take 0)).length 0));rw [hr0,List.append_nil,hgl];rfl,trivial⟩ ⟨hle2,by show q1s m _ none 0 (q0w o++q1a o (Ls.take 0));rw [hr0,List.append_nil];exact hp2,Nat.zero_le _,fun ad ha=>⟨hls.2 ad ha,hap ad ha⟩⟩ ?_
    rintro ⟨k,B,cB⟩ m6 ⟨g1,g2,g3,g4⟩
    simp only at g2 g3 g4
    refine Br.mk (fun hb3=>?_) (fun hb3=>?_)
    ·have hk:k<Ls.length:=by
      have:(k:Int)<Ls.length:=of_decide_eq_true hb3
      omega
     have hlen:(q0w o++q1a o (Ls.take k)).length≤5:=by
      have h1:=z1u o
      have h2:(q1a o (Ls.take k)).length≤Ls.length:=Nat.le_trans (List.length_filter_le _ _) (by rw [List.length_take];omega)
      rw [List.length_append];omega
     obtain ⟨ad,rfl⟩:∃ ad,Al=some ad:=by
      cases Al with
      | none=>rw [hls.1 rfl] at hk;simp at hk
      | some ad=>exact ⟨ad,rfl⟩
     have hcell:q0q m6 (ad.add k) (i Ls[k]):=IAt.cell (g4 ad rfl).1 hk
     refine q5l ?_
     refine q6m ?_
     refine z3y ?_
     refine q6m ?_
     refine q9k ?_
     refine q7k rfl ?_
     refine Br.mk (fun _=>?_) (fun h=>absurd h (by rw [hgf];decide))
     refine Br.mk (fun _=>?_) (fun h=>by cases h)
     refine Br.mk (fun _=>?_) (fun h=>by cases h)
     have hB:((o.gd==-1)||!(Ls[k]==o.gd))=true:=by rw [hgf];rfl
     have hput:q0w o++q1a o (Ls.take (k+1))=(q0w o++q1a o (Ls.take k))++[Ls[k]]:=by rw [z0q hk,if_pos hB,List.append_assoc]
     refine WIdx.mk ad rfl ⟨by omega,by simpa using hk⟩ ?_
     refine WLd.mk (i Ls[k]) (by simpa using hcell) ?_
     refine WNew.mk fun bz hbz=>?_
     conv=>whnf
     refine z4n (L:=q0w o++q1a o (Ls.take k)) (z:=Ls[k]) (g1.trans (Mem.le_set hbz)) (g2.mono (Mem.le_set hbz)) (Mem.set_same _ _ _) rfl (by omega) fun a9 c9 m9 hle9 hp9 hfr=>?_
     have hl2:(q0w o++q1a o (Ls.take k)).length+1=(q0w o++q1a o (Ls.take (k+1))).length:=by rw [hput];simp only [List.length_append,List.length_singleton]
     rw [← hput] at hp9
     rw [hl2]
     have hobj:∃ ob,m6 ad.block=some ob:=by
      obtain ⟨c1,T1,f1,e1,_⟩:=hcell
      have hb:(ad.add k).block=ad.block:=by unfold Addr.add;split<;>rfl
      exact ⟨_,by rw [← hb];exact e1⟩
     obtain ⟨ob,hob⟩:=hobj
     have hkeep:=hfr ad.block ob (Mem.le_set hbz _ _ hob) (g4 ad rfl).2
     refine WRng.mk (by apply wrap_i64<;>omega) ?_
     conv=>whnf
     exact ⟨(k+1,a9,c9),⟨rfl,rfl,trivial⟩,⟨hle9,hp9,hk,fun ad' ha'=>by cases ha';exact ⟨q0g.keep (g4 ad rfl).1 fun o2 h2=>by rw [hob] at h2;cases h2;exact hkeep.1,hkeep.2⟩⟩,by simp only;omega⟩
    ·have hk:k=Ls.length:=by
      have:¬ (k:Int)<Ls.length:=of_decide_eq_false hb3
      omega
     subst hk
     rw [List.take_length] at g2
     exact WRet.same ⟨B,cB,by rw [List.take_length];rfl,g1,g2⟩
   have h26:o.kd=26:=by simpa using hb2
   conv=>whnf
   obtain ⟨Ls,hLe⟩:∃ Ls:List Int,Ls=[]:=⟨_,rfl⟩
   have hLs:q3s o=[]:=by unfold q3s;rw [if_neg h27,if_pos h26]
   rw [hLs]
   have hr0:q1a o []=[]:=rfl
   rw [hr0,List.append_nil]
   refine q0v.mk Unit (fun _=>[(8,.val (i 0)),(3,.val (.slice none (q0w o).length 0))]) (fun _ m''=>m=m'') (fun _=>0) () ⟨rfl,by rw [hgl];rfl,trivial⟩ rfl ?_
   rintro _ m6 rfl
   refine Br.mk (fun h=>?_) (fun _=>?_)
   ·exfalso;simp at h
   exact WRet.same ⟨none,0,rfl,hle1,hp1⟩
end Go.Proofs.YtleofbpepfmfgaaGreatDoor
