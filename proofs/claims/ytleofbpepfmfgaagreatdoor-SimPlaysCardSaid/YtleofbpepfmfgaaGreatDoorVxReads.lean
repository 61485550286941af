import Derived.Test.YtleofbpepfmfgaaGreatDoorVxMach
set_option maxRecDepth 100000
namespace Go.Proofs.YtleofbpepfmfgaaGreatDoor
open Go Go.Vx
open Go.Vx.IOp Go.Vx.IR Go.Vx.Opd
structure OpR where
 kd:Int
 ds:Int
 a:Int
 b:Int
 c:Int
 n:Int
 gd:Int
def OpR.cells (o:OpR):List Value:=[i o.kd,i o.ds,i o.a,i o.b,i o.c,i o.n,i o.gd]
def OpR.val (o:OpR):Value:=.agg ⟨o.cells⟩
def OpR.arg (o:OpR):Nat→Int | 0=>o.a | 1=>o.b | _=>o.c
def z1k (P:Program) (f:Nat) (vs:List Value) (m:Mem) (L:List Int):Prop:=q0f P f vs m fun e m'=>∃ a c,e=.returned (.slice a L.length c)∧Mem.le m m'∧q1s m m' a c L
theorem v3c {m0 m:Mem} {a x:Option Addr} {c n n':Nat} {L N:List Int} {K:Value→Mem→Prop} (hle:Mem.le m0 m) (hp:q1s m0 m a c L) (hx0:x=none→N=[]) (hx:∀ ad,x=some ad→q0g m ad (N.map i)) (hn:n=L.length) (hn':n'=N.length) (hlen:L.length+N.length<1099511627776)
  (k:∀ a' c' m',Mem.le m0 m'→q1s m0 m' a' c' (L++N)→K (.slice a' (L.length+N.length) c') m'):WApp m 3 1 8 [i 0] a n c x n' K:=by
 subst hn;subst hn'
 have hnew:q2v m x (N.length * 1) (N.map i):=⟨by simp,fun ad had=>hx ad had⟩
 have hnone:∀ b2,m b2=none→m0 b2=none:=fun b2 h=>by
  cases hh:m0 b2 with
  | none=>rfl
  | some o=>rw [hle b2 o hh] at h;cases h
 have hzero:N=[]∨N≠[]:=by cases N<;>simp
 rcases hp with ⟨rfl,rfl,rfl⟩ | ⟨b,rfl,h1,h2,h3⟩
 ·rcases hzero with rfl | hN
  ·unfold WApp
   exact ⟨_,hnew,fun _=>rfl,fun _=>.inl ⟨rfl,rfl,k none 0 m hle (.inl ⟨rfl,rfl,rfl⟩)⟩,fun h=>absurd h (by simp)⟩
  ·have hpos:0<N.length:=List.length_pos_iff.2 hN
   refine WApp.grow _ hnew (fun h=>by rw [hx0 h];rfl) (by simp only [List.length_nil];omega) (by simp only [List.length_nil] at hlen ⊢;omega) [] ⟨rfl,fun ad h=>by cases h⟩ (fun _=>rfl) fun b2 c2 hb2 hc2=>?_
   refine k _ _ _ (q2n hle (hnone _ hb2)) (.inr ⟨b2,rfl,by simpa using hc2,hnone _ hb2,?_⟩)
   rw [Mem.set_same,q9z];simp
 ·by_cases hcc:L.length+N.length≤c
  ·have e:q0j (L.map i++List.replicate (c - L.length) (i 0)) (0+L.length * 1) (N.map i)=(L++N).map i++List.replicate (c - (L++N).length) (i 0):=by
    rw [q5x _ _ _ (by simp;omega),Nat.zero_add,Nat.mul_one]
    have e1:(L.map i++List.replicate (c - L.length) (i 0)).take L.length=L.map i:=by rw [List.take_left' (by simp)]
    have e2:(L.map i++List.replicate (c - L.length) (i 0)).drop (L.length+(N.map i).length)=List.replicate (c - (L++N).length) (i 0):=by
     rw [← List.drop_drop,List.drop_left' (by simp),List.drop_replicate]
     congr 1;simp;omega
    rw [e1,e2,List.map_append]
   refine WApp.in (ad:=⟨b,0,none⟩) _ hnew (fun h=>by rw [hx0 h];rfl) _ 3 hcc h3 rfl ?_ ?_ ?_
   ·rw [List.length_append,List.length_map,List.length_replicate];simp only;omega
   ·clear e hnew hx hcc hlen k hx0 hzero
    induction N with
    | nil=>rfl
    | cons y ys ih=>simpa [oneL] using ih
   ·refine k _ _ _ (q2n hle h2) (.inr ⟨b,rfl,by rw [List.length_append];exact hcc,h2,?_⟩)
    rw [Mem.set_same,e]
  ·refine WApp.grow _ hnew (fun h=>by rw [hx0 h];rfl) (by omega) (by omega) (L.map i) ⟨by simp,fun ad had=>by cases had;exact q0g.blk h3 fun j v hj=>by rw [Nat.zero_add,List.getElem?_append_left (List.getElem?_eq_some_iff.1 hj).1];exact hj⟩ (fun h=>by cases h) fun b2 c2 hb2 hc2=>?_
   refine k _ _ _ (q2n hle (hnone _ hb2)) (.inr ⟨b2,rfl,by simpa using hc2,hnone _ hb2,?_⟩)
   rw [Mem.set_same,q9z]
   simp
def bitU (u:Int) (j:Nat):Bool:=IntKind.i64.wrap ((BitVec.ofInt IntKind.i64.bits u &&& BitVec.ofInt IntKind.i64.bits (IntKind.i64.wrap (2 * 2 ^ min ((j:Int)).toNat IntKind.i64.bits))).toNat) != 0
def q2x (o:OpR) (k:Nat):List Int:=((List.range k).filter (bitU (useT o.kd))).map o.arg
theorem z1l {o:OpR} {k:Nat}:q2x o (k+1)=if bitU (useT o.kd) k=true then q2x o k++[o.arg k] else q2x o k:=by
 unfold q2x
 rw [List.range_succ,List.filter_append,List.map_append]
 by_cases h:bitU (useT o.kd) k=true
 ·rw [if_pos h];simp [h]
 ·rw [if_neg h];simp [h]
theorem z3d {o:OpR} {k:Nat}:(q2x o k).length≤k:=by
 unfold q2x
 rw [List.length_map]
 exact Nat.le_trans (List.length_filter_le _ _) (by simp)
theorem z4d {m:Mem} {T:Nat} {fr:Nat×Nat} (hm:m 0=some (.cells ⟨q2f⟩ T fr)) (o:OpR) (hk:1≤o.kd∧o.kd≤25) :
  z1k Tryz.prog 140 [o.val] m (q2x o 3):=by
 refine q0e q0d Tryz.func140 w2t rfl ?_
 conv=>whnf
 refine q0a.pure (z2p hm o.kd) ?_
 rw [if_pos hk,decide_eq_true hk]
 conv=>whnf
 refine q0v.mk (Nat×Option Addr×Nat) (fun s=>[(21,.val (i s.1)),(5,.val (.slice s.2.1 (q2x o s.1).length s.2.2))]) (fun s m'=>Mem.le m m'∧q1s m m' s.2.1 s.2.2 (q2x o s.1)∧s.1≤3) (fun s=>3 - s.1) (0,none,0) ⟨rfl,rfl,trivial⟩ ⟨Mem.le.refl _,.inl ⟨rfl,rfl,rfl⟩,Nat.zero_le _⟩ ?_
 rintro ⟨k,A,cA⟩ m6 ⟨g1,g2,g3⟩
 simp only at g2 g3
 refine Br.mk (fun hb3=>?_) (fun hb3=>?_)
 ·have hk3:k<3:=by
   have:(k:Int)<3:=of_decide_eq_true hb3
   omega
  refine WBnd.mk ⟨by omega,by omega⟩ ?_
  refine WGet.mk (i (o.arg k)) (by
   have:k=0∨k=1∨k=2:=by omega
   rcases this with rfl | rfl | rfl<;>rfl) ?_
  refine WBnd.mk ⟨by omega,by omega⟩ ?_
  refine Br.mk (fun hb4=>?_) (fun hb4=>?_)
  ·have hbit:bitU (useT o.kd) k=true:=hb4
   have hsucc:q2x o (k+1)=q2x o k++[o.arg k]:=by rw [z1l,if_pos hbit]
   have hl:=z3d (o:=o) (k:=k)
   refine WNew.mk fun bx hbx=>?_
   conv=>whnf
   refine q4a (L:=q2x o k) (z:=o.arg k) (g1.trans (Mem.le_set hbx)) (g2.mono (Mem.le_set hbx)) (Mem.set_same _ _ _) rfl (by omega) fun a' c' m' hle8 hp8=>?_
   have hl2:(q2x o k).length+1=(q2x o (k+1)).length:=by rw [hsucc];simp
   rw [← hsucc] at hp8
   rw [hl2]
   refine WRng.mk (by apply wrap_i64<;>omega) ?_
   conv=>whnf
   exact ⟨(k+1,a',c'),⟨rfl,rfl,trivial⟩,⟨hle8,hp8,hk3⟩,by simp only;omega⟩
  ·have hbit:¬ bitU (useT o.kd) k=true:=fun h=>by rw [show bitU (useT o.kd) k=false from hb4] at h;cases h
   have hsucc:q2x o (k+1)=q2x o k:=by rw [z1l,if_neg hbit]
   refine WRng.mk (by apply wrap_i64<;>omega) ?_
   conv=>whnf
   exact ⟨(k+1,A,cA),⟨rfl,by rw [hsucc];rfl,trivial⟩,⟨g1,by rw [hsucc];exact g2,hk3⟩,by simp only;omega⟩
 ·have hk3:k=3:=by
   have:¬ (k:Int)<3:=of_decide_eq_false hb3
   omega
  subst hk3
  exact WRet.same ⟨A,cA,rfl,g1,g2⟩
def q0w (o:OpR):List Int:=if o.gd=-1 then [] else [o.gd]
theorem z4e {m m1:Mem} {b:Nat} {z:Int} (hb:m b=none) (h:m1 b=some (Cells [i z] 3)):q1s m m1 (some ⟨b,0,none⟩) 1 [z]:=.inr ⟨b,rfl,Nat.le_refl _,hb,by simpa using h⟩
theorem q1s.cells {m0 m:Mem} {a:Option Addr} {c:Nat} {L:List Int} (h:q1s m0 m a c L):(a=none→L=[])∧∀ ad,a=some ad→q0g m ad (L.map i):=by
 obtain ⟨a2,c2,e,h0,h1,_⟩:=h.iat
 cases e
 exact ⟨h0,h1⟩
theorem k2v {m:Mem} {T:Nat} {fr:Nat×Nat} (hm:m 0=some (.cells ⟨q2f⟩ T fr)) (o:OpR) :
  q0f Tryz.prog 108 [o.val] m fun e m'=>∃ a c,e=.returned (.tuple ⟨[.slice a (if 1≤o.kd∧o.kd≤25 then q0w o++q2x o 3 else []).length c,i (if 1≤o.kd∧o.kd≤25 then 0 else 4)]⟩)∧Mem.le m m' ∧
   q1s m m' a c (if 1≤o.kd∧o.kd≤25 then q0w o++q2x o 3 else []):=by
 refine q0e q0d Tryz.func108 j1r rfl ?_
 conv=>whnf
 refine q0a.pure (z2p hm o.kd) ?_
 by_cases hk:1≤o.kd∧o.kd≤25
 ·rw [if_pos hk,decide_eq_true hk]
  simp only [if_pos hk]
  have hl:=z3d (o:=o) (k:=3)
  refine Br.mk (fun h=>by cases h) (fun _=>?_)
  refine Br.mk (fun hg=>?_) (fun hg=>?_)
  ·have hgd:o.gd≠-1:=by simpa using hg
   have hgl:q0w o=[o.gd]:=by unfold q0w;rw [if_neg hgd]
   rw [hgl]
   conv=>whnf
   refine ⟨?_,?_,trivial⟩
   ·refine WNew.mk fun bx hbx=>?_
    conv=>whnf
    refine ⟨?_,trivial⟩
    conv=>whnf
    refine q1r.mk (z4d (Mem.le_set hbx _ _ hm) o hk) ?_
    rintro _ m2 ⟨A,cA,rfl,hle2,hp2⟩
    refine ⟨hle2,?_⟩
    conv=>whnf
    refine ⟨?_,trivial⟩
    conv=>whnf
    have hle:=(Mem.le_set (o:=Cells [i o.gd] 3) hbx).trans hle2
    refine v3c (L:=[o.gd]) (N:=q2x o 3) hle (z4e hbx (hle2 _ _ (Mem.set_same _ _ _))) hp2.cells.1 hp2.cells.2 rfl rfl (by simp only [List.length_singleton];omega) fun a' c' m' hle8 hp8=>?_
    exact WRet.same ⟨a',c',by rw [List.length_append];rfl,hle8,hp8⟩
   ·conv=>whnf
    refine q1r.mk (z4d hm o hk) ?_
    rintro _ m2 ⟨A,cA,rfl,hle2,hp2⟩
    refine ⟨hle2,?_⟩
    conv=>whnf
    refine ⟨?_,trivial⟩
    refine WNew.mk fun bx hbx=>?_
    conv=>whnf
    refine ⟨?_,trivial⟩
    conv=>whnf
    have hle:=hle2.trans (Mem.le_set (o:=Cells [i o.gd] 3) hbx)
    have hbm:m bx=none:=by
     cases hh:m bx with
     | none=>rfl
     | some o=>rw [hle2 bx o hh] at hbx;cases hbx
    have hp3:=hp2.mono (Mem.le_set (o:=Cells [i o.gd] 3) hbx)
    refine v3c (L:=[o.gd]) (N:=q2x o 3) hle (z4e hbm (Mem.set_same _ _ _)) hp3.cells.1 hp3.cells.2 rfl rfl (by simp only [List.length_singleton];omega) fun a' c' m' hle8 hp8=>?_
    exact WRet.same ⟨a',c',by rw [List.length_append];rfl,hle8,hp8⟩
  ·have hgd:o.gd=-1:=by simpa using hg
   have hgl:q0w o=[]:=by unfold q0w;rw [if_pos hgd]
   rw [hgl]
   conv=>whnf
   refine q0a.mk (z4d hm o hk) ?_
   rintro _ m2 ⟨A,cA,rfl,hle2,hp2⟩
   exact WRet.same ⟨A,cA,rfl,hle2,hp2⟩
 ·rw [if_neg hk,decide_eq_false hk]
  simp only [if_neg hk]
  refine Br.mk (fun _=>?_) (fun h=>by cases h)
  exact WRet.same ⟨none,0,rfl,Mem.le.refl _,.inl ⟨rfl,rfl,rfl⟩⟩
theorem k3b {m:Mem} {v:Value} {C:List Int} (hv:IAt m v C) (hlen:C.length<2 ^ 63) (z:Int):q0m Tryz.prog 141 [v,i z] m (i (q4q (fun y=>z==y) C)):=by
 obtain ⟨a,c,rfl,h0,h1,hcap⟩:=hv
 refine q0e q0d Tryz.func141 j6a rfl ?_
 conv=>whnf
 refine q0v.mk Nat (fun k=>[(8,.val (i k))]) (fun k m'=>m=m'∧k≤C.length∧∀ j (hj:j<C.length),j<k→(z==C[j])=false) (fun k=>C.length - k) 0 ⟨rfl,trivial⟩ ⟨rfl,Nat.zero_le _,fun j hj h=>by omega⟩ ?_
 rintro k m' ⟨rfl,hk,hq⟩
 refine Br.mk (fun hb=>?_) (fun hb=>?_)
 ·have hk2:k<C.length:=by simpa using hb
  conv=>whnf
  cases a with
  | none=>rw [h0 rfl] at hk2;simp at hk2
  | some ad =>
   refine WIdx.mk ad rfl ⟨by omega,by simpa using hk2⟩ ?_
   refine WLd.mk (i C[k]) (by simpa using IAt.cell (h1 ad rfl) hk2) ?_
   refine Br.mk (fun hb2=>?_) (fun hb2=>?_)
   ·refine WRet.same ⟨?_,rfl⟩
    unfold q4q
    rw [z8k hk2 (fun j hj=>hq j (by omega) hj) hb2]
    rfl
   ·refine WRng.mk (by apply wrap_i64<;>omega) ?_
    conv=>whnf
    refine ⟨k+1,⟨rfl,trivial⟩,⟨rfl,hk2,fun j hj h=>?_⟩,by omega⟩
    by_cases e:j=k
    ·subst e;exact hb2
    ·exact hq j hj (by omega)
 ·have hk2:¬ k<C.length:=by simpa using hb
  refine WRet.same ⟨?_,rfl⟩
  unfold q4q
  rw [z8d fun j hj=>hq j hj (by omega)]
  rfl
theorem q9y {m:Mem} {v:Value} {C:List Int} (hv:IAt m v C) (hlen:C.length<2 ^ 63) (z:Int):q0m Tryz.prog 109 [v,i z] m (.bool (C.any fun y=>z==y)):=by
 refine q0e q0d Tryz.func109 k5h rfl ?_
 conv=>whnf
 refine q0a.pure (k3b hv hlen z) ?_
 refine WRet.same ⟨?_,rfl⟩
 rw [show q8h [Value.bool (decide (q4q (fun y=>z==y) C≥0))]=.bool (decide (q4q (fun y=>z==y) C≥0)) from rfl,z7h]
def putS (acc:List Int) (r:Int):List Int:=if (acc.any fun y=>r==y)=true then acc else acc++[r]
def q0h (L:List Int):List Int:=L.foldl putS []
def rawS (o:OpR):List Int :=
 if o.kd=26 then q0w o else if o.kd=27∨o.kd=28 then q0w o++[o.a] else if 1≤o.kd∧o.kd≤25 then q0w o++q2x o 3 else []
def q0b (o:OpR):List Int:=q0h (rawS o)
theorem z1u (o:OpR):(q0w o).length≤1:=by unfold q0w;split<;>simp
theorem q8f (o:OpR):(rawS o).length≤4:=by
 have h1:=z1u o
 have h2:=z3d (o:=o) (k:=3)
 unfold rawS
 split
 ·omega
 ·split
  ·simp only [List.length_append,List.length_singleton];omega
  ·split
   ·simp only [List.length_append];omega
   ·simp
theorem k6z {acc:List Int} {r:Int}:(putS acc r).length≤acc.length+1:=by unfold putS;split<;>simp
theorem q4t:∀ (L acc:List Int),(L.foldl putS acc).length≤acc.length+L.length
 | [],acc=>by simp
 | r :: L,acc=>by
  have h1:=q4t L (putS acc r)
  have h2:=k6z (acc:=acc) (r:=r)
  simp only [List.foldl_cons,List.length_cons];omega
theorem q1s.base {m0 m1 m:Mem} {a:Option Addr} {c:Nat} {L:List Int} (h:q1s m1 m a c L) (hle:Mem.le m0 m1):q1s m0 m a c L:=by
 rcases h with h | ⟨b,h0,h1,h2,h3⟩
 ·exact .inl h
 ·refine .inr ⟨b,h0,h1,?_,h3⟩
  cases hh:m0 b with
  | none=>rfl
  | some o=>rw [hle b o hh] at h2;cases h2
theorem z2u {m:Mem} {T:Nat} {fr:Nat×Nat} (hm:m 0=some (.cells ⟨q2f⟩ T fr)) (o:OpR) :
  z1k Tryz.prog 76 [o.val] m (q0b o):=by
 refine q0e q0d Tryz.func76 k0z rfl ?_
 have hgy:o.gd≠-1→q0w o=[o.gd]:=fun h=>by unfold q0w;rw [if_neg h]
 have hgn:o.gd=-1→q0w o=[]:=fun h=>by unfold q0w;rw [if_pos h]
 have r26:o.kd=26→rawS o=q0w o:=fun h=>by unfold rawS;rw [if_pos h]
 have r27:o.kd=27∨o.kd=28→rawS o=q0w o++[o.a]:=fun h=>by unfold rawS;rw [if_neg (by omega),if_pos h]
 refine Br.mk (fun h=>?_) (fun n1=>?_)
 ·have h:o.kd=26:=by simpa using h
  refine Br.mk (fun _=>?_) (fun h2=>by cases h2)
  refine Br.mk (fun hg=>?_) (fun hg=>?_)
  ·have hgd:o.gd≠-1:=by simpa using hg
   refine WNew.mk fun bx hbx=>?_
   conv=>whnf
   refine q4a (L:=[]) (z:=o.gd) (Mem.le_set hbx) (.inl ⟨rfl,rfl,rfl⟩) (Mem.set_same _ _ _) rfl (by decide) fun A c m1 hle hp=>?_
   refine Br.mk (fun h2=>?_) (fun h2=>?_)
   ·exfalso;rw [h] at h2;simp at h2
   conv=>whnf
   generalize hL:([]++[o.gd]:List Int)=L at hp
   have hll:([]:List Int).length+1=L.length:=by rw [← hL];rfl
   rw [hll]
   -- the tail: each once
   have hraw:rawS o=L:=(by rw [r26 h,hgy hgd,← hL];rfl)
   have hL4:L.length≤4:=by rw [← hraw];exact q8f o
   have hres:q0b o=q0h L:=by unfold q0b;rw [hraw]
   rw [hres]
   obtain ⟨hx0,hx1⟩:=hp.cells
   refine q0v.mk (Nat×Option Addr×Nat) (fun s=>[(36,.val (i s.1)),(4,.val (.slice s.2.1 (q0h (L.take s.1)).length s.2.2))]) (fun s m''=>Mem.le m1 m''∧q1s m1 m'' s.2.1 s.2.2 (q0h (L.take s.1))∧s.1≤L.length) (fun s=>L.length - s.1) (0,none,0) ⟨rfl,rfl,trivial⟩ ⟨Mem.le.refl _,.inl ⟨rfl,rfl,rfl⟩,Nat.zero_le _⟩ ?_
   rintro ⟨k,B,cB⟩ m6 ⟨g1,g2,g3⟩
   simp only at g2 g3
   refine Br.mk (fun hb3=>?_) (fun hb3=>?_)
   ·have hk:k<L.length:=by
     have:(k:Int)<L.length:=of_decide_eq_true hb3
     omega
    have hsucc:q0h (L.take (k+1))=putS (q0h (L.take k)) L[k]:=by unfold q0h;exact q4k hk
    have hlen:(q0h (L.take k)).length≤4:=by
     have:=q4t (L.take k) []
     rw [List.length_take] at this
     unfold q0h;simp only [List.length_nil] at this;omega
    obtain ⟨ad,rfl⟩:∃ ad,A=some ad:=by
     cases A with
     | none=>rw [hx0 rfl] at hk;simp at hk
     | some ad=>exact ⟨ad,rfl⟩
    have hcell:q0q m6 (ad.add k) (i L[k]):=(IAt.cell (hx1 ad rfl) hk).mono g1
    refine WIdx.mk ad rfl ⟨by omega,by simpa using hk⟩ ?_
    refine WLd.mk (i L[k]) (by simpa using hcell) ?_
    conv=>whnf
    refine q0a.pure (q9y g2.iat (by omega) L[k]) ?_
    refine Br.mk (fun hb4=>?_) (fun hb4=>?_)
    ·have hno:¬ ((q0h (L.take k)).any fun y=>L[k]==y)=true:=fun hh=>by rw [hh] at hb4;cases hb4
     have hput:q0h (L.take (k+1))=q0h (L.take k)++[L[k]]:=by rw [hsucc];unfold putS;rw [if_neg hno]
     refine WNew.mk fun by1 hby1=>?_
     conv=>whnf
     refine q4a (L:=q0h (L.take k)) (z:=L[k]) (g1.trans (Mem.le_set hby1)) (g2.mono (Mem.le_set hby1)) (Mem.set_same _ _ _) rfl (by omega) fun a9 c9 m9 hle9 hp9=>?_
     have hl2:(q0h (L.take k)).length+1=(q0h (L.take (k+1))).length:=by rw [hput];simp
     rw [← hput] at hp9
     rw [hl2]
     refine WRng.mk (by apply wrap_i64<;>omega) ?_
     conv=>whnf
     exact ⟨(k+1,a9,c9),⟨rfl,rfl,trivial⟩,⟨hle9,hp9,hk⟩,by simp only;omega⟩
    ·have hyes:((q0h (L.take k)).any fun y=>L[k]==y)=true:=by
      cases hh:(q0h (L.take k)).any fun y=>L[k]==y with
      | true=>rfl
      | false=>rw [hh] at hb4;cases hb4
     have hput:q0h (L.take (k+1))=q0h (L.take k):=by rw [hsucc];unfold putS;rw [if_pos hyes]
     refine WRng.mk (by apply wrap_i64<;>omega) ?_
     conv=>whnf
     exact ⟨(k+1,B,cB),⟨rfl,by rw [hput];rfl,trivial⟩,⟨g1,by rw [hput];exact g2,hk⟩,by simp only;omega⟩
   ·have hk:k=L.length:=by
     have:¬ (k:Int)<L.length:=of_decide_eq_false hb3
     omega
    subst hk
    rw [List.take_length] at g2
    exact WRet.same ⟨B,cB,by rw [List.take_length];rfl,hle.trans g1,g2.base hle⟩
  ·have hgd:o.gd=-1:=by simpa using hg
   refine Br.mk (fun h2=>?_) (fun h2=>?_)
   ·exfalso;rw [h] at h2;simp at h2
   conv=>whnf
   have hres:q0b o=[]:=by unfold q0b;rw [r26 h,hgn hgd];rfl
   rw [hres]
   refine q0v.mk Unit (fun _=>[(36,.val (i 0)),(4,.val ns)]) (fun _ m''=>m=m'') (fun _=>0) () ⟨rfl,rfl,trivial⟩ rfl ?_
   rintro _ m6 rfl
   refine Br.mk (fun h2=>?_) (fun h2=>?_)
   ·exfalso;simp at h2
   exact WRet.same ⟨none,0,rfl,Mem.le.refl _,.inl ⟨rfl,rfl,rfl⟩⟩
 refine Br.mk (fun h=>?_) (fun n2=>?_)
 ·have h:o.kd=27:=by simpa using h
  refine Br.mk (fun _=>?_) (fun h2=>by cases h2)
  refine Br.mk (fun hg=>?_) (fun hg=>?_)
  ·have hgd:o.gd≠-1:=by simpa using hg
   refine WNew.mk fun bx hbx=>?_
   conv=>whnf
   refine q4a (L:=[]) (z:=o.gd) (Mem.le_set hbx) (.inl ⟨rfl,rfl,rfl⟩) (Mem.set_same _ _ _) rfl (by decide) fun A c m1 hle hp=>?_
   refine Br.mk (fun h2=>?_) (fun h2=>?_)
   rotate_left
   ·exfalso;rw [h] at h2;simp at h2
   refine WNew.mk fun by0 hby0=>?_
   conv=>whnf
   refine q4a (L:=[]++[o.gd]) (z:=o.a) (hle.trans (Mem.le_set hby0)) (hp.mono (Mem.le_set hby0)) (Mem.set_same _ _ _) rfl (by simp) fun A c m1 hle hp=>?_
   conv=>whnf
   generalize hL:(([]++[o.gd])++[o.a]:List Int)=L at hp
   have hll:([]++[o.gd]:List Int).length+1=L.length:=by rw [← hL];rfl
   rw [hll]
   -- the tail: each once
   have hraw:rawS o=L:=(by rw [r27 (.inl h),hgy hgd,← hL];rfl)
   have hL4:L.length≤4:=by rw [← hraw];exact q8f o
   have hres:q0b o=q0h L:=by unfold q0b;rw [hraw]
   rw [hres]
   obtain ⟨hx0,hx1⟩:=hp.cells
   refine q0v.mk (Nat×Option Addr×Nat) (fun s=>[(36,.val (i s.1)),(4,.val (.slice s.2.1 (q0h (L.take s.1)).length s.2.2))]) (fun s m''=>Mem.le m1 m''∧q1s m1 m'' s.2.1 s.2.2 (q0h (L.take s.1))∧s.1≤L.length) (fun s=>L.length - s.1) (0,none,0) ⟨rfl,rfl,trivial⟩ ⟨Mem.le.refl _,.inl ⟨rfl,rfl,rfl⟩,Nat.zero_le _⟩ ?_
   rintro ⟨k,B,cB⟩ m6 ⟨g1,g2,g3⟩
   simp only at g2 g3
   refine Br.mk (fun hb3=>?_) (fun hb3=>?_)
   ·have hk:k<L.length:=by
     have:(k:Int)<L.length:=of_decide_eq_true hb3
     omega
    have hsucc:q0h (L.take (k+1))=putS (q0h (L.take k)) L[k]:=by unfold q0h;exact q4k hk
    have hlen:(q0h (L.take k)).length≤4:=by
     have:=q4t (L.take k) []
     rw [List.length_take] at this
     unfold q0h;simp only [List.length_nil] at this;omega
    obtain ⟨ad,rfl⟩:∃ ad,A=some ad:=by
     cases A with
     | none=>rw [hx0 rfl] at hk;simp at hk
     | some ad=>exact ⟨ad,rfl⟩
    have hcell:q0q m6 (ad.add k) (i L[k]):=(IAt.cell (hx1 ad rfl) hk).mono g1
    refine WIdx.mk ad rfl ⟨by omega,by simpa using hk⟩ ?_
    refine WLd.mk (i L[k]) (by simpa using hcell) ?_
    conv=>whnf
    refine q0a.pure (q9y g2.iat (by omega) L[k]) ?_
    refine Br.mk (fun hb4=>?_) (fun hb4=>?_)
    ·have hno:¬ ((q0h (L.take k)).any fun y=>L[k]==y)=true:=fun hh=>by rw [hh] at hb4;cases hb4
     have hput:q0h (L.take (k+1))=q0h (L.take k)++[L[k]]:=by rw [hsucc];unfold putS;rw [if_neg hno]
     refine WNew.mk fun by1 hby1=>?_
     conv=>whnf
     refine q4a (L:=q0h (L.take k)) (z:=L[k]) (g1.trans (Mem.le_set hby1)) (g2.mono (Mem.le_set hby1)) (Mem.set_same _ _ _) rfl (by omega) fun a9 c9 m9 hle9 hp9=>?_
     have hl2:(q0h (L.take k)).length+1=(q0h (L.take (k+1))).length:=by rw [hput];simp
     rw [← hput] at hp9
     rw [hl2]
     refine WRng.mk (by apply wrap_i64<;>omega) ?_
     conv=>whnf
     exact ⟨(k+1,a9,c9),⟨rfl,rfl,trivial⟩,⟨hle9,hp9,hk⟩,by simp only;omega⟩
    ·have hyes:((q0h (L.take k)).any fun y=>L[k]==y)=true:=by
      cases hh:(q0h (L.take k)).any fun y=>L[k]==y with
      | true=>rfl
      | false=>rw [hh] at hb4;cases hb4
     have hput:q0h (L.take (k+1))=q0h (L.take k):=by rw [hsucc];unfold putS;rw [if_pos hyes]
     refine WRng.mk (by apply wrap_i64<;>omega) ?_
     conv=>whnf
     exact ⟨(k+1,B,cB),⟨rfl,by rw [hput];rfl,trivial⟩,⟨g1,by rw [hput];exact g2,hk⟩,by simp only;omega⟩
   ·have hk:k=L.length:=by
     have:¬ (k:Int)<L.length:=of_decide_eq_false hb3
     omega
    subst hk
    rw [List.take_length] at g2
    exact WRet.same ⟨B,cB,by rw [List.take_length];rfl,hle.trans g1,g2.base hle⟩
  ·have hgd:o.gd=-1:=by simpa using hg
   refine Br.mk (fun h2=>?_) (fun h2=>?_)
   rotate_left
   ·exfalso;rw [h] at h2;simp at h2
   refine WNew.mk fun bx hbx=>?_
   conv=>whnf
   refine q4a (L:=[]) (z:=o.a) (Mem.le_set hbx) (.inl ⟨rfl,rfl,rfl⟩) (Mem.set_same _ _ _) rfl (by decide) fun A c m1 hle hp=>?_
   conv=>whnf
   generalize hL:([]++[o.a]:List Int)=L at hp
   have hll:([]:List Int).length+1=L.length:=by rw [← hL];rfl
   rw [hll]
   -- the tail: each once
   have hraw:rawS o=L:=(by rw [r27 (.inl h),hgn hgd,← hL])
   have hL4:L.length≤4:=by rw [← hraw];exact q8f o
   have hres:q0b o=q0h L:=by unfold q0b;rw [hraw]
   rw [hres]
   obtain ⟨hx0,hx1⟩:=hp.cells
   refine q0v.mk (Nat×Option Addr×Nat) (fun s=>[(36,.val (i s.1)),(4,.val (.slice s.2.1 (q0h (L.take s.1)).length s.2.2))]) (fun s m''=>Mem.le m1 m''∧q1s m1 m'' s.2.1 s.2.2 (q0h (L.take s.1))∧s.1≤L.length) (fun s=>L.length - s.1) (0,none,0) ⟨rfl,rfl,trivial⟩ ⟨Mem.le.refl _,.inl ⟨rfl,rfl,rfl⟩,Nat.zero_le _⟩ ?_
   rintro ⟨k,B,cB⟩ m6 ⟨g1,g2,g3⟩
   simp only at g2 g3
   refine Br.mk (fun hb3=>?_) (fun hb3=>?_)
   ·have hk:k<L.length:=by
     have:(k:Int)<L.length:=of_decide_eq_true hb3
     omega
    have hsucc:q0h (L.take (k+1))=putS (q0h (L.take k)) L[k]:=by unfold q0h;exact q4k hk
    have hlen:(q0h (L.take k)).length≤4:=by
     have:=q4t (L.take k) []
     rw [List.length_take] at this
     unfold q0h;simp only [List.length_nil] at this;omega
    obtain ⟨ad,rfl⟩:∃ ad,A=some ad:=by
     cases A with
     | none=>rw [hx0 rfl] at hk;simp at hk
     | some ad=>exact ⟨ad,rfl⟩
    have hcell:q0q m6 (ad.add k) (i L[k]):=(IAt.cell (hx1 ad rfl) hk).mono g1
    refine WIdx.mk ad rfl ⟨by omega,by simpa using hk⟩ ?_
    refine WLd.mk (i L[k]) (by simpa using hcell) ?_
    conv=>whnf
    refine q0a.pure (q9y g2.iat (by omega) L[k]) ?_
    refine Br.mk (fun hb4=>?_) (fun hb4=>?_)
    ·have hno:¬ ((q0h (L.take k)).any fun y=>L[k]==y)=true:=fun hh=>by rw [hh] at hb4;cases hb4
     have hput:q0h (L.take (k+1))=q0h (L.take k)++[L[k]]:=by rw [hsucc];unfold putS;rw [if_neg hno]
     refine WNew.mk fun by1 hby1=>?_
     conv=>whnf
     refine q4a (L:=q0h (L.take k)) (z:=L[k]) (g1.trans (Mem.le_set hby1)) (g2.mono (Mem.le_set hby1)) (Mem.set_same _ _ _) rfl (by omega) fun a9 c9 m9 hle9 hp9=>?_
     have hl2:(q0h (L.take k)).length+1=(q0h (L.take (k+1))).length:=by rw [hput];simp
     rw [← hput] at hp9
     rw [hl2]
     refine WRng.mk (by apply wrap_i64<;>omega) ?_
     conv=>whnf
     exact ⟨(k+1,a9,c9),⟨rfl,rfl,trivial⟩,⟨hle9,hp9,hk⟩,by simp only;omega⟩
    ·have hyes:((q0h (L.take k)).any fun y=>L[k]==y)=true:=by
      cases hh:(q0h (L.take k)).any fun y=>L[k]==y with
      | true=>rfl
      | false=>rw [hh] at hb4;cases hb4
     have hput:q0h (L.take (k+1))=q0h (L.take k):=by rw [hsucc];unfold putS;rw [if_pos hyes]
     refine WRng.mk (by apply wrap_i64<;>omega) ?_
     conv=>whnf
     exact ⟨(k+1,B,cB),⟨rfl,by rw [hput];rfl,trivial⟩,⟨g1,by rw [hput];exact g2,hk⟩,by simp only;omega⟩
   ·have hk:k=L.length:=by
     have:¬ (k:Int)<L.length:=of_decide_eq_false hb3
     omega
    subst hk
    rw [List.take_length] at g2
    exact WRet.same ⟨B,cB,by rw [List.take_length];rfl,hle.trans g1,g2.base hle⟩
 refine Br.mk (fun h=>?_) (fun n3=>?_)
 ·have h:o.kd=28:=by simpa using h
  refine Br.mk (fun hg=>?_) (fun hg=>?_)
  ·have hgd:o.gd≠-1:=by simpa using hg
   refine WNew.mk fun bx hbx=>?_
   conv=>whnf
   refine q4a (L:=[]) (z:=o.gd) (Mem.le_set hbx) (.inl ⟨rfl,rfl,rfl⟩) (Mem.set_same _ _ _) rfl (by decide) fun A c m1 hle hp=>?_
   refine Br.mk (fun h2=>?_) (fun h2=>?_)
   rotate_left
   ·exfalso;rw [h] at h2;simp at h2
   refine WNew.mk fun by0 hby0=>?_
   conv=>whnf
   refine q4a (L:=[]++[o.gd]) (z:=o.a) (hle.trans (Mem.le_set hby0)) (hp.mono (Mem.le_set hby0)) (Mem.set_same _ _ _) rfl (by simp) fun A c m1 hle hp=>?_
   conv=>whnf
   generalize hL:(([]++[o.gd])++[o.a]:List Int)=L at hp
   have hll:([]++[o.gd]:List Int).length+1=L.length:=by rw [← hL];rfl
   rw [hll]
   -- the tail: each once
   have hraw:rawS o=L:=(by rw [r27 (.inr h),hgy hgd,← hL];rfl)
   have hL4:L.length≤4:=by rw [← hraw];exact q8f o
   have hres:q0b o=q0h L:=by unfold q0b;rw [hraw]
   rw [hres]
   obtain ⟨hx0,hx1⟩:=hp.cells
   refine q0v.mk (Nat×Option Addr×Nat) (fun s=>[(36,.val (i s.1)),(4,.val (.slice s.2.1 (q0h (L.take s.1)).length s.2.2))]) (fun s m''=>Mem.le m1 m''∧q1s m1 m'' s.2.1 s.2.2 (q0h (L.take s.1))∧s.1≤L.length) (fun s=>L.length - s.1) (0,none,0) ⟨rfl,rfl,trivial⟩ ⟨Mem.le.refl _,.inl ⟨rfl,rfl,rfl⟩,Nat.zero_le _⟩ ?_
   rintro ⟨k,B,cB⟩ m6 ⟨g1,g2,g3⟩
   simp only at g2 g3
   refine Br.mk (fun hb3=>?_) (fun hb3=>?_)
   ·have hk:k<L.length:=by
     have:(k:Int)<L.length:=of_decide_eq_true hb3
     omega
    have hsucc:q0h (L.take (k+1))=putS (q0h (L.take k)) L[k]:=by unfold q0h;exact q4k hk
    have hlen:(q0h (L.take k)).length≤4:=by
     have:=q4t (L.take k) []
     rw [List.length_take] at this
     unfold q0h;simp only [List.length_nil] at this;omega
    obtain ⟨ad,rfl⟩:∃ ad,A=some ad:=by
     cases A with
     | none=>rw [hx0 rfl] at hk;simp at hk
     | some ad=>exact ⟨ad,rfl⟩
    have hcell:q0q m6 (ad.add k) (i L[k]):=(IAt.cell (hx1 ad rfl) hk).mono g1
    refine WIdx.mk ad rfl ⟨by omega,by simpa using hk⟩ ?_
    refine WLd.mk (i L[k]) (by simpa using hcell) ?_
    conv=>whnf
    refine q0a.pure (q9y g2.iat (by omega) L[k]) ?_
    refine Br.mk (fun hb4=>?_) (fun hb4=>?_)
    ·have hno:¬ ((q0h (L.take k)).any fun y=>L[k]==y)=true:=fun hh=>by rw [hh] at hb4;cases hb4
     have hput:q0h (L.take (k+1))=q0h (L.take k)++[L[k]]:=by rw [hsucc];unfold putS;rw [if_neg hno]
     refine WNew.mk fun by1 hby1=>?_
     conv=>whnf
     refine q4a (L:=q0h (L.take k)) (z:=L[k]) (g1.trans (Mem.le_set hby1)) (g2.mono (Mem.le_set hby1)) (Mem.set_same _ _ _) rfl (by omega) fun a9 c9 m9 hle9 hp9=>?_
     have hl2:(q0h (L.take k)).length+1=(q0h (L.take (k+1))).length:=by rw [hput];simp
     rw [← hput] at hp9
     rw [hl2]
     refine WRng.mk (by apply wrap_i64<;>omega) ?_
     conv=>whnf
     exact ⟨(k+1,a9,c9),⟨rfl,rfl,trivial⟩,⟨hle9,hp9,hk⟩,by simp only;omega⟩
    ·have hyes:((q0h (L.take k)).any fun y=>L[k]==y)=true:=by
      cases hh:(q0h (L.take k)).any fun y=>L[k]==y with
      | true=>rfl
      | false=>rw [hh] at hb4;cases hb4
     have hput:q0h (L.take (k+1))=q0h (L.take k):=by rw [hsucc];unfold putS;rw [if_pos hyes]
     refine WRng.mk (by apply wrap_i64<;>omega) ?_
     conv=>whnf
     exact ⟨(k+1,B,cB),⟨rfl,by rw [hput];rfl,trivial⟩,⟨g1,by rw [hput];exact g2,hk⟩,by simp only;omega⟩
   ·have hk:k=L.length:=by
     have:¬ (k:Int)<L.length:=of_decide_eq_false hb3
     omega
    subst hk
    rw [List.take_length] at g2
    exact WRet.same ⟨B,cB,by rw [List.take_length];rfl,hle.trans g1,g2.base hle⟩
  ·have hgd:o.gd=-1:=by simpa using hg
   refine Br.mk (fun h2=>?_) (fun h2=>?_)
   rotate_left
   ·exfalso;rw [h] at h2;simp at h2
   refine WNew.mk fun bx hbx=>?_
   conv=>whnf
   refine q4a (L:=[]) (z:=o.a) (Mem.le_set hbx) (.inl ⟨rfl,rfl,rfl⟩) (Mem.set_same _ _ _) rfl (by decide) fun A c m1 hle hp=>?_
   conv=>whnf
   generalize hL:([]++[o.a]:List Int)=L at hp
   have hll:([]:List Int).length+1=L.length:=by rw [← hL];rfl
   rw [hll]
   -- the tail: each once
   have hraw:rawS o=L:=(by rw [r27 (.inr h),hgn hgd,← hL])
   have hL4:L.length≤4:=by rw [← hraw];exact q8f o
   have hres:q0b o=q0h L:=by unfold q0b;rw [hraw]
   rw [hres]
   obtain ⟨hx0,hx1⟩:=hp.cells
   refine q0v.mk (Nat×Option Addr×Nat) (fun s=>[(36,.val (i s.1)),(4,.val (.slice s.2.1 (q0h (L.take s.1)).length s.2.2))]) (fun s m''=>Mem.le m1 m''∧q1s m1 m'' s.2.1 s.2.2 (q0h (L.take s.1))∧s.1≤L.length) (fun s=>L.length - s.1) (0,none,0) ⟨rfl,rfl,trivial⟩ ⟨Mem.le.refl _,.inl ⟨rfl,rfl,rfl⟩,Nat.zero_le _⟩ ?_
   rintro ⟨k,B,cB⟩ m6 ⟨g1,g2,g3⟩
   simp only at g2 g3
   refine Br.mk (fun hb3=>?_) (fun hb3=>?_)
   ·have hk:k<L.length:=by
     have:(k:Int)<L.length:=of_decide_eq_true hb3
     omega
    have hsucc:q0h (L.take (k+1))=putS (q0h (L.take k)) L[k]:=by unfold q0h;exact q4k hk
    have hlen:(q0h (L.take k)).length≤4:=by
     have:=q4t (L.take k) []
     rw [List.length_take] at this
     unfold q0h;simp only [List.length_nil] at this;omega
    obtain ⟨ad,rfl⟩:∃ ad,A=some ad:=by
     cases A with
     | none=>rw [hx0 rfl] at hk;simp at hk
     | some ad=>exact ⟨ad,rfl⟩
    have hcell:q0q m6 (ad.add k) (i L[k]):=(IAt.cell (hx1 ad rfl) hk).mono g1
    refine WIdx.mk ad rfl ⟨by omega,by simpa using hk⟩ ?_
    refine WLd.mk (i L[k]) (by simpa using hcell) ?_
    conv=>whnf
    refine q0a.pure (q9y g2.iat (by omega) L[k]) ?_
    refine Br.mk (fun hb4=>?_) (fun hb4=>?_)
    ·have hno:¬ ((q0h (L.take k)).any fun y=>L[k]==y)=true:=fun hh=>by rw [hh] at hb4;cases hb4
     have hput:q0h (L.take (k+1))=q0h (L.take k)++[L[k]]:=by rw [hsucc];unfold putS;rw [if_neg hno]
     refine WNew.mk fun by1 hby1=>?_
     conv=>whnf
     refine q4a (L:=q0h (L.take k)) (z:=L[k]) (g1.trans (Mem.le_set hby1)) (g2.mono (Mem.le_set hby1)) (Mem.set_same _ _ _) rfl (by omega) fun a9 c9 m9 hle9 hp9=>?_
     have hl2:(q0h (L.take k)).length+1=(q0h (L.take (k+1))).length:=by rw [hput];simp
     rw [← hput] at hp9
     rw [hl2]
     refine WRng.mk (by apply wrap_i64<;>omega) ?_
     conv=>whnf
     exact ⟨(k+1,a9,c9),⟨rfl,rfl,trivial⟩,⟨hle9,hp9,hk⟩,by simp only;omega⟩
    ·have hyes:((q0h (L.take k)).any fun y=>L[k]==y)=true:=by
      cases hh:(q0h (L.take k)).any fun y=>L[k]==y with
      | true=>rfl
      | false=>rw [hh] at hb4;cases hb4
     have hput:q0h (L.take (k+1))=q0h (L.take k):=by rw [hsucc];unfold putS;rw [if_pos hyes]
     refine WRng.mk (by apply wrap_i64<;>omega) ?_
     conv=>whnf
     exact ⟨(k+1,B,cB),⟨rfl,by rw [hput];rfl,trivial⟩,⟨g1,by rw [hput];exact g2,hk⟩,by simp only;omega⟩
   ·have hk:k=L.length:=by
     have:¬ (k:Int)<L.length:=of_decide_eq_false hb3
     omega
    subst hk
    rw [List.take_length] at g2
    exact WRet.same ⟨B,cB,by rw [List.take_length];rfl,hle.trans g1,g2.base hle⟩
 have n1:o.kd≠26:=by simpa using n1
 have n2:o.kd≠27:=by simpa using n2
 have n3:o.kd≠28:=by simpa using n3
 conv=>whnf
 refine q0a.mk (k2v hm o) ?_
 rintro _ m1 ⟨A,c,rfl,hle,hp⟩
 have hrw:rawS o=(if 1≤o.kd∧o.kd≤25 then q0w o++q2x o 3 else []):=by unfold rawS;rw [if_neg n1,if_neg (by omega)]
 generalize (if 1≤o.kd∧o.kd≤25 then q0w o++q2x o 3 else [])=L at *
 conv=>whnf
 -- the tail: each once
 have hraw:rawS o=L:=hrw
 have hL4:L.length≤4:=by rw [← hraw];exact q8f o
 have hres:q0b o=q0h L:=by unfold q0b;rw [hraw]
 rw [hres]
 obtain ⟨hx0,hx1⟩:=hp.cells
 refine q0v.mk (Nat×Option Addr×Nat) (fun s=>[(36,.val (i s.1)),(4,.val (.slice s.2.1 (q0h (L.take s.1)).length s.2.2))]) (fun s m''=>Mem.le m1 m''∧q1s m1 m'' s.2.1 s.2.2 (q0h (L.take s.1))∧s.1≤L.length) (fun s=>L.length - s.1) (0,none,0) ⟨rfl,rfl,trivial⟩ ⟨Mem.le.refl _,.inl ⟨rfl,rfl,rfl⟩,Nat.zero_le _⟩ ?_
 rintro ⟨k,B,cB⟩ m6 ⟨g1,g2,g3⟩
 simp only at g2 g3
 refine Br.mk (fun hb3=>?_) (fun hb3=>?_)
 ·have hk:k<L.length:=by
   have:(k:Int)<L.length:=of_decide_eq_true hb3
   omega
  have hsucc:q0h (L.take (k+1))=putS (q0h (L.take k)) L[k]:=by unfold q0h;exact q4k hk
  have hlen:(q0h (L.take k)).length≤4:=by
   have:=q4t (L.take k) []
   rw [List.length_take] at this
   unfold q0h;simp only [List.length_nil] at this;omega
  obtain ⟨ad,rfl⟩:∃ ad,A=some ad:=by
   cases A with
   | none=>rw [hx0 rfl] at hk;simp at hk
   | some ad=>exact ⟨ad,rfl⟩
  have hcell:q0q m6 (ad.add k) (i L[k]):=(IAt.cell (hx1 ad rfl) hk).mono g1
  refine WIdx.mk ad rfl ⟨by omega,by simpa using hk⟩ ?_
  refine WLd.mk (i L[k]) (by simpa using hcell) ?_
  conv=>whnf
  refine q0a.pure (q9y g2.iat (by omega) L[k]) ?_
  refine Br.mk (fun hb4=>?_) (fun hb4=>?_)
  ·have hno:¬ ((q0h (L.take k)).any fun y=>L[k]==y)=true:=fun hh=>by rw [hh] at hb4;cases hb4
   have hput:q0h (L.take (k+1))=q0h (L.take k)++[L[k]]:=by rw [hsucc];unfold putS;rw [if_neg hno]
   refine WNew.mk fun by1 hby1=>?_
   conv=>whnf
   refine q4a (L:=q0h (L.take k)) (z:=L[k]) (g1.trans (Mem.le_set hby1)) (g2.mono (Mem.le_set hby1)) (Mem.set_same _ _ _) rfl (by omega) fun a9 c9 m9 hle9 hp9=>?_
   have hl2:(q0h (L.take k)).length+1=(q0h (L.take (k+1))).length:=by rw [hput];simp
   rw [← hput] at hp9
   rw [hl2]
   refine WRng.mk (by apply wrap_i64<;>omega) ?_
   conv=>whnf
   exact ⟨(k+1,a9,c9),⟨rfl,rfl,trivial⟩,⟨hle9,hp9,hk⟩,by simp only;omega⟩
  ·have hyes:((q0h (L.take k)).any fun y=>L[k]==y)=true:=by
    cases hh:(q0h (L.take k)).any fun y=>L[k]==y with
    | true=>rfl
    | false=>rw [hh] at hb4;cases hb4
   have hput:q0h (L.take (k+1))=q0h (L.take k):=by rw [hsucc];unfold putS;rw [if_pos hyes]
   refine WRng.mk (by apply wrap_i64<;>omega) ?_
   conv=>whnf
   exact ⟨(k+1,B,cB),⟨rfl,by rw [hput];rfl,trivial⟩,⟨g1,by rw [hput];exact g2,hk⟩,by simp only;omega⟩
 ·have hk:k=L.length:=by
   have:¬ (k:Int)<L.length:=of_decide_eq_false hb3
   omega
  subst hk
  rw [List.take_length] at g2
  exact WRet.same ⟨B,cB,by rw [List.take_length];rfl,hle.trans g1,g2.base hle⟩
end Go.Proofs.YtleofbpepfmfgaaGreatDoor
