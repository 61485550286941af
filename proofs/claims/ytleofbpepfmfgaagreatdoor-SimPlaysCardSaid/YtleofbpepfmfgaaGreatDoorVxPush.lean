import Derived.Tactics
import Derived.Tactics2
import Derived.Defers
import Derived.Recover
import Derived.Laws.Pointers
import Derived.Test.YtleofbpepfmfgaaGreatDoorVxIR2
import Derived.Test.YtleofbpepfmfgaaGreatDoorVxIR0
import Derived.Test.YtleofbpepfmfgaaGreatDoorVxIR1
import Derived.Test.YtleofbpepfmfgaaGreatDoorVxIR3
import Derived.Laws.BitsLemmas
set_option maxRecDepth 100000
namespace Go.Proofs.YtleofbpepfmfgaaGreatDoor
open Go Go.Vx

theorem j5g (p:Addr) (w:World) :
  CallsD Tryz.prog 147 #[.pointer (some p)] .returning w fun e u' w'=>e=.returned (.tuple #[])∧u'=.returning∧w'=w:=by
 refine callsD_of_wpS Tryz.func147 rfl fun c₀ cs hu=>?_
 apply wpS_seq
 apply wpS_region
 simp [wpOpsS,go_sem,recoverD,hu,Tryz.ntmps147,Exit.thenS]
 apply wpS_seq
 apply wpS_region
 simp [wpOpsS,go_sem,Exit.thenS,Tryz.underlying20]
 refine wpS_cond (t:=false) (by simp [Act.eval,Array.replicate]) ?_
 simp only [Bool.false_eq_true,if_false]
 refine wpS_of_wp (wp_skip ?_)
 cases c₀
 simp_all [bodyPostS,results,Tryz.results147]
theorem rel1 (v:Value) (w:World):Rel ⟨[],true⟩ (fun _=>none) w 1 (q5p [v]) (fun _=>none) { tmps:=#[v],defers:=[] } w:=by
 have hv:∀ t u,q5p [v] t=some u→∃ x,u=.val x∧[v][t]? = some x:=fun t u ht=>by
  unfold q5p at ht
  split at ht<;>first | (cases ht;done) | skip
  rename_i x hx
  cases ht;exact ⟨x,rfl,hx⟩
 refine ⟨rfl,q3m.nil _ _ _ _,⟨fun b o h=>by (cases h),Nat.le_refl _,fun b _ _=>⟨rfl,rfl⟩,rfl,rfl,rfl⟩,fun t x ht=>?_,fun t cs ht=>?_,fun t t' cs cs' ht=>?_,fun t k off cs ht=>?_,fun t k off i cs ht=>?_⟩
 ·obtain ⟨y,hy,hg⟩:=hv t _ ht
  cases hy
  rw [Array.getD_eq_getD_getElem?]
  have:(#[v]:Array Value)[t]? = [v][t]?:=by simp
  rw [this,hg];rfl
 all_goals (obtain ⟨_,hh,_⟩:=hv _ _ ht;cases hh)
theorem z9h {w:World} {b off T:Nat} {c:Array Value} {fr:Nat×Nat} {v:Value} (h:w.heap[b]? = some (.cells c T fr)) (hc:c[off]? = some v):w.setCell ⟨b,off,none⟩ v=w:=by
 have hh:(w.setCell ⟨b,off,none⟩ v).heap=w.heap:=by
  unfold World.setCell
  apply Array.ext_getElem?
  intro j
  rw [Array.getElem?_modify]
  by_cases e:b=j
  ·subst e
   rw [if_pos rfl,h]
   simp only [Option.map_some,Option.isSome_none,Bool.false_eq_true,if_false]
   congr 2
   apply Array.ext_getElem?
   intro k
   rw [Array.getElem?_setIfInBounds]
   by_cases e:off=k
   ·subst e;rw [if_pos rfl,hc];simp [(Array.getElem?_eq_some_iff.1 hc).1]
   ·rw [if_neg e]
  ·rw [if_neg e]
 calc w.setCell ⟨b,off,none⟩ v={ w with heap:=(w.setCell ⟨b,off,none⟩ v).heap }:=rfl
  _=w:=by rw [hh]
theorem q0d:Tryz.prog.follows .mixedOrders=true:=by kernel_rfl
end Go.Proofs.YtleofbpepfmfgaaGreatDoor
set_option maxRecDepth 100000
namespace Go.Vx
open Go
variable {P:Program}
theorem WApp.in {m:Mem} {T sz bytes:Nat} {zero:List Value} {ad:Addr} {len cap:Nat} {x:Option Addr} {n:Nat} {K:Value→Mem→Prop} (new:List Value) (h:q2v m x (n * sz) new) (hx:x=none→n=0) (l:List Value) (U:TypeId)
  (h1:len+n≤cap) (h2:m ad.block=some (Cells l U)) (h3:ad.spot=none) (h4:ad.off+len * sz+n * sz≤l.length) (h5:oneL new=true) (k:K (.slice (some ad) (len+n) cap) (m.set ad.block (Cells (q0j l (ad.off+len * sz) new) U))):WApp m T sz bytes zero (some ad) len cap x n K:=by
 unfold WApp;exact ⟨new,h,hx,fun _=>.inr ⟨ad,rfl,l,U,h2,h3,h4,h5,k⟩,fun hh=>absurd hh (by omega)⟩
theorem WApp.grow {m:Mem} {T sz bytes:Nat} {zero:List Value} {a:Option Addr} {len cap:Nat} {x:Option Addr} {n:Nat} {K:Value→Mem→Prop} (new:List Value) (h:q2v m x (n * sz) new) (hx:x=none→n=0)
  (h1:cap<len+n) (h2:(len+n) * bytes≤35184372088832) (old:List Value) (h3:q2v m a (len * sz) old) (h4:a=none→len=0)
  (k:∀ b c,m b=none→len+n≤c→K (.slice (some ⟨b,0,none⟩) (len+n) c) (m.set b (Cells (old++new++(List.replicate (c - (len+n)) zero).flatten) T))):WApp m T sz bytes zero a len cap x n K:=by
 unfold WApp;exact ⟨new,h,hx,fun hh=>absurd hh (by omega),fun _=>⟨h2,old,h3,h4,k⟩⟩
theorem q0g.blk {m:Mem} {b off:Nat} {l vs:List Value} {T:TypeId} (h:m b=some (Cells l T)) (hv:∀ (j:Nat) v,vs[j]? = some v→l[off+j]? = some v):q0g m ⟨b,off,none⟩ vs:=fun j v hj=>by
 have e:(⟨b,off,none⟩:Addr).add j=⟨b,off+j,none⟩:=by unfold Addr.add;split<;>simp_all
 rw [e]
 exact ⟨_,_,_,h,rfl,by simpa using hv j v hj⟩
theorem Mem.le.refl (m:Mem):Mem.le m m:=fun _ _ h=>h
theorem Mem.le.trans {a b c:Mem} (h:Mem.le a b) (k:Mem.le b c):Mem.le a c:=fun x o hx=>k x o (h x o hx)
theorem Mem.le_set {m:Mem} {b:Nat} {o:Obj} (h:m b=none):Mem.le m (m.set b o):=fun x p hx=>by
 by_cases e:x=b
 ·subst e;rw [h] at hx;cases hx
 ·rw [Mem.set_other _ _ e];exact hx
end Go.Vx
namespace Go.Proofs.YtleofbpepfmfgaaGreatDoor
open Go Go.Vx
end Go.Proofs.YtleofbpepfmfgaaGreatDoor
set_option maxRecDepth 100000
namespace Go.Proofs.YtleofbpepfmfgaaGreatDoor
open Go Go.Vx
open Go.Vx.IOp Go.Vx.IR Go.Vx.Opd
def IAt (m:Mem) (v:Value) (C:List Int):Prop:=∃ a c,v=.slice a C.length c∧(a=none→C=[])∧(∀ ad,a=some ad→q0g m ad (C.map i))∧C.length≤c
structure Edg where
 f:Int
 t:Int
 d:Int
 r:Int
deriving DecidableEq
def Edg.cells (e:Edg):List Value:=[i e.f,i e.t,i e.d,i e.r]
def Edg.val (e:Edg):Value:=.agg ⟨e.cells⟩
theorem wrap_i64 {z:Int} (h:-9223372036854775808≤z) (h2:z≤9223372036854775807):IntKind.i64.wrap z=z:=by
 rw [IntKind.wrap_i64];omega
theorem IAt.cell {m:Mem} {ad:Addr} {C:List Int} (h:q0g m ad (C.map i)) {k:Nat} (hk:k<C.length):q0q m (ad.add k) (i C[k]):=h k _ (by simp [hk])
theorem q0o {a:Addr} {x y:Nat}:(a.add x).add y=a.add (x+y):=by
 by_cases hx:x=0<;>by_cases hy:y=0<;>simp_all [Addr.add,Nat.add_assoc]
def q0m (P:Program) (f:Nat) (vs:List Value) (m:Mem) (v:Value):Prop:=q0f P f vs m fun e m'=>e=.returned v∧m'=m
def q4q {α:Type} (p:α→Bool) (C:List α):Int:=match C.findIdx? p with | some k=>(k:Int) | none=>-1
theorem z8d {α:Type} {p:α→Bool} {C:List α} (h:∀ (k:Nat) (hk:k<C.length),p C[k]=false):C.findIdx? p=none:=by
 rw [List.findIdx?_eq_none_iff]
 intro x hx
 obtain ⟨k,hk,rfl⟩:=List.getElem_of_mem hx
 exact h k hk
theorem z8k {α:Type} {p:α→Bool} {C:List α} {k:Nat} (hk:k<C.length) (h:∀ j (hj:j<k),p C[j]=false) (hp:p C[k]=true):C.findIdx? p=some k:=by
 rw [List.findIdx?_eq_some_iff_getElem]
 exact ⟨hk,hp,fun j hj=>by simp [h j hj]⟩
theorem z7h {α:Type} (p:α→Bool) (C:List α):decide (q4q p C≥0)=C.any p:=by
 unfold q4q
 cases h:C.findIdx? p with
 | none =>
  rw [List.findIdx?_eq_none_iff] at h
  simp only [ge_iff_le]
  rw [decide_eq_false (by omega)]
  symm;rw [List.any_eq_false];intro x hx;simp [h x hx]
 | some k =>
  rw [List.findIdx?_eq_some_iff_getElem] at h
  obtain ⟨h1,h2,_⟩:=h
  simp only [ge_iff_le]
  rw [decide_eq_true (by omega)]
  symm;rw [List.any_eq_true];exact ⟨_,List.getElem_mem h1,h2⟩
theorem v8k {m:Mem} {v:Value} {C:List Int} (hv:IAt m v C) (hlen:C.length<2 ^ 63) {g:Nat} {first caps:List Value} (p:Int→Bool)
  (hp:∀ x∈C,q0m Tryz.prog g (first++[i x]++caps) m (.bool (p x))) :
  q0m Tryz.prog 170 [v,.func (.func g) ⟨first⟩ ⟨caps⟩] m (i (q4q p C)):=by
 obtain ⟨a,c,rfl,h0,h1,hcap⟩:=hv
 refine q0e q0d Tryz.func170 k6g rfl ?_
 conv=>whnf
 refine q0v.mk Nat (fun k=>[(8,.val (i k))]) (fun k m'=>m=m'∧k≤C.length∧∀ j (hj:j<C.length),j<k→p C[j]=false) (fun k=>C.length - k) 0 ⟨rfl,trivial⟩ ⟨rfl,Nat.zero_le _,fun j hj h=>by omega⟩ ?_
 rintro k m' ⟨rfl,hk,hq⟩
 refine Br.mk (fun hb=>?_) (fun hb=>?_)
 ·have hk2:k<C.length:=by simpa using hb
  conv=>whnf
  cases a with
  | none=>rw [h0 rfl] at hk2;simp at hk2
  | some ad =>
   refine WIdx.mk ad rfl ⟨by omega,by simpa using hk2⟩ ?_
   refine WLd.mk (i C[k]) ?_ ?_
   ·simpa using IAt.cell (h1 ad rfl) hk2
   conv=>whnf
   refine q0a.pure (hp _ (List.getElem_mem hk2)) ?_
   refine Br.mk (fun hb=>?_) (fun hb=>?_)
   ·refine WRet.same ⟨?_,rfl⟩
    unfold q4q
    rw [z8k hk2 (fun j hj=>hq j (by omega) hj) hb]
    rfl
   ·refine WRng.mk (by apply wrap_i64<;>omega) ?_
    conv=>whnf
    refine ⟨k+1,⟨rfl,trivial⟩,⟨rfl,hk2,fun j hj h=>?_⟩,by omega⟩
    by_cases e:j=k
    ·subst e;exact hb
    ·exact hq j hj (by omega)
 ·have hk2:¬ k<C.length:=by simpa using hb
  refine WRet.same ⟨?_,rfl⟩
  unfold q4q
  rw [z8d fun j hj=>hq j hj (by omega)]
  rfl
theorem z1q {m:Mem} {v:Value} {C:List Int} (hv:IAt m v C) (hlen:C.length<2 ^ 63) {g:Nat} {first caps:List Value} (p:Int→Bool)
  (hp:∀ x∈C,q0m Tryz.prog g (first++[i x]++caps) m (.bool (p x))) :
  q0m Tryz.prog 150 [v,.func (.func g) ⟨first⟩ ⟨caps⟩] m (.bool (C.any p)):=by
 refine q0e q0d Tryz.func150 k5m rfl ?_
 conv=>whnf
 refine q0a.pure (v8k hv hlen p hp) ?_
 refine WRet.same ⟨?_,rfl⟩
 rw [show q8h [Value.bool (decide (q4q p C≥0))]=.bool (decide (q4q p C≥0)) from rfl,z7h]
theorem IAt.mono {m m':Mem} (h:Mem.le m m') {v:Value} {C:List Int} (k:IAt m v C):IAt m' v C:=by
 obtain ⟨a,c,h1,h2,h3,h4⟩:=k;exact ⟨a,c,h1,h2,fun ad ha=>(h3 ad ha).mono h,h4⟩
theorem q0g.take {m:Mem} {ad:Addr} {vs:List Value} (h:q0g m ad vs) (k:Nat):q0g m ad (vs.take k):=fun j v hj=>by
 have:=(List.getElem?_eq_some_iff.1 hj).1
 rw [List.getElem?_take,if_pos (by simp at this;omega)] at hj
 exact h j v hj
theorem WApp.copy {m:Mem} {T sz bytes:Nat} {zero:List Value} {b1:Nat} {A A':Option Addr} {n n':Nat} {K:Value→Mem→Prop} (hb1:m b1=none) (hA':A'=A) (hn:n'=n) (new:List Value) (h:q2v m A (n * sz) new) (hA:A=none→n=0)
  (hb:n * bytes≤35184372088832) (k:∀ b c m',Mem.le m m'→n≤c→m b=none→q0g m' ⟨b,0,none⟩ new→K (.slice (some ⟨b,0,none⟩) n c) m') :
  WApp (m.set b1 (Cells [] T)) T sz bytes zero (some ⟨b1,0,none⟩) 0 0 A' n' K:=by
 subst hA';subst hn
 have hle:=Mem.le_set (o:=Cells [] T) hb1
 have hf:q2v (m.set b1 (Cells [] T)) A' (n' * sz) new:=⟨h.1,fun ad ha=>(h.2 ad ha).mono hle⟩
 by_cases h0:n'=0
 ·subst h0
  have hnew:new=[]:=List.length_eq_zero_iff.1 (by rw [h.1];simp)
  subst hnew
  refine WApp.in [] hf (fun _=>rfl) [] T (by omega) (Mem.set_same _ _ _) rfl (by simp) rfl ?_
  refine k b1 0 _ (fun b o hbo=>?_) (Nat.le_refl _) hb1 (fun j v hj=>by simp at hj)
  have:b≠b1:=fun e=>by subst e;rw [hb1] at hbo;cases hbo
  rw [Mem.set_other _ _ this,Mem.set_other _ _ this];exact hbo
 ·refine WApp.grow new hf hA (by omega) (by rw [Nat.zero_add];exact hb) [] ⟨by simp,fun ad _ j v hj=>by simp at hj⟩ (fun _=>rfl) fun b c hbn hc=>?_
  have hbb:b≠b1:=fun e=>by subst e;rw [Mem.set_same] at hbn;cases hbn
  have hbm:m b=none:=by rw [Mem.set_other _ _ hbb] at hbn;exact hbn
  rw [Nat.zero_add]
  refine k b c _ (hle.trans (Mem.le_set hbn)) (by omega) hbm ?_
  refine q0g.blk (Mem.set_same _ _ _) fun j v hj=>?_
  rw [List.nil_append,Nat.zero_add,List.getElem?_append_left (List.getElem?_eq_some_iff.1 hj).1];exact hj
theorem q8r {a:Option Addr} {c:Int} {k:Nat} (h:k=0):(if c=0 then a else a.map (·.add k))=a:=by
 subst h;split
 ·rfl
 ·cases a<;>rfl
theorem v6z (n:Nat):(List.replicate n [i 0]).flatten=(List.replicate n (0:Int)).map i:=by simp
theorem add0 (b z:Nat):(⟨b,0,none⟩:Addr).add z=⟨b,z,none⟩:=by unfold Addr.add;split<;>simp_all
theorem z7f (a b:Int):(if b>a then b else a)=max a b:=by rw [Int.max_def];split<;>split<;>omega
theorem q2n {m m':Mem} {b:Nat} {o:Obj} (h:Mem.le m m') (hb:m b=none):Mem.le m (m'.set b o):=fun x p hx=>by
 by_cases e:x=b
 ·subst e;rw [hb] at hx;cases hx
 ·rw [Mem.set_other _ _ e];exact h x p hx
theorem WApp.copyB {m:Mem} {T sz bytes:Nat} {zero:List Value} {b1:Nat} {A A':Option Addr} {n n':Nat} {K:Value→Mem→Prop} (hb1:m b1=none) (hA':A'=A) (hn:n'=n) (new:List Value) (h:q2v m A (n * sz) new) (hA:A=none→n=0)
  (hb:n * bytes≤35184372088832) (k:∀ b c m' rest,Mem.le m m'→n≤c→m b=none→m' b=some (Cells (new++rest) T)→K (.slice (some ⟨b,0,none⟩) n c) m') :
  WApp (m.set b1 (Cells [] T)) T sz bytes zero (some ⟨b1,0,none⟩) 0 0 A' n' K:=by
 subst hA';subst hn
 have hle:=Mem.le_set (o:=Cells [] T) hb1
 have hf:q2v (m.set b1 (Cells [] T)) A' (n' * sz) new:=⟨h.1,fun ad ha=>(h.2 ad ha).mono hle⟩
 by_cases h0:n'=0
 ·subst h0
  have hnew:new=[]:=List.length_eq_zero_iff.1 (by rw [h.1];simp)
  subst hnew
  refine WApp.in [] hf (fun _=>rfl) [] T (by omega) (Mem.set_same _ _ _) rfl (by simp) rfl ?_
  refine k b1 0 _ [] (fun b o hbo=>?_) (Nat.le_refl _) hb1 (Mem.set_same _ _ _)
  have:b≠b1:=fun e=>by subst e;rw [hb1] at hbo;cases hbo
  rw [Mem.set_other _ _ this,Mem.set_other _ _ this];exact hbo
 ·refine WApp.grow new hf hA (by omega) (by rw [Nat.zero_add];exact hb) [] ⟨by simp,fun ad _ j v hj=>by simp at hj⟩ (fun _=>rfl) fun b c hbn hc=>?_
  have hbb:b≠b1:=fun e=>by subst e;rw [Mem.set_same] at hbn;cases hbn
  have hbm:m b=none:=by rw [Mem.set_other _ _ hbb] at hbn;exact hbn
  rw [Nat.zero_add]
  exact k b c _ _ (hle.trans (Mem.le_set hbn)) (by omega) hbm (Mem.set_same _ _ _)
def OwnI (m m':Mem) (A:Option Addr) (n:Nat) (x:List Int):Prop:=x.length=n∧(n≠0→∃ b rest,A=some ⟨b,0,none⟩∧m b=none∧m' b=some (Cells (x.map i++rest) 3))
theorem OwnI.iat {m m':Mem} {A:Option Addr} {n c:Nat} {x:List Int} (h:OwnI m m' A n x) (hc:n≤c):IAt m' (.slice A n c) x:=by
 obtain ⟨h1,h2⟩:=h
 by_cases h0:n=0
 ·subst h0
  obtain rfl:=List.length_eq_zero_iff.1 h1
  exact ⟨A,c,rfl,fun _=>rfl,fun ad _ j v hj=>by simp at hj,Nat.zero_le _⟩
 ·obtain ⟨b,rest,rfl,h3,h4⟩:=h2 h0
  refine ⟨_,c,by rw [h1],(fun h=>by cases h),fun ad ha=>?_,by omega⟩
  cases ha
  refine q0g.blk h4 fun q v hq=>?_
  rw [Nat.zero_add,List.getElem?_append_left (List.getElem?_eq_some_iff.1 hq).1];exact hq
theorem v2x {o:List Int} {rest:List Value} {z z':Nat} {v:Int} (hz:z'=z) (h:z<o.length):q0j (o.map i++rest) z' (q0k (i v))=(o.set z v).map i++rest:=by
 subst hz
 show (o.map i++rest).set z' _=_
 rw [List.set_append_left _ _ (by simpa using h),List.map_set]
theorem q4k {α β:Type} {f:β→α→β} {E:List α} {s:β} {j:Nat} (hj:j<E.length):(E.take (j+1)).foldl f s=f ((E.take j).foldl f s) E[j]:=by
 rw [List.take_succ_eq_append_getElem hj,List.foldl_append];rfl
theorem v0d {m:Mem} {v:Value} {C:List Int} (hv:IAt m v C) (hlen:C.length≤4398046511104) :
  q0f Tryz.prog 66 [v] m fun e m'=>∃ A c,e=.returned (.slice A C.length c)∧C.length≤c∧Mem.le m m'∧OwnI m m' A C.length C:=by
 obtain ⟨a,c,rfl,q0,q1,hcap⟩:=hv
 refine q0e q0d Tryz.func66 k0x rfl ?_
 conv=>whnf
 cases a with
 | none =>
  have h0:=q0 rfl
  subst h0
  refine Br.mk (fun hb=>?_) (fun hb=>by cases hb)
  exact WRet.same ⟨none,0,rfl,Nat.le_refl _,Mem.le.refl _,rfl,fun h=>absurd rfl h⟩
 | some ad =>
  refine Br.mk (fun hb=>by cases hb) (fun hb=>?_)
  refine WNew.mk fun b1 hb1=>?_
  refine WApp.copyB hb1 (A:=some ad) (n:=C.length) rfl rfl (C.map i) ⟨by simp,fun ad' ha=>q1 ad' ha⟩ (fun ha=>by cases ha) (by omega) fun b cb m1 rest hle1 hcb hbm hcells=>?_
  exact WRet.same ⟨_,cb,rfl,hcb,hle1,rfl,fun _=>⟨b,rest,rfl,hbm,hcells⟩⟩
def q1s (m0 m:Mem) (a:Option Addr) (c:Nat) (L:List Int):Prop :=
 (a=none∧c=0∧L=[])∨∃ b,a=some ⟨b,0,none⟩∧L.length≤c∧m0 b=none∧m b=some (Cells (L.map i++List.replicate (c - L.length) (i 0)) 3)
theorem q1s.iat {m0 m:Mem} {a:Option Addr} {c:Nat} {L:List Int} (h:q1s m0 m a c L):IAt m (.slice a L.length c) L:=by
 rcases h with ⟨rfl,rfl,rfl⟩ | ⟨b,rfl,h1,h2,h3⟩
 ·exact ⟨none,0,rfl,fun _=>rfl,(fun ad h=>by cases h),Nat.le_refl _⟩
 ·refine ⟨_,c,rfl,(fun h=>by cases h),fun ad ha=>?_,h1⟩
  cases ha
  refine q0g.blk h3 fun q v hq=>?_
  rw [Nat.zero_add,List.getElem?_append_left (List.getElem?_eq_some_iff.1 hq).1];exact hq
theorem q1s.mono {m0 m m':Mem} {a:Option Addr} {c:Nat} {L:List Int} (h:q1s m0 m a c L) (hle:Mem.le m m'):q1s m0 m' a c L:=by
 rcases h with h | ⟨b,h0,h1,h2,h3⟩
 ·exact .inl h
 ·exact .inr ⟨b,h0,h1,h2,hle _ _ h3⟩
theorem q9z (n:Nat) (v:Value):(List.replicate n [v]).flatten=List.replicate n v:=by
 induction n with
 | zero=>rfl
 | succ n ih=>rw [List.replicate_succ,List.flatten_cons,ih,List.replicate_succ];rfl
theorem q4a {m0 m:Mem} {a:Option Addr} {c n:Nat} {L:List Int} {z:Int} {bx:Nat} {K:Value→Mem→Prop} (hle:Mem.le m0 m) (hp:q1s m0 m a c L) (hx:m bx=some (Cells [i z] 3)) (hn:n=L.length) (hlen:L.length<1099511627776)
  (k:∀ a' c' m',Mem.le m0 m'→q1s m0 m' a' c' (L++[z])→K (.slice a' (L.length+1) c') m'):WApp m 3 1 8 [i 0] a n c (some ⟨bx,0,none⟩) 1 K:=by
 subst hn
 have hnew:q2v m (some ⟨bx,0,none⟩) (1 * 1) [i z]:=⟨rfl,fun ad had=>by cases had;exact q0g.blk hx fun j v hj=>by rw [Nat.zero_add];exact hj⟩
 have hnone:∀ b2,m b2=none→m0 b2=none:=fun b2 h=>by
  cases hh:m0 b2 with
  | none=>rfl
  | some o=>rw [hle b2 o hh] at h;cases h
 rcases hp with ⟨rfl,rfl,rfl⟩ | ⟨b,rfl,h1,h2,h3⟩
 ·refine WApp.grow _ hnew (fun h=>by cases h) (by decide) (by decide) [] ⟨rfl,fun ad h=>by cases h⟩ (fun _=>rfl) fun b2 c2 hb2 hc2=>?_
  refine k _ _ _ (q2n hle (hnone _ hb2)) (.inr ⟨b2,rfl,by simpa using hc2,hnone _ hb2,?_⟩)
  rw [Mem.set_same,q9z];rfl
 ·by_cases hcc:L.length+1≤c
  ·refine WApp.in (ad:=⟨b,0,none⟩) _ hnew (fun h=>by cases h) _ 3 hcc h3 rfl ?_ rfl ?_
   ·rw [List.length_append,List.length_map,List.length_replicate];simp only;omega
   ·refine k _ _ _ (q2n hle h2) (.inr ⟨b,rfl,by simpa using hcc,h2,?_⟩)
    rw [Mem.set_same]
    have e:q0j (L.map i++List.replicate (c - L.length) (i 0)) (0+L.length * 1) [i z]=(L++[z]).map i++List.replicate (c - (L++[z]).length) (i 0):=by
     obtain ⟨q,hq⟩:∃ q,c - L.length=q+1:=⟨c - L.length - 1,by omega⟩
     rw [hq,Nat.zero_add,Nat.mul_one]
     show (L.map i++List.replicate (q+1) (i 0)).set L.length (i z)=_
     rw [List.set_append_right _ _ (by simp),List.length_map,Nat.sub_self,List.replicate_succ,List.set_cons_zero,List.map_append,List.length_append,show c - (L.length+[z].length)=q by simp;omega]
     simp
    rw [e]
  ·refine WApp.grow _ hnew (fun h=>by cases h) (by omega) (by omega) (L.map i) ⟨by simp,fun ad had=>by cases had;exact q0g.blk h3 fun j v hj=>by rw [Nat.zero_add,List.getElem?_append_left (List.getElem?_eq_some_iff.1 hj).1];exact hj⟩ (fun h=>by cases h) fun b2 c2 hb2 hc2=>?_
   refine k _ _ _ (q2n hle (hnone _ hb2)) (.inr ⟨b2,rfl,by simpa using hc2,hnone _ hb2,?_⟩)
   rw [Mem.set_same,q9z]
   simp
end Go.Proofs.YtleofbpepfmfgaaGreatDoor
