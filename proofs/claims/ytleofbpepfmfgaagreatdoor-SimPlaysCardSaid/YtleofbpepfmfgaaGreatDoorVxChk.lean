import Derived.Test.YtleofbpepfmfgaaGreatDoorVxSimS
set_option maxRecDepth 100000
namespace Go.Proofs.YtleofbpepfmfgaaGreatDoor
open Go Go.Vx
open Go.Vx.IOp Go.Vx.IR Go.Vx.Opd
theorem z0f {F:AV→Mem→Prop} {u:AV} {m:Mem} (h:F u m):q3l false F u m:=h
theorem ws_g {P:Program} {l:List E} {j:Nat} {r:RT} {K:Env→Mem→Prop} {X:List PanicEntry→Mem→Prop} {e:Env} {m:Mem} {x:E} {s:Nat} {want:Bool} {d:Option Nat} (u:AV) (hx:l[j]? = some x) (hg:x.g=some (s,want)) (he:e s=some (.val (.bool want))) (hs:x.s=false) (hd:x.d=d)
  (hv:∀ F,F u m→vop P x.o e m F X) (h:q1n P l K X r (e.put d u) m):q1n P l K X (.pure j r) e m:=by
 subst hd
 refine q7k hx ?_
 unfold q1w
 rw [hg]
 simp only [he]
 rw [hs]
 cases want<;>exact hv _ h
theorem ws_gv {P:Program} {l:List E} {j:Nat} {r:RT} {K:Env→Mem→Prop} {X:List PanicEntry→Mem→Prop} {e:Env} {m:Mem} {x:E} {s:Nat} {want:Bool} (hx:l[j]? = some x) (hg:x.g=some (s,want)) (he:e s=some (.val (.bool want)))
  (h:vop P x.o e m (q3l x.s fun u m'=>q1n P l K X r (e.put x.d u) m') X):q1n P l K X (.pure j r) e m:=by
 refine q7k hx ?_
 unfold q1w
 rw [hg]
 simp only [he]
 cases want<;>exact h
theorem ws_n {P:Program} {l:List E} {j:Nat} {r:RT} {K:Env→Mem→Prop} {X:List PanicEntry→Mem→Prop} {e:Env} {m:Mem} {x:E} {d:Option Nat} (u:AV) (hx:l[j]? = some x) (hg:x.g=none) (hs:x.s=false) (hd:x.d=d)
  (hv:∀ F,F u m→vop P x.o e m F X) (h:q1n P l K X r (e.put d u) m):q1n P l K X (.pure j r) e m:=by
 subst hd
 refine q7k hx ?_
 unfold q1w
 rw [hg]
 simp only
 rw [hs]
 exact hv _ h
theorem z6g {P:Program} {l:List E} {K:Env→Mem→Prop} {X:List PanicEntry→Mem→Prop} {e:Env} {m:Mem} (h:K e m):q1n P l K X .nil e m:=h
theorem z7e {F:Env→Mem→Prop} {Q:Post} {e:Env} {m:Mem} (h:F e m):q4i F Q .normal e m:=h
theorem q6l {P:Program} {l:List E} {j:Nat} {r:RT} {K:Env→Mem→Prop} {X:List PanicEntry→Mem→Prop} {e:Env} {m:Mem} {x:E} {s:Nat} {want:Bool} {d:Option Nat} (hx:l[j]? = some x) (hg:x.g=some (s,want)) (he:e s=some (.val (.bool (!want)))) (hd:x.d=d)
  (h:q1n P l K X r (e.put d (.val undef)) m):q1n P l K X (.pure j r) e m:=by
 subst hd
 refine q7k hx ?_
 unfold q1w
 rw [hg]
 simp only [he]
 cases want<;>exact h
theorem v1u {P:Program} {l:List E} {j:Nat} {r:RT} {K:Env→Mem→Prop} {X:List PanicEntry→Mem→Prop} {e:Env} {m:Mem} {x:E} {s:Nat} {want:Bool} {d:Option Nat} (hx:l[j]? = some x) (hg:x.g=some (s,want)) (he:e s=some (.val (.bool (!want)))) (hd:x.d=d)
  (h:q1n P l K X r (e.put d (.val undef)) m):q1n P l K X (.alt j r .done) e m:=⟨q6l (r:=r) hx hg he hd h,trivial⟩
theorem z8f {P:Program} {l:List E} {j:Nat} {r:RT} {K:Env→Mem→Prop} {X:List PanicEntry→Mem→Prop} {e:Env} {m:Mem} {x:E} {d:Option Nat} {b:Bool} (hx:l[j]? = some x) (hg:x.g=none) (hs:x.s=true) (hd:x.d=d)
  (hv:∀ F,F (.val (.bool b)) m→vop P x.o e m F X) (h1:b=true→q1n P l K X r (e.put d (.val (.bool true))) m) (h2:b=false→q1n P l K X r (e.put d (.val (.bool false))) m):q1n P l K X (.pure j r) e m:=by
 subst hd
 refine q7k hx ?_
 unfold q1w
 rw [hg]
 simp only
 rw [hs]
 refine hv _ ?_
 exact Br.mk h1 h2
theorem v5n {P:Program} {K:Env→Mem→Prop} {X:List PanicEntry→Mem→Prop} {e:Env} {m:Mem} (h:K e m):runI P X [] K e m:=h
theorem v7a {P:Program} {K:Env→Mem→Prop} {X:List PanicEntry→Mem→Prop} {e:Env} {m:Mem} (h:K e m):opsI P X .nil K e m:=h
theorem pk_t {F:Prop} {G:Prop} (h:F):Br true F G:=Br.mk (fun _=>h) (fun hh=>by cases hh)
theorem pk_f {F:Prop} {G:Prop} (h:G):Br false F G:=Br.mk (fun hh=>by cases hh) (fun _=>h)
theorem ws_a {P:Program} {l:List E} {j:Nat} {r:RT} {K:Env→Mem→Prop} {X:List PanicEntry→Mem→Prop} {e:Env} {m:Mem} {x:E} (hx:l[j]? = some x) (h:q1w P x e m (fun e' m'=>q1n P l K X r e' m') X):q1n P l K X (.alt j r .done) e m :=
 ⟨q7k (r:=r) hx h,trivial⟩
theorem v0m {P:Program} {l:List E} {j:Nat} {r:RT} {K:Env→Mem→Prop} {X:List PanicEntry→Mem→Prop} {e:Env} {m:Mem} {x:E} {s:Nat} {want:Bool} (hx:l[j]? = some x) (hg:x.g=some (s,want)) (he:e s=some (.val (.bool want)))
  (h:vop P x.o e m (q3l x.s fun u m'=>q1n P l K X r (e.put x.d u) m') X):q1n P l K X (.alt j r .done) e m :=
 ⟨ws_gv (r:=r) hx hg he h,trivial⟩
def panE (x y:Int) (e:Int):List PanicEntry:=[{ v:=.iface 186 (.agg ⟨[i x,i y,i e]⟩),recovered:=false }]
abbrev ptr (b:Nat):Value:=.pointer (some ⟨b,0,none⟩)
abbrev q2r:Value:=.tuple ⟨[]⟩
theorem q9g {b:Bool} (h:(!b)=true):b=false:=by cases b with | true=>cases h | false=>rfl
theorem q7s {b:Bool} (h:(!b)=false):b=true:=by cases b with | true=>rfl | false=>cases h
def ChkB (b:Bool) (e:Int) (m:Mem) (en:Ending) (m':Mem):Prop:=m'=m∧(b=true→en=.returned q2r)∧(b=false→∃ x y,en=.panicked (panE x y e))
def ChkE (e:Int) (m:Mem) (en:Ending) (m':Mem):Prop:=m'=m∧(e=0→en=.returned q2r)∧(e≠0→∃ x y,en=.panicked (panE x y e))
theorem WChk.mk {f:Nat} {vs:List Value} {m:Mem} {b:Bool} {e:Int} {K:Value→Mem→Prop} {X:List PanicEntry→Mem→Prop} (h:q0f Tryz.prog f vs m (ChkB b e m)) (k:b=true→K q2r m) (x:b=false→∀ u v,X (panE u v e) m):q0a Tryz.prog f vs m K X :=
 q0a.mk h fun en m' hR=>by
  obtain ⟨rfl,h1,h2⟩:=hR
  cases b with
  | true=>rw [h1 rfl];exact k rfl
  | false=>obtain ⟨u,v,e⟩:=h2 rfl;rw [e];exact x rfl u v
theorem v2k.mk {f:Nat} {vs:List Value} {m:Mem} {e:Int} {K:Value→Mem→Prop} {X:List PanicEntry→Mem→Prop} (h:q0f Tryz.prog f vs m (ChkE e m)) (k:e=0→K q2r m) (x:e≠0→∀ u v,X (panE u v e) m):q0a Tryz.prog f vs m K X :=
 q0a.mk h fun en m' hR=>by
  obtain ⟨rfl,h1,h2⟩:=hR
  by_cases he:e=0
  ·rw [h1 he];exact k he
  ·obtain ⟨u,v,e⟩:=h2 he;rw [e];exact x he u v
def inB (a b:Int):Bool:=decide (a≥0)&&decide (a<b)
theorem z7q (m:Mem) (a b:Int):q0m Tryz.prog 165 [i a,i b] m (.bool (inB a b)):=by
 refine q0e q0d Tryz.func165 w1p rfl ?_
 refine WSc.mk (fun _=>And.intro (Mem.le.refl _) rfl) ?_
 exact WRet.same ⟨rfl,rfl⟩
def q6a (m:Mem) (pb:Nat) (sv:Value) (pr rg cd sp:Int) (bv:Value):Prop:=∃ x y:Int,m pb=some (Cells [sv,i pr,i rg,i cd,i sp,bv,i x,i y] 219)
theorem q6a.cell {m:Mem} {pb:Nat} {sv bv:Value} {pr rg cd sp:Int} (h:q6a m pb sv pr rg cd sp bv) {k:Nat} {v:Value} (hk:[sv,i pr,i rg,i cd,i sp,bv][k]? = some v):q0q m ⟨pb,k,none⟩ v:=by
 obtain ⟨x,y,h⟩:=h
 refine ⟨_,_,_,h,rfl,?_⟩
 have hk6:=(List.getElem?_eq_some_iff.1 hk).1
 have:([sv,i pr,i rg,i cd,i sp,bv]++[i x,i y])[k]? = some v:=by rw [List.getElem?_append_left hk6];exact hk
 simpa using this
theorem q3w {m:Mem} {pb:Nat} {sv bv:Value} {pr rg cd sp:Int} (h:q6a m pb sv pr rg cd sp bv) (b:Bool) (e:Int) :
  q0f Tryz.prog 163 [ptr pb,.bool b,i e] m (ChkB b e m):=by
 obtain ⟨x,y,h⟩:=h
 have c6:q0q m ⟨pb,6,none⟩ (i x):=⟨_,_,_,h,rfl,rfl⟩
 have c7:q0q m ⟨pb,7,none⟩ (i y):=⟨_,_,_,h,rfl,rfl⟩
 refine q0e q0d Tryz.func163 k2m rfl ?_
 refine Br.mk (fun hb=>?_) (fun hb=>?_)
 ·have hb:b=false:=by simpa using hb
  subst hb
  conv=>whnf
  refine ⟨?_,?_,trivial⟩
  ·refine WLd.mk (i x) (by rw [add0];exact c6) ?_
   conv=>whnf
   refine ⟨?_,trivial⟩
   refine WLd.mk (i y) (by rw [add0];exact c7) ?_
   conv=>whnf
   refine ⟨?_,trivial⟩
   exact WRet.same ⟨rfl,(fun h=>by cases h),fun _=>⟨x,y,rfl⟩⟩
  ·refine WLd.mk (i y) (by rw [add0];exact c7) ?_
   conv=>whnf
   refine ⟨?_,trivial⟩
   refine WLd.mk (i x) (by rw [add0];exact c6) ?_
   conv=>whnf
   refine ⟨?_,trivial⟩
   exact WRet.same ⟨rfl,(fun h=>by cases h),fun _=>⟨x,y,rfl⟩⟩
 ·have hb:b=true:=by simpa using hb
  subst hb
  exact WRet.same ⟨rfl,(fun _=>rfl),fun h=>by cases h⟩
def regB (rg:Int) (used:Bool) (r:Int):Bool:=!used||inB r rg
theorem z1g {m:Mem} {pb:Nat} {sv bv:Value} {pr rg cd sp:Int} (h:q6a m pb sv pr rg cd sp bv) (r:Int) (used:Bool) :
  q0f Tryz.prog 197 [ptr pb,i r,.bool used] m (ChkB (regB rg used r) 2 m):=by
 refine q0e q0d Tryz.func197 k5y rfl ?_
 refine WSc.mk (v:=inB r rg) (fun _=>?_) ?_
 ·refine WLd.mk (i rg) (by rw [add0,addo];exact h.cell rfl) ?_
  conv=>whnf
  refine q0a.pure (z7q _ _ _) ?_
  exact And.intro (Mem.le.refl _) rfl
 conv=>whnf
 have e:scB (!used) false (inB r rg)=regB rg used r:=rfl
 rw [e]
 refine WChk.mk (q3w h _ _) (fun hb=>?_) (fun hb u v=>?_)
 ·exact WRet.same ⟨rfl,(fun _=>rfl),fun h=>by rw [hb] at h;cases h⟩
 ·exact WRet.same ⟨rfl,(fun h=>by rw [hb] at h;cases h),fun _=>⟨u,v,rfl⟩⟩
def bitB (k z:Int):Bool:=IntKind.i64.wrap ((BitVec.ofInt IntKind.i64.bits (useT k) &&& BitVec.ofInt IntKind.i64.bits z).toNat) != 0
def bitE (k z:Int):Bool:=IntKind.i64.wrap ((BitVec.ofInt IntKind.i64.bits (useT k) &&& BitVec.ofInt IntKind.i64.bits z).toNat)==0
theorem q4c (k z:Int):bitE k z=!bitB k z:=by unfold bitE bitB;rw [bne,Bool.not_not]
theorem z0u {k:Int} (h:1≤k∧k≤25):bitB k 1=uD k:=by rcases q4x h.1 h.2 with rfl|rfl|rfl|rfl|rfl|rfl|rfl|rfl|rfl|rfl|rfl|rfl|rfl|rfl|rfl|rfl|rfl|rfl|rfl|rfl|rfl|rfl|rfl|rfl|rfl<;>rfl
theorem z0n {k:Int} (h:1≤k∧k≤25):bitB k 2=uA k:=by rcases q4x h.1 h.2 with rfl|rfl|rfl|rfl|rfl|rfl|rfl|rfl|rfl|rfl|rfl|rfl|rfl|rfl|rfl|rfl|rfl|rfl|rfl|rfl|rfl|rfl|rfl|rfl|rfl<;>rfl
theorem q9u {k:Int} (h:1≤k∧k≤25):bitB k 4=uB k:=by rcases q4x h.1 h.2 with rfl|rfl|rfl|rfl|rfl|rfl|rfl|rfl|rfl|rfl|rfl|rfl|rfl|rfl|rfl|rfl|rfl|rfl|rfl|rfl|rfl|rfl|rfl|rfl|rfl<;>rfl
theorem z1a {k:Int} (h:1≤k∧k≤25):bitB k 8=uC k:=by rcases q4x h.1 h.2 with rfl|rfl|rfl|rfl|rfl|rfl|rfl|rfl|rfl|rfl|rfl|rfl|rfl|rfl|rfl|rfl|rfl|rfl|rfl|rfl|rfl|rfl|rfl|rfl|rfl<;>rfl
def z0a (k:Int):Bool:=k==16||k==17||k==25
def z1v (k:Int):Bool:=k==18||k==19
theorem v0z {k:Int} (h:1≤k∧k≤25):bitB k 32=z0a k:=by rcases q4x h.1 h.2 with rfl|rfl|rfl|rfl|rfl|rfl|rfl|rfl|rfl|rfl|rfl|rfl|rfl|rfl|rfl|rfl|rfl|rfl|rfl|rfl|rfl|rfl|rfl|rfl|rfl<;>rfl
theorem v7m {k:Int} (h:1≤k∧k≤25):bitB k 64=z1v k:=by rcases q4x h.1 h.2 with rfl|rfl|rfl|rfl|rfl|rfl|rfl|rfl|rfl|rfl|rfl|rfl|rfl|rfl|rfl|rfl|rfl|rfl|rfl|rfl|rfl|rfl|rfl|rfl|rfl<;>rfl
theorem v5u {k:Int} (h:1≤k∧k≤25):bitB k 128=(k==21):=by rcases q4x h.1 h.2 with rfl|rfl|rfl|rfl|rfl|rfl|rfl|rfl|rfl|rfl|rfl|rfl|rfl|rfl|rfl|rfl|rfl|rfl|rfl|rfl|rfl|rfl|rfl|rfl|rfl<;>rfl
theorem z5g {k:Int} (h:1≤k∧k≤25):bitB k 16=(k==1):=by rcases q4x h.1 h.2 with rfl|rfl|rfl|rfl|rfl|rfl|rfl|rfl|rfl|rfl|rfl|rfl|rfl|rfl|rfl|rfl|rfl|rfl|rfl|rfl|rfl|rfl|rfl|rfl|rfl<;>rfl
def topC (nsz sp nb k:Int):Int:=if z0a k=true then nsz else if z1v k=true then sp else if k=21 then nb else -1
def topB (top n:Int):Bool:=decide (top<0)||(decide (n≥0)&&decide (n<top))
def q5b (top:Int) (o:OpR):Bool :=
 ((((!uD o.kd&&o.ds != 0)||(!uA o.kd&&o.a != 0))||(!uB o.kd&&o.b != 0))||(!uC o.kd&&o.c != 0))||((decide (top<0)&&!(o.kd==1))&&o.n != 0)
def opE (rg nsz sp nb:Int) (o:OpR):Int :=
 if ¬ (1≤o.kd∧o.kd≤25) then 4
 else if regB rg (uD o.kd) o.ds=false then 2
 else if regB rg (uA o.kd) o.a=false then 2
 else if regB rg (uB o.kd) o.b=false then 2
 else if regB rg (uC o.kd) o.c=false then 2
 else if regB rg (o.gd != -1) o.gd=false then 2
 else if topB (topC nsz sp nb o.kd) o.n=false then 5
 else if q5b (topC nsz sp nb o.kd) o=true then 4 else 0
theorem k4c {m:Mem} {T:Nat} {fr:Nat×Nat} (hm:m 0=some (.cells ⟨q2f⟩ T fr)) {pb:Nat} {a1 a2:Option Addr} {n1 c1 n2 c2:Nat} {pr rg cd sp:Int} (h:q6a m pb (.slice a1 n1 c1) pr rg cd sp (.slice a2 n2 c2)) (o:OpR) :
  q0f Tryz.prog 166 [ptr pb,o.val] m (ChkE (opE rg n1 sp n2 o) m):=by
 refine q0e q0d Tryz.func166 j4e rfl ?_
 have stop:∀ {e:Int} {u v:Int},opE rg n1 sp n2 o=e→e≠0→ChkE (opE rg n1 sp n2 o) m (.panicked (panE u v e)) m:=fun {e u v} h1 h2=>⟨rfl,(fun h=>absurd (h1.symm.trans h) h2),fun _=>⟨u,v,by rw [h1]⟩⟩
 conv=>whnf
 refine q0a.pure (z2p hm o.kd) ?_
 by_cases hk:1≤o.kd∧o.kd≤25
 rotate_left
 ·rw [if_neg hk,decide_eq_false hk]
  refine WChk.mk (q3w h _ _) (fun hb=>by cases hb) (fun _ u v=>?_)
  exact WRet.same (stop (by unfold opE;rw [if_pos hk]) (by decide))
 rw [if_pos hk,decide_eq_true hk]
 have g0:¬ ¬ (1≤o.kd∧o.kd≤25):=fun h=>h hk
 refine WChk.mk (q3w h _ _) (fun _=>?_) (fun hb=>by cases hb)
 refine WChk.mk (z1g h _ _) (fun g1=>?_) (fun hb u v=>?_)
 rotate_left
 ·have hb:regB rg (bitB o.kd 1) o.ds=false:=hb
  rw [z0u hk] at hb
  exact WRet.same (stop (by unfold opE;rw [if_neg g0,if_pos hb]) (by decide))
 have g1:regB rg (bitB o.kd 1) o.ds=true:=g1
 rw [z0u hk] at g1
 refine WChk.mk (z1g h _ _) (fun g2=>?_) (fun hb u v=>?_)
 rotate_left
 ·have hb:regB rg (bitB o.kd 2) o.a=false:=hb
  rw [z0n hk] at hb
  exact WRet.same (stop (by unfold opE;rw [if_neg g0,if_neg (by rw [g1];decide),if_pos hb]) (by decide))
 have g2:regB rg (bitB o.kd 2) o.a=true:=g2
 rw [z0n hk] at g2
 refine WChk.mk (z1g h _ _) (fun g3=>?_) (fun hb u v=>?_)
 rotate_left
 ·have hb:regB rg (bitB o.kd 4) o.b=false:=hb
  rw [q9u hk] at hb
  exact WRet.same (stop (by unfold opE;rw [if_neg g0,if_neg (by rw [g1];decide),if_neg (by rw [g2];decide),if_pos hb]) (by decide))
 have g3:regB rg (bitB o.kd 4) o.b=true:=g3
 rw [q9u hk] at g3
 refine WChk.mk (z1g h _ _) (fun g4=>?_) (fun hb u v=>?_)
 rotate_left
 ·have hb:regB rg (bitB o.kd 8) o.c=false:=hb
  rw [z1a hk] at hb
  exact WRet.same (stop (by unfold opE;rw [if_neg g0,if_neg (by rw [g1];decide),if_neg (by rw [g2];decide),if_neg (by rw [g3];decide),if_pos hb]) (by decide))
 have g4:regB rg (bitB o.kd 8) o.c=true:=g4
 rw [z1a hk] at g4
 refine WChk.mk (z1g h _ _) (fun g5=>?_) (fun hb u v=>?_)
 rotate_left
 ·have hb:regB rg (o.gd != -1) o.gd=false:=hb
  exact WRet.same (stop (by unfold opE;rw [if_neg g0,if_neg (by rw [g1];decide),if_neg (by rw [g2];decide),if_neg (by rw [g3];decide),if_neg (by rw [g4];decide),if_pos hb]) (by decide))
 have g5:regB rg (o.gd != -1) o.gd=true:=g5
 have hcode:opE rg n1 sp n2 o=if topB (topC n1 sp n2 o.kd) o.n=false then 5 else if q5b (topC n1 sp n2 o.kd) o=true then 4 else 0:=by
  unfold opE;rw [if_neg g0,if_neg (by rw [g1];decide),if_neg (by rw [g2];decide),if_neg (by rw [g3];decide),if_neg (by rw [g4];decide),if_neg (by rw [g5];decide)]
 have hnsz:∀ {a:Option Addr} {n c:Nat} {k:Nat},[Value.slice a1 n1 c1,i pr,i rg,i cd,i sp,.slice a2 n2 c2][k]? = some (.slice a n c)→q0q m ((⟨pb,0,none⟩:Addr).add 0 |>.add k) (.slice a n c):=fun hk=>by rw [add0,addo,Nat.zero_add];exact h.cell hk
 -- TAIL (printed by chkop.py)
 refine Br.mk (fun q1=>?_) (fun q1=>?_)
 ·have q1:bitB o.kd 32=true:=q1
  rw [v0z hk] at q1
  have htop:topC n1 sp n2 o.kd=n1:=by unfold topC;rw [if_pos q1]
  refine WLd.mk (.slice a1 n1 c1) (hnsz (k:=0) rfl) ?_
  refine WSc.mk (v:=decide (o.n≥0)&&decide (o.n<(n1:Int))) (fun _=>?_) ?_
  ·refine WSc.mk (fun _=>And.intro (Mem.le.refl _) rfl) ?_
   conv=>whnf
   exact And.intro (Mem.le.refl _) rfl
  refine WChk.mk (q3w h _ _) (fun g6=>?_) (fun hb u v=>?_)
  rotate_left
  ·have hb:topB (n1:Int) o.n=false:=hb
   exact WRet.same (stop (by rw [hcode,htop,if_pos hb]) (by decide))
  have g6:topB (n1:Int) o.n=true:=g6
  refine WSc.mk (fun _=>And.intro (Mem.le.refl _) rfl) ?_
  refine WSc.mk (v:=bitE o.kd 2&&o.a != 0) (fun _=>?_) ?_
  ·refine WSc.mk (fun _=>And.intro (Mem.le.refl _) rfl) ?_
   conv=>whnf
   exact And.intro (Mem.le.refl _) rfl
  refine WSc.mk (v:=bitE o.kd 4&&o.b != 0) (fun _=>?_) ?_
  ·refine WSc.mk (fun _=>And.intro (Mem.le.refl _) rfl) ?_
   conv=>whnf
   exact And.intro (Mem.le.refl _) rfl
  refine WSc.mk (v:=bitE o.kd 8&&o.c != 0) (fun _=>?_) ?_
  ·refine WSc.mk (fun _=>And.intro (Mem.le.refl _) rfl) ?_
   conv=>whnf
   exact And.intro (Mem.le.refl _) rfl
  refine WSc.mk (v:=(decide ((n1:Int)<0)&&bitE o.kd 16)&&o.n != 0) (fun _=>?_) ?_
  ·refine WSc.mk (fun _=>And.intro (Mem.le.refl _) rfl) ?_
   refine WSc.mk (fun _=>And.intro (Mem.le.refl _) rfl) ?_
   conv=>whnf
   exact And.intro (Mem.le.refl _) rfl
  conv=>whnf
  have fin:∀ x:Bool,x=(((((bitE o.kd 1&&o.ds != 0)||(bitE o.kd 2&&o.a != 0))||(bitE o.kd 4&&o.b != 0))||(bitE o.kd 8&&o.c != 0))||((decide ((n1:Int)<0)&&bitE o.kd 16)&&o.n != 0))→x=q5b (n1:Int) o:=fun x hx=>by
   rw [hx,q4c,q4c,q4c,q4c,q4c,z0u hk,z0n hk,q9u hk,z1a hk,z5g hk];rfl
  refine WChk.mk (q3w h _ _) (fun g7=>?_) (fun hb u v=>?_)
  ·have g7:q5b (n1:Int) o=false:=by rw [← fin _ rfl];exact q9g g7
   conv=>whnf
   have h0:opE rg n1 sp n2 o=0:=by rw [hcode,htop,if_neg (by rw [g6];decide),if_neg (by rw [g7];decide)]
   exact WRet.same ⟨rfl,(fun _=>rfl),fun h=>absurd h0 h⟩
  ·have hb:q5b (n1:Int) o=true:=by rw [← fin _ rfl];exact q7s hb
   exact WRet.same (stop (by rw [hcode,htop,if_neg (by rw [g6];decide),if_pos hb]) (by decide))
 have q1:bitB o.kd 32=false:=q1
 rw [v0z hk] at q1
 refine Br.mk (fun q2=>?_) (fun q2=>?_)
 ·have q2:bitB o.kd 64=true:=q2
  rw [v7m hk] at q2
  have htop:topC n1 sp n2 o.kd=sp:=by unfold topC;rw [if_neg (by rw [q1];decide),if_pos q2]
  refine WLd.mk (i sp) (by rw [add0,addo,Nat.zero_add];exact h.cell rfl) ?_
  refine WSc.mk (v:=decide (o.n≥0)&&decide (o.n<sp)) (fun _=>?_) ?_
  ·refine WSc.mk (fun _=>And.intro (Mem.le.refl _) rfl) ?_
   conv=>whnf
   exact And.intro (Mem.le.refl _) rfl
  refine WChk.mk (q3w h _ _) (fun g6=>?_) (fun hb u v=>?_)
  rotate_left
  ·have hb:topB sp o.n=false:=hb
   exact WRet.same (stop (by rw [hcode,htop,if_pos hb]) (by decide))
  have g6:topB sp o.n=true:=g6
  refine WSc.mk (fun _=>And.intro (Mem.le.refl _) rfl) ?_
  refine WSc.mk (v:=bitE o.kd 2&&o.a != 0) (fun _=>?_) ?_
  ·refine WSc.mk (fun _=>And.intro (Mem.le.refl _) rfl) ?_
   conv=>whnf
   exact And.intro (Mem.le.refl _) rfl
  refine WSc.mk (v:=bitE o.kd 4&&o.b != 0) (fun _=>?_) ?_
  ·refine WSc.mk (fun _=>And.intro (Mem.le.refl _) rfl) ?_
   conv=>whnf
   exact And.intro (Mem.le.refl _) rfl
  refine WSc.mk (v:=bitE o.kd 8&&o.c != 0) (fun _=>?_) ?_
  ·refine WSc.mk (fun _=>And.intro (Mem.le.refl _) rfl) ?_
   conv=>whnf
   exact And.intro (Mem.le.refl _) rfl
  refine WSc.mk (v:=(decide (sp<0)&&bitE o.kd 16)&&o.n != 0) (fun _=>?_) ?_
  ·refine WSc.mk (fun _=>And.intro (Mem.le.refl _) rfl) ?_
   refine WSc.mk (fun _=>And.intro (Mem.le.refl _) rfl) ?_
   conv=>whnf
   exact And.intro (Mem.le.refl _) rfl
  conv=>whnf
  have fin:∀ x:Bool,x=(((((bitE o.kd 1&&o.ds != 0)||(bitE o.kd 2&&o.a != 0))||(bitE o.kd 4&&o.b != 0))||(bitE o.kd 8&&o.c != 0))||((decide (sp<0)&&bitE o.kd 16)&&o.n != 0))→x=q5b sp o:=fun x hx=>by
   rw [hx,q4c,q4c,q4c,q4c,q4c,z0u hk,z0n hk,q9u hk,z1a hk,z5g hk];rfl
  refine WChk.mk (q3w h _ _) (fun g7=>?_) (fun hb u v=>?_)
  ·have g7:q5b sp o=false:=by rw [← fin _ rfl];exact q9g g7
   conv=>whnf
   have h0:opE rg n1 sp n2 o=0:=by rw [hcode,htop,if_neg (by rw [g6];decide),if_neg (by rw [g7];decide)]
   exact WRet.same ⟨rfl,(fun _=>rfl),fun h=>absurd h0 h⟩
  ·have hb:q5b sp o=true:=by rw [← fin _ rfl];exact q7s hb
   exact WRet.same (stop (by rw [hcode,htop,if_neg (by rw [g6];decide),if_pos hb]) (by decide))
 have q2:bitB o.kd 64=false:=q2
 rw [v7m hk] at q2
 refine Br.mk (fun q3=>?_) (fun q3=>?_)
 ·have q3:bitB o.kd 128=true:=q3
  rw [v5u hk] at q3
  have htop:topC n1 sp n2 o.kd=n2:=by unfold topC;rw [if_neg (by rw [q1];decide),if_neg (by rw [q2];decide),if_pos (by simpa using q3)]
  refine WLd.mk (.slice a2 n2 c2) (hnsz (k:=5) rfl) ?_
  refine WSc.mk (v:=decide (o.n≥0)&&decide (o.n<(n2:Int))) (fun _=>?_) ?_
  ·refine WSc.mk (fun _=>And.intro (Mem.le.refl _) rfl) ?_
   conv=>whnf
   exact And.intro (Mem.le.refl _) rfl
  refine WChk.mk (q3w h _ _) (fun g6=>?_) (fun hb u v=>?_)
  rotate_left
  ·have hb:topB (n2:Int) o.n=false:=hb
   exact WRet.same (stop (by rw [hcode,htop,if_pos hb]) (by decide))
  have g6:topB (n2:Int) o.n=true:=g6
  refine WSc.mk (fun _=>And.intro (Mem.le.refl _) rfl) ?_
  refine WSc.mk (v:=bitE o.kd 2&&o.a != 0) (fun _=>?_) ?_
  ·refine WSc.mk (fun _=>And.intro (Mem.le.refl _) rfl) ?_
   conv=>whnf
   exact And.intro (Mem.le.refl _) rfl
  refine WSc.mk (v:=bitE o.kd 4&&o.b != 0) (fun _=>?_) ?_
  ·refine WSc.mk (fun _=>And.intro (Mem.le.refl _) rfl) ?_
   conv=>whnf
   exact And.intro (Mem.le.refl _) rfl
  refine WSc.mk (v:=bitE o.kd 8&&o.c != 0) (fun _=>?_) ?_
  ·refine WSc.mk (fun _=>And.intro (Mem.le.refl _) rfl) ?_
   conv=>whnf
   exact And.intro (Mem.le.refl _) rfl
  refine WSc.mk (v:=(decide ((n2:Int)<0)&&bitE o.kd 16)&&o.n != 0) (fun _=>?_) ?_
  ·refine WSc.mk (fun _=>And.intro (Mem.le.refl _) rfl) ?_
   refine WSc.mk (fun _=>And.intro (Mem.le.refl _) rfl) ?_
   conv=>whnf
   exact And.intro (Mem.le.refl _) rfl
  conv=>whnf
  have fin:∀ x:Bool,x=(((((bitE o.kd 1&&o.ds != 0)||(bitE o.kd 2&&o.a != 0))||(bitE o.kd 4&&o.b != 0))||(bitE o.kd 8&&o.c != 0))||((decide ((n2:Int)<0)&&bitE o.kd 16)&&o.n != 0))→x=q5b (n2:Int) o:=fun x hx=>by
   rw [hx,q4c,q4c,q4c,q4c,q4c,z0u hk,z0n hk,q9u hk,z1a hk,z5g hk];rfl
  refine WChk.mk (q3w h _ _) (fun g7=>?_) (fun hb u v=>?_)
  ·have g7:q5b (n2:Int) o=false:=by rw [← fin _ rfl];exact q9g g7
   conv=>whnf
   have h0:opE rg n1 sp n2 o=0:=by rw [hcode,htop,if_neg (by rw [g6];decide),if_neg (by rw [g7];decide)]
   exact WRet.same ⟨rfl,(fun _=>rfl),fun h=>absurd h0 h⟩
  ·have hb:q5b (n2:Int) o=true:=by rw [← fin _ rfl];exact q7s hb
   exact WRet.same (stop (by rw [hcode,htop,if_neg (by rw [g6];decide),if_pos hb]) (by decide))
 have q3:bitB o.kd 128=false:=q3
 rw [v5u hk] at q3
 have htop:topC n1 sp n2 o.kd=-1:=by unfold topC;rw [if_neg (by rw [q1];decide),if_neg (by rw [q2];decide),if_neg (by simpa using q3)]
 refine WSc.mk (v:=decide (o.n≥0)&&decide (o.n<(-1:Int))) (fun _=>?_) ?_
 ·refine WSc.mk (fun _=>And.intro (Mem.le.refl _) rfl) ?_
  conv=>whnf
  exact And.intro (Mem.le.refl _) rfl
 refine WChk.mk (q3w h _ _) (fun g6=>?_) (fun hb u v=>?_)
 rotate_left
 ·have hb:topB (-1:Int) o.n=false:=hb
  exact WRet.same (stop (by rw [hcode,htop,if_pos hb]) (by decide))
 have g6:topB (-1:Int) o.n=true:=g6
 refine WSc.mk (fun _=>And.intro (Mem.le.refl _) rfl) ?_
 refine WSc.mk (v:=bitE o.kd 2&&o.a != 0) (fun _=>?_) ?_
 ·refine WSc.mk (fun _=>And.intro (Mem.le.refl _) rfl) ?_
  conv=>whnf
  exact And.intro (Mem.le.refl _) rfl
 refine WSc.mk (v:=bitE o.kd 4&&o.b != 0) (fun _=>?_) ?_
 ·refine WSc.mk (fun _=>And.intro (Mem.le.refl _) rfl) ?_
  conv=>whnf
  exact And.intro (Mem.le.refl _) rfl
 refine WSc.mk (v:=bitE o.kd 8&&o.c != 0) (fun _=>?_) ?_
 ·refine WSc.mk (fun _=>And.intro (Mem.le.refl _) rfl) ?_
  conv=>whnf
  exact And.intro (Mem.le.refl _) rfl
 refine WSc.mk (v:=(decide ((-1:Int)<0)&&bitE o.kd 16)&&o.n != 0) (fun _=>?_) ?_
 ·refine WSc.mk (fun _=>And.intro (Mem.le.refl _) rfl) ?_
  refine WSc.mk (fun _=>And.intro (Mem.le.refl _) rfl) ?_
  conv=>whnf
  exact And.intro (Mem.le.refl _) rfl
 conv=>whnf
 have fin:∀ x:Bool,x=(((((bitE o.kd 1&&o.ds != 0)||(bitE o.kd 2&&o.a != 0))||(bitE o.kd 4&&o.b != 0))||(bitE o.kd 8&&o.c != 0))||((decide ((-1:Int)<0)&&bitE o.kd 16)&&o.n != 0))→x=q5b (-1:Int) o:=fun x hx=>by
  rw [hx,q4c,q4c,q4c,q4c,q4c,z0u hk,z0n hk,q9u hk,z1a hk,z5g hk];rfl
 refine WChk.mk (q3w h _ _) (fun g7=>?_) (fun hb u v=>?_)
 ·have g7:q5b (-1:Int) o=false:=by rw [← fin _ rfl];exact q9g g7
  conv=>whnf
  have h0:opE rg n1 sp n2 o=0:=by rw [hcode,htop,if_neg (by rw [g6];decide),if_neg (by rw [g7];decide)]
  exact WRet.same ⟨rfl,(fun _=>rfl),fun h=>absurd h0 h⟩
 ·have hb:q5b (-1:Int) o=true:=by rw [← fin _ rfl];exact q7s hb
  exact WRet.same (stop (by rw [hcode,htop,if_neg (by rw [g6];decide),if_pos hb]) (by decide))
 -- END TAIL
end Go.Proofs.YtleofbpepfmfgaaGreatDoor
