import Derived.Test.YtleofbpepfmfgaaGreatDoorVxSound
set_option linter.unusedSimpArgs false
set_option linter.unusedVariables false
namespace Go.Vx
open Go
variable {P:Program}
section
variable {m:Mem} {X:List PanicEntry→Mem→Prop}
theorem Br.mono {c:Bool} {A B A' B':Prop} (h:A→A') (k:B→B') (x:Br c A B):Br c A' B':=by unfold Br at *;cases c;exact k x;exact h x
theorem WLd.mono {a:Addr} {K K':Value→Prop} (h:∀ v,K v→K' v) (x:WLd m a K):WLd m a K':=by unfold WLd at *;obtain ⟨v,h1,h2⟩:=x;exact ⟨v,h1,h _ h2⟩
theorem WLds.mono {a:Addr} {n:Nat} {K K':Value→Prop} (h:∀ v,K v→K' v) (x:WLds m a n K):WLds m a n K':=by unfold WLds at *;obtain ⟨v,h1,h2,h3⟩:=x;exact ⟨v,h1,h2,h _ h3⟩
theorem WIdx.mono {a:Option Addr} {len:Nat} {i:Int} {K K':Addr→Prop} (h:∀ v,K v→K' v) (x:WIdx a len i K):WIdx a len i K':=by unfold WIdx at *;obtain ⟨v,h1,h2,h3⟩:=x;exact ⟨v,h1,h2,h _ h3⟩
theorem WRng.mono {k:IntKind} {z:Int} {K K':Prop} (h:K→K') (x:WRng k z K):WRng k z K':=by unfold WRng at *;exact ⟨x.1,h x.2⟩
theorem WGet.mono {cs:List Value} {off:Nat} {i:Int} {K K':Value→Prop} (h:∀ v,K v→K' v) (x:WGet cs off i K):WGet cs off i K':=by unfold WGet at *;obtain ⟨v,h1,h2⟩:=x;exact ⟨v,h1,h _ h2⟩
theorem q6d.mono {s:ByteArray} {i:Int} {K K':Value→Prop} (h:∀ v,K v→K' v) (x:q6d s i K):q6d s i K':=by unfold q6d at *;obtain ⟨v,h1,h2⟩:=x;exact ⟨v,h1,h _ h2⟩
theorem WBnd.mono {i:Int} {len:Nat} {K K':Prop} (h:K→K') (x:WBnd i len K):WBnd i len K':=by unfold WBnd at *;exact ⟨x.1,h x.2⟩
theorem WNe.mono {y:Int} {K K':Prop} (h:K→K') (x:WNe y K):WNe y K':=by unfold WNe at *;exact ⟨x.1,h x.2⟩
theorem WNew.mono {o:Obj} {K K':Nat→Mem→Prop} (h:∀ b m',K b m'→K' b m') (x:WNew m o K):WNew m o K':=by unfold WNew at *;exact fun b hb=>h _ _ (x b hb)
theorem WSt.mono {a:Addr} {vs:List Value} {K K':Mem→Prop} (h:∀ m',K m'→K' m') (x:WSt m a vs K):WSt m a vs K':=by unfold WSt at *;obtain ⟨l,T,h1,h2,h3,h4⟩:=x;exact ⟨l,T,h1,h2,h3,h _ h4⟩
theorem WSl.mono {l h cap:Int} {K K':Prop} (f:K→K') (x:WSl l h cap K):WSl l h cap K':=by unfold WSl at *;exact ⟨x.1,f x.2⟩
theorem q2z.mono {T bytes:Nat} {zero:List Value} {l c:Int} {K K':Value→Mem→Prop} (h:∀ v m',K v m'→K' v m') (x:q2z m T bytes zero l c K):q2z m T bytes zero l c K':=by unfold q2z at *;exact ⟨x.1,fun b hb=>h _ _ (x.2 b hb)⟩
theorem WApp.mono {T sz bytes:Nat} {zero:List Value} {a:Option Addr} {len cap:Nat} {y:Option Addr} {n:Nat} {K K':Value→Mem→Prop} (h:∀ v m',K v m'→K' v m') (x:WApp m T sz bytes zero a len cap y n K):WApp m T sz bytes zero a len cap y n K':=by
 unfold WApp at *
 obtain ⟨new,h1,h2,h3,h4⟩:=x
 refine ⟨new,h1,h2,fun hh=>?_,fun hh=>?_⟩
 ·rcases h3 hh with ⟨a1,a2,a3⟩ | ⟨ad,a1,l,U,a2,a3,a4,a5,a6⟩
  ·exact .inl ⟨a1,a2,h _ _ a3⟩
  ·exact .inr ⟨ad,a1,l,U,a2,a3,a4,a5,h _ _ a6⟩
 ·obtain ⟨a1,old,a2,a3,a4⟩:=h4 hh
  exact ⟨a1,old,a2,a3,fun b c hb hc=>h _ _ (a4 b c hb hc)⟩
theorem q6c.mono {sz:Nat} {a:Option Addr} {alen:Nat} {y:Option Addr} {ylen:Nat} {K K':Value→Mem→Prop} (h:∀ v m',K v m'→K' v m') (x:q6c m sz a alen y ylen K):q6c m sz a alen y ylen K':=by
 unfold q6c at *
 obtain ⟨new,h1,h2,h3⟩:=x
 refine ⟨new,h1,h2,?_⟩
 rcases h3 with ⟨a1,a3⟩ | ⟨ad,a1,l,U,a2,a3,a4,a5,a6⟩
 ·exact .inl ⟨a1,h _ _ a3⟩
 ·exact .inr ⟨ad,a1,l,U,a2,a3,a4,a5,h _ _ a6⟩
theorem WClr.mono {sz:Nat} {zero:List Value} {a:Option Addr} {n:Nat} {K K':Mem→Prop} (h:∀ m',K m'→K' m') (x:WClr m sz zero a n K):WClr m sz zero a n K':=by
 unfold WClr at *
 rcases x with ⟨a1,a2⟩ | ⟨ad,a1,l,U,a2,a3,a4,a5,a6,a7⟩
 ·exact .inl ⟨a1,h _ a2⟩
 ·exact .inr ⟨ad,a1,l,U,a2,a3,a4,a5,a6,h _ a7⟩
theorem q0a.mono {f:Nat} {args:List Value} {K K':Value→Mem→Prop} (h:∀ v m',K v m'→K' v m') (x:q0a P f args m K X):q0a P f args m K' X:=by
 unfold q0a at *
 obtain ⟨R,h1,h2⟩:=x
 exact ⟨R,h1,fun e m' hr=>by have:=h2 e m' hr;cases e<;>first | exact h _ _ this | exact this⟩
theorem q1r.mono {f:Nat} {args:List Value} {K K':Value→Mem→Prop} (h:∀ v m',m.le m'→K v m'→K' v m') (x:q1r P f args m K X):q1r P f args m K' X:=by
 unfold q1r at *
 obtain ⟨R,h1,h2⟩:=x
 exact ⟨R,h1,fun e m' hr=>by have:=h2 e m' hr;cases e<;>first | exact ⟨this.1,h _ _ this.1 this.2⟩ | exact this⟩
end
theorem q7j.mono {m:Mem} {X:List PanicEntry→Mem→Prop} {b:Nat} {vs:List Value} {K K':Value→Mem→Prop} (h:∀ v m',K v m'→K' v m') (x:q7j P b vs m K X):q7j P b vs m K' X:=by
 unfold q7j at *
 obtain ⟨R,h1,h2⟩:=x
 exact ⟨R,h1,fun e m' hr=>by have:=h2 e m' hr;cases e<;>first | exact h _ _ this | exact this⟩
theorem WMp.mono {m:Mem} {o:MOp} {vs:List Value} {K K':Value→Mem→Prop} (h:∀ v m',K v m'→K' v m') (x:WMp o vs m K):WMp o vs m K':=by
 unfold WMp at *
 split at x
 ·exact h _ _ x
 ·exact ⟨x.1,fun hh=>h _ _ (x.2.1 hh),fun hh b c hb hc=>h _ _ (x.2.2 hh b c hb hc)⟩
 ·exact fun b hb=>h _ _ (x b hb)
 ·exact ⟨x.1,h _ _ x.2⟩
 ·obtain ⟨x1,es,cl,f,x2,x3,x4⟩:=x;exact ⟨x1,es,cl,f,x2,x3,h _ _ x4⟩
 ·obtain ⟨x1,es,cl,f,x2,x3,x4⟩:=x;exact ⟨x1,es,cl,f,x2,x3,h _ _ x4⟩
 ·exact h _ _ x
 ·obtain ⟨es,cl,x1,x2⟩:=x;exact ⟨es,cl,x1,h _ _ x2⟩
 ·exact fun b hb=>h _ _ (x b hb)
 ·obtain ⟨es,cl,x1,x2⟩:=x;exact ⟨es,cl,x1,fun b hb=>h _ _ (x2 b hb)⟩
 ·obtain ⟨bm,x⟩:=x
  refine ⟨bm,x.imp (fun y=>⟨y.1,y.2.1,h _ _ y.2.2⟩) fun y=>?_⟩
  obtain ⟨r,since,seen,c0,es,cl,y0,y1,y2,y3,y4,y5,y6⟩:=y
  exact ⟨r,since,seen,c0,es,cl,y0,y1,y2,y3,y4,fun hh=>h _ _ (y5 hh),fun z hz=>h _ _ (y6 z hz)⟩
 ·obtain ⟨r,since,seen,es,cl,y,x1,x2,x3,x4,x5⟩:=x;exact ⟨r,since,seen,es,cl,y,x1,x2,x3,x4,h _ _ x5⟩
 ·exact x
theorem z9l {s:Bool} {F:AV→Mem→Prop} {u:AV} {m:Mem} (h:q3l s F u m):F u m:=by
 cases s with
 | false=>exact h
 | true =>
  simp only [q3l] at h
  split at h<;>first | exact h.elim | skip
  rename_i b
  unfold Br at h
  cases b<;>exact h
theorem z0o {s:Bool} {F F':AV→Mem→Prop} {u:AV} {m:Mem} (h:∀ u,F u m→F' u m) (x:q3l s F u m):q3l s F' u m:=by
 cases s with
 | false=>exact h _ x
 | true =>
  simp only [q3l] at x ⊢
  split at x<;>first | exact x.elim | skip
  exact Br.mono (h _) (h _) x
theorem z9m {c:Bool} {A A':Prop} (h:A→A') (x:bif c then A else False):bif c then A' else False:=by cases c;exact x;exact h x
theorem z0y {x:IOp} {e:Env} {m:Mem} {F F':AV→Mem→Prop} {X:List PanicEntry→Mem→Prop} (h:∀ u m',F u m'→F' u m') (hv:vop P x e m F X):vop P x e m F' X:=by
 cases x<;>simp only [vop] at hv ⊢
 case callG f args=>split at hv<;>first | exact hv.elim | exact q1r.mono (fun v m' _=>h _ _) hv
 case callVG f args=>split at hv<;>first | exact hv.elim | exact q1r.mono (fun v m' _=>h _ _) hv
 case sl x lo hi esz =>
  split at hv<;>first | exact hv.elim | skip
  split at hv<;>first | exact hv.elim | skip
  exact WSl.mono (h _ _) hv
 case pn x=>split at hv<;>first | exact hv.elim | exact hv
 case sx x i=>split at hv<;>first | exact hv.elim | exact q6d.mono (fun _=>h _ _) hv
 case un op x=>split at hv<;>first | exact hv.elim | exact h _ _ hv
 all_goals
  repeat' (split at hv)
  all_goals try exact hv.elim
  all_goals try (refine z9m (fun hv=>?_) hv)
  all_goals first
   | exact hv.elim
   | exact h _ _ hv
   | exact WRng.mono (h _ _) hv
   | exact WBnd.mono (h _ _) hv
   | exact WNe.mono (h _ _) hv
   | exact WLd.mono (fun _=>h _ _) hv
   | exact WLds.mono (fun _=>h _ _) hv
   | exact WIdx.mono (fun _=>h _ _) hv
   | exact WGet.mono (fun _=>h _ _) hv
   | exact WNew.mono (fun _ _=>h _ _) hv
   | exact WSt.mono (fun _=>h _ _) hv
   | exact WSl.mono (h _ _) hv
   | exact q2z.mono (fun _ _=>h _ _) hv
   | exact WApp.mono (fun _ _=>h _ _) hv
   | exact q6c.mono (fun _ _=>h _ _) hv
   | exact WClr.mono (fun _=>h _ _) hv
   | exact q0a.mono (fun _ _=>h _ _) hv
   | exact WMp.mono (fun _ _=>h _ _) hv
   | exact q7j.mono (fun _ _=>h _ _) hv
   | exact WBnd.mono (WGet.mono (fun _=>h _ _)) hv
   | exact WBnd.mono (fun hh=>hh.elim) hv
   | exact z9m (h _ _) hv
   | exact z9m (WBnd.mono (h _ _)) hv
   | exact Br.mono (h _ _) (h _ _) hv
end Go.Vx
namespace Go.Vx
open Go
variable {P:Program} {D0:q3k} {ro:Option Nat} {m0:Mem} {w0:World} {N:Nat} {Q:Exit→Act→World→Prop} {ops:Array Oper} {X:List PanicEntry→Mem→Prop}

def v1r (mods:List (Nat×Nat)) (v:AV):Prop:=(∀ j off,v=.ref j off→inM j mods=false)∧(∀ j off i,v=.refi j off i→inM j mods=false)
theorem q4j {e:Env} {mods:List (Nat×Nat)} {t:Nat} {v:AV}:q5d e mods t=some v↔inM t mods=false∧e t=some v∧v1r mods v:=by
 unfold q5d
 cases ht:inM t mods with
 | true=>simp
 | false =>
  simp only [cond_false,true_and]
  unfold q9v v1r
  cases he:e t with
  | none=>simp
  | some u =>
   cases u with
   | val x=>simp only [Option.some.injEq];exact ⟨fun h=>⟨h,fun _ _ hh=>(by rw [← h] at hh;cases hh),fun _ _ _ hh=>(by rw [← h] at hh;cases hh)⟩,fun h=>h.1⟩
   | var x=>simp only [Option.some.injEq];exact ⟨fun h=>⟨h,fun _ _ hh=>(by rw [← h] at hh;cases hh),fun _ _ _ hh=>(by rw [← h] at hh;cases hh)⟩,fun h=>h.1⟩
   | fresh x=>simp only [Option.some.injEq];exact ⟨fun h=>⟨h,fun _ _ hh=>(by rw [← h] at hh;cases hh),fun _ _ _ hh=>(by rw [← h] at hh;cases hh)⟩,fun h=>h.1⟩
   | ref j off =>
    cases hj:inM j mods with
    | true =>
     simp only [hj,cond_true,Option.some.injEq]
     exact ⟨fun h=>(by cases h),fun h=>by have:=h.2.1 j off h.1.symm;rw [hj] at this;cases this⟩
    | false =>
     simp only [hj,cond_false,Option.some.injEq]
     exact ⟨fun h=>⟨h,fun _ _ hh=>(by rw [← h] at hh;cases hh;exact hj),fun _ _ _ hh=>(by rw [← h] at hh;cases hh)⟩,fun h=>h.1⟩
   | refi j off i =>
    cases hj:inM j mods with
    | true =>
     simp only [hj,cond_true,Option.some.injEq]
     exact ⟨fun h=>(by cases h),fun h=>by have:=h.2.2 j off i h.1.symm;rw [hj] at this;cases this⟩
    | false =>
     simp only [hj,cond_false,Option.some.injEq]
     exact ⟨fun h=>⟨h,fun _ _ hh=>(by rw [← h] at hh;cases hh),fun _ _ _ hh=>(by rw [← h] at hh;cases hh;exact hj)⟩,fun h=>h.1⟩
def Mod (mods:List (Nat×Nat)) (e e':Env):Prop:=∀ t v,q5d e mods t=some v→e' t=some v
theorem Mod.refl (mods:List (Nat×Nat)) (e:Env):Mod mods e e:=fun t v h=>(q4j.1 h).2.1
theorem Mod.trans {mods:List (Nat×Nat)} {e e' e'':Env} (h:Mod mods e e') (k:Mod mods e' e''):Mod mods e e'':=fun t v hv =>
 k t v (q4j.2 ⟨(q4j.1 hv).1,h t v hv,(q4j.1 hv).2.2⟩)
def subM (a b:List (Nat×Nat)):Bool:=a.all fun r=>b.any fun s=>Nat.ble s.1 r.1&&Nat.ble r.2 s.2
theorem v3i {t:Nat}:∀ {l:List (Nat×Nat)},inM t l=true↔∃ r∈l,r.1≤t∧t≤r.2:=by
 intro l
 induction l with
 | nil=>simp [inM]
 | cons r l ih =>
  obtain ⟨lo,hi⟩:=r
  simp only [inM,Bool.or_eq_true,Bool.and_eq_true,ih,List.mem_cons,exists_eq_or_imp]
  rw [Nat.ble_eq,Nat.ble_eq]
theorem v1q {a b:List (Nat×Nat)} (h:subM a b=true) {t:Nat} (ht:inM t a=true):inM t b=true:=by
 obtain ⟨r,hr,h1,h2⟩:=v3i.1 ht
 unfold subM at h
 rw [List.all_eq_true] at h
 have:=h r hr
 rw [List.any_eq_true] at this
 obtain ⟨s,hs,h3⟩:=this
 rw [Bool.and_eq_true,Nat.ble_eq,Nat.ble_eq] at h3
 exact v3i.2 ⟨s,hs,by omega,by omega⟩
theorem Mod.sub {a b:List (Nat×Nat)} (h:subM a b=true) {e e':Env} (k:Mod a e e'):Mod b e e':=fun t v hv=>by
 obtain ⟨h1,h2,h3⟩:=q4j.1 hv
 have out:∀ s,inM s b=false→inM s a=false:=fun s hs=>by
  cases ha:inM s a with
  | false=>rfl
  | true=>rw [v1q h ha] at hs;cases hs
 exact k t v (q4j.2 ⟨out t h1,h2,fun j off hh=>out j (h3.1 j off hh),fun j off i hh=>out j (h3.2 j off i hh)⟩)
def dIn (mods:List (Nat×Nat)) (d:Option Nat):Bool:=match d with | some t=>inM t mods | none=>true
theorem Mod.put {mods:List (Nat×Nat)} {d:Option Nat} (hd:dIn mods d=true) (e:Env) (u:AV):Mod mods e (e.put d u):=fun t v hv=>by
 obtain ⟨h1,h2,h3⟩:=q4j.1 hv
 cases d with
 | none=>exact h2
 | some s =>
  have hts:t≠s:=fun hh=>by subst hh;rw [show inM t mods=true from hd] at h1;cases h1
  by_cases hf:∃ cs,u=.fresh cs
  ·obtain ⟨cs,rfl⟩:=hf
   rw [q5n e cs hts]
   rw [h2]
   unfold q5c
   cases v with
   | ref j off =>
    have:=h3.1 j off rfl
    have hne:Nat.beq j s=false:=by
     cases hb:Nat.beq j s with
     | false=>rfl
     | true=>rw [q0n hb,show inM s mods=true from hd] at this;cases this
    simp only [hne,cond_false]
   | refi j off i =>
    have:=h3.2 j off i rfl
    have hne:Nat.beq j s=false:=by
     cases hb:Nat.beq j s with
     | false=>rfl
     | true=>rw [q0n hb,show inM s mods=true from hd] at this;cases this
    simp only [hne,cond_false]
   | val x=>rfl
   | var x=>rfl
   | fresh x=>rfl
  ·have:e.put (some s) u=e.upd s u:=by cases u<;>first | rfl | (exact absurd ⟨_,rfl⟩ hf)
   rw [this,q0u e u hts];exact h2

theorem q7z {x:E} {e:Env} {m:Mem} {K K':Env→Mem→Prop} (h:∀ u m',K (e.put x.d u) m'→K' (e.put x.d u) m') (hs:q1w P x e m K X):q1w P x e m K' X:=by
 unfold q1w at *
 split at hs
 ·exact z0y (fun u m'=>z0o fun u=>h u m') hs
 ·split at hs<;>first | exact hs.elim | skip
  ·rename_i s want b hb
   split at hs
   ·exact z0y (fun u m'=>z0o fun u=>h u m') hs
   ·exact z0y (fun u m'=>z0o fun u=>h u m') hs
   ·exact h _ _ hs
  ·exact h _ _ hs
theorem z3e:∀ {l:List E} {e:Env} {m:Mem} {K K':Env→Mem→Prop},(∀ e m,K e m→K' e m)→runI P X l K e m→runI P X l K' e m:=by
 intro l
 induction l with
 | nil=>intro e m K K' h hr;exact h _ _ hr
 | cons x l ih=>intro e m K K' h hr;exact q7z (fun u m' hk=>ih h hk) hr
theorem j4b {mods:List (Nat×Nat)}:∀ {l:List E} {e:Env} {m:Mem} {K:Env→Mem→Prop},(l.all fun x=>dIn mods x.d)=true→runI P X l K e m→runI P X l (fun e' m'=>K e' m'∧Mod mods e e') e m:=by
 intro l
 induction l with
 | nil=>intro e m K _ hr;exact ⟨hr,Mod.refl _ _⟩
 | cons x l ih =>
  intro e m K hl hr
  rw [List.all_cons,Bool.and_eq_true] at hl
  exact q7z (fun u m' hk=>z3e (fun e' m'' hh=>⟨hh.1,(Mod.put hl.1 e u).trans hh.2⟩) (ih hl.2 hk)) hr
def RG.within (mods:List (Nat×Nat)):RG→Bool
 | .nil=>true
 | .run l r=>(l.all fun x=>dIn mods x.d)&&r.within mods
 | .sc _ _ ms _ d _ r=>subM ms mods&&inM d mods&&r.within mods
theorem z3f:∀ {g:RG} {e:Env} {m:Mem} {K K':Env→Mem→Prop},(∀ e m,K e m→K' e m)→opsI P X g K e m→opsI P X g K' e m:=by
 intro g
 induction g with
 | nil=>intro e m K K' h hr;exact h _ _ hr
 | run l r ih=>intro e m K K' h hr;exact z3e (fun e' m' hh=>ih h hh) hr
 | sc s want ms body d y r _ ih =>
  intro e m K K' h hr
  simp only [opsI] at hr ⊢
  split at hr<;>first | exact hr.elim | skip
  unfold WSc at hr ⊢
  obtain ⟨v,h1,h2⟩:=hr
  exact ⟨v,h1,ih h h2⟩
theorem v5a {mods:List (Nat×Nat)}:∀ {g:RG} {e:Env} {m:Mem} {K:Env→Mem→Prop},g.within mods=true→opsI P X g K e m→opsI P X g (fun e' m'=>K e' m'∧Mod mods e e') e m:=by
 intro g
 induction g with
 | nil=>intro e m K _ hr;exact ⟨hr,Mod.refl _ _⟩
 | run l r ih =>
  intro e m K hw hr
  simp only [RG.within,Bool.and_eq_true] at hw
  exact z3e (fun e' m' hh=>z3f (fun e'' m'' hk=>⟨hk.1,hh.2.trans hk.2⟩) (ih hw.2 hh.1)) (j4b hw.1 hr)
 | sc s want ms body d y r _ ih =>
  intro e m K hw hr
  simp only [RG.within,Bool.and_eq_true] at hw
  simp only [opsI] at hr ⊢
  split at hr<;>first | exact hr.elim | skip
  unfold WSc at hr ⊢
  obtain ⟨v,h1,h2⟩:=hr
  refine ⟨v,h1,z3f (fun e' m' hk=>⟨hk.1,Mod.trans ?_ hk.2⟩) (ih hw.2 h2)⟩
  intro t u hu
  obtain ⟨g1,g2,g3⟩:=q4j.1 hu
  have hne:t≠d:=fun hh=>by subst hh;rw [hw.1.2] at g1;cases g1
  rw [q0u _ _ hne]
  have out:∀ s,inM s mods=false→inM s ms=false:=fun s hs=>by
   cases ha:inM s ms with
   | false=>rfl
   | true=>rw [v1q hw.1.1 ha] at hs;cases hs
  exact q4j.2 ⟨out t g1,g2,fun j off hh=>out j (g3.1 j off hh),fun j off i hh=>out j (g3.2 j off i hh)⟩
end Go.Vx
namespace Go.Vx
open Go
variable {P:Program} {D0:q3k} {ro:Option Nat} {m0:Mem} {w0:World} {N:Nat} {Q:Exit→Act→World→Prop} {ops:Array Oper} {X:List PanicEntry→Mem→Prop}

structure q5k where
 g:Nat
 want:Bool
 s:Nat
def z4r (k:Option q5k):Option (Nat×Bool):=match k with | some k=>some (k.g,k.want) | none=>none
def z6l (k:Option q5k) (d:Option Nat):Bool:=match k,d with | some k,some d=>!(Nat.beq d k.s) | _,_=>true
def gEq (a b:Option (Nat×Bool)):Bool:=match a,b with | none,none=>true | some (i,x),some (j,y)=>Nat.beq i j&&(x==y) | _,_=>false
theorem v7r {a b:Option (Nat×Bool)} (h:gEq a b=true):a=b:=by
 unfold gEq at h
 split at h
 ·rfl
 ·rw [Bool.and_eq_true,beq_iff_eq] at h;rw [q0n h.1,h.2]
 ·cases h
def q7i (ops:Array Oper) (k:Option q5k) (e:Env):Prop:=∀ x,k=some x→(ops[x.g]?).bind (·.dst)=some x.s∧e x.s=some (.val (.bool x.want))
theorem z7r {a:Act} {s:Nat} {b:Bool} (h:a.tmps.getD s undef=.bool b):a.tmps[s]? = some (.bool b):=by
 rw [Array.getD_eq_getD_getElem?] at h
 cases hs:a.tmps[s]? with
 | none=>rw [hs] at h;cases h
 | some v=>rw [hs] at h;simp only [Option.getD_some] at h;rw [h]
theorem v0h {k:Option q5k} {e:Env} {m:Mem} {a:Act} {w:World} (h:Rel D0 m0 w0 N e m a w) (hk:q7i ops k e) {o:Oper} (hg:o.guard=z4r k):Region.wanted o (yielded ops a.tmps)=true:=by
 unfold Region.wanted
 rw [hg]
 cases k with
 | none=>rfl
 | some x =>
  obtain ⟨h1,h2⟩:=hk x rfl
  have h3:=z7r (h.val _ _ h2)
  simp only [z4r,yielded,h1,Option.bind_some,h3,beq_self_eq_true]

theorem k6k {e:Env} {d:Option Nat} {s:Nat} {v:Value} (u:AV) (hs:e s=some (.val v)) (hd:(match d with | some t=>!(Nat.beq t s) | none=>true)=true):e.put d u s=some (.val v):=by
 cases d with
 | none=>exact hs
 | some t =>
  have hne:s≠t:=fun hh=>by subst hh;simp at hd
  cases u with
  | fresh cs=>rw [q5n e cs hne,hs];rfl
  | val x=>show e.upd t _ s=_;rw [q0u _ _ hne];exact hs
  | var x=>show e.upd t _ s=_;rw [q0u _ _ hne];exact hs
  | ref j off=>show e.upd t _ s=_;rw [q0u _ _ hne];exact hs
  | refi j off i=>show e.upd t _ s=_;rw [q0u _ _ hne];exact hs
theorem q7i.put {k:Option q5k} {e:Env} (h:q7i ops k e) {d:Option Nat} (hd:z6l k d=true) (u:AV):q7i ops k (e.put d u):=fun x hx=>by
 obtain ⟨h1,h2⟩:=h x hx
 refine ⟨h1,k6k u h2 ?_⟩
 subst hx
 cases d with
 | none=>rfl
 | some t=>exact hd

def okE1 (P:Program) (N:Nat) (k:Option q5k) (o:Oper) (x:E):Bool :=
 okOp P o x.o&&q9x N o x.d x.o&&(match x.g with | none=>true | _=>false)&&!x.s&&gEq o.guard (z4r k)&&z6l k x.d
def q7m (P:Program) (N:Nat) (k:Option q5k):List E→List Oper→Option (List Oper)
 | [],l=>some l
 | x :: xs,o :: l=>if okE1 P N k o x then q7m P N k xs l else none
 | _ :: _,[]=>none

theorem z9i {j n:Nat} {o:Oper} {a:Act} {w:World} (hj:ops[j]? = some o) (hn:ops.size=n) (h:wpOpIn (FR ro) 0 P ops Q j (wpOpsIn (FR ro) 0 P ops Q (List.range' (j+1) (n - (j+1)))) a w):wpOpsIn (FR ro) 0 P ops Q (List.range' j (n - j)) a w:=by
 have hlt:j<n:=hn▸(Array.getElem?_eq_some_iff.1 hj).1
 have:n - j=(n - (j+1))+1:=by omega
 rw [this,List.range'_succ,wpOpsIn_cons]
 exact h
theorem z7l {j:Nat} {o:Oper} {a:Act} {w:World} {K:Act→World→Prop} (hj:ops[j]? = some o) (hw:Region.wanted o (yielded ops a.tmps)=true) (h:o.wpIn (FR ro) 0 P a w K Q):wpOpIn (FR ro) 0 P ops Q j K a w:=by
 unfold wpOpIn;simp only [hj,hw,if_true];exact h
theorem v4b {j:Nat} {o:Oper} {a:Act} {w:World} {K:Act→World→Prop} (hj:ops[j]? = some o) (hw:Region.wanted o (yielded ops a.tmps)=false) (h:K (a.put o.dst undef) w):wpOpIn (FR ro) 0 P ops Q j K a w:=by
 unfold wpOpIn;simp only [hj,hw,Bool.false_eq_true,if_false];exact ⟨fun f _=>v0e ro f,h⟩

theorem k9n {k:Option q5k} (hX:∀ ch m' w' a',X ch m'→Step m0 w0 m' w'→q3m D0 m' w0 a'.defers w'→Q (.panic ch) a' w') :
  ∀ (xs:List E) (l l':List Oper) (j:Nat) (e:Env) (m:Mem) (a:Act) (w:World) (K:Env→Mem→Prop),q7m P N k xs l=some l'→(∀ i,l[i]? = ops[j+i]?)→q7i ops k e→Rel D0 m0 w0 N e m a w→runI P X xs K e m →
   (∀ e' m' a' w',K e' m'→Rel D0 m0 w0 N e' m' a' w'→q7i ops k e'→(∀ i,l'[i]? = ops[j+xs.length+i]?)→wpOpsIn (FR ro) 0 P ops Q (List.range' (j+xs.length) (ops.size - (j+xs.length))) a' w') →
   wpOpsIn (FR ro) 0 P ops Q (List.range' j (ops.size - j)) a w:=by
 intro xs
 induction xs with
 | nil=>intro l l' j e m a w K hok hl hk h hr hK;simp only [q7m,Option.some.injEq] at hok;subst hok;exact hK e m a w hr h hk hl
 | cons x xs ih =>
  intro l l' j e m a w K hok hl hk h hr hK
  cases l with
  | nil=>simp [q7m] at hok
  | cons o l =>
   simp only [q7m] at hok
   split at hok<;>first | (cases hok;done) | skip
   rename_i hx
   simp only [okE1,Bool.and_eq_true,Bool.not_eq_true'] at hx
   obtain ⟨⟨⟨⟨⟨h1,h2⟩,h3⟩,h4⟩,h5⟩,h6⟩:=hx
   have hj:ops[j]? = some o:=by have:=hl 0;rw [Nat.add_zero] at this;rw [← this];rfl
   refine z9i hj rfl (z7l hj (v0h h hk (v7r h5)) ?_)
   simp only [runI,q1w] at hr
   split at h3<;>first | (cases h3;done) | skip
   rename_i hg
   rw [hg] at hr
   refine v2j h1 h2 h hr (fun u m' a' w' hu hrel=>?_) (fun ch m' w' x y z=>hX ch m' w' a x y z)
   have hu':=z9l hu
   refine ih l l' (j+1) _ m' a' w' K hok (fun i=>by have:=hl (i+1);rw [List.getElem?_cons_succ] at this;rw [this];congr 1;omega) (hk.put h6 u) hrel hu' (fun e' m' a' w' g1 g2 g3 g4=>?_)
   have e1:j+1+xs.length=j+(x :: xs).length:=by simp;omega
   rw [e1] at g4 ⊢
   exact hK e' m' a' w' g1 g2 g3 g4

def v4k (k:Option q5k) (s:Nat) (want:Bool) (d:Nat) (y:Opd) (p:Oper):Bool :=
 gEq p.guard (z4r k)&&(match p.dst with | some t=>Nat.beq t d | none=>false) &&
 (match p.op with
  | .pick c a b=>okX (.t s) c&&(match want with | true=>okX y a&&okX (.c (.bool false)) b | false=>okX (.c (.bool true)) a&&okX y b)
  | _=>false)
def z3p (g:Nat) (want:Bool) (j:Nat) (mods:List (Nat×Nat)):Nat→List Oper→Bool
 | _,[]=>true
 | i,o :: l=>(match o.guard with | some (gi,x)=>(Nat.beq gi g&&(x==want))||(Nat.ble j gi&&Nat.ble (gi+1) i) | none=>false)&&dIn mods o.dst&&z3p g want j mods (i+1) l
def offM (k:Option q5k) (mods:List (Nat×Nat)):Bool:=match k with | some x=>!inM x.s mods | none=>true
def z4z (ops:Array Oper) (g s:Nat):Bool:=match (ops[g]?).bind (·.dst) with | some t=>Nat.beq t s | none=>false
def okG (P:Program) (N:Nat) (ops:Array Oper):RG→Option q5k→List Oper→Nat→Option (List Oper×Nat)
 | .nil,_,l,j=>some (l,j)
 | .run xs r,k,l,j=>match q7m P N k xs l with | some l'=>okG P N ops r k l' (j+xs.length) | none=>none
 | .sc s want mods body d y r,k,l,j =>
  match j with
  | 0=>none
  | g+1 =>
   match okG P N ops body (some ⟨g,want,s⟩) l (g+1) with
   | some (p :: l',j') =>
    if z4z ops g s&&body.within mods&&!inM s mods&&offM k mods&&z6l k (some d)&&Nat.ble (d+1) N &&
     Nat.ble (g+1) j'&&z3p g want (g+1) mods (g+1) (l.take (j' - (g+1)))&&v4k k s want d y p
    then okG P N ops r k l' (j'+1) else none
   | _=>none

theorem j9p {g j:Nat} {want:Bool} {mods:List (Nat×Nat)} {s:Nat} (hg:(ops[g]?).bind (·.dst)=some s) (hs:inM s mods=false) :
  ∀ (l:List Oper) (i:Nat) (a:Act) (w:World),z3p g want j mods i l=true→(∀ k,k<l.length→l[k]? = ops[i+k]?) →
   (∃ c,c≠want∧a.tmps.getD s undef=.bool c) →
   (∀ gi t,j≤gi→gi<i→(ops[gi]?).bind (·.dst)=some t→a.tmps.getD t undef=undef) →
   (∀ a',a'.tmps.size=a.tmps.size→a'.defers=a.defers→(∀ t,inM t mods=false→a'.tmps.getD t undef=a.tmps.getD t undef)→wpOpsIn (FR ro) 0 P ops Q (List.range' (i+l.length) (ops.size - (i+l.length))) a' w) →
   wpOpsIn (FR ro) 0 P ops Q (List.range' i (ops.size - i)) a w:=by
 intro l
 induction l with
 | nil=>intro i a w _ _ _ _ hK;exact hK a rfl rfl fun _ _=>rfl
 | cons o l ih =>
  intro i a w hok hl hc hu hK
  simp only [z3p,Bool.and_eq_true] at hok
  obtain ⟨⟨h1,h2⟩,h3⟩:=hok
  have hi:ops[i]? = some o:=by have:=hl 0 (by simp);rw [Nat.add_zero] at this;rw [← this];rfl
  have hun:Region.wanted o (yielded ops a.tmps)=false:=by
   unfold Region.wanted
   split at h1<;>first | (cases h1;done) | skip
   rename_i gi x hgi
   rw [hgi]
   rw [Bool.or_eq_true,Bool.and_eq_true,Bool.and_eq_true,Nat.ble_eq,Nat.ble_eq,beq_iff_eq] at h1
   obtain ⟨c,hc1,hc2⟩:=hc
   rcases h1 with h1 | h1
   ·obtain rfl:=q0n h1.1
    have hx:=h1.2
    subst hx
    simp only [yielded,hg,Option.bind_some,z7r hc2]
    cases c<;>cases x<;>first | rfl | (exact absurd rfl hc1)
   ·cases hd:(ops[gi]?).bind (·.dst) with
    | none=>simp only [yielded,hd,Option.bind_none];cases x<;>rfl
    | some t =>
     have:=hu gi t h1.1 (by omega) hd
     simp only [yielded,hd,Option.bind_some]
     rw [Array.getD_eq_getD_getElem?] at this
     cases ht:a.tmps[t]? with
     | none=>cases x<;>rfl
     | some v=>rw [ht] at this;simp only [Option.getD_some] at this;subst this;cases x<;>rfl
  have keep:∀ t,inM t mods=false→(a.put o.dst undef).tmps.getD t undef=a.tmps.getD t undef:=fun t ht=>by
   cases hd:o.dst with
   | none=>rfl
   | some d =>
    rw [hd] at h2
    have hne:t≠d:=fun hh=>by subst hh;rw [show inM t mods=true from h2] at ht;cases ht
    simp only [Act.put,Array.getD_eq_getD_getElem?]
    rw [Array.getElem?_setIfInBounds_ne (Ne.symm hne)]
  refine z9i hi rfl (v4b hi hun ?_)
  refine ih (i+1) _ w h3 (fun k hk=>by have:=hl (k+1) (by simp;omega);rw [List.getElem?_cons_succ] at this;rw [this];congr 1;omega) ?_ ?_ ?_
  ·obtain ⟨c,hc1,hc2⟩:=hc
   exact ⟨c,hc1,by rw [keep s hs];exact hc2⟩
  ·intro gi t hgi hlt hd
   by_cases heq:gi=i
   ·subst heq
    rw [hi,Option.bind_some] at hd
    rw [hd]
    simp only [Act.put,Array.getD_eq_getD_getElem?]
    rcases Nat.lt_or_ge t a.tmps.size with hts | hts
    ·simp [hts]
    ·rw [Array.getElem?_eq_none (by simpa using hts)];rfl
   ·have h0:=hu gi t hgi (by omega) hd
    cases hd2:o.dst with
    | none=>exact h0
    | some d =>
     simp only [Act.put,Array.getD_eq_getD_getElem?] at h0 ⊢
     by_cases hdt:d=t
     ·subst hdt
      rcases Nat.lt_or_ge d a.tmps.size with hts | hts
      ·simp [hts]
      ·rw [Array.getElem?_eq_none (by simpa using hts)];rfl
     ·rw [Array.getElem?_setIfInBounds_ne hdt];exact h0
  ·intro a' ha1 ha2 ha3
   have e1:i+1+l.length=i+(o :: l).length:=by simp;omega
   rw [e1]
   refine hK a' (ha1.trans ?_) (ha2.trans ?_) (fun t ht=>(ha3 t ht).trans (keep t ht))
   ·cases o.dst<;>simp [Act.put]
   ·cases o.dst<;>rfl

theorem Rel.clear {e:Env} {m:Mem} {a a':Act} {w:World} (h:Rel D0 m0 w0 N e m a w) (mods:List (Nat×Nat)) (hs:a'.tmps.size=a.tmps.size) (hd:a'.defers=a.defers)
  (hk:∀ t,inM t mods=false→a'.tmps.getD t undef=a.tmps.getD t undef):Rel D0 m0 w0 N (q5d e mods) m a' w where
 size:=hs.trans h.size
 defers:=hd▸h.defers
 step:=h.step
 val t v ht:=by obtain ⟨h1,h2,_⟩:=q4j.1 ht;rw [hk t h1];exact h.val t v h2
 var t cs ht:=by obtain ⟨h1,h2,_⟩:=q4j.1 ht;rw [hk t h1];exact h.var t cs h2
 inj t t' cs cs' ht ht':=by
  obtain ⟨h1,h2,_⟩:=q4j.1 ht
  obtain ⟨h3,h4,_⟩:=q4j.1 ht'
  rw [hk t h1,hk t' h3];exact h.inj t t' cs cs' h2 h4
 ref t k off cs ht hkk:=by
  obtain ⟨h1,h2,_⟩:=q4j.1 ht
  obtain ⟨h3,h4,_⟩:=q4j.1 hkk
  rw [hk t h1,hk k h3];exact h.ref t k off cs h2 h4
 refi t k off i cs ht hkk:=by
  obtain ⟨h1,h2,_⟩:=q4j.1 ht
  obtain ⟨h3,h4,_⟩:=q4j.1 hkk
  rw [hk t h1,hk k h3];exact h.refi t k off i cs h2 h4

theorem w5n {k:Option q5k}:∀ {xs:List E} {l l':List Oper},q7m P N k xs l=some l'→l.length=xs.length+l'.length∧l'=l.drop xs.length:=by
 intro xs
 induction xs with
 | nil=>intro l l' h;simp only [q7m,Option.some.injEq] at h;subst h;simp
 | cons x xs ih =>
  intro l l' h
  cases l with
  | nil=>simp [q7m] at h
  | cons o l =>
   simp only [q7m] at h
   split at h<;>first | (cases h;done) | skip
   obtain ⟨h1,h2⟩:=ih h
   refine ⟨by simp [h1];omega,by simpa using h2⟩
theorem v4w:∀ (r:RG) {k:Option q5k} {l l':List Oper} {j j':Nat},okG P N ops r k l j=some (l',j')→j≤j'∧l.length+j=l'.length+j'∧l'=l.drop (j' - j):=by
 intro r
 induction r with
 | nil=>intro k l l' j j' h;simp only [okG,Option.some.injEq,Prod.mk.injEq] at h;obtain ⟨rfl,rfl⟩:=h;exact ⟨Nat.le_refl _,rfl,by simp⟩
 | run xs r ih =>
  intro k l l' j j' h
  simp only [okG] at h
  split at h<;>first | (cases h;done) | skip
  rename_i l2 hr
  obtain ⟨h1,h1'⟩:=w5n hr
  obtain ⟨h2,h3,h4⟩:=ih h
  refine ⟨by omega,by omega,?_⟩
  rw [h4,h1',List.drop_drop];congr 1;omega
 | sc s want mods body d y r ihb ihr =>
  intro k l l' j j' h
  simp only [okG] at h
  split at h<;>first | (cases h;done) | skip
  rename_i g
  split at h<;>first | (cases h;done) | skip
  rename_i p l2 j2 hb
  split at h<;>first | (cases h;done) | skip
  obtain ⟨h1,h1',h1''⟩:=ihb hb
  obtain ⟨h2,h2',h2''⟩:=ihr h
  simp at h1'
  refine ⟨by omega,by omega,?_⟩
  have:l2=l.drop (j2+1 - (g+1)):=by
   have e:l2=(p :: l2).drop 1:=rfl
   rw [e,h1'',List.drop_drop];congr 1;omega
  rw [h2'',this,List.drop_drop];congr 1;omega

theorem k5f (hX:∀ ch m' w' a',X ch m'→Step m0 w0 m' w'→q3m D0 m' w0 a'.defers w'→Q (.panic ch) a' w') :
  ∀ (r:RG) (k:Option q5k) (l l':List Oper) (j j':Nat) (e:Env) (m:Mem) (a:Act) (w:World) (K:Env→Mem→Prop),okG P N ops r k l j=some (l',j')→(∀ i,l[i]? = ops[j+i]?)→q7i ops k e→Rel D0 m0 w0 N e m a w→opsI P X r K e m →
   (∀ e' m' a' w',K e' m'→Rel D0 m0 w0 N e' m' a' w'→q7i ops k e'→wpOpsIn (FR ro) 0 P ops Q (List.range' j' (ops.size - j')) a' w') →
   wpOpsIn (FR ro) 0 P ops Q (List.range' j (ops.size - j)) a w:=by
 intro r
 induction r with
 | nil =>
  intro k l l' j j' e m a w K hok hl hk h hr hK
  simp only [okG,Option.some.injEq,Prod.mk.injEq] at hok
  obtain ⟨rfl,rfl⟩:=hok
  exact hK e m a w hr h hk
 | run xs r ih =>
  intro k l l' j j' e m a w K hok hl hk h hr hK
  simp only [okG] at hok
  split at hok<;>first | (cases hok;done) | skip
  rename_i l2 hrun
  exact k9n hX xs l l2 j e m a w _ hrun hl hk h hr fun e' m' a' w' g1 g2 g3 g4=>ih k l2 l' _ j' e' m' a' w' K hok g4 g3 g2 g1 hK
 | sc s want mods body d y r ihb ihr =>
  intro k l l' j j' e m a w K hok hl hk h hr hK
  simp only [okG] at hok
  split at hok<;>first | (cases hok;done) | skip
  rename_i g
  split at hok<;>first | (cases hok;done) | skip
  rename_i p l2 j2 hb
  split at hok<;>first | (cases hok;done) | skip
  rename_i hc
  simp only [Bool.and_eq_true,Bool.not_eq_true'] at hc
  obtain ⟨⟨⟨⟨⟨⟨⟨⟨c1,c2⟩,c3⟩,c4⟩,c5⟩,c6⟩,c7⟩,c8⟩,c9⟩:=hc
  unfold z4z at c1
  split at c1<;>first | (cases c1;done) | skip
  rename_i t hdst
  obtain rfl:=q0n c1
  obtain ⟨s1,s2,s3⟩:=v4w body hb
  simp only [List.length_cons] at s2
  have hp:ops[j2]? = some p:=by
   have h0:l[j2 - (g+1)]? = some p:=by
    have:(l.drop (j2 - (g+1)))[0]? = some p:=by rw [← s3];rfl
    rw [List.getElem?_drop] at this
    simpa using this
   rw [hl] at h0;rw [← h0];congr 1;omega
  have hl2:∀ i,l2[i]? = ops[j2+1+i]?:=fun i=>by
   have e:l2[i]? = (p :: l2)[i+1]?:=by simp
   rw [e,s3,List.getElem?_drop,hl];congr 1;omega
  simp only [opsI] at hr
  split at hr<;>first | exact hr.elim | skip
  rename_i c hs
  unfold WSc at hr
  obtain ⟨v,hA,hB⟩:=hr
  simp only [v4k,Bool.and_eq_true] at c9
  obtain ⟨⟨p1,p2⟩,p3⟩:=c9
  split at p2<;>first | (cases p2;done) | skip
  rename_i d' hd'
  obtain rfl:=q0n p2
  split at p3<;>first | (cases p3;done) | skip
  rename_i cc ya yb hpop
  simp only [Bool.and_eq_true] at p3
  have hdN:d'<N:=Nat.le_of_ble_eq_true c6
  -- behind the pick
  have after:∀ (a':Act) (w':World),Rel D0 m0 w0 N (q5d e mods) m a' w'→q7i ops k (q5d e mods)→(execOp a'.eval p).run P w'=.ok (.value (.bool (scB c want v))) w' →
    wpOpsIn (FR ro) 0 P ops Q (List.range' j2 (ops.size - j2)) a' w':=fun a' w' hrel hk' hrun=>by
   refine z9i hp rfl (z7l hp (v0h hrel hk' (v7r p1)) (q8k hrun ?_))
   rw [hd']
   exact ihr k l2 l' (j2+1) j' ((q5d e mods).upd d' (.val (.bool (scB c want v)))) m _ w' K hok hl2 (hk'.put (d:=some d') c5 (.val (.bool (scB c want v)))) (hrel.updVal hdN _) hB hK
  have hkc:q7i ops k (q5d e mods):=fun x hx=>by
   obtain ⟨q1,q2⟩:=hk x hx
   subst hx
   simp only [offM,Bool.not_eq_true'] at c4
   exact ⟨q1,q4j.2 ⟨c4,q2,fun _ _ hh=>(by cases hh),fun _ _ _ hh=>(by cases hh)⟩⟩
  by_cases hcw:c=want
  ·subst hcw
   have hA':=v5a c2 (hA rfl)
   refine ihb (some ⟨g,c,t⟩) l _ (g+1) j2 e m a w _ hb hl (fun x hx=>by cases hx;exact ⟨hdst,hs⟩) h hA' fun e' m' a' w' q1 q2 q3=>?_
   obtain ⟨⟨q6,q4⟩,q5⟩:=q1
   have hrel:Rel D0 m0 w0 N (q5d e mods) m a' w':=(q2.weak q5).forget q6
   refine after a' w' hrel hkc ?_
   have hcc:a'.eval cc=.bool c:=q6f q2 p3.1 (by simp only [Opd.at];rw [(q3 _ rfl).2])
   have hy:=fun {z:Operand} (hz:okX y z=true)=>q6f q2 hz q4
   cases c with
   | true =>
    simp only [Bool.and_eq_true] at p3
    simp only [execOp,hpop,hcc,hy p3.2.1];rfl
   | false =>
    simp only [Bool.and_eq_true] at p3
    simp only [execOp,hpop,hcc,hy p3.2.2];rfl
  ·have hlen:(l.take (j2 - (g+1))).length=j2 - (g+1):=by simp;omega
   refine j9p hdst c3 (l.take (j2 - (g+1))) (g+1) a w c8 (fun i hi=>?_) ⟨c,hcw,h.val _ _ hs⟩ (fun gi t h1 h2=>by omega) fun a' g1 g2 g3=>?_
   ·rw [List.getElem?_take,if_pos (by omega)];exact hl i
   ·have e1:g+1+(l.take (j2 - (g+1))).length=j2:=by omega
    rw [e1]
    have hrel:=h.clear mods g1 g2 g3
    refine after a' w hrel hkc ?_
    have hcc:a'.eval cc=.bool c:=by rw [q8l p3.1,g3 _ c3];exact h.val _ _ hs
    cases c with
    | true =>
     cases want with
     | true=>exact absurd rfl hcw
     | false =>
      simp only [Bool.and_eq_true] at p3
      have:=q6f hrel p3.2.1 (v:=.bool true) rfl
      simp only [execOp,hpop,hcc,this];rfl
    | false =>
     cases want with
     | false=>exact absurd rfl hcw
     | true =>
      simp only [Bool.and_eq_true] at p3
      have:=q6f hrel p3.2.2 (v:=.bool false) rfl
      simp only [execOp,hpop,hcc,this];rfl
end Go.Vx
