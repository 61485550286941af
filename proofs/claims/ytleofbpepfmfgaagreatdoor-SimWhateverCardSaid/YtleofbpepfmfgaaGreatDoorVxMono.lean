import Derived.Test.YtleofbpepfmfgaaGreatDoorVxSound
set_option linter.unusedSimpArgs false
set_option linter.unusedVariables false
namespace Go.Vx
open Go
variable {P:Program}
section
variable {m:Mem} {X:List PanicEntry → Mem → Prop}
theorem Br.mono {c:Bool} {A B A' B':Prop} (h:A → A') (k:B → B') (x:Br c A B):Br c A' B':=by unfold Br at *;cases c;exact k x;exact h x
theorem WLd.mono {a:Addr} {K K':Value → Prop} (h:∀ v,K v → K' v) (x:WLd m a K):WLd m a K':=by unfold WLd at *;obtain ⟨v,h1,h2⟩:=x;exact ⟨v,h1,h _ h2⟩
theorem WLds.mono {a:Addr} {n:Nat} {K K':Value → Prop} (h:∀ v,K v → K' v) (x:WLds m a n K):WLds m a n K':=by unfold WLds at *;obtain ⟨v,h1,h2,h3⟩:=x;exact ⟨v,h1,h2,h _ h3⟩
theorem WIdx.mono {a:Option Addr} {len:Nat} {i:Int} {K K':Addr → Prop} (h:∀ v,K v → K' v) (x:WIdx a len i K):WIdx a len i K':=by unfold WIdx at *;obtain ⟨v,h1,h2,h3⟩:=x;exact ⟨v,h1,h2,h _ h3⟩
theorem WRng.mono {k:IntKind} {z:Int} {K K':Prop} (h:K → K') (x:WRng k z K):WRng k z K':=by unfold WRng at *;exact ⟨x.1,h x.2⟩
theorem WGet.mono {cs:List Value} {off:Nat} {i:Int} {K K':Value → Prop} (h:∀ v,K v → K' v) (x:WGet cs off i K):WGet cs off i K':=by unfold WGet at *;obtain ⟨v,h1,h2⟩:=x;exact ⟨v,h1,h _ h2⟩
theorem WByte.mono {s:ByteArray} {i:Int} {K K':Value → Prop} (h:∀ v,K v → K' v) (x:WByte s i K):WByte s i K':=by unfold WByte at *;obtain ⟨v,h1,h2⟩:=x;exact ⟨v,h1,h _ h2⟩
theorem WBnd.mono {i:Int} {len:Nat} {K K':Prop} (h:K → K') (x:WBnd i len K):WBnd i len K':=by unfold WBnd at *;exact ⟨x.1,h x.2⟩
theorem WNe.mono {y:Int} {K K':Prop} (h:K → K') (x:WNe y K):WNe y K':=by unfold WNe at *;exact ⟨x.1,h x.2⟩
theorem WNew.mono {o:Obj} {K K':Nat → Mem → Prop} (h:∀ b m',K b m' → K' b m') (x:WNew m o K):WNew m o K':=by unfold WNew at *;exact fun b hb=>h _ _ (x b hb)
theorem WSt.mono {a:Addr} {vs:List Value} {K K':Mem → Prop} (h:∀ m',K m' → K' m') (x:WSt m a vs K):WSt m a vs K':=by unfold WSt at *;obtain ⟨l,T,h1,h2,h3,h4⟩:=x;exact ⟨l,T,h1,h2,h3,h _ h4⟩
theorem WSl.mono {l h cap:Int} {K K':Prop} (f:K → K') (x:WSl l h cap K):WSl l h cap K':=by unfold WSl at *;exact ⟨x.1,f x.2⟩
theorem WMake.mono {T bytes:Nat} {zero:List Value} {l c:Int} {K K':Value → Mem → Prop} (h:∀ v m',K v m' → K' v m') (x:WMake m T bytes zero l c K):WMake m T bytes zero l c K':=by unfold WMake at *;exact ⟨x.1,fun b hb=>h _ _ (x.2 b hb)⟩
theorem WApp.mono {T sz bytes:Nat} {zero:List Value} {a:Option Addr} {len cap:Nat} {y:Option Addr} {n:Nat} {K K':Value → Mem → Prop} (h:∀ v m',K v m' → K' v m') (x:WApp m T sz bytes zero a len cap y n K):WApp m T sz bytes zero a len cap y n K':=by
 unfold WApp at *
 obtain ⟨new,h1,h2,h3,h4⟩:=x
 refine ⟨new,h1,h2,fun hh=>?_,fun hh=>?_⟩
 ·rcases h3 hh with ⟨a1,a2,a3⟩ | ⟨ad,a1,l,U,a2,a3,a4,a5,a6⟩
  ·exact .inl ⟨a1,a2,h _ _ a3⟩
  ·exact .inr ⟨ad,a1,l,U,a2,a3,a4,a5,h _ _ a6⟩
 ·obtain ⟨a1,old,a2,a3,a4⟩:=h4 hh
  exact ⟨a1,old,a2,a3,fun b c hb hc=>h _ _ (a4 b c hb hc)⟩
theorem WCopy.mono {sz:Nat} {a:Option Addr} {alen:Nat} {y:Option Addr} {ylen:Nat} {K K':Value → Mem → Prop} (h:∀ v m',K v m' → K' v m') (x:WCopy m sz a alen y ylen K):WCopy m sz a alen y ylen K':=by
 unfold WCopy at *
 obtain ⟨new,h1,h2,h3⟩:=x
 refine ⟨new,h1,h2,?_⟩
 rcases h3 with ⟨a1,a3⟩ | ⟨ad,a1,l,U,a2,a3,a4,a5,a6⟩
 ·exact .inl ⟨a1,h _ _ a3⟩
 ·exact .inr ⟨ad,a1,l,U,a2,a3,a4,a5,h _ _ a6⟩
theorem WClr.mono {sz:Nat} {zero:List Value} {a:Option Addr} {n:Nat} {K K':Mem → Prop} (h:∀ m',K m' → K' m') (x:WClr m sz zero a n K):WClr m sz zero a n K':=by
 unfold WClr at *
 rcases x with ⟨a1,a2⟩ | ⟨ad,a1,l,U,a2,a3,a4,a5,a6,a7⟩
 ·exact .inl ⟨a1,h _ a2⟩
 ·exact .inr ⟨ad,a1,l,U,a2,a3,a4,a5,a6,h _ a7⟩
theorem WCall.mono {f:Nat} {args:List Value} {K K':Value → Mem → Prop} (h:∀ v m',K v m' → K' v m') (x:WCall P f args m K X):WCall P f args m K' X:=by
 unfold WCall at *
 obtain ⟨R,h1,h2⟩:=x
 exact ⟨R,h1,fun e m' hr=>by have:=h2 e m' hr;cases e <;> first | exact h _ _ this | exact this⟩
theorem WCallG.mono {f:Nat} {args:List Value} {K K':Value → Mem → Prop} (h:∀ v m',m.le m' → K v m' → K' v m') (x:WCallG P f args m K X):WCallG P f args m K' X:=by
 unfold WCallG at *
 obtain ⟨R,h1,h2⟩:=x
 exact ⟨R,h1,fun e m' hr=>by have:=h2 e m' hr;cases e <;> first | exact ⟨this.1,h _ _ this.1 this.2⟩ | exact this⟩
end
theorem WYield.mono {m:Mem} {X:List PanicEntry → Mem → Prop} {b:Nat} {vs:List Value} {K K':Value → Mem → Prop} (h:∀ v m',K v m' → K' v m') (x:WYield P b vs m K X):WYield P b vs m K' X:=by
 unfold WYield at *
 obtain ⟨R,h1,h2⟩:=x
 exact ⟨R,h1,fun e m' hr=>by have:=h2 e m' hr;cases e <;> first | exact h _ _ this | exact this⟩
theorem WMp.mono {m:Mem} {o:MOp} {vs:List Value} {K K':Value → Mem → Prop} (h:∀ v m',K v m' → K' v m') (x:WMp o vs m K):WMp o vs m K':=by
 unfold WMp at *
 split at x
 ·exact h _ _ x
 ·exact ⟨x.1,fun hh=>h _ _ (x.2.1 hh),fun hh b c hb hc=>h _ _ (x.2.2 hh b c hb hc)⟩
 ·exact fun b hb=>h _ _ (x b hb)
 ·exact ⟨x.1,h _ _ x.2⟩
 ·obtain ⟨x1,es,cl,f,x2,x3,x4⟩:=x;exact ⟨x1,es,cl,f,x2,x3,h _ _ x4⟩
 ·obtain ⟨x1,es,cl,f,x2,x3,x4⟩:=x;exact ⟨x1,es,cl,f,x2,x3,h _ _ x4⟩
 ·exact h _ _ x
 ·obtain ⟨es,cl,x1,x2⟩:=x;exact ⟨es,cl,x1,h _ _ x2⟩
 ·exact fun b hb=>h _ _ (x b hb)
 ·obtain ⟨es,cl,x1,x2⟩:=x;exact ⟨es,cl,x1,fun b hb=>h _ _ (x2 b hb)⟩
 ·obtain ⟨bm,x⟩:=x
  refine ⟨bm,x.imp (fun y=>⟨y.1,y.2.1,h _ _ y.2.2⟩) fun y=>?_⟩
  obtain ⟨r,since,seen,c0,es,cl,y0,y1,y2,y3,y4,y5,y6⟩:=y
  exact ⟨r,since,seen,c0,es,cl,y0,y1,y2,y3,y4,fun hh=>h _ _ (y5 hh),fun z hz=>h _ _ (y6 z hz)⟩
 ·obtain ⟨r,since,seen,es,cl,y,x1,x2,x3,x4,x5⟩:=x;exact ⟨r,since,seen,es,cl,y,x1,x2,x3,x4,h _ _ x5⟩
 ·exact x
theorem splitF_out {s:Bool} {F:AV → Mem → Prop} {u:AV} {m:Mem} (h:splitF s F u m):F u m:=by
 cases s with
 | false=>exact h
 | true =>
  simp only [splitF] at h
  split at h <;> first | exact h.elim | skip
  rename_i b
  unfold Br at h
  cases b <;> exact h
theorem splitF_mono {s:Bool} {F F':AV → Mem → Prop} {u:AV} {m:Mem} (h:∀ u,F u m → F' u m) (x:splitF s F u m):splitF s F' u m:=by
 cases s with
 | false=>exact h _ x
 | true =>
  simp only [splitF] at x ⊢
  split at x <;> first | exact x.elim | skip
  exact Br.mono (h _) (h _) x
theorem bif_mono {c:Bool} {A A':Prop} (h:A → A') (x:bif c then A else False):bif c then A' else False:=by cases c;exact x;exact h x
theorem vop_mono {x:IOp} {e:Env} {m:Mem} {F F':AV → Mem → Prop} {X:List PanicEntry → Mem → Prop} (h:∀ u m',F u m' → F' u m') (hv:vop P x e m F X):vop P x e m F' X:=by
 cases x <;> simp only [vop] at hv ⊢
 case callG f args=>split at hv <;> first | exact hv.elim | exact WCallG.mono (fun v m' _=>h _ _) hv
 case callVG f args=>split at hv <;> first | exact hv.elim | exact WCallG.mono (fun v m' _=>h _ _) hv
 case sl x lo hi esz =>
  split at hv <;> first | exact hv.elim | skip
  split at hv <;> first | exact hv.elim | skip
  exact WSl.mono (h _ _) hv
 case pn x=>split at hv <;> first | exact hv.elim | exact hv
 case sx x i=>split at hv <;> first | exact hv.elim | exact WByte.mono (fun _=>h _ _) hv
 case un op x=>split at hv <;> first | exact hv.elim | exact h _ _ hv
 all_goals
  repeat' (split at hv)
  all_goals try exact hv.elim
  all_goals try (refine bif_mono (fun hv=>?_) hv)
  all_goals first
   | exact hv.elim
   | exact h _ _ hv
   | exact WRng.mono (h _ _) hv
   | exact WBnd.mono (h _ _) hv
   | exact WNe.mono (h _ _) hv
   | exact WLd.mono (fun _=>h _ _) hv
   | exact WLds.mono (fun _=>h _ _) hv
   | exact WIdx.mono (fun _=>h _ _) hv
   | exact WGet.mono (fun _=>h _ _) hv
   | exact WNew.mono (fun _ _=>h _ _) hv
   | exact WSt.mono (fun _=>h _ _) hv
   | exact WSl.mono (h _ _) hv
   | exact WMake.mono (fun _ _=>h _ _) hv
   | exact WApp.mono (fun _ _=>h _ _) hv
   | exact WCopy.mono (fun _ _=>h _ _) hv
   | exact WClr.mono (fun _=>h _ _) hv
   | exact WCall.mono (fun _ _=>h _ _) hv
   | exact WMp.mono (fun _ _=>h _ _) hv
   | exact WYield.mono (fun _ _=>h _ _) hv
   | exact WBnd.mono (WGet.mono (fun _=>h _ _)) hv
   | exact WBnd.mono (fun hh=>hh.elim) hv
   | exact bif_mono (h _ _) hv
   | exact bif_mono (WBnd.mono (h _ _)) hv
   | exact Br.mono (h _ _) (h _ _) hv
end Go.Vx
