import Derived.Test.YtleofbpepfmfgaaGreatDoorVxReg
import Derived.StillTail
namespace Go.Vx
open Go
variable {P:Program} {D0:q3k} {ro:Option Nat} {m0:Mem} {w0:World} {N:Nat} {Q:Exit→Act→World→Prop} {ops:Array Oper} {X:List PanicEntry→Mem→Prop}

def q8e (xs:List Opd):List Nat:=xs.flatMap Opd.slots
def z1c (ps:List (Nat×Nat×Opd)):List Nat:=ps.flatMap fun p=>p.2.2.slots
def z2e (x:Option Opd):List Nat:=match x with | some x=>x.slots | none=>[]
def IOp.reads:IOp→List Nat
 | .mv x | .un _ x | .cv _ x | .cvN _ x | .len x | .fld _ _ _ x | .ext x _ | .fa x _ | .nc x | .ld x | .lds x _ | .vb x | .bx _ x | .clr _ _ x | .mi _ x | .pn x | .sla x _=>x.slots
 | .pick c a b=>c.slots++a.slots++b.slots
 | .bin _ x y | .binN _ x y | .div _ x y | .shf _ x y | .eq _ _ x y | .eqA _ _ x y | .idx _ _ x y | .ia x y _ | .iap x y _ _ | .st x y _ | .mk _ _ _ x y | .ap _ _ _ _ x y | .cp _ x y | .sx x y=>x.slots++y.slots
 | .mm _ xs | .call _ xs | .callG _ xs | .mp _ xs=>q8e xs
 | .mf _ ys xs=>q8e ys++q8e xs
 | .callV f xs | .callVG f xs=>f.slots++q8e xs
 | .bd _ ps | .bs _ _ _ ps=>z1c ps
 | .fr k x _ | .vld k x | .vlds k x _=>[k,x]
 | .ir k x i _=>k :: x :: i.slots
 | .vst k x v _=>k :: x :: v.slots
 | .va _ | .al _ _=>[]
 | .sl x lo hi _=>x.slots++z2e lo++z2e hi
def E.reads (x:E):List Nat:=match x.g with | some (s,_)=>s :: x.o.reads | none=>x.o.reads

theorem q1k {e e':Env} {x:Opd} (h:∀ s∈x.slots,e s=e' s):x.at e=x.at e':=by
 cases x with
 | t n=>simp only [Opd.at];rw [h n (by simp [Opd.slots])]
 | c v=>rfl
theorem v4r {e e':Env} {x:Opd} (h:∀ s∈x.slots,e s=e' s):x.av e=x.av e':=by
 cases x with
 | t n=>simp only [Opd.av];rw [h n (by simp [Opd.slots])]
 | c v=>rfl
theorem q8o {e e':Env}:∀ {xs:List Opd},(∀ s∈q8e xs,e s=e' s)→Opd.ats e xs=Opd.ats e' xs:=by
 intro xs
 induction xs with
 | nil=>intro _;rfl
 | cons x xs ih =>
  intro h
  simp only [q8e,List.flatMap_cons,List.mem_append] at h
  simp only [Opd.ats,q1k fun s hs=>h s (.inl hs),ih fun s hs=>h s (.inr hs)]
theorem v5b {e e':Env}:∀ {ps:List (Nat×Nat×Opd)},(∀ s∈z1c ps,e s=e' s)→q3v e ps=q3v e' ps:=by
 intro ps
 induction ps with
 | nil=>intro _;rfl
 | cons p ps ih =>
  intro h
  obtain ⟨i,n,x⟩:=p
  simp only [z1c,List.flatMap_cons,List.mem_append] at h
  simp only [q3v,q1k fun s hs=>h s (.inl hs),ih fun s hs=>h s (.inr hs)]
theorem v5t {e e':Env} {d:Int} {x:Option Opd} (h:∀ s∈z2e x,e s=e' s):q5e e d x=q5e e' d x:=by
 cases x with
 | none=>rfl
 | some x=>simp only [q5e,q1k (x:=x) h]
theorem v4i {x:IOp} {e e':Env} {m:Mem} {F:AV→Mem→Prop} (h:∀ s∈x.reads,e s=e' s):vop P x e m F X=vop P x e' m F X:=by
 cases x<;>simp only [IOp.reads,List.mem_append,List.mem_cons,List.not_mem_nil,or_false] at h
 case mv x=>simp only [vop,q1k h]
 case un o x=>simp only [vop,q1k h]
 case cv k x=>simp only [vop,q1k h]
 case cvN k x=>simp only [vop,q1k h]
 case len x=>simp only [vop,q1k h]
 case fld a b c x=>simp only [vop,q1k h]
 case ext x i=>simp only [vop,q1k h]
 case fa x o=>simp only [vop,v4r h]
 case nc x=>simp only [vop,q1k h]
 case ld x=>simp only [vop,q1k h]
 case lds x n=>simp only [vop,q1k h]
 case vb x=>simp only [vop,q1k h]
 case bx T x=>simp only [vop,q1k h]
 case clr a b x=>simp only [vop,q1k h]
 case mi T x=>simp only [vop,q1k h]
 case pn x=>simp only [vop,q1k h]
 case pick c a b=>simp only [vop,q1k (fun s hs=>h s (.inl (.inl hs))),q1k (fun s hs=>h s (.inl (.inr hs))),q1k (fun s hs=>h s (.inr hs))]
 case bin o x y=>simp only [vop,q1k (fun s hs=>h s (.inl hs)),q1k (fun s hs=>h s (.inr hs))]
 case binN o x y=>simp only [vop,q1k (fun s hs=>h s (.inl hs)),q1k (fun s hs=>h s (.inr hs))]
 case div o x y=>simp only [vop,q1k (fun s hs=>h s (.inl hs)),q1k (fun s hs=>h s (.inr hs))]
 case shf o x y=>simp only [vop,q1k (fun s hs=>h s (.inl hs)),q1k (fun s hs=>h s (.inr hs))]
 case eq k n x y=>simp only [vop,q1k (fun s hs=>h s (.inl hs)),q1k (fun s hs=>h s (.inr hs))]
 case eqA n j x y=>simp only [vop,q1k (fun s hs=>h s (.inl hs)),q1k (fun s hs=>h s (.inr hs))]
 case sx x y=>simp only [vop,q1k (fun s hs=>h s (.inl hs)),q1k (fun s hs=>h s (.inr hs))]
 case sla x n=>simp only [vop,q1k h]
 case idx a b x y=>simp only [vop,q1k (fun s hs=>h s (.inl hs)),q1k (fun s hs=>h s (.inr hs))]
 case ia x y z=>simp only [vop,q1k (fun s hs=>h s (.inl hs)),q1k (fun s hs=>h s (.inr hs))]
 case iap x y a b=>simp only [vop,v4r (fun s hs=>h s (.inl hs)),q1k (fun s hs=>h s (.inr hs))]
 case st x y n=>simp only [vop,q1k (fun s hs=>h s (.inl hs)),q1k (fun s hs=>h s (.inr hs))]
 case mk a b c x y=>simp only [vop,q1k (fun s hs=>h s (.inl hs)),q1k (fun s hs=>h s (.inr hs))]
 case ap a b c d x y=>simp only [vop,q1k (fun s hs=>h s (.inl hs)),q1k (fun s hs=>h s (.inr hs))]
 case cp a x y=>simp only [vop,q1k (fun s hs=>h s (.inl hs)),q1k (fun s hs=>h s (.inr hs))]
 case mm a xs=>simp only [vop,q8o h]
 case mp a xs=>simp only [vop,q8o h]
 case call f xs=>simp only [vop,q8o h]
 case callG f xs=>simp only [vop,q8o h]
 case mf f ys xs=>simp only [vop,q8o (fun s hs=>h s (.inl hs)),q8o (fun s hs=>h s (.inr hs))]
 case callV f xs=>simp only [vop,q1k (fun s hs=>h s (.inl hs)),q8o (fun s hs=>h s (.inr hs))]
 case callVG f xs=>simp only [vop,q1k (fun s hs=>h s (.inl hs)),q8o (fun s hs=>h s (.inr hs))]
 case bd z ps=>simp only [vop,v5b h]
 case bs a b c ps=>simp only [vop,v5b h]
 case fr k x o=>simp only [vop,h k (.inl rfl),h x (.inr rfl)]
 case vld k x=>simp only [vop,h k (.inl rfl),h x (.inr rfl)]
 case vlds k x n=>simp only [vop,h k (.inl rfl),h x (.inr rfl)]
 case ir k x i n=>simp only [vop,h k (.inl rfl),h x (.inr (.inl rfl)),q1k (fun s hs=>h s (.inr (.inr hs)))]
 case vst k x v n=>simp only [vop,h k (.inl rfl),h x (.inr (.inl rfl)),q1k (fun s hs=>h s (.inr (.inr hs)))]
 case va z=>simp only [vop]
 case al T z=>simp only [vop]
 case sl x lo hi n=>simp only [vop,q1k (fun s hs=>h s (.inl (.inl hs))),v5t (fun s hs=>h s (.inl (.inr hs))),v5t (fun s hs=>h s (.inr hs))]
end Go.Vx
namespace Go.Vx
open Go
variable {P:Program} {X:List PanicEntry→Mem→Prop}
def IOp.isPure:IOp→Bool
 | .mv _ | .pick _ _ _ | .bin _ _ _ | .binN _ _ _ | .div _ _ _ | .shf _ _ _ | .eq _ _ _ _ | .eqA _ _ _ _ | .un _ _ | .cv _ _ | .cvN _ _ | .len _ | .mm _ _ | .fld _ _ _ _ | .idx _ _ _ _ | .ext _ _ | .bd _ _
 | .fa _ _ | .fr _ _ _ | .ia _ _ _ | .iap _ _ _ _ | .ir _ _ _ _ | .nc _ | .ld _ | .lds _ _ | .vld _ _ | .vlds _ _ _ | .mf _ _ _ | .mi _ _ | .sx _ _ | .sla _ _ | .sl _ _ _ _=>true
 | _=>false
def IOp.isLoad:IOp→Bool | .ld _ | .lds _ _=>true | _=>false
def q6t (u:AV) (k:Nat):Prop:=(∃ off,u=.ref k off)∨∃ off i,u=.refi k off i
def q5g (u:Option AV) (k:Nat):Prop:=∃ v,u=some v∧q6t v k
theorem q7f {v:Value} {k:Nat}:¬ q6t (.val v) k:=fun h=>by rcases h with ⟨_,h⟩ | ⟨_,_,h⟩<;>cases h
theorem q8u {v:List Value} {k:Nat}:¬ q6t (.var v) k:=fun h=>by rcases h with ⟨_,h⟩ | ⟨_,_,h⟩<;>cases h
theorem q3j {e:Env} {x:Opd} {v:Value} (h:x.at e=some v):∀ s∈x.slots,∀ k,¬ q5g (e s) k:=by
 intro s hs k hk
 cases x with
 | c v=>simp [Opd.slots] at hs
 | t n =>
  simp only [Opd.slots,List.mem_singleton] at hs
  subst hs
  simp only [Opd.at] at h
  obtain ⟨u,hu,hr⟩:=hk
  rw [hu] at h
  cases u<;>first | (cases h;done) | exact q7f hr
theorem z8e {e:Env}:∀ {xs:List Opd} {vs:List Value},Opd.ats e xs=some vs→∀ s∈q8e xs,∀ k,¬ q5g (e s) k:=by
 intro xs
 induction xs with
 | nil=>intro vs _ s hs;simp [q8e] at hs
 | cons x xs ih =>
  intro vs h s hs
  simp only [Opd.ats] at h
  split at h<;>first | (cases h;done) | skip
  rename_i v hv
  split at h<;>first | (cases h;done) | skip
  rename_i us hus
  simp only [q8e,List.flatMap_cons,List.mem_append] at hs
  rcases hs with hs | hs
  ·exact q3j hv s hs
  ·exact ih hus s hs
theorem j4p {e:Env}:∀ {xs:List (Nat×Nat×Opd)} {vs:List (Nat×Nat×Value)},q3v e xs=some vs→∀ s∈z1c xs,∀ k,¬ q5g (e s) k:=by
 intro xs
 induction xs with
 | nil=>intro vs _ s hs;simp [z1c] at hs
 | cons x xs ih =>
  obtain ⟨i,n,x⟩:=x
  intro vs h s hs
  simp only [q3v] at h
  split at h<;>first | (cases h;done) | skip
  rename_i v hv
  split at h<;>first | (cases h;done) | skip
  rename_i us hus
  simp only [z1c,List.flatMap_cons,List.mem_append] at hs
  rcases hs with hs | hs
  ·exact q3j hv s hs
  ·exact ih hus s hs
theorem v1z {e:Env} {d z:Int} {x:Option Opd} (h:q5e e d x=some z):∀ s∈z2e x,∀ k,¬ q5g (e s) k:=by
 cases x with
 | none=>intro s hs;simp [z2e] at hs
 | some x =>
  simp only [q5e] at h
  split at h<;>first | (cases h;done) | skip
  rename_i hv
  exact q3j hv
theorem nr2 {e:Env} {x y:Opd} {v u:Value} (h:x.at e=some v) (h':y.at e=some u):∀ s∈x.slots++y.slots,∀ k,¬ q5g (e s) k:=fun s hs=>by
 rcases List.mem_append.1 hs with hs | hs
 ·exact q3j h s hs
 ·exact q3j h' s hs

def Det (P:Program) (X:List PanicEntry→Mem→Prop) (x:IOp) (e:Env) (m:Mem) (u:AV):Prop :=
 (∀ cs,u≠.fresh cs)∧(∀ k,q6t u k→k∈x.reads)∧(∀ s∈x.reads,∀ k,q5g (e s) k→k∈x.reads) ∧
 ∀ m' (F':AV→Mem→Prop),(x.isLoad=true→Mem.le m m')→F' u m'→vop P x e m' F' X
theorem Det.mk {x:IOp} {e:Env} {m:Mem} {v:Value} (h:∀ s∈x.reads,∀ k,¬ q5g (e s) k) (k:∀ m' (F':AV→Mem→Prop),(x.isLoad=true→Mem.le m m')→F' (.val v) m'→vop P x e m' F' X):Det P X x e m (.val v) :=
 ⟨fun cs h=>(by cases h),fun _ h=>absurd h q7f,fun s hs k hk=>absurd hk (h s hs k),k⟩
theorem Br.t' {A B:Prop} (h:A):Br true A B:=by unfold Br;exact h
theorem Br.f' {A B:Prop} (h:B):Br false A B:=by unfold Br;exact h
theorem v0x {x:IOp} {e:Env} {m:Mem} {F:AV→Mem→Prop} (hp:x.isPure=true) (h:vop P x e m F X):∃ u,F u m∧Det P X x e m u:=by
 cases x<;>simp only [IOp.isPure] at hp<;>first | (cases hp;done) | skip
 case mv x =>
  simp only [vop] at h
  split at h<;>first | exact h.elim | skip
  rename_i v hx
  exact ⟨_,h,Det.mk (q3j hx) fun m' F' _ hF=>by simp only [vop,hx];exact hF⟩
 case pick c a b =>
  simp only [vop] at h
  split at h<;>first | exact h.elim | skip
  rename_i c' hc
  split at h<;>first | exact h.elim | skip
  rename_i va vb ha hb
  have hr:∀ s∈(IOp.pick c a b).reads,∀ k,¬ q5g (e s) k:=fun s hs=>by
   simp only [IOp.reads,List.mem_append] at hs
   rcases hs with (hs | hs) | hs
   ·exact q3j hc s hs
   ·exact q3j ha s hs
   ·exact q3j hb s hs
  unfold Br at h
  cases c' with
  | true=>exact ⟨_,h,Det.mk hr fun m' F' _ hF=>by simp only [vop,hc,ha,hb];exact Br.t' hF⟩
  | false=>exact ⟨_,h,Det.mk hr fun m' F' _ hF=>by simp only [vop,hc,ha,hb];exact Br.f' hF⟩
 case bin op x y =>
  simp only [vop] at h
  split at h<;>first | exact h.elim | skip
  rename_i k n k' l hx hy
  cases hk:kbeq k k' with
  | false=>rw [hk] at h;exact h.elim
  | true =>
   rw [hk] at h;simp only [cond_true] at h
   split at h<;>first | exact h.elim | skip
   rename_i v hb
   exact ⟨_,h,Det.mk (nr2 hx hy) fun m' F' _ hF=>by simp only [vop,hx,hy,hk,cond_true,hb];exact hF⟩
 case binN op x y =>
  simp only [vop] at h
  split at h<;>first | exact h.elim | skip
  rename_i k n k' l hx hy
  cases hk:kbeq k k' with
  | false=>rw [hk] at h;exact h.elim
  | true =>
   rw [hk] at h;simp only [cond_true] at h
   split at h<;>first | exact h.elim | skip
   rename_i v hb
   unfold WRng at h
   exact ⟨_,h.2,Det.mk (nr2 hx hy) fun m' F' _ hF=>by simp only [vop,hx,hy,hk,cond_true,hb];exact WRng.mk h.1 hF⟩
 case div op x y =>
  simp only [vop] at h
  split at h<;>first | exact h.elim | skip
  rename_i k n k' l hx hy
  cases hk:kbeq k k' with
  | false=>rw [hk] at h;exact h.elim
  | true =>
   rw [hk] at h;simp only [cond_true] at h
   unfold WNe at h
   split at h<;>first | exact h.elim | skip
   all_goals exact ⟨_,h.2,Det.mk (nr2 hx hy) fun m' F' _ hF=>by simp only [vop,hx,hy,hk,cond_true];exact WNe.mk h.1 hF⟩
 case shf op x y =>
  simp only [vop] at h
  split at h<;>first | exact h.elim | skip
  rename_i k n k' l hx hy
  unfold WBnd at h
  obtain ⟨h1,h2⟩:=h
  split at h2<;>first | exact h2.elim | skip
  all_goals exact ⟨_,h2,Det.mk (nr2 hx hy) fun m' F' _ hF=>by simp only [vop,hx,hy];exact WBnd.mk h1 hF⟩
 case eq k neg x y =>
  simp only [vop] at h
  split at h<;>first | exact h.elim | skip
  rename_i va vb hx hy
  split at h<;>first | exact h.elim | skip
  rename_i r hr
  exact ⟨_,h,Det.mk (nr2 hx hy) fun m' F' _ hF=>by simp only [vop,hx,hy,hr];exact hF⟩
 case eqA neg j x y =>
  simp only [vop] at h
  split at h<;>first | exact h.elim | skip
  rename_i va vb hx hy
  split at h<;>first | exact h.elim | skip
  rename_i r hr
  exact ⟨_,h,Det.mk (nr2 hx hy) fun m' F' _ hF=>by simp only [vop,hx,hy,hr];exact hF⟩
 case un op x =>
  simp only [vop] at h
  split at h<;>first | exact h.elim | skip
  all_goals
   rename_i hx
   exact ⟨_,h,Det.mk (q3j hx) fun m' F' _ hF=>by simp only [vop,hx];exact hF⟩
 case cv k x =>
  simp only [vop] at h
  split at h<;>first | exact h.elim | skip
  rename_i hx
  exact ⟨_,h,Det.mk (q3j hx) fun m' F' _ hF=>by simp only [vop,hx];exact hF⟩
 case cvN k x =>
  simp only [vop] at h
  split at h<;>first | exact h.elim | skip
  rename_i hx
  unfold WRng at h
  exact ⟨_,h.2,Det.mk (q3j hx) fun m' F' _ hF=>by simp only [vop,hx];exact WRng.mk h.1 hF⟩
 case len x =>
  simp only [vop] at h
  split at h<;>first | exact h.elim | skip
  rename_i hx
  exact ⟨_,h,Det.mk (q3j hx) fun m' F' _ hF=>by simp only [vop,hx];exact hF⟩
 case mm mx xs =>
  simp only [vop] at h
  split at h<;>first | exact h.elim | skip
  rename_i k x vs hx
  split at h<;>first | exact h.elim | skip
  rename_i v hv
  exact ⟨_,h,Det.mk (z8e hx) fun m' F' _ hF=>by simp only [vop,hx,hv];exact hF⟩
 case fld off n agg x =>
  simp only [vop] at h
  split at h<;>first | exact h.elim | skip
  rename_i cs hx
  cases agg with
  | true=>exact ⟨_,h,Det.mk (q3j hx) fun m' F' _ hF=>by simp only [vop,hx];exact hF⟩
  | false =>
   simp only at h
   split at h<;>first | exact h.elim | skip
   rename_i v r hd
   exact ⟨_,h,Det.mk (q3j hx) fun m' F' _ hF=>by simp only [vop,hx,hd];exact hF⟩
 case idx esz len x i =>
  simp only [vop] at h
  split at h<;>first | exact h.elim | skip
  rename_i cs k i hx hi
  cases hb:Nat.beq esz 1 with
  | false=>rw [hb] at h;exact h.elim
  | true =>
   rw [hb] at h;simp only [cond_true] at h
   unfold WBnd WGet at h
   obtain ⟨h1,v,h2,h3⟩:=h
   exact ⟨_,h3,Det.mk (nr2 hx hi) fun m' F' _ hF=>by simp only [vop,hx,hi,hb,cond_true];exact WBnd.mk h1 (WGet.mk v h2 hF)⟩
 case sx x i =>
  simp only [vop] at h
  split at h<;>first | exact h.elim | skip
  rename_i s k i hx hi
  unfold q6d at h
  obtain ⟨b,h1,h2⟩:=h
  exact ⟨_,h2,Det.mk (nr2 hx hi) fun m' F' _ hF=>by simp only [vop,hx,hi];exact q6d.mk b h1 hF⟩
 case sla x n =>
  simp only [vop] at h
  split at h<;>first | exact h.elim | skip
  rename_i v hx
  exact ⟨_,h,Det.mk (q3j hx) fun m' F' _ hF=>by simp only [vop,hx];exact hF⟩
 case ext x i =>
  simp only [vop] at h
  split at h<;>first | exact h.elim | skip
  rename_i vs hx
  split at h<;>first | exact h.elim | skip
  rename_i v r hd
  exact ⟨_,h,Det.mk (q3j hx) fun m' F' _ hF=>by simp only [vop,hx,hd];exact hF⟩
 case bd zeros ps =>
  simp only [vop] at h
  split at h<;>first | exact h.elim | skip
  rename_i vs hx
  split at h<;>first | exact h.elim | skip
  rename_i cs hc
  exact ⟨_,h,Det.mk (j4p hx) fun m' F' _ hF=>by simp only [vop,hx,hc];exact hF⟩
 case fa x off =>
  simp only [vop] at h
  split at h<;>first | exact h.elim | skip
  ·rename_i a hx
   have hx':x.at e=some (.pointer (some a)):=by cases x<;>simp_all [Opd.av,Opd.at]
   exact ⟨_,h,Det.mk (q3j hx') fun m' F' _ hF=>by simp only [vop,hx];exact hF⟩
  ·rename_i cs hx
   split at h<;>first | exact h.elim | skip
   rename_i k
   simp only [Opd.av] at hx
   refine ⟨_,h,fun cs hh=>(by cases hh),fun j hj=>?_,fun s hs j hj=>?_,fun m' F' _ hF=>by simp only [vop,Opd.av,hx];exact hF⟩
   ·rcases hj with ⟨_,hj⟩ | ⟨_,_,hj⟩<;>cases hj
    simp [IOp.reads,Opd.slots]
   ·simp only [IOp.reads,Opd.slots,List.mem_singleton] at hs
    subst hs
    obtain ⟨v,hv,hr⟩:=hj
    rw [hx] at hv;cases hv
    exact absurd hr q8u
 case fr k x off =>
  simp only [vop] at h
  split at h<;>first | exact h.elim | skip
  rename_i cs j o' hk hx
  cases hb:Nat.beq j k with
  | false=>rw [hb] at h;exact h.elim
  | true =>
   rw [hb] at h;simp only [cond_true] at h
   refine ⟨_,h,fun cs hh=>(by cases hh),fun j hj=>?_,fun s hs i hi=>?_,fun m' F' _ hF=>by simp only [vop,hk,hx,hb,cond_true];exact hF⟩
   ·rcases hj with ⟨_,hj⟩ | ⟨_,_,hj⟩<;>cases hj
    simp [IOp.reads]
   ·simp only [IOp.reads,List.mem_cons,List.not_mem_nil,or_false] at hs
    obtain ⟨v,hv,hr⟩:=hi
    rcases hs with rfl | rfl
    ·rw [hk] at hv;cases hv;exact absurd hr q8u
    ·rw [hx] at hv;cases hv
     rcases hr with ⟨_,hr⟩ | ⟨_,_,hr⟩<;>cases hr
     rw [q0n hb];simp [IOp.reads]
 case ia x i esz =>
  simp only [vop] at h
  split at h<;>first | exact h.elim | skip
  rename_i a len cap k i hx hi
  unfold WIdx at h
  obtain ⟨ad,h1,h2,h3⟩:=h
  exact ⟨_,h3,Det.mk (nr2 hx hi) fun m' F' _ hF=>by simp only [vop,hx,hi];exact WIdx.mk ad h1 h2 hF⟩
 case iap x i esz len =>
  simp only [vop] at h
  split at h<;>first | exact h.elim | skip
  ·rename_i a k i hx hi
   have hx':x.at e=some (.pointer (some a)):=by cases x<;>simp_all [Opd.av,Opd.at]
   unfold WBnd at h
   exact ⟨_,h.2,Det.mk (nr2 hx' hi) fun m' F' _ hF=>by simp only [vop,hx,hi];exact WBnd.mk h.1 hF⟩
  ·rename_i cs k i hx hi
   split at h<;>first | exact h.elim | skip
   rename_i t
   cases hb:Nat.beq esz 1 with
   | false=>rw [hb] at h;exact h.elim
   | true =>
    rw [hb] at h;simp only [cond_true] at h
    unfold WBnd at h
    have hx2:=hx
    simp only [Opd.av] at hx
    refine ⟨_,h.2,fun cs hh=>(by cases hh),fun j hj=>?_,fun s hs j hj=>?_,fun m' F' _ hF=>by simp only [vop,hx2,hi,hb,cond_true];exact WBnd.mk h.1 hF⟩
    ·rcases hj with ⟨_,hj⟩ | ⟨_,_,hj⟩<;>cases hj
     simp [IOp.reads,Opd.slots]
    ·simp only [IOp.reads,Opd.slots,List.mem_append,List.mem_singleton] at hs
     obtain ⟨v,hv,hr⟩:=hj
     rcases hs with rfl | hs
     ·rw [hx] at hv;cases hv;exact absurd hr q8u
     ·exact absurd ⟨v,hv,hr⟩ (q3j hi s hs j)
 case ir k x i len =>
  simp only [vop] at h
  split at h<;>first | exact h.elim | skip
  rename_i cs j o' ki i hk hx hi
  cases hb:Nat.beq j k with
  | false=>rw [hb] at h;exact h.elim
  | true =>
   rw [hb] at h;simp only [cond_true] at h
   unfold WBnd at h
   refine ⟨_,h.2,fun cs hh=>(by cases hh),fun j hj=>?_,fun s hs i hj=>?_,fun m' F' _ hF=>by simp only [vop,hk,hx,hi,hb,cond_true];exact WBnd.mk h.1 hF⟩
   ·rcases hj with ⟨_,hj⟩ | ⟨_,_,hj⟩<;>cases hj
    simp [IOp.reads]
   ·simp only [IOp.reads,List.mem_cons] at hs
    obtain ⟨v,hv,hr⟩:=hj
    rcases hs with rfl | rfl | hs
    ·rw [hk] at hv;cases hv;exact absurd hr q8u
    ·rw [hx] at hv;cases hv
     rcases hr with ⟨_,hr⟩ | ⟨_,_,hr⟩<;>cases hr
     rw [q0n hb];simp [IOp.reads]
    ·exact absurd ⟨v,hv,hr⟩ (q3j hi s hs _)
 case nc x =>
  simp only [vop] at h
  split at h<;>first | exact h.elim | skip
  all_goals
   rename_i hx
   exact ⟨_,h,Det.mk (q3j hx) fun m' F' _ hF=>by simp only [vop,hx];exact hF⟩
 case ld x =>
  simp only [vop] at h
  split at h<;>first | exact h.elim | skip
  rename_i a hx
  unfold WLd at h
  obtain ⟨v,h1,h2⟩:=h
  exact ⟨_,h2,Det.mk (q3j hx) fun m' F' hl hF=>by simp only [vop,hx];exact WLd.mk v (h1.mono (hl rfl)) hF⟩
 case lds x n =>
  simp only [vop] at h
  split at h<;>first | exact h.elim | skip
  rename_i a hx
  unfold WLds at h
  obtain ⟨vs,h1,h2,h3⟩:=h
  exact ⟨_,h3,Det.mk (q3j hx) fun m' F' hl hF=>by simp only [vop,hx];exact WLds.mk vs (h2.mono (hl rfl)) h1 hF⟩
 case vld k x =>
  simp only [vop] at h
  split at h<;>first | exact h.elim | skip
  rename_i cs hk
  have hr:∀ (q:AV),e x=some q→(∀ j,q6t q j→j=k)→∀ s∈(IOp.vld k x).reads,∀ j,q5g (e s) j→j∈(IOp.vld k x).reads:=fun q hq hqr s hs j hj=>by
   simp only [IOp.reads,List.mem_cons,List.not_mem_nil,or_false] at hs ⊢
   obtain ⟨v,hv,hr⟩:=hj
   rcases hs with rfl | rfl
   ·rw [hk] at hv;cases hv;exact absurd hr q8u
   ·rw [hq] at hv;cases hv;exact .inl (hqr j hr)
  split at h<;>first | exact h.elim | skip
  ·rename_i cs' hx
   cases hb:Nat.beq x k with
   | false=>rw [hb] at h;exact h.elim
   | true =>
    rw [hb] at h;simp only [cond_true] at h
    split at h<;>first | exact h.elim | skip
    rename_i v r
    exact ⟨_,h,fun cs hh=>(by cases hh),fun _ hh=>absurd hh q7f,hr _ hx (fun j hj=>absurd hj q8u),fun m' F' _ hF=>by simp only [vop,hk,hx,hb,cond_true];exact hF⟩
  ·rename_i j off hx
   cases hb:Nat.beq j k with
   | false=>rw [hb] at h;exact h.elim
   | true =>
    rw [hb] at h;simp only [cond_true] at h
    split at h<;>first | exact h.elim | skip
    rename_i v r hd
    exact ⟨_,h,fun cs hh=>(by cases hh),fun _ hh=>absurd hh q7f,hr _ hx (fun j' hj=>by rcases hj with ⟨_,hj⟩ | ⟨_,_,hj⟩<;>cases hj;exact q0n hb),fun m' F' _ hF=>by simp only [vop,hk,hx,hb,cond_true,hd];exact hF⟩
  ·rename_i j off i hx
   cases hb:Nat.beq j k with
   | false=>rw [hb] at h;exact h.elim
   | true =>
    rw [hb] at h;simp only [cond_true] at h
    unfold WGet at h
    obtain ⟨v,h1,h2⟩:=h
    exact ⟨_,h2,fun cs hh=>(by cases hh),fun _ hh=>absurd hh q7f,hr _ hx (fun j' hj=>by rcases hj with ⟨_,hj⟩ | ⟨_,_,hj⟩<;>cases hj;exact q0n hb),fun m' F' _ hF=>by simp only [vop,hk,hx,hb,cond_true];exact WGet.mk v h1 hF⟩
 case vlds k x n =>
  simp only [vop] at h
  split at h<;>first | exact h.elim | skip
  rename_i cs hk
  have hr:∀ (q:AV),e x=some q→(∀ j,q6t q j→j=k)→∀ s∈(IOp.vlds k x n).reads,∀ j,q5g (e s) j→j∈(IOp.vlds k x n).reads:=fun q hq hqr s hs j hj=>by
   simp only [IOp.reads,List.mem_cons,List.not_mem_nil,or_false] at hs ⊢
   obtain ⟨v,hv,hr⟩:=hj
   rcases hs with rfl | rfl
   ·rw [hk] at hv;cases hv;exact absurd hr q8u
   ·rw [hq] at hv;cases hv;exact .inl (hqr j hr)
  split at h<;>first | exact h.elim | skip
  ·rename_i cs' hx
   cases hb:(Nat.beq x k&&Nat.ble n cs.length) with
   | false=>rw [hb] at h;exact h.elim
   | true =>
    rw [hb] at h;simp only [cond_true] at h
    exact ⟨_,h,fun cs hh=>(by cases hh),fun _ hh=>absurd hh q7f,hr _ hx (fun j hj=>absurd hj q8u),fun m' F' _ hF=>by simp only [vop,hk,hx,hb,cond_true];exact hF⟩
  ·rename_i j off hx
   cases hb:(Nat.beq j k&&Nat.ble (off+n) cs.length) with
   | false=>rw [hb] at h;exact h.elim
   | true =>
    have hb':=hb
    rw [Bool.and_eq_true] at hb'
    rw [hb] at h;simp only [cond_true] at h
    exact ⟨_,h,fun cs hh=>(by cases hh),fun _ hh=>absurd hh q7f,hr _ hx (fun j' hj=>by rcases hj with ⟨_,hj⟩ | ⟨_,_,hj⟩<;>cases hj;exact q0n hb'.1),fun m' F' _ hF=>by simp only [vop,hk,hx,hb,cond_true];exact hF⟩
 case mf f ys xs =>
  simp only [vop] at h
  split at h<;>first | exact h.elim | skip
  rename_i us vs hy hx
  exact ⟨_,h,Det.mk (fun s hs=>by
   simp only [IOp.reads,List.mem_append] at hs
   rcases hs with hs | hs
   ·exact z8e hy s hs
   ·exact z8e hx s hs) fun m' F' _ hF=>by simp only [vop,hy,hx];exact hF⟩
 case mi T x =>
  simp only [vop] at h
  split at h<;>first | exact h.elim | skip
  rename_i v hx
  exact ⟨_,h,Det.mk (q3j hx) fun m' F' _ hF=>by simp only [vop,hx];exact hF⟩
 case sl x lo hi esz =>
  simp only [vop] at h
  split at h<;>first | exact h.elim | skip
  rename_i a len cap hx
  split at h<;>first | exact h.elim | skip
  rename_i l r hl hr
  unfold WSl at h
  exact ⟨_,h.2,Det.mk (fun s hs=>by
   simp only [IOp.reads,List.mem_append] at hs
   rcases hs with (hs | hs) | hs
   ·exact q3j hx s hs
   ·exact v1z hl s hs
   ·exact v1z hr s hs) fun m' F' _ hF=>by simp only [vop,hx,hl,hr];exact WSl.mk h.1 hF⟩
end Go.Vx
namespace Go.Vx
open Go
variable {P:Program} {D0:q3k} {ro:Option Nat} {m0:Mem} {w0:World} {N:Nat} {Q:Exit→Act→World→Prop} {ops:Array Oper} {X:List PanicEntry→Mem→Prop}

theorem w0w {s:Bool} {F F':AV→Mem→Prop} {u:AV} {m m':Mem} (h:q3l s F u m) (k:F' u m'):q3l s F' u m':=by
 cases s with
 | false=>exact k
 | true =>
  simp only [q3l] at h ⊢
  split at h<;>first | exact h.elim | skip
  rename_i b
  cases b with
  | true=>exact Br.t' k
  | false=>exact Br.f' k
theorem w0a {x:E} {s:Nat} (h:s∈x.o.reads):s∈x.reads:=by
 unfold E.reads;split
 ·exact List.mem_cons_of_mem _ h
 ·exact h
theorem w4v {x:E} {e:Env} {m:Mem} {K:Env→Mem→Prop} (hp:x.o.isPure=true) (h:q1w P x e m K X) :
  ∃ u,K (e.put x.d u) m∧(∀ cs,u≠.fresh cs)∧(∀ k,q6t u k→k∈x.reads)∧∃ R:List Nat,(∀ s∈R,s∈x.reads)∧(∀ s∈R,∀ k,q5g (e s) k→k∈x.reads) ∧
   ∀ e' m' (K':Env→Mem→Prop),(∀ s∈R,e s=e' s)→(x.o.isLoad=true→Mem.le m m')→K' (e'.put x.d u) m'→q1w P x e' m' K' X:=by
 obtain ⟨d,o,g,sp⟩:=x
 have main:vop P o e m (q3l sp fun u m'=>K (e.put d u) m') X →
   ∃ u,K (e.put d u) m∧(∀ cs,u≠.fresh cs)∧(∀ k,q6t u k→k∈o.reads)∧(∀ s∈o.reads,∀ k,q5g (e s) k→k∈o.reads) ∧
   ∀ e' m' (K':Env→Mem→Prop),(∀ s∈o.reads,e s=e' s)→(o.isLoad=true→Mem.le m m')→K' (e'.put d u) m'→vop P o e' m' (q3l sp fun u m'=>K' (e'.put d u) m') X:=fun hv=>by
  obtain ⟨u,hu,d1,d2,d3,d4⟩:=v0x hp hv
  refine ⟨u,z9l hu,d1,d2,d3,fun e' m' K' he hl hk=>?_⟩
  rw [← v4i he]
  exact d4 m' _ hl (w0w hu hk)
 cases g with
 | none =>
  simp only [q1w] at h
  obtain ⟨u,h1,h2,h3,h4,h5⟩:=main h
  exact ⟨u,h1,h2,h3,o.reads,fun _ h=>h,h4,fun e' m' K' he hl hk=>by simp only [q1w];exact h5 e' m' K' he hl hk⟩
 | some g =>
  obtain ⟨s,want⟩:=g
  have skip:∀ v,e s=some (.val v)→K (e.put d (.val undef)) m →
    (∀ e' m' (K':Env→Mem→Prop),e' s=some (.val v)→K' (e'.put d (.val undef)) m'→q1w P ⟨d,o,some (s,want),sp⟩ e' m' K' X) →
    ∃ u,K (e.put d u) m∧(∀ cs,u≠.fresh cs)∧(∀ k,q6t u k→k∈s :: o.reads)∧∃ R:List Nat,(∀ t∈R,t∈s :: o.reads)∧(∀ t∈R,∀ k,q5g (e t) k→k∈s :: o.reads) ∧
   ∀ e' m' (K':Env→Mem→Prop),(∀ t∈R,e t=e' t)→(o.isLoad=true→Mem.le m m')→K' (e'.put d u) m'→q1w P ⟨d,o,some (s,want),sp⟩ e' m' K' X:=fun v hv h1 h2 =>
   ⟨_,h1,fun cs hh=>(by cases hh),fun _ hh=>absurd hh q7f,[s],fun t ht=>(by simp at ht;simp [ht]),fun t ht k hk=>by
    simp only [List.mem_singleton] at ht;subst ht
    obtain ⟨q,hq,hr⟩:=hk;rw [hv] at hq;cases hq;exact absurd hr q7f,fun e' m' K' he _ hk=>h2 e' m' K' (by rw [← he s (by simp)];exact hv) hk⟩
  have exec:∀ b,e s=some (.val (.bool b))→b=want→vop P o e m (q3l sp fun u m'=>K (e.put d u) m') X →
    ∃ u,K (e.put d u) m∧(∀ cs,u≠.fresh cs)∧(∀ k,q6t u k→k∈s :: o.reads)∧∃ R:List Nat,(∀ t∈R,t∈s :: o.reads)∧(∀ t∈R,∀ k,q5g (e t) k→k∈s :: o.reads) ∧
   ∀ e' m' (K':Env→Mem→Prop),(∀ t∈R,e t=e' t)→(o.isLoad=true→Mem.le m m')→K' (e'.put d u) m'→q1w P ⟨d,o,some (s,want),sp⟩ e' m' K' X:=fun b hb hbw hv=>by
   obtain ⟨u,h1,h2,h3,h4,h5⟩:=main hv
   refine ⟨u,h1,h2,fun k hk=>List.mem_cons_of_mem _ (h3 k hk),s :: o.reads,fun _ h=>h,fun t ht k hk=>?_,fun e' m' K' he hl hk=>?_⟩
   ·rcases List.mem_cons.1 ht with rfl | ht
    ·obtain ⟨q,hq,hr⟩:=hk;rw [hb] at hq;cases hq;exact absurd hr q7f
    ·exact List.mem_cons_of_mem _ (h4 t ht k hk)
   ·have hb':e' s=some (.val (.bool b)):=by rw [← he s (by simp)];exact hb
    have:=h5 e' m' K' (fun t ht=>he t (List.mem_cons_of_mem _ ht)) hl hk
    subst hbw
    cases b<;>(simp only [q1w,hb'];exact this)
  simp only [q1w] at h
  split at h<;>first | exact h.elim | skip
  ·rename_i b hb
   split at h
   ·exact exec true hb rfl h
   ·exact exec false hb rfl h
   ·rename_i hn1 hn2
    refine skip _ hb h fun e' m' K' he hk=>?_
    simp only [q1w,he]
    cases b<;>cases want<;>first | exact hk | (exact absurd rfl (hn1 rfl)) | (exact absurd rfl (hn2 rfl))
  ·rename_i vs hb
   exact skip _ hb h fun e' m' K' he hk=>by simp only [q1w,he];exact hk

def IOp.isGrow:IOp→Bool
 | .al _ _ | .bx _ _ | .bs _ _ _ _ | .mk _ _ _ _ _ | .va _ | .vb _ | .callG _ _ | .callVG _ _=>true
 | x=>x.isPure
theorem le_set {m:Mem} {b:Nat} {o:Obj} (h:m b=none):Mem.le m (m.set b o):=fun c o' hc=>by
 by_cases e:c=b
 ·subst e;rw [h] at hc;cases hc
 ·rw [Mem.set_other _ _ e];exact hc
theorem le_refl (m:Mem):Mem.le m m:=fun _ _ h=>h
theorem j8z {x:IOp} {e:Env} {m:Mem} {F:AV→Mem→Prop} (hg:x.isGrow=true) (h:vop P x e m F X):vop P x e m (fun u m'=>Mem.le m m'∧F u m') X:=by
 by_cases hp:x.isPure=true
 ·obtain ⟨u,hu,_,_,_,hd⟩:=v0x hp h
  exact hd m _ (fun _=>le_refl m) ⟨le_refl m,hu⟩
 ·cases x<;>first | (exact absurd rfl hp) | (exfalso;simp [IOp.isGrow,IOp.isPure] at hg;done) | skip
  all_goals simp only [vop] at h ⊢
  case va z=>exact ⟨le_refl m,h⟩
  case al T z=>unfold WNew at h ⊢;exact fun b hb=>⟨le_set hb,h b hb⟩
  all_goals
   repeat' (split at h)
   all_goals first
    | exact h.elim
    | exact ⟨le_refl m,h⟩
    | (unfold WNew at h ⊢;exact fun b hb=>⟨le_set hb,h b hb⟩)
    | (unfold q2z at h ⊢;exact ⟨h.1,fun b hb=>⟨le_set hb,h.2 b hb⟩⟩)
    | exact q1r.mono (fun v m' hle hk=>⟨hle,hk⟩) h
theorem k1k {x:E} {e:Env} {m:Mem} {K:Env→Mem→Prop} (hg:x.o.isGrow=true) (h:q1w P x e m K X):q1w P x e m (fun e' m'=>Mem.le m m'∧K e' m') X:=by
 have key:vop P x.o e m (q3l x.s fun u m'=>K (e.put x.d u) m') X→vop P x.o e m (q3l x.s fun u m'=>Mem.le m m'∧K (e.put x.d u) m') X:=fun hv =>
  z0y (fun u m' hh=>z0o (fun u hk=>⟨hh.1,hk⟩) hh.2) (j8z hg hv)
 unfold q1w at *
 split at h
 ·exact key h
 ·split at h<;>first | exact h.elim | skip
  ·split at h
   ·exact key h
   ·exact key h
   ·exact ⟨le_refl m,h⟩
  ·exact ⟨le_refl m,h⟩
theorem v7b {x:E} {e e1:Env} {m:Mem} {F F':Env→Mem→Prop} (he:∀ s∈x.reads,e s=e1 s) (h:q1w P x e1 m F X) (hF:∀ v m',F (e1.put x.d v) m'→F' (e.put x.d v) m'):q1w P x e m F' X:=by
 have key:vop P x.o e1 m (q3l x.s fun u m'=>F (e1.put x.d u) m') X→vop P x.o e m (q3l x.s fun u m'=>F' (e.put x.d u) m') X:=fun hv=>by
  rw [v4i fun s hs=>he s (w0a hs)]
  exact z0y (fun u m'=>z0o fun u=>hF u m') hv
 unfold q1w at *
 split at h
 ·exact key h
 ·rename_i s want hg
  have hs:e s=e1 s:=he s (by unfold E.reads;rw [hg];simp)
  simp only [hs]
  split at h<;>first | exact h.elim | skip
  ·rename_i b hb
   split at h
   ·exact key h
   ·exact key h
   ·rename_i h1 h2
    have:F' (e.put x.d (.val undef)) m:=hF _ _ h
    cases b<;>cases want<;>first | exact this | (exact absurd rfl (h1 rfl)) | (exact absurd rfl (h2 rfl))
  ·exact hF _ _ h

def z7k (ops:Array Oper) (j i:Nat):Bool:=match ops[j]? with | some o=>o.after.any fun e=>Region.binds .any e&&Nat.beq e.on i | none=>false
def dNe (d e:Option Nat):Bool:=match d,e with | some a,some b=>!(Nat.beq a b) | _,_=>true
def z3n (d:Option Nat) (l:List Nat):Bool:=match d with | some a=>l.all fun b=>!(Nat.beq a b) | none=>true
def z5x (x y:E):Bool:=z3n x.d y.reads&&dNe x.d y.d&&z3n y.d x.reads&&(!x.o.isLoad||y.o.isGrow)
def z1n (ops:Array Oper) (l:List E) (listed:Array Bool) (i:Nat):Bool :=
 match l[i]? with
 | some x=>(List.range ops.size).all fun j=>Nat.beq j i||listed.getD j true||z7k ops j i||(match l[j]? with | some y=>z5x x y | none=>false)
 | none=>false
def z1h (ops:Array Oper) (L:Array Bool) (i:Nat):Bool :=
 !(L.getD i true)&&(match ops[i]? with | some o=>o.after.all fun e=>!(Region.binds .any e)||L.getD e.on false | none=>false)
theorem q9m {L:Array Bool} {i:Nat}:z1h ops L i=true↔i∈Region.ready .any ops L:=by
 rw [mem_ready]
 unfold z1h
 rw [Bool.and_eq_true,Bool.not_eq_true']
 refine and_congr Iff.rfl ?_
 cases ho:ops[i]? with
 | none=>simp
 | some o =>
  simp only [Option.some.injEq,exists_eq_left',Array.all_eq_true_iff_forall_mem,Bool.or_eq_true,Bool.not_eq_true']
  constructor
  ·intro h e he hb
   rcases h e he with h1 | h1
   ·rw [hb] at h1;cases h1
   ·exact h1
  ·intro h e he
   cases hb:Region.binds .any e with
   | false=>exact .inl rfl
   | true=>exact .inr (h e he hb)
def q3f (ops:Array Oper) (l:List E):RT→Array Bool→Option (List Nat)→Bool
 | .nil,L,none=>(Region.ready .any ops L).isEmpty
 | .pure i t,L,none=>z1h ops L i&&(match l[i]? with | some x=>x.o.isPure | none=>false)&&z1n ops l L i&&q3f ops l t (L.setIfInBounds i true) none
 | .alt i t more,L,s=>z1h ops L i&&q3f ops l t (L.setIfInBounds i true) none&&q3f ops l more L (some (i :: s.getD []))
 | .done,L,some seen=>(Region.ready .any ops L).all fun j=>seen.contains j
 | _,_,_=>false
theorem k5e {d e:Option Nat} (h:dNe d e=true):∀ a,d=some a→e≠some a:=fun a hd he=>by subst hd he;simp [dNe] at h
theorem v6s {d:Option Nat} {l:List Nat} (h:z3n d l=true):∀ a,d=some a→a∉l:=fun a hd ha=>by
 subst hd
 simp only [z3n,List.all_eq_true] at h
 have:=h a ha
 simp at this
theorem set_comm (L:Array Bool) (i j:Nat):(L.setIfInBounds i true).setIfInBounds j true=(L.setIfInBounds j true).setIfInBounds i true:=by
 by_cases h:i=j
 ·subst h;rfl
 ·apply Array.ext'
  simp only [Array.toList_setIfInBounds]
  exact List.set_comm _ _ h
theorem v5j {e:Env} {d:Option Nat} {s:Nat} (v:AV) (hd:∀ a,d=some a→s≠a) (hr:∀ a,d=some a→¬ q5g (e s) a):e.put d v s=e s:=by
 cases d with
 | none=>rfl
 | some a =>
  have hne:=hd a rfl
  by_cases hf:∃ cs,v=.fresh cs
  ·obtain ⟨cs,rfl⟩:=hf
   rw [q5n e cs hne]
   cases he:e s with
   | none=>rfl
   | some q =>
    have:=hr a rfl
    rw [he] at this
    cases q with
    | val _=>rfl
    | var _=>rfl
    | fresh _=>rfl
    | ref j off =>
     have hj:Nat.beq j a=false:=by
      cases hb:Nat.beq j a with
      | false=>rfl
      | true=>exact absurd ⟨_,rfl,.inl ⟨off,by rw [q0n hb]⟩⟩ this
     simp only [q5c,hj,cond_false]
    | refi j off i =>
     have hj:Nat.beq j a=false:=by
      cases hb:Nat.beq j a with
      | false=>rfl
      | true=>exact absurd ⟨_,rfl,.inr ⟨off,i,by rw [q0n hb]⟩⟩ this
     simp only [q5c,hj,cond_false]
  ·have:e.put (some a) v=e.upd a v:=by cases v<;>first | rfl | (exact absurd ⟨_,rfl⟩ hf)
   rw [this,q0u e v hne]
theorem z5t {e:Env} {a:Nat} {u:AV} (hu:∀ cs,u≠.fresh cs):e.put (some a) u=e.upd a u:=by
 cases u<;>first | rfl | (exact absurd rfl (hu _))
theorem w3p {e:Env} {d d':Option Nat} {u:AV} (v:AV) (hu:∀ cs,u≠.fresh cs) (hne:∀ a,d=some a→d'≠some a) (hr:∀ a,d'=some a→¬ q6t u a):(e.put d u).put d' v=(e.put d' v).put d u:=by
 cases d with
 | none=>rfl
 | some a =>
  cases d' with
  | none=>rfl
  | some b =>
   have hab:a≠b:=fun hh=>hne a rfl (by rw [hh])
   rw [z5t hu,z5t hu]
   funext s
   by_cases hsa:s=a
   ·subst hsa
    rw [q1c,v5j v (fun c hc=>by cases hc;exact hab) (fun c hc=>by cases hc;rw [q1c];rintro ⟨q,hq,hqr⟩;cases hq;exact hr _ rfl hqr),q1c]
   ·rw [q0u _ _ hsa]
    by_cases hf:∃ cs,v=.fresh cs
    ·obtain ⟨cs,rfl⟩:=hf
     by_cases hsb:s=b
     ·subst hsb;rw [z1f,z1f]
     ·rw [q5n _ _ hsb,q5n _ _ hsb,q0u _ _ hsa]
    ·have e1:∀ e:Env,e.put (some b) v=e.upd b v:=fun e=>z5t fun cs hc=>hf ⟨cs,hc⟩
     rw [e1,e1]
     by_cases hsb:s=b
     ·subst hsb;rw [q1c,q1c]
     ·rw [q0u _ _ hsb,q0u _ _ hsb,q0u _ _ hsa]
theorem k6p {l:List E} {K:Env→Mem→Prop} {j:Nat} {e:Env} {m:Mem}:∀ (t:RT) (L:Array Bool) (seen:List Nat),q3f ops l t L (some seen)=true→j∈Region.ready .any ops L→j∉seen→q1n P l K X t e m →
  ∃ t' x,l[j]? = some x∧q3f ops l t' (L.setIfInBounds j true) none=true∧q1w P x e m (fun e' m'=>q1n P l K X t' e' m') X:=by
 intro t
 induction t with
 | nil=>intro L seen h;simp [q3f] at h
 | pure i t ih=>intro L seen h;simp [q3f] at h
 | done =>
  intro L seen h hj hs
  simp only [q3f,List.all_eq_true] at h
  have:=h j hj
  simp at this
  exact absurd this hs
 | alt i t more _ ihm =>
  intro L seen h hj hs ht
  simp only [q3f,Bool.and_eq_true,Option.getD_some] at h
  simp only [q1n] at ht
  by_cases hij:j=i
  ·subst hij
   cases hl:l[j]? with
   | none=>rw [hl] at ht;exact ht.1.elim
   | some x=>rw [hl] at ht;exact ⟨t,x,rfl,h.1.2,ht.1⟩
  ·exact ihm L (i :: seen) h.2 hj (by simp [hij,hs]) ht.2
theorem j6t {l:List E} {K:Env→Mem→Prop} {j:Nat}:∀ (t:RT) (L:Array Bool) (e:Env) (m:Mem),q3f ops l t L none=true→j∈Region.ready .any ops L→q1n P l K X t e m →
  ∃ t' x,l[j]? = some x∧q3f ops l t' (L.setIfInBounds j true) none=true∧q1w P x e m (fun e' m'=>q1n P l K X t' e' m') X:=by
 intro t
 induction t with
 | nil=>intro L e m h hj;simp only [q3f,List.isEmpty_iff] at h;rw [h] at hj;cases hj
 | done=>intro L e m h;simp [q3f] at h
 | alt i t more _ _ =>
  intro L e m h hj ht
  have h':q3f ops l (.alt i t more) L (some [])=true:=by simpa [q3f] using h
  exact k6p _ L [] h' hj (by simp) ht
 | pure i t ih =>
  intro L e m h hj ht
  simp only [q3f,Bool.and_eq_true] at h
  obtain ⟨⟨⟨h1,h2⟩,h3⟩,h4⟩:=h
  simp only [q1n] at ht
  split at h2<;>first | (cases h2;done) | skip
  rename_i x hx
  rw [hx] at ht
  simp only at ht
  by_cases hij:j=i
  ·subst hij;exact ⟨t,x,hx,h4,ht⟩
  ·obtain ⟨u,hu,u1,u2,R,r1,r2,hdet⟩:=w4v h2 ht
   obtain ⟨t',y,hy,hf',hst⟩:=ih (L.setIfInBounds i true) _ m h4 (ready_mono hj hij) hu
   -- i and j are apart
   have hap:z5x x y=true:=by
    unfold z1n at h3
    rw [hx] at h3
    simp only [List.all_eq_true,List.mem_range] at h3
    obtain ⟨g1,o,ho,g2⟩:=mem_ready.1 hj
    have hlt:j<ops.size:=(Array.getElem?_eq_some_iff.1 ho).1
    have:=h3 j hlt
    simp only [Bool.or_eq_true] at this
    rcases this with ((this | this) | this) | this
    ·exact absurd (q0n this) hij
    ·rw [g1] at this;cases this
    ·exfalso
     simp only [z7k,ho,Array.any_eq_true] at this
     obtain ⟨k,hk,hke⟩:=this
     rw [Bool.and_eq_true] at hke
     have:=g2 o.after[k] (Array.getElem_mem hk) hke.1
     rw [q0n hke.2] at this
     have hi:=(mem_ready.1 (q9m.1 h1)).1
     rw [getD_both hi] at this;cases this
    ·rw [hy] at this;exact this
   simp only [z5x,Bool.and_eq_true,Bool.or_eq_true,Bool.not_eq_true'] at hap
   obtain ⟨⟨⟨a1,a2⟩,a3⟩,a4⟩:=hap
   have a1':=v6s a1
   have a2':=k5e a2
   have a3':=v6s a3
   refine ⟨.pure i t',y,hy,?_,?_⟩
   ·simp only [q3f,Bool.and_eq_true]
    refine ⟨⟨⟨?_,by rw [hx];exact h2⟩,?_⟩,by rw [set_comm];exact hf'⟩
    ·exact q9m.2 (ready_mono (q9m.1 h1) (Ne.symm hij))
    ·unfold z1n at h3 ⊢
     rw [hx] at h3 ⊢
     simp only [List.all_eq_true,List.mem_range,Bool.or_eq_true] at h3 ⊢
     intro k hk
     rcases h3 k hk with ((hh | hh) | hh) | hh
     ·exact .inl (.inl (.inl hh))
     ·refine .inl (.inl (.inr ?_))
      by_cases hjk:j=k
      ·subst hjk
       rcases Nat.lt_or_ge j L.size with hs | hs
       ·simp [hs]
       ·simp [hs]
      ·rw [getD_set_ne true hjk];exact hh
     ·exact .inl (.inr hh)
     ·exact .inr hh
   ·have hagree:∀ s∈y.reads,e s=(e.put x.d u) s:=fun s hs=>by
     cases hd:x.d with
     | none=>rfl
     | some a =>
      rw [z5t u1,q0u]
      exact fun hh=>a1' a hd (hh▸hs)
    have fin:∀ (e':AV) (m':Mem),(x.o.isLoad=true→Mem.le m m')→q1n P l K X t' ((e.put x.d u).put y.d e') m'→q1n P l K X (.pure i t') (e.put y.d e') m':=fun v m' hle hk=>by
     simp only [q1n,hx]
     refine hdet _ m' _ (fun s hs=>?_) hle ?_
     ·refine (v5j v (fun b hb hh=>a3' b hb (hh▸r1 s hs)) (fun b hb hr=>a3' b hb ?_)).symm
      exact r2 s hs b hr
     ·rw [← w3p v u1 a2' (fun b hb hr=>a3' b hb (u2 b hr))];exact hk
    by_cases hload:x.o.isLoad=true
    ·have hgrow:y.o.isGrow=true:=by rcases a4 with a4 | a4;rw [hload] at a4;cases a4;exact a4
     exact v7b hagree (k1k hgrow hst) fun v m' hh=>fin v m' (fun _=>hh.1) hh.2
    ·exact v7b hagree hst fun v m' hh=>fin v m' (fun hl=>absurd hl hload) hh
end Go.Vx
