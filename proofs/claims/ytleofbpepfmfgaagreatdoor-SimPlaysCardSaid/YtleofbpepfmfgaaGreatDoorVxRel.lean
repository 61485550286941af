import Derived.Test.YtleofbpepfmfgaaGreatDoorVxBase
import Derived.Laws.Sem
import Derived.Laws.Cells
import Derived.Laws.CopyRow
import Derived.Laws.Rows
import Derived.OrdersIn
import Derived.RangeFuncLeaves
import Derived.Sort.LoopGhostIn
import Derived.TacticsIn
namespace Go.Vx
open Go

theorem Step.refl {m:Mem} {w:World} (h:Sub m w):Step m w m w:=⟨h,Nat.le_refl _,fun _ _ h=>⟨h,rfl⟩,rfl,rfl,rfl⟩
theorem Step.trans {m m' m'':Mem} {w w' w'':World} (h:Step m w m' w') (k:Step m' w' m'' w''):Step m w m'' w'' :=
 ⟨k.sub,Nat.le_trans h.size k.size,fun b hb hm=>by
  obtain ⟨h1,h2⟩:=h.keep b hb hm
  obtain ⟨h3,h4⟩:=k.keep b (Nat.lt_of_lt_of_le hb h.size) h1
  exact ⟨h3,h4.trans h2⟩,k.tape.trans h.tape,k.os.trans h.os,k.out.trans h.out⟩
theorem Sub.none {m:Mem} {w:World} (h:Sub m w) {b:Nat} (hb:w.heap.size≤b):m b=none:=by
 cases hm:m b with
 | none=>rfl
 | some o=>have:=h b o hm;rw [Array.getElem?_eq_none hb] at this;cases this
theorem Sub.lt {m:Mem} {w:World} (h:Sub m w) {b:Nat} {o:Obj} (hm:m b=some o):b<w.heap.size:=(Array.getElem?_eq_some_iff.1 (h b o hm)).1
theorem Step.drew {m:Mem} {w:World} (h:Sub m w) (n:Nat):Step m w m { w with drawn:=n }:=⟨h,Nat.le_refl _,fun _ _ h=>⟨h,rfl⟩,rfl,rfl,rfl⟩
theorem Mem.set_same (m:Mem) (b:Nat) (o:Obj):m.set b o b=some o:=by simp [Mem.set]
theorem Mem.set_other (m:Mem) {b c:Nat} (o:Obj) (h:c≠b):m.set b o c=m c:=by simp [Mem.set,h]
theorem push_getElem? (w:World) (o:Obj) (b:Nat) (hb:b<w.heap.size):(w.heap.push o)[b]? = w.heap[b]?:=by
 rw [Array.getElem?_push,if_neg (by omega)]
theorem Step.new {m:Mem} {w:World} (h:Sub m w) (o:Obj):Step m w (m.set w.heap.size o) { w with heap:=w.heap.push o } :=
 ⟨fun b o' hb=>by
  by_cases e:b=w.heap.size
  ·subst e;rw [Mem.set_same] at hb;cases hb;simp
  ·rw [Mem.set_other _ _ e] at hb;show (w.heap.push o)[b]? = _;rw [push_getElem? w o b (h.lt hb)];exact h b o' hb,
  by simp,fun b hb hm=>⟨by rw [Mem.set_other _ _ (by omega)];exact hm,push_getElem? w o b hb⟩,rfl,rfl,rfl⟩
theorem Step.hide {m:Mem} {w:World} (h:Sub m w) (o:Obj):Step m w m { w with heap:=w.heap.push o } :=
 ⟨fun b o' hb=>by show (w.heap.push o)[b]? = _;rw [push_getElem? w o b (h.lt hb)];exact h b o' hb,
  by simp,fun b hb hm=>⟨hm,push_getElem? w o b hb⟩,rfl,rfl,rfl⟩
theorem Step.put {m:Mem} {w:World} (h:Sub m w) {b:Nat} {l l':List Value} {T:TypeId} (hb:m b=some (Cells l T)):Step m w (m.set b (Cells l' T)) (w.setRow b ⟨l'⟩) :=
 ⟨fun c o hc=>by
  by_cases e:c=b
  ·subst e;rw [Mem.set_same] at hc;cases hc;exact setRow_heap w c _ _ _ _ (h c _ hb)
  ·rw [Mem.set_other _ _ e] at hc;rw [setRow_other w b c _ e];exact h c o hc,
  by simp,fun c hc hm=>by
   have e:c≠b:=fun e=>by subst e;rw [hb] at hm;cases hm
   exact ⟨by rw [Mem.set_other _ _ e];exact hm,setRow_other w b c _ e⟩,rfl,rfl,rfl⟩
theorem cell?_of {w:World} {m:Mem} (h:Sub m w) {a:Addr} {v:Value} (hc:q0q m a v):w.cell? a=some v:=by
 obtain ⟨c,T,fr,hb,hs,hv⟩:=hc
 simp [World.cell?,h _ _ hb,hs,hv]
theorem q0q.mono {m m':Mem} (h:Mem.le m m') {a:Addr} {v:Value} (hc:q0q m a v):q0q m' a v:=by
 obtain ⟨c,T,fr,hb,hs,hv⟩:=hc;exact ⟨c,T,fr,h _ _ hb,hs,hv⟩
theorem q0g.mono {m m':Mem} (h:Mem.le m m') {a:Addr} {vs:List Value} (hc:q0g m a vs):q0g m' a vs:=fun i v hi=>(hc i v hi).mono h

def FR:Option Nat→Fence | none=>Fence.wide | some l=>Fence.wide.inRound l
theorem v0e (ro:Option Nat) (f:FuncId):(FR ro).fn f:=by cases ro<;>trivial
theorem j4k (ro:Option Nat):(FR ro).depth=none:=by cases ro<;>rfl
theorem FR_n (ro:Option Nat):(FR ro).depth.isSome=true→1≤0:=fun h=>by rw [j4k] at h;cases h
theorem v4e {ro:Option Nat} {P:Program} {f:FuncId} {args:Array Value} {w:World} {R:Ending→World→Prop} (h:Calls P f args w R):CallsIn (FR ro) 0 P f args w R:=by
 have h0:CallsIn Fence.wide 0 P f args w R:=callsIn_wide.2 h
 cases ro with
 | none=>exact h0
 | some l=>exact h0
theorem j0a {ro:Option Nat} {P:Program} {l:Nat} {f:FuncId} {tmps:Array Value} {assign body:Code} {w:World} {R:Ending→World→Prop} (h:RoundIn Fence.wide 0 P l f tmps assign body w R):RoundIn (FR ro) 0 P l f tmps assign body w R:=by
 cases ro with
 | none=>exact h
 | some l=>exact h

def q9d (r:Nat):Deferred:={ target:=.collected r,args:=#[] }
structure q3k where
 ds:List Deferred
 nm:Bool
def q3m (D0:q3k) (m:Mem) (w0:World) (ds:List Deferred) (w:World):Prop :=
 ∃ rs:List Nat,ds=rs.map q9d++D0.ds∧rs.Nodup∧(D0.nm=true→rs=[])∧∀ r∈rs,w.heap[r]? = some (.deferred (some []))∧m r=none∧w0.heap.size≤r
theorem q3m.nil (D0:q3k) (m:Mem) (w0 w:World):q3m D0 m w0 D0.ds w:=⟨[],rfl,List.nodup_nil,fun _=>rfl,fun r h=>by cases h⟩
theorem q3m.step {D0:q3k} {ds:List Deferred} {m m':Mem} {w0 w w':World} (h:q3m D0 m w0 ds w) (s:Step m w m' w'):q3m D0 m' w0 ds w':=by
 obtain ⟨rs,h1,h2,hn,h3⟩:=h
 refine ⟨rs,h1,h2,hn,fun r hr=>?_⟩
 obtain ⟨g1,g2,g3⟩:=h3 r hr
 obtain ⟨g4,g5⟩:=s.keep r (Array.getElem?_eq_some_iff.1 g1).1 g2
 exact ⟨g5.trans g1,g4,g3⟩
theorem q3m.forget {D0:q3k} {ds:List Deferred} {m m':Mem} {w0 w:World} (h:q3m D0 m' w0 ds w) (hle:Mem.le m m'):q3m D0 m w0 ds w:=by
 obtain ⟨rs,h1,h2,hn,h3⟩:=h
 refine ⟨rs,h1,h2,hn,fun r hr=>?_⟩
 obtain ⟨g1,g2,g3⟩:=h3 r hr
 refine ⟨g1,?_,g3⟩
 cases hh:m r with
 | none=>rfl
 | some o=>rw [hle r o hh] at g2;cases g2
theorem q3m.heap {D0:q3k} {ds:List Deferred} {m:Mem} {w0 w w':World} (h:q3m D0 m w0 ds w) (k:∀ r:Nat,w.heap[r]? = some (Obj.deferred (some []))→w'.heap[r]? = w.heap[r]?):q3m D0 m w0 ds w':=by
 obtain ⟨rs,h1,h2,hn,h3⟩:=h
 refine ⟨rs,h1,h2,hn,fun r hr=>?_⟩
 obtain ⟨g1,g2,g3⟩:=h3 r hr
 exact ⟨(k r g1).trans g1,g2,g3⟩

structure Rel (D0:q3k) (m0:Mem) (w0:World) (N:Nat) (e:Env) (m:Mem) (a:Act) (w:World):Prop where
 size:a.tmps.size=N
 defers:q3m D0 m w0 a.defers w
 step:Step m0 w0 m w
 val:∀ t v,e t=some (.val v)→a.tmps.getD t undef=v
 var:∀ t cs,e t=some (.var cs)→∃ b T,a.tmps.getD t undef=.pointer (some ⟨b,0,none⟩)∧w.heap[b]? = some (Cells cs T)∧m b=none∧w0.heap.size≤b
 inj:∀ t t' cs cs',e t=some (.var cs)→e t'=some (.var cs')→a.tmps.getD t undef=a.tmps.getD t' undef→t=t'
 ref:∀ t k off cs,e t=some (.ref k off)→e k=some (.var cs)→∃ b,a.tmps.getD k undef=.pointer (some ⟨b,0,none⟩)∧a.tmps.getD t undef=.pointer (some ⟨b,off,none⟩)
 refi:∀ t k off i cs,e t=some (.refi k off i)→e k=some (.var cs)→0≤i∧∃ b,a.tmps.getD k undef=.pointer (some ⟨b,0,none⟩)∧a.tmps.getD t undef=.pointer (some ⟨b,off+i.toNat,none⟩)

variable {D0:q3k} {m0:Mem} {w0:World} {N:Nat} {e:Env} {m:Mem} {a:Act} {w:World}

theorem Rel.sub (h:Rel D0 m0 w0 N e m a w):Sub m w:=h.step.sub
theorem Rel.mem (h:Rel D0 m0 w0 N e m a w) {m':Mem} {w':World} (s:Step m w m' w'):Rel D0 m0 w0 N e m' a w' where
 size:=h.size
 defers:=h.defers.step s
 step:=h.step.trans s
 val:=h.val
 var t cs ht:=by
  obtain ⟨b,T,h1,h2,h3,h4⟩:=h.var t cs ht
  have hlt:b<w.heap.size:=(Array.getElem?_eq_some_iff.1 h2).1
  obtain ⟨h5,h6⟩:=s.keep b hlt h3
  exact ⟨b,T,h1,h6.trans h2,h5,h4⟩
 inj:=h.inj
 ref:=h.ref
 refi:=h.refi
theorem Step.forget {m0 m m':Mem} {w0 w:World} (h:Step m0 w0 m' w) (hle:Mem.le m m'):Step m0 w0 m w :=
 ⟨fun b o hb=>h.sub b o (hle b o hb),h.size,fun b hb hm=>⟨(by
  have:=(h.keep b hb hm).1
  cases hh:m b with
  | none=>rfl
  | some o=>rw [hle b o hh] at this;cases this),(h.keep b hb hm).2⟩,h.tape,h.os,h.out⟩
theorem Rel.forget {m':Mem} (h:Rel D0 m0 w0 N e m' a w) (hle:Mem.le m m'):Rel D0 m0 w0 N e m a w where
 size:=h.size
 defers:=h.defers.forget hle
 step:=h.step.forget hle
 val:=h.val
 var t cs ht:=by
  obtain ⟨b,T,g1,g2,g3,g4⟩:=h.var t cs ht
  refine ⟨b,T,g1,g2,?_,g4⟩
  cases hh:m b with
  | none=>rfl
  | some o=>rw [hle b o hh] at g3;cases g3
 inj:=h.inj
 ref:=h.ref
 refi:=h.refi
theorem Rel.weak (h:Rel D0 m0 w0 N e m a w) {e':Env} (he:∀ t v,e' t=some v→e t=some v):Rel D0 m0 w0 N e' m a w where
 size:=h.size
 defers:=h.defers
 step:=h.step
 val t v ht:=h.val t v (he _ _ ht)
 var t cs ht:=h.var t cs (he _ _ ht)
 inj t t' cs cs' ht ht':=h.inj t t' cs cs' (he _ _ ht) (he _ _ ht')
 ref t k off cs ht hk:=h.ref t k off cs (he _ _ ht) (he _ _ hk)
 refi t k off i cs ht hk:=h.refi t k off i cs (he _ _ ht) (he _ _ hk)

theorem q4o (a:Act) (t s:Nat) (v:Value) (ht:t<a.tmps.size):(a.put (some t) v).tmps.getD s undef=if s=t then v else a.tmps.getD s undef:=by
 simp only [Act.put,Array.getD_eq_getD_getElem?]
 by_cases e:s=t
 ·subst e;simp [ht]
 ·rw [Array.getElem?_setIfInBounds_ne (Ne.symm e),if_neg e]
theorem q1c (e:Env) (t:Nat) (v:AV):e.upd t v t=some v:=by simp [Env.upd]
theorem q0u (e:Env) {t s:Nat} (v:AV) (h:s≠t):e.upd t v s=e s:=by
 simp only [Env.upd]
 have:Nat.beq s t=false:=by
  cases hb:Nat.beq s t with
  | false=>rfl
  | true=>exact absurd (Nat.eq_of_beq_eq_true hb) h
 rw [this];rfl

theorem Rel.upd (h:Rel D0 m0 w0 N e m a w) {t:Nat} (ht:t<N) {u:AV} {v:Value} (hu:∀ cs,u≠.var cs)
  (hval:∀ x,u=.val x→v=x)
  (href:∀ k off cs,u=.ref k off→k≠t→e k=some (.var cs)→∃ b,a.tmps.getD k undef=.pointer (some ⟨b,0,none⟩)∧v=.pointer (some ⟨b,off,none⟩))
  (hrefi:∀ k off i cs,u=.refi k off i→k≠t→e k=some (.var cs)→0≤i∧∃ b,a.tmps.getD k undef=.pointer (some ⟨b,0,none⟩)∧v=.pointer (some ⟨b,off+i.toNat,none⟩)) :
  Rel D0 m0 w0 N (e.upd t u) m (a.put (some t) v) w where
 size:=by simp [Act.put,h.size]
 defers:=h.defers
 step:=h.step
 val s x hs:=by
  rw [q4o a t s v (h.size▸ht)]
  by_cases es:s=t
  ·subst es;rw [q1c] at hs;rw [if_pos rfl];exact hval x (Option.some.inj hs)
  ·rw [q0u _ _ es] at hs;rw [if_neg es];exact h.val s x hs
 var s cs hs:=by
  by_cases es:s=t
  ·subst es;rw [q1c] at hs;exact absurd (Option.some.inj hs) (hu cs)
  ·rw [q0u _ _ es] at hs;rw [q4o a t s v (h.size▸ht),if_neg es];exact h.var s cs hs
 inj s s' cs cs' hs hs':=by
  by_cases es:s=t
  ·subst es;rw [q1c] at hs;exact absurd (Option.some.inj hs) (hu cs)
  by_cases es':s'=t
  ·subst es';rw [q1c] at hs';exact absurd (Option.some.inj hs') (hu cs')
  rw [q0u _ _ es] at hs;rw [q0u _ _ es'] at hs'
  rw [q4o a t s v (h.size▸ht),if_neg es,q4o a t s' v (h.size▸ht),if_neg es']
  exact h.inj s s' cs cs' hs hs'
 ref s k off cs hs hk:=by
  by_cases ek:k=t
  ·subst ek;rw [q1c] at hk;exact absurd (Option.some.inj hk) (hu cs)
  rw [q0u _ _ ek] at hk
  rw [q4o a t k v (h.size▸ht),if_neg ek,q4o a t s v (h.size▸ht)]
  by_cases es:s=t
  ·subst es;rw [q1c] at hs;rw [if_pos rfl];exact href k off cs (Option.some.inj hs) ek hk
  ·rw [q0u _ _ es] at hs;rw [if_neg es];exact h.ref s k off cs hs hk
 refi s k off i cs hs hk:=by
  by_cases ek:k=t
  ·subst ek;rw [q1c] at hk;exact absurd (Option.some.inj hk) (hu cs)
  rw [q0u _ _ ek] at hk
  rw [q4o a t k v (h.size▸ht),if_neg ek,q4o a t s v (h.size▸ht)]
  by_cases es:s=t
  ·subst es;rw [q1c] at hs;rw [if_pos rfl];exact hrefi k off i cs (Option.some.inj hs) ek hk
  ·rw [q0u _ _ es] at hs;rw [if_neg es];exact h.refi s k off i cs hs hk
theorem Rel.updVal (h:Rel D0 m0 w0 N e m a w) {t:Nat} (ht:t<N) (v:Value):Rel D0 m0 w0 N (e.upd t (.val v)) m (a.put (some t) v) w :=
 h.upd ht (fun _ h=>by cases h) (fun x hx=>by cases hx;rfl) (fun _ _ _ h=>by cases h) (fun _ _ _ _ h=>by cases h)

theorem q6w {k:Nat} {x:Option AV} {v:AV} (h:q5c k x=some v):x=some v∧(∀ j off,v=.ref j off→j≠k)∧(∀ j off i,v=.refi j off i→j≠k):=by
 have key:∀ j:Nat,Nat.beq j k=true→j=k:=fun j=>Nat.eq_of_beq_eq_true
 cases x with
 | none=>simp [q5c] at h
 | some y =>
  cases y with
  | val _=>simp only [q5c,Option.some.injEq] at h;subst h;exact ⟨rfl,fun _ _ h=>(by cases h),fun _ _ _ h=>(by cases h)⟩
  | var _=>simp only [q5c,Option.some.injEq] at h;subst h;exact ⟨rfl,fun _ _ h=>(by cases h),fun _ _ _ h=>(by cases h)⟩
  | fresh _=>simp only [q5c,Option.some.injEq] at h;subst h;exact ⟨rfl,fun _ _ h=>(by cases h),fun _ _ _ h=>(by cases h)⟩
  | ref j off =>
   simp only [q5c] at h
   cases hb:Nat.beq j k with
   | true=>rw [hb] at h;cases h
   | false =>
    rw [hb] at h;simp only [cond_false,Option.some.injEq] at h;subst h
    exact ⟨rfl,fun j' off' h=>(by cases h;intro e;subst e;simp at hb),fun _ _ _ h=>(by cases h)⟩
  | refi j off i =>
   simp only [q5c] at h
   cases hb:Nat.beq j k with
   | true=>rw [hb] at h;cases h
   | false =>
    rw [hb] at h;simp only [cond_false,Option.some.injEq] at h;subst h
    exact ⟨rfl,fun _ _ h=>(by cases h),fun j' off' i' h=>(by cases h;intro e;subst e;simp at hb)⟩
theorem z1f (e:Env) (t:Nat) (cs:List Value):e.put (some t) (.fresh cs) t=some (.var cs):=by simp [Env.put]
theorem q5n (e:Env) {t s:Nat} (cs:List Value) (h:s≠t):e.put (some t) (.fresh cs) s=q5c t (e s):=by
 simp only [Env.put]
 have:Nat.beq s t=false:=by
  cases hb:Nat.beq s t with
  | false=>rfl
  | true=>exact absurd (Nat.eq_of_beq_eq_true hb) h
 rw [this];rfl

theorem Rel.fresh (h:Rel D0 m0 w0 N e m a w) {t:Nat} (ht:t<N) (cs:List Value) (T:TypeId) :
  Rel D0 m0 w0 N (e.put (some t) (.fresh cs)) m (a.put (some t) (.pointer (some ⟨w.heap.size,0,none⟩))) { w with heap:=w.heap.push (Cells cs T) } where
 size:=by simp [Act.put,h.size]
 defers:=h.defers.heap fun r hr=>push_getElem? w _ r (Array.getElem?_eq_some_iff.1 hr).1
 step:=h.step.trans (Step.hide h.sub _)
 val s x hs:=by
  rw [q4o a t s _ (h.size▸ht)]
  by_cases es:s=t
  ·subst es;rw [z1f] at hs;cases hs
  ·rw [q5n _ _ es] at hs;rw [if_neg es];exact h.val s x (q6w hs).1
 var s cs' hs:=by
  by_cases es:s=t
  ·subst es;rw [z1f] at hs;cases hs
   rw [q4o a s s _ (h.size▸ht),if_pos rfl]
   exact ⟨w.heap.size,T,rfl,by simp,h.sub.none (Nat.le_refl _),h.step.size⟩
  ·rw [q5n _ _ es] at hs;rw [q4o a t s _ (h.size▸ht),if_neg es]
   obtain ⟨b,T',h1,h2,h3,h4⟩:=h.var s cs' (q6w hs).1
   exact ⟨b,T',h1,by rw [push_getElem? w _ b (Array.getElem?_eq_some_iff.1 h2).1];exact h2,h3,h4⟩
 inj s s' cs1 cs2 hs hs':=by
  rw [q4o a t s _ (h.size▸ht),q4o a t s' _ (h.size▸ht)]
  by_cases es:s=t
  ·by_cases es':s'=t
   ·intro _;rw [es,es']
   ·rw [q5n _ _ es'] at hs'
    obtain ⟨b,T',h1,h2,h3,h4⟩:=h.var s' cs2 (q6w hs').1
    rw [if_pos es,if_neg es',h1];intro hh
    have hb:b<w.heap.size:=(Array.getElem?_eq_some_iff.1 h2).1
    simp at hh;omega
  ·rw [q5n _ _ es] at hs
   obtain ⟨b,T',h1,h2,h3,h4⟩:=h.var s cs1 (q6w hs).1
   by_cases es':s'=t
   ·rw [if_neg es,if_pos es',h1];intro hh
    have hb:b<w.heap.size:=(Array.getElem?_eq_some_iff.1 h2).1
    simp at hh;omega
   ·rw [q5n _ _ es'] at hs'
    rw [if_neg es,if_neg es'];exact h.inj s s' cs1 cs2 (q6w hs).1 (q6w hs').1
 ref s k off cs' hs hk:=by
  by_cases es:s=t
  ·subst es;rw [z1f] at hs;cases hs
  rw [q5n _ _ es] at hs
  obtain ⟨h1,h2,_⟩:=q6w hs
  have ek:k≠t:=h2 k off rfl
  rw [q5n _ _ ek] at hk
  rw [q4o a t k _ (h.size▸ht),if_neg ek,q4o a t s _ (h.size▸ht),if_neg es]
  exact h.ref s k off cs' h1 (q6w hk).1
 refi s k off i cs' hs hk:=by
  by_cases es:s=t
  ·subst es;rw [z1f] at hs;cases hs
  rw [q5n _ _ es] at hs
  obtain ⟨h1,_,h2⟩:=q6w hs
  have ek:k≠t:=h2 k off i rfl
  rw [q5n _ _ ek] at hk
  rw [q4o a t k _ (h.size▸ht),if_neg ek,q4o a t s _ (h.size▸ht),if_neg es]
  exact h.refi s k off i cs' h1 (q6w hk).1

theorem Rel.setVar (h:Rel D0 m0 w0 N e m a w) {k:Nat} {cs cs':List Value} (hk:e k=some (.var cs)) {b:Nat} (hb:a.tmps.getD k undef=.pointer (some ⟨b,0,none⟩)) :
  Rel D0 m0 w0 N (e.upd k (.var cs')) m a (w.setRow b ⟨cs'⟩):=by
 obtain ⟨b',T,h1,h2,h3,h4⟩:=h.var k cs hk
 obtain rfl:b=b':=by rw [hb] at h1;cases h1;rfl
 refine ⟨h.size,h.defers.heap (fun r hr=>setRow_other w b r _ (fun er=>by subst er;rw [h2] at hr;cases hr)),⟨fun c o hc=>?_,?_,fun c hc hm=>?_,h.step.tape,h.step.os,h.step.out⟩,fun s x hs=>?_,fun s c1 hs=>?_,fun s s' c1 c2 hs hs'=>?_,fun s j off c1 hs hj=>?_,fun s j off i c1 hs hj=>?_⟩
 ·rw [setRow_other w b c _ (fun ec=>by subst ec;rw [h3] at hc;cases hc)];exact h.sub c o hc
 ·simpa using h.step.size
 ·obtain ⟨h5,h6⟩:=h.step.keep c hc hm
  exact ⟨h5,by rw [setRow_other w b c _ (by omega)];exact h6⟩
 ·by_cases es:s=k
  ·subst es;rw [q1c] at hs;cases hs
  ·rw [q0u _ _ es] at hs;exact h.val s x hs
 ·by_cases es:s=k
  ·subst es;rw [q1c] at hs;cases hs
   exact ⟨b,T,h1,setRow_heap w b _ _ _ _ h2,h3,h4⟩
  ·rw [q0u _ _ es] at hs
   obtain ⟨b2,T2,g1,g2,g3,g4⟩:=h.var s c1 hs
   have hne:b2≠b:=fun eb=>es (h.inj s k c1 cs hs hk (by rw [g1,h1,eb]))
   exact ⟨b2,T2,g1,by rw [setRow_other w b b2 _ hne];exact g2,g3,g4⟩
 ·have lift:∀ s c1,(e.upd k (.var cs')) s=some (.var c1)→∃ c2,e s=some (.var c2):=fun s c1 hs=>by
   by_cases es:s=k
   ·subst es;exact ⟨cs,hk⟩
   ·rw [q0u _ _ es] at hs;exact ⟨c1,hs⟩
  obtain ⟨d1,hd1⟩:=lift s c1 hs
  obtain ⟨d2,hd2⟩:=lift s' c2 hs'
  exact h.inj s s' d1 d2 hd1 hd2
 ·have es:s≠k:=fun es=>by subst es;rw [q1c] at hs;cases hs
  rw [q0u _ _ es] at hs
  by_cases ej:j=k
  ·subst ej;exact h.ref s j off cs hs hk
  ·rw [q0u _ _ ej] at hj;exact h.ref s j off c1 hs hj
 ·have es:s≠k:=fun es=>by subst es;rw [q1c] at hs;cases hs
  rw [q0u _ _ es] at hs
  by_cases ej:j=k
  ·subst ej;exact h.refi s j off i cs hs hk
  ·rw [q0u _ _ ej] at hj;exact h.refi s j off i c1 hs hj
end Go.Vx
