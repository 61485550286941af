import Derived.Test.YtleofbpepfmfgaaGreatDoorVxIRS
set_option linter.unusedSimpArgs false
set_option linter.unusedVariables false
namespace Go.Vx
open Go
variable {P:Program} {D0:q3k} {ro:Option Nat} {m0:Mem} {w0:World} {N:Nat}

def okPs (N:Nat):List Tmp→List Nat→Bool
 | [],[]=>true
 | t :: ts,p :: ps=>Nat.beq t p&&Nat.ble (p+1) N&&okPs N ts ps
 | _,_=>false
def okIR (P:Program) (N:Nat) (top:Bool):Code→IR→Bool
 | .skip,.skip=>true
 | .label _,.skip=>true
 | .ret,.ret=>true
 | .exit i,.exit j=>Nat.beq i j
 | .region _ ops false,.ops g=>(match okG P N ops g none ops.toList 0 with | some ([],_)=>true | _=>false)
 | .region _ ops true,.tree l t=>okTs P N ops ops.toList l&&q6h ops l t 0 none
 | .seq a b,.seq x y=>okIR P N top a x&&okIR P N top b y
 | .seq a b,.seqj _ x y=>okIR P N top a x&&okIR P N top b y
 | .cond c a b,.cond d x y=>okX d c&&okIR P N top a x&&okIR P N top b y
 | .block i a,.block j x=>Nat.beq i j&&okIR P N top a x
 | .loop a,.loop _ x=>okIR P N top a x
 | .rangeFunc g ts a b,.rf h ps x y=>top&&okX h g&&okPs N ts.toList ps&&okIR P N false a x&&okIR P N false b y
 | _,_=>false
def z9k (D0:q3k) (m0:Mem) (w0:World) (N:Nat) (Q:Post):Exit→Act→World→Prop:=fun x a w =>
 match x with
 | .panic ch=>∃ m,Step m0 w0 m w∧q3m D0 m w0 a.defers w∧Q (.panic ch) (fun _=>none) m
 | x=>∃ e m,Rel D0 m0 w0 N e m a w∧Q x e m
theorem w1r {e:Env}:∀ {l:List (Nat×AV)},q3i e l→∀ t v,z1d t l=some v→e t=some v:=by
 intro l
 induction l with
 | nil=>intro _ t v h;cases h
 | cons p l ih =>
  obtain ⟨k,u⟩:=p
  intro h t v hf
  simp only [z1d] at hf
  cases hb:Nat.beq t k with
  | true=>rw [hb] at hf;simp only [cond_true,Option.some.injEq] at hf;subst hf;rw [q0n hb];exact h.1
  | false=>rw [hb] at hf;exact ih h.2 t v hf
theorem z9w {e e':Env} {ms:List (Nat×Nat)} {l:List (Nat×AV)} (hc:q3i e' l) (hm:Mod ms e e'):∀ t v,over e ms l t=some v→e' t=some v:=fun t v h=>by
 unfold over at h
 cases ht:inM t ms with
 | true=>rw [ht] at h;exact w1r hc t v h
 | false=>rw [ht] at h;exact hm t v (by unfold q5d;rw [ht];exact h)
theorem w0h (hmix:P.follows .mixedOrders=true):∀ (x:IR) (top:Bool) (D0:q3k) (ro:Option Nat) (m0:Mem) (w0:World) (c:Code) (Q:Post) (e:Env) (m:Mem) (a:Act) (w:World),(top=true→ro=none∧D0.nm=false)→okIR P N top c x=true→x.okW=true→Rel D0 m0 w0 N e m a w→wpI P x Q e m →
  c.wpIn (FR ro) 0 P (z9k D0 m0 w0 N Q) a w:=by
 intro x
 induction x with
 | skip =>
  intro top D0 ro m0 w0 c Q e m a w htop hok _ h hw
  cases c<;>simp only [okIR] at hok<;>first | (cases hok;done) | skip
  ·exact wpIn_skip ⟨e,m,h,hw⟩
  ·exact wpIn_label ⟨e,m,h,hw⟩
 | ret =>
  intro top D0 ro m0 w0 c Q e m a w htop hok _ h hw
  cases c<;>simp only [okIR] at hok<;>first | (cases hok;done) | skip
  exact wpIn_ret ⟨e,m,h,hw⟩
 | exit id =>
  intro top D0 ro m0 w0 c Q e m a w htop hok _ h hw
  cases c<;>simp only [okIR] at hok<;>first | (cases hok;done) | skip
  obtain rfl:=q0n hok
  exact wpIn_exit ⟨e,m,h,hw⟩
 | ops g =>
  intro top D0 ro m0 w0 c Q e m a w htop hok _ h hw
  cases c<;>first | (simp [okIR] at hok;done) | skip
  rename_i id ops dr
  cases dr with
  | true=>simp [okIR] at hok
  | false =>
   simp only [okIR] at hok
   split at hok<;>first | (cases hok;done) | skip
   rename_i j hg
   refine wpIn_region ?_
   have:=k5f (ro:=ro) (Q:=z9k D0 m0 w0 N Q) (ops:=ops) (fun ch m' w' a' hx hs hd=>⟨m',hs,hd,hx⟩) g none ops.toList [] 0 j e m a w _ hg (fun i=>by simp) (fun x hx=>by cases hx) h hw (fun e' m' a' w' hk hrel _=>by
    have hsz:=(v4w g hg).2.1
    simp at hsz
    rw [← hsz,Nat.sub_self]
    exact ⟨e',m',hrel,hk⟩)
   rw [List.range_eq_range']
   simpa using this
 | tree l t =>
  intro top D0 ro m0 w0 c Q e m a w htop hok _ h hw
  cases c<;>first | (simp [okIR] at hok;done) | skip
  rename_i id ops dr
  cases dr with
  | false=>simp [okIR] at hok
  | true =>
   simp only [okIR,Bool.and_eq_true] at hok
   refine wpIn_region_any hmix ?_
   refine j1q (ro:=ro) (Q:=z9k D0 m0 w0 N Q) hok.1 (fun ch m' w' a' hx hs hd=>⟨m',hs,hd,hx⟩) (fun e' m' a' w' hk hrel=>⟨e',m',hrel,hk⟩) ops.size _ t e m a _ ?_ (j1w t 0 _ none (j1z _) hok.2) (h.mem (Step.drew h.sub _)) hw
   unfold cntF
   refine Nat.le_trans (List.countP_le_length) ?_
   simp
 | seq x y ihx ihy =>
  intro top D0 ro m0 w0 c Q e m a w htop hok hw0 h hw
  cases c<;>simp only [okIR] at hok<;>first | (cases hok;done) | skip
  rw [Bool.and_eq_true] at hok
  simp only [IR.okW,Bool.and_eq_true] at hw0
  refine wpIn_seq (wpIn_mono (ihx top D0 ro m0 w0 _ _ e m a w htop hok.1 hw0.1 h hw) fun ex a' w' hp=>?_)
  cases ex with
  | normal=>obtain ⟨e',m',h1,h2⟩:=hp;exact ihy top D0 ro m0 w0 _ Q e' m' a' w' htop hok.2 hw0.2 h1 h2
  | exit j=>exact hp
  | goto j=>exact hp
  | ret=>exact hp
  | panic ch=>exact hp
  | outgrown=>exact hp
 | seqj ms x y ihx ihy =>
  intro top D0 ro m0 w0 c Q e m a w htop hok hw0 h hw
  cases c<;>simp only [okIR] at hok<;>first | (cases hok;done) | skip
  rw [Bool.and_eq_true] at hok
  simp only [IR.okW,Bool.and_eq_true] at hw0
  simp only [wpI] at hw
  unfold z1e at hw
  obtain ⟨σ,vals,inv,h1,h2⟩:=hw
  refine wpIn_seq (wpIn_mono (ihx top D0 ro m0 w0 _ _ e m a w htop hok.1 hw0.1.2 h (v7l hw0.1.1 h1)) fun ex a' w' hp=>?_)
  cases ex with
  | normal =>
   obtain ⟨e',m',g1,g2,g3⟩:=hp
   obtain ⟨s,g4,g5⟩:=g2
   rcases g3 with ⟨_,g3⟩ | g3
   ·cases g3
   ·exact ihy top D0 ro m0 w0 _ Q _ m' a' w' htop hok.2 hw0.2 (g1.weak (z9w g4 g3)) (h2 s m' g5)
  | exit j=>obtain ⟨e',m',g1,g2⟩:=hp;exact ⟨e',m',g1,g2.1⟩
  | goto j=>obtain ⟨e',m',g1,g2⟩:=hp;exact ⟨e',m',g1,g2.1⟩
  | ret=>obtain ⟨e',m',g1,g2⟩:=hp;exact ⟨e',m',g1,g2.1⟩
  | panic ch=>obtain ⟨m',g1,g2,g3⟩:=hp;exact ⟨m',g1,g2,g3.1⟩
  | outgrown=>obtain ⟨e',m',g1,g2⟩:=hp;exact ⟨e',m',g1,g2.1⟩
 | cond d x y ihx ihy =>
  intro top D0 ro m0 w0 c Q e m a w htop hok hw0 h hw
  cases c<;>simp only [okIR] at hok<;>first | (cases hok;done) | skip
  rename_i cc ca cb
  simp only [Bool.and_eq_true] at hok
  simp only [IR.okW,Bool.and_eq_true] at hw0
  simp only [wpI] at hw
  split at hw
  ·rename_i n
   split at hw<;>first | exact hw.elim | skip
   rename_i c hc
   have hev:a.eval cc=.bool c:=q6f h hok.1.1 (by simp only [Opd.at,hc])
   have same:∀ b:Bool,c=b→e.upd n (.val (.bool b))=e:=fun b hb=>by
    subst hb
    funext s
    by_cases hs:s=n
    ·subst hs;rw [q1c];exact hc.symm
    ·rw [q0u _ _ hs]
   unfold Br at hw
   cases c with
   | true=>rw [same true rfl] at hw;exact wpIn_cond_true hev (ihx top D0 ro m0 w0 _ Q e m a w htop hok.1.2 hw0.1 h hw)
   | false=>rw [same false rfl] at hw;exact wpIn_cond_false hev (ihy top D0 ro m0 w0 _ Q e m a w htop hok.2 hw0.2 h hw)
  ·exact wpIn_cond_true (q6f h hok.1.1 rfl) (ihx top D0 ro m0 w0 _ Q e m a w htop hok.1.2 hw0.1 h hw)
  ·exact wpIn_cond_false (q6f h hok.1.1 rfl) (ihy top D0 ro m0 w0 _ Q e m a w htop hok.2 hw0.2 h hw)
  ·exact hw.elim
 | block id x ih =>
  intro top D0 ro m0 w0 c Q e m a w htop hok hw0 h hw
  cases c<;>simp only [okIR] at hok<;>first | (cases hok;done) | skip
  rw [Bool.and_eq_true] at hok
  obtain rfl:=q0n hok.1
  rename_i id' _
  refine wpIn_block (wpIn_mono (ih top D0 ro m0 w0 _ _ e m a w htop hok.2 hw0 h hw) fun ex a' w' hp=>?_)
  cases ex with
  | exit j =>
   obtain ⟨e',m',g1,g2⟩:=hp
   simp only [q6x] at g2
   simp only [Exit.inBlock]
   cases hb:Nat.beq j id' with
   | true=>rw [hb] at g2;rw [if_pos (q0n hb)];exact ⟨e',m',g1,g2⟩
   | false=>rw [hb] at g2;rw [if_neg (fun hh=>by subst hh;simp at hb)];exact ⟨e',m',g1,g2⟩
  | normal=>exact hp
  | goto j=>exact hp
  | ret=>exact hp
  | panic ch=>exact hp
  | outgrown=>exact hp
 | loop ms x ih =>
  intro top D0 ro m0 w0 c Q e m a w htop hok hw0 h hw
  cases c<;>simp only [okIR] at hok<;>first | (cases hok;done) | skip
  simp only [IR.okW,Bool.and_eq_true] at hw0
  simp only [wpI] at hw
  unfold q0v at hw
  obtain ⟨σ,vals,inv,μ,s0,h1,h2,h3⟩:=hw
  refine wpIn_loop_ghost (fun n a w=>∃ s m',μ s=n∧inv s m'∧Rel D0 m0 w0 N (over e ms (vals s)) m' a w) (μ s0) ⟨s0,m,rfl,h2,h.weak (z9w h1 (Mod.refl _ _))⟩ ?_
  rintro n a' w' ⟨s,m',rfl,hi,hrel⟩
  refine wpIn_mono (ih top D0 ro m0 w0 _ _ _ m' a' w' htop hok hw0.2 hrel (v7l hw0.1 (h3 s m' hi))) fun ex a'' w'' hp=>?_
  cases ex with
  | normal =>
   obtain ⟨e',m'',g1,g2,g3⟩:=hp
   obtain ⟨s',g4,g5,g6⟩:=g2
   rcases g3 with ⟨_,g3⟩ | g3
   ·cases g3
   ·exact ⟨μ s',g6,s',m'',rfl,g5,g1.weak (z9w g4 ((Mod.over e ms (vals s)).trans g3))⟩
  | exit j=>obtain ⟨e',m',g1,g2⟩:=hp;exact ⟨e',m',g1,g2.1⟩
  | goto j=>obtain ⟨e',m',g1,g2⟩:=hp;exact ⟨e',m',g1,g2.1⟩
  | ret=>obtain ⟨e',m',g1,g2⟩:=hp;exact ⟨e',m',g1,g2.1⟩
  | panic ch=>obtain ⟨m',g1,g2,g3⟩:=hp;exact ⟨m',g1,g2,g3.1⟩
  | outgrown=>obtain ⟨e',m',g1,g2⟩:=hp;exact ⟨e',m',g1,g2.1⟩
 | rf g ps x y ihx ihy =>
  intro top D0 ro m0 w0 c Q e m a w htop hok hw0 h hw
  cases c<;>simp only [okIR] at hok<;>first | (cases hok;done) | skip
  rename_i g' ts ca cb
  simp only [Bool.and_eq_true] at hok
  obtain ⟨⟨⟨⟨k1,k2⟩,k3⟩,k4⟩,k5⟩:=hok
  obtain ⟨rfl,hnm⟩:=htop k1
  simp only [IR.okW,Bool.and_eq_true] at hw0
  simp only [wpI] at hw
  unfold WRf at hw
  obtain ⟨f,first,caps,hg,hw⟩:=hw
  have hev:=q6f h k2 hg
  refine wpIn_rangeFunc fun fn _=>?_
  let r0:=w.heap.size
  let wa:World:=w.alloc (.deferred (some []))
  let r:Loop:={ state:=.ready,pending:=none,fn,tmps:=a.tmps,params:=ts,assign:=ca,body:=cb,defers:=r0 }
  let l:=w.heap.size+1
  let wb:World:=wa.alloc (.loop r)
  have sza:wa.heap.size=l:=by show (w.heap.push _).size=_;simp [l]
  have sa:Step m w m wa:=Step.hide h.sub _
  have sb:Step m w (m.set l (.loop r)) wb:=by
   have:=Step.new sa.sub (.loop r)
   rw [sza] at this
   exact sa.trans this
  have henter:(Instr.enterLoop fn a.tmps ts ca cb none).run P w=.ok (l,[q9d r0]) wb:=by
   have e1:(newObj (.deferred (some []))).run P w=.ok r0 wa:=rfl
   have e2:(newObj (.loop r)).run P wa=.ok l wb:=by rw [← sza];rfl
   simp only [Instr.enterLoop,Sem.run_bind,e1,Result.andThen_ok,Sem.run_pure]
   rw [show ({ state:=LoopState.ready,pending:=none,fn:=fn,tmps:=a.tmps,params:=ts,assign:=ca,body:=cb,defers:=r0 }:Loop)=r from rfl,e2]
   rfl
  have hml:m l=none:=h.sub.none (by show _≤w.heap.size+1;omega)
  have hyb:v2d P (wpI P x) (wpI P y) ps e l r:=by
   intro vs m1 R hlen hm1 hA
   have hps:r.params.size=vs.length:=by
    rw [hlen]
    have:∀ (ts:List Tmp) (ps:List Nat),okPs N ts ps=true→ts.length=ps.length:=by
     intro ts
     induction ts with
     | nil=>intro ps hh;cases ps with
      | nil=>rfl
      | cons p ps=>cases hh
     | cons t ts ih=>intro ps hh;cases ps with
      | nil=>cases hh
      | cons p ps=>simp only [okPs,Bool.and_eq_true] at hh;simp [ih ps hh.2]
    have:=this ts.toList ps k3
    simpa [r] using this
   refine ⟨r,hm1,hps,fun w1 hs1=>?_⟩
   have hsub1:Sub m1 w1:=hs1
   have hbind:∀ (ts:List Tmp) (ps:List Nat) (vs:List Value) (e1:Env) (tm:Array Value),okPs N ts ps=true→tm.size=N→(∀ t u,e1 t=some u→∃ v,u=.val v∧tm.getD t undef=v) →
     (((ts.zip vs).foldl (fun (tmps:Array Value) (p:Tmp×Value)=>tmps.setIfInBounds p.1 p.2) tm).size=N)∧∀ t u,q8b e1 ps vs t=some u→∃ v,u=.val v∧((ts.zip vs).foldl (fun (tmps:Array Value) (p:Tmp×Value)=>tmps.setIfInBounds p.1 p.2) tm).getD t undef=v:=by
    intro ts
    induction ts with
    | nil=>intro ps vs e1 tm hh hz hv;cases ps with
     | nil=>exact ⟨hz,by simpa [q8b] using hv⟩
     | cons p ps=>cases hh
    | cons t0 ts ih =>
     intro ps vs e1 tm hh hz hv
     cases ps with
     | nil=>cases hh
     | cons p ps =>
      simp only [okPs,Bool.and_eq_true] at hh
      obtain ⟨⟨q1,q2⟩,q3⟩:=hh
      obtain rfl:=q0n q1
      cases vs with
      | nil=>exact ⟨hz,by simpa [q8b] using hv⟩
      | cons v vs =>
       simp only [List.zip_cons_cons,List.foldl_cons,q8b]
       refine ih ps vs _ _ q3 (by simpa using hz) fun t u hu=>?_
       by_cases et:t=t0
       ·subst et;rw [q1c] at hu;cases hu
        refine ⟨v,rfl,?_⟩
        have hlt:=Nat.le_of_ble_eq_true q2
        rw [Array.getD_eq_getD_getElem?];simp [hz];omega
       ·rw [q0u _ _ et] at hu
        obtain ⟨v',rfl,hg⟩:=hv t u hu
        refine ⟨v',rfl,?_⟩
        rw [Array.getD_eq_getD_getElem?,Array.getElem?_setIfInBounds_ne (Ne.symm et),← Array.getD_eq_getD_getElem?]
        exact hg
   have hb0:=hbind ts.toList ps vs (q9p e) a.tmps k3 h.size (fun t u hu=>by
    unfold q9p at hu
    split at hu<;>try (cases hu;done)
    rename_i v hv;cases hu
    exact ⟨v,rfl,h.val t v hv⟩)
   have hfold:(r.params.zip ⟨vs⟩).foldl (fun tmps (t,a)=>tmps.setIfInBounds t a) r.tmps=(ts.toList.zip vs).foldl (fun (tmps:Array Value) (p:Tmp×Value)=>tmps.setIfInBounds p.1 p.2) a.tmps:=by
    rw [← Array.foldl_toList]
    simp [r]
   rw [hfold]
   have hrel1:Rel ⟨[],true⟩ m1 w1 N (q8b (q9p e) ps vs) m1 { tmps:=(ts.toList.zip vs).foldl (fun (tmps:Array Value) (p:Tmp×Value)=>tmps.setIfInBounds p.1 p.2) a.tmps,defers:=[] } w1:=by
    refine ⟨hb0.1,q3m.nil _ _ _ _,Step.refl hsub1,fun t v ht=>?_,fun t cs ht=>?_,fun t t' cs cs' ht=>?_,fun t k off cs ht=>?_,fun t k off i cs ht=>?_⟩
    ·obtain ⟨v',hv',hg⟩:=hb0.2 t _ ht;cases hv';exact hg
    all_goals (obtain ⟨_,hh,_⟩:=hb0.2 _ _ ht;cases hh)
   refine roundIn_of_wpIn (F:=Fence.wide) (n:=0) trivial ?_
   refine wpIn_mono (ihx false ⟨[],true⟩ (some l) m1 w1 ca _ _ m1 _ w1 (fun hh=>by cases hh) k4 hw0.1 hrel1 hA) fun ex a2 w2 hp=>?_
   cases ex with
   | normal =>
    obtain ⟨e2,m2,g1,g2,g3⟩:=hp
    have hl2:w2.heap[l]? = some (.loop r):=g1.sub _ _ g2
    let w3:World:={ w2 with heap:=w2.heap.setIfInBounds l (.loop { r with state:=.busy }) }
    have hbr:(Instr.beginRound l).run P w2=.ok () w3:=by
     simp [Instr.beginRound,Instr.getLoop,getObj,setObj,Sem.run,hl2,r,w3]
    refine ⟨w3,hbr,?_⟩
    refine wpIn_mono (ihy false ⟨[],true⟩ (some l) m1 w1 cb _ _ _ a2 w3 (fun hh=>by cases hh) k5 hw0.2 (g1.mem (Step.putO g1.sub g2)) g3) fun ex a4 w4 hp4=>?_
    cases ex with
    | normal =>
     obtain ⟨e4,m4,q1,q2,q3⟩:=hp4
     have hl4:w4.heap[l]? = some (.loop { r with state:=.busy }):=q1.sub _ _ q2
     let w5:World:={ w4 with heap:=w4.heap.setIfInBounds l (.loop r) }
     refine ⟨.bool true,w5,?_,m4.set l (.loop r),q1.step.trans (Step.putO q1.sub q2),q3⟩
     simp [Instr.endRound,Instr.getLoop,getObj,setObj,Sem.run,hl4,r,w5]
    | exit j=>obtain ⟨_,_,_,q⟩:=hp4;exact q.elim
    | goto j=>obtain ⟨_,_,_,q⟩:=hp4;exact q.elim
    | ret=>obtain ⟨_,_,_,q⟩:=hp4;exact q.elim
    | panic ch=>obtain ⟨_,_,_,q⟩:=hp4;exact q.elim
    | outgrown=>obtain ⟨_,_,_,q⟩:=hp4;exact q.elim
   | exit j=>obtain ⟨_,_,_,q⟩:=hp;exact q.elim
   | goto j=>obtain ⟨_,_,_,q⟩:=hp;exact q.elim
   | ret=>obtain ⟨_,_,_,q⟩:=hp;exact q.elim
   | panic ch=>obtain ⟨_,_,_,q⟩:=hp;exact q.elim
   | outgrown=>obtain ⟨_,_,_,q⟩:=hp;exact q.elim
  obtain ⟨R,hc,hk⟩:=hw l r hml rfl rfl hyb
  have hres:(resolve a.eval (rangeCall g' l) 0).run P wb=.ok { target:=.fn (.func f) caps,args:=first++#[.func (.yield l) #[] #[]] } wb:=by
   have hm:(#[Operand.const (Value.func (Fn.yield l) #[] #[])]:Array Operand).map a.eval=#[.func (.yield l) #[] #[]]:=by simp [Act.eval]
   simp only [resolve,rangeCall,hev,Deferred.ofValue,Sem.run_bind,Sem.run_pure,Result.andThen_ok,hm]
  refine ⟨l,[q9d r0],wb,_,wb,f,_,wb,henter,hres,fun f' _=>trivial,(by
   simp only [invoke]
   exact v1y hc.1 _),(fun hh=>by cases hh),?_⟩
  have harr:(first++#[.func (.yield l) #[] #[]]++caps:Array Value)=⟨first.toList++[.func (.yield l) #[] #[]]++caps.toList⟩:=by apply Array.ext';simp
  rw [harr]
  refine v4e (ro:=none) ((hc.2 wb sb.sub).mono fun e' w' he=>?_)
  obtain ⟨m',hs',hr⟩:=he
  have hk':=hk e' m' hr
  have hr0:wb.heap[r0]? = some (.deferred (some [])):=by
   show (wa.heap.push _)[r0]? = _
   rw [push_getElem? wa _ r0 (by rw [sza];show w.heap.size<w.heap.size+1;omega)]
   show (w.heap.push _)[w.heap.size]? = _
   simp
  have hr0lt:r0<wb.heap.size:=(Array.getElem?_eq_some_iff.1 hr0).1
  have hm0:(m.set l (.loop r)) r0=none:=by rw [Mem.set_other _ _ (by show w.heap.size≠w.heap.size+1;omega)];exact h.sub.none (Nat.le_refl _)
  obtain ⟨g1,g2⟩:=hs'.keep r0 hr0lt hm0
  have hdel:Mem.le (m'.del l) m':=fun b o hb=>by
   unfold Mem.del at hb
   by_cases eb:b=l
   ·rw [if_pos eb] at hb;cases hb
   ·rw [if_neg eb] at hb;exact hb
  have hstep:Step m w (m'.del l) w':=by
   have s1:=sb.trans hs'
   refine ⟨fun b o hb=>s1.sub b o (hdel b o hb),s1.size,fun b hb hm=>?_,s1.tape,s1.os,s1.out⟩
   obtain ⟨q1,q2⟩:=s1.keep b hb hm
   refine ⟨?_,q2⟩
   cases hd:m'.del l b with
   | none=>rfl
   | some o=>rw [hdel b o hd] at q1;cases q1
  have defs:∀ (w2:World),(∀ b,b≠l→w2.heap[b]? = w'.heap[b]?)→q3m D0 (m'.del l) w0 ([q9d r0]++a.defers) w2:=fun w2 hw2=>by
   obtain ⟨rs,d1,d2,_,d3⟩:=h.defers
   refine ⟨r0 :: rs,by rw [d1];rfl,List.nodup_cons.2 ⟨fun hh=>?_,d2⟩,(fun hh=>by rw [hnm] at hh;cases hh),fun q hq=>?_⟩
   ·have:=(Array.getElem?_eq_some_iff.1 (d3 r0 hh).1).1
    exact absurd this (by show ¬ w.heap.size<w.heap.size;omega)
   ·rcases List.mem_cons.1 hq with rfl | hq
    ·refine ⟨?_,?_,h.step.size⟩
     ·rw [hw2 _ (by show w.heap.size≠w.heap.size+1;omega),g2,hr0]
     ·cases hd:m'.del l r0 with
      | none=>rfl
      | some o=>rw [hdel _ o hd] at g1;cases g1
    ·obtain ⟨q1,q2,q3⟩:=d3 q hq
     have hlt:=(Array.getElem?_eq_some_iff.1 q1).1
     obtain ⟨q4,q5⟩:=hstep.keep q hlt q2
     exact ⟨by rw [hw2 q (by show q≠w.heap.size+1;omega),q5,q1],q4,q3⟩
  have hrel2:∀ (w2:World),Step m w (m'.del l) w2→(∀ b,b≠l→w2.heap[b]? = w'.heap[b]?)→Rel D0 m0 w0 N e (m'.del l) { a with defers:=[q9d r0]++a.defers } w2:=fun w2 hs2 hw2=>by
   have h2:=h.mem hs2
   exact ⟨h2.size,defs w2 hw2,h2.step,h2.val,h2.var,h2.inj,h2.ref,h2.refi⟩
  cases e' with
  | outgrown=>exact hk'.elim
  | panicked ch=>exact ⟨m'.del l,h.step.trans hstep,defs w' (fun _ _=>rfl),hk'⟩
  | returned v =>
   obtain ⟨⟨r',q1,q2,q3⟩,q4⟩:=hk'
   have hl:w'.heap[l]? = some (.loop r'):=hs'.sub _ _ q1
   let w2:World:={ w' with heap:=w'.heap.setIfInBounds l (.loop { r' with state:=.exhausted }) }
   refine ⟨none,w2,?_,?_⟩
   ·have hb:(r'.state==.busy)=false:=by rw [q2];rfl
    simp only [Instr.endLoop,Instr.getLoop,Sem.run_bind]
    simp [getObj,setObj,Sem.run,hl,hb,q3,w2]
    intro hh;rw [q2] at hh;cases hh
   ·have hw2:∀ b,b≠l→w2.heap[b]? = w'.heap[b]?:=fun b hb=>by
     show (w'.heap.setIfInBounds l _)[b]? = _
     rw [Array.getElem?_setIfInBounds_ne (Ne.symm hb)]
    refine ⟨e,m'.del l,hrel2 w2 ?_ hw2,q4⟩
    refine ⟨fun b o hb=>?_,by simpa [w2] using hstep.size,fun b hb hm=>?_,hstep.tape,hstep.os,hstep.out⟩
    ·have hbl:b≠l:=fun hh=>by subst hh;simp [Mem.del] at hb
     rw [hw2 b hbl];exact hstep.sub b o hb
    ·obtain ⟨q5,q6⟩:=hstep.keep b hb hm
     exact ⟨q5,by rw [hw2 b (by show b≠w.heap.size+1;omega)];exact q6⟩
end Go.Vx
namespace Go.Vx
open Go
variable {P:Program} {D0:q3k} {ro:Option Nat} {m0:Mem} {w0:World} {N:Nat}

def z8y (P:Program) (r:ResultVar) (x:Res):Bool :=
 match r,x with
 | .tmp t,.t n=>Nat.beq t n
 | .cell a T,.c k n agg=>Nat.beq a k&&q4h P T agg n
 | .cell a T,.h k n agg=>Nat.beq a k&&q4h P T agg n
 | _,_=>false
def q9i (P:Program):List ResultVar→List Res→Bool
 | [],[]=>true
 | r :: rs,x :: xs=>z8y P r x&&q9i P rs xs
 | _,_=>false
def z0x (tmps:Array Value):ResultVar→Sem Value
 | .tmp t=>pure (tmps.getD t undef)
 | .cell a t=>do loadVar t (← asAddr (tmps.getD a undef))
theorem k6m {e:Env} {m:Mem} {a:Act} {w:World} (h:Rel D0 m0 w0 N e m a w) {r:ResultVar} {x:Res} {v:Value} (hok:z8y P r x=true) (hv:x.at m e=some v) :
  (z0x a.tmps r).run P w=.ok v w:=by
 unfold z8y at hok
 unfold z0x
 split at hok<;>first | (cases hok;done) | skip
 ·rename_i t n
  obtain rfl:=q0n hok
  simp only [Res.at] at hv
  split at hv<;>first | (cases hv;done) | skip
  rename_i u hu
  cases hv
  simp only [Sem.run_pure,h.val _ _ hu]
 ·rename_i a' T k n agg
  rw [Bool.and_eq_true] at hok
  obtain rfl:=q0n hok.1
  simp only [Res.at] at hv
  split at hv<;>first | (cases hv;done) | skip
  rename_i cs hcs
  obtain ⟨b,U,g1,g2,g3,g4⟩:=h.var _ cs hcs
  have hcell:∀ j v,cs[j]? = some v→w.cell? ((⟨b,0,none⟩:Addr).add j)=some v:=fun j v hj=>by
   have:(⟨b,0,none⟩:Addr).add j=⟨b,j,none⟩:=by unfold Addr.add;split<;>simp_all
   rw [this];simp [World.cell?,g2,hj]
  obtain ⟨d,i,hd,hi,hk,hn⟩:=q8z hok.2
  cases agg with
  | true =>
   simp only at hv
   cases hb:Nat.ble n cs.length with
   | false=>rw [hb] at hv;cases hv
   | true =>
    rw [hb] at hv;simp only [cond_true,Option.some.injEq] at hv
    subst hv
    have hl:(cs.take n).length=n:=by have:=Nat.le_of_ble_eq_true hb;simp;omega
    have hc2:∀ j v,(cs.take n)[j]? = some v→w.cell? ((⟨b,0,none⟩:Addr).add j)=some v:=fun j v hj=>hcell j v (by
     have:j<n:=by have:=(List.getElem?_eq_some_iff.1 hj).1;omega
     rw [List.getElem?_take,if_pos this] at hj;exact hj)
    have:=run_loadCells_list (P:=P) w ⟨b,0,none⟩ (cs.take n) hc2
    rw [hl] at this
    simp only [g1,asAddr,Sem.run_bind,Sem.run_pure,Result.andThen_ok,loadVar,q8t hd,hk,if_true,q3u hi,hn,this]
  | false =>
   simp only at hv
   split at hv<;>first | (cases hv;done) | skip
   rename_i v' r
   cases hv
   have:=hcell 0 v rfl
   have h0:(⟨b,0,none⟩:Addr).add 0=⟨b,0,none⟩:=rfl
   rw [h0] at this
   simp only [g1,asAddr,Sem.run_bind,Sem.run_pure,Result.andThen_ok,loadVar,q8t hd,hk,Bool.false_eq_true,if_false,run_load,this]
 ·rename_i a' T k n agg
  rw [Bool.and_eq_true] at hok
  obtain rfl:=q0n hok.1
  simp only [Res.at] at hv
  split at hv<;>first | (cases hv;done) | skip
  rename_i ad hk0
  have g1:=h.val _ _ hk0
  unfold v5p at hv
  split at hv<;>first | (cases hv;done) | skip
  rename_i c U fr hmc
  split at hv<;>first | (cases hv;done) | skip
  rename_i hsp
  have hwc:=h.sub _ _ hmc
  obtain ⟨b,off,sp⟩:=ad
  simp only at hsp hwc hv
  subst hsp
  have hcell:∀ j v,(c.toList.drop off)[j]? = some v→w.cell? ((⟨b,off,none⟩:Addr).add j)=some v:=fun j v hj=>by
   have:(⟨b,off,none⟩:Addr).add j=⟨b,off+j,none⟩:=by unfold Addr.add;split<;>simp_all
   rw [List.getElem?_drop,Array.getElem?_toList] at hj
   rw [this];simp [World.cell?,hwc,hj]
  obtain ⟨d,i,hd,hi,hkk,hn⟩:=q8z hok.2
  cases agg with
  | true =>
   simp only at hv
   cases hb:Nat.ble (off+n) c.toList.length with
   | false=>rw [hb] at hv;cases hv
   | true =>
    rw [hb] at hv;simp only [cond_true,Option.some.injEq] at hv
    subst hv
    have hl:((c.toList.drop off).take n).length=n:=by have:=Nat.le_of_ble_eq_true hb;simp at this ⊢;omega
    have hc2:∀ j v,((c.toList.drop off).take n)[j]? = some v→w.cell? ((⟨b,off,none⟩:Addr).add j)=some v:=fun j v hj=>hcell j v (by
     have:j<n:=by have:=(List.getElem?_eq_some_iff.1 hj).1;omega
     rw [List.getElem?_take,if_pos this] at hj;exact hj)
    have:=run_loadCells_list (P:=P) w ⟨b,off,none⟩ ((c.toList.drop off).take n) hc2
    rw [hl] at this
    simp only [g1,asAddr,Sem.run_bind,Sem.run_pure,Result.andThen_ok,loadVar,q8t hd,hkk,if_true,q3u hi,hn,this]
  | false =>
   simp only at hv
   split at hv<;>first | (cases hv;done) | skip
   rename_i v' r hdr
   cases hv
   have:=hcell 0 v (by rw [hdr];rfl)
   have h0:(⟨b,off,none⟩:Addr).add 0=⟨b,off,none⟩:=rfl
   rw [h0] at this
   simp only [g1,asAddr,Sem.run_bind,Sem.run_pure,Result.andThen_ok,loadVar,q8t hd,hkk,Bool.false_eq_true,if_false,run_load,this]
theorem j9t {e:Env} {m:Mem} {a:Act} {w:World} (h:Rel D0 m0 w0 N e m a w):∀ {rs:List ResultVar} {xs:List Res} {vs:List Value},q9i P rs xs=true→q5h m e xs=some vs →
  (rs.mapM (z0x a.tmps)).run P w=.ok vs w:=by
 intro rs
 induction rs with
 | nil =>
  intro xs vs hok hv
  cases xs with
  | nil=>simp only [q5h,Option.some.injEq] at hv;subst hv;rfl
  | cons x xs=>simp [q9i] at hok
 | cons r rs ih =>
  intro xs vs hok hv
  cases xs with
  | nil=>simp [q9i] at hok
  | cons x xs =>
   simp only [q9i,Bool.and_eq_true] at hok
   simp only [q5h] at hv
   split at hv<;>first | (cases hv;done) | skip
   rename_i v hx
   split at hv<;>first | (cases hv;done) | skip
   rename_i us hus
   cases hv
   rw [List.mapM_cons,Sem.run_bind,k6m h hok.1 hx,Result.andThen_ok,Sem.run_bind,ih hok.2 hus,Result.andThen_ok,Sem.run_pure]
theorem w0b {fn:Func} {e:Env} {m:Mem} {a:Act} {w:World} (h:Rel D0 m0 w0 N e m a w) {xs:List Res} {vs:List Value} (hok:q9i P fn.results.toList xs=true) (hv:q5h m e xs=some vs):(results fn a.tmps).run P w=.ok (q8h vs) w:=by
 have h2:fn.results.mapM (z0x a.tmps)=(List.toArray <$> fn.results.toList.mapM (z0x a.tmps)):=by rw [Array.mapM_eq_mapM_toList]
 have h3:results fn a.tmps=(fn.results.mapM (z0x a.tmps) >>= fun vs=>pure (if h:vs.size=1 then vs[0] else .tuple vs)):=by
  unfold results
  congr 1
 rw [h3,h2,Sem.run_bind,Sem.run_map,j9t h hok hv,Result.andThen_ok,Result.andThen_ok,Sem.run_pure]
 congr 1
 cases vs with
 | nil=>rfl
 | cons v vs =>
  cases vs with
  | nil=>rfl
  | cons u us =>
   rw [dif_neg (by simp)]
   rfl
def okFn (P:Program) (fn:Func) (F:Fn):Bool :=
 Nat.beq F.nt fn.ntmps && (match fn.body with | some c => okIR P F.nt true c F.body | none => false) && F.body.okW && q9i P fn.results.toList F.res && !(fn.name == "runtime.NumGoroutine")
structure Off (rs:List Nat) (w w':World):Prop where
 heap:∀ b,b∉rs→w'.heap[b]? = w.heap[b]?
 size:w'.heap.size=w.heap.size
 tape:w'.tape=w.tape
 os:w'.os=w.os
 out:w'.output=w.output
theorem v2v {fn:Func} {tmps:Array Value} {R:Ending→World→Prop} {u:FrameMode} (hu:u≠.run) {D:List Deferred}:∀ (rs:List Nat) (w:World),rs.Nodup→(∀ r∈rs,w.heap[r]? = some (.deferred (some []))) →
  (∀ w',Off rs w w'→LeavesInM Fence.wide 0 P fn tmps R D u w')→LeavesInM Fence.wide 0 P fn tmps R (rs.map q9d++D) u w:=by
 intro rs
 induction rs with
 | nil=>intro w _ _ h;exact h w ⟨fun _ _=>rfl,rfl,rfl,rfl,rfl⟩
 | cons r rs ih =>
  intro w hn hr h
  let w1:World:={ w with heap:=w.heap.setIfInBounds r (.deferred none) }
  have hr0:=hr r (by simp)
  refine ⟨hu,.inl ⟨r,w1,rfl,?_,?_⟩⟩
  ·simp [Instr.takeDeferred,getObj,setObj,Sem.run,hr0,w1]
  ·have h1:∀ b,b≠r→w1.heap[b]? = w.heap[b]?:=fun b hb=>by
    show (w.heap.setIfInBounds r _)[b]? = _
    rw [Array.getElem?_setIfInBounds_ne (Ne.symm hb)]
   refine ih w1 (List.nodup_cons.1 hn).2 (fun q hq=>?_) fun w' hw'=>h w' ⟨fun b hb=>?_,?_,hw'.tape,hw'.os,hw'.out⟩
   ·have hne:q≠r:=fun hh=>by subst hh;exact (List.nodup_cons.1 hn).1 hq
    rw [h1 q hne];exact hr q (by simp [hq])
   ·have hb1:b≠r:=fun hh=>hb (by simp [hh])
    have hb2:b∉rs:=fun hh=>hb (by simp [hh])
    rw [hw'.heap b hb2,h1 b hb1]
   ·rw [hw'.size];simp [w1]
theorem Step.off {m m':Mem} {w w' w'':World} {rs:List Nat} (h:Step m w m' w') (hr:∀ r∈rs,m' r=none∧w.heap.size≤r) (k:Off rs w' w''):Step m w m' w'' :=
 ⟨fun b o hb=>by rw [k.heap b (fun hh=>by have:=(hr b hh).1;rw [hb] at this;cases this)];exact h.sub b o hb,by rw [k.size];exact h.size,fun b hb hm=>by
  obtain ⟨h1,h2⟩:=h.keep b hb hm
  exact ⟨h1,by rw [k.heap b (fun hh=>by have:=(hr b hh).2;omega)];exact h2⟩,k.tape.trans h.tape,k.os.trans h.os,k.out.trans h.out⟩
theorem Rel.off {e:Env} {m:Mem} {a:Act} {w w':World} (h:Rel D0 m0 w0 N e m a w) {rs:List Nat} (hd:a.defers=rs.map q9d++D0.ds) (hr:∀ r∈rs,w.heap[r]? = some (.deferred (some []))∧m r=none∧w0.heap.size≤r) (k:Off rs w w') :
  Rel D0 m0 w0 N e m { a with defers:=D0.ds } w':=by
 refine ⟨h.size,q3m.nil _ _ _ _,h.step.off (fun r hh=>(hr r hh).2) k,h.val,fun t cs ht=>?_,h.inj,h.ref,h.refi⟩
 obtain ⟨b,T,g1,g2,g3,g4⟩:=h.var t cs ht
 refine ⟨b,T,g1,?_,g3,g4⟩
 rw [k.heap b (fun hh=>by have:=(hr b hh).1;rw [g2] at this;cases this)];exact g2
theorem k7c {F:Fn} {fn:Func} {args:List Value} {m:Mem} {w:World} (hsub:Sub m w) (hnt:F.nt=fn.ntmps) (hle:args.length≤F.nt) :
  Rel D0 m w F.nt (q5p args) m { tmps:=(⟨args⟩:Array Value)++Array.replicate (fn.ntmps - (⟨args⟩:Array Value).size) undef,defers:=D0.ds } w:=by
 have hv:∀ t u,q5p args t=some u→∃ v,u=.val v∧args[t]? = some v:=fun t u ht=>by
  unfold q5p at ht
  split at ht<;>first | (cases ht;done) | skip
  rename_i v hv
  cases ht;exact ⟨v,rfl,hv⟩
 refine ⟨?_,q3m.nil _ _ _ _,Step.refl hsub,fun t v ht=>?_,fun t cs ht=>?_,fun t t' cs cs' ht=>?_,fun t k off cs ht=>?_,fun t k off i cs ht=>?_⟩
 ·simp;omega
 ·obtain ⟨v',hv',hg⟩:=hv t _ ht
  cases hv'
  rw [Array.getD_eq_getD_getElem?]
  have hlt:=(List.getElem?_eq_some_iff.1 hg).1
  rw [Array.getElem?_append_left (by simpa using hlt)]
  have:(⟨args⟩:Array Value)[t]? = args[t]?:=by simp
  rw [this,hg];rfl
 ·obtain ⟨_,hh,_⟩:=hv t _ ht;cases hh
 ·obtain ⟨_,hh,_⟩:=hv t _ ht;cases hh
 ·obtain ⟨_,hh,_⟩:=hv t _ ht;cases hh
 ·obtain ⟨_,hh,_⟩:=hv t _ ht;cases hh
theorem z7x {m m' m'':Mem} {w w':World} (h:Step m w m' w') (hle:Mem.le m'' m'):Step m w m'' w' :=
 ⟨fun b o hb=>h.sub b o (hle b o hb),h.size,(fun b hb hmb=>by
  obtain ⟨g1,g2⟩:=h.keep b hb hmb
  refine ⟨?_,g2⟩
  cases hm:m'' b with
  | none=>rfl
  | some o=>rw [hle b o hm] at g1;cases g1),h.tape,h.os,h.out⟩
theorem q0e {f:Nat} {fn:Func} {F:Fn} {args:List Value} {m:Mem} {R:Ending→Mem→Prop} (hmix:P.follows .mixedOrders=true) (hf:P.funcs[f]? = some fn) (hok:okFn P fn F=true) (hn:Nat.ble args.length F.nt=true)
  (h:F.asks P args m R):q0f P f args m R:=by
 simp only [okFn,Bool.and_eq_true,Bool.not_eq_true'] at hok
 obtain ⟨⟨⟨⟨h1,h2⟩,h3⟩,h4⟩,h5⟩:=hok
 split at h2<;>first | (cases h2;done) | skip
 rename_i c hb
 have hnt:=q0n h1
 refine ⟨by unfold z2i;simp only [hf,hb,h5,Option.isSome_some,Bool.not_false,Bool.and_true],fun w hsub=>?_⟩
 refine callsIn_wide.1 (callsIn_of_wp_marks (F:=Fence.wide) (n:=0) hf hb trivial ?_)
 have hrel:=k7c (D0:=⟨[],false⟩) hsub hnt (Nat.le_of_ble_eq_true hn)
 refine wpIn_mono (w0h hmix F.body true ⟨[],false⟩ none m w c _ _ m _ w (fun _=>⟨rfl,rfl⟩) h2 h3 hrel h) fun ex a' w' hp=>?_
 have fin:∀ e' m',Rel ⟨[],false⟩ m w F.nt e' m' a' w'→(match q5h m' e' F.res with | some vs=>WRet m' R (.returned (q8h vs)) | none=>False) →
   LeavesInM Fence.wide 0 P fn a'.tmps (fun e w'=>∃ m',Step m w m' w'∧R e m') a'.defers .returning w':=fun e' m' hrel hr=>by
  split at hr<;>first | exact hr.elim | skip
  rename_i vs hvs
  unfold WRet at hr
  obtain ⟨m'',hle,hR⟩:=hr
  obtain ⟨rs,d1,d2,_,d3⟩:=hrel.defers
  rw [d1]
  refine v2v (by simp) rs w' d2 (fun r hh=>(d3 r hh).1) fun w'' hoff=>?_
  have hrel2:=hrel.off d1 d3 hoff
  exact ⟨_,w0b hrel2 h4 hvs,m'',z7x hrel2.step hle,hR⟩
 cases ex with
 | normal=>obtain ⟨e',m',g1,g2⟩:=hp;exact fin e' m' g1 g2
 | ret=>obtain ⟨e',m',g1,g2⟩:=hp;exact fin e' m' g1 g2
 | exit j=>obtain ⟨e',m',g1,g2⟩:=hp;exact g2.elim
 | goto j=>obtain ⟨e',m',g1,g2⟩:=hp;exact g2.elim
 | outgrown=>obtain ⟨e',m',g1,g2⟩:=hp;exact g2.elim
 | panic ch =>
  obtain ⟨m',g1,g2,g3⟩:=hp
  simp only [q0i] at g3
  unfold WRet at g3
  obtain ⟨m'',hle,hR⟩:=g3
  obtain ⟨rs,d1,d2,_,d3⟩:=g2
  show LeavesInM Fence.wide 0 P fn a'.tmps _ a'.defers (.panicking ch) w'
  rw [d1]
  exact v2v (by simp) rs w' d2 (fun r hh=>(d3 r hh).1) fun w'' hoff=>⟨m'',z7x (g1.off (fun r hh=>(d3 r hh).2) hoff) hle,hR⟩
end Go.Vx
