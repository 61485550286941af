import Derived.Test.YtleofbpepfmfgaaGreatDoorVxOpen64
set_option linter.unusedSimpArgs false
set_option linter.unusedVariables false
set_option maxRecDepth 100000
namespace Go.Proofs.YtleofbpepfmfgaaGreatDoor
open Go Go.Vx
open Go.Vx.IOp Go.Vx.IR Go.Vx.Opd
def maxW (a b:List Nat):List Nat:=List.zipWith max a b
def q2p (S:WS×List Nat) (p:Nat×List Nat):WS×List Nat :=
 match S.1[p.1]? with
 | some (some w)=>if maxW w p.2=w then S else (S.1.set p.1 (some (maxW w p.2)),S.2++[p.1])
 | _=>(S.1.set p.1 (some p.2),S.2++[p.1])
theorem q9o {a b:List Nat} (hl:a.length=b.length) (r:Nat):(maxW a b).getD r 0=max (a.getD r 0) (b.getD r 0):=by
 unfold maxW
 rw [List.getD_eq_getElem?_getD,List.getD_eq_getElem?_getD,List.getD_eq_getElem?_getD,List.getElem?_zipWith]
 by_cases h:r<a.length
 ·rw [List.getElem?_eq_getElem h,List.getElem?_eq_getElem (by omega)];rfl
 ·rw [List.getElem?_eq_none (by omega),List.getElem?_eq_none (by omega)];rfl
theorem z4q {a b:List Nat} (hl:a.length=b.length):(maxW a b).length=a.length:=by unfold maxW;rw [List.length_zipWith];omega
def q5z (w:List Nat):Nat:=(w.map (8 - ·)).sum
def phi1 (rg:Nat):Option (List Nat)→Nat | none=>8 * rg+1 | some w=>q5z w
def phi (rg:Nat) (A:WS):Nat:=(A.map (phi1 rg)).sum
theorem v5o {n:Nat}:∀ {w:List Nat},w.length=n→q5z w≤8 * n:=by
 induction n with
 | zero=>intro w h;rw [List.length_eq_zero_iff] at h;subst h;exact Nat.le_refl _
 | succ n ih =>
  intro w h
  cases w with
  | nil=>cases h
  | cons x w =>
   have:=ih (w:=w) (by simpa using h)
   simp only [q5z,List.map_cons,List.sum_cons] at this ⊢
   omega
theorem v8z:∀ {a b:List Nat},a.length=b.length→(∀ x∈b,x≤8)→maxW a b≠a→q5z (maxW a b)+1≤q5z a:=by
 have key:∀ {a b:List Nat},a.length=b.length→(∀ x∈b,x≤8)→q5z (maxW a b)≤q5z a∧(maxW a b≠a→q5z (maxW a b)+1≤q5z a):=by
  intro a
  induction a with
  | nil=>intro b _ _;exact ⟨Nat.le_refl _,fun h=>absurd rfl h⟩
  | cons x a ih =>
   intro b hl hb
   cases b with
   | nil=>cases hl
   | cons y b =>
    obtain ⟨i1,i2⟩:=ih (b:=b) (by simpa using hl) (fun z hz=>hb z (List.mem_cons_of_mem _ hz))
    have hy:=hb y (by simp)
    have e:maxW (x :: a) (y :: b)=max x y :: maxW a b:=rfl
    rw [e]
    simp only [q5z,List.map_cons,List.sum_cons] at i1 i2 ⊢
    refine ⟨by omega,fun h=>?_⟩
    by_cases hxy:max x y=x
    ·have:maxW a b≠a:=fun hh=>h (by rw [hxy,hh])
     have:=i2 this
     omega
    ·omega
 exact fun {a b} hl hb=>(key hl hb).2
theorem v6l {f:Option (List Nat)→Nat}:∀ {A:WS} {k:Nat} {x:Option (List Nat)} (h:k<A.length),((A.set k x).map f).sum+f A[k]=(A.map f).sum+f x
 | [],k,x,h=>by cases h
 | y :: A,0,x,h=>by simp;omega
 | y :: A,k+1,x,h=>by
  have:=v6l (f:=f) (A:=A) (k:=k) (x:=x) (by simpa using h)
  simp only [List.set_cons_succ,List.map_cons,List.sum_cons,List.getElem_cons_succ]
  omega
theorem v6r {C:q0c} {M:Mac} {k:Nat} {ct:Int}:∀ {L:List OpR} {w:List Nat},w.length=C.rg.toNat→∀ p∈q2l C M k ct L w,p.2.length=C.rg.toNat
 | [],w,h,p,hp=>by
  rw [q2l,List.mem_singleton] at hp
  subst hp;show (decW w).length=_;rw [z5s];exact h
 | o :: L,w,h,p,hp=>by
  have hs:(q3e M w o).length=C.rg.toNat:=by rw [z3l];exact h
  rw [q2l,List.mem_append,List.mem_append] at hp
  rcases hp with hp | hp | hp
  ·split at hp
   ·rw [List.mem_singleton] at hp;subst hp;show (decW _).length=_;rw [z5s];exact hs
   ·cases hp
  ·split at hp
   ·rw [List.mem_singleton] at hp;subst hp;simp [q3q]
   ·cases hp
  ·split at hp
   ·cases hp
   ·exact v6r hs p hp
theorem v4z {C:q0c} {M:Mac} (hd:∀ o,dlS M o≤8) {k:Nat} {ct:Int}:∀ {L:List OpR} {w:List Nat},(∀ x∈w,x≤8)→∀ p∈q2l C M k ct L w,∀ x∈p.2,x≤8
 | [],w,h,p,hp,x,hx=>by
  rw [q2l,List.mem_singleton] at hp
  subst hp
  obtain ⟨y,hy,e⟩:=List.mem_map.1 hx
  have:=h y hy;omega
 | o :: L,w,h,p,hp,x,hx=>by
  have hs:∀ x∈q3e M w o,x≤8:=by
   intro x hx
   unfold q3e at hx
   split at hx
   ·rename_i d _
    rcases List.mem_or_eq_of_mem_set hx with h1 | h1
    ·exact h x h1
    ·rw [h1]
     have g1:=hd o
     have g2:w.getD d 0≤8:=by
      rw [List.getD_eq_getElem?_getD]
      cases hh:w[d]? with
      | none=>exact Nat.zero_le _
      | some y=>exact h y (List.mem_of_getElem? hh)
     omega
   ·exact h x hx
  rw [q2l,List.mem_append,List.mem_append] at hp
  rcases hp with hp | hp | hp
  ·split at hp
   ·rw [List.mem_singleton] at hp;subst hp
    obtain ⟨y,hy,e⟩:=List.mem_map.1 hx
    have:=hs y hy;omega
   ·cases hp
  ·split at hp
   ·rw [List.mem_singleton] at hp;subst hp
    have hx:x∈List.replicate C.rg.toNat 0:=hx
    rw [List.mem_replicate] at hx;omega
   ·cases hp
  ·split at hp
   ·cases hp
   ·exact v4z hd hs p hp x hx
structure OkW (C:q0c) (A:WS):Prop where
 len:A.length=C.ws.length
 wl:∀ (k:Nat) (w:List Nat),A[k]? = some (some w)→w.length=C.rg.toNat
 ub:∀ (k:Nat) (w:List Nat),A[k]? = some (some w)→∀ x∈w,x≤8
structure OkP (C:q0c) (p:Nat×List Nat):Prop where
 lt:p.1<C.ws.length
 wl:p.2.length=C.rg.toNat
 ub:∀ x∈p.2,x≤8
structure q6q (A:WS) (W:List Nat) (A':WS) (W':List Nat):Prop where
 up:∀ (j:Nat) (w:List Nat),A[j]? = some (some w)→∃ w':List Nat,A'[j]? = some (some w')∧leW w w'∧(w'=w∨j∈W')
 sub:∀ j∈W,j∈W'
 new:∀ (j:Nat) (w':List Nat),A'[j]? = some (some w')→(∃ w:List Nat,A[j]? = some (some w))∨j∈W'
 wk:∀ j∈W',j∈W∨∃ w':List Nat,A'[j]? = some (some w')
theorem q6q.refl (A:WS) (W:List Nat):q6q A W A W:=⟨fun j w h=>⟨w,h,leW.refl _,.inl rfl⟩,fun _ h=>h,fun j w h=>.inl ⟨w,h⟩,fun j h=>.inl h⟩
theorem q6q.trans {A A1 A2:WS} {W W1 W2:List Nat} (h:q6q A W A1 W1) (k:q6q A1 W1 A2 W2):q6q A W A2 W2 :=
 ⟨fun j w hj=>by
  obtain ⟨w1,a1,a2,a3⟩:=h.up j w hj
  obtain ⟨w2,b1,b2,b3⟩:=k.up j w1 a1
  refine ⟨w2,b1,a2.trans b2,?_⟩
  rcases b3 with b3 | b3
  ·rcases a3 with a3 | a3
   ·exact .inl (b3.trans a3)
   ·exact .inr (k.sub j a3)
  ·exact .inr b3,fun j hj=>k.sub j (h.sub j hj),fun j w' hj=>by
  rcases k.new j w' hj with ⟨w,h1⟩ | h1
  ·rcases h.new j w h1 with h2 | h2
   ·exact .inl h2
   ·exact .inr (k.sub j h2)
  ·exact .inr h1,fun j hj=>by
  rcases k.wk j hj with h1 | h1
  ·rcases h.wk j h1 with h2 | ⟨w,h2⟩
   ·exact .inl h2
   ·obtain ⟨w2,b1,_,_⟩:=k.up j w h2
    exact .inr ⟨w2,b1⟩
  ·exact .inr h1⟩
theorem q4g {A:WS} {k j:Nat} {x:Option (List Nat)} (hk:k<A.length):(A.set k x)[j]? = if k=j then some x else A[j]?:=by
 rw [List.getElem?_set];split
 ·rename_i e;subst e;first | rfl | rw [if_pos hk]
 ·rfl
theorem k4r {C:q0c} {A:WS} {W:List Nat} {p:Nat×List Nat} (hA:OkW C A) (hp:OkP C p) :
  OkW C (q2p (A,W) p).1∧q6q A W (q2p (A,W) p).1 (q2p (A,W) p).2∧(∃ w':List Nat,(q2p (A,W) p).1[p.1]? = some (some w')∧leW p.2 w') ∧
   2 * phi C.rg.toNat (q2p (A,W) p).1+(q2p (A,W) p).2.length≤2 * phi C.rg.toNat A+W.length ∧
   ∀ B:WS,(∃ w':List Nat,B[p.1]? = some (some w')∧leW p.2 w')→(∀ (k:Nat) (w:List Nat),A[k]? = some (some w)→∃ w':List Nat,B[k]? = some (some w')∧leW w w')→∀ (k:Nat) (w:List Nat),(q2p (A,W) p).1[k]? = some (some w)→∃ w',B[k]? = some (some w')∧leW w w':=by
 have hk:p.1<A.length:=by rw [hA.len];exact hp.lt
 -- what a new entry gives
 have put:∀ (w:List Nat),w.length=C.rg.toNat→(∀ x∈w,x≤8)→leW p.2 w→(∀ v,A[p.1]? = some (some v)→leW v w)→(phi1 C.rg.toNat (some w)+1≤phi1 C.rg.toNat A[p.1]) →
   (∀ B:WS,(∃ w':List Nat,B[p.1]? = some (some w')∧leW p.2 w')→(∀ (k:Nat) (w:List Nat),A[k]? = some (some w)→∃ w':List Nat,B[k]? = some (some w')∧leW w w')→∃ w':List Nat,B[p.1]? = some (some w')∧leW w w') →
   OkW C (A.set p.1 (some w))∧q6q A W (A.set p.1 (some w)) (W++[p.1])∧(∃ w':List Nat,(A.set p.1 (some w))[p.1]? = some (some w')∧leW p.2 w') ∧
   2 * phi C.rg.toNat (A.set p.1 (some w))+(W++[p.1]).length≤2 * phi C.rg.toNat A+W.length ∧
   ∀ B:WS,(∃ w':List Nat,B[p.1]? = some (some w')∧leW p.2 w')→(∀ (k:Nat) (w:List Nat),A[k]? = some (some w)→∃ w':List Nat,B[k]? = some (some w')∧leW w w')→∀ (k:Nat) (v:List Nat),(A.set p.1 (some w))[k]? = some (some v)→∃ w',B[k]? = some (some w')∧leW v w':=by
  intro w h1 h2 h3 h4 h5 h6
  refine ⟨⟨by simp [hA.len],fun k v hv=>?_,fun k v hv=>?_⟩,⟨fun j v hj=>?_,fun j hj=>List.mem_append.2 (.inl hj),fun j v hj=>?_,fun j hj=>?_⟩,⟨w,by rw [q4g hk,if_pos rfl],h3⟩,?_,fun B b1 b2 k v hv=>?_⟩
  ·rw [q4g hk] at hv
   split at hv
   ·cases hv;exact h1
   ·exact hA.wl k v hv
  ·rw [q4g hk] at hv
   split at hv
   ·cases hv;exact h2
   ·exact hA.ub k v hv
  ·by_cases e:p.1=j
   ·subst e;exact ⟨w,by rw [q4g hk,if_pos rfl],h4 v hj,.inr (List.mem_append.2 (.inr (List.mem_singleton.2 rfl)))⟩
   ·exact ⟨v,by rw [q4g hk,if_neg e];exact hj,leW.refl _,.inl rfl⟩
  ·by_cases e:p.1=j
   ·subst e;exact .inr (List.mem_append.2 (.inr (List.mem_singleton.2 rfl)))
   ·rw [q4g hk,if_neg e] at hj;exact .inl ⟨v,hj⟩
  ·rcases List.mem_append.1 hj with h | h
   ·exact .inl h
   ·rw [List.mem_singleton] at h;subst h;exact .inr ⟨w,by rw [q4g hk,if_pos rfl]⟩
  ·have:=v6l (f:=phi1 C.rg.toNat) (x:=some w) hk
   unfold phi
   rw [List.length_append,List.length_singleton]
   omega
  ·rw [q4g hk] at hv
   split at hv
   ·rename_i e;subst e;cases hv;exact h6 B b1 b2
   ·exact b2 k v hv
 unfold q2p
 simp only
 cases hg:A[p.1]? with
 | none=>rw [List.getElem?_eq_getElem hk] at hg;cases hg
 | some x =>
  have hx:A[p.1]=x:=by rw [List.getElem?_eq_getElem hk] at hg;exact Option.some.inj hg
  cases x with
  | none =>
   simp only
   refine put p.2 hp.wl hp.ub (leW.refl _) (fun v hv=>by rw [hg] at hv;cases hv) ?_ (fun B b1 b2=>b1)
   rw [hx]
   show q5z p.2+1≤8 * C.rg.toNat+1
   have:=v5o hp.wl
   omega
  | some w =>
   simp only
   have hwl:=hA.wl _ _ hg
   have hl:w.length=p.2.length:=by rw [hwl,hp.wl]
   split
   ·rename_i e
    refine ⟨hA,q6q.refl _ _,⟨w,hg,fun r=>?_⟩,Nat.le_refl _,fun B b1 b2=>b2⟩
    have:=q9o hl r
    rw [e] at this;omega
   ·rename_i e
    refine put (maxW w p.2) (by rw [z4q hl];exact hwl) (fun x hx=>?_) (fun r=>by rw [q9o hl];omega) (fun v hv=>?_) ?_ (fun B b1 b2=>?_)
    ·obtain ⟨r,hr,rfl⟩:=List.getElem_of_mem hx
     have h2:=q9o hl r
     rw [List.getD_eq_getElem?_getD,List.getElem?_eq_getElem hr,Option.getD_some] at h2
     rw [z4q hl] at hr
     rw [h2,List.getD_eq_getElem?_getD,List.getElem?_eq_getElem hr,List.getD_eq_getElem?_getD,List.getElem?_eq_getElem (by omega)]
     have g1:=hA.ub _ _ hg _ (List.getElem_mem hr)
     have g2:=hp.ub _ (List.getElem_mem (l:=p.2) (n:=r) (by omega))
     simp only [Option.getD_some];omega
    ·rw [hg] at hv;cases hv
     intro r;rw [q9o hl];omega
    ·rw [hx]
     exact v8z hl hp.ub e
    ·obtain ⟨v,v1,v2⟩:=b1
     obtain ⟨u,u1,u2⟩:=b2 _ _ hg
     rw [v1] at u1;cases u1
     exact ⟨v,v1,fun r=>by rw [q9o hl];have:=v2 r;have:=u2 r;omega⟩
theorem z8h {C:q0c}:∀ {P:List (Nat×List Nat)} {A:WS} {W:List Nat},OkW C A→(∀ p∈P,OkP C p) →
  OkW C (P.foldl q2p (A,W)).1∧q6q A W (P.foldl q2p (A,W)).1 (P.foldl q2p (A,W)).2∧(∀ p∈P,∃ w':List Nat,(P.foldl q2p (A,W)).1[p.1]? = some (some w')∧leW p.2 w') ∧
   2 * phi C.rg.toNat (P.foldl q2p (A,W)).1+(P.foldl q2p (A,W)).2.length≤2 * phi C.rg.toNat A+W.length ∧
   ∀ B:WS,(∀ p∈P,∃ w':List Nat,B[p.1]? = some (some w')∧leW p.2 w')→(∀ (k:Nat) (w:List Nat),A[k]? = some (some w)→∃ w':List Nat,B[k]? = some (some w')∧leW w w')→∀ (k:Nat) (w:List Nat),(P.foldl q2p (A,W)).1[k]? = some (some w)→∃ w',B[k]? = some (some w')∧leW w w'
 | [],A,W,hA,_=>⟨hA,q6q.refl _ _,fun p h=>by (cases h),Nat.le_refl _,fun B _ b=>b⟩
 | p :: P,A,W,hA,hP=>by
  obtain ⟨a1,a2,a3,a4,a5⟩:=k4r (W:=W) hA (hP p (by simp))
  rw [List.foldl_cons]
  generalize q2p (A,W) p=S at *
  obtain ⟨A1,W1⟩:=S
  simp only at a1 a2 a3 a4 a5
  obtain ⟨b1,b2,b3,b4,b5⟩:=z8h (P:=P) (A:=A1) (W:=W1) a1 (fun q hq=>hP q (List.mem_cons_of_mem _ hq))
  refine ⟨b1,a2.trans b2,fun q hq=>?_,by omega,fun B c1 c2=>b5 B (fun q hq=>c1 q (List.mem_cons_of_mem _ hq)) (a5 B (c1 p (by simp)) c2)⟩
  rcases List.mem_cons.1 hq with e | e
  ·subst e
   obtain ⟨w',g1,g2⟩:=a3
   obtain ⟨w2,h1,h2,_⟩:=b2.up _ _ g1
   exact ⟨w2,h1,g2.trans h2⟩
  ·exact b3 q e
structure InvW (C:q0c) (M:Mac) (A:WS) (W:List Nat):Prop where
 ok:OkW C A
 zero:∃ w:List Nat,A[0]? = some (some w)
 wk:∀ k∈W,∃ w:List Nat,A[k]? = some (some w)
 go:∀ (k:Nat) (w:List Nat),A[k]? = some (some w)→k∉W→∀ p∈q2l C M k (q1b C k).ct (q1b C k).ops w,∃ w':List Nat,A[p.1]? = some (some w')∧leW p.2 w'
 le:∀ B:WS,IsW C M B→∀ (k:Nat) (w:List Nat),A[k]? = some (some w)→∃ w':List Nat,B[k]? = some (some w')∧leW w w'
theorem InvW.least {C:q0c} {M:Mac} {A:WS} (h:InvW C M A []):z0h C M A :=
 ⟨⟨h.ok.len,h.ok.wl,h.zero,fun k w hk p hp=>h.go k w hk (by simp) p hp⟩,h.le⟩
theorem v1t {C:q0c} {M:Mac} (hC:q3h C) (hd:∀ o,dlS M o≤8) {A:WS} (hA:OkW C A) {k:Nat} {w:List Nat} (hk:A[k]? = some (some w)):∀ p∈q2l C M k (q1b C k).ct (q1b C k).ops w,OkP C p:=fun p hp =>
 have hk2:k<C.ws.length:=by rw [← hA.len];exact (List.getElem?_eq_some_iff.1 hk).1
 ⟨w2j hC hk2 hp,v6r (hA.wl k w hk) p hp,v4z hd (hA.ub k w hk) p hp⟩
theorem k0f {C:q0c} {M:Mac} (hC:q3h C) (hd:∀ o,dlS M o≤8) {A:WS} {W R:List Nat} {k:Nat} {w:List Nat} (h:InvW C M A W) (hk:A[k]? = some (some w)) (hR:∀ x∈W,x=k∨x∈R) (hR2:∀ x∈R,x∈W) :
  InvW C M ((q2l C M k (q1b C k).ct (q1b C k).ops w).foldl q2p (A,R)).1 ((q2l C M k (q1b C k).ct (q1b C k).ops w).foldl q2p (A,R)).2 ∧
   2 * phi C.rg.toNat ((q2l C M k (q1b C k).ct (q1b C k).ops w).foldl q2p (A,R)).1+((q2l C M k (q1b C k).ct (q1b C k).ops w).foldl q2p (A,R)).2.length≤2 * phi C.rg.toNat A+R.length:=by
 obtain ⟨a1,a2,a3,a4,a5⟩:=z8h (W:=R) h.ok (v1t hC hd h.ok hk)
 generalize hS:(q2l C M k (q1b C k).ct (q1b C k).ops w).foldl q2p (A,R)=S at *
 obtain ⟨A',W'⟩:=S
 simp only at a1 a2 a3 a4 a5 ⊢
 refine ⟨⟨a1,?_,fun j hj=>?_,fun j v hj hn p hp=>?_,fun B hB=>a5 B (fun p hp=>?_) (h.le B hB)⟩,a4⟩
 ·obtain ⟨v,hv⟩:=h.zero
  obtain ⟨v',g,_⟩:=a2.up 0 v hv
  exact ⟨v',g⟩
 ·rcases a2.wk j hj with g | g
  ·obtain ⟨v,hv⟩:=h.wk j (hR2 j g)
   obtain ⟨v',g,_⟩:=a2.up j v hv
   exact ⟨v',g⟩
  ·exact g
 ·rcases a2.new j v hj with ⟨u,hu⟩ | g
  ·obtain ⟨u',g1,g2,g3⟩:=a2.up j u hu
   rw [hj] at g1;cases g1
   rcases g3 with g3 | g3
   ·subst g3
    by_cases e:j=k
    ·subst e
     rw [hk] at hu;cases hu
     exact a3 p hp
    ·have hjW:j∉W:=fun hw=>by
      rcases hR j hw with e2 | e2
      ·exact e e2
      ·exact hn (a2.sub j e2)
     obtain ⟨v',v1,v2⟩:=h.go j v hu hjW p hp
     obtain ⟨v2',x1,x2,_⟩:=a2.up _ _ v1
     exact ⟨v2',x1,v2.trans x2⟩
   ·exact absurd g3 hn
  ·exact absurd g hn
 ·obtain ⟨w',g1,g2⟩:=h.le B hB k w hk
  have hl:w.length=w'.length:=by rw [h.ok.wl k w hk,hB.wl k w' g1]
  obtain ⟨p',q1,q2,q3⟩:=v6n (fun o=>Nat.le_refl (dlS M o)) hl g2 p hp
  obtain ⟨u,u1,u2⟩:=hB.go k w' g1 p' q1
  exact ⟨u,by rw [← q2];exact u1,q3.trans u2⟩
theorem k4z {C:q0c} {M:Mac} (hC:q3h C):InvW C M ((List.replicate C.ws.length none).set 0 (some (q3q C))) [0]:=by
 have h0:0<(List.replicate C.ws.length (none:Option (List Nat))).length:=by simp;exact hC.wl.1
 have get:∀ k w,((List.replicate C.ws.length (none:Option (List Nat))).set 0 (some (q3q C)))[k]? = some (some w)→k=0∧w=q3q C:=fun k w h=>by
  rw [q4g h0] at h
  split at h
  ·rename_i e;exact ⟨e.symm,(Option.some.inj (Option.some.inj h)).symm⟩
  ·rw [List.getElem?_replicate] at h
   split at h<;>cases h
 refine ⟨⟨by simp,fun k w h=>?_,fun k w h x hx=>?_⟩,⟨q3q C,by rw [q4g h0,if_pos rfl]⟩,fun k hk=>?_,fun k w h hn=>?_,fun B hB k w h=>?_⟩
 ·rw [(get k w h).2];simp [q3q]
 ·rw [(get k w h).2] at hx
  have hx:x∈List.replicate C.rg.toNat 0:=hx
  rw [List.mem_replicate] at hx;omega
 ·rw [List.mem_singleton] at hk;subst hk;exact ⟨q3q C,by rw [q4g h0,if_pos rfl]⟩
 ·exact absurd (List.mem_singleton.2 (get k w h).1) hn
 ·obtain ⟨rfl,rfl⟩:=get k w h
  obtain ⟨w',g⟩:=hB.zero
  exact ⟨w',g,fun r=>by rw [k3k];exact Nat.zero_le _⟩
theorem k2q {k:Int} (h1:1≤k) (h2:k≤25):(IntKind.i64.wrap (BitVec.ofInt IntKind.i64.bits (useT k) &&& BitVec.ofInt IntKind.i64.bits 1).toNat != 0)=uD k:=by
 rcases q4x h1 h2 with rfl|rfl|rfl|rfl|rfl|rfl|rfl|rfl|rfl|rfl|rfl|rfl|rfl|rfl|rfl|rfl|rfl|rfl|rfl|rfl|rfl|rfl|rfl|rfl|rfl<;>rfl
theorem k5w {m:Mem} {T:Nat} {fr:Nat×Nat} (hm:m 0=some (.cells ⟨q2f⟩ T fr)) (o:OpR) (hk:1≤o.kd∧o.kd≤25) :
  q0m Tryz.prog 110 [o.val] m (i (if uD o.kd=true then o.ds else -1)):=by
 refine q0e q0d Tryz.func110 k8d rfl ?_
 conv=>whnf
 refine q0a.pure (z2p hm o.kd) ?_
 rw [if_pos hk,decide_eq_true hk]
 conv=>whnf
 rw [k2q hk.1 hk.2]
 refine Br.mk (fun hb=>?_) (fun hb=>?_)
 ·rw [if_pos hb]
  exact WRet.same ⟨rfl,rfl⟩
 ·rw [if_neg (by rw [hb];decide)]
  exact WRet.same ⟨rfl,rfl⟩
theorem v5g {m:Mem} {T:Nat} {fr:Nat×Nat} (hm:m 0=some (.cells ⟨q2f⟩ T fr)) (o:OpR) (hk:1≤o.kd∧o.kd≤28) :
  q0m Tryz.prog 77 [o.val] m (i (if uD o.kd=true then o.ds else -1)):=by
 refine q0e q0d Tryz.func77 w4r rfl ?_
 refine Br.mk (fun hb=>?_) (fun hb=>?_)
 ·have hb':o.kd≥26:=of_decide_eq_true hb
  have h:o.kd=26∨o.kd=27∨o.kd=28:=by omega
  have hu:uD o.kd=false:=by rcases h with h | h | h<;>rw [h]<;>rfl
  rw [if_neg (by rw [hu];decide)]
  exact WRet.same ⟨rfl,rfl⟩
 ·have hb':¬ o.kd≥26:=of_decide_eq_false hb
  conv=>whnf
  refine q0a.pure (k5w hm o ⟨hk.1,by omega⟩) ?_
  exact WRet.same ⟨rfl,rfl⟩
theorem v2c (m:Mem) (o:OpR):q0m Tryz.prog 138 [o.val] m (.bool (q4v o)):=by
 refine q0e q0d Tryz.func138 w2p rfl ?_
 have key:∀ z:Bool,(o.kd==14||o.kd==15||o.kd==16||o.kd==17||o.kd==20||o.kd==21||o.kd==22||o.kd==27||o.kd==28)=z→q4v o=(z||o.gd != -1):=fun z h=>by unfold q4v;rw [h]
 repeat' (conv=>whnf
          first
          | (refine Br.mk (fun hh=>?_) (fun hh=>?_)<;>try (cases hh;done))
          | (exact WRet.same ⟨by first | (rw [key true (by simp_all)];rfl) | (rw [key false (by simp_all)];rfl),rfl⟩))
abbrev v8 (n:Nat):Value:=.int .i8 n
def R8 (m:Mem) (b:Nat) (w:List Nat):Prop:=∃ rest,m b=some (Cells (w.map v8++rest) 117)
theorem R8.mono {m m':Mem} {b:Nat} {w:List Nat} (h:R8 m b w) (hle:Mem.le m m'):R8 m' b w:=by obtain ⟨r,h⟩:=h;exact ⟨r,hle _ _ h⟩
theorem R8.cells {m:Mem} {b:Nat} {w:List Nat} (h:R8 m b w):q0g m ⟨b,0,none⟩ (w.map v8):=by
 obtain ⟨r,h⟩:=h
 exact q0g.blk h fun j v hj=>by rw [Nat.zero_add,List.getElem?_append_left (List.getElem?_eq_some_iff.1 hj).1];exact hj
theorem R8.cell {m:Mem} {b:Nat} {w:List Nat} (h:R8 m b w) {k:Nat} (hk:k<w.length):q0q m ((⟨b,0,none⟩:Addr).add k) (v8 (w.getD k 0)) :=
 h.cells k _ (by rw [List.getElem?_map,List.getD_eq_getElem?_getD,List.getElem?_eq_getElem hk];rfl)
theorem z8x {m:Mem} {b c:Nat} {w:List Nat} (hv:R8 m b w) (hlen:w.length≤4398046511104) :
  q0f Tryz.prog 75 [.slice (some ⟨b,0,none⟩) w.length c] m fun e m'=>∃ b' c',e=.returned (.slice (some ⟨b',0,none⟩) w.length c')∧Mem.le m m'∧R8 m' b' w∧m b'=none:=by
 refine q0e q0d Tryz.func75 j7a rfl ?_
 refine Br.mk (fun hb=>by cases hb) (fun hb=>?_)
 refine WNew.mk fun b1 hb1=>?_
 refine WApp.copyB hb1 (A:=some ⟨b,0,none⟩) (n:=w.length) rfl rfl (w.map v8) ⟨by simp,fun ad' ha=>by cases ha;exact hv.cells⟩ (fun ha=>by cases ha) (by omega) fun b' cb m1 rest hle1 hcb hbm hcells=>?_
 exact WRet.same ⟨b',cb,rfl,hle1,⟨rest,hcells⟩,hbm⟩
theorem z2b (k:Int):0≤(q2j k).1∧(q2j k).1<4:=by
 unfold q2j
 split
 ·exact ⟨by decide,by decide⟩
 split
 ·exact ⟨by decide,by decide⟩
 split
 ·exact ⟨by decide,by decide⟩
 split<;>exact ⟨by decide,by decide⟩
theorem z4k {M:Mac} (h:M.ok=true) {q:Nat} (hq:q<4):1≤M.lat q∧M.lat q≤8:=by
 have key:M.row q=true→1≤M.lat q∧M.lat q≤8:=fun h=>by
  unfold Mac.row inR at h
  simp only [Bool.and_eq_true,decide_eq_true_eq] at h
  omega
 unfold Mac.ok at h
 simp only [Bool.and_eq_true] at h
 have hq5:q=0∨q=1∨q=2∨q=3:=by omega
 rcases hq5 with rfl | rfl | rfl | rfl
 ·exact key h.1.1.1.1
 ·exact key h.1.1.1.2
 ·exact key h.1.1.2
 ·exact key h.1.2
theorem z7o {M:Mac} (h:M.ok=true) (o:OpR):1≤dlS M o∧dlS M o≤8:=by
 have hc:=z2b o.kd
 have:=z4k h (q:=(q2j o.kd).1.toNat) (by omega)
 unfold dlS;omega
theorem v6b {m:Mem} {T:Nat} {fr:Nat×Nat} (hm:m 0=some (.cells ⟨q2f⟩ T fr)) {p U:Nat} {V:CV} {C:q0c} {M:Mac} {tl:List Value} (hp:m p=some (Cells (V.cells C++M.cells++tl) U)) (hM:M.ok=true) (o:OpR) :
  q0m Tryz.prog 78 [ptr p,o.val] m (v8 (dlS M o)):=by
 refine q0e q0d Tryz.func78 w1l rfl ?_
 have hc:=z2b o.kd
 obtain ⟨q,hq,hq4⟩:∃ q:Nat,(q2j o.kd).1=q∧q<4:=⟨(q2j o.kd).1.toNat,by omega,by omega⟩
 conv=>whnf
 refine q0a.pure (z9d hm o.kd) ?_
 unfold q7y
 rw [hq]
 refine WBnd.mk ⟨by omega,by omega⟩ ?_
 refine WLd.mk (i (M.lat q)) ?_ ?_
 ·rw [add0,addo,addo]
  refine ⟨_,_,_,hp,rfl,?_⟩
  have hq5:q=0∨q=1∨q=2∨q=3:=by omega
  rcases hq5 with rfl | rfl | rfl | rfl<;>rfl
 conv=>whnf
 have hl:1≤M.lat q∧M.lat q≤8:=z4k hM hq4
 have hd:(dlS M o:Int)=M.lat q:=by unfold dlS;rw [hq,Int.toNat_natCast];omega
 refine WRet.same ⟨?_,rfl⟩
 show Ending.returned (.int .i8 (IntKind.i8.wrap (M.lat q)))=.returned (.int .i8 (dlS M o))
 rw [hd]
 have:∀ z:Int,1≤z→z≤8→IntKind.i8.wrap z=z:=fun z h1 h2=>by
  have:z=1∨z=2∨z=3∨z=4∨z=5∨z=6∨z=7∨z=8:=by omega
  rcases this with rfl | rfl | rfl | rfl | rfl | rfl | rfl | rfl<;>rfl
 rw [this _ hl.1 hl.2]
abbrev TW:Nat:=116
abbrev TR:Nat:=113
def Keep (F:Nat→Prop) (m m':Mem):Prop:=∀ b o,m b=some o→¬ F b→m' b=some o
theorem Keep.refl (F:Nat→Prop) (m:Mem):Keep F m m:=fun _ _ h _=>h
theorem Keep.of_le {F:Nat→Prop} {m m':Mem} (h:Mem.le m m'):Keep F m m':=fun b o hb _=>h b o hb
theorem Keep.trans' {F G:Nat→Prop} {m m1 m2:Mem} (h:Keep F m m1) (k:Keep G m1 m2) (hG:∀ b,G b→F b∨m b=none):Keep F m m2:=fun b o hb hn=>k b o (h b o hb hn) fun hg=>by
 rcases hG b hg with h1 | h1
 ·exact hn h1
 ·rw [h1] at hb;cases hb
theorem Keep.set {F:Nat→Prop} {m m':Mem} {b:Nat} {o:Obj} (h:Keep F m m') (hb:F b∨m b=none):Keep F m (m'.set b o):=fun x p hx hn=>by
 by_cases e:x=b
 ·subst e
  rcases hb with hb | hb
  ·exact absurd hb hn
  ·rw [hb] at hx;cases hx
 ·rw [Mem.set_other _ _ e];exact h x p hx hn
theorem Keep.le {F:Nat→Prop} {m0 m m':Mem} (h:Keep F m m') (hle:Mem.le m0 m) (hF:∀ b,F b→m0 b=none):Mem.le m0 m':=fun b o hb=>h b o (hle b o hb) fun hf=>by rw [hF b hf] at hb;cases hb
theorem q5a {m:Mem} {a b:Nat} {x y:List Value} {T U:TypeId} (ha:m a=some (Cells x T)) (hb:m b=some (Cells y U)) (hT:T≠U):a≠b:=fun e=>by
 subst e;rw [ha] at hb;injection hb with hb;injection hb with _ h2;exact hT h2
theorem q3y {m:Mem} {a b:Nat} {o:Obj} (ha:m a=some o) (hb:m b=none):a≠b:=fun e=>by subst e;rw [ha] at hb;cases hb
structure Wt where
 p:Nat
 ba:Nat
 rb:Nat→Nat
 rc:Nat→Nat
 aw:Option Addr
 cw:Nat
 A:WS
 L:List Nat
def Wt.rowV (S:Wt) (k:Nat):Option (List Nat)→Value
 | none=>ns
 | some w=>.slice (some ⟨S.rb k,0,none⟩) w.length (S.rc k)
def Wt.foot (S:Wt) (b:Nat):Prop:=b=S.p∨b=S.ba∨(∃ (k:Nat) (w:List Nat),S.A[k]? = some (some w)∧b=S.rb k)∨S.aw=some ⟨b,0,none⟩
def Wt.cells (S:Wt) (V:CV) (C:q0c) (M:Mac):List Value:=V.cells C++M.cells++[.slice (some ⟨S.ba,0,none⟩) S.A.length S.A.length,.slice S.aw S.L.length S.cw]
abbrev numL (L:List Nat):List Value:=L.map fun n:Nat=>i n
structure WtAt (m:Mem) (V:CV) (C:q0c) (M:Mac) (S:Wt):Prop where
 hp:m S.p=some (Cells (S.cells V C M) TW)
 ha:∃ rows,m S.ba=some (Cells rows TR)∧rows.length=S.A.length∧∀ (k:Nat) (x:Option (List Nat)),S.A[k]? = some x→rows[k]? = some (S.rowV k x)
 row:∀ (k:Nat) (w:List Nat),S.A[k]? = some (some w)→R8 m (S.rb k) w
 inj:∀ (j k:Nat) (v w:List Nat),S.A[j]? = some (some v)→S.A[k]? = some (some w)→S.rb j=S.rb k→j=k
 wk:(S.aw=none∧S.L=[]∧S.cw=0)∨∃ b rest,S.aw=some ⟨b,0,none⟩∧m b=some (Cells (numL S.L++rest) 3)∧S.L.length+rest.length=S.cw
section
variable {m m':Mem} {V:CV} {C:q0c} {M:Mac} {S:Wt}
theorem WtAt.live (h:WtAt m V C M S) {b:Nat} (hb:S.foot b):∃ o,m b=some o:=by
 rcases hb with hb | hb | ⟨k,w,hk,hb⟩ | hb
 ·subst hb;exact ⟨_,h.hp⟩
 ·subst hb;obtain ⟨rows,hr,_⟩:=h.ha;exact ⟨_,hr⟩
 ·subst hb;obtain ⟨r,hr⟩:=h.row k w hk;exact ⟨_,hr⟩
 ·rcases h.wk with ⟨e,_⟩ | ⟨b',rest,e,hm,_⟩
  ·rw [e] at hb;cases hb
  ·rw [e] at hb;cases hb;exact ⟨_,hm⟩
theorem WtAt.notfree (h:WtAt m V C M S) {b:Nat} (hb:m b=none):¬ S.foot b:=fun hf=>by
 obtain ⟨o,ho⟩:=h.live hf
 rw [hb] at ho;cases ho
theorem WtAt.same (h:WtAt m V C M S) (hk:∀ b o,S.foot b→m b=some o→m' b=some o):WtAt m' V C M S where
 hp:=hk _ _ (.inl rfl) h.hp
 ha:=by
  obtain ⟨rows,h1,h2⟩:=h.ha
  exact ⟨rows,hk _ _ (.inr (.inl rfl)) h1,h2⟩
 row:=fun k w hkw=>by
  obtain ⟨r,hr⟩:=h.row k w hkw
  exact ⟨r,hk _ _ (.inr (.inr (.inl ⟨k,w,hkw,rfl⟩))) hr⟩
 inj:=h.inj
 wk:=by
  rcases h.wk with e | ⟨b,rest,e,hm,hl⟩
  ·exact .inl e
  ·exact .inr ⟨b,rest,e,hk _ _ (.inr (.inr (.inr e))) hm,hl⟩
theorem WtAt.mono (h:WtAt m V C M S) (hle:Mem.le m m'):WtAt m' V C M S:=h.same fun b o _ hb=>hle b o hb
theorem WtAt.setRow (h:WtAt m V C M S) {k:Nat} {w w':List Nat} {rest:List Value} (hk:S.A[k]? = some (some w)) (hl:w'.length=w.length) :
  WtAt (m.set (S.rb k) (Cells (w'.map v8++rest) 117)) V C M { S with A:=S.A.set k (some w') }:=by
 have hkl:k<S.A.length:=(List.getElem?_eq_some_iff.1 hk).1
 obtain ⟨r0,hr0⟩:=h.row k w hk
 have get:∀ (j:Nat) (x:Option (List Nat)),(S.A.set k (some w'))[j]? = some x→(j=k∧x=some w')∨(j≠k∧S.A[j]? = some x):=fun j x hj=>by
  rw [q4g hkl] at hj
  split at hj
  ·rename_i e;cases hj;exact .inl ⟨e.symm,rfl⟩
  ·rename_i e;exact .inr ⟨fun h=>e h.symm,hj⟩
 have back:∀ (j:Nat) (v:List Nat),(S.A.set k (some w'))[j]? = some (some v)→∃ v':List Nat,S.A[j]? = some (some v'):=fun j v hj=>by
  rcases get j _ hj with ⟨rfl,_⟩ | ⟨_,hj⟩
  ·exact ⟨w,hk⟩
  ·exact ⟨v,hj⟩
 refine ⟨?_,?_,?_,?_,?_⟩
 ·rw [Mem.set_other _ _ (q5a h.hp hr0 (by decide))]
  have:=h.hp
  unfold Wt.cells at this ⊢
  simp only [List.length_set]
  exact this
 ·obtain ⟨rows,h1,h2,h3⟩:=h.ha
  refine ⟨rows,?_,by simpa using h2,fun j x hj=>?_⟩
  ·rw [Mem.set_other _ _ (q5a h1 hr0 (by decide))];exact h1
  ·rcases get j _ hj with ⟨rfl,rfl⟩ | ⟨_,hj⟩
   ·rw [h3 j _ hk];show some (Value.slice _ w.length _)=some (Value.slice _ w'.length _);rw [hl]
   ·exact h3 j x hj
 ·intro j v hj
  rcases get j _ hj with ⟨rfl,e⟩ | ⟨hne,hj⟩
  ·cases e;exact ⟨rest,Mem.set_same _ _ _⟩
  ·obtain ⟨r,hr⟩:=h.row j v hj
   refine ⟨r,?_⟩
   rw [Mem.set_other _ _ (fun e=>hne (h.inj j k v w hj hk e))];exact hr
 ·intro j1 j2 v1 v2 h1 h2 e
  obtain ⟨u1,g1⟩:=back j1 v1 h1
  obtain ⟨u2,g2⟩:=back j2 v2 h2
  exact h.inj j1 j2 u1 u2 g1 g2 e
 ·rcases h.wk with e | ⟨b,rest,e,hm,hl⟩
  ·exact .inl e
  ·refine .inr ⟨b,rest,e,?_,hl⟩
   rw [Mem.set_other _ _ (q5a hm hr0 (by decide))];exact hm
theorem Wt.foot_setRow {k:Nat} {w w':List Nat} (hk:S.A[k]? = some (some w)) {b:Nat} (hb:({ S with A:=S.A.set k (some w') }:Wt).foot b):S.foot b:=by
 have hkl:k<S.A.length:=(List.getElem?_eq_some_iff.1 hk).1
 rcases hb with hb | hb | ⟨j,v,hj,hb⟩ | hb
 ·exact .inl hb
 ·exact .inr (.inl hb)
 ·refine .inr (.inr (.inl ?_))
  have hj:(S.A.set k (some w'))[j]? = some (some v):=hj
  rw [q4g hkl] at hj
  split at hj
  ·rename_i e;subst e;exact ⟨k,w,hk,hb⟩
  ·exact ⟨j,v,hj,hb⟩
 ·exact .inr (.inr (.inr hb))
def Wt.withRow (S:Wt) (k b c:Nat) (w:List Nat):Wt:={ S with A:=S.A.set k (some w),rb:=fun j=>if j=k then b else S.rb j,rc:=fun j=>if j=k then c else S.rc j }
theorem WtAt.newRow (h:WtAt m V C M S) {k b c:Nat} {w:List Nat} {rest:List Value} (hk:S.A[k]? = some none) (hb:m b=none) {rows:List Value} (hrows:m S.ba=some (Cells rows TR)) :
  WtAt ((m.set b (Cells (w.map v8++rest) 117)).set S.ba (Cells (rows.set k (.slice (some ⟨b,0,none⟩) w.length c)) TR)) V C M (S.withRow k b c w):=by
 have hkl:k<S.A.length:=(List.getElem?_eq_some_iff.1 hk).1
 have nb:∀ {x:Nat} {o:Obj},m x=some o→x≠b:=fun hx=>q3y hx hb
 have get:∀ (j:Nat) (x:Option (List Nat)),(S.A.set k (some w))[j]? = some x→(j=k∧x=some w)∨(j≠k∧S.A[j]? = some x):=fun j x hj=>by
  rw [q4g hkl] at hj
  split at hj
  ·rename_i e;cases hj;exact .inl ⟨e.symm,rfl⟩
  ·rename_i e;exact .inr ⟨fun h=>e h.symm,hj⟩
 have hbb:b≠S.ba:=fun e=>by rw [e,hrows] at hb;cases hb
 refine ⟨?_,?_,?_,?_,?_⟩
 ·show _=_
  rw [show (S.withRow k b c w).p=S.p from rfl,Mem.set_other _ _ (q5a h.hp hrows (by decide)),Mem.set_other _ _ (nb h.hp)]
  have:=h.hp
  unfold Wt.cells at this ⊢
  show _=some (Cells (V.cells C++M.cells++[.slice (some ⟨S.ba,0,none⟩) (S.A.set k (some w)).length (S.A.set k (some w)).length,.slice S.aw S.L.length S.cw]) TW)
  rw [List.length_set]
  exact this
 ·obtain ⟨rows',h1,h2,h3⟩:=h.ha
  rw [hrows] at h1
  injection h1 with h1;injection h1 with h1 _;injection h1 with h1
  subst h1
  refine ⟨_,Mem.set_same _ _ _,?_,fun j x hj=>?_⟩
  ·show _=(S.A.set k (some w)).length
   simp [h2]
  ·rcases get j _ hj with ⟨rfl,rfl⟩ | ⟨hne,hj⟩
   ·rw [List.getElem?_set,if_pos rfl,if_pos (by rw [h2];exact hkl)]
    show _=some (Value.slice (some ⟨if j=j then b else S.rb j,0,none⟩) w.length (if j=j then c else S.rc j))
    rw [if_pos rfl,if_pos rfl]
   ·rw [List.getElem?_set,if_neg (fun e=>hne e.symm),h3 j x hj]
    cases x with
    | none=>rfl
    | some v =>
     show some (Value.slice (some ⟨S.rb j,0,none⟩) v.length (S.rc j))=some (Value.slice (some ⟨if j=k then b else S.rb j,0,none⟩) v.length (if j=k then c else S.rc j))
     rw [if_neg hne,if_neg hne]
 ·intro j v hj
  show R8 _ (if j=k then b else S.rb j) v
  rcases get j _ hj with ⟨rfl,e⟩ | ⟨hne,hj⟩
  ·cases e
   rw [if_pos rfl]
   exact ⟨rest,by rw [Mem.set_other _ _ hbb,Mem.set_same]⟩
  ·rw [if_neg hne]
   obtain ⟨r,hr⟩:=h.row j v hj
   exact ⟨r,by rw [Mem.set_other _ _ (q5a hr hrows (by decide)),Mem.set_other _ _ (nb hr)];exact hr⟩
 ·intro j1 j2 v1 v2 h1 h2 e
  have e:(if j1=k then b else S.rb j1)=(if j2=k then b else S.rb j2):=e
  rcases get j1 _ h1 with ⟨e1,_⟩ | ⟨n1,g1⟩<;>rcases get j2 _ h2 with ⟨e2,_⟩ | ⟨n2,g2⟩
  ·rw [e1,e2]
  ·rw [if_pos e1,if_neg n2] at e
   obtain ⟨r,hr⟩:=h.row j2 v2 g2
   rw [← e,hb] at hr;cases hr
  ·rw [if_neg n1,if_pos e2] at e
   obtain ⟨r,hr⟩:=h.row j1 v1 g1
   rw [e,hb] at hr;cases hr
  ·rw [if_neg n1,if_neg n2] at e
   exact h.inj j1 j2 v1 v2 g1 g2 e
 ·rcases h.wk with e | ⟨b3,rest3,e,hm,hl⟩
  ·exact .inl e
  ·refine .inr ⟨b3,rest3,e,?_,hl⟩
   rw [Mem.set_other _ _ (q5a hm hrows (by decide)),Mem.set_other _ _ (nb hm)];exact hm
theorem Wt.foot_withRow {k b0 c:Nat} {w:List Nat} (hk:S.A[k]? = some none) {b:Nat} (hb:(S.withRow k b0 c w).foot b):S.foot b∨b=b0:=by
 have hkl:k<S.A.length:=(List.getElem?_eq_some_iff.1 hk).1
 rcases hb with hb | hb | ⟨j,v,hj,hb⟩ | hb
 ·exact .inl (.inl hb)
 ·exact .inl (.inr (.inl hb))
 ·have hj:(S.A.set k (some w))[j]? = some (some v):=hj
  have hb:b=if j=k then b0 else S.rb j:=hb
  rw [q4g hkl] at hj
  split at hj
  ·rename_i e;rw [if_pos e.symm] at hb;exact .inr hb
  ·rename_i e;rw [if_neg (fun h=>e h.symm)] at hb;exact .inl (.inr (.inr (.inl ⟨j,v,hj,hb⟩)))
 ·exact .inl (.inr (.inr (.inr hb)))
theorem WtAt.setWork (h:WtAt m V C M S) {L':List Nat} {aw':Option Addr} {cw':Nat} (hp:m' S.p=some (Cells (({ S with L:=L',aw:=aw',cw:=cw' }:Wt).cells V C M) TW))
  (hk:∀ b o,m b=some o→b≠S.p→S.aw≠some ⟨b,0,none⟩→m' b=some o) (hw:(aw'=none∧L'=[]∧cw'=0)∨∃ b rest,aw'=some ⟨b,0,none⟩∧m' b=some (Cells (numL L'++rest) 3)∧L'.length+rest.length=cw') :
  WtAt m' V C M { S with L:=L',aw:=aw',cw:=cw' } where
 hp:=hp
 ha:=by
  obtain ⟨rows,h1,h2⟩:=h.ha
  refine ⟨rows,hk _ _ h1 (q5a h1 h.hp (by decide)) (fun e=>?_),h2⟩
  rcases h.wk with ⟨e1,_⟩ | ⟨b,rest,e1,hm,_⟩
  ·rw [e1] at e;cases e
  ·rw [e1] at e;cases e;exact q5a h1 hm (by decide) rfl
 row:=fun k w hkw=>by
  obtain ⟨r,hr⟩:=h.row k w hkw
  refine ⟨r,hk _ _ hr (q5a hr h.hp (by decide)) (fun e=>?_)⟩
  rcases h.wk with ⟨e1,_⟩ | ⟨b,rest,e1,hm,_⟩
  ·rw [e1] at e;cases e
  ·rw [e1] at e;injection e with e;injection e with e;exact q5a hr hm (by decide) e.symm
 inj:=h.inj
 wk:=hw
theorem pushW (h:WtAt m V C M S) {bx x:Nat} {K:Value→Mem→Prop} (hx:m bx=some (Cells [i x] 3)) (hlen:(S.L.length+1) * 8≤35184372088832)
  (k:∀ b' c' rest m',m' b'=some (Cells (numL (S.L++[x])++rest) 3)→(S.L++[x]).length+rest.length=c'→(m b'=none∨S.aw=some ⟨b',0,none⟩)→(∀ b,b≠b'→m' b=m b)→K (.slice (some ⟨b',0,none⟩) (S.L.length+1) c') m') :
  WApp m 3 1 8 [i 0] S.aw S.L.length S.cw (some ⟨bx,0,none⟩) 1 K:=by
 have hnew:q2v m (some ⟨bx,0,none⟩) (1 * 1) [i (x:Int)]:=⟨rfl,fun ad had=>by cases had;exact q0g.blk hx fun j v hj=>by rw [Nat.zero_add];exact hj⟩
 have grow:(∀ ad,S.aw=some ad→q0g m ad (numL S.L))→(S.aw=none→S.L.length=0)→S.cw<S.L.length+1→WApp m 3 1 8 [i 0] S.aw S.L.length S.cw (some ⟨bx,0,none⟩) 1 K:=by
  intro h1 h2 hc
  refine WApp.grow _ hnew (fun h=>by cases h) hc hlen (numL S.L) ⟨by simp,h1⟩ h2 fun b2 c2 hb2 hc2=>?_
  refine k b2 c2 ((List.replicate (c2 - (S.L.length+1)) [i 0]).flatten) _ ?_ (by rw [z2z];simp;omega) (.inl hb2) fun b hb=>Mem.set_other _ _ hb
  rw [Mem.set_same]
  simp [numL]
 rcases h.wk with ⟨e1,e2,e3⟩ | ⟨b,rest,e1,hm,hl⟩
 ·exact grow (fun ad ha=>by rw [e1] at ha;cases ha) (fun _=>by rw [e2];rfl) (by rw [e3];omega)
 ·by_cases hcc:S.L.length+1≤S.cw
  ·rw [e1]
   obtain ⟨r0,rest',hr⟩:∃ r0 rest',rest=r0 :: rest':=by
    cases rest with
    | nil=>simp at hl;omega
    | cons a b=>exact ⟨a,b,rfl⟩
   subst hr
   refine WApp.in (ad:=⟨b,0,none⟩) _ hnew (fun h=>by cases h) _ _ hcc hm rfl (by simp) rfl ?_
   refine k b S.cw rest' _ ?_ (by simp at hl ⊢;omega) (.inr e1) fun b3 hb3=>Mem.set_other _ _ hb3
   rw [Mem.set_same]
   have e:q0j (numL S.L++r0 :: rest') (0+S.L.length * 1) [i (x:Int)]=numL (S.L++[x])++rest':=by
    rw [q5x _ _ _ (by simp),Nat.zero_add,Nat.mul_one]
    have:(numL S.L).length=S.L.length:=by simp
    rw [List.take_left' this,List.drop_append,this]
    simp [numL]
   rw [e]
  ·exact grow (fun ad ha=>by rw [e1] at ha;cases ha;exact q0g.blk hm fun j v hj=>by rw [Nat.zero_add,List.getElem?_append_left (List.getElem?_eq_some_iff.1 hj).1];exact hj) (fun h=>by rw [e1] at h;cases h) (by omega)
theorem z4s {w:List Nat} {rest:List Value} {r x:Nat} (h:r<w.length):q0j (w.map v8++rest) r [v8 x]=(w.set r x).map v8++rest:=by
 show (w.map v8++rest).set r _=_
 rw [List.set_append_left _ _ (by simpa using h),List.map_set]
end
def preW (w l:List Nat):Nat→List Nat
 | 0=>w
 | r+1=>(preW w l r).set r (max ((preW w l r).getD r 0) (l.getD r 0))
theorem q6s (w l:List Nat) (r:Nat):(preW w l r).length=w.length:=by induction r with | zero=>rfl | succ r ih=>rw [preW,List.length_set,ih]
theorem z2c (w l:List Nat):∀ (r j:Nat),(preW w l r).getD j 0=if j<r∧j<w.length then max (w.getD j 0) (l.getD j 0) else w.getD j 0
 | 0,j=>by rw [preW,if_neg (by omega)]
 | r+1,j=>by
  rw [preW,z3z,q6s]
  by_cases e:r=j∧r<w.length
  ·rw [if_pos e,z2c w l r r,if_neg (by omega),← e.1,if_pos (by omega)]
  ·rw [if_neg e,z2c w l r j]
   by_cases e2:j<r∧j<w.length
   ·rw [if_pos e2,if_pos (by omega)]
   ·rw [if_neg e2,if_neg (by omega)]
theorem w4y {w l:List Nat} (hl:w.length=l.length):preW w l l.length=maxW w l:=by
 apply List.ext_getElem (by rw [q6s,z4q hl])
 intro j h1 h2
 have e1:=z2c w l l.length j
 rw [q6s] at h1
 rw [if_pos (by omega),← q9o hl j,List.getD_eq_getElem?_getD,List.getD_eq_getElem?_getD,List.getElem?_eq_getElem (by rw [q6s];exact h1),List.getElem?_eq_getElem h2] at e1
 exact e1
theorem j7f {w l:List Nat} {r:Nat} (h:¬ l.getD r 0>(preW w l r).getD r 0):preW w l (r+1)=preW w l r:=by
 rw [preW,Nat.max_eq_left (by omega)]
 apply List.ext_getElem (by simp)
 intro j h1 h2
 rw [List.getElem_set]
 split
 ·rename_i e;subst e;rw [List.getD_eq_getElem?_getD,List.getElem?_eq_getElem h2];rfl
 ·rfl
theorem j0g {w l:List Nat} {r:Nat} (hr:r<w.length) (h:l.getD r 0>(preW w l r).getD r 0):preW w l (r+1)=(preW w l r).set r (l.getD r 0)∧preW w l (r+1)≠w:=by
 refine ⟨by rw [preW,Nat.max_eq_right (by omega)],fun e=>?_⟩
 have e1:=z2c w l (r+1) r
 have e2:=z2c w l r r
 rw [if_neg (by omega)] at e2
 rw [e,if_pos (by omega)] at e1
 omega
end Go.Proofs.YtleofbpepfmfgaaGreatDoor
