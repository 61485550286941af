import Derived.Test.YtleofbpepfmfgaaGreatDoorVxWrd4
set_option linter.unusedSimpArgs false
set_option linter.unusedVariables false
set_option maxRecDepth 100000
namespace Go.Proofs.YtleofbpepfmfgaaGreatDoor
open Go Go.Vx
open Go.Vx.IOp Go.Vx.IR Go.Vx.Opd
def maxW (a b:List Nat):List Nat:=List.zipWith max a b
def meetW (S:WS×List Nat) (p:Nat×List Nat):WS×List Nat :=
 match S.1[p.1]? with
 | some (some w)=>if maxW w p.2=w then S else (S.1.set p.1 (some (maxW w p.2)),S.2++[p.1])
 | _=>(S.1.set p.1 (some p.2),S.2++[p.1])
theorem max_get {a b:List Nat} (hl:a.length=b.length) (r:Nat):(maxW a b).getD r 0=max (a.getD r 0) (b.getD r 0):=by
 unfold maxW
 rw [List.getD_eq_getElem?_getD,List.getD_eq_getElem?_getD,List.getD_eq_getElem?_getD,List.getElem?_zipWith]
 by_cases h:r<a.length
 ·rw [List.getElem?_eq_getElem h,List.getElem?_eq_getElem (by omega)];rfl
 ·rw [List.getElem?_eq_none (by omega),List.getElem?_eq_none (by omega)];rfl
theorem max_len {a b:List Nat} (hl:a.length=b.length):(maxW a b).length=a.length:=by unfold maxW;rw [List.length_zipWith];omega
def slack (w:List Nat):Nat:=(w.map (8 - ·)).sum
def phi1 (rg:Nat):Option (List Nat)→Nat | none=>8 * rg+1 | some w=>slack w
def phi (rg:Nat) (A:WS):Nat:=(A.map (phi1 rg)).sum
theorem slack_le {n:Nat}:∀ {w:List Nat},w.length=n→slack w≤8 * n:=by
 induction n with
 | zero=>intro w h;rw [List.length_eq_zero_iff] at h;subst h;exact Nat.le_refl _
 | succ n ih =>
  intro w h
  cases w with
  | nil=>cases h
  | cons x w =>
   have:=ih (w:=w) (by simpa using h)
   simp only [slack,List.map_cons,List.sum_cons] at this ⊢
   omega
theorem slack_max:∀ {a b:List Nat},a.length=b.length→(∀ x∈b,x≤8)→maxW a b≠a→slack (maxW a b)+1≤slack a:=by
 have key:∀ {a b:List Nat},a.length=b.length→(∀ x∈b,x≤8)→slack (maxW a b)≤slack a∧(maxW a b≠a→slack (maxW a b)+1≤slack a):=by
  intro a
  induction a with
  | nil=>intro b _ _;exact ⟨Nat.le_refl _,fun h=>absurd rfl h⟩
  | cons x a ih =>
   intro b hl hb
   cases b with
   | nil=>cases hl
   | cons y b =>
    obtain ⟨i1,i2⟩:=ih (b:=b) (by simpa using hl) (fun z hz=>hb z (List.mem_cons_of_mem _ hz))
    have hy:=hb y (by simp)
    have e:maxW (x :: a) (y :: b)=max x y :: maxW a b:=rfl
    rw [e]
    simp only [slack,List.map_cons,List.sum_cons] at i1 i2 ⊢
    refine ⟨by omega,fun h=>?_⟩
    by_cases hxy:max x y=x
    ·have:maxW a b≠a:=fun hh=>h (by rw [hxy,hh])
     have:=i2 this
     omega
    ·omega
 exact fun {a b} hl hb=>(key hl hb).2
theorem sum_set {f:Option (List Nat)→Nat}:∀ {A:WS} {k:Nat} {x:Option (List Nat)} (h:k<A.length),((A.set k x).map f).sum+f A[k]=(A.map f).sum+f x
 | [],k,x,h=>by cases h
 | y :: A,0,x,h=>by simp;omega
 | y :: A,k+1,x,h=>by
  have:=sum_set (f:=f) (A:=A) (k:=k) (x:=x) (by simpa using h)
  simp only [List.set_cons_succ,List.map_cons,List.sum_cons,List.getElem_cons_succ]
  omega
theorem outs_len {C:CodeR} {M:Mac} {k:Nat} {ct:Int}:∀ {L:List OpR} {w:List Nat},w.length=C.rg.toNat→∀ p∈outsW C M k ct L w,p.2.length=C.rg.toNat
 | [],w,h,p,hp=>by
  rw [outsW,List.mem_singleton] at hp
  subst hp;show (decW w).length=_;rw [dec_len];exact h
 | o :: L,w,h,p,hp=>by
  have hs:(stepW M w o).length=C.rg.toNat:=by rw [step_len];exact h
  rw [outsW,List.mem_append,List.mem_append] at hp
  rcases hp with hp | hp | hp
  ·split at hp
   ·rw [List.mem_singleton] at hp;subst hp;show (decW _).length=_;rw [dec_len];exact hs
   ·cases hp
  ·split at hp
   ·rw [List.mem_singleton] at hp;subst hp;simp [zerosW]
   ·cases hp
  ·split at hp
   ·cases hp
   ·exact outs_len hs p hp
theorem outs_ub {C:CodeR} {M:Mac} (hd:∀ o,dlS M o≤8) {k:Nat} {ct:Int}:∀ {L:List OpR} {w:List Nat},(∀ x∈w,x≤8)→∀ p∈outsW C M k ct L w,∀ x∈p.2,x≤8
 | [],w,h,p,hp,x,hx=>by
  rw [outsW,List.mem_singleton] at hp
  subst hp
  obtain ⟨y,hy,e⟩:=List.mem_map.1 hx
  have:=h y hy;omega
 | o :: L,w,h,p,hp,x,hx=>by
  have hs:∀ x∈stepW M w o,x≤8:=by
   intro x hx
   unfold stepW at hx
   split at hx
   ·rename_i d _
    rcases List.mem_or_eq_of_mem_set hx with h1 | h1
    ·exact h x h1
    ·rw [h1]
     have g1:=hd o
     have g2:w.getD d 0≤8:=by
      rw [List.getD_eq_getElem?_getD]
      cases hh:w[d]? with
      | none=>exact Nat.zero_le _
      | some y=>exact h y (List.mem_of_getElem? hh)
     omega
   ·exact h x hx
  rw [outsW,List.mem_append,List.mem_append] at hp
  rcases hp with hp | hp | hp
  ·split at hp
   ·rw [List.mem_singleton] at hp;subst hp
    obtain ⟨y,hy,e⟩:=List.mem_map.1 hx
    have:=hs y hy;omega
   ·cases hp
  ·split at hp
   ·rw [List.mem_singleton] at hp;subst hp
    have hx:x∈List.replicate C.rg.toNat 0:=hx
    rw [List.mem_replicate] at hx;omega
   ·cases hp
  ·split at hp
   ·cases hp
   ·exact outs_ub hd hs p hp x hx
structure OkW (C:CodeR) (A:WS):Prop where
 len:A.length=C.ws.length
 wl:∀ (k:Nat) (w:List Nat),A[k]? = some (some w)→w.length=C.rg.toNat
 ub:∀ (k:Nat) (w:List Nat),A[k]? = some (some w)→∀ x∈w,x≤8
structure OkP (C:CodeR) (p:Nat×List Nat):Prop where
 lt:p.1<C.ws.length
 wl:p.2.length=C.rg.toNat
 ub:∀ x∈p.2,x≤8
structure Grown (A:WS) (W:List Nat) (A':WS) (W':List Nat):Prop where
 up:∀ (j:Nat) (w:List Nat),A[j]? = some (some w)→∃ w':List Nat,A'[j]? = some (some w')∧leW w w'∧(w'=w∨j∈W')
 sub:∀ j∈W,j∈W'
 new:∀ (j:Nat) (w':List Nat),A'[j]? = some (some w')→(∃ w:List Nat,A[j]? = some (some w))∨j∈W'
 wk:∀ j∈W',j∈W∨∃ w':List Nat,A'[j]? = some (some w')
theorem Grown.refl (A:WS) (W:List Nat):Grown A W A W:=⟨fun j w h=>⟨w,h,leW.refl _,.inl rfl⟩,fun _ h=>h,fun j w h=>.inl ⟨w,h⟩,fun j h=>.inl h⟩
theorem Grown.trans {A A1 A2:WS} {W W1 W2:List Nat} (h:Grown A W A1 W1) (k:Grown A1 W1 A2 W2):Grown A W A2 W2 :=
 ⟨fun j w hj=>by
  obtain ⟨w1,a1,a2,a3⟩:=h.up j w hj
  obtain ⟨w2,b1,b2,b3⟩:=k.up j w1 a1
  refine ⟨w2,b1,a2.trans b2,?_⟩
  rcases b3 with b3 | b3
  ·rcases a3 with a3 | a3
   ·exact .inl (b3.trans a3)
   ·exact .inr (k.sub j a3)
  ·exact .inr b3,fun j hj=>k.sub j (h.sub j hj),fun j w' hj=>by
  rcases k.new j w' hj with ⟨w,h1⟩ | h1
  ·rcases h.new j w h1 with h2 | h2
   ·exact .inl h2
   ·exact .inr (k.sub j h2)
  ·exact .inr h1,fun j hj=>by
  rcases k.wk j hj with h1 | h1
  ·rcases h.wk j h1 with h2 | ⟨w,h2⟩
   ·exact .inl h2
   ·obtain ⟨w2,b1,_,_⟩:=k.up j w h2
    exact .inr ⟨w2,b1⟩
  ·exact .inr h1⟩
theorem set_get {A:WS} {k j:Nat} {x:Option (List Nat)} (hk:k<A.length):(A.set k x)[j]? = if k=j then some x else A[j]?:=by
 rw [List.getElem?_set];split
 ·rename_i e;subst e;first | rfl | rw [if_pos hk]
 ·rfl
theorem meet_all {C:CodeR} {A:WS} {W:List Nat} {p:Nat×List Nat} (hA:OkW C A) (hp:OkP C p) :
  OkW C (meetW (A,W) p).1∧Grown A W (meetW (A,W) p).1 (meetW (A,W) p).2∧(∃ w':List Nat,(meetW (A,W) p).1[p.1]? = some (some w')∧leW p.2 w') ∧
   2 * phi C.rg.toNat (meetW (A,W) p).1+(meetW (A,W) p).2.length≤2 * phi C.rg.toNat A+W.length ∧
   ∀ B:WS,(∃ w':List Nat,B[p.1]? = some (some w')∧leW p.2 w')→(∀ (k:Nat) (w:List Nat),A[k]? = some (some w)→∃ w':List Nat,B[k]? = some (some w')∧leW w w')→∀ (k:Nat) (w:List Nat),(meetW (A,W) p).1[k]? = some (some w)→∃ w',B[k]? = some (some w')∧leW w w':=by
 have hk:p.1<A.length:=by rw [hA.len];exact hp.lt
 -- what a new entry gives
 have put:∀ (w:List Nat),w.length=C.rg.toNat→(∀ x∈w,x≤8)→leW p.2 w→(∀ v,A[p.1]? = some (some v)→leW v w)→(phi1 C.rg.toNat (some w)+1≤phi1 C.rg.toNat A[p.1]) →
   (∀ B:WS,(∃ w':List Nat,B[p.1]? = some (some w')∧leW p.2 w')→(∀ (k:Nat) (w:List Nat),A[k]? = some (some w)→∃ w':List Nat,B[k]? = some (some w')∧leW w w')→∃ w':List Nat,B[p.1]? = some (some w')∧leW w w') →
   OkW C (A.set p.1 (some w))∧Grown A W (A.set p.1 (some w)) (W++[p.1])∧(∃ w':List Nat,(A.set p.1 (some w))[p.1]? = some (some w')∧leW p.2 w') ∧
   2 * phi C.rg.toNat (A.set p.1 (some w))+(W++[p.1]).length≤2 * phi C.rg.toNat A+W.length ∧
   ∀ B:WS,(∃ w':List Nat,B[p.1]? = some (some w')∧leW p.2 w')→(∀ (k:Nat) (w:List Nat),A[k]? = some (some w)→∃ w':List Nat,B[k]? = some (some w')∧leW w w')→∀ (k:Nat) (v:List Nat),(A.set p.1 (some w))[k]? = some (some v)→∃ w',B[k]? = some (some w')∧leW v w':=by
  intro w h1 h2 h3 h4 h5 h6
  refine ⟨⟨by simp [hA.len],fun k v hv=>?_,fun k v hv=>?_⟩,⟨fun j v hj=>?_,fun j hj=>List.mem_append.2 (.inl hj),fun j v hj=>?_,fun j hj=>?_⟩,⟨w,by rw [set_get hk,if_pos rfl],h3⟩,?_,fun B b1 b2 k v hv=>?_⟩
  ·rw [set_get hk] at hv
   split at hv
   ·cases hv;exact h1
   ·exact hA.wl k v hv
  ·rw [set_get hk] at hv
   split at hv
   ·cases hv;exact h2
   ·exact hA.ub k v hv
  ·by_cases e:p.1=j
   ·subst e;exact ⟨w,by rw [set_get hk,if_pos rfl],h4 v hj,.inr (List.mem_append.2 (.inr (List.mem_singleton.2 rfl)))⟩
   ·exact ⟨v,by rw [set_get hk,if_neg e];exact hj,leW.refl _,.inl rfl⟩
  ·by_cases e:p.1=j
   ·subst e;exact .inr (List.mem_append.2 (.inr (List.mem_singleton.2 rfl)))
   ·rw [set_get hk,if_neg e] at hj;exact .inl ⟨v,hj⟩
  ·rcases List.mem_append.1 hj with h | h
   ·exact .inl h
   ·rw [List.mem_singleton] at h;subst h;exact .inr ⟨w,by rw [set_get hk,if_pos rfl]⟩
  ·have:=sum_set (f:=phi1 C.rg.toNat) (x:=some w) hk
   unfold phi
   rw [List.length_append,List.length_singleton]
   omega
  ·rw [set_get hk] at hv
   split at hv
   ·rename_i e;subst e;cases hv;exact h6 B b1 b2
   ·exact b2 k v hv
 unfold meetW
 simp only
 cases hg:A[p.1]? with
 | none=>rw [List.getElem?_eq_getElem hk] at hg;cases hg
 | some x =>
  have hx:A[p.1]=x:=by rw [List.getElem?_eq_getElem hk] at hg;exact Option.some.inj hg
  cases x with
  | none =>
   simp only
   refine put p.2 hp.wl hp.ub (leW.refl _) (fun v hv=>by rw [hg] at hv;cases hv) ?_ (fun B b1 b2=>b1)
   rw [hx]
   show slack p.2+1≤8 * C.rg.toNat+1
   have:=slack_le hp.wl
   omega
  | some w =>
   simp only
   have hwl:=hA.wl _ _ hg
   have hl:w.length=p.2.length:=by rw [hwl,hp.wl]
   split
   ·rename_i e
    refine ⟨hA,Grown.refl _ _,⟨w,hg,fun r=>?_⟩,Nat.le_refl _,fun B b1 b2=>b2⟩
    have:=max_get hl r
    rw [e] at this;omega
   ·rename_i e
    refine put (maxW w p.2) (by rw [max_len hl];exact hwl) (fun x hx=>?_) (fun r=>by rw [max_get hl];omega) (fun v hv=>?_) ?_ (fun B b1 b2=>?_)
    ·obtain ⟨r,hr,rfl⟩:=List.getElem_of_mem hx
     have h2:=max_get hl r
     rw [List.getD_eq_getElem?_getD,List.getElem?_eq_getElem hr,Option.getD_some] at h2
     rw [max_len hl] at hr
     rw [h2,List.getD_eq_getElem?_getD,List.getElem?_eq_getElem hr,List.getD_eq_getElem?_getD,List.getElem?_eq_getElem (by omega)]
     have g1:=hA.ub _ _ hg _ (List.getElem_mem hr)
     have g2:=hp.ub _ (List.getElem_mem (l:=p.2) (n:=r) (by omega))
     simp only [Option.getD_some];omega
    ·rw [hg] at hv;cases hv
     intro r;rw [max_get hl];omega
    ·rw [hx]
     exact slack_max hl hp.ub e
    ·obtain ⟨v,v1,v2⟩:=b1
     obtain ⟨u,u1,u2⟩:=b2 _ _ hg
     rw [v1] at u1;cases u1
     exact ⟨v,v1,fun r=>by rw [max_get hl];have:=v2 r;have:=u2 r;omega⟩
theorem fold_all {C:CodeR}:∀ {P:List (Nat×List Nat)} {A:WS} {W:List Nat},OkW C A→(∀ p∈P,OkP C p) →
  OkW C (P.foldl meetW (A,W)).1∧Grown A W (P.foldl meetW (A,W)).1 (P.foldl meetW (A,W)).2∧(∀ p∈P,∃ w':List Nat,(P.foldl meetW (A,W)).1[p.1]? = some (some w')∧leW p.2 w') ∧
   2 * phi C.rg.toNat (P.foldl meetW (A,W)).1+(P.foldl meetW (A,W)).2.length≤2 * phi C.rg.toNat A+W.length ∧
   ∀ B:WS,(∀ p∈P,∃ w':List Nat,B[p.1]? = some (some w')∧leW p.2 w')→(∀ (k:Nat) (w:List Nat),A[k]? = some (some w)→∃ w':List Nat,B[k]? = some (some w')∧leW w w')→∀ (k:Nat) (w:List Nat),(P.foldl meetW (A,W)).1[k]? = some (some w)→∃ w',B[k]? = some (some w')∧leW w w'
 | [],A,W,hA,_=>⟨hA,Grown.refl _ _,fun p h=>by (cases h),Nat.le_refl _,fun B _ b=>b⟩
 | p :: P,A,W,hA,hP=>by
  obtain ⟨a1,a2,a3,a4,a5⟩:=meet_all (W:=W) hA (hP p (by simp))
  rw [List.foldl_cons]
  generalize meetW (A,W) p=S at *
  obtain ⟨A1,W1⟩:=S
  simp only at a1 a2 a3 a4 a5
  obtain ⟨b1,b2,b3,b4,b5⟩:=fold_all (P:=P) (A:=A1) (W:=W1) a1 (fun q hq=>hP q (List.mem_cons_of_mem _ hq))
  refine ⟨b1,a2.trans b2,fun q hq=>?_,by omega,fun B c1 c2=>b5 B (fun q hq=>c1 q (List.mem_cons_of_mem _ hq)) (a5 B (c1 p (by simp)) c2)⟩
  rcases List.mem_cons.1 hq with e | e
  ·subst e
   obtain ⟨w',g1,g2⟩:=a3
   obtain ⟨w2,h1,h2,_⟩:=b2.up _ _ g1
   exact ⟨w2,h1,g2.trans h2⟩
  ·exact b3 q e
structure InvW (C:CodeR) (M:Mac) (A:WS) (W:List Nat):Prop where
 ok:OkW C A
 zero:∃ w:List Nat,A[0]? = some (some w)
 wk:∀ k∈W,∃ w:List Nat,A[k]? = some (some w)
 go:∀ (k:Nat) (w:List Nat),A[k]? = some (some w)→k∉W→∀ p∈outsW C M k (wordAt C k).ct (wordAt C k).ops w,∃ w':List Nat,A[p.1]? = some (some w')∧leW p.2 w'
 le:∀ B:WS,IsW C M B→∀ (k:Nat) (w:List Nat),A[k]? = some (some w)→∃ w':List Nat,B[k]? = some (some w')∧leW w w'
theorem InvW.least {C:CodeR} {M:Mac} {A:WS} (h:InvW C M A []):Least C M A :=
 ⟨⟨h.ok.len,h.ok.wl,h.zero,fun k w hk p hp=>h.go k w hk (by simp) p hp⟩,h.le⟩
theorem outs_ok {C:CodeR} {M:Mac} (hC:CodeOK C) (hd:∀ o,dlS M o≤8) {A:WS} (hA:OkW C A) {k:Nat} {w:List Nat} (hk:A[k]? = some (some w)):∀ p∈outsW C M k (wordAt C k).ct (wordAt C k).ops w,OkP C p:=fun p hp =>
 have hk2:k<C.ws.length:=by rw [← hA.len];exact (List.getElem?_eq_some_iff.1 hk).1
 ⟨outs_lt hC hk2 hp,outs_len (hA.wl k w hk) p hp,outs_ub hd (hA.ub k w hk) p hp⟩
theorem round_inv {C:CodeR} {M:Mac} (hC:CodeOK C) (hd:∀ o,dlS M o≤8) {A:WS} {W R:List Nat} {k:Nat} {w:List Nat} (h:InvW C M A W) (hk:A[k]? = some (some w)) (hR:∀ x∈W,x=k∨x∈R) (hR2:∀ x∈R,x∈W) :
  InvW C M ((outsW C M k (wordAt C k).ct (wordAt C k).ops w).foldl meetW (A,R)).1 ((outsW C M k (wordAt C k).ct (wordAt C k).ops w).foldl meetW (A,R)).2 ∧
   2 * phi C.rg.toNat ((outsW C M k (wordAt C k).ct (wordAt C k).ops w).foldl meetW (A,R)).1+((outsW C M k (wordAt C k).ct (wordAt C k).ops w).foldl meetW (A,R)).2.length≤2 * phi C.rg.toNat A+R.length:=by
 obtain ⟨a1,a2,a3,a4,a5⟩:=fold_all (W:=R) h.ok (outs_ok hC hd h.ok hk)
 generalize hS:(outsW C M k (wordAt C k).ct (wordAt C k).ops w).foldl meetW (A,R)=S at *
 obtain ⟨A',W'⟩:=S
 simp only at a1 a2 a3 a4 a5 ⊢
 refine ⟨⟨a1,?_,fun j hj=>?_,fun j v hj hn p hp=>?_,fun B hB=>a5 B (fun p hp=>?_) (h.le B hB)⟩,a4⟩
 ·obtain ⟨v,hv⟩:=h.zero
  obtain ⟨v',g,_⟩:=a2.up 0 v hv
  exact ⟨v',g⟩
 ·rcases a2.wk j hj with g | g
  ·obtain ⟨v,hv⟩:=h.wk j (hR2 j g)
   obtain ⟨v',g,_⟩:=a2.up j v hv
   exact ⟨v',g⟩
  ·exact g
 ·rcases a2.new j v hj with ⟨u,hu⟩ | g
  ·obtain ⟨u',g1,g2,g3⟩:=a2.up j u hu
   rw [hj] at g1;cases g1
   rcases g3 with g3 | g3
   ·subst g3
    by_cases e:j=k
    ·subst e
     rw [hk] at hu;cases hu
     exact a3 p hp
    ·have hjW:j∉W:=fun hw=>by
      rcases hR j hw with e2 | e2
      ·exact e e2
      ·exact hn (a2.sub j e2)
     obtain ⟨v',v1,v2⟩:=h.go j v hu hjW p hp
     obtain ⟨v2',x1,x2,_⟩:=a2.up _ _ v1
     exact ⟨v2',x1,v2.trans x2⟩
   ·exact absurd g3 hn
  ·exact absurd g hn
 ·obtain ⟨w',g1,g2⟩:=h.le B hB k w hk
  have hl:w.length=w'.length:=by rw [h.ok.wl k w hk,hB.wl k w' g1]
  obtain ⟨p',q1,q2,q3⟩:=outs_mono (fun o=>Nat.le_refl (dlS M o)) hl g2 p hp
  obtain ⟨u,u1,u2⟩:=hB.go k w' g1 p' q1
  exact ⟨u,by rw [← q2];exact u1,q3.trans u2⟩
theorem begin_inv {C:CodeR} {M:Mac} (hC:CodeOK C):InvW C M ((List.replicate C.ws.length none).set 0 (some (zerosW C))) [0]:=by
 have h0:0<(List.replicate C.ws.length (none:Option (List Nat))).length:=by simp;exact hC.wl.1
 have get:∀ k w,((List.replicate C.ws.length (none:Option (List Nat))).set 0 (some (zerosW C)))[k]? = some (some w)→k=0∧w=zerosW C:=fun k w h=>by
  rw [set_get h0] at h
  split at h
  ·rename_i e;exact ⟨e.symm,(Option.some.inj (Option.some.inj h)).symm⟩
  ·rw [List.getElem?_replicate] at h
   split at h<;>cases h
 refine ⟨⟨by simp,fun k w h=>?_,fun k w h x hx=>?_⟩,⟨zerosW C,by rw [set_get h0,if_pos rfl]⟩,fun k hk=>?_,fun k w h hn=>?_,fun B hB k w h=>?_⟩
 ·rw [(get k w h).2];simp [zerosW]
 ·rw [(get k w h).2] at hx
  have hx:x∈List.replicate C.rg.toNat 0:=hx
  rw [List.mem_replicate] at hx;omega
 ·rw [List.mem_singleton] at hk;subst hk;exact ⟨zerosW C,by rw [set_get h0,if_pos rfl]⟩
 ·exact absurd (List.mem_singleton.2 (get k w h).1) hn
 ·obtain ⟨rfl,rfl⟩:=get k w h
  obtain ⟨w',g⟩:=hB.zero
  exact ⟨w',g,fun r=>by rw [zeros_get];exact Nat.zero_le _⟩
end Go.Proofs.YtleofbpepfmfgaaGreatDoor
