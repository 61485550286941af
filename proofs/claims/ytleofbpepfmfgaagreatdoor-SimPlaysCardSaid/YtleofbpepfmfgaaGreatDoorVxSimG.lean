import Derived.Test.YtleofbpepfmfgaaGreatDoorVxRfH
set_option linter.unusedSimpArgs false
set_option linter.unusedVariables false
set_option maxRecDepth 100000
namespace Go.Proofs.YtleofbpepfmfgaaGreatDoor
open Go Go.Vx
open Go.Vx.IOp Go.Vx.IR Go.Vx.Opd
section
variable {m0 m m':Mem} {V:CV} {C:q0c} {M:Mac} {sv:Value} {p:Nat} {H:HdF} {s s':St} {sh:List Int}
theorem RfAt.outCells (h:RfAt m0 m V C M sv 0 p H s):q0g m ((⟨p,0,none⟩:Addr).add 26) [hv H s 0,i s.kind,i s.value]:=fun q v hq=>by
 rw [q0o]
 refine h.cell ?_
 match q,hq with
 | 0,hq=>exact hq
 | 1,hq=>exact hq
 | 2,hq=>exact hq
theorem RfAt.outAt (h:RfAt m0 m V C M sv 0 p H s):q4n m (.agg ⟨[hv H s 0,i s.kind,i s.value]⟩) s.prints s.kind s.value:=⟨_,_,rfl,h.printsAt⟩
end
section
variable {m:Mem} {V W:CV} {C:q0c}
end
abbrev WayY:=Int×Nat×Bool
def q2a (k:Nat) (ct:Int):List OpR→Nat→List WayY
 | [],j=>[((k:Int)+1,j,false)]
 | o :: os,j=>(if o.kd=21∨o.kd=26 then [(o.n,j,false)] else [])++((if q4v o=true∧0≤ct then [(ct,j,true)] else [])++(if q2e o=true then [] else q2a k ct os (j+1)))
theorem z7b {O:List OpR} {j:Nat} (h:j<O.length):O.drop j=O[j] :: O.drop (j+1):=List.drop_eq_getElem_cons h
set_option maxHeartbeats 2000000 in
theorem j7l {m0 m:Mem} (V:CV) {C:q0c} (hV:q1q m0 V C) {k:Nat} (hk:k<C.ws.length) (hol:(q1b C k).ops.length<2 ^ 62) {g:Nat} {first caps:List Value} (I:List WayY→Mem→Prop) (hI:∀ pre m',I pre m'→Mem.le m0 m')
  (h0:I [] m) (hg:∀ pre y post m',q2a k (q1b C k).ct (q1b C k).ops 0=pre++y :: post→I pre m'→q0f Tryz.prog g (first++[i y.1,i y.2.1,.bool y.2.2]++caps) m' fun e m2=>e=.returned q2r∧I (pre++[y]) m2) :
  q0f Tryz.prog 106 [V.val C,i k,.func (.func g) ⟨first⟩ ⟨caps⟩] m fun e m'=>e=.returned q2r∧I (q2a k (q1b C k).ct (q1b C k).ops 0) m':=by
 refine q0e q0d Tryz.func106 j7m rfl ?_
 have hn2:=hV.n2
 have hwsl:=hV.wsl
 obtain ⟨a2',c2',e2,hw0,hw1,hw2⟩:=hV.ws
 have ea2:V.a2=a2':=by injection e2
 subst ea2
 obtain ⟨ad,had⟩:∃ ad,V.a2=some ad:=by
  cases hh:V.a2 with
  | none=>rw [hw0 hh] at hk;simp at hk
  | some ad=>exact ⟨ad,rfl⟩
 have hwk:C.ws[k]=q1b C k:=by
  unfold q1b
  rw [List.getD_eq_getElem?_getD,List.getElem?_eq_getElem hk];rfl
 obtain ⟨a3,n3,c3,hcells,hops⟩:=hw1 ad had k hk
 rw [hwk] at hcells hops
 generalize q1b C k=w at *
 obtain ⟨a3',c3',e3,ho0,ho1,ho2⟩:=hops
 injection e3 with e31 e32 e33
 subst e31;subst e32;subst e33
 have hle0:=hI _ _ h0
 conv=>whnf
 rw [hn2]
 refine WIdx.mk ad had ⟨by omega,by omega⟩ ?_
 refine WLds.mk [.slice a3 w.ops.length c3,i w.ct] (by simpa using hcells.mono hle0) rfl ?_
 conv=>whnf
 refine q0v.mk Nat (fun j=>[(17,.val (i j))]) (fun j m'=>j≤w.ops.length∧∃ pre,q2a k w.ct w.ops 0=pre++q2a k w.ct (w.ops.drop j) j∧I pre m') (fun j=>w.ops.length - j) 0 ⟨rfl,trivial⟩ ⟨Nat.zero_le _,[],by simp,h0⟩ ?_
 rintro j m' ⟨hj,pre,hpre,hIp⟩
 refine Br.mk (fun hb=>?_) (fun hb=>?_)
 ·have hj2:j<w.ops.length:=by
   have:(j:Int)<w.ops.length:=of_decide_eq_true hb
   omega
  rw [z7b hj2] at hpre
  obtain ⟨ad3,had3⟩:∃ ad,a3=some ad:=by
   cases hh:a3 with
   | none=>rw [ho0 hh] at hj2;simp at hj2
   | some ad=>exact ⟨ad,rfl⟩
  have hop:=OAt.cells (ho1 ad3 had3) hj2
  generalize w.ops[j]=o at *
  refine WIdx.mk ad3 had3 ⟨by omega,by omega⟩ ?_
  refine WLds.mk o.cells (by simpa using hop.mono (hI _ _ hIp)) rfl ?_
  have hpre:q2a k w.ct w.ops 0=pre++((if o.kd=21∨o.kd=26 then [(o.n,j,false)] else [])++((if q4v o=true∧0≤w.ct then [(w.ct,j,true)] else [])++(if q2e o=true then [] else q2a k w.ct (w.ops.drop (j+1)) (j+1)))):=hpre
  refine WSc.mk (v:=o.kd==26) (fun _=>?_) ?_
  ·conv=>whnf
   exact And.intro (Mem.le.refl _) rfl
  refine Br.mk (fun hx=>?_) (fun hx=>?_)
  ·have hx':o.kd=21∨o.kd=26:=by simpa [scB] using hx
   rw [if_pos hx'] at hpre
   conv=>whnf
   refine q0a.mk (hg pre (o.n,j,false) ((if q4v o=true∧0≤w.ct then [(w.ct,j,true)] else [])++(if q2e o=true then [] else q2a k w.ct (w.ops.drop (j+1)) (j+1))) m' (by rw [hpre];rfl) hIp) ?_
   rintro _ m1 ⟨rfl,hI1'⟩
   obtain ⟨pre1,hpre1,hI1⟩:∃ pre1,q2a k w.ct w.ops 0=pre1++((if q4v o=true∧0≤w.ct then [(w.ct,j,true)] else [])++(if q2e o=true then [] else q2a k w.ct (w.ops.drop (j+1)) (j+1)))∧I pre1 m1:=⟨_,by rw [hpre];simp,hI1'⟩
   conv=>whnf
   refine q0a.pure (v2c _ o) ?_
   refine WSc.mk (v:=decide (w.ct≥0)) (fun _=>?_) ?_
   ·conv=>whnf
    exact And.intro (Mem.le.refl _) rfl
   refine Br.mk (fun ht=>?_) (fun ht=>?_)
   ·have ht':q4v o=true∧0≤w.ct:=by simpa [scB] using ht
    rw [if_pos ht'] at hpre1
    conv=>whnf
    refine q0a.mk (hg pre1 (w.ct,j,true) (if q2e o=true then [] else q2a k w.ct (w.ops.drop (j+1)) (j+1)) _ (by rw [hpre1];rfl) hI1) ?_
    rintro _ m2 ⟨rfl,hI2'⟩
    obtain ⟨pre2,hpre2,hI2⟩:∃ pre2,q2a k w.ct w.ops 0=pre2++(if q2e o=true then [] else q2a k w.ct (w.ops.drop (j+1)) (j+1))∧I pre2 m2:=⟨_,by rw [hpre1];simp,hI2'⟩
    conv=>whnf
    refine q0a.pure (q8y _ o) ?_
    refine Br.mk (fun hl=>?_) (fun hl=>?_)
    ·rw [if_pos hl,List.append_nil] at hpre2
     exact WRet.same ⟨rfl,by rw [hpre2];exact hI2⟩
    ·rw [if_neg (by rw [hl];decide)] at hpre2
     refine WRng.mk (by apply wrap_i64<;>omega) ?_
     conv=>whnf
     exact ⟨j+1,⟨rfl,trivial⟩,⟨hj2,pre2,hpre2,hI2⟩,Nat.sub_lt_sub_left hj2 (Nat.lt_succ_self j)⟩
   ·have ht':¬ (q4v o=true∧0≤w.ct):=by simpa [scB] using ht
    rw [if_neg ht',List.nil_append] at hpre1
    obtain ⟨pre2,hpre2,hI2⟩:∃ pre2,q2a k w.ct w.ops 0=pre2++(if q2e o=true then [] else q2a k w.ct (w.ops.drop (j+1)) (j+1))∧I pre2 _:=⟨_,hpre1,hI1⟩
    conv=>whnf
    refine q0a.pure (q8y _ o) ?_
    refine Br.mk (fun hl=>?_) (fun hl=>?_)
    ·rw [if_pos hl,List.append_nil] at hpre2
     exact WRet.same ⟨rfl,by rw [hpre2];exact hI2⟩
    ·rw [if_neg (by rw [hl];decide)] at hpre2
     refine WRng.mk (by apply wrap_i64<;>omega) ?_
     conv=>whnf
     exact ⟨j+1,⟨rfl,trivial⟩,⟨hj2,pre2,hpre2,hI2⟩,Nat.sub_lt_sub_left hj2 (Nat.lt_succ_self j)⟩
  ·have hx':¬ (o.kd=21∨o.kd=26):=by simpa [scB] using hx
   rw [if_neg hx',List.nil_append] at hpre
   obtain ⟨pre1,hpre1,hI1⟩:∃ pre1,q2a k w.ct w.ops 0=pre1++((if q4v o=true∧0≤w.ct then [(w.ct,j,true)] else [])++(if q2e o=true then [] else q2a k w.ct (w.ops.drop (j+1)) (j+1)))∧I pre1 m':=⟨_,hpre,hIp⟩
   conv=>whnf
   refine q0a.pure (v2c _ o) ?_
   refine WSc.mk (v:=decide (w.ct≥0)) (fun _=>?_) ?_
   ·conv=>whnf
    exact And.intro (Mem.le.refl _) rfl
   refine Br.mk (fun ht=>?_) (fun ht=>?_)
   ·have ht':q4v o=true∧0≤w.ct:=by simpa [scB] using ht
    rw [if_pos ht'] at hpre1
    conv=>whnf
    refine q0a.mk (hg pre1 (w.ct,j,true) (if q2e o=true then [] else q2a k w.ct (w.ops.drop (j+1)) (j+1)) _ (by rw [hpre1];rfl) hI1) ?_
    rintro _ m2 ⟨rfl,hI2'⟩
    obtain ⟨pre2,hpre2,hI2⟩:∃ pre2,q2a k w.ct w.ops 0=pre2++(if q2e o=true then [] else q2a k w.ct (w.ops.drop (j+1)) (j+1))∧I pre2 m2:=⟨_,by rw [hpre1];simp,hI2'⟩
    conv=>whnf
    refine q0a.pure (q8y _ o) ?_
    refine Br.mk (fun hl=>?_) (fun hl=>?_)
    ·rw [if_pos hl,List.append_nil] at hpre2
     exact WRet.same ⟨rfl,by rw [hpre2];exact hI2⟩
    ·rw [if_neg (by rw [hl];decide)] at hpre2
     refine WRng.mk (by apply wrap_i64<;>omega) ?_
     conv=>whnf
     exact ⟨j+1,⟨rfl,trivial⟩,⟨hj2,pre2,hpre2,hI2⟩,Nat.sub_lt_sub_left hj2 (Nat.lt_succ_self j)⟩
   ·have ht':¬ (q4v o=true∧0≤w.ct):=by simpa [scB] using ht
    rw [if_neg ht',List.nil_append] at hpre1
    obtain ⟨pre2,hpre2,hI2⟩:∃ pre2,q2a k w.ct w.ops 0=pre2++(if q2e o=true then [] else q2a k w.ct (w.ops.drop (j+1)) (j+1))∧I pre2 _:=⟨_,hpre1,hI1⟩
    conv=>whnf
    refine q0a.pure (q8y _ o) ?_
    refine Br.mk (fun hl=>?_) (fun hl=>?_)
    ·rw [if_pos hl,List.append_nil] at hpre2
     exact WRet.same ⟨rfl,by rw [hpre2];exact hI2⟩
    ·rw [if_neg (by rw [hl];decide)] at hpre2
     refine WRng.mk (by apply wrap_i64<;>omega) ?_
     conv=>whnf
     exact ⟨j+1,⟨rfl,trivial⟩,⟨hj2,pre2,hpre2,hI2⟩,Nat.sub_lt_sub_left hj2 (Nat.lt_succ_self j)⟩
 ·have hj2:j=w.ops.length:=by
   have:¬ (j:Int)<w.ops.length:=of_decide_eq_false hb
   omega
  subst hj2
  rw [List.drop_length] at hpre
  refine WRng.mk (by apply wrap_i64<;>omega) ?_
  conv=>whnf
  refine q0a.mk (hg pre ((k:Int)+1,w.ops.length,false) [] m' (by rw [hpre];rfl) hIp) ?_
  rintro _ m1 ⟨rfl,hI1⟩
  refine WRet.same ⟨rfl,?_⟩
  rw [hpre];exact hI1
def q1e (M:Mac) (ops:List OpR) (w0:List Nat) (j:Nat):List Nat:=(ops.take j).foldl (q3e M) w0
def wayP (C:q0c) (M:Mac) (ops:List OpR) (w0:List Nat) (y:WayY):Nat×List Nat:=(y.1.toNat,if y.2.2=true then q3q C else decW (q1e M ops w0 (y.2.1+1)))
theorem z3s {M:Mac} {ops:List OpR} {w0:List Nat} {j:Nat} (hj:j<ops.length):q1e M ops w0 (j+1)=q3e M (q1e M ops w0 j) ops[j]:=by
 unfold q1e;rw [q4k hj]
theorem v2b {M:Mac} {ops:List OpR} {w0:List Nat} {j:Nat} (hj:ops.length≤j):q1e M ops w0 j=q1e M ops w0 ops.length:=by
 unfold q1e;rw [List.take_of_length_le hj,List.take_length]
theorem z7s (M:Mac) (ops:List OpR) (w0:List Nat) (j:Nat):(q1e M ops w0 j).length=w0.length:=by
 unfold q1e
 generalize ops.take j=L
 induction L generalizing w0 with
 | nil=>rfl
 | cons o L ih=>rw [List.foldl_cons,ih,z3l]
theorem k6t {M:Mac} (hd:∀ o,dlS M o≤8) {w:List Nat} (h:∀ x∈w,x≤8) (o:OpR):∀ x∈q3e M w o,x≤8:=by
 intro x hx
 unfold q3e at hx
 split at hx
 ·rename_i d _
  rcases List.mem_or_eq_of_mem_set hx with h1 | h1
  ·exact h x h1
  ·rw [h1]
   have g1:=hd o
   have g2:w.getD d 0≤8:=by
    rw [List.getD_eq_getElem?_getD]
    cases hh:w[d]? with
    | none=>exact Nat.zero_le _
    | some y=>exact h y (List.mem_of_getElem? hh)
   omega
 ·exact h x hx
theorem k6n {M:Mac} (hd:∀ o,dlS M o≤8) {ops:List OpR} {w0:List Nat} (h:∀ x∈w0,x≤8) (j:Nat):∀ x∈q1e M ops w0 j,x≤8:=by
 unfold q1e
 generalize ops.take j=L
 induction L generalizing w0 with
 | nil=>exact h
 | cons o L ih=>rw [List.foldl_cons];exact ih (k6t hd h o)
theorem z7y {C:q0c} {M:Mac} {k:Nat} {ct:Int} {ops:List OpR} {w0:List Nat}:∀ (n j:Nat),ops.length - j=n→j≤ops.length→(q2a k ct (ops.drop j) j).map (wayP C M ops w0)=q2l C M k ct (ops.drop j) (q1e M ops w0 j)
 | 0,j,h,hj=>by
  have e:j=ops.length:=by omega
  subst e
  rw [List.drop_length,q2a,q2l,List.map_singleton]
  unfold wayP
  rw [if_neg Bool.false_ne_true,v2b (j:=ops.length+1) (by omega)]
  rfl
 | n+1,j,h,hj=>by
  have hj2:j<ops.length:=by omega
  have ih:=z7y (C:=C) (M:=M) (k:=k) (ct:=ct) (ops:=ops) (w0:=w0) n (j+1) (by omega) (by omega)
  rw [z7b hj2,q2a,q2l,List.map_append,List.map_append]
  congr 1
  ·split
   ·rw [List.map_singleton];unfold wayP;rw [if_neg Bool.false_ne_true,z3s hj2]
   ·rfl
  congr 1
  ·split
   ·rw [List.map_singleton];unfold wayP;rw [if_pos rfl]
   ·rfl
  ·split
   ·rfl
   ·rw [ih,z3s hj2]
theorem v3h {k:Nat} {ct:Int}:∀ {L:List OpR} {j:Nat},(q2a k ct L j).Pairwise (fun a b=>a.2.1≤b.2.1)∧∀ y∈q2a k ct L j,j≤y.2.1
 | [],j=>by rw [q2a];exact ⟨List.pairwise_singleton _ _,fun y hy=>by rw [List.mem_singleton] at hy;subst hy;exact Nat.le_refl _⟩
 | o :: L,j=>by
  obtain ⟨h1,h2⟩:=v3h (k:=k) (ct:=ct) (L:=L) (j:=j+1)
  rw [q2a]
  have a1:∀ y∈(if o.kd=21∨o.kd=26 then [((o.n,j,false):WayY)] else []),y.2.1=j:=fun y hy=>by
   split at hy
   ·rw [List.mem_singleton] at hy;subst hy;rfl
   ·cases hy
  have a2:∀ y∈(if q4v o=true∧0≤ct then [((ct,j,true):WayY)] else []),y.2.1=j:=fun y hy=>by
   split at hy
   ·rw [List.mem_singleton] at hy;subst hy;rfl
   ·cases hy
  have a3:∀ y∈(if q2e o=true then [] else q2a k ct L (j+1)),j≤y.2.1:=fun y hy=>by
   split at hy
   ·cases hy
   ·have:=h2 y hy;omega
  have s1:(if o.kd=21∨o.kd=26 then [((o.n,j,false):WayY)] else []).Pairwise (fun a b=>a.2.1≤b.2.1):=by split<;>simp
  have s2:(if q4v o=true∧0≤ct then [((ct,j,true):WayY)] else []).Pairwise (fun a b=>a.2.1≤b.2.1):=by split<;>simp
  have s3:(if q2e o=true then [] else q2a k ct L (j+1)).Pairwise (fun a b=>a.2.1≤b.2.1):=by
   split
   ·exact List.Pairwise.nil
   ·exact h1
  refine ⟨List.pairwise_append.2 ⟨s1,List.pairwise_append.2 ⟨s2,s3,fun a ha b hb=>by rw [a2 a ha];exact a3 b hb⟩,fun a ha b hb=>?_⟩,fun y hy=>?_⟩
  ·rw [a1 a ha]
   rcases List.mem_append.1 hb with hb | hb
   ·rw [a2 b hb];exact Nat.le_refl _
   ·exact a3 b hb
  ·rcases List.mem_append.1 hy with hy | hy
   ·rw [a1 y hy];exact Nat.le_refl _
   ·rcases List.mem_append.1 hy with hy | hy
    ·rw [a2 y hy];exact Nat.le_refl _
    ·exact a3 y hy
def preD (w:List Nat):Nat→List Nat
 | 0=>w
 | r+1=>(preD w r).set r ((preD w r).getD r 0 - 1)
theorem z2w (w:List Nat) (r:Nat):(preD w r).length=w.length:=by induction r with | zero=>rfl | succ r ih=>rw [preD,List.length_set,ih]
theorem z3i (w:List Nat):∀ (r j:Nat),(preD w r).getD j 0=if j<r then w.getD j 0 - 1 else w.getD j 0
 | 0,j=>by rw [preD,if_neg (by omega)]
 | r+1,j=>by
  rw [preD,z3z,z2w]
  by_cases e:r=j∧r<w.length
  ·rw [if_pos e,z3i w r r,if_neg (by omega),← e.1,if_pos (by omega)]
  ·rw [if_neg e,z3i w r j]
   by_cases e2:j<r
   ·rw [if_pos e2,if_pos (by omega)]
   ·rw [if_neg e2]
    by_cases e3:j<r+1
    ·have:j=r:=by omega
     subst this
     have hl:¬ j<w.length:=fun h=>e ⟨rfl,h⟩
     rw [if_pos e3,List.getD_eq_getElem?_getD,List.getElem?_eq_none (by omega)];rfl
    ·rw [if_neg e3]
theorem w0s (w:List Nat):preD w w.length=decW w:=by
 apply List.ext_getElem (by rw [z2w,z5s])
 intro j h1 h2
 have e1:=z3i w w.length j
 rw [z2w] at h1
 rw [if_pos h1,← z7c,List.getD_eq_getElem?_getD,List.getD_eq_getElem?_getD,List.getElem?_eq_getElem (by rw [z2w];exact h1),List.getElem?_eq_getElem h2] at e1
 exact e1
structure FB where
 w:Nat
 z:Nat
 zb:Nat
 zc:Nat
 d:Nat
 o:Nat
 a3:Option Addr
 c3:Nat
 n:Nat
 nb:Nat
 nc:Nat
structure q4p (m0 m:Mem) (V:CV) (C:q0c) (M:Mac) (B:FB) (n:Nat) (S:Wt) (d:Nat) (now:List Nat):Prop where
 wt:WtAt m V C M S
 bw:m B.w=some (Cells [ptr S.p] 111)
 bz:m B.z=some (Cells [.slice (some ⟨B.zb,0,none⟩) C.rg.toNat B.zc] TR)
 zb:R8 m B.zb (q3q C)
 bd:m B.d=some (Cells [i d] 3)
 bo:m B.o=some (Cells [.slice B.a3 n B.c3] 101)
 bn:m B.n=some (Cells [.slice (some ⟨B.nb,0,none⟩) C.rg.toNat B.nc] TR)
 nb:R8 m B.nb now
 nf:∀ b,(b=B.w∨b=B.z∨b=B.zb∨b=B.d∨b=B.o∨b=B.n∨b=B.nb)→¬ S.foot b
 ne:B.nb≠B.zb
 le:Mem.le m0 m
 new:(∀ b,S.foot b→m0 b=none)∧m0 B.d=none∧m0 B.nb=none
theorem q3z {m:Mem} {b:Nat} {v:Value} {T:TypeId} (h:m b=some (Cells [v] T)):q0q m ⟨b,0,none⟩ v:=⟨_,_,_,h,rfl,rfl⟩
section
variable {m0 m m':Mem} {V:CV} {C:q0c} {M:Mac} {B:FB} {n:Nat} {S:Wt} {d:Nat} {now:List Nat}
theorem q4p.mono (h:q4p m0 m V C M B n S d now) (hle:Mem.le m m'):q4p m0 m' V C M B n S d now :=
 ⟨h.wt.mono hle,hle _ _ h.bw,hle _ _ h.bz,h.zb.mono hle,hle _ _ h.bd,hle _ _ h.bo,hle _ _ h.bn,h.nb.mono hle,h.nf,h.ne,h.le.trans hle,h.new⟩
theorem q4p.setNow (h:q4p m0 m V C M B n S d now) {now':List Nat} {rest:List Value}:q4p m0 (m.set B.nb (Cells (now'.map v8++rest) 117)) V C M B n S d now':=by
 obtain ⟨r0,hr0⟩:=h.nb
 have oth:∀ {b:Nat} {l:List Value} {T:TypeId},m b=some (Cells l T)→T≠117→m.set B.nb (Cells (now'.map v8++rest) 117) b=some (Cells l T):=fun hb hT=>by
  rw [Mem.set_other _ _ (q5a hb hr0 hT)];exact hb
 refine ⟨h.wt.same fun b o hf hb=>?_,oth h.bw (by decide),oth h.bz (by decide),?_,oth h.bd (by decide),oth h.bo (by decide),oth h.bn (by decide),⟨rest,Mem.set_same _ _ _⟩,h.nf,h.ne,q2n h.le h.new.2.2,h.new⟩
 ·rw [Mem.set_other _ _ (fun e=>by subst e;exact h.nf B.nb (by simp) hf)];exact hb
 ·obtain ⟨r,hr⟩:=h.zb
  exact ⟨r,by rw [Mem.set_other _ _ (fun e=>h.ne e.symm)];exact hr⟩
theorem q4p.setD (h:q4p m0 m V C M B n S d now) {d':Nat}:q4p m0 (m.set B.d (Cells [i d'] 3)) V C M B n S d' now:=by
 have oth:∀ {b:Nat} {l:List Value} {T:TypeId},m b=some (Cells l T)→T≠3→m.set B.d (Cells [i d'] 3) b=some (Cells l T):=fun hb hT=>by
  rw [Mem.set_other _ _ (q5a hb h.bd hT)];exact hb
 refine ⟨h.wt.same fun b o hf hb=>?_,oth h.bw (by decide),oth h.bz (by decide),?_,Mem.set_same _ _ _,oth h.bo (by decide),oth h.bn (by decide),?_,h.nf,h.ne,q2n h.le h.new.2.1,h.new⟩
 ·rw [Mem.set_other _ _ (fun e=>by subst e;exact h.nf B.d (by simp) hf)];exact hb
 ·obtain ⟨r,hr⟩:=h.zb
  exact ⟨r,oth hr (by decide)⟩
 ·obtain ⟨r,hr⟩:=h.nb
  exact ⟨r,oth hr (by decide)⟩
theorem q4p.meet (h:q4p m0 m V C M B n S d now) {S':Wt} (hS:WtAt m' V C M S') (hp:S'.p=S.p) (hk:Keep S.foot m m') (hf:∀ b,S'.foot b→S.foot b∨m b=none):q4p m0 m' V C M B n S' d now:=by
 have k:∀ {b:Nat} {o:Obj},m b=some o→(b=B.w∨b=B.z∨b=B.zb∨b=B.d∨b=B.o∨b=B.n∨b=B.nb)→m' b=some o:=fun hb hh=>hk _ _ hb (h.nf _ hh)
 refine ⟨hS,by rw [hp];exact k h.bw (by simp),k h.bz (by simp),?_,k h.bd (by simp),k h.bo (by simp),k h.bn (by simp),?_,fun b hb hff=>?_,h.ne,hk.le h.le h.new.1,fun b hb=>?_,h.new.2⟩
 ·obtain ⟨r,hr⟩:=h.zb;exact ⟨r,k hr (by simp)⟩
 ·obtain ⟨r,hr⟩:=h.nb;exact ⟨r,k hr (by simp)⟩
 ·rcases hf b hff with h1 | h1
  ·exact h.nf b hb h1
  ·obtain ⟨r1,hr1⟩:=h.zb
   obtain ⟨r2,hr2⟩:=h.nb
   rcases hb with e | e | e | e | e | e | e<;>subst e
   ·rw [h.bw] at h1;cases h1
   ·rw [h.bz] at h1;cases h1
   ·rw [hr1] at h1;cases h1
   ·rw [h.bd] at h1;cases h1
   ·rw [h.bo] at h1;cases h1
   ·rw [h.bn] at h1;cases h1
   ·rw [hr2] at h1;cases h1
 ·rcases hf b hb with h1 | h1
  ·exact h.new.1 b h1
  ·exact q1z h.le h1
end
theorem v0l {m0 m:Mem} {ops:List OpR} {a3:Option Addr} {c3:Nat} (hO:OAt m0 (.slice a3 ops.length c3) ops) (hle:Mem.le m0 m) {j:Nat} (hj:j<ops.length) :
  ∃ ad,a3=some ad∧q0g m (ad.add (j * 7)) (ops[j]).cells:=by
 obtain ⟨a,c,e,h0,h1,h2⟩:=hO
 injection e with e1 _ e2
 subst e1
 cases a3 with
 | none=>rw [h0 rfl] at hj;simp at hj
 | some ad=>exact ⟨ad,rfl,OAt.cells ((h1 ad rfl).mono hle) hj⟩
theorem v3k (o:OpR) (h:uD o.kd=true):wrS o=some o.ds.toNat:=by unfold wrS;rw [if_pos h]
theorem v3r (o:OpR) (h:uD o.kd=false):wrS o=none:=by unfold wrS;rw [if_neg (by rw [h];decide)]
theorem max8 (a b:Nat):(if (b:Int)>(a:Int) then (b:Int) else (a:Int))=((max a b:Nat):Int):=by split<;>omega
theorem dec8 {n:Nat} (h:n≤8):(if (0:Int)>IntKind.i8.wrap ((n:Int) - 1) then (0:Int) else IntKind.i8.wrap ((n:Int) - 1))=((n - 1:Nat):Int):=by
 have:n=0∨n=1∨n=2∨n=3∨n=4∨n=5∨n=6∨n=7∨n=8:=by omega
 rcases this with rfl | rfl | rfl | rfl | rfl | rfl | rfl | rfl | rfl<;>rfl
set_option maxHeartbeats 4000000 in
theorem j2h {m0 m:Mem} {T:Nat} {fr:Nat×Nat} (hm0:m0 0=some (.cells ⟨q2f⟩ T fr)) {V:CV} {C:q0c} {M:Mac} {B:FB} {ops:List OpR} {w0:List Nat} {S:Wt} {d:Nat} (hF:q4p m0 m V C M B ops.length S d (q1e M ops w0 d))
  (hM:M.ok=true) (hO:OAt m0 (.slice B.a3 ops.length B.c3) ops) (hol:ops.length≤400) (hops:∀ o∈ops,OpOK C o) (hrg:1≤C.rg∧C.rg≤4096) (hw0l:w0.length=C.rg.toNat) (hw0:∀ x∈w0,x≤8) {y:WayY} (hto:0≤y.1∧y.1.toNat<S.A.length)
  (hsame:∀ w,S.A[y.1.toNat]? = some (some w)→w.length=C.rg.toNat) (hy:y.2.1≤400) (hd:d≤y.2.1+1) (hdl:d≤ops.length) (hL:S.L.length≤1000000000000) (hAl:S.A.length≤1000000000000) :
  q0f Tryz.prog 107 ([]++[i y.1,i y.2.1,.bool y.2.2]++[ptr B.w,ptr B.z,ptr B.d,ptr B.o,ptr B.n]) m fun e m'=>e=.returned q2r∧∃ S' d',q4p m0 m' V C M B ops.length S' d' (q1e M ops w0 d')∧d'≤y.2.1+1∧d'≤ops.length∧S'.p=S.p∧(S'.A,S'.L)=q2p (S.A,S.L) (wayP C M ops w0 y):=by
 obtain ⟨to,at',caught⟩:=y
 simp only at hto hsame hy hd
 obtain ⟨q,hq⟩:∃ q:Nat,to=q:=⟨to.toNat,by omega⟩
 subst hq
 simp only [Int.toNat_natCast] at hto hsame
 refine q0e q0d Tryz.func107 w1a rfl ?_
 refine Br.mk (fun hc=>?_) (fun hc=>?_)
 ·have hc:caught=true:=hc
  subst hc
  refine WLd.mk _ (q3z hF.bw) ?_
  refine WLd.mk _ (q3z hF.bz) ?_
  conv=>whnf
  have hzl:(q3q C).length=C.rg.toNat:=by simp [q3q]
  rw [← hzl]
  refine q0a.mk (z7g hF.wt hto.2 hF.zb (hF.nf _ (by simp)) (fun w hw=>by rw [hzl];exact hsame w hw) (by rw [hzl];omega) hL hAl) ?_
  rintro _ m2 ⟨rfl,S',h1,h2,h3,h4,h5⟩
  refine WRet.same ⟨rfl,S',d,hF.meet h1 h2 h4 h5,hd,hdl,h2,?_⟩
  rw [h3];rfl
 ·have hc:caught=false:=hc
  subst hc
  have hdl8:∀ o,dlS M o≤8:=fun o=>(z7o hM o).2
  conv=>whnf
  refine q0v.mk Nat (fun _=>[]) (fun d1 m'=>q4p m0 m' V C M B ops.length S d1 (q1e M ops w0 d1)∧d1≤at'+1∧d1≤ops.length) (fun d1=>ops.length - d1) d trivial ⟨hF,hd,hdl⟩ ?_
  rintro d1 m1 ⟨hF1,hd1,hdl1⟩
  refine WLd.mk _ (q3z hF1.bd) ?_
  refine WLd.mk _ (q3z hF1.bo) ?_
  refine WSc.mk (v:=decide ((d1:Int)≤(at':Int))) (fun _=>?_) ?_
  ·refine WLd.mk _ (q3z hF1.bd) ?_
   conv=>whnf
   exact And.intro (Mem.le.refl _) rfl
  refine Br.mk (fun hb=>?_) (fun hb=>?_)
  ·have hb':d1<ops.length∧d1≤at':=by
    simp only [scB,Bool.and_eq_true,decide_eq_true_eq] at hb
    omega
   obtain ⟨ad3,had3,hop⟩:=v0l hO hF1.le hb'.1
   have hok:=hops _ (List.getElem_mem hb'.1)
   have hns:=z3s (M:=M) (w0:=w0) hb'.1
   have hnl:(q1e M ops w0 d1).length=C.rg.toNat:=by rw [z7s];exact hw0l
   have hm1:=hF1.le _ _ hm0
   generalize ops[d1]=o at *
   refine WLd.mk _ (q3z hF1.bo) ?_
   refine WLd.mk _ (q3z hF1.bd) ?_
   refine WIdx.mk ad3 had3 ⟨by omega,by omega⟩ ?_
   refine WLds.mk o.cells (by simpa using hop) rfl ?_
   conv=>whnf
   refine q0a.pure (v5g hm1 o hok.kd) ?_
   by_cases hu:uD o.kd=true
   ·rw [if_pos hu]
    refine Br.mk (fun hb2=>?_) (fun hb2=>absurd (of_decide_eq_false hb2) (by have:=hok.ds;omega))
    obtain ⟨e,he,he2⟩:∃ e:Nat,o.ds=e∧e<C.rg.toNat:=⟨o.ds.toNat,by have:=hok.ds;omega,by have:=hok.ds;omega⟩
    rw [he]
    have hst:q1e M ops w0 (d1+1)=(q1e M ops w0 d1).set e (max ((q1e M ops w0 d1).getD e 0) (dlS M o)):=by
     rw [hns];unfold q3e;rw [v3k o hu,he];rfl
    refine WLd.mk _ (q3z hF1.bn) ?_
    refine WLd.mk _ (q3z hF1.bn) ?_
    refine WIdx.mk _ rfl ⟨by omega,by omega⟩ ?_
    refine WLd.mk (v8 ((q1e M ops w0 d1).getD e 0)) (by simpa using hF1.nb.cell (by rw [hnl];exact he2)) ?_
    refine WLd.mk _ (q3z hF1.bw) ?_
    refine WLd.mk _ (q3z hF1.bo) ?_
    refine WLd.mk _ (q3z hF1.bd) ?_
    refine WIdx.mk ad3 had3 ⟨by omega,by omega⟩ ?_
    refine WLds.mk o.cells (by simpa using hop) rfl ?_
    conv=>whnf
    refine ⟨?_,trivial⟩
    conv=>whnf
    refine q1r.pure (v6b hm1 hF1.wt.hp hM o) ?_
    refine WIdx.mk _ rfl ⟨by omega,by omega⟩ ?_
    conv=>whnf
    refine ⟨?_,trivial⟩
    conv=>whnf
    have er:Int.toNat ((e:Nat):Int) * 1=e:=by simp
    rw [er,max8]
    obtain ⟨rest,hnb⟩:=hF1.nb
    refine WSt.at _ _ hnb (show e+1≤_ by simp [hnl];omega) ?_
    rw [show q0k (Value.int IntKind.i8 ((max ((q1e M ops w0 d1).getD e 0) (dlS M o):Nat):Int))=[v8 (max ((q1e M ops w0 d1).getD e 0) (dlS M o))] from rfl,z4s (by rw [hnl];exact he2),← hst]
    have hF2:=hF1.setNow (now':=q1e M ops w0 (d1+1)) (rest:=rest)
    generalize m1.set B.nb (Cells ((q1e M ops w0 (d1+1)).map v8++rest) 117)=m2 at hF2 ⊢
    refine WLd.mk _ (q3z hF2.bd) ?_
    refine WRng.mk (by apply wrap_i64<;>omega) ?_
    refine WSt.mk _ _ hF2.bd rfl (Nat.le_refl _) ?_
    have hF3:=hF2.setD (d':=d1+1)
    conv=>whnf
    exact ⟨d1+1,trivial,⟨hF3,by omega,hb'.1⟩,Nat.sub_lt_sub_left hb'.1 (Nat.lt_succ_self d1)⟩
   ·have hu:uD o.kd=false:=by simpa using hu
    rw [if_neg (by rw [hu];decide)]
    have hst:q1e M ops w0 (d1+1)=q1e M ops w0 d1:=by
     rw [hns];unfold q3e;rw [v3r o hu]
    refine Br.mk (fun hb2=>absurd (of_decide_eq_true hb2) (by decide)) (fun hb2=>?_)
    refine WLd.mk _ (q3z hF1.bd) ?_
    refine WRng.mk (by apply wrap_i64<;>omega) ?_
    refine WSt.mk _ _ hF1.bd rfl (Nat.le_refl _) ?_
    have hF3:=hF1.setD (d':=d1+1)
    rw [← hst] at hF3
    conv=>whnf
    exact ⟨d1+1,trivial,⟨hF3,by omega,hb'.1⟩,Nat.sub_lt_sub_left hb'.1 (Nat.lt_succ_self d1)⟩
  ·have hb':¬ (d1<ops.length∧d1≤at'):=by
    simp only [scB,Bool.and_eq_false_iff,decide_eq_false_iff_not] at hb
    omega
   have hna:q1e M ops w0 d1=q1e M ops w0 (at'+1):=by
    by_cases e:d1=at'+1
    ·rw [e]
    ·have e2:d1=ops.length:=by omega
     rw [e2,v2b (j:=at'+1) (by omega)]
   have hnl:(q1e M ops w0 d1).length=C.rg.toNat:=by rw [z7s];exact hw0l
   have hub:=k6n hdl8 (ops:=ops) hw0 d1
   have hnew:=hF1.wt
   have hcl:=z8x (c:=B.nc) hF1.nb (by omega)
   rw [hnl] at hcl
   refine WLd.mk _ (q3z hF1.bn) ?_
   conv=>whnf
   refine q0a.mk hcl ?_
   rintro _ m2 ⟨b',c',rfl,hle2,hR2,hb'n⟩
   conv=>whnf
   refine q0v.mk Nat (fun r=>[(55,.val (i r))]) (fun r m'=>r≤C.rg.toNat∧Mem.le m1 m'∧R8 m' b' (preD (q1e M ops w0 d1) r)) (fun r=>C.rg.toNat - r) 0 ⟨rfl,trivial⟩ ⟨Nat.zero_le _,hle2,hR2⟩ ?_
   rintro r m3 ⟨hr,hle3,hR3⟩
   have hpl:(preD (q1e M ops w0 d1) r).length=C.rg.toNat:=by rw [z2w];exact hnl
   refine Br.mk (fun hb3=>?_) (fun hb3=>?_)
   ·have hr2:r<C.rg.toNat:=by
     have:(r:Int)<C.rg.toNat:=of_decide_eq_true hb3
     omega
    have hv8:(preD (q1e M ops w0 d1) r).getD r 0≤8:=by
     rw [z3i,if_neg (by omega),List.getD_eq_getElem?_getD,List.getElem?_eq_getElem (by omega)]
     exact hub _ (List.getElem_mem _)
    refine WIdx.mk _ rfl ⟨by omega,by omega⟩ ?_
    refine WLd.mk (v8 ((preD (q1e M ops w0 d1) r).getD r 0)) (by simpa using hR3.cell (by rw [hpl];exact hr2)) ?_
    refine WIdx.mk _ rfl ⟨by omega,by omega⟩ ?_
    conv=>whnf
    have er:Int.toNat ((r:Nat):Int) * 1=r:=by simp
    rw [er,dec8 hv8]
    obtain ⟨rest,hnb⟩:=hR3
    refine WSt.at _ _ hnb (show r+1≤_ by simp [hpl];omega) ?_
    rw [show q0k (Value.int IntKind.i8 (((preD (q1e M ops w0 d1) r).getD r 0 - 1:Nat):Int))=[v8 ((preD (q1e M ops w0 d1) r).getD r 0 - 1)] from rfl,z4s (by rw [hpl];exact hr2)]
    refine WRng.mk (by apply wrap_i64<;>omega) ?_
    conv=>whnf
    exact ⟨r+1,⟨rfl,trivial⟩,⟨hr2,q2n hle3 hb'n,rest,Mem.set_same _ _ _⟩,Nat.sub_lt_sub_left hr2 (Nat.lt_succ_self r)⟩
   ·have hr2:r=C.rg.toNat:=by
     have:¬ (r:Int)<C.rg.toNat:=of_decide_eq_false hb3
     omega
    subst hr2
    rw [← hnl,w0s] at hR3
    have hF3:=hF1.mono hle3
    have hdwl:(decW (q1e M ops w0 d1)).length=C.rg.toNat:=by rw [z5s];exact hnl
    have hnf:¬ S.foot b':=hF1.wt.notfree hb'n
    refine WLd.mk _ (q3z hF3.bw) ?_
    conv=>whnf
    have hme:=z7g hF3.wt (cl:=c') hto.2 hR3 hnf (fun w hw=>by rw [hdwl];exact hsame w hw) (by rw [hdwl];omega) hL hAl
    rw [hdwl] at hme
    refine q0a.mk hme ?_
    rintro _ m4 ⟨rfl,S',h1,h2,h3,h4,h5⟩
    refine WRet.same ⟨rfl,S',d1,hF3.meet h1 h2 h4 h5,hd1,hdl1,h2,?_⟩
    rw [h3,hna];rfl
end Go.Proofs.YtleofbpepfmfgaaGreatDoor
