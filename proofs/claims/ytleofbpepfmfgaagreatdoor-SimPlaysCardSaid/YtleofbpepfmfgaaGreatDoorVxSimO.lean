import Derived.Test.YtleofbpepfmfgaaGreatDoorVxSimB
set_option linter.unusedSimpArgs false
set_option linter.unusedVariables false
set_option maxRecDepth 100000
namespace Go.Proofs.YtleofbpepfmfgaaGreatDoor
open Go Go.Vx
open Go.Vx.IOp Go.Vx.IR Go.Vx.Opd
def z8u:IR:=(match z2f.body with | .seq _ (.seq _ r)=>r | r=>r)
def meetA:IR:=(match z2f.body with | .seq a (.seq _ r)=>a | r=>r)
def meetB:IR:=(match z2f.body with | .seq _ (.seq b r)=>b | r=>r)
theorem j9y:z2f.body=.seq meetA (.seq meetB z8u):=rfl
section
variable {m:Mem} {V:CV} {C:q0c} {M:Mac} {S:Wt}
theorem WtAt.at17 (h:WtAt m V C M S):q0q m ((⟨S.p,0,none⟩:Addr).add 17) (.slice (some ⟨S.ba,0,none⟩) S.A.length S.A.length):=by
 rw [add0];exact ⟨_,_,_,h.hp,rfl,rfl⟩
theorem WtAt.at18 (h:WtAt m V C M S):q0q m ((⟨S.p,0,none⟩:Addr).add 18) (.slice S.aw S.L.length S.cw):=by
 rw [add0];exact ⟨_,_,_,h.hp,rfl,rfl⟩
theorem WtAt.atRow (h:WtAt m V C M S) {k:Nat} {x:Option (List Nat)} (hk:S.A[k]? = some x):q0q m ((⟨S.ba,0,none⟩:Addr).add k) (S.rowV k x):=by
 obtain ⟨rows,h1,h2,h3⟩:=h.ha
 rw [add0];exact ⟨_,_,_,h1,rfl,by simpa using h3 k x hk⟩
theorem WSt.at {m:Mem} {b z:Nat} {vs:List Value} {K:Mem→Prop} (l:List Value) (T:TypeId) (h:m b=some (Cells l T)) (hb:z+vs.length≤l.length) (k:K (m.set b (Cells (q0j l z vs) T))):WSt m ((⟨b,0,none⟩:Addr).add z) vs K:=by
 rw [add0];exact WSt.mk l T h rfl hb k
theorem w8gt (a b:Nat):(decide ((a:Int)>(b:Int)))=decide (a>b):=by
 by_cases h:a>b
 ·rw [decide_eq_true h,decide_eq_true (by omega)]
 ·rw [decide_eq_false h,decide_eq_false (by omega)]
theorem v5w {word bl cl:Nat} {l w0:List Nat} (h:WtAt m V C M S) (hw:S.A[word]? = some (some w0)) (hwl:w0.length=l.length) (hl:R8 m bl l) (hbl:¬ S.foot bl)
  (hlen:l.length≤1000000) (hL:S.L.length≤1000000000000) (hAl:S.A.length≤1000000000000) (g:Bool) {R:Ending→Mem→Prop}
  (k:∀ S' m',WtAt m' V C M S'→S'.p=S.p→S'.A=S.A.set word (some (maxW w0 l))→S'.L=(if (g||decide (maxW w0 l≠w0))=true then S.L++[word] else S.L)→Keep S.foot m m'→(∀ b,S'.foot b→S.foot b∨m b=none)→R (.returned q2r) m') :
  wpI Tryz.prog z8u (q0i [] R) (envL [(0,.val (ptr S.p)),(1,.val (i word)),(2,.val (.slice (some ⟨bl,0,none⟩) l.length cl)),(6,.val (.bool g))]) m:=by
 have hwA:word<S.A.length:=(List.getElem?_eq_some_iff.1 hw).1
 have hset0:S.A.set word (some w0)=S.A:=by
  apply List.ext_getElem (by simp)
  intro j h1 h2
  rw [List.getElem_set]
  split
  ·rename_i e;subst e
   rw [List.getElem?_eq_getElem hwA] at hw
   exact (Option.some.inj hw).symm
  ·rfl
 conv=>whnf
 refine q0v.mk (Nat×Bool) (fun s=>[(6,.val (.bool s.2)),(29,.val (i s.1))])
  (fun s m'=>s.1≤l.length∧s.2=(g||decide (preW w0 l s.1≠w0))∧WtAt m' V C M { S with A:=S.A.set word (some (preW w0 l s.1)) }∧Keep S.foot m m') (fun s=>l.length - s.1) (0,g)
  ⟨rfl,rfl,trivial⟩ ⟨Nat.zero_le _,by simp [preW],by rw [preW,hset0];exact h,Keep.refl _ _⟩ ?_
 rintro ⟨r,g'⟩ m' ⟨hr,hg,hS,hkp⟩
 simp only at hr hg hS
 have hwr:({ S with A:=S.A.set word (some (preW w0 l r)) }:Wt).A[word]? = some (some (preW w0 l r)):=by
  show (S.A.set word _)[word]? = _
  rw [q4g hwA,if_pos rfl]
 have h17:=hS.at17
 have hrow:=hS.atRow hwr
 have hR:=hS.row word _ hwr
 have hlr:R8 m' bl l:=by
  obtain ⟨rest,hm⟩:=hl
  exact ⟨rest,hkp _ _ hm hbl⟩
 have hal:(S.A.set word (some (preW w0 l r))).length=S.A.length:=by simp
 refine Br.mk (fun hb=>?_) (fun hb=>?_)
 ·have hr2:r<l.length:=by
   have:(r:Int)<l.length:=of_decide_eq_true hb
   omega
  refine WIdx.mk _ rfl ⟨by omega,by omega⟩ ?_
  refine WLd.mk (v8 (l.getD r 0)) (by simpa using hlr.cell hr2) ?_
  refine WLd.mk _ h17 ?_
  refine WIdx.mk _ rfl ⟨by omega,by simp only;omega⟩ ?_
  refine WLd.mk _ (by simpa using hrow) ?_
  refine WIdx.mk _ rfl ⟨by omega,by rw [q6s];omega⟩ ?_
  refine WLd.mk (v8 ((preW w0 l r).getD r 0)) (by simpa using hR.cell (by rw [q6s];omega)) ?_
  refine Br.mk (fun hb2=>?_) (fun hb2=>?_)
  ·have hgt:l.getD r 0>(preW w0 l r).getD r 0:=by rw [w8gt] at hb2;exact of_decide_eq_true hb2
   obtain ⟨n1,n2⟩:=j0g (by omega) hgt
   refine WLd.mk _ h17 ?_
   refine WIdx.mk _ rfl ⟨by omega,by simp only;omega⟩ ?_
   refine WLd.mk _ (by simpa using hrow) ?_
   refine WIdx.mk _ rfl ⟨by omega,by rw [q6s];omega⟩ ?_
   conv=>whnf
   obtain ⟨rest,hR2⟩:=hR
   have er:Int.toNat ((r:Nat):Int) * 1=r:=by simp
   rw [er]
   refine WSt.at _ _ hR2 (show r+1≤_ by simp [q6s];omega) ?_
   rw [show q0k (Value.int IntKind.i8 ((l.getD r 0:Nat):Int))=[v8 (l.getD r 0)] from rfl,z4s (by rw [q6s];omega),← n1]
   have hS2:=hS.setRow (w':=preW w0 l (r+1)) (rest:=rest) hwr (by rw [q6s,q6s])
   have hk2:Keep S.foot m (m'.set (S.rb word) (Cells ((preW w0 l (r+1)).map v8++rest) 117)):=hkp.set (.inl (.inr (.inr (.inl ⟨word,_,hw,rfl⟩))))
   refine WRng.mk (by apply wrap_i64<;>omega) ?_
   conv=>whnf
   refine ⟨(r+1,true),⟨rfl,rfl,trivial⟩,⟨hr2,?_,?_,hk2⟩,Nat.sub_lt_sub_left hr2 (Nat.lt_succ_self r)⟩
   ·show true=(g||decide (preW w0 l (r+1)≠w0))
    rw [decide_eq_true n2,Bool.or_true]
   ·have:S.A.set word (some (preW w0 l (r+1)))=(S.A.set word (some (preW w0 l r))).set word (some (preW w0 l (r+1))):=by rw [List.set_set]
    show WtAt _ V C M { S with A:=S.A.set word (some (preW w0 l (r+1))) }
    rw [this];exact hS2
  ·have hgt:¬ l.getD r 0>(preW w0 l r).getD r 0:=by rw [w8gt] at hb2;exact of_decide_eq_false hb2
   have hpk:=j7f hgt
   refine WRng.mk (by apply wrap_i64<;>omega) ?_
   conv=>whnf
   refine ⟨(r+1,g'),⟨rfl,rfl,trivial⟩,⟨hr2,?_,?_,hkp⟩,Nat.sub_lt_sub_left hr2 (Nat.lt_succ_self r)⟩
   ·show g'=(g||decide (preW w0 l (r+1)≠w0))
    rw [hpk];exact hg
   ·show WtAt _ V C M { S with A:=S.A.set word (some (preW w0 l (r+1))) }
    rw [hpk];exact hS
 ·have hr2:r=l.length:=by
   have:¬ (r:Int)<l.length:=of_decide_eq_false hb
   omega
  subst hr2
  rw [w4y hwl] at hS hg hwr
  have hfoot:∀ b,({ S with A:=S.A.set word (some (maxW w0 l)) }:Wt).foot b→S.foot b:=fun b hb=>Wt.foot_setRow hw hb
  refine Br.mk (fun hb2=>?_) (fun hb2=>?_)
  ·refine WLd.mk _ hS.at18 ?_
   refine WNew.ab fun bx mx hbx lx cx=>?_
   have hSx:=hS.mono lx
   conv=>whnf
   refine pushW hSx (x:=word) cx (by simp only;omega) fun b' c' rest m2 e1 e2 e3 e4=>?_
   have hfr:mx b'=none→m b'=none:=fun h1=>by
    cases hh:m b' with
    | none=>rfl
    | some o =>
     by_cases hf:S.foot b'
     ·obtain ⟨o',ho'⟩:=hS.live (S:={ S with A:=S.A.set word (some (maxW w0 l)) }) (b:=b') (by
       rcases hf with hf | hf | ⟨j,v,hj,hf⟩ | hf
       ·exact .inl hf
       ·exact .inr (.inl hf)
       ·refine .inr (.inr (.inl ?_))
        by_cases e:word=j
        ·subst e;exact ⟨word,_,hwr,hf⟩
        ·exact ⟨j,v,by show (S.A.set word _)[j]? = _;rw [q4g hwA,if_neg e];exact hj,hf⟩
       ·exact .inr (.inr (.inr hf)))
      rw [lx _ _ ho'] at h1;cases h1
     ·rw [lx _ _ (hkp _ _ hh hf)] at h1;cases h1
   have hpb:S.p≠b':=fun e=>by
    have:=hSx.hp
    rcases e3 with e3 | e3
    ·rw [show ({ S with A:=S.A.set word (some (maxW w0 l)) }:Wt).p=S.p from rfl,e,e3] at this;cases this
    ·rcases hSx.wk with ⟨f1,_⟩ | ⟨b3,r3,f1,hm3,_⟩
     ·rw [f1] at e3;cases e3
     ·have f2:some (⟨b3,0,none⟩:Addr)=some ⟨b',0,none⟩:=f1.symm.trans e3
      cases f2
      exact q5a this hm3 (by decide) e
   have hp2:m2 S.p=some (Cells (({ S with A:=S.A.set word (some (maxW w0 l)) }:Wt).cells V C M) TW):=by rw [e4 _ hpb];exact hSx.hp
   refine WSt.at _ _ hp2 (show 18+1≤19 from Nat.le_refl _) ?_
   have hset:q0j (({ S with A:=S.A.set word (some (maxW w0 l)) }:Wt).cells V C M) 18 (q0k (.slice (some ⟨b',0,none⟩) (S.L.length+1) c'))=({ S with A:=S.A.set word (some (maxW w0 l)),L:=S.L++[word],aw:=some ⟨b',0,none⟩,cw:=c' }:Wt).cells V C M:=by
    unfold Wt.cells
    rw [List.length_append]
    rfl
   rw [hset]
   have hS3:WtAt (m2.set S.p (Cells (({ S with A:=S.A.set word (some (maxW w0 l)),L:=S.L++[word],aw:=some ⟨b',0,none⟩,cw:=c' }:Wt).cells V C M) TW)) V C M { S with A:=S.A.set word (some (maxW w0 l)),L:=S.L++[word],aw:=some ⟨b',0,none⟩,cw:=c' } :=
    hSx.setWork (Mem.set_same _ _ _) (fun b o hb hn1 hn2=>by
     rw [Mem.set_other _ _ hn1,e4 b (fun e=>?_)]
     ·exact hb
     ·subst e
      rcases e3 with e3 | e3
      ·rw [hb] at e3;cases e3
      ·exact hn2 e3) (.inr ⟨b',rest,rfl,by rw [Mem.set_other _ _ (fun e=>hpb e.symm)];exact e1,e2⟩)
   have hk3:Keep S.foot m (m2.set S.p (Cells (({ S with A:=S.A.set word (some (maxW w0 l)),L:=S.L++[word],aw:=some ⟨b',0,none⟩,cw:=c' }:Wt).cells V C M) TW)):=fun b o hb hnf=>by
    have hm1:=lx _ _ (hkp b o hb hnf)
    rw [Mem.set_other _ _ (fun e=>hnf (.inl e)),e4 b (fun e=>?_)]
    ·exact hm1
    ·subst e
     rcases e3 with e3 | e3
     ·rw [hm1] at e3;cases e3
     ·exact hnf (.inr (.inr (.inr e3)))
   refine WRet.same (k _ _ hS3 rfl rfl ?_ hk3 fun b hb=>?_)
   ·have hb3:g'=true:=hb2
    rw [if_pos (by rw [← hg,hb3])]
   ·rcases hb with hb | hb | hb | hb
    ·exact .inl (.inl hb)
    ·exact .inl (.inr (.inl hb))
    ·exact .inl (hfoot b (.inr (.inr (.inl hb))))
    ·have hb:some (⟨b',0,none⟩:Addr)=some ⟨b,0,none⟩:=hb
     cases hb
     rcases e3 with e3 | e3
     ·exact .inr (hfr e3)
     ·exact .inl (.inr (.inr (.inr e3)))
  ·refine WRet.same (k _ _ hS rfl rfl ?_ hkp fun b hb=>.inl (hfoot b hb))
   have hb3:g'=false:=hb2
   rw [if_neg (by rw [← hg,hb3];decide)]
attribute [irreducible] z8u
theorem k3y {l:List Nat}:maxW (List.replicate l.length 0) l=l:=by
 apply List.ext_getElem (by rw [z4q (by simp)];simp)
 intro j h1 h2
 have:=q9o (a:=List.replicate l.length 0) (b:=l) (by simp) j
 rw [List.getD_eq_getElem?_getD,List.getElem?_eq_getElem h1,Option.getD_some] at this
 rw [this,List.getD_eq_getElem?_getD,List.getD_eq_getElem?_getD,List.getElem?_eq_getElem h2,List.getElem?_replicate,if_pos h2]
 simp
theorem z7g {word bl cl:Nat} {l:List Nat} (h:WtAt m V C M S) (hw:word<S.A.length) (hl:R8 m bl l) (hbl:¬ S.foot bl) (hsame:∀ w,S.A[word]? = some (some w)→w.length=l.length)
  (hlen:l.length≤1000000) (hL:S.L.length≤1000000000000) (hAl:S.A.length≤1000000000000) :
  q0f Tryz.prog 73 [ptr S.p,i word,.slice (some ⟨bl,0,none⟩) l.length cl] m fun e m'=>e=.returned q2r∧∃ S',WtAt m' V C M S'∧S'.p=S.p∧(S'.A,S'.L)=q2p (S.A,S.L) (word,l)∧Keep S.foot m m'∧∀ b,S'.foot b→S.foot b∨m b=none:=by
 refine q0e q0d Tryz.func73 k0v rfl ?_
 unfold Fn.asks
 rw [j9y]
 refine WLd.mk _ h.at17 ?_
 refine WIdx.mk _ rfl ⟨by omega,by omega⟩ ?_
 obtain ⟨x,hx⟩:∃ x,S.A[word]? = some x:=⟨_,List.getElem?_eq_getElem hw⟩
 cases x with
 | some w0 =>
  have hwl:=hsame w0 hx
  refine WLd.mk (.slice (some ⟨S.rb word,0,none⟩) w0.length (S.rc word)) (by have:=h.atRow hx;simpa [Wt.rowV] using this) ?_
  refine Br.mk (fun hb=>by cases hb) (fun _=>?_)
  conv=>whnf
  refine q0x (v5w h hx hwl hl hbl hlen hL hAl false (cl:=cl) ?_) ⟨rfl,rfl,rfl,rfl,trivial⟩
  intro S' m' h1 h2 h3 h4 h5 h6
  refine ⟨rfl,S',h1,h2,?_,h5,h6⟩
  unfold q2p
  rw [hx,h3,h4]
  simp only
  by_cases e:maxW w0 l=w0
  ·rw [if_pos e,if_neg (by simp [e]),e]
   congr 1
   apply List.ext_getElem (by simp)
   intro j g1 g2
   rw [List.getElem_set]
   split
   ·rename_i e2;subst e2
    rw [List.getElem?_eq_getElem hw] at hx
    exact (Option.some.inj hx).symm
   ·rfl
  ·rw [if_neg e,if_pos (by simp [e])]
 | none =>
  obtain ⟨rows,hr1,hr2,hr3⟩:=h.ha
  refine WLd.mk ns (by have:=h.atRow hx;simpa [Wt.rowV] using this) ?_
  refine Br.mk (fun _=>?_) (fun hb=>by cases hb)
  refine WLd.mk _ h.at17 ?_
  conv=>whnf
  refine ⟨?_,trivial⟩
  conv=>whnf
  refine q2z.mk ⟨by omega,Int.le_refl _,by omega⟩ fun b hb=>?_
  simp only [Int.toNat_natCast]
  have hz:(List.replicate l.length [Value.int IntKind.i8 0]).flatten=(List.replicate l.length 0).map v8++[]:=by simp [v8]
  rw [hz]
  refine WIdx.mk _ rfl ⟨by omega,by omega⟩ ?_
  conv=>whnf
  refine ⟨?_,trivial⟩
  conv=>whnf
  have er:Int.toNat ((word:Nat):Int) * 1=word:=by simp
  rw [er]
  have hbne:S.ba≠b:=q3y hr1 hb
  refine WSt.at rows TR (by rw [Mem.set_other _ _ hbne];exact hr1) (show word+1≤_ by rw [hr2];exact hw) ?_
  have hn:=h.newRow (w:=List.replicate l.length 0) (rest:=[]) (c:=l.length) hx hb hr1
  have hsp:q0j rows word (q0k (Value.slice (some ⟨b,0,none⟩) l.length l.length))=rows.set word (.slice (some ⟨b,0,none⟩) (List.replicate l.length 0).length l.length):=by
   rw [List.length_replicate];rfl
  rw [hsp]
  generalize hm2:(m.set b (Cells ((List.replicate l.length 0).map v8++[]) 117)).set S.ba (Cells (rows.set word (.slice (some ⟨b,0,none⟩) (List.replicate l.length 0).length l.length)) TR)=m2 at hn ⊢
  have hk2:Keep S.foot m m2:=by
   rw [← hm2]
   exact ((Keep.refl _ _).set (.inr hb)).set (.inl (.inr (.inl rfl)))
  conv=>whnf
  have hbl2:¬ (S.withRow word b l.length (List.replicate l.length 0)).foot bl:=fun hf=>by
   rcases Wt.foot_withRow hx hf with hf | hf
   ·exact hbl hf
   ·obtain ⟨r0,hr0⟩:=hl
    rw [hf,hb] at hr0;cases hr0
  have hl2:R8 m2 bl l:=by
   obtain ⟨r0,hr0⟩:=hl
   exact ⟨r0,hk2 _ _ hr0 hbl⟩
  have hw2:(S.withRow word b l.length (List.replicate l.length 0)).A[word]? = some (some (List.replicate l.length 0)):=by
   show (S.A.set word _)[word]? = _
   rw [q4g hw,if_pos rfl]
  refine q0x (v5w hn hw2 (by simp) hl2 hbl2 hlen hL (by show (S.A.set word _).length≤_;simpa using hAl) true (cl:=cl) ?_) ⟨rfl,rfl,rfl,rfl,trivial⟩
  intro S' m' h1 h2 h3 h4 h5 h6
  have hfr:∀ x,(S.withRow word b l.length (List.replicate l.length 0)).foot x→S.foot x∨m x=none:=fun x hxf=>by
   rcases Wt.foot_withRow hx hxf with hf | hf
   ·exact .inl hf
   ·exact .inr (by rw [hf];exact hb)
  refine ⟨rfl,S',h1,h2,?_,hk2.trans' h5 hfr,fun x hxf=>?_⟩
  ·unfold q2p
   rw [hx,h3,h4]
   simp only [Bool.true_or,if_true]
   show (((S.A.set word _).set word _),S.L++[word])=_
   rw [List.set_set,k3y]
  ·rcases h6 x hxf with h7 | h7
   ·exact hfr x h7
   ·refine .inr ?_
    cases hh:m x with
    | none=>rfl
    | some o =>
     by_cases hf:S.foot x
     ·have:=hn.notfree h7
      exfalso
      apply this
      rcases hf with hf | hf | ⟨j,v,hj,hf⟩ | hf
      ·exact .inl hf
      ·exact .inr (.inl hf)
      ·refine .inr (.inr (.inl ⟨j,v,?_,?_⟩))
       ·show (S.A.set word _)[j]? = _
        rw [q4g hw,if_neg (fun e=>by subst e;rw [hx] at hj;cases hj)];exact hj
       ·show x=if j=word then b else S.rb j
        rw [if_neg (fun e=>by subst e;rw [hx] at hj;cases hj)];exact hf
      ·exact .inr (.inr (.inr hf))
     ·rw [hk2 x o hh hf] at h7;cases h7
end
theorem z5n {m:Mem} {V:CV} {C:q0c} (hV:q1q m V C) {k:Nat} (hk:k<C.ws.length):∃ ad a3 c3,V.a2=some ad∧q0g m (ad.add (k * 2)) [.slice a3 (q1b C k).ops.length c3,i (q1b C k).ct]∧OAt m (.slice a3 (q1b C k).ops.length c3) (q1b C k).ops:=by
 obtain ⟨a2',c2',e2,hw0,hw1,hw2⟩:=hV.ws
 have ea2:V.a2=a2':=by injection e2
 subst ea2
 obtain ⟨ad,had⟩:∃ ad,V.a2=some ad:=by
  cases hh:V.a2 with
  | none=>rw [hw0 hh] at hk;simp at hk
  | some ad=>exact ⟨ad,rfl⟩
 have hwk:C.ws[k]=q1b C k:=by
  unfold q1b
  rw [List.getD_eq_getElem?_getD,List.getElem?_eq_getElem hk];rfl
 obtain ⟨a3,n3,c3,hcells,hops⟩:=hw1 ad had k hk
 rw [hwk] at hcells hops
 obtain ⟨a3',c3',e3,_⟩:=id hops
 injection e3 with e31 e32 e33
 subst e32
 exact ⟨ad,a3,c3,had,hcells,hops⟩
theorem q0f.mono {P:Program} {f:Nat} {vs:List Value} {m:Mem} {R R':Ending→Mem→Prop} (h:q0f P f vs m R) (hr:∀ e m',R e m'→R' e m'):q0f P f vs m R' :=
 ⟨h.1,fun w hw=>(h.2 w hw).mono fun e w' hh=>by obtain ⟨m',a,b⟩:=hh;exact ⟨m',a,hr _ _ b⟩⟩
structure Hd1 where
 a:Option Addr
 c:Nat
abbrev HdF:=Nat→Hd1
def HdF.upd (H:HdF) (k:Nat) (h:Hd1):HdF:=fun j=>if j=k then h else H j
theorem q1c (H:HdF) (k:Nat) (h:Hd1):H.upd k h k=h:=if_pos rfl
theorem q0u (H:HdF) {k j:Nat} (h:Hd1) (e:j≠k):H.upd k h j=H j:=if_neg e
def q3x (h:Hd1) (b:Nat):Prop:=h.c≠0∧h.a=some ⟨b,0,none⟩
structure q2g (m:Mem) (N:Nat) (ty sz:Nat→Nat) (H:HdF) (num:Nat→Nat) (cont:Nat→List Value):Prop where
 len:∀ j,j<N→(cont j).length=num j * sz j
 cap:∀ j,j<N→num j≤(H j).c
 blk:∀ j,j<N→(H j).c≠0→∃ b rest,(H j).a=some ⟨b,0,none⟩∧m b=some (Cells (cont j++rest) (ty j))∧(cont j).length+rest.length=(H j).c * sz j
 inj:∀ j k b,j<N→k<N→q3x (H j) b→q3x (H k) b→j=k
def q5o (N:Nat) (H:HdF) (b:Nat):Prop:=∃ j,j<N∧q3x (H j) b
section
variable {m m':Mem} {N:Nat} {ty sz:Nat→Nat} {H:HdF} {num:Nat→Nat} {cont:Nat→List Value}
theorem q2g.own (h:q2g m N ty sz H num cont) {j b:Nat} (hj:j<N) (hb:q3x (H j) b):∃ rest,m b=some (Cells (cont j++rest) (ty j))∧(cont j).length+rest.length=(H j).c * sz j:=by
 obtain ⟨b',rest,h1,h2,h3⟩:=h.blk j hj hb.1
 rw [hb.2] at h1;cases h1
 exact ⟨rest,h2,h3⟩
theorem q2g.live (h:q2g m N ty sz H num cont) {b:Nat} (hb:q5o N H b):∃ L j,j<N∧m b=some (Cells L (ty j)):=by
 obtain ⟨j,hj,hb⟩:=hb
 obtain ⟨rest,h1,_⟩:=h.own hj hb
 exact ⟨_,j,hj,h1⟩
theorem q2g.free (h:q2g m N ty sz H num cont) {b:Nat} (hb:m b=none):¬ q5o N H b:=fun hf=>by
 obtain ⟨L,j,_,h1⟩:=h.live hf
 rw [hb] at h1;cases h1
theorem q2g.room (h:q2g m N ty sz H num cont) {j:Nat} (hj:j<N) (hn:num j≠0):∃ b rest,q3x (H j) b∧m b=some (Cells (cont j++rest) (ty j))∧(cont j).length+rest.length=(H j).c * sz j:=by
 have hc:(H j).c≠0:=by have:=h.cap j hj;omega
 obtain ⟨b,rest,h1,h2,h3⟩:=h.blk j hj hc
 exact ⟨b,rest,⟨hc,h1⟩,h2,h3⟩
theorem q2g.same (h:q2g m N ty sz H num cont) (hk:∀ b o,q5o N H b→m b=some o→m' b=some o):q2g m' N ty sz H num cont where
 len:=h.len
 cap:=h.cap
 blk:=fun j hj hc=>by
  obtain ⟨b,rest,h1,h2,h3⟩:=h.blk j hj hc
  exact ⟨b,rest,h1,hk _ _ ⟨j,hj,hc,h1⟩ h2,h3⟩
 inj:=h.inj
theorem q2g.mono (h:q2g m N ty sz H num cont) (hle:Mem.le m m'):q2g m' N ty sz H num cont:=h.same fun b o _ hb=>hle b o hb
theorem q2g.put (h:q2g m N ty sz H num cont) {k b:Nat} {H':HdF} {num':Nat→Nat} {cont':Nat→List Value} {rest:List Value} (hk:k<N)
  (hH:∀ j,j<N→j≠k→H' j=H j∧num' j=num j∧cont' j=cont j) (ha:(H' k).a=some ⟨b,0,none⟩) (hb:m b=none∨q3x (H k) b)
  (hm:m' b=some (Cells (cont' k++rest) (ty k))) (hl:(cont' k).length=num' k * sz k) (hcap:num' k≤(H' k).c) (hr:(cont' k).length+rest.length=(H' k).c * sz k)
  (hx:∀ x o,x≠b→q5o N H x→m x=some o→m' x=some o):q2g m' N ty sz H' num' cont' where
 len:=fun j hj=>by
  by_cases e:j=k
  ·subst e;exact hl
  ·obtain ⟨_,h2,h3⟩:=hH j hj e;rw [h2,h3];exact h.len j hj
 cap:=fun j hj=>by
  by_cases e:j=k
  ·subst e;exact hcap
  ·obtain ⟨h1,h2,_⟩:=hH j hj e;rw [h1,h2];exact h.cap j hj
 blk:=fun j hj hc=>by
  by_cases e:j=k
  ·subst e;exact ⟨b,rest,ha,hm,hr⟩
  ·obtain ⟨h1,h2,h3⟩:=hH j hj e
   rw [h1] at hc ⊢
   rw [h3]
   obtain ⟨b2,r2,g1,g2,g3⟩:=h.blk j hj hc
   refine ⟨b2,r2,g1,hx _ _ (fun e2=>?_) ⟨j,hj,hc,g1⟩ g2,g3⟩
   subst e2
   rcases hb with hb | hb
   ·rw [hb] at g2;cases g2
   ·exact e (h.inj j k _ hj hk ⟨hc,g1⟩ hb)
 inj:=fun i j x hi hj hxi hxj=>by
  have key:∀ q,q<N→q≠k→q3x (H' q) x→q3x (H' k) x→False:=fun q hq e h1 h2=>by
   obtain ⟨g1,_,_⟩:=hH q hq e
   rw [g1] at h1
   have e3:=h2.2
   rw [ha] at e3
   cases e3
   rcases hb with hb | hb
   ·exact h.free hb ⟨q,hq,h1⟩
   ·exact e (h.inj q k _ hq hk h1 hb)
  by_cases e1:i=k
  ·by_cases e2:j=k
   ·rw [e1,e2]
   ·subst e1;exact (key j hj e2 hxj hxi).elim
  ·by_cases e2:j=k
   ·subst e2;exact (key i hi e1 hxi hxj).elim
   ·obtain ⟨g1,_,_⟩:=hH i hi e1
    obtain ⟨g2,_,_⟩:=hH j hj e2
    rw [g1] at hxi;rw [g2] at hxj
    exact h.inj i j x hi hj hxi hxj
theorem q2g.drop (h:q2g m N ty sz H num cont) {k:Nat} {H':HdF} {num':Nat→Nat} {cont':Nat→List Value} (hk:k<N)
  (hH:∀ j,j<N→j≠k→H' j=H j∧num' j=num j∧cont' j=cont j) (hc:(H' k).c=0) (hn:num' k=0) (hl:cont' k=[]):q2g m N ty sz H' num' cont' where
 len:=fun j hj=>by
  by_cases e:j=k
  ·subst e;rw [hl,hn];simp
  ·obtain ⟨_,h2,h3⟩:=hH j hj e;rw [h2,h3];exact h.len j hj
 cap:=fun j hj=>by
  by_cases e:j=k
  ·subst e;rw [hn];exact Nat.zero_le _
  ·obtain ⟨h1,h2,_⟩:=hH j hj e;rw [h1,h2];exact h.cap j hj
 blk:=fun j hj hc2=>by
  by_cases e:j=k
  ·subst e;exact absurd hc hc2
  ·obtain ⟨h1,h2,h3⟩:=hH j hj e
   rw [h1] at hc2 ⊢;rw [h3];exact h.blk j hj hc2
 inj:=fun i j x hi hj hxi hxj=>by
  by_cases e1:i=k
  ·subst e1;exact absurd hc hxi.1
  ·by_cases e2:j=k
   ·subst e2;exact absurd hc hxj.1
   ·obtain ⟨g1,_,_⟩:=hH i hi e1
    obtain ⟨g2,_,_⟩:=hH j hj e2
    rw [g1] at hxi;rw [g2] at hxj
    exact h.inj i j x hi hj hxi hxj
theorem q2g.cellsAt (h:q2g m N ty sz H num cont) {j:Nat} (hj:j<N) {ad:Addr} (ha:(H j).a=some ad):q0g m ad (cont j):=fun q v hq=>by
 have hlt:=(List.getElem?_eq_some_iff.1 hq).1
 have hn:num j≠0:=fun e=>by have:=h.len j hj;rw [e,Nat.zero_mul] at this;omega
 obtain ⟨b,rest,hb,hm,_⟩:=h.room hj hn
 rw [hb.2] at ha;cases ha
 exact q0g.blk hm (fun q v hq=>by rw [Nat.zero_add,List.getElem?_append_left (List.getElem?_eq_some_iff.1 hq).1];exact hq) q v hq
theorem q2g.app (h:q2g m N ty sz H num cont) {k bx Tx n c bytes:Nat} {a:Option Addr} {x zero:List Value} {K:Value→Mem→Prop} (hk:k<N) (ha:a=(H k).a) (hn:n=num k) (hcc:c=(H k).c) (hz:zero.length=sz k) (hs:0<sz k)
  (hx:m bx=some (Cells x Tx)) (hxl:x.length=sz k) (ho:oneL x=true) (hlen:(num k+1) * bytes≤35184372088832) (hnil:(H k).a=none→num k=0)
  (kk:∀ b' c' rest m',m' b'=some (Cells (cont k++x++rest) (ty k))→num k+1≤c'→(cont k++x).length+rest.length=c' * sz k→(m b'=none∨q3x (H k) b')→(∀ b,b≠b'→m' b=m b)→K (.slice (some ⟨b',0,none⟩) (num k+1) c') m') :
  WApp m (ty k) (sz k) bytes zero a n c (some ⟨bx,0,none⟩) 1 K:=by
 subst ha;subst hn;subst hcc
 have hnew:q2v m (some ⟨bx,0,none⟩) (1 * sz k) x:=⟨by rw [hxl,Nat.one_mul],fun ad had=>by cases had;exact q0g.blk hx fun j v hj=>by rw [Nat.zero_add];exact hj⟩
 have hL:=h.len k hk
 by_cases hcc:num k+1≤(H k).c
 ·obtain ⟨b,rest,g1,g2,g3⟩:=h.blk k hk (by omega)
  obtain ⟨q,hq⟩:∃ q,(H k).c=num k+1+q:=⟨(H k).c - (num k+1),by omega⟩
  have hrl:rest.length=sz k+q * sz k:=by
   rw [hL,hq,Nat.add_mul,Nat.add_mul,Nat.one_mul] at g3;omega
  rw [g1]
  refine WApp.in (ad:=⟨b,0,none⟩) _ hnew (fun h=>by cases h) _ (ty k) hcc g2 rfl (by rw [List.length_append,hL,hrl];simp only;omega) ho ?_
  have e:q0j (cont k++rest) (0+num k * sz k) x=cont k++x++rest.drop (sz k):=by
   rw [q5x _ _ _ (by rw [List.length_append,hL,hrl,hxl];omega),Nat.zero_add,← hL,List.take_left' rfl,hxl,List.drop_append]
   rw [List.drop_eq_nil_of_le (by omega),List.nil_append,show (cont k).length+sz k - (cont k).length=sz k by omega]
  refine kk b (H k).c (rest.drop (sz k)) _ (by rw [Mem.set_same,e]) hcc ?_ (.inr ⟨by omega,g1⟩) fun b3 hb3=>Mem.set_other _ _ hb3
  rw [List.length_append,List.length_drop,hrl,hxl,hL,hq,Nat.add_mul,Nat.add_mul,Nat.one_mul];omega
 ·refine WApp.grow _ hnew (fun h=>by cases h) (by omega) hlen (cont k) ⟨hL,fun ad had=>h.cellsAt hk had⟩ hnil fun b2 c2 hb2 hc2=>?_
  refine kk b2 c2 ((List.replicate (c2 - (num k+1)) zero).flatten) _ (Mem.set_same _ _ _) hc2 ?_ (.inl hb2) fun b hb=>Mem.set_other _ _ hb
  obtain ⟨q,hq⟩:∃ q,c2=num k+1+q:=⟨c2 - (num k+1),by omega⟩
  rw [List.length_append,z2z,hz,hxl,hL,hq,show num k+1+q - (num k+1)=q by omega,Nat.add_mul,Nat.add_mul,Nat.one_mul]
end
section
variable {α:Type} {f:α→List Value} {k:Nat}
def q0r (f:α→List Value) (L:List α):List Value:=(L.map f).flatten
theorem z0p (x:α) (L:List α):q0r f (x :: L)=f x++q0r f L:=rfl
theorem z0i (A B:List α):q0r f (A++B)=q0r f A++q0r f B:=by unfold q0r;rw [List.map_append,List.flatten_append]
theorem z6e (x:α):q0r f [x]=f x:=by show f x++[]=_;rw [List.append_nil]
theorem q1y (hf:∀ x,(f x).length=k) (L:List α):(q0r f L).length=L.length * k:=by
 induction L with
 | nil=>simp [q0r]
 | cons x L ih=>rw [z0p,List.length_append,ih,hf,List.length_cons,Nat.add_mul,Nat.one_mul,Nat.add_comm]
theorem v1o (hf:∀ x,(f x).length=k) (L:List α) (j:Nat):q0r f (L.take j)=(q0r f L).take (j * k):=by
 induction L generalizing j with
 | nil=>simp [q0r]
 | cons x L ih =>
  cases j with
  | zero=>simp [q0r]
  | succ j =>
   rw [List.take_succ_cons,z0p,z0p,ih,List.take_append,hf,show (j+1) * k - k=j * k by rw [Nat.add_mul,Nat.one_mul];omega,List.take_of_length_le (l:=f x) (by rw [hf,Nat.add_mul,Nat.one_mul];omega)]
theorem v7h (hf:∀ x,(f x).length=k) (L:List α) (j:Nat):q0r f (L.drop j)=(q0r f L).drop (j * k):=by
 induction L generalizing j with
 | nil=>simp [q0r]
 | cons x L ih =>
  cases j with
  | zero=>simp
  | succ j =>
   rw [List.drop_succ_cons,z0p,ih,List.drop_append,hf,show (j+1) * k - k=j * k by rw [Nat.add_mul,Nat.one_mul];omega,List.drop_eq_nil_of_le (show (f x).length≤(j+1) * k by rw [hf,Nat.add_mul,Nat.one_mul];omega),List.nil_append]
theorem q8a (hf:∀ x,(f x).length=k) {L:List α} {j q:Nat} (hj:j<L.length) (hq:q<k):(q0r f L)[j * k+q]? = (f L[j])[q]?:=by
 have e:q0r f L=(q0r f L).take (j * k)++q0r f (L.drop j):=by rw [v7h hf,List.take_append_drop]
 have hl:((q0r f L).take (j * k)).length=j * k:=by
  rw [List.length_take,q1y hf];have:=Nat.mul_le_mul_right k (Nat.le_of_lt hj);omega
 rw [e,List.getElem?_append_right (by rw [hl];omega),hl,show j * k+q - j * k=q by omega,List.drop_eq_getElem_cons hj,z0p,List.getElem?_append_left (by rw [hf];exact hq)]
theorem q9e (hf:∀ x,(f x).length=k) {L:List α} {j:Nat} (hj:j<L.length) (x:α) (rest:List Value):q0j (q0r f L++rest) (j * k) (f x)=q0r f (L.set j x)++rest:=by
 have h1:j * k+k≤L.length * k:=by rw [← Nat.succ_mul];exact Nat.mul_le_mul_right k hj
 rw [q5x _ _ _ (by rw [List.length_append,q1y hf,hf];omega),hf,List.set_eq_take_append_cons_drop,if_pos hj,z0i,z0p,v1o hf,v7h hf,List.take_append_of_le_length (by rw [q1y hf];omega),List.drop_append_of_le_length (by rw [q1y hf];omega),show (j+1) * k=j * k+k by rw [Nat.add_mul,Nat.one_mul]]
 simp only [List.append_assoc]
end
abbrev TSim:Nat:=87
abbrev TVal:Nat:=92
abbrev TRes:Nat:=130
abbrev T64:Nat:=2
abbrev TRow:Nat:=29
def WayR.cells (w:WayR):List Value:=[i (w.rg:Int),i w.v.n,i w.v.b,i (w.t:Int)]
theorem q2c (v:VR):v.cells.length=2:=rfl
theorem q7n (w:WayR):w.cells.length=4:=rfl
def tyS:Nat→Nat | 1=>TVal | 2=>TVal | 3=>TRow | 4=>TRes | _=>T64
def szS:Nat→Nat | 1=>2 | 2=>2 | 4=>4 | _=>1
def numS (s:St):Nat→Nat | 0=>s.prints.length | 1=>s.regs.length | 2=>s.kept.length | 3=>s.arr.length | 4=>s.way.length | k+5=>(s.arr.getD k []).length
def q2h (H:HdF) (A:List (List Int)):List Value:=(List.range A.length).map fun k=>.slice (H (k+5)).a (A.getD k []).length (H (k+5)).c
def q0t (H:HdF) (s:St):Nat→List Value | 0=>s.prints.map i | 1=>q0r VR.cells s.regs | 2=>q0r VR.cells s.kept | 3=>q2h H s.arr | 4=>q0r WayR.cells s.way | k+5=>(s.arr.getD k []).map i
def hv (H:HdF) (s:St) (j:Nat):Value:=.slice (H j).a (numS s j) (H j).c
def q2q (s:St):Int:=if s.ended=true then -1 else s.word
def q1p (V:CV) (C:q0c) (M:Mac) (sv:Value) (H:HdF) (s:St):List Value :=
 [i (q2q s),i (s.took:Int),i (s.begun:Int),i s.kind,i s.value,hv H s 0,hv H s 1,hv H s 2,hv H s 3]++V.cells C++M.cells++[sv,hv H s 4]
abbrev famN (s:St):Nat:=5+s.arr.length
def q0s (p:Nat) (H:HdF) (s:St) (b:Nat):Prop:=b=p∨q5o (famN s) H b
structure q1m (m0:Mem) (V:CV) (C:q0c) (M:Mac) (sv:Value) (sh:List Int):Prop where
 code:q1q m0 V C
 ok:q3h C
 mac:M.ok=true
 shown:IAt m0 sv sh
 shl:sh.length≤1000
 laid:∃ T fr,m0 0=some (.cells ⟨q2f⟩ T fr)
structure q0l (m0 m:Mem) (V:CV) (C:q0c) (M:Mac) (sv:Value) (p:Nat) (H:HdF) (s:St):Prop where
 hp:m p=some (Cells (q1p V C M sv H s) TSim)
 fam:q2g m (famN s) tyS szS H (numS s) (q0t H s)
 le:Mem.le m0 m
 nw:∀ b,q0s p H s b→m0 b=none
 nil0:(H 0).a=none→s.prints=[]
 nil4:(H 4).a=none→s.way=[]
theorem k4h (j:Nat):tyS j≠TSim:=by
 match j with
 | 0=>decide
 | 1=>decide
 | 2=>decide
 | 3=>decide
 | 4=>decide
 | k+5=>show T64≠TSim;decide
structure Goes (m0:Mem) (V:CV) (C:q0c) (M:Mac) (sv:Value) (p:Nat) (m:Mem) (H:HdF) (s:St) (m':Mem) (H':HdF) (s':St):Prop where
 at':q0l m0 m' V C M sv p H' s'
 keep:Keep (q0s p H s) m m'
 new:∀ b,q0s p H' s' b→q0s p H s b∨m b=none
section
variable {m0 m m' m2:Mem} {V:CV} {C:q0c} {M:Mac} {sv:Value} {p:Nat} {H H' H2:HdF} {s s' s2:St}
theorem Goes.refl (h:q0l m0 m V C M sv p H s):Goes m0 V C M sv p m H s m H s:=⟨h,Keep.refl _ _,fun b hb=>.inl hb⟩
theorem Goes.trans (h:Goes m0 V C M sv p m H s m' H' s') (k:Goes m0 V C M sv p m' H' s' m2 H2 s2):Goes m0 V C M sv p m H s m2 H2 s2 :=
 ⟨k.at',h.keep.trans' k.keep h.new,fun b hb=>by
  rcases k.new b hb with h1 | h1
  ·exact h.new b h1
  ·by_cases hf:q0s p H s b
   ·exact .inl hf
   ·refine .inr ?_
    cases hh:m b with
    | none=>rfl
    | some o=>rw [h.keep b o hh hf] at h1;cases h1⟩
theorem q0l.live (h:q0l m0 m V C M sv p H s) {b:Nat} (hb:q0s p H s b):∃ o,m b=some o:=by
 rcases hb with hb | hb
 ·subst hb;exact ⟨_,h.hp⟩
 ·obtain ⟨L,j,_,h1⟩:=h.fam.live hb;exact ⟨_,h1⟩
theorem q0l.free (h:q0l m0 m V C M sv p H s) {b:Nat} (hb:m b=none):¬ q0s p H s b:=fun hf=>by
 obtain ⟨o,ho⟩:=h.live hf
 rw [hb] at ho;cases ho
theorem q0l.notp (h:q0l m0 m V C M sv p H s) {b:Nat} (hb:q5o (famN s) H b):b≠p:=fun e=>by
 subst e
 obtain ⟨L,j,_,h1⟩:=h.fam.live hb
 exact q5a h1 h.hp (k4h j) rfl
theorem q0l.same (h:q0l m0 m V C M sv p H s) (hle:Mem.le m0 m') (hk:∀ b o,q0s p H s b→m b=some o→m' b=some o):q0l m0 m' V C M sv p H s :=
 ⟨hk _ _ (.inl rfl) h.hp,h.fam.same fun b o hb=>hk b o (.inr hb),hle,h.nw,h.nil0,h.nil4⟩
theorem q0l.mono (h:q0l m0 m V C M sv p H s) (hle:Mem.le m m'):q0l m0 m' V C M sv p H s:=h.same (h.le.trans hle) fun b o _ hb=>hle b o hb
theorem q0l.goesMono (h:q0l m0 m V C M sv p H s) (hle:Mem.le m m'):Goes m0 V C M sv p m H s m' H s:=⟨h.mono hle,Keep.of_le hle,fun b hb=>.inl hb⟩
theorem q0l.hdr (h:q0l m0 m V C M sv p H s) (hN:famN s'=famN s) (hn:numS s'=numS s) (hc:q0t H s'=q0t H s) (hp0:s'.prints=s.prints) (hw:s'.way=s.way) :
  Goes m0 V C M sv p m H s (m.set p (Cells (q1p V C M sv H s') TSim)) H s':=by
 have hk:Keep (q0s p H s) m (m.set p (Cells (q1p V C M sv H s') TSim)):=(Keep.refl _ _).set (.inl (.inl rfl))
 have hf:∀ b,q0s p H s' b→q0s p H s b:=fun b hb=>by unfold q0s at hb ⊢;rw [hN] at hb;exact hb
 refine ⟨⟨Mem.set_same _ _ _,?_,hk.le h.le h.nw,fun b hb=>h.nw b (hf b hb),fun e=>by rw [hp0];exact h.nil0 e,fun e=>by rw [hw];exact h.nil4 e⟩,hk,fun b hb=>.inl (hf b hb)⟩
 rw [hN,hn,hc]
 exact h.fam.same fun b o hb hm=>by rw [Mem.set_other _ _ (h.notp hb)];exact hm
theorem q0l.cell (h:q0l m0 m V C M sv p H s) {k:Nat} {v:Value} (hk:(q1p V C M sv H s)[k]? = some v):q0q m ((⟨p,0,none⟩:Addr).add k) v:=by
 rw [add0];exact ⟨_,_,_,h.hp,rfl,by simpa using hk⟩
theorem q0l.put (h:q0l m0 m V C M sv p H s) {k b:Nat} {rest:List Value} (hk:k<famN s) (hb:q3x (H k) b) (hcells:q1p V C M sv H s'=q1p V C M sv H s) (hN:famN s'=famN s)
  (hH:∀ j,j<famN s→j≠k→numS s' j=numS s j∧q0t H s' j=q0t H s j) (hn:numS s' k=numS s k) (hl:(q0t H s' k).length=(q0t H s k).length)
  (hr:(q0t H s k).length+rest.length=(H k).c * szS k) (hp0:s'.prints.length=s.prints.length) (hw:s'.way.length=s.way.length) :
  Goes m0 V C M sv p m H s (m.set b (Cells (q0t H s' k++rest) (tyS k))) H s':=by
 have hF:q5o (famN s) H b:=⟨k,hk,hb⟩
 have hk2:Keep (q0s p H s) m (m.set b (Cells (q0t H s' k++rest) (tyS k))):=(Keep.refl _ _).set (.inl (.inr hF))
 have hf:∀ b,q0s p H s' b→q0s p H s b:=fun b hb=>by unfold q0s at hb ⊢;rw [hN] at hb;exact hb
 refine ⟨⟨?_,?_,hk2.le h.le h.nw,fun b hb=>h.nw b (hf b hb),fun e=>?_,fun e=>?_⟩,hk2,fun b hb=>.inl (hf b hb)⟩
 ·rw [Mem.set_other _ _ (fun e=>h.notp hF e.symm),hcells];exact h.hp
 ·rw [hN]
  refine h.fam.put hk (fun j hj e=>⟨rfl,hH j hj e⟩) hb.2 (.inr hb) (Mem.set_same _ _ _) (by rw [hl,hn];exact h.fam.len k hk) (by rw [hn];exact h.fam.cap k hk) (by rw [hl];exact hr) fun x o hx _ hm=>by rw [Mem.set_other _ _ hx];exact hm
 ·have:=h.nil0 e;rw [this] at hp0;exact List.length_eq_zero_iff.1 hp0
 ·have:=h.nil4 e;rw [this] at hw;exact List.length_eq_zero_iff.1 hw
end
structure LimS (s:St) (k:Nat):Prop where
 took:s.took≤k
 begun:s.begun≤k
 way:s.way.length≤k
 prints:s.prints.length≤k
theorem LimS.up {s:St} {j k:Nat} (h:LimS s j) (e:j≤k):LimS s k:=⟨Nat.le_trans h.took e,Nat.le_trans h.begun e,Nat.le_trans h.way e,Nat.le_trans h.prints e⟩
theorem Mem.set2 (m:Mem) (b:Nat) (o o':Obj):(Mem.set m b o).set b o'=Mem.set m b o':=by
 funext x;unfold Mem.set;split<;>rfl
theorem v2e (H:HdF) {k:Nat} (hk:k<5) (h:Hd1) (A:List (List Int)):q2h (H.upd k h) A=q2h H A:=by
 unfold q2h
 apply List.map_congr_left
 intro j _
 rw [q0u H h (by omega)]
theorem z1x (H:HdF) {k:Nat} (hk:k<5) (h:Hd1) (s:St) (j:Nat):q0t (H.upd k h) s j=q0t H s j:=by
 match j with
 | 0=>rfl
 | 1=>rfl
 | 2=>rfl
 | 3=>exact v2e H hk h _
 | 4=>rfl
 | j+5=>rfl
section
variable {m0 m m':Mem} {V:CV} {C:q0c} {M:Mac} {sv:Value} {p:Nat} {H:HdF} {s s':St} {sh:List Int}
theorem q0l.relist (h:q0l m0 m V C M sv p H s) {k b c:Nat} {rest:List Value} (hk:k<5) (hN:famN s'=famN s) (hH:∀ j,j≠k→numS s' j=numS s j∧q0t H s' j=q0t H s j)
  (hb:m b=none∨q3x (H k) b) (hm:m' b=some (Cells (q0t H s' k++rest) (tyS k))) (hp:m' p=some (Cells (q1p V C M sv (H.upd k ⟨some ⟨b,0,none⟩,c⟩) s') TSim))
  (hx:∀ x,x≠b→x≠p→m' x=m x) (hl:(q0t H s' k).length=numS s' k * szS k) (hcap:numS s' k≤c) (hr:(q0t H s' k).length+rest.length=c * szS k)
  (h0:k≠0→s'.prints=s.prints) (h4:k≠4→s'.way=s.way):Goes m0 V C M sv p m H s m' (H.upd k ⟨some ⟨b,0,none⟩,c⟩) s':=by
 have hkN:k<famN s:=by unfold famN;omega
 have hbp:b≠p:=by
  rcases hb with hb | hb
  ·exact fun e=>by subst e;rw [h.hp] at hb;cases hb
  ·exact h.notp ⟨k,hkN,hb⟩
 have hbf:q0s p H s b∨m b=none:=by
  rcases hb with hb | hb
  ·exact .inr hb
  ·exact .inl (.inr ⟨k,hkN,hb⟩)
 have hfoot:∀ x,q0s p (H.upd k ⟨some ⟨b,0,none⟩,c⟩) s' x→q0s p H s x∨m x=none:=fun x hf=>by
  rcases hf with hf | ⟨j,hj,hf⟩
  ·exact .inl (.inl hf)
  ·by_cases e:j=k
   ·subst e
    rw [q1c] at hf
    have:=hf.2
    cases this
    exact hbf
   ·rw [q0u H _ e] at hf
    rw [hN] at hj
    exact .inl (.inr ⟨j,hj,hf⟩)
 have hkeep:Keep (q0s p H s) m m':=fun x o hxo hn=>by
  by_cases e1:x=b
  ·subst e1
   rcases hbf with g | g
   ·exact absurd g hn
   ·rw [g] at hxo;cases hxo
  ·rw [hx x e1 (fun e=>hn (.inl e))];exact hxo
 refine ⟨⟨hp,?_,hkeep.le h.le h.nw,fun x hf=>?_,fun e=>?_,fun e=>?_⟩,hkeep,hfoot⟩
 ·rw [hN]
  refine h.fam.put hkN (b:=b) (fun j hj e=>⟨q0u H _ e,(hH j e).1,by rw [z1x H hk];exact (hH j e).2⟩) (by rw [q1c]) hb (rest:=rest) (by rw [z1x H hk];exact hm) (by rw [z1x H hk];exact hl) (by rw [q1c];exact hcap) (by rw [z1x H hk,q1c];exact hr) fun x o e hf hxo=>?_
  rw [hx x e (h.notp hf)];exact hxo
 ·rcases hfoot x hf with g | g
  ·exact h.nw x g
  ·exact q1z h.le g
 ·by_cases e0:k=0
  ·subst e0;rw [q1c] at e;cases e
  ·rw [q0u H _ (Ne.symm e0)] at e;rw [h0 e0];exact h.nil0 e
 ·by_cases e0:k=4
  ·subst e0;rw [q1c] at e;cases e
  ·rw [q0u H _ (Ne.symm e0)] at e;rw [h4 e0];exact h.nil4 e
theorem q0l.dropWay (h:q0l m0 m V C M sv p H s) (hN:famN s'=famN s) (hH:∀ j,j≠4→numS s' j=numS s j∧q0t H s' j=q0t H s j) (hw:s'.way=[]) (h0:s'.prints=s.prints) {o:Obj}
  (hp:o=Cells (q1p V C M sv (H.upd 4 ⟨none,0⟩) s') TSim):Goes m0 V C M sv p m H s (m.set p o) (H.upd 4 ⟨none,0⟩) s':=by
 subst hp
 have hk2:Keep (q0s p H s) m (m.set p (Cells (q1p V C M sv (H.upd 4 ⟨none,0⟩) s') TSim)):=(Keep.refl _ _).set (.inl (.inl rfl))
 have hf:∀ b,q0s p (H.upd 4 ⟨none,0⟩) s' b→q0s p H s b:=fun b hb=>by
  rcases hb with hb | ⟨j,hj,hb⟩
  ·exact .inl hb
  ·by_cases e:j=4
   ·subst e;rw [q1c] at hb;exact absurd rfl hb.1
   ·rw [q0u H _ e] at hb;rw [hN] at hj;exact .inr ⟨j,hj,hb⟩
 refine ⟨⟨Mem.set_same _ _ _,?_,hk2.le h.le h.nw,fun b hb=>h.nw b (hf b hb),fun e=>?_,fun _=>hw⟩,hk2,fun b hb=>.inl (hf b hb)⟩
 ·rw [hN]
  have h1:q2g (m.set p (Cells (q1p V C M sv (H.upd 4 ⟨none,0⟩) s') TSim)) (famN s) tyS szS H (numS s) (q0t H s):=h.fam.same fun b o hb hm=>by rw [Mem.set_other _ _ (h.notp hb)];exact hm
  exact h1.drop (k:=4) (by unfold famN;omega) (fun j hj e=>⟨q0u H _ e,(hH j e).1,by rw [z1x H (by decide)];exact (hH j e).2⟩) (by rw [q1c]) (by show s'.way.length=0;rw [hw];rfl) (by show q0r _ s'.way=[];rw [hw];rfl)
 ·rw [h0];rw [q0u H _ (by decide)] at e;exact h.nil0 e
theorem q0l.regCells (h:q0l m0 m V C M sv p H s) {r:Nat} (hr:r<s.regs.length):∃ ad,(H 1).a=some ad∧q0g m (ad.add (r * 2)) (s.regs.getD r VR.zero).cells:=by
 obtain ⟨b,rest,hb,hm,_⟩:=h.fam.room (j:=1) (by unfold famN;omega) (show s.regs.length≠0 by omega)
 refine ⟨_,hb.2,fun q v hq=>?_⟩
 have hq2:q<2:=(List.getElem?_eq_some_iff.1 hq).1
 have:=h.fam.cellsAt (j:=1) (by unfold famN;omega) hb.2 (r * 2+q) v (by
  show (q0r VR.cells s.regs)[_]? = _
  rw [q8a q2c hr hq2]
  rw [List.getD_eq_getElem?_getD,List.getElem?_eq_getElem hr] at hq
  exact hq)
 rw [q0o];exact this
theorem q0l.keptCells (h:q0l m0 m V C M sv p H s) {r:Nat} (hr:r<s.kept.length):∃ ad,(H 2).a=some ad∧q0g m (ad.add (r * 2)) (s.kept.getD r VR.zero).cells:=by
 obtain ⟨b,rest,hb,hm,_⟩:=h.fam.room (j:=2) (by unfold famN;omega) (show s.kept.length≠0 by omega)
 refine ⟨_,hb.2,fun q v hq=>?_⟩
 have hq2:q<2:=(List.getElem?_eq_some_iff.1 hq).1
 have:=h.fam.cellsAt (j:=2) (by unfold famN;omega) hb.2 (r * 2+q) v (by
  show (q0r VR.cells s.kept)[_]? = _
  rw [q8a q2c hr hq2]
  rw [List.getD_eq_getElem?_getD,List.getElem?_eq_getElem hr] at hq
  exact hq)
 rw [q0o];exact this
theorem q0l.wayCells (h:q0l m0 m V C M sv p H s) {r:Nat} (hr:r<s.way.length):∃ ad,(H 4).a=some ad∧q0g m (ad.add (r * 4)) (s.way[r]).cells:=by
 obtain ⟨b,rest,hb,hm,_⟩:=h.fam.room (j:=4) (by unfold famN;omega) (show s.way.length≠0 by omega)
 refine ⟨_,hb.2,fun q v hq=>?_⟩
 have hq2:q<4:=(List.getElem?_eq_some_iff.1 hq).1
 have:=h.fam.cellsAt (j:=4) (by unfold famN;omega) hb.2 (r * 4+q) v (by
  show (q0r WayR.cells s.way)[_]? = _
  rw [q8a q7n hr hq2];exact hq)
 rw [q0o];exact this
theorem q0l.setReg (h:q0l m0 m V C M sv p H s) {r:Nat} (hr:r<s.regs.length) {v:VR} {ad:Addr} {vs:List Value} {K:Mem→Prop} (ha:(H 1).a=some ad) (hv:vs=v.cells)
  (k:∀ m',Goes m0 V C M sv p m H s m' H { s with regs:=s.regs.set r v }→K m'):WSt m (ad.add (r * 2)) vs K:=by
 subst hv
 obtain ⟨b,rest,hb,hm,hl⟩:=h.fam.room (j:=1) (by unfold famN;omega) (show s.regs.length≠0 by omega)
 rw [hb.2] at ha;cases ha
 have hlen:(q0t H s 1++rest).length=(q0t H s 1).length+rest.length:=List.length_append
 have hfl:(q0t H s 1).length=s.regs.length * 2:=q1y q2c _
 refine WSt.at _ _ hm (by rw [hlen,hfl];show r * 2+2≤_;omega) ?_
 have e:q0j (q0t H s 1++rest) (r * 2) v.cells=q0t H { s with regs:=s.regs.set r v } 1++rest:=q9e q2c hr v rest
 rw [e]
 refine k _ (h.put (k:=1) (by unfold famN;omega) hb ?_ rfl (fun j hj e=>?_) ?_ ?_ hl rfl rfl)
 ·unfold q1p hv;show _=_
  have:numS { s with regs:=s.regs.set r v } 1=numS s 1:=List.length_set
  rw [this];rfl
 ·match j,e with
  | 0,_=>exact ⟨rfl,rfl⟩
  | 2,_=>exact ⟨rfl,rfl⟩
  | 3,_=>exact ⟨rfl,rfl⟩
  | 4,_=>exact ⟨rfl,rfl⟩
  | j+5,_=>exact ⟨rfl,rfl⟩
 ·exact List.length_set
 ·show (q0r VR.cells (s.regs.set r v)).length=(q0r VR.cells s.regs).length
  rw [q1y q2c,q1y q2c,List.length_set]
theorem q0l.setKept (h:q0l m0 m V C M sv p H s) {r:Nat} (hr:r<s.kept.length) {v:VR} {ad:Addr} {vs:List Value} {K:Mem→Prop} (ha:(H 2).a=some ad) (hv:vs=v.cells)
  (k:∀ m',Goes m0 V C M sv p m H s m' H { s with kept:=s.kept.set r v }→K m'):WSt m (ad.add (r * 2)) vs K:=by
 subst hv
 obtain ⟨b,rest,hb,hm,hl⟩:=h.fam.room (j:=2) (by unfold famN;omega) (show s.kept.length≠0 by omega)
 rw [hb.2] at ha;cases ha
 have hlen:(q0t H s 2++rest).length=(q0t H s 2).length+rest.length:=List.length_append
 have hfl:(q0t H s 2).length=s.kept.length * 2:=q1y q2c _
 refine WSt.at _ _ hm (by rw [hlen,hfl];show r * 2+2≤_;omega) ?_
 have e:q0j (q0t H s 2++rest) (r * 2) v.cells=q0t H { s with kept:=s.kept.set r v } 2++rest:=q9e q2c hr v rest
 rw [e]
 refine k _ (h.put (k:=2) (by unfold famN;omega) hb ?_ rfl (fun j hj e=>?_) ?_ ?_ hl rfl rfl)
 ·unfold q1p hv;show _=_
  have:numS { s with kept:=s.kept.set r v } 2=numS s 2:=List.length_set
  rw [this];rfl
 ·match j,e with
  | 0,_=>exact ⟨rfl,rfl⟩
  | 1,_=>exact ⟨rfl,rfl⟩
  | 3,_=>exact ⟨rfl,rfl⟩
  | 4,_=>exact ⟨rfl,rfl⟩
  | j+5,_=>exact ⟨rfl,rfl⟩
 ·exact List.length_set
 ·show (q0r VR.cells (s.kept.set r v)).length=(q0r VR.cells s.kept).length
  rw [q1y q2c,q1y q2c,List.length_set]
theorem q6u (h:q0l m0 m V C M sv p H s) (hB:q1m m0 V C M sv sh):q0m Tryz.prog 57 [ptr p] m (.bool false):=by
 refine q0e q0d Tryz.func57 w2i rfl ?_
 have hw:=hB.ok.wl
 refine WSc.mk (v:=false) (fun _=>?_) ?_
 ·refine WLd.mk (.slice V.a2 V.n2 V.c2) (by rw [q0o];exact h.cell rfl) ?_
  conv=>whnf
  refine And.intro (Mem.le.refl _) ?_
  show some (Value.bool ((V.n2:Int)==0))=some (Value.bool false)
  have:((V.n2:Nat):Int)≠0:=by rw [hB.code.n2];omega
  simpa using this
 exact WRet.same ⟨rfl,rfl⟩
end
end Go.Proofs.YtleofbpepfmfgaaGreatDoor
