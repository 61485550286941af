import Derived.Test.YtleofbpepfmfgaaGreatDoorVxSimB
set_option linter.unusedSimpArgs false
set_option linter.unusedVariables false
set_option maxRecDepth 100000
namespace Go.Proofs.YtleofbpepfmfgaaGreatDoor
open Go Go.Vx
open Go.Vx.IOp Go.Vx.IR Go.Vx.Opd
def meetTail:IR:=(match ir_sim_waits_meet.body with | .seq _ (.seq _ r)=>r | r=>r)
def meetA:IR:=(match ir_sim_waits_meet.body with | .seq a (.seq _ r)=>a | r=>r)
def meetB:IR:=(match ir_sim_waits_meet.body with | .seq _ (.seq b r)=>b | r=>r)
theorem meet_body:ir_sim_waits_meet.body = .seq meetA (.seq meetB meetTail):=rfl
section
variable {m:Mem} {V:CV} {C:CodeR} {M:Mac} {S:Wt}
theorem WtAt.at17 (h:WtAt m V C M S):CellAt m ((⟨S.p,0,none⟩:Addr).add 17) (.slice (some ⟨S.ba,0,none⟩) S.A.length S.A.length):=by
 rw [add0];exact ⟨_,_,_,h.hp,rfl,rfl⟩
theorem WtAt.at18 (h:WtAt m V C M S):CellAt m ((⟨S.p,0,none⟩:Addr).add 18) (.slice S.aw S.L.length S.cw):=by
 rw [add0];exact ⟨_,_,_,h.hp,rfl,rfl⟩
theorem WtAt.atRow (h:WtAt m V C M S) {k:Nat} {x:Option (List Nat)} (hk:S.A[k]? = some x):CellAt m ((⟨S.ba,0,none⟩:Addr).add k) (S.rowV k x):=by
 obtain ⟨rows,h1,h2,h3⟩:=h.ha
 rw [add0];exact ⟨_,_,_,h1,rfl,by simpa using h3 k x hk⟩
theorem WSt.at {m:Mem} {b z:Nat} {vs:List Value} {K:Mem → Prop} (l:List Value) (T:TypeId) (h:m b = some (Cells l T)) (hb:z + vs.length ≤ l.length) (k:K (m.set b (Cells (spliceL l z vs) T))):WSt m ((⟨b,0,none⟩:Addr).add z) vs K:=by
 rw [add0];exact WSt.mk l T h rfl hb k
theorem w8gt (a b:Nat):(decide ((a:Int) > (b:Int))) = decide (a > b):=by
 by_cases h:a > b
 ·rw [decide_eq_true h,decide_eq_true (by omega)]
 ·rw [decide_eq_false h,decide_eq_false (by omega)]
theorem meetTail_ok {word bl cl:Nat} {l w0:List Nat} (h:WtAt m V C M S) (hw:S.A[word]? = some (some w0)) (hwl:w0.length = l.length) (hl:R8 m bl l) (hbl:¬ S.foot bl)
  (hlen:l.length ≤ 1000000) (hL:S.L.length ≤ 1000000000000) (hAl:S.A.length ≤ 1000000000000) (g:Bool) {R:Ending → Mem → Prop}
  (k:∀ S' m',WtAt m' V C M S' → S'.p = S.p → S'.A = S.A.set word (some (maxW w0 l)) → S'.L = (if (g || decide (maxW w0 l ≠ w0)) = true then S.L ++ [word] else S.L) → Keep S.foot m m' → (∀ b,S'.foot b → S.foot b ∨ m b = none) → R (.returned unitV) m') :
  wpI Tryz.prog meetTail (retPost [] R) (envL [(0,.val (ptr S.p)),(1,.val (i word)),(2,.val (.slice (some ⟨bl,0,none⟩) l.length cl)),(6,.val (.bool g))]) m:=by
 have hwA:word < S.A.length:=(List.getElem?_eq_some_iff.1 hw).1
 have hset0:S.A.set word (some w0) = S.A:=by
  apply List.ext_getElem (by simp)
  intro j h1 h2
  rw [List.getElem_set]
  split
  ·rename_i e;subst e
   rw [List.getElem?_eq_getElem hwA] at hw
   exact (Option.some.inj hw).symm
  ·rfl
 conv=>whnf
 refine WLoop.mk (Nat × Bool) (fun s=>[(6,.val (.bool s.2)),(29,.val (i s.1))])
  (fun s m'=>s.1 ≤ l.length ∧ s.2 = (g || decide (preW w0 l s.1 ≠ w0)) ∧ WtAt m' V C M { S with A:=S.A.set word (some (preW w0 l s.1)) } ∧ Keep S.foot m m') (fun s=>l.length - s.1) (0,g)
  ⟨rfl,rfl,trivial⟩ ⟨Nat.zero_le _,by simp [preW],by rw [preW,hset0];exact h,Keep.refl _ _⟩ ?_
 rintro ⟨r,g'⟩ m' ⟨hr,hg,hS,hkp⟩
 simp only at hr hg hS
 have hwr:({ S with A:=S.A.set word (some (preW w0 l r)) }:Wt).A[word]? = some (some (preW w0 l r)):=by
  show (S.A.set word _)[word]? = _
  rw [set_get hwA,if_pos rfl]
 have h17:=hS.at17
 have hrow:=hS.atRow hwr
 have hR:=hS.row word _ hwr
 have hlr:R8 m' bl l:=by
  obtain ⟨rest,hm⟩:=hl
  exact ⟨rest,hkp _ _ hm hbl⟩
 have hal:(S.A.set word (some (preW w0 l r))).length = S.A.length:=by simp
 conv=>whnf
 refine Br.mk (fun hb=>?_) (fun hb=>?_)
 ·have hr2:r < l.length:=by
   have:(r:Int) < l.length:=of_decide_eq_true hb
   omega
  conv=>whnf
  refine WIdx.mk _ rfl ⟨by omega,by omega⟩ ?_
  conv=>whnf
  refine WLd.mk (v8 (l.getD r 0)) (by simpa using hlr.cell hr2) ?_
  conv=>whnf
  refine WLd.mk _ h17 ?_
  conv=>whnf
  refine WIdx.mk _ rfl ⟨by omega,by simp only;omega⟩ ?_
  conv=>whnf
  refine WLd.mk _ (by simpa using hrow) ?_
  conv=>whnf
  refine WIdx.mk _ rfl ⟨by omega,by rw [pre_len];omega⟩ ?_
  conv=>whnf
  refine WLd.mk (v8 ((preW w0 l r).getD r 0)) (by simpa using hR.cell (by rw [pre_len];omega)) ?_
  conv=>whnf
  refine Br.mk (fun hb2=>?_) (fun hb2=>?_)
  ·have hgt:l.getD r 0 > (preW w0 l r).getD r 0:=by rw [w8gt] at hb2;exact of_decide_eq_true hb2
   obtain ⟨n1,n2⟩:=pre_new (by omega) hgt
   conv=>whnf
   refine WLd.mk _ h17 ?_
   conv=>whnf
   refine WIdx.mk _ rfl ⟨by omega,by simp only;omega⟩ ?_
   conv=>whnf
   refine WLd.mk _ (by simpa using hrow) ?_
   conv=>whnf
   refine WIdx.mk _ rfl ⟨by omega,by rw [pre_len];omega⟩ ?_
   conv=>whnf
   obtain ⟨rest,hR2⟩:=hR
   have er:Int.toNat ((r:Nat):Int) * 1 = r:=by simp
   rw [er]
   refine WSt.at _ _ hR2 (show r + 1 ≤ _ by simp [pre_len];omega) ?_
   rw [show cellsL (Value.int IntKind.i8 ((l.getD r 0:Nat):Int)) = [v8 (l.getD r 0)] from rfl,set_row8 (by rw [pre_len];omega),← n1]
   have hS2:=hS.setRow (w':=preW w0 l (r + 1)) (rest:=rest) hwr (by rw [pre_len,pre_len])
   have hk2:Keep S.foot m (m'.set (S.rb word) (Cells ((preW w0 l (r + 1)).map v8 ++ rest) 117)):=hkp.set (.inl (.inr (.inr (.inl ⟨word,_,hw,rfl⟩))))
   conv=>whnf
   refine WRng.mk (by apply wrap_i64 <;> omega) ?_
   conv=>whnf
   refine ⟨(r + 1,true),⟨rfl,rfl,trivial⟩,⟨hr2,?_,?_,hk2⟩,Nat.sub_lt_sub_left hr2 (Nat.lt_succ_self r)⟩
   ·show true = (g || decide (preW w0 l (r + 1) ≠ w0))
    rw [decide_eq_true n2,Bool.or_true]
   ·have:S.A.set word (some (preW w0 l (r + 1))) = (S.A.set word (some (preW w0 l r))).set word (some (preW w0 l (r + 1))):=by rw [List.set_set]
    show WtAt _ V C M { S with A:=S.A.set word (some (preW w0 l (r + 1))) }
    rw [this];exact hS2
  ·have hgt:¬ l.getD r 0 > (preW w0 l r).getD r 0:=by rw [w8gt] at hb2;exact of_decide_eq_false hb2
   have hpk:=pre_keep hgt
   conv=>whnf
   refine WRng.mk (by apply wrap_i64 <;> omega) ?_
   conv=>whnf
   refine ⟨(r + 1,g'),⟨rfl,rfl,trivial⟩,⟨hr2,?_,?_,hkp⟩,Nat.sub_lt_sub_left hr2 (Nat.lt_succ_self r)⟩
   ·show g' = (g || decide (preW w0 l (r + 1) ≠ w0))
    rw [hpk];exact hg
   ·show WtAt _ V C M { S with A:=S.A.set word (some (preW w0 l (r + 1))) }
    rw [hpk];exact hS
 ·have hr2:r = l.length:=by
   have:¬ (r:Int) < l.length:=of_decide_eq_false hb
   omega
  subst hr2
  rw [pre_all hwl] at hS hg hwr
  have hfoot:∀ b,({ S with A:=S.A.set word (some (maxW w0 l)) }:Wt).foot b → S.foot b:=fun b hb=>Wt.foot_setRow hw hb
  conv=>whnf
  refine Br.mk (fun hb2=>?_) (fun hb2=>?_)
  ·conv=>whnf
   refine WLd.mk _ hS.at18 ?_
   conv=>whnf
   refine WNew.ab fun bx mx hbx lx cx=>?_
   have hSx:=hS.mono lx
   conv=>whnf
   refine pushW hSx (x:=word) cx (by simp only;omega) fun b' c' rest m2 e1 e2 e3 e4=>?_
   have hfr:mx b' = none → m b' = none:=fun h1=>by
    cases hh:m b' with
    | none=>rfl
    | some o =>
     by_cases hf:S.foot b'
     ·obtain ⟨o',ho'⟩:=hS.live (S:={ S with A:=S.A.set word (some (maxW w0 l)) }) (b:=b') (by
       rcases hf with hf | hf | ⟨j,v,hj,hf⟩ | hf
       ·exact .inl hf
       ·exact .inr (.inl hf)
       ·refine .inr (.inr (.inl ?_))
        by_cases e:word = j
        ·subst e;exact ⟨word,_,hwr,hf⟩
        ·exact ⟨j,v,by show (S.A.set word _)[j]? = _;rw [set_get hwA,if_neg e];exact hj,hf⟩
       ·exact .inr (.inr (.inr hf)))
      rw [lx _ _ ho'] at h1;cases h1
     ·rw [lx _ _ (hkp _ _ hh hf)] at h1;cases h1
   have hpb:S.p ≠ b':=fun e=>by
    have:=hSx.hp
    rcases e3 with e3 | e3
    ·rw [show ({ S with A:=S.A.set word (some (maxW w0 l)) }:Wt).p = S.p from rfl,e,e3] at this;cases this
    ·rcases hSx.wk with ⟨f1,_⟩ | ⟨b3,r3,f1,hm3,_⟩
     ·rw [f1] at e3;cases e3
     ·have f2:some (⟨b3,0,none⟩:Addr) = some ⟨b',0,none⟩:=f1.symm.trans e3
      cases f2
      exact ne_type this hm3 (by decide) e
   have hp2:m2 S.p = some (Cells (({ S with A:=S.A.set word (some (maxW w0 l)) }:Wt).cells V C M) TW):=by rw [e4 _ hpb];exact hSx.hp
   conv=>whnf
   refine WSt.at _ _ hp2 (show 18 + 1 ≤ 19 from Nat.le_refl _) ?_
   have hset:spliceL (({ S with A:=S.A.set word (some (maxW w0 l)) }:Wt).cells V C M) 18 (cellsL (.slice (some ⟨b',0,none⟩) (S.L.length + 1) c')) = ({ S with A:=S.A.set word (some (maxW w0 l)),L:=S.L ++ [word],aw:=some ⟨b',0,none⟩,cw:=c' }:Wt).cells V C M:=by
    unfold Wt.cells
    rw [List.length_append]
    rfl
   rw [hset]
   have hS3:WtAt (m2.set S.p (Cells (({ S with A:=S.A.set word (some (maxW w0 l)),L:=S.L ++ [word],aw:=some ⟨b',0,none⟩,cw:=c' }:Wt).cells V C M) TW)) V C M { S with A:=S.A.set word (some (maxW w0 l)),L:=S.L ++ [word],aw:=some ⟨b',0,none⟩,cw:=c' } :=
    hSx.setWork (Mem.set_same _ _ _) (fun b o hb hn1 hn2=>by
     rw [Mem.set_other _ _ hn1,e4 b (fun e=>?_)]
     ·exact hb
     ·subst e
      rcases e3 with e3 | e3
      ·rw [hb] at e3;cases e3
      ·exact hn2 e3) (.inr ⟨b',rest,rfl,by rw [Mem.set_other _ _ (fun e=>hpb e.symm)];exact e1,e2⟩)
   have hk3:Keep S.foot m (m2.set S.p (Cells (({ S with A:=S.A.set word (some (maxW w0 l)),L:=S.L ++ [word],aw:=some ⟨b',0,none⟩,cw:=c' }:Wt).cells V C M) TW)):=fun b o hb hnf=>by
    have hm1:=lx _ _ (hkp b o hb hnf)
    rw [Mem.set_other _ _ (fun e=>hnf (.inl e)),e4 b (fun e=>?_)]
    ·exact hm1
    ·subst e
     rcases e3 with e3 | e3
     ·rw [hm1] at e3;cases e3
     ·exact hnf (.inr (.inr (.inr e3)))
   conv=>whnf
   refine WRet.same (k _ _ hS3 rfl rfl ?_ hk3 fun b hb=>?_)
   ·have hb3:g' = true:=hb2
    rw [if_pos (by rw [← hg,hb3])]
   ·rcases hb with hb | hb | hb | hb
    ·exact .inl (.inl hb)
    ·exact .inl (.inr (.inl hb))
    ·exact .inl (hfoot b (.inr (.inr (.inl hb))))
    ·have hb:some (⟨b',0,none⟩:Addr) = some ⟨b,0,none⟩:=hb
     cases hb
     rcases e3 with e3 | e3
     ·exact .inr (hfr e3)
     ·exact .inl (.inr (.inr (.inr e3)))
  ·conv=>whnf
   refine WRet.same (k _ _ hS rfl rfl ?_ hkp fun b hb=>.inl (hfoot b hb))
   have hb3:g' = false:=hb2
   rw [if_neg (by rw [← hg,hb3];decide)]
attribute [irreducible] meetTail
theorem max_zero {l:List Nat}:maxW (List.replicate l.length 0) l = l:=by
 apply List.ext_getElem (by rw [max_len (by simp)];simp)
 intro j h1 h2
 have:=max_get (a:=List.replicate l.length 0) (b:=l) (by simp) j
 rw [List.getD_eq_getElem?_getD,List.getElem?_eq_getElem h1,Option.getD_some] at this
 rw [this,List.getD_eq_getElem?_getD,List.getD_eq_getElem?_getD,List.getElem?_eq_getElem h2,List.getElem?_replicate,if_pos h2]
 simp
theorem meet_ok {word bl cl:Nat} {l:List Nat} (h:WtAt m V C M S) (hw:word < S.A.length) (hl:R8 m bl l) (hbl:¬ S.foot bl) (hsame:∀ w,S.A[word]? = some (some w) → w.length = l.length)
  (hlen:l.length ≤ 1000000) (hL:S.L.length ≤ 1000000000000) (hAl:S.A.length ≤ 1000000000000) :
  CallsM Tryz.prog 73 [ptr S.p,i word,.slice (some ⟨bl,0,none⟩) l.length cl] m fun e m'=>e = .returned unitV ∧ ∃ S',WtAt m' V C M S' ∧ S'.p = S.p ∧ (S'.A,S'.L) = meetW (S.A,S.L) (word,l) ∧ Keep S.foot m m' ∧ ∀ b,S'.foot b → S.foot b ∨ m b = none:=by
 refine calls_of mixed Tryz.func73 ok_sim_waits_meet rfl ?_
 unfold Fn.asks
 rw [meet_body]
 conv=>whnf
 refine WLd.mk _ h.at17 ?_
 conv=>whnf
 refine WIdx.mk _ rfl ⟨by omega,by omega⟩ ?_
 obtain ⟨x,hx⟩:∃ x,S.A[word]? = some x:=⟨_,List.getElem?_eq_getElem hw⟩
 cases x with
 | some w0 =>
  have hwl:=hsame w0 hx
  conv=>whnf
  refine WLd.mk (.slice (some ⟨S.rb word,0,none⟩) w0.length (S.rc word)) (by have:=h.atRow hx;simpa [Wt.rowV] using this) ?_
  conv=>whnf
  refine Br.mk (fun hb=>by cases hb) (fun _=>?_)
  conv=>whnf
  refine rest_envL (meetTail_ok h hx hwl hl hbl hlen hL hAl false (cl:=cl) ?_) ⟨rfl,rfl,rfl,rfl,trivial⟩
  intro S' m' h1 h2 h3 h4 h5 h6
  refine ⟨rfl,S',h1,h2,?_,h5,h6⟩
  unfold meetW
  rw [hx,h3,h4]
  simp only
  by_cases e:maxW w0 l = w0
  ·rw [if_pos e,if_neg (by simp [e]),e]
   congr 1
   apply List.ext_getElem (by simp)
   intro j g1 g2
   rw [List.getElem_set]
   split
   ·rename_i e2;subst e2
    rw [List.getElem?_eq_getElem hw] at hx
    exact (Option.some.inj hx).symm
   ·rfl
  ·rw [if_neg e,if_pos (by simp [e])]
 | none =>
  obtain ⟨rows,hr1,hr2,hr3⟩:=h.ha
  conv=>whnf
  refine WLd.mk ns (by have:=h.atRow hx;simpa [Wt.rowV] using this) ?_
  conv=>whnf
  refine Br.mk (fun _=>?_) (fun hb=>by cases hb)
  conv=>whnf
  refine WLd.mk _ h.at17 ?_
  conv=>whnf
  refine ⟨?_,trivial⟩
  conv=>whnf
  refine WMake.mk ⟨by omega,Int.le_refl _,by omega⟩ fun b hb=>?_
  simp only [Int.toNat_natCast]
  have hz:(List.replicate l.length [Value.int IntKind.i8 0]).flatten = (List.replicate l.length 0).map v8 ++ []:=by simp [v8]
  rw [hz]
  conv=>whnf
  refine WIdx.mk _ rfl ⟨by omega,by omega⟩ ?_
  conv=>whnf
  refine ⟨?_,trivial⟩
  conv=>whnf
  have er:Int.toNat ((word:Nat):Int) * 1 = word:=by simp
  rw [er]
  have hbne:S.ba ≠ b:=ne_free hr1 hb
  refine WSt.at rows TR (by rw [Mem.set_other _ _ hbne];exact hr1) (show word + 1 ≤ _ by rw [hr2];exact hw) ?_
  have hn:=h.newRow (w:=List.replicate l.length 0) (rest:=[]) (c:=l.length) hx hb hr1
  have hsp:spliceL rows word (cellsL (Value.slice (some ⟨b,0,none⟩) l.length l.length)) = rows.set word (.slice (some ⟨b,0,none⟩) (List.replicate l.length 0).length l.length):=by
   rw [List.length_replicate];rfl
  rw [hsp]
  generalize hm2:(m.set b (Cells ((List.replicate l.length 0).map v8 ++ []) 117)).set S.ba (Cells (rows.set word (.slice (some ⟨b,0,none⟩) (List.replicate l.length 0).length l.length)) TR) = m2 at hn ⊢
  have hk2:Keep S.foot m m2:=by
   rw [← hm2]
   exact ((Keep.refl _ _).set (.inr hb)).set (.inl (.inr (.inl rfl)))
  conv=>whnf
  have hbl2:¬ (S.withRow word b l.length (List.replicate l.length 0)).foot bl:=fun hf=>by
   rcases Wt.foot_withRow hx hf with hf | hf
   ·exact hbl hf
   ·obtain ⟨r0,hr0⟩:=hl
    rw [hf,hb] at hr0;cases hr0
  have hl2:R8 m2 bl l:=by
   obtain ⟨r0,hr0⟩:=hl
   exact ⟨r0,hk2 _ _ hr0 hbl⟩
  have hw2:(S.withRow word b l.length (List.replicate l.length 0)).A[word]? = some (some (List.replicate l.length 0)):=by
   show (S.A.set word _)[word]? = _
   rw [set_get hw,if_pos rfl]
  refine rest_envL (meetTail_ok hn hw2 (by simp) hl2 hbl2 hlen hL (by show (S.A.set word _).length ≤ _;simpa using hAl) true (cl:=cl) ?_) ⟨rfl,rfl,rfl,rfl,trivial⟩
  intro S' m' h1 h2 h3 h4 h5 h6
  have hfr:∀ x,(S.withRow word b l.length (List.replicate l.length 0)).foot x → S.foot x ∨ m x = none:=fun x hxf=>by
   rcases Wt.foot_withRow hx hxf with hf | hf
   ·exact .inl hf
   ·exact .inr (by rw [hf];exact hb)
  refine ⟨rfl,S',h1,h2,?_,hk2.trans' h5 hfr,fun x hxf=>?_⟩
  ·unfold meetW
   rw [hx,h3,h4]
   simp only [Bool.true_or,if_true]
   show (((S.A.set word _).set word _),S.L ++ [word]) = _
   rw [List.set_set,max_zero]
  ·rcases h6 x hxf with h7 | h7
   ·exact hfr x h7
   ·refine .inr ?_
    cases hh:m x with
    | none=>rfl
    | some o =>
     by_cases hf:S.foot x
     ·have:=hn.notfree h7
      exfalso
      apply this
      rcases hf with hf | hf | ⟨j,v,hj,hf⟩ | hf
      ·exact .inl hf
      ·exact .inr (.inl hf)
      ·refine .inr (.inr (.inl ⟨j,v,?_,?_⟩))
       ·show (S.A.set word _)[j]? = _
        rw [set_get hw,if_neg (fun e=>by subst e;rw [hx] at hj;cases hj)];exact hj
       ·show x = if j = word then b else S.rb j
        rw [if_neg (fun e=>by subst e;rw [hx] at hj;cases hj)];exact hf
      ·exact .inr (.inr (.inr hf))
     ·rw [hk2 x o hh hf] at h7;cases h7
end
end Go.Proofs.YtleofbpepfmfgaaGreatDoor
set_option linter.unusedSimpArgs false
set_option linter.unusedVariables false
set_option maxRecDepth 100000
namespace Go.Proofs.YtleofbpepfmfgaaGreatDoor
open Go Go.Vx
open Go.Vx.IOp Go.Vx.IR Go.Vx.Opd
abbrev WayY:=Int × Nat × Bool
def waysS (k:Nat) (ct:Int):List OpR → Nat → List WayY
 | [],j=>[((k:Int) + 1,j,false)]
 | o :: os,j=>(if o.kd = 21 ∨ o.kd = 26 then [(o.n,j,false)] else []) ++ ((if mayTrapS o = true ∧ 0 ≤ ct then [(ct,j,true)] else []) ++ (if leavesS o = true then [] else waysS k ct os (j + 1)))
theorem drop_cons {O:List OpR} {j:Nat} (h:j < O.length):O.drop j = O[j] :: O.drop (j + 1):=List.drop_eq_getElem_cons h
set_option maxHeartbeats 2000000 in
theorem ways_ok {m0 m:Mem} (V:CV) {C:CodeR} (hV:CodeAt m0 V C) {k:Nat} (hk:k < C.ws.length) (hol:(wordAt C k).ops.length < 2 ^ 62) {g:Nat} {first caps:List Value} (I:List WayY → Mem → Prop) (hI:∀ pre m',I pre m' → Mem.le m0 m')
  (h0:I [] m) (hg:∀ pre y post m',waysS k (wordAt C k).ct (wordAt C k).ops 0 = pre ++ y :: post → I pre m' → CallsM Tryz.prog g (first ++ [i y.1,i y.2.1,.bool y.2.2] ++ caps) m' fun e m2=>e = .returned unitV ∧ I (pre ++ [y]) m2) :
  CallsM Tryz.prog 106 [V.val C,i k,.func (.func g) ⟨first⟩ ⟨caps⟩] m fun e m'=>e = .returned unitV ∧ I (waysS k (wordAt C k).ct (wordAt C k).ops 0) m':=by
 refine calls_of mixed Tryz.func106 ok_words_Ways rfl ?_
 have hn2:=hV.n2
 have hwsl:=hV.wsl
 obtain ⟨a2',c2',e2,hw0,hw1,hw2⟩:=hV.ws
 have ea2:V.a2 = a2':=by injection e2
 subst ea2
 obtain ⟨ad,had⟩:∃ ad,V.a2 = some ad:=by
  cases hh:V.a2 with
  | none=>rw [hw0 hh] at hk;simp at hk
  | some ad=>exact ⟨ad,rfl⟩
 have hwk:C.ws[k] = wordAt C k:=by
  unfold wordAt
  rw [List.getD_eq_getElem?_getD,List.getElem?_eq_getElem hk];rfl
 obtain ⟨a3,n3,c3,hcells,hops⟩:=hw1 ad had k hk
 rw [hwk] at hcells hops
 generalize wordAt C k = w at *
 obtain ⟨a3',c3',e3,ho0,ho1,ho2⟩:=hops
 injection e3 with e31 e32 e33
 subst e31;subst e32;subst e33
 have hle0:=hI _ _ h0
 conv=>whnf
 rw [hn2]
 refine WIdx.mk ad had ⟨by omega,by omega⟩ ?_
 conv=>whnf
 refine WLds.mk [.slice a3 w.ops.length c3,i w.ct] (by simpa using hcells.mono hle0) rfl ?_
 conv=>whnf
 refine WLoop.mk Nat (fun j=>[(17,.val (i j))]) (fun j m'=>j ≤ w.ops.length ∧ ∃ pre,waysS k w.ct w.ops 0 = pre ++ waysS k w.ct (w.ops.drop j) j ∧ I pre m') (fun j=>w.ops.length - j) 0 ⟨rfl,trivial⟩ ⟨Nat.zero_le _,[],by simp,h0⟩ ?_
 rintro j m' ⟨hj,pre,hpre,hIp⟩
 conv=>whnf
 refine Br.mk (fun hb=>?_) (fun hb=>?_)
 ·have hj2:j < w.ops.length:=by
   have:(j:Int) < w.ops.length:=of_decide_eq_true hb
   omega
  rw [drop_cons hj2] at hpre
  obtain ⟨ad3,had3⟩:∃ ad,a3 = some ad:=by
   cases hh:a3 with
   | none=>rw [ho0 hh] at hj2;simp at hj2
   | some ad=>exact ⟨ad,rfl⟩
  have hop:=OAt.cells (ho1 ad3 had3) hj2
  generalize w.ops[j] = o at *
  conv=>whnf
  refine WIdx.mk ad3 had3 ⟨by omega,by omega⟩ ?_
  conv=>whnf
  refine WLds.mk o.cells (by simpa using hop.mono (hI _ _ hIp)) rfl ?_
  have hpre:waysS k w.ct w.ops 0 = pre ++ ((if o.kd = 21 ∨ o.kd = 26 then [(o.n,j,false)] else []) ++ ((if mayTrapS o = true ∧ 0 ≤ w.ct then [(w.ct,j,true)] else []) ++ (if leavesS o = true then [] else waysS k w.ct (w.ops.drop (j + 1)) (j + 1)))):=hpre
  conv=>whnf
  refine WSc.mk (v:=o.kd == 26) (fun _=>?_) ?_
  ·conv=>whnf
   exact And.intro (Mem.le.refl _) rfl
  conv=>whnf
  refine Br.mk (fun hx=>?_) (fun hx=>?_)
  ·have hx':o.kd = 21 ∨ o.kd = 26:=by simpa [scB] using hx
   rw [if_pos hx'] at hpre
   conv=>whnf
   refine WCall.mk (hg pre (o.n,j,false) ((if mayTrapS o = true ∧ 0 ≤ w.ct then [(w.ct,j,true)] else []) ++ (if leavesS o = true then [] else waysS k w.ct (w.ops.drop (j + 1)) (j + 1))) m' (by rw [hpre];rfl) hIp) ?_
   rintro _ m1 ⟨rfl,hI1'⟩
   obtain ⟨pre1,hpre1,hI1⟩:∃ pre1,waysS k w.ct w.ops 0 = pre1 ++ ((if mayTrapS o = true ∧ 0 ≤ w.ct then [(w.ct,j,true)] else []) ++ (if leavesS o = true then [] else waysS k w.ct (w.ops.drop (j + 1)) (j + 1))) ∧ I pre1 m1:=⟨_,by rw [hpre];simp,hI1'⟩
   conv=>whnf
   refine WCall.pure (mayTrap_ok _ o) ?_
   conv=>whnf
   refine WSc.mk (v:=decide (w.ct ≥ 0)) (fun _=>?_) ?_
   ·conv=>whnf
    exact And.intro (Mem.le.refl _) rfl
   conv=>whnf
   refine Br.mk (fun ht=>?_) (fun ht=>?_)
   ·have ht':mayTrapS o = true ∧ 0 ≤ w.ct:=by simpa [scB] using ht
    rw [if_pos ht'] at hpre1
    conv=>whnf
    refine WCall.mk (hg pre1 (w.ct,j,true) (if leavesS o = true then [] else waysS k w.ct (w.ops.drop (j + 1)) (j + 1)) _ (by rw [hpre1];rfl) hI1) ?_
    rintro _ m2 ⟨rfl,hI2'⟩
    obtain ⟨pre2,hpre2,hI2⟩:∃ pre2,waysS k w.ct w.ops 0 = pre2 ++ (if leavesS o = true then [] else waysS k w.ct (w.ops.drop (j + 1)) (j + 1)) ∧ I pre2 m2:=⟨_,by rw [hpre1];simp,hI2'⟩
    conv=>whnf
    refine WCall.pure (wLeaves_ok _ o) ?_
    conv=>whnf
    refine Br.mk (fun hl=>?_) (fun hl=>?_)
    ·rw [if_pos hl,List.append_nil] at hpre2
     conv=>whnf
     exact WRet.same ⟨rfl,by rw [hpre2];exact hI2⟩
    ·rw [if_neg (by rw [hl];decide)] at hpre2
     conv=>whnf
     refine WRng.mk (by apply wrap_i64 <;> omega) ?_
     conv=>whnf
     exact ⟨j + 1,⟨rfl,trivial⟩,⟨hj2,pre2,hpre2,hI2⟩,Nat.sub_lt_sub_left hj2 (Nat.lt_succ_self j)⟩
   ·have ht':¬ (mayTrapS o = true ∧ 0 ≤ w.ct):=by simpa [scB] using ht
    rw [if_neg ht',List.nil_append] at hpre1
    obtain ⟨pre2,hpre2,hI2⟩:∃ pre2,waysS k w.ct w.ops 0 = pre2 ++ (if leavesS o = true then [] else waysS k w.ct (w.ops.drop (j + 1)) (j + 1)) ∧ I pre2 _:=⟨_,hpre1,hI1⟩
    conv=>whnf
    refine WCall.pure (wLeaves_ok _ o) ?_
    conv=>whnf
    refine Br.mk (fun hl=>?_) (fun hl=>?_)
    ·rw [if_pos hl,List.append_nil] at hpre2
     conv=>whnf
     exact WRet.same ⟨rfl,by rw [hpre2];exact hI2⟩
    ·rw [if_neg (by rw [hl];decide)] at hpre2
     conv=>whnf
     refine WRng.mk (by apply wrap_i64 <;> omega) ?_
     conv=>whnf
     exact ⟨j + 1,⟨rfl,trivial⟩,⟨hj2,pre2,hpre2,hI2⟩,Nat.sub_lt_sub_left hj2 (Nat.lt_succ_self j)⟩
  ·have hx':¬ (o.kd = 21 ∨ o.kd = 26):=by simpa [scB] using hx
   rw [if_neg hx',List.nil_append] at hpre
   obtain ⟨pre1,hpre1,hI1⟩:∃ pre1,waysS k w.ct w.ops 0 = pre1 ++ ((if mayTrapS o = true ∧ 0 ≤ w.ct then [(w.ct,j,true)] else []) ++ (if leavesS o = true then [] else waysS k w.ct (w.ops.drop (j + 1)) (j + 1))) ∧ I pre1 m':=⟨_,hpre,hIp⟩
   conv=>whnf
   refine WCall.pure (mayTrap_ok _ o) ?_
   conv=>whnf
   refine WSc.mk (v:=decide (w.ct ≥ 0)) (fun _=>?_) ?_
   ·conv=>whnf
    exact And.intro (Mem.le.refl _) rfl
   conv=>whnf
   refine Br.mk (fun ht=>?_) (fun ht=>?_)
   ·have ht':mayTrapS o = true ∧ 0 ≤ w.ct:=by simpa [scB] using ht
    rw [if_pos ht'] at hpre1
    conv=>whnf
    refine WCall.mk (hg pre1 (w.ct,j,true) (if leavesS o = true then [] else waysS k w.ct (w.ops.drop (j + 1)) (j + 1)) _ (by rw [hpre1];rfl) hI1) ?_
    rintro _ m2 ⟨rfl,hI2'⟩
    obtain ⟨pre2,hpre2,hI2⟩:∃ pre2,waysS k w.ct w.ops 0 = pre2 ++ (if leavesS o = true then [] else waysS k w.ct (w.ops.drop (j + 1)) (j + 1)) ∧ I pre2 m2:=⟨_,by rw [hpre1];simp,hI2'⟩
    conv=>whnf
    refine WCall.pure (wLeaves_ok _ o) ?_
    conv=>whnf
    refine Br.mk (fun hl=>?_) (fun hl=>?_)
    ·rw [if_pos hl,List.append_nil] at hpre2
     conv=>whnf
     exact WRet.same ⟨rfl,by rw [hpre2];exact hI2⟩
    ·rw [if_neg (by rw [hl];decide)] at hpre2
     conv=>whnf
     refine WRng.mk (by apply wrap_i64 <;> omega) ?_
     conv=>whnf
     exact ⟨j + 1,⟨rfl,trivial⟩,⟨hj2,pre2,hpre2,hI2⟩,Nat.sub_lt_sub_left hj2 (Nat.lt_succ_self j)⟩
   ·have ht':¬ (mayTrapS o = true ∧ 0 ≤ w.ct):=by simpa [scB] using ht
    rw [if_neg ht',List.nil_append] at hpre1
    obtain ⟨pre2,hpre2,hI2⟩:∃ pre2,waysS k w.ct w.ops 0 = pre2 ++ (if leavesS o = true then [] else waysS k w.ct (w.ops.drop (j + 1)) (j + 1)) ∧ I pre2 _:=⟨_,hpre1,hI1⟩
    conv=>whnf
    refine WCall.pure (wLeaves_ok _ o) ?_
    conv=>whnf
    refine Br.mk (fun hl=>?_) (fun hl=>?_)
    ·rw [if_pos hl,List.append_nil] at hpre2
     conv=>whnf
     exact WRet.same ⟨rfl,by rw [hpre2];exact hI2⟩
    ·rw [if_neg (by rw [hl];decide)] at hpre2
     conv=>whnf
     refine WRng.mk (by apply wrap_i64 <;> omega) ?_
     conv=>whnf
     exact ⟨j + 1,⟨rfl,trivial⟩,⟨hj2,pre2,hpre2,hI2⟩,Nat.sub_lt_sub_left hj2 (Nat.lt_succ_self j)⟩
 ·have hj2:j = w.ops.length:=by
   have:¬ (j:Int) < w.ops.length:=of_decide_eq_false hb
   omega
  subst hj2
  rw [List.drop_length] at hpre
  conv=>whnf
  refine WRng.mk (by apply wrap_i64 <;> omega) ?_
  conv=>whnf
  refine WCall.mk (hg pre ((k:Int) + 1,w.ops.length,false) [] m' (by rw [hpre];rfl) hIp) ?_
  rintro _ m1 ⟨rfl,hI1⟩
  conv=>whnf
  refine WRet.same ⟨rfl,?_⟩
  rw [hpre];exact hI1
end Go.Proofs.YtleofbpepfmfgaaGreatDoor
set_option linter.unusedSimpArgs false
set_option linter.unusedVariables false
set_option maxRecDepth 100000
namespace Go.Proofs.YtleofbpepfmfgaaGreatDoor
open Go Go.Vx
open Go.Vx.IOp Go.Vx.IR Go.Vx.Opd
def nowAt (M:Mac) (ops:List OpR) (w0:List Nat) (j:Nat):List Nat:=(ops.take j).foldl (stepW M) w0
def wayP (C:CodeR) (M:Mac) (ops:List OpR) (w0:List Nat) (y:WayY):Nat × List Nat:=(y.1.toNat,if y.2.2 = true then zerosW C else decW (nowAt M ops w0 (y.2.1 + 1)))
theorem now_succ {M:Mac} {ops:List OpR} {w0:List Nat} {j:Nat} (hj:j < ops.length):nowAt M ops w0 (j + 1) = stepW M (nowAt M ops w0 j) ops[j]:=by
 unfold nowAt;rw [fold_succ hj]
theorem now_big {M:Mac} {ops:List OpR} {w0:List Nat} {j:Nat} (hj:ops.length ≤ j):nowAt M ops w0 j = nowAt M ops w0 ops.length:=by
 unfold nowAt;rw [List.take_of_length_le hj,List.take_length]
theorem now_len (M:Mac) (ops:List OpR) (w0:List Nat) (j:Nat):(nowAt M ops w0 j).length = w0.length:=by
 unfold nowAt
 generalize ops.take j = L
 induction L generalizing w0 with
 | nil=>rfl
 | cons o L ih=>rw [List.foldl_cons,ih,step_len]
theorem step_ub {M:Mac} (hd:∀ o,dlS M o ≤ 8) {w:List Nat} (h:∀ x ∈ w,x ≤ 8) (o:OpR):∀ x ∈ stepW M w o,x ≤ 8:=by
 intro x hx
 unfold stepW at hx
 split at hx
 ·rename_i d _
  rcases List.mem_or_eq_of_mem_set hx with h1 | h1
  ·exact h x h1
  ·rw [h1]
   have g1:=hd o
   have g2:w.getD d 0 ≤ 8:=by
    rw [List.getD_eq_getElem?_getD]
    cases hh:w[d]? with
    | none=>exact Nat.zero_le _
    | some y=>exact h y (List.mem_of_getElem? hh)
   omega
 ·exact h x hx
theorem now_ub {M:Mac} (hd:∀ o,dlS M o ≤ 8) {ops:List OpR} {w0:List Nat} (h:∀ x ∈ w0,x ≤ 8) (j:Nat):∀ x ∈ nowAt M ops w0 j,x ≤ 8:=by
 unfold nowAt
 generalize ops.take j = L
 induction L generalizing w0 with
 | nil=>exact h
 | cons o L ih=>rw [List.foldl_cons];exact ih (step_ub hd h o)
theorem ways_outs {C:CodeR} {M:Mac} {k:Nat} {ct:Int} {ops:List OpR} {w0:List Nat}:∀ (n j:Nat),ops.length - j = n → j ≤ ops.length → (waysS k ct (ops.drop j) j).map (wayP C M ops w0) = outsW C M k ct (ops.drop j) (nowAt M ops w0 j)
 | 0,j,h,hj=>by
  have e:j = ops.length:=by omega
  subst e
  rw [List.drop_length,waysS,outsW,List.map_singleton]
  unfold wayP
  rw [if_neg Bool.false_ne_true,now_big (j:=ops.length + 1) (by omega)]
  rfl
 | n + 1,j,h,hj=>by
  have hj2:j < ops.length:=by omega
  have ih:=ways_outs (C:=C) (M:=M) (k:=k) (ct:=ct) (ops:=ops) (w0:=w0) n (j + 1) (by omega) (by omega)
  rw [drop_cons hj2,waysS,outsW,List.map_append,List.map_append]
  congr 1
  ·split
   ·rw [List.map_singleton];unfold wayP;rw [if_neg Bool.false_ne_true,now_succ hj2]
   ·rfl
  congr 1
  ·split
   ·rw [List.map_singleton];unfold wayP;rw [if_pos rfl]
   ·rfl
  ·split
   ·rfl
   ·rw [ih,now_succ hj2]
theorem ways_sorted {k:Nat} {ct:Int}:∀ {L:List OpR} {j:Nat},(waysS k ct L j).Pairwise (fun a b=>a.2.1 ≤ b.2.1) ∧ ∀ y ∈ waysS k ct L j,j ≤ y.2.1
 | [],j=>by rw [waysS];exact ⟨List.pairwise_singleton _ _,fun y hy=>by rw [List.mem_singleton] at hy;subst hy;exact Nat.le_refl _⟩
 | o :: L,j=>by
  obtain ⟨h1,h2⟩:=ways_sorted (k:=k) (ct:=ct) (L:=L) (j:=j + 1)
  rw [waysS]
  have a1:∀ y ∈ (if o.kd = 21 ∨ o.kd = 26 then [((o.n,j,false):WayY)] else []),y.2.1 = j:=fun y hy=>by
   split at hy
   ·rw [List.mem_singleton] at hy;subst hy;rfl
   ·cases hy
  have a2:∀ y ∈ (if mayTrapS o = true ∧ 0 ≤ ct then [((ct,j,true):WayY)] else []),y.2.1 = j:=fun y hy=>by
   split at hy
   ·rw [List.mem_singleton] at hy;subst hy;rfl
   ·cases hy
  have a3:∀ y ∈ (if leavesS o = true then [] else waysS k ct L (j + 1)),j ≤ y.2.1:=fun y hy=>by
   split at hy
   ·cases hy
   ·have:=h2 y hy;omega
  have s1:(if o.kd = 21 ∨ o.kd = 26 then [((o.n,j,false):WayY)] else []).Pairwise (fun a b=>a.2.1 ≤ b.2.1):=by split <;> simp
  have s2:(if mayTrapS o = true ∧ 0 ≤ ct then [((ct,j,true):WayY)] else []).Pairwise (fun a b=>a.2.1 ≤ b.2.1):=by split <;> simp
  have s3:(if leavesS o = true then [] else waysS k ct L (j + 1)).Pairwise (fun a b=>a.2.1 ≤ b.2.1):=by
   split
   ·exact List.Pairwise.nil
   ·exact h1
  refine ⟨List.pairwise_append.2 ⟨s1,List.pairwise_append.2 ⟨s2,s3,fun a ha b hb=>by rw [a2 a ha];exact a3 b hb⟩,fun a ha b hb=>?_⟩,fun y hy=>?_⟩
  ·rw [a1 a ha]
   rcases List.mem_append.1 hb with hb | hb
   ·rw [a2 b hb];exact Nat.le_refl _
   ·exact a3 b hb
  ·rcases List.mem_append.1 hy with hy | hy
   ·rw [a1 y hy];exact Nat.le_refl _
   ·rcases List.mem_append.1 hy with hy | hy
    ·rw [a2 y hy];exact Nat.le_refl _
    ·exact a3 y hy
def preD (w:List Nat):Nat → List Nat
 | 0=>w
 | r + 1=>(preD w r).set r ((preD w r).getD r 0 - 1)
theorem preD_len (w:List Nat) (r:Nat):(preD w r).length = w.length:=by induction r with | zero=>rfl | succ r ih=>rw [preD,List.length_set,ih]
theorem preD_get (w:List Nat):∀ (r j:Nat),(preD w r).getD j 0 = if j < r then w.getD j 0 - 1 else w.getD j 0
 | 0,j=>by rw [preD,if_neg (by omega)]
 | r + 1,j=>by
  rw [preD,getD_setN,preD_len]
  by_cases e:r = j ∧ r < w.length
  ·rw [if_pos e,preD_get w r r,if_neg (by omega),← e.1,if_pos (by omega)]
  ·rw [if_neg e,preD_get w r j]
   by_cases e2:j < r
   ·rw [if_pos e2,if_pos (by omega)]
   ·rw [if_neg e2]
    by_cases e3:j < r + 1
    ·have:j = r:=by omega
     subst this
     have hl:¬ j < w.length:=fun h=>e ⟨rfl,h⟩
     rw [if_pos e3,List.getD_eq_getElem?_getD,List.getElem?_eq_none (by omega)];rfl
    ·rw [if_neg e3]
theorem preD_all (w:List Nat):preD w w.length = decW w:=by
 apply List.ext_getElem (by rw [preD_len,dec_len])
 intro j h1 h2
 have e1:=preD_get w w.length j
 rw [preD_len] at h1
 rw [if_pos h1,← dec_get,List.getD_eq_getElem?_getD,List.getD_eq_getElem?_getD,List.getElem?_eq_getElem (by rw [preD_len];exact h1),List.getElem?_eq_getElem h2] at e1
 exact e1
end Go.Proofs.YtleofbpepfmfgaaGreatDoor
