import Derived.Test.YtleofbpepfmfgaaGreatDoorVxSimPl
set_option maxRecDepth 100000
namespace Go.Proofs.YtleofbpepfmfgaaGreatDoor
open Go Go.Vx
open Go.Vx.IOp Go.Vx.IR Go.Vx.Opd
def q2i:Nat→IR:=fun k=>match k,z6z.body with
 | 0,.seq a _=>a
 | 1,.seq _ (.seq a _)=>a
 | 2,.seq _ (.seq _ (.seq a _))=>a
 | 3,.seq _ (.seq _ (.seq _ (.seq a _)))=>a
 | 4,.seq _ (.seq _ (.seq _ (.seq _ (.seq a _))))=>a
 | 5,.seq _ (.seq _ (.seq _ (.seq _ (.seq _ (.seq a _)))))=>a
 | 6,.seq _ (.seq _ (.seq _ (.seq _ (.seq _ (.seq _ (.seq a _))))))=>a
 | 7,.seq _ (.seq _ (.seq _ (.seq _ (.seq _ (.seq _ (.seq _ (.seq a _)))))))=>a
 | 8,.seq _ (.seq _ (.seq _ (.seq _ (.seq _ (.seq _ (.seq _ (.seq _ (.seq a _))))))))=>a
 | _,.seq _ (.seq _ (.seq _ (.seq _ (.seq _ (.seq _ (.seq _ (.seq _ (.seq _ r))))))))=>r
 | _,r=>r
theorem w0p:z6z.body=.seq (q2i 0) (.seq (q2i 1) (.seq (q2i 2) (.seq (q2i 3) (.seq (q2i 4) (.seq (q2i 5) (.seq (q2i 6) (.seq (q2i 7) (.seq (q2i 8) (q2i 9))))))))):=rfl
theorem q8s {P:Program} {a b d:IR} {Q:Post} {e:Env} {m:Mem}:wpI P (.seq (.seq a b) d) Q e m=wpI P (.seq a (.seq b d)) Q e m:=by
 show wpI P a (q4i (fun e' m'=>wpI P b (q4i (fun e' m'=>wpI P d Q e' m') Q) e' m') (q4i (fun e' m'=>wpI P d Q e' m') Q)) e m=wpI P a (q4i (fun e' m'=>wpI P b (q4i (fun e' m'=>wpI P d Q e' m') Q) e' m') Q) e m
 congr 1
 funext ex e m
 cases ex<;>rfl
section
variable {m:Mem} {p pw:Nat} {s:St} {rs:List Res} {RR:Ending→Mem→Prop} {R:IR} {x0 x1 x2 x3:Int}
theorem w2d {a:Int} {b:Bool} (hw:q0m Tryz.prog 38 [ptr p] m (.tuple ⟨[i a,.bool b]⟩))
  (K:wpI Tryz.prog R (q0i rs RR) (envL [(0,.val (ptr p)),(1,.val (ptr pw)),(5,.var [i x0,i x1,i x2,i x3]),(7,.val (i a)),(8,.val (.bool b))]) m) :
  wpI Tryz.prog (.seq (q2i 0) (.seq (q2i 1) R)) (q0i rs RR) (q5p [ptr p,ptr pw,.agg ⟨[i x0,i x1,i x2,i x3]⟩]) m:=by
 conv=>whnf
 refine q0a.pure hw ?_
 conv=>whnf
 exact q0x K ⟨rfl,rfl,rfl,rfl,rfl,trivial⟩
theorem j8j {a tk wl:Int} {e:Bool} (h1:q0m Tryz.prog 31 [ptr p] m (i tk)) (h2:q0q m ((⟨pw,0,none⟩:Addr).add 22) (i tk)) (h3:q0q m ((⟨pw,0,none⟩:Addr).add 25) (.bool e)) (h4:q0q m ((⟨pw,0,none⟩:Addr).add 24) (i a))
  (h5:q0m Tryz.prog 42 [ptr p] m (i wl)) (h6:q0m Tryz.prog 62 [ptr pw] m (i wl))
  (K:wpI Tryz.prog R (q0i rs RR) (envL [(0,.val (ptr p)),(1,.val (ptr pw)),(5,.var [i x0,i x1,i x2,i x3])]) m) :
  wpI Tryz.prog (.seq (q2i 2) R) (q0i rs RR) (envL [(0,.val (ptr p)),(1,.val (ptr pw)),(5,.var [i x0,i x1,i x2,i x3]),(7,.val (i a)),(8,.val (.bool (!e)))]) m:=by
 cases e <;>
 repeat' (conv=>whnf
          first
          | exact trivial
          | (refine Br.mk (fun h=>absurd h (by simp)) (fun _=>?_))
          | (refine Br.mk (fun _=>?_) (fun h=>absurd h (by simp)))
          | (refine WLd.mk _ h2 ?_)
          | (refine WLd.mk _ h3 ?_)
          | (refine WLd.mk _ h4 ?_)
          | (refine q1r.pure h1 ?_)
          | (refine q1r.pure h5 ?_)
          | (refine q1r.pure h6 ?_)
          | (exact q0x K ⟨rfl,rfl,rfl,trivial⟩)
          | (refine And.intro ?_ ?_))
def lk4A:IR:=match q2i 4 with | .seq a _=>a | r=>r
def lk4B:IR:=match q2i 4 with | .seq _ (.seq a _)=>a | r=>r
def lk4C:IR:=match q2i 4 with | .seq _ (.seq _ a)=>a | r=>r
theorem k2t:q2i 4=.seq lk4A (.seq lk4B lk4C):=rfl
theorem k6w {n:Nat} {a:Option Addr} {c:Nat} (hr:q0q m ((⟨pw,0,none⟩:Addr).add 18) (.slice a n c)) {v:VR} {e:Int} {b:Bool} (hb:b=(decide (x0≥0)&&decide (x0<(n:Int))))
  (K:wpI Tryz.prog R (q0i rs RR) (envL [(0,.val (ptr p)),(1,.val (ptr pw)),(5,.var [i x0,i x1,i x2,i x3]),(9,.var v.cells),(10,.val (i e)),(11,.val (.bool b))]) m) :
  wpI Tryz.prog (.seq lk4A R) (q0i rs RR) (envL [(0,.val (ptr p)),(1,.val (ptr pw)),(5,.var [i x0,i x1,i x2,i x3]),(9,.var v.cells),(10,.val (i e))]) m:=by
 refine WBnd.mk (by decide) ?_
 refine WGet.mk _ rfl ?_
 refine Br.mk (fun h=>?_) (fun h=>?_)
 ·have h:decide (x0≥0)=true:=h
  rw [h,Bool.true_and] at hb
  subst hb
  refine WBnd.mk (by decide) ?_
  refine WGet.mk _ rfl ?_
  refine WLd.mk _ hr ?_
  refine Br.mk (fun _=>?_) (fun h=>by cases h)
  conv=>whnf
  exact q0x K ⟨rfl,rfl,rfl,rfl,rfl,rfl,trivial⟩
 ·have h:decide (x0≥0)=false:=h
  rw [h,Bool.false_and] at hb
  subst hb
  refine Br.mk (fun h=>by cases h) (fun _=>?_)
  conv=>whnf
  exact q0x K ⟨rfl,rfl,rfl,rfl,rfl,rfl,trivial⟩
theorem j3g {L:List VR} {a:Option Addr} {c:Nat} (hr:q0q m ((⟨pw,0,none⟩:Addr).add 18) (.slice a L.length c)) (hcs:0≤x0∧x0<L.length→∃ ad,a=some ad∧q0g m (ad.add (x0.toNat * 2)) (L.getD x0.toNat VR.zero).cells) {v:VR} {e:Int} {b:Bool} (hb:b=(decide (x0≥0)&&decide (x0<(L.length:Int))))
  (hv:v=if b=true then L.getD x0.toNat VR.zero else VR.zero) (he:e=if b=true then 0 else 2)
  (K:wpI Tryz.prog R (q0i rs RR) (envL [(0,.val (ptr p)),(1,.val (ptr pw)),(5,.var [i x0,i x1,i x2,i x3]),(102,.val (.bool false))]) m) :
  wpI Tryz.prog (.seq lk4B R) (q0i rs RR) (envL [(0,.val (ptr p)),(1,.val (ptr pw)),(5,.var [i x0,i x1,i x2,i x3]),(9,.var v.cells),(10,.val (i e)),(11,.val (.bool b))]) m:=by
 have hz:(!(v.n==v.n&&(v.b==v.b&&true)))=false:=by simp
 have hy:(!((0:Int)==0&&((0:Int)==0&&true)))=false:=by simp
 cases b with
 | true =>
  have hb2:=hb.symm
  rw [Bool.and_eq_true,decide_eq_true_eq,decide_eq_true_eq] at hb2
  obtain ⟨ad,rfl,hc⟩:=hcs ⟨hb2.1,hb2.2⟩
  rw [if_pos rfl] at hv he
  rw [← hv] at hc
  subst he
  refine Br.mk (fun _=>?_) (fun h=>by cases h)
  refine Br.mk (fun h=>by cases h) (fun _=>?_)
  refine WLd.mk _ hr ?_
  refine WBnd.mk (by decide) ?_
  refine WGet.mk _ rfl ?_
  refine WIdx.mk ad rfl ⟨hb2.1,hb2.2⟩ ?_
  refine WLds.mk _ hc rfl ?_
  repeat' (conv=>whnf
           first
           | (refine Br.mk (fun h=>absurd h Bool.false_ne_true) (fun _=>?_))
           | (refine Br.mk (fun _=>?_) (fun h=>absurd h.symm Bool.false_ne_true))
           | (refine Br.mk (fun h=>absurd (hz.symm.trans h) Bool.false_ne_true) (fun _=>?_))
           | (exact q0x K ⟨rfl,rfl,rfl,rfl,trivial⟩))
 | false =>
  rw [if_neg (by decide)] at hv he
  subst hv he
  refine Br.mk (fun h=>by cases h) (fun _=>?_)
  repeat' (conv=>whnf
           first
           | (refine Br.mk (fun h=>absurd h Bool.false_ne_true) (fun _=>?_))
           | (refine Br.mk (fun _=>?_) (fun h=>absurd h.symm Bool.false_ne_true))
           | (refine Br.mk (fun h=>absurd (hz.symm.trans h) Bool.false_ne_true) (fun _=>?_))
           | (exact q0x K ⟨rfl,rfl,rfl,rfl,trivial⟩))
theorem j2x {L:List VR} {a:Option Addr} {c:Nat} (hr:q0q m ((⟨pw,0,none⟩:Addr).add 18) (.slice a L.length c)) (hcs:0≤x0∧x0<L.length→∃ ad,a=some ad∧q0g m (ad.add (x0.toNat * 2)) (L.getD x0.toNat VR.zero).cells)
  (hg:q0m Tryz.prog 39 [ptr p,i x0] m (if 0≤x0∧x0<L.length then .tuple ⟨[(L.getD x0.toNat VR.zero).val,i 0]⟩ else .tuple ⟨[VR.zero.val,i 2]⟩))
  (K:wpI Tryz.prog R (q0i rs RR) (envL [(0,.val (ptr p)),(1,.val (ptr pw)),(5,.var [i x0,i x1,i x2,i x3])]) m) :
  wpI Tryz.prog (.seq (q2i 3) (.seq (q2i 4) R)) (q0i rs RR) (envL [(0,.val (ptr p)),(1,.val (ptr pw)),(5,.var [i x0,i x1,i x2,i x3])]) m:=by
 obtain ⟨b,hb⟩:∃ b,b=(decide (x0≥0)&&decide (x0<(L.length:Int))):=⟨_,rfl⟩
 obtain ⟨v,hv⟩:∃ v,v=if b=true then L.getD x0.toNat VR.zero else VR.zero:=⟨_,rfl⟩
 obtain ⟨e,he⟩:∃ e:Int,e=if b=true then 0 else 2:=⟨_,rfl⟩
 have key:(if 0≤x0∧x0<L.length then Value.tuple ⟨[(L.getD x0.toNat VR.zero).val,i 0]⟩ else .tuple ⟨[VR.zero.val,i 2]⟩)=.tuple ⟨[v.val,i e]⟩:=by
  rw [hv,he]
  cases b with
  | true =>
   have hb2:=hb.symm
   rw [Bool.and_eq_true,decide_eq_true_eq,decide_eq_true_eq] at hb2
   rw [if_pos ⟨hb2.1,hb2.2⟩];rfl
  | false =>
   have hb2:=hb.symm
   rw [Bool.and_eq_false_iff,decide_eq_false_iff_not,decide_eq_false_iff_not] at hb2
   rw [if_neg (by omega)];rfl
 rw [key] at hg
 have K2:=j3g hr hcs hb hv he (R:=.seq lk4C R) (rs:=rs) (RR:=RR) (p:=p) (by
  refine Br.mk (fun h=>by cases h) (fun _=>?_)
  conv=>whnf
  exact q0x K ⟨rfl,rfl,rfl,trivial⟩)
 have K3:=k6w hr hb K2 (R:=.seq lk4B (.seq lk4C R))
 have K4:wpI Tryz.prog (.seq (q2i 4) R) (q0i rs RR) (envL [(0,.val (ptr p)),(1,.val (ptr pw)),(5,.var [i x0,i x1,i x2,i x3]),(9,.var v.cells),(10,.val (i e))]) m:=by
  rw [k2t,q8s]
  show wpI Tryz.prog (.seq lk4A (.seq (.seq lk4B lk4C) R)) _ _ _
  have:∀ {e' m'},wpI Tryz.prog (.seq lk4B (.seq lk4C R)) (q0i rs RR) e' m'→wpI Tryz.prog (.seq (.seq lk4B lk4C) R) (q0i rs RR) e' m':=fun h=>by rw [q8s];exact h
  have e2:wpI Tryz.prog (.seq (.seq lk4B lk4C) R) (q0i rs RR)=wpI Tryz.prog (.seq lk4B (.seq lk4C R)) (q0i rs RR):=by funext e' m';exact q8s
  show wpI Tryz.prog lk4A (q4i (fun e' m'=>wpI Tryz.prog (.seq (.seq lk4B lk4C) R) (q0i rs RR) e' m') (q0i rs RR)) _ _
  rw [e2]
  exact K3
 generalize IR.seq (q2i 4) R=Z at K4 ⊢
 refine WBnd.mk (by decide) ?_
 refine WGet.mk _ rfl ?_
 conv=>whnf
 refine q0a.pure hg ?_
 conv=>whnf
 exact q0x K4 ⟨rfl,rfl,rfl,rfl,rfl,trivial⟩
def lk6A:IR:=match q2i 6 with | .seq a _=>a | r=>r
def lk6B:IR:=match q2i 6 with | .seq _ (.seq a _)=>a | r=>r
def lk6C:IR:=match q2i 6 with | .seq _ (.seq _ a)=>a | r=>r
theorem v9t:q2i 6=.seq lk6A (.seq lk6B lk6C):=rfl
theorem j4l {n:Nat} {a:Option Addr} {c:Nat} (hr:q0q m ((⟨pw,0,none⟩:Addr).add 20) (.slice a n c)) {v:VR} {e:Int} {b:Bool} (hb:b=(decide (x1≥0)&&decide (x1<(n:Int))))
  (K:wpI Tryz.prog R (q0i rs RR) (envL [(0,.val (ptr p)),(1,.val (ptr pw)),(5,.var [i x0,i x1,i x2,i x3]),(12,.var v.cells),(13,.val (i e)),(14,.val (.bool b))]) m) :
  wpI Tryz.prog (.seq lk6A R) (q0i rs RR) (envL [(0,.val (ptr p)),(1,.val (ptr pw)),(5,.var [i x0,i x1,i x2,i x3]),(12,.var v.cells),(13,.val (i e))]) m:=by
 refine WBnd.mk (by decide) ?_
 refine WGet.mk _ rfl ?_
 refine Br.mk (fun h=>?_) (fun h=>?_)
 ·have h:decide (x1≥0)=true:=h
  rw [h,Bool.true_and] at hb
  subst hb
  refine WBnd.mk (by decide) ?_
  refine WGet.mk _ rfl ?_
  refine WLd.mk _ hr ?_
  refine Br.mk (fun _=>?_) (fun h=>by cases h)
  conv=>whnf
  exact q0x K ⟨rfl,rfl,rfl,rfl,rfl,rfl,trivial⟩
 ·have h:decide (x1≥0)=false:=h
  rw [h,Bool.false_and] at hb
  subst hb
  refine Br.mk (fun h=>by cases h) (fun _=>?_)
  conv=>whnf
  exact q0x K ⟨rfl,rfl,rfl,rfl,rfl,rfl,trivial⟩
theorem j8w {L:List VR} {a:Option Addr} {c:Nat} (hr:q0q m ((⟨pw,0,none⟩:Addr).add 20) (.slice a L.length c)) (hcs:0≤x1∧x1<L.length→∃ ad,a=some ad∧q0g m (ad.add (x1.toNat * 2)) (L.getD x1.toNat VR.zero).cells) {v:VR} {e:Int} {b:Bool} (hb:b=(decide (x1≥0)&&decide (x1<(L.length:Int))))
  (hv:v=if b=true then L.getD x1.toNat VR.zero else VR.zero) (he:e=if b=true then 0 else 2)
  (K:wpI Tryz.prog R (q0i rs RR) (envL [(0,.val (ptr p)),(1,.val (ptr pw)),(5,.var [i x0,i x1,i x2,i x3]),(152,.val (.bool false))]) m) :
  wpI Tryz.prog (.seq lk6B R) (q0i rs RR) (envL [(0,.val (ptr p)),(1,.val (ptr pw)),(5,.var [i x0,i x1,i x2,i x3]),(12,.var v.cells),(13,.val (i e)),(14,.val (.bool b))]) m:=by
 have hz:(!(v.n==v.n&&(v.b==v.b&&true)))=false:=by simp
 have hy:(!((0:Int)==0&&((0:Int)==0&&true)))=false:=by simp
 cases b with
 | true =>
  have hb2:=hb.symm
  rw [Bool.and_eq_true,decide_eq_true_eq,decide_eq_true_eq] at hb2
  obtain ⟨ad,rfl,hc⟩:=hcs ⟨hb2.1,hb2.2⟩
  rw [if_pos rfl] at hv he
  rw [← hv] at hc
  subst he
  refine Br.mk (fun _=>?_) (fun h=>by cases h)
  refine Br.mk (fun h=>by cases h) (fun _=>?_)
  refine WLd.mk _ hr ?_
  refine WBnd.mk (by decide) ?_
  refine WGet.mk _ rfl ?_
  refine WIdx.mk ad rfl ⟨hb2.1,hb2.2⟩ ?_
  refine WLds.mk _ hc rfl ?_
  repeat' (conv=>whnf
           first
           | (refine Br.mk (fun h=>absurd h Bool.false_ne_true) (fun _=>?_))
           | (refine Br.mk (fun _=>?_) (fun h=>absurd h.symm Bool.false_ne_true))
           | (refine Br.mk (fun h=>absurd (hz.symm.trans h) Bool.false_ne_true) (fun _=>?_))
           | (exact q0x K ⟨rfl,rfl,rfl,rfl,trivial⟩))
 | false =>
  rw [if_neg (by decide)] at hv he
  subst hv he
  refine Br.mk (fun h=>by cases h) (fun _=>?_)
  repeat' (conv=>whnf
           first
           | (refine Br.mk (fun h=>absurd h Bool.false_ne_true) (fun _=>?_))
           | (refine Br.mk (fun _=>?_) (fun h=>absurd h.symm Bool.false_ne_true))
           | (refine Br.mk (fun h=>absurd (hz.symm.trans h) Bool.false_ne_true) (fun _=>?_))
           | (exact q0x K ⟨rfl,rfl,rfl,rfl,trivial⟩))
theorem k6y {L:List VR} {a:Option Addr} {c:Nat} (hr:q0q m ((⟨pw,0,none⟩:Addr).add 20) (.slice a L.length c)) (hcs:0≤x1∧x1<L.length→∃ ad,a=some ad∧q0g m (ad.add (x1.toNat * 2)) (L.getD x1.toNat VR.zero).cells)
  (hg:q0m Tryz.prog 41 [ptr p,i x1] m (if 0≤x1∧x1<L.length then .tuple ⟨[(L.getD x1.toNat VR.zero).val,i 0]⟩ else .tuple ⟨[VR.zero.val,i 2]⟩))
  (K:wpI Tryz.prog R (q0i rs RR) (envL [(0,.val (ptr p)),(1,.val (ptr pw)),(5,.var [i x0,i x1,i x2,i x3])]) m) :
  wpI Tryz.prog (.seq (q2i 5) (.seq (q2i 6) R)) (q0i rs RR) (envL [(0,.val (ptr p)),(1,.val (ptr pw)),(5,.var [i x0,i x1,i x2,i x3])]) m:=by
 obtain ⟨b,hb⟩:∃ b,b=(decide (x1≥0)&&decide (x1<(L.length:Int))):=⟨_,rfl⟩
 obtain ⟨v,hv⟩:∃ v,v=if b=true then L.getD x1.toNat VR.zero else VR.zero:=⟨_,rfl⟩
 obtain ⟨e,he⟩:∃ e:Int,e=if b=true then 0 else 2:=⟨_,rfl⟩
 have key:(if 0≤x1∧x1<L.length then Value.tuple ⟨[(L.getD x1.toNat VR.zero).val,i 0]⟩ else .tuple ⟨[VR.zero.val,i 2]⟩)=.tuple ⟨[v.val,i e]⟩:=by
  rw [hv,he]
  cases b with
  | true =>
   have hb2:=hb.symm
   rw [Bool.and_eq_true,decide_eq_true_eq,decide_eq_true_eq] at hb2
   rw [if_pos ⟨hb2.1,hb2.2⟩];rfl
  | false =>
   have hb2:=hb.symm
   rw [Bool.and_eq_false_iff,decide_eq_false_iff_not,decide_eq_false_iff_not] at hb2
   rw [if_neg (by omega)];rfl
 rw [key] at hg
 have K2:=j8w hr hcs hb hv he (R:=.seq lk6C R) (rs:=rs) (RR:=RR) (p:=p) (by
  refine Br.mk (fun h=>by cases h) (fun _=>?_)
  conv=>whnf
  exact q0x K ⟨rfl,rfl,rfl,trivial⟩)
 have K3:=j4l hr hb K2 (R:=.seq lk6B (.seq lk6C R))
 have K4:wpI Tryz.prog (.seq (q2i 6) R) (q0i rs RR) (envL [(0,.val (ptr p)),(1,.val (ptr pw)),(5,.var [i x0,i x1,i x2,i x3]),(12,.var v.cells),(13,.val (i e))]) m:=by
  rw [v9t,q8s]
  show wpI Tryz.prog (.seq lk6A (.seq (.seq lk6B lk6C) R)) _ _ _
  have:∀ {e' m'},wpI Tryz.prog (.seq lk6B (.seq lk6C R)) (q0i rs RR) e' m'→wpI Tryz.prog (.seq (.seq lk6B lk6C) R) (q0i rs RR) e' m':=fun h=>by rw [q8s];exact h
  have e2:wpI Tryz.prog (.seq (.seq lk6B lk6C) R) (q0i rs RR)=wpI Tryz.prog (.seq lk6B (.seq lk6C R)) (q0i rs RR):=by funext e' m';exact q8s
  show wpI Tryz.prog lk6A (q4i (fun e' m'=>wpI Tryz.prog (.seq (.seq lk6B lk6C) R) (q0i rs RR) e' m') (q0i rs RR)) _ _
  rw [e2]
  exact K3
 generalize IR.seq (q2i 6) R=Z at K4 ⊢
 refine WBnd.mk (by decide) ?_
 refine WGet.mk _ rfl ?_
 conv=>whnf
 refine q0a.pure hg ?_
 conv=>whnf
 exact q0x K4 ⟨rfl,rfl,rfl,rfl,rfl,trivial⟩
theorem k8k {z e:Int} (hg:q0m Tryz.prog 40 [ptr p,i x2,i x3] m (.tuple ⟨[i z,i e]⟩))
  (K:wpI Tryz.prog R (q0i rs RR) (envL [(0,.val (ptr p)),(1,.val (ptr pw)),(5,.var [i x0,i x1,i x2,i x3]),(15,.val (i z)),(16,.val (i e))]) m) :
  wpI Tryz.prog (.seq (q2i 7) R) (q0i rs RR) (envL [(0,.val (ptr p)),(1,.val (ptr pw)),(5,.var [i x0,i x1,i x2,i x3])]) m:=by
 refine WBnd.mk (by decide) ?_
 refine WGet.mk _ rfl ?_
 refine WBnd.mk (by decide) ?_
 refine WGet.mk _ rfl ?_
 conv=>whnf
 refine q0a.pure hg ?_
 conv=>whnf
 exact q0x K ⟨rfl,rfl,rfl,rfl,rfl,trivial⟩
def lk8L:List E:=match q2i 8 with | .tree l _=>l | _=>[]
theorem w3t:q2i 8=.tree lk8L (.pure 0 (.pure 1 (.pure 2 (.pure 3 (.pure 4 (.pure 5 (.pure 6 (.pure 7 (.pure 8 (.pure 9 (.pure 10 (.pure 11 (.pure 12 (.pure 13 (.pure 14 (.pure 15 (.pure 16 (.pure 17 (.pure 18 (.pure 19 (.pure 20 (.pure 21 (.pure 22 (.pure 23 (.pure 24 (.pure 25 (.pure 26 (.pure 27 (.pure 28 (.pure 29 (.pure 30 (.pure 31 (.pure 32 RT.nil))))))))))))))))))))))))))))))))):=rfl
theorem lk8s1 {r:RT} {n:Nat} {a:Option Addr} {c:Nat} (hr:q0q m ((⟨pw,0,none⟩:Addr).add 19) (.slice a n c)) {z e:Int} {b:Bool} (hb:b=(decide (x2≥0)&&decide (x2<(n:Int))))
  (K:wpI Tryz.prog (.seq (.tree lk8L r) R) (q0i rs RR) (envL [(0,.val (ptr p)),(1,.val (ptr pw)),(5,.var [i x0,i x1,i x2,i x3]),(15,.val (i z)),(16,.val (i e)),(174,.val (.bool b))]) m) :
  wpI Tryz.prog (.seq (.tree lk8L (.pure 0 (.pure 1 (.pure 2 (.pure 3 (.pure 4 (.pure 5 (.pure 6 (.pure 7 (.pure 8 (.pure 9 (.pure 10 (.pure 11 (.pure 12 r)))))))))))))) R) (q0i rs RR) (envL [(0,.val (ptr p)),(1,.val (ptr pw)),(5,.var [i x0,i x1,i x2,i x3]),(15,.val (i z)),(16,.val (i e))]) m:=by
 refine WBnd.mk (by decide) ?_
 refine WGet.mk _ rfl ?_
 refine Br.mk (fun h=>?_) (fun h=>?_)
 ·have h:decide (x2≥0)=true:=h
  rw [h,Bool.true_and] at hb
  subst hb
  refine WBnd.mk (by decide) ?_
  refine WGet.mk _ rfl ?_
  refine WLd.mk _ hr ?_
  refine Br.mk (fun _=>?_) (fun h=>by cases h)
  conv=>whnf
  exact q0x K ⟨rfl,rfl,rfl,rfl,rfl,rfl,trivial⟩
 ·have h:decide (x2≥0)=false:=h
  rw [h,Bool.false_and] at hb
  subst hb
  refine Br.mk (fun h=>by cases h) (fun _=>?_)
  conv=>whnf
  exact q0x K ⟨rfl,rfl,rfl,rfl,rfl,rfl,trivial⟩
theorem lk8s2 {r:RT} {z e:Int} {b b2:Bool} (hb:b2=(b&&decide (x3≥0)))
  (K:wpI Tryz.prog (.seq (.tree lk8L r) R) (q0i rs RR) (envL [(0,.val (ptr p)),(1,.val (ptr pw)),(5,.var [i x0,i x1,i x2,i x3]),(15,.val (i z)),(16,.val (i e)),(179,.val (.bool b2))]) m) :
  wpI Tryz.prog (.seq (.tree lk8L (.pure 13 (.pure 14 (.pure 15 (.pure 16 (.pure 17 r)))))) R) (q0i rs RR) (envL [(0,.val (ptr p)),(1,.val (ptr pw)),(5,.var [i x0,i x1,i x2,i x3]),(15,.val (i z)),(16,.val (i e)),(174,.val (.bool b))]) m:=by
 cases b with
 | true =>
  rw [Bool.true_and] at hb
  subst hb
  refine Br.mk (fun _=>?_) (fun h=>by cases h)
  refine WBnd.mk (by decide) ?_
  refine WGet.mk _ rfl ?_
  refine Br.mk (fun _=>?_) (fun h=>by cases h)
  conv=>whnf
  exact q0x K ⟨rfl,rfl,rfl,rfl,rfl,rfl,trivial⟩
 | false =>
  rw [Bool.false_and] at hb
  subst hb
  refine Br.mk (fun h=>by cases h) (fun _=>?_)
  refine Br.mk (fun h=>by cases h) (fun _=>?_)
  conv=>whnf
  exact q0x K ⟨rfl,rfl,rfl,rfl,rfl,rfl,trivial⟩
theorem lk8s3 {n n2:Nat} {a:Option Addr} {c:Nat} (hr:q0q m ((⟨pw,0,none⟩:Addr).add 19) (.slice a n c)) {z e:Int} {b b3:Bool} (hcs:b=true→(0≤x2∧x2<n)∧∃ ad bd d,a=some ad∧q0q m (ad.add x2.toNat) (.slice bd n2 d)) (hb:b3=(b&&decide (x3<(n2:Int))))
  (K:wpI Tryz.prog R (q0i rs RR) (envL [(0,.val (ptr p)),(1,.val (ptr pw)),(5,.var [i x0,i x1,i x2,i x3]),(15,.val (i z)),(16,.val (i e)),(17,.val (.bool b3))]) m) :
  wpI Tryz.prog (.seq (.tree lk8L (.pure 18 (.pure 19 (.pure 20 (.pure 21 (.pure 22 (.pure 23 (.pure 24 (.pure 25 (.pure 26 (.pure 27 (.pure 28 (.pure 29 (.pure 30 (.pure 31 (.pure 32 RT.nil)))))))))))))))) R) (q0i rs RR) (envL [(0,.val (ptr p)),(1,.val (ptr pw)),(5,.var [i x0,i x1,i x2,i x3]),(15,.val (i z)),(16,.val (i e)),(179,.val (.bool b))]) m:=by
 cases b with
 | true =>
  rw [Bool.true_and] at hb
  subst hb
  obtain ⟨hx2,ad,bd,d,rfl,hrow⟩:=hcs rfl
  refine Br.mk (fun _=>?_) (fun h=>by cases h)
  refine WBnd.mk (by decide) ?_
  refine WGet.mk _ rfl ?_
  refine WLd.mk _ hr ?_
  refine WBnd.mk (by decide) ?_
  refine WGet.mk _ rfl ?_
  refine WIdx.mk ad rfl hx2 ?_
  refine WLd.mk (.slice bd n2 d) (by simpa using hrow) ?_
  refine Br.mk (fun _=>?_) (fun h=>by cases h)
  conv=>whnf
  exact q0x K ⟨rfl,rfl,rfl,rfl,rfl,rfl,trivial⟩
 | false =>
  rw [Bool.false_and] at hb
  subst hb
  refine Br.mk (fun h=>by cases h) (fun _=>?_)
  refine Br.mk (fun h=>by cases h) (fun _=>?_)
  conv=>whnf
  exact q0x K ⟨rfl,rfl,rfl,rfl,rfl,rfl,trivial⟩
theorem j1t {n n2:Nat} {a:Option Addr} {c:Nat} (hr:q0q m ((⟨pw,0,none⟩:Addr).add 19) (.slice a n c)) {z e:Int} {b:Bool} (hb:b=(((decide (x2≥0)&&decide (x2<(n:Int)))&&decide (x3≥0))&&decide (x3<(n2:Int)))) (hcs:0≤x2∧x2<n→∃ ad bd d,a=some ad∧q0q m (ad.add x2.toNat) (.slice bd n2 d))
  (K:wpI Tryz.prog R (q0i rs RR) (envL [(0,.val (ptr p)),(1,.val (ptr pw)),(5,.var [i x0,i x1,i x2,i x3]),(15,.val (i z)),(16,.val (i e)),(17,.val (.bool b))]) m) :
  wpI Tryz.prog (.seq (q2i 8) R) (q0i rs RR) (envL [(0,.val (ptr p)),(1,.val (ptr pw)),(5,.var [i x0,i x1,i x2,i x3]),(15,.val (i z)),(16,.val (i e))]) m:=by
 rw [w3t]
 refine lk8s1 hr rfl (lk8s2 rfl (lk8s3 (n2:=n2) hr (fun h=>?_) hb K))
 rw [Bool.and_eq_true,Bool.and_eq_true,decide_eq_true_eq,decide_eq_true_eq] at h
 exact ⟨h.1,hcs h.1⟩
def lk9L:List E:=match q2i 9 with | .seq (.tree l _) _=>l | _=>[]
theorem w5p:q2i 9=.seq (.tree lk9L (.pure 0 (.pure 1 (.pure 2 (.pure 3 (.pure 4 (.pure 5 (.pure 6 (.pure 7 (.pure 8 (.pure 9 (.pure 10 (.pure 11 (.pure 12 (.pure 13 (.pure 14 (.pure 15 (.pure 16 (.pure 17 (.pure 18 (.pure 19 (.pure 20 (.pure 21 (.pure 22 (.pure 23 (.pure 24 (.pure 25 (.pure 26 (.pure 27 (.pure 28 (.pure 29 (.pure 30 (.pure 31 (.pure 32 (.pure 33 RT.nil))))))))))))))))))))))))))))))))))) .ret:=rfl
theorem lk9s1 {r:RT} {z e:Int} {b b2:Bool} (he:e=if b=true then 0 else 2) (hb:b2=b)
  (K:wpI Tryz.prog (.seq (.tree lk9L r) R) (q0i rs RR) (envL [(0,.val (ptr p)),(1,.val (ptr pw)),(5,.var [i x0,i x1,i x2,i x3]),(15,.val (i z)),(16,.val (i e)),(17,.val (.bool b)),(198,.val (.bool b2))]) m) :
  wpI Tryz.prog (.seq (.tree lk9L (.pure 0 (.pure 1 (.pure 2 (.pure 3 (.pure 4 r)))))) R) (q0i rs RR) (envL [(0,.val (ptr p)),(1,.val (ptr pw)),(5,.var [i x0,i x1,i x2,i x3]),(15,.val (i z)),(16,.val (i e)),(17,.val (.bool b))]) m:=by
 subst hb
 cases b2 with
 | true =>
  rw [if_pos rfl] at he
  subst he
  repeat' (conv=>whnf
           first
           | (refine Br.mk (fun h=>absurd h Bool.false_ne_true) (fun _=>?_))
           | (refine Br.mk (fun _=>?_) (fun h=>absurd h.symm Bool.false_ne_true))
           | (exact q0x K ⟨rfl,rfl,rfl,rfl,rfl,rfl,rfl,trivial⟩))
 | false =>
  rw [if_neg (by decide)] at he
  subst he
  repeat' (conv=>whnf
           first
           | (refine Br.mk (fun h=>absurd h Bool.false_ne_true) (fun _=>?_))
           | (refine Br.mk (fun _=>?_) (fun h=>absurd h.symm Bool.false_ne_true))
           | (exact q0x K ⟨rfl,rfl,rfl,rfl,rfl,rfl,rfl,trivial⟩))
theorem lk9s2 {r:RT} {n n2:Nat} {a:Option Addr} {c:Nat} (hr:q0q m ((⟨pw,0,none⟩:Addr).add 19) (.slice a n c)) {z e:Int} {b:Bool} (hcs:b=true→∃ ad bd d,a=some ad∧q0q m (ad.add x2.toNat) (.slice (some bd) n2 d)∧(0≤x2∧x2<n)∧(0≤x3∧x3<n2)∧q0q m (bd.add x3.toNat) (i z))
  (K:wpI Tryz.prog (.seq (.tree lk9L r) R) (q0i rs RR) (envL [(0,.val (ptr p)),(1,.val (ptr pw)),(5,.var [i x0,i x1,i x2,i x3]),(15,.val (i z)),(16,.val (i e)),(17,.val (.bool b)),(214,.val (.bool b))]) m) :
  wpI Tryz.prog (.seq (.tree lk9L (.pure 5 (.pure 6 (.pure 7 (.pure 8 (.pure 9 (.pure 10 (.pure 11 (.pure 12 (.pure 13 (.pure 14 (.pure 15 (.pure 16 (.pure 17 (.pure 18 (.pure 19 (.pure 20 r))))))))))))))))) R) (q0i rs RR) (envL [(0,.val (ptr p)),(1,.val (ptr pw)),(5,.var [i x0,i x1,i x2,i x3]),(15,.val (i z)),(16,.val (i e)),(17,.val (.bool b)),(198,.val (.bool b))]) m:=by
 cases b with
 | true =>
  obtain ⟨ad,bd,d,rfl,h1,hx2,hx3,h2⟩:=hcs rfl
  have hzz:(z==z)=true:=by simp
  refine Br.mk (fun _=>?_) (fun h=>by cases h)
  refine WLd.mk _ hr ?_
  refine WBnd.mk (by decide) ?_
  refine WGet.mk _ rfl ?_
  refine WIdx.mk ad rfl hx2 ?_
  refine WLd.mk (.slice (some bd) n2 d) (by simpa using h1) ?_
  refine WBnd.mk (by decide) ?_
  refine WGet.mk _ rfl ?_
  refine WIdx.mk bd rfl hx3 ?_
  refine WLd.mk (i z) (by simpa using h2) ?_
  refine Br.mk (fun _=>?_) (fun h=>by cases h)
  conv=>whnf
  refine q0x K ⟨rfl,rfl,rfl,rfl,rfl,rfl,?_,trivial⟩
  show some (AV.val (.bool (z==z)))=_
  rw [hzz]
 | false =>
  refine Br.mk (fun h=>by cases h) (fun _=>?_)
  refine Br.mk (fun h=>by cases h) (fun _=>?_)
  conv=>whnf
  exact q0x K ⟨rfl,rfl,rfl,rfl,rfl,rfl,rfl,trivial⟩
theorem lk9s3 (hrs:rs=[.t 6]) {z e:Int} {b:Bool} (he:e=if b=true then 0 else 2) (hz:b=false→z=0) (fin:RR (.returned (.bool true)) m) :
  wpI Tryz.prog (.seq (.tree lk9L (.pure 21 (.pure 22 (.pure 23 (.pure 24 (.pure 25 (.pure 26 (.pure 27 (.pure 28 (.pure 29 (.pure 30 (.pure 31 (.pure 32 (.pure 33 RT.nil)))))))))))))) .ret) (q0i rs RR) (envL [(0,.val (ptr p)),(1,.val (ptr pw)),(5,.var [i x0,i x1,i x2,i x3]),(15,.val (i z)),(16,.val (i e)),(17,.val (.bool b)),(214,.val (.bool b))]) m:=by
 subst hrs
 cases b with
 | true =>
  repeat' (conv=>whnf
           first
           | (refine Br.mk (fun h=>absurd h Bool.false_ne_true) (fun _=>?_))
           | (refine Br.mk (fun _=>?_) (fun h=>absurd h.symm Bool.false_ne_true))
           | (exact WRet.same fin))
 | false =>
  rw [if_neg (by decide)] at he
  subst he
  obtain rfl:=hz rfl
  repeat' (conv=>whnf
           first
           | (refine Br.mk (fun h=>absurd h Bool.false_ne_true) (fun _=>?_))
           | (refine Br.mk (fun _=>?_) (fun h=>absurd h.symm Bool.false_ne_true))
           | (exact WRet.same fin))
theorem j2e (hrs:rs=[.t 6]) {n n2:Nat} {a:Option Addr} {c:Nat} (hr:q0q m ((⟨pw,0,none⟩:Addr).add 19) (.slice a n c)) {z e:Int} {b:Bool} (hcs:b=true→∃ ad bd d,a=some ad∧q0q m (ad.add x2.toNat) (.slice (some bd) n2 d)∧(0≤x2∧x2<n)∧(0≤x3∧x3<n2)∧q0q m (bd.add x3.toNat) (i z))
  (he:e=if b=true then 0 else 2) (hz:b=false→z=0) (fin:RR (.returned (.bool true)) m) :
  wpI Tryz.prog (q2i 9) (q0i rs RR) (envL [(0,.val (ptr p)),(1,.val (ptr pw)),(5,.var [i x0,i x1,i x2,i x3]),(15,.val (i z)),(16,.val (i e)),(17,.val (.bool b))]) m:=by
 rw [w5p]
 exact lk9s1 he rfl (lk9s2 hr hcs (lk9s3 hrs he hz fin))
end
section
variable {m0 m1 m:Mem} {V V1:CV} {C:q0c} {M:Mac} {sv sv1:Value} {p pw:Nat} {H H1:HdF} {s:St} {sh:List Int}
theorem j1n (h:q0l m0 m V C M sv p H s) (hB:q1m m0 V C M sv sh) (g:RfAt m1 m V1 C M sv1 0 pw H1 s) (x0 x1 x2 x3:Int) :
  q0m Tryz.prog 37 [ptr p,ptr pw,.agg ⟨[i x0,i x1,i x2,i x3]⟩] m (.bool true):=by
 refine q0e q0d Tryz.func37 k6i rfl ?_
 unfold Fn.asks
 rw [w0p]
 have hword:q0q m ((⟨pw,0,none⟩:Addr).add 24) (i (if s.ended=true then 0 else (s.word:Int))):=g.cell rfl
 obtain ⟨b,hb⟩:∃ b,b=(((decide (x2≥0)&&decide (x2<(s.arr.length:Int)))&&decide (x3≥0))&&decide (x3<((s.arr.getD x2.toNat []).length:Int))):=⟨_,rfl⟩
 obtain ⟨z,hz⟩:∃ z:Int,z=if b=true then (s.arr.getD x2.toNat []).getD x3.toNat 0 else 0:=⟨_,rfl⟩
 obtain ⟨e,he⟩:∃ e:Int,e=if b=true then 0 else 2:=⟨_,rfl⟩
 have hbt:b=true→0≤x2∧x2<s.arr.length∧0≤x3∧x3<(s.arr.getD x2.toNat []).length:=fun hh=>by
  rw [hb,Bool.and_eq_true,Bool.and_eq_true,Bool.and_eq_true,decide_eq_true_eq,decide_eq_true_eq,decide_eq_true_eq,decide_eq_true_eq] at hh
  exact ⟨hh.1.1.1,hh.1.1.2,hh.1.2,hh.2⟩
 have hcell:=j8q h hB x2 x3
 have key:(if 0≤x2∧x2<s.arr.length∧0≤x3∧x3<(s.arr.getD x2.toNat []).length then Value.tuple ⟨[i ((s.arr.getD x2.toNat []).getD x3.toNat 0),i 0]⟩ else .tuple ⟨[i 0,i 2]⟩)=.tuple ⟨[i z,i e]⟩:=by
  rw [hz,he]
  cases hbb:b with
  | true=>rw [if_pos (hbt hbb)];rfl
  | false =>
   rw [if_neg]
   ·rfl
   ·rintro ⟨a1,a2,a3,a4⟩
    rw [hb,decide_eq_true a1,decide_eq_true a2,decide_eq_true a3,decide_eq_true a4] at hbb
    cases hbb
 rw [key] at hcell
 refine w2d (j1u h hB) (j8j (k9i h hB) (g.cell rfl) (g.cell rfl) hword (v4o h hB) (j7o g)
  (j2x (L:=s.regs) (g.cell rfl) (fun hx=>g.regCells (r:=x0.toNat) (by omega)) (v2o h hB x0)
   (k6y (L:=s.kept) (g.cell rfl) (fun hx=>g.keptCells (r:=x1.toNat) (by omega)) (w0g h hB x1)
    (k8k hcell (j1t (n:=s.arr.length) (n2:=(s.arr.getD x2.toNat []).length) (g.cell rfl) hb (fun hx=>?_) (j2e rfl (n:=s.arr.length) (n2:=(s.arr.getD x2.toNat []).length) (g.cell rfl) (fun hh=>?_) he (fun hh=>?_) ⟨rfl,rfl⟩))))))
 ·obtain ⟨ad,had,hc⟩:=g.rowCell (k:=x2.toNat) (by omega)
  exact ⟨ad,_,_,had,hc⟩
 ·have hx:=hbt hh
  obtain ⟨ad,had,hc⟩:=g.rowCell (k:=x2.toNat) (by omega)
  obtain ⟨ae,hae,hce⟩:=g.elemCell (k:=x2.toNat) (q:=x3.toNat) (by omega) (by omega)
  rw [hae] at hc
  refine ⟨ad,ae,_,had,hc,⟨hx.1,hx.2.1⟩,⟨hx.2.2.1,hx.2.2.2⟩,?_⟩
  rw [hz,if_pos hh];exact hce
 ·rw [hz,if_neg (by rw [hh];decide)]
end
end Go.Proofs.YtleofbpepfmfgaaGreatDoor
