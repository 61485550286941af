import Derived.Test.YtleofbpepfmfgaaGreatDoorVxSimLk
set_option linter.unusedSimpArgs false
set_option linter.unusedVariables false
set_option maxRecDepth 100000
namespace Go.Proofs.YtleofbpepfmfgaaGreatDoor
open Go Go.Vx
open Go.Vx.IOp Go.Vx.IR Go.Vx.Opd
section
variable {C:q0c} {M:Mac} {sh:List Int} {s:St}
end
theorem v9v {m:Mem} (V:CV) {C:q0c} (M:Mac) (hV:q1q m V C) {aa sa:Option Addr} {al ca sl cs:Nat} (n:Int) :
  q0f Tryz.prog 18 [V.val C,M.val,.slice aa al ca,i n,.slice sa sl cs] m fun e m'=>e=.returned (i (canS C M al n sl))∧Mem.le m m':=by
 refine q0e q0d Tryz.func18 k1h rfl ?_
 conv=>whnf
 refine q0a.mk (k0n V hV M) ?_
 rintro _ m1 ⟨rfl,l1⟩
 refine Br.mk (fun h0=>?_) (fun h0=>?_)
 ·have h0:q2b C M≠0:=by simpa using h0
  exact WRet.same ⟨by unfold canS;rw [if_pos h0];rfl,l1⟩
 ·have h0:¬ q2b C M≠0:=by simpa using h0
  refine WSc.mk (v:=decide (n<0)) (fun _=>And.intro (Mem.le.refl _) rfl) ?_
  refine WSc.mk (v:=decide (n>4194304)) (fun _=>And.intro (Mem.le.refl _) rfl) ?_
  refine Br.mk (fun h1=>?_) (fun h1=>?_)
  ·have h1:((al:Int) != C.pr||decide (n<0)||decide (n>4194304))=true:=h1
   exact WRet.same ⟨by unfold canS;rw [if_neg h0,if_pos h1];rfl,l1⟩
  ·have h1:¬ ((al:Int) != C.pr||decide (n<0)||decide (n>4194304))=true:=by
    have h1:((al:Int) != C.pr||decide (n<0)||decide (n>4194304))=false:=h1
    rw [h1];decide
   refine Br.mk (fun h2=>?_) (fun h2=>?_)
   ·have h2:(sl:Int)>1000:=of_decide_eq_true h2
    exact WRet.same ⟨by unfold canS;rw [if_neg h0,if_neg h1,if_pos h2];rfl,l1⟩
   ·have h2:¬ (sl:Int)>1000:=of_decide_eq_false h2
    exact WRet.same ⟨by unfold canS;rw [if_neg h0,if_neg h1,if_neg h2];rfl,l1⟩
section
variable {m0 mb m:Mem} {P:List Int} {kd nn:Int} {A B:Option Addr} {c d:Nat} {V:CV} {C:q0c} {M:Mac} {sv:Value} {p:Nat} {H:HdF} {s:St} {sh:List Int}

end
section
variable {m:Mem} {T:Nat} {fr:Nat×Nat} {V:CV} {C:q0c} {M:Mac} {aa:Option Addr} {ca:Nat} {args:List Int}
end
def q9r (m:Mem) (A:Option Addr):Prop:=A=none∨∃ b,A=some ⟨b,0,none⟩∧m b=none
theorem v7n {m m':Mem} {A:Option Addr} {n c:Nat} {L:List Int} (h:IAt m (.slice A n c) L) (hk:A=none∨∃ b,A=some ⟨b,0,none⟩∧∀ o,m b=some o→m' b=some o):IAt m' (.slice A n c) L:=by
 obtain ⟨a,c',e,q0,q1,q2⟩:=h
 injection e with e1 e2 e3
 subst e1;subst e2;subst e3
 refine ⟨A,c,rfl,q0,fun ad ha j v hj=>?_,q2⟩
 rcases hk with rfl | ⟨b,rfl,hb⟩
 ·cases ha
 ·cases ha
  have h0:=q1 _ rfl j v hj
  rw [add0] at h0 ⊢
  obtain ⟨cs,T,fr,h1,h2,h3⟩:=h0
  exact ⟨cs,T,fr,hb _ h1,h2,h3⟩
section
variable {m0 m m':Mem} {V:CV} {C:q0c} {M:Mac} {sv:Value} {p:Nat} {H:HdF} {s s':St} {sh:List Int}
theorem v9d {m m':Mem} {a:Option Addr} {L:List Int} {e:Ending} (hR:q9t m a L.length (L.map i) T64 1 e m') (ha:a=none→L.length=0):∃ A c,e=.returned (.slice A L.length c)∧Mem.le m m'∧IAt m' (.slice A L.length c) L∧q9r m A:=by
 rcases hR with ⟨h1,rfl,rfl⟩ | ⟨b,c,rest,rfl,l2,hc,hb,hm,hr⟩
 ·have h0:=ha h1
  have hL:L=[]:=List.length_eq_zero_iff.1 h0
  subst hL
  exact ⟨none,0,rfl,Mem.le.refl _,⟨none,0,rfl,(fun _=>rfl),(fun ad h=>by cases h),Nat.le_refl _⟩,.inl rfl⟩
 ·refine ⟨_,c,rfl,l2,⟨_,c,rfl,(fun h=>by cases h),(fun ad had=>?_),hc⟩,.inr ⟨b,rfl,hb⟩⟩
  cases had
  exact q0g.blk hm fun q v hq=>by rw [Nat.zero_add,List.getElem?_append_left (List.getElem?_eq_some_iff.1 hq).1];exact hq
theorem k7h (h:q0l m0 m V C M sv p H s) (hl:s.prints.length≤1000000000) :
  q0f Tryz.prog 49 [ptr p] m fun e m'=>∃ A c,e=.returned (.agg ⟨[.slice A s.prints.length c,i s.kind,i s.value]⟩)∧Mem.le m m'∧IAt m' (.slice A s.prints.length c) s.prints∧q9r m A:=by
 refine q0e q0d Tryz.func49 v2a rfl ?_
 have hN:0<famN s:=by unfold famN;omega
 have hcl:=z7j (m:=m) (a:=(H 0).a) (n:=s.prints.length) (c:=(H 0).c) (L:=s.prints.map i) ⟨by simp,fun ad had=>h.fam.cellsAt hN had⟩ hl
 refine WLd.mk (hv H s 0) (by rw [q0o];exact h.cell rfl) ?_
 refine WLd.mk (i s.kind) (by rw [q0o];exact h.cell rfl) ?_
 refine WLd.mk (i s.value) (by rw [q0o];exact h.cell rfl) ?_
 conv=>whnf
 refine ⟨?_,trivial⟩
 conv=>whnf
 refine q1r.mk hcl ?_
 intro e m1 hR
 obtain ⟨A,c,rfl,l1,hI,hF⟩:=v9d hR (fun hn=>by rw [h.nil0 hn];rfl)
 refine ⟨l1,?_⟩
 conv=>whnf
 refine ⟨?_,trivial⟩
 exact WRet.same ⟨A,c,rfl,l1,hI,hF⟩
theorem j0p (h:q0l m0 m V C M sv p H s) (hB:q1m m0 V C M sv sh) {k:Nat} (hG:Good C s k) (n:Nat) (hn:k+401 * n≤900000000) (hn2:n≤100000) (ht:s.took≤4194304) :
  q0f Tryz.prog 30 [ptr p,i (n:Int)] m fun e m'=>∃ H' m3 A c,Goes m0 V C M sv p m H s m3 H' (runS C M sh n s)∧Mem.le m3 m'∧e=.returned (.tuple ⟨[.agg ⟨[.slice A (runS C M sh n s).prints.length c,i (runS C M sh n s).kind,i (runS C M sh n s).value]⟩,.bool (runS C M sh n s).ended,i 0]⟩) ∧
   q4n m' (.agg ⟨[.slice A (runS C M sh n s).prints.length c,i (runS C M sh n s).kind,i (runS C M sh n s).value]⟩) (runS C M sh n s).prints (runS C M sh n s).kind (runS C M sh n s).value∧q9r m3 A:=by
 refine q0e q0d Tryz.func30 z8w rfl ?_
 conv=>whnf
 refine q0a.pure (q6u h hB) ?_
 refine Br.mk (fun hh=>by cases hh) (fun _=>?_)
 refine WSc.mk (v:=decide ((n:Int)>4194304)) (fun _=>And.intro (Mem.le.refl _) rfl) ?_
 refine Br.mk (fun hh=>?_) (fun _=>?_)
 ·have hh:(decide ((n:Int)<0)||decide ((n:Int)>4194304))=true:=hh
  simp only [Bool.or_eq_true,decide_eq_true_eq] at hh
  omega
 refine WLd.mk (i (s.took:Int)) (by rw [q0o];exact h.cell rfl) ?_
 refine Br.mk (fun hh=>?_) (fun _=>?_)
 ·have hh:(s.took:Int)>4194304:=of_decide_eq_true hh
  omega
 conv=>whnf
 refine q0a.mk (z9q h hB hG n hn) ?_
 rintro _ m3 ⟨rfl,H3,G3⟩
 have h3:=G3.at'
 have hgood:=Good.run (M:=M) (sh:=sh) hB.ok (n:=n) hG
 have hlim:=hgood.lim
 have hwd:∀ {m':Mem},Mem.le m3 m'→q0q m' (((⟨p,0,none⟩:Addr).add 0).add 0) (i (q2q (runS C M sh n s))):=fun hle=>by rw [q0o];exact (h3.mono hle).cell rfl
 have hout:=k7h h3 (by have:=hlim.prints;omega)
 have hend:decide (q2q (runS C M sh n s)<0)=(runS C M sh n s).ended:=by
  unfold q2q
  cases (runS C M sh n s).ended with
  | true=>rfl
  | false=>rw [if_neg (by decide)];exact decide_eq_false (by omega)
 have fin:∀ {m4:Mem} {A:Option Addr} {c:Nat},Mem.le m3 m4→q4n m4 (.agg ⟨[.slice A (runS C M sh n s).prints.length c,i (runS C M sh n s).kind,i (runS C M sh n s).value]⟩) (runS C M sh n s).prints (runS C M sh n s).kind (runS C M sh n s).value→q9r m3 A →
   ∃ H' m3' A' c',Goes m0 V C M sv p m H s m3' H' (runS C M sh n s)∧Mem.le m3' m4∧Ending.returned (.tuple ⟨[.agg ⟨[.slice A (runS C M sh n s).prints.length c,i (runS C M sh n s).kind,i (runS C M sh n s).value]⟩,.bool (decide (q2q (runS C M sh n s)<0)),i 0]⟩)=.returned (.tuple ⟨[.agg ⟨[.slice A' (runS C M sh n s).prints.length c',i (runS C M sh n s).kind,i (runS C M sh n s).value]⟩,.bool (runS C M sh n s).ended,i 0]⟩) ∧
   q4n m4 (.agg ⟨[.slice A' (runS C M sh n s).prints.length c',i (runS C M sh n s).kind,i (runS C M sh n s).value]⟩) (runS C M sh n s).prints (runS C M sh n s).kind (runS C M sh n s).value∧q9r m3' A':=fun {m4 A c} hle ho hf=>⟨H3,m3,A,c,G3,hle,by rw [hend],ho,hf⟩
 conv=>whnf
 refine ⟨?_,?_,trivial⟩
 ·conv=>whnf
  refine q1r.mk hout ?_
  rintro _ m4 ⟨A,c,rfl,l4,hI,hF⟩
  refine ⟨l4,?_⟩
  conv=>whnf
  refine ⟨?_,?_,trivial⟩
  ·refine WLd.mk _ (hwd l4) ?_
   conv=>whnf
   refine ⟨?_,trivial⟩
   exact WRet.same (fin l4 ⟨A,c,rfl,hI⟩ hF)
  ·refine WLd.mk _ (hwd l4) ?_
   exact WRet.same (fin l4 ⟨A,c,rfl,hI⟩ hF)
 ·refine WLd.mk _ (hwd (Mem.le.refl _)) ?_
  conv=>whnf
  refine ⟨?_,trivial⟩
  conv=>whnf
  refine q1r.mk hout ?_
  rintro _ m4 ⟨A,c,rfl,l4,hI,hF⟩
  refine ⟨l4,?_⟩
  conv=>whnf
  refine ⟨?_,trivial⟩
  exact WRet.same (fin l4 ⟨A,c,rfl,hI⟩ hF)
theorem j5c (h:q0l m0 m V C M sv p H s) (hB:q1m m0 V C M sv sh) (n:Int) (hn:n<0∨n>4194304) :
  q0m Tryz.prog 30 [ptr p,i n] m (.tuple ⟨[outZ,.bool false,i 2]⟩):=by
 refine q0e q0d Tryz.func30 z8w rfl ?_
 conv=>whnf
 refine q0a.pure (q6u h hB) ?_
 refine Br.mk (fun hh=>by cases hh) (fun _=>?_)
 refine WSc.mk (v:=decide (n>4194304)) (fun _=>And.intro (Mem.le.refl _) rfl) ?_
 refine Br.mk (fun _=>?_) (fun hh=>?_)
 ·exact WRet.same ⟨rfl,rfl⟩
 ·have hh:(decide (n<0)||decide (n>4194304))=false:=hh
  rw [Bool.or_eq_false_iff,decide_eq_false_iff_not,decide_eq_false_iff_not] at hh
  omega
end
theorem w3i {m:Mem} {a:Option Addr} {c:Nat} {L:List Int} (h:IAt m (.slice a L.length c) L) (hl:L.length≤1000) :
  q0f Tryz.prog 16 [.slice a L.length c] m fun e m'=>∃ A cc,e=.returned (.slice A L.length cc)∧Mem.le m m'∧IAt m' (.slice A L.length cc) L∧q9r m A:=by
 refine q0e q0d Tryz.func16 v3s rfl ?_
 obtain ⟨_,c2,e2,q0,q1,hcap⟩:=h
 injection e2 with e21 _ e23
 subst e21;subst e23
 have em:(if (1001:Int)<L.length then (1001:Int) else L.length)=(L.length:Int):=by split<;>omega
 refine WNew.mk fun b1 hb1=>?_
 refine WSl.mk ⟨Int.le_refl _,by show (0:Int)≤(if (1001:Int)<L.length then (1001:Int) else L.length);rw [em];omega,by show (if (1001:Int)<L.length then (1001:Int) else L.length)≤(c:Int);rw [em];omega⟩ ?_
 refine WApp.copyB hb1 (A:=a) (n:=L.length) (q8r rfl) (by rw [em];show Int.toNat _ - Int.toNat 0=_;simp) (L.map i) ⟨by simp,fun ad had=>q1 ad had⟩ (fun ha=>by rw [q0 ha];rfl) (by omega) fun b' cb m2 rest hle hcb hbm hcells=>?_
 refine WRet.same ⟨some ⟨b',0,none⟩,cb,rfl,hle,⟨_,cb,rfl,(fun h=>by cases h),(fun ad had=>?_),hcb⟩,.inr ⟨b',rfl,hbm⟩⟩
 cases had
 exact q0g.blk hcells fun q v hq=>by rw [Nat.zero_add,List.getElem?_append_left (List.getElem?_eq_some_iff.1 hq).1];exact hq
structure Both (mb mr m:Mem) (V V1:CV) (C:q0c) (M:Mac) (sv sw:Value) (p pw:Nat) (H Hw:HdF) (s t:St):Prop where
 one:q0l mb m V C M sv p H s
 two:RfAt mr m V1 C M sw 0 pw Hw t
 dis:∀ b,q0s p H s b→¬ q0s pw Hw t b
 sub:Mem.le mb mr
 free:∀ b,q0s p H s b→mr b=none
section
variable {mb mr m m2 m3:Mem} {V V1:CV} {C:q0c} {M:Mac} {sv sw:Value} {p pw p':Nat} {H H' Hw Hw':HdF} {s s' t t':St}
theorem Both.stepOne (B:Both mb mr m V V1 C M sv sw p pw H Hw s t) (G:Goes mb V C M sv p m H s m2 H' s'):Both mb mr m2 V V1 C M sv sw p pw H' Hw s' t:=by
 have hkw:∀ b o,q0s pw Hw t b→m b=some o→m2 b=some o:=fun b o hf hb=>G.keep b o hb fun h=>B.dis b h hf
 refine ⟨G.at',B.two.same (fun b o hb=>G.keep b o (B.two.le b o hb) fun h=>by rw [B.free b h] at hb;cases hb) hkw,fun b hf hw=>?_,B.sub,fun b hf=>?_⟩
 ·rcases G.new b hf with h | h
  ·exact B.dis b h hw
  ·obtain ⟨o,ho⟩:=B.two.live hw
   rw [h] at ho;cases ho
 ·rcases G.new b hf with h | h
  ·exact B.free b h
  ·exact q1z B.two.le h
theorem Both.stepTwo (B:Both mb mr m V V1 C M sv sw p pw H Hw s t) (G:q1d mr V1 C M sw 0 pw m Hw t m2 Hw' t'):Both mb mr m2 V V1 C M sv sw p pw H Hw' s t':=by
 refine ⟨B.one.same (fun b o hb=>G.keep b o (B.one.le b o hb) fun h=>by
   have:=B.two.nw b h
   rw [B.sub b o hb] at this;cases this) fun b o hf hb=>G.keep b o hb fun h=>B.dis b hf h,G.at',fun b hf hw=>?_,B.sub,B.free⟩
 rcases G.new b hw with h | h
 ·exact B.dis b hf h
 ·obtain ⟨o,ho⟩:=B.one.live hf
  rw [h] at ho;cases ho
theorem Both.mono (B:Both mb mr m V V1 C M sv sw p pw H Hw s t) (hle:Mem.le m m2):Both mb mr m2 V V1 C M sv sw p pw H Hw s t:=⟨B.one.mono hle,B.two.mono hle,B.dis,B.sub,B.free⟩
theorem Both.copy (B:Both mb mr m V V1 C M sv sw p pw H Hw s t) (hle:Mem.le m m2) (h:q0l mb m2 V C M sv p' H' s) (hf:∀ b,q0s p' H' s b→m b=none):Both mb mr m2 V V1 C M sv sw p' pw H' Hw s t :=
 ⟨h,B.two.mono hle,(fun b h1 h2=>by
  obtain ⟨o,ho⟩:=B.two.live h2
  rw [hf b h1] at ho;cases ho),B.sub,fun b h1=>q1z B.two.le (hf b h1)⟩
theorem k1t (hle:Mem.le m m2) (hf:∀ b,q0s p' H' s b→m b=none) (G:Goes mb V C M sv p' m2 H' s m3 Hw s'):Mem.le m m3:=fun b o hb=>G.keep b o (hle b o hb) fun h=>by rw [hf b h] at hb;cases hb
end
theorem v0r (m:Mem):q4n m (.agg ⟨[.slice none 0 0,i 0,i 0]⟩) [] 0 0:=⟨none,0,rfl,none,0,rfl,(fun _=>rfl),(fun ad h=>by cases h),Nat.le_refl _⟩
def z9r {σ:Type} (k:Nat) (l:σ→List (Nat×AV)) (inv:σ→Mem→Prop):Post:=fun ex e m=>(ex=.normal∨ex=.exit k)∧∃ s,q3i e (l s)∧inv s m
def q6b {σ:Type} (l:σ→List (Nat×AV)) (inv:σ→Mem→Prop):Post:=fun ex e m=>ex=.normal∧∃ s,q3i e (l s)∧inv s m
section
variable {σ:Type} {P:Program} {a b:IR} {Q:Post} {l0:List (Nat×AV)} {l:σ→List (Nat×AV)} {inv:σ→Mem→Prop} {e:Env} {m:Mem} {k:Nat}
theorem cutN (hA:wpI P a (q6b l inv) (envL l0) m) (hc:q3i e l0) (hB:∀ s m' e',q3i e' (l s)→inv s m'→wpI P b Q e' m'):wpI P (.seq a b) Q e m:=by
 show wpI P a (q4i (fun e' m'=>wpI P b Q e' m') Q) e m
 refine q4l (q8w hc) ?_ hA
 rintro ex x y m' hsub ⟨rfl,s,hcov,hi⟩
 exact hB s m' y (q7v hsub hcov) hi
theorem z7m (hA:wpI P a (q6b l inv) (envL l0) m) (hc:q3i e l0) (hB:∀ s m' e',q3i e' (l s)→inv s m'→Q .normal e' m'):wpI P a Q e m:=by
 refine q4l (q8w hc) ?_ hA
 rintro ex x y m' hsub ⟨rfl,s,hcov,hi⟩
 exact hB s m' y (q7v hsub hcov) hi
theorem z8g (hA:wpI P a (z9r k l inv) (envL l0) m) (hc:q3i e l0) (hB:∀ s m' e',q3i e' (l s)→inv s m'→Q .normal e' m'):wpI P a (q6x k Q) e m:=by
 refine q4l (q8w hc) ?_ hA
 rintro ex x y m' hsub ⟨h,s,hcov,hi⟩
 have:=hB s m' y (q7v hsub hcov) hi
 rcases h with rfl | rfl
 ·exact this
 ·show (bif Nat.beq k k then Q .normal y m' else Q (.exit k) y m')
  rw [show Nat.beq k k=true from Nat.beq_refl k];exact this
theorem j2a (hA:wpI P a (q6b l inv) (envL l0) m) (hc:q3i e l0) (hB:∀ s m' e',q3i e' (l s)→inv s m'→wpI P b Q e' m'):wpI P (.seq (.block k a) b) Q e m:=by
 show wpI P a (q6x k (q4i (fun e' m'=>wpI P b Q e' m') Q)) e m
 refine q4l (q8w hc) ?_ hA
 rintro ex x y m' hsub ⟨rfl,s,hcov,hi⟩
 exact hB s m' y (q7v hsub hcov) hi
end
def q8q:IR:=(match z3o.body with | .seq _ (.seq _ (.seq _ (.seq _ (.seq _ (.seq _ (.seq _ (.seq a _)))))))=>a | r=>r)
def plI0:IR:=match q8q with | .seq a _=>a | r=>r
def k6o:List (Nat×Nat):=match q8q with | .seq _ (.block _ (.loop md _))=>md | _=>[]
def plHd:IR:=match q8q with | .seq _ (.block _ (.loop _ (.seq a _)))=>a | r=>r
def plB:IR:=match q8q with | .seq _ (.block _ (.loop _ (.seq _ (.seq (.block _ a) _))))=>a | r=>r
def z6j:IR:=match q8q with | .seq _ (.block _ (.loop _ (.seq _ (.seq _ a))))=>a | r=>r
theorem j4f:q8q=.seq plI0 (.block 0 (.loop k6o (.seq plHd (.seq (.block 1 plB) z6j)))):=rfl
def plS1:IR:=match plB with | .seq a _=>a | r=>r
def plS2:IR:=match plB with | .seq _ (.seq a _)=>a | r=>r
def plS3:IR:=match plB with | .seq _ (.seq _ (.seq a _))=>a | r=>r
def plS4:IR:=match plB with | .seq _ (.seq _ (.seq _ a))=>a | r=>r
theorem j3w:plB=.seq plS1 (.seq plS2 (.seq plS3 plS4)):=rfl
def z0l:IR:=match plS3 with | .seq _ (.block _ (.seq _ (.cond _ a _)))=>a | r=>r
def j9w:IR:=match plS3 with | .seq _ (.block _ (.seq _ (.cond _ _ a)))=>a | r=>r
def plR1:IR:=match z0l with | .seq a _=>a | r=>r
def plR2:IR:=match z0l with | .seq _ (.seq a _)=>a | r=>r
def plR3:IR:=match z0l with | .seq _ (.seq _ (.seq a _))=>a | r=>r
def plR4:IR:=match z0l with | .seq _ (.seq _ (.seq _ a))=>a | r=>r
theorem k2e:z0l=.seq plR1 (.seq plR2 (.seq plR3 plR4)):=rfl
def pl5 (av:Value) (x0 x1 x2 x3:Int) (pw j:Nat) (ps:Nat):List (Nat×AV):=[(4,.val av),(11,.var [i x0,i x1,i x2,i x3]),(15,.val (ptr ps)),(18,.val (ptr pw)),(19,.val (i j))]
def pl9 (av:Value) (x0 x1 x2 x3:Int) (pw j ps:Nat) (N:Int) (A:Option Addr) (n c:Nat) (kd vl er:Int) (en:Bool):List (Nat×AV):=[(4,.val av),(11,.var [i x0,i x1,i x2,i x3]),(15,.val (ptr ps)),(18,.val (ptr pw)),(19,.val (i j)),(20,.val (i N)),(21,.var [.slice A n c,i kd,i vl]),(22,.val (.bool en)),(23,.val (i er))]
section
variable {m:Mem} {av:Value} {x0 x1 x2 x3:Int} {pw j ps:Nat} {N:Int}
theorem v1n {n:Nat} {kd vl er:Int} {en:Bool} {R:Ending→Mem→Prop} {inv:(Option Addr×Nat)→Mem→Prop} (hrun:q0f Tryz.prog 30 [ptr ps,i N] m R) (hR:∀ e m',R e m'→∃ A c,e=.returned (.tuple ⟨[.agg ⟨[.slice A n c,i kd,i vl]⟩,.bool en,i er]⟩)∧inv (A,c) m') :
  wpI Tryz.prog plR1 (q6b (fun x=>pl9 av x0 x1 x2 x3 pw j ps N x.1 n x.2 kd vl er en) inv) (envL [(4,.val av),(11,.var [i x0,i x1,i x2,i x3]),(15,.val (ptr ps)),(18,.val (ptr pw)),(19,.val (i j)),(20,.val (i N))]) m:=by
 conv=>whnf
 refine q0a.mk hrun ?_
 intro e m' hRe
 obtain ⟨A,c,rfl,hi⟩:=hR e m' hRe
 conv=>whnf
 exact ⟨rfl,(A,c),⟨rfl,rfl,rfl,rfl,rfl,rfl,rfl,rfl,rfl,trivial⟩,hi⟩
theorem k9s {A:Option Addr} {n c:Nat} {kd vl er:Int} {en:Bool} {Q:Post} (hN:0≤N∧N≤4194304) (K:∀ e',q3i e' (pl9 av x0 x1 x2 x3 pw j ps N A n c kd vl er en)→Q .normal e' m) :
  wpI Tryz.prog plR2 Q (envL (pl9 av x0 x1 x2 x3 pw j ps N A n c kd vl er en)) m:=by
 unfold pl9
 refine WSc.mk (v:=decide (N>4194304)) (fun _=>And.intro (Mem.le.refl _) rfl) ?_
 refine Br.mk (fun hh=>?_) (fun _=>?_)
 ·have hh:(decide (N<0)||decide (N>4194304))=true:=hh
  simp only [Bool.or_eq_true,decide_eq_true_eq] at hh
  omega
 conv=>whnf
 exact K _ ⟨rfl,rfl,rfl,rfl,rfl,rfl,rfl,rfl,rfl,trivial⟩
theorem j6v {Q:Post} (hN:N<0∨N>4194304) (K:∀ e',q3i e' (pl5 av x0 x1 x2 x3 pw j ps)→Q (.exit 2) e' m) :
  wpI Tryz.prog plR2 Q (envL (pl9 av x0 x1 x2 x3 pw j ps N none 0 0 0 0 2 false)) m:=by
 unfold pl9
 refine WSc.mk (v:=decide (N>4194304)) (fun _=>And.intro (Mem.le.refl _) rfl) ?_
 refine Br.mk (fun _=>?_) (fun hh=>?_)
 ·refine WSc.mk (v:=false) (fun _=>And.intro (Mem.le.refl _) rfl) ?_
  refine WSc.mk (v:=false) (fun _=>?_) ?_
  ·conv=>whnf
   refine q0a.mk (v7j (v0r m) (v0r m) (by decide)) ?_
   rintro _ _ ⟨rfl,rfl⟩
   conv=>whnf
   exact And.intro (Mem.le.refl _) rfl
  refine Br.mk (fun h=>by cases h) (fun _=>?_)
  conv=>whnf
  exact K _ ⟨rfl,rfl,rfl,rfl,rfl,trivial⟩
 ·have hh:(decide (N<0)||decide (N>4194304))=false:=hh
  rw [Bool.or_eq_false_iff,decide_eq_false_iff_not,decide_eq_false_iff_not] at hh
  omega
theorem w4d {A:Option Addr} {n c:Nat} {kd vl er:Int} {en:Bool} {σ:Type} {inv:σ→Mem→Prop} {R:Ending→Mem→Prop} (hrun:q0f Tryz.prog 34 [ptr pw,i N] m R) (hR:∀ e m',R e m'→e=.returned q2r∧∃ s,inv s m') :
  wpI Tryz.prog plR3 (q6b (fun _=>pl9 av x0 x1 x2 x3 pw j ps N A n c kd vl er en) inv) (envL (pl9 av x0 x1 x2 x3 pw j ps N A n c kd vl er en)) m:=by
 unfold pl9
 conv=>whnf
 refine q0a.mk hrun ?_
 intro e m' hRe
 obtain ⟨rfl,s,hi⟩:=hR e m' hRe
 conv=>whnf
 exact ⟨rfl,s,⟨rfl,rfl,rfl,rfl,rfl,rfl,rfl,rfl,rfl,trivial⟩,hi⟩
theorem k1d {A B:Option Addr} {P:List Int} {c d:Nat} {kd vl:Int} {en:Bool} (h1:q0q m ((⟨pw,0,none⟩:Addr).add 25) (.bool en)) (h2:q0g m ((⟨pw,0,none⟩:Addr).add 26) [.slice B P.length d,i kd,i vl])
  (ho:q4n m (.agg ⟨[.slice A P.length c,i kd,i vl]⟩) P kd vl) (hw:q4n m (.agg ⟨[.slice B P.length d,i kd,i vl]⟩) P kd vl) (hl:P.length≤1000000000) {Q:Post} (K:∀ e',q3i e' (pl5 av x0 x1 x2 x3 pw j ps)→Q .normal e' m) :
  wpI Tryz.prog plR4 Q (envL (pl9 av x0 x1 x2 x3 pw j ps N A P.length c kd vl 0 en)) m:=by
 unfold pl9
 have hee:(!(en==en))=false:=by cases en<;>rfl
 refine Br.mk (fun h=>by cases h) (fun _=>?_)
 conv=>whnf
 refine ⟨?_,trivial⟩
 refine WLd.mk _ h1 ?_
 refine Br.mk (fun h=>by cases h) (fun _=>?_)
 refine Br.mk (fun h=>absurd (hee.symm.trans h) Bool.false_ne_true) (fun _=>?_)
 refine WLds.mk _ h2 rfl ?_
 conv=>whnf
 refine ⟨?_,trivial⟩
 conv=>whnf
 refine q0a.mk (v7j ho hw hl) ?_
 rintro _ _ ⟨rfl,rfl⟩
 refine Br.mk (fun h=>by cases h) (fun _=>?_)
 refine Br.mk (fun h=>by cases h) (fun _=>?_)
 conv=>whnf
 exact K _ ⟨rfl,rfl,rfl,rfl,rfl,trivial⟩
end
abbrev RSt:=Nat×HdF×HdF×St×Nat
def PInv (mb mr:Mem) (V V1:CV) (C:q0c) (M:Mac) (sv sw:Value) (pw kmax:Nat) (x:RSt) (m:Mem):Prop :=
 Both mb mr m V V1 C M sv sw x.1 pw x.2.1 x.2.2.1 x.2.2.2.1 x.2.2.2.1∧Good C x.2.2.2.1 x.2.2.2.2∧x.2.2.2.2≤kmax
theorem Good.settle {C:q0c} {s:St} {k:Nat} (h:Good C s k):Good C (q4y s) k :=
 ⟨v0g h.ok,h.word,h.lim.same rfl rfl (.inr rfl) rfl⟩
section
variable {mb mr m:Mem} {V V1:CV} {C:q0c} {M:Mac} {sv sw:Value} {ps pw j k kmax:Nat} {H Hw:HdF} {s:St} {sh:List Int} {av:Value} {x0 x1 x2 x3 N:Int}
theorem k6v (hB1:q1m mb V C M sv sh) (hB2:q1m mr V1 C M sw sh) (B:Both mb mr m V V1 C M sv sw ps pw H Hw s s) (hG:Good C s k) (hk:k+24060≤kmax) (hkm:kmax≤400000) (hN:(0≤N∧N≤60)∨N<0∨N>4194304) :
  wpI Tryz.prog z0l (z9r 2 (fun x:RSt=>pl5 av x0 x1 x2 x3 pw j x.1) (PInv mb mr V V1 C M sv sw pw kmax)) (envL [(4,.val av),(11,.var [i x0,i x1,i x2,i x3]),(15,.val (ptr ps)),(18,.val (ptr pw)),(19,.val (i j)),(20,.val (i N))]) m:=by
 rw [k2e]
 rcases hN with hN | hN
 ·obtain ⟨n,rfl⟩:∃ n:Nat,N=n:=⟨N.toNat,by omega⟩
  have hG':=Good.run (M:=M) (sh:=sh) hB1.ok (n:=n) hG
  have hpl:(runS C M sh n s).prints.length≤1000000000:=by have:=hG'.lim.prints;omega
  have htk:=hG.lim.took
  refine cutN (v1n (n:=(runS C M sh n s).prints.length) (kd:=(runS C M sh n s).kind) (vl:=(runS C M sh n s).value) (er:=0) (en:=(runS C M sh n s).ended) (inv:=fun x m'=>∃ H2,Both mb mr m' V V1 C M sv sw ps pw H2 Hw (runS C M sh n s) s ∧
    q4n m' (.agg ⟨[.slice x.1 (runS C M sh n s).prints.length x.2,i (runS C M sh n s).kind,i (runS C M sh n s).value]⟩) (runS C M sh n s).prints (runS C M sh n s).kind (runS C M sh n s).value∧(x.1=none∨∃ b,x.1=some ⟨b,0,none⟩∧¬ q0s pw Hw s b))
   (j0p B.one hB1 hG n (by omega) (by omega) (by omega)) ?_) ⟨rfl,rfl,rfl,rfl,rfl,rfl,trivial⟩ ?_
  ·rintro _ m2 ⟨H2,m3,A,c,G,l,rfl,ho,hF⟩
   have B3:=B.stepOne G
   refine ⟨A,c,rfl,H2,B3.mono l,ho,?_⟩
   rcases hF with h | ⟨b,h,hb⟩
   ·exact .inl h
   ·exact .inr ⟨b,h,fun hf=>by
     obtain ⟨o,hoo⟩:=B3.two.live hf
     rw [hb] at hoo;cases hoo⟩
  rintro ⟨A,c⟩ m2 e' hcov ⟨H2,B2,ho,hF⟩
  simp only at hcov ho hF
  refine cutN (l:=fun _:Unit=>pl9 av x0 x1 x2 x3 pw j ps (n:Int) A (runS C M sh n s).prints.length c (runS C M sh n s).kind (runS C M sh n s).value 0 (runS C M sh n s).ended) (inv:=fun _ m'=>m'=m2) (k9s (by omega) fun e2 hc2=>⟨rfl,(),hc2,rfl⟩) hcov ?_
  rintro _ m' e2 hc2 rfl
  refine cutN (w4d (σ:=HdF) (inv:=fun Hw2 m4=>Both mb mr m4 V V1 C M sv sw ps pw H2 Hw2 (runS C M sh n s) (runS C M sh n s)∧q4n m4 (.agg ⟨[.slice A (runS C M sh n s).prints.length c,i (runS C M sh n s).kind,i (runS C M sh n s).value]⟩) (runS C M sh n s).prints (runS C M sh n s).kind (runS C M sh n s).value)
   (w4e B2.two hB2 hG n (by omega)) ?_) hc2 ?_
  ·rintro _ m4 ⟨rfl,Hw2,G2⟩
   refine ⟨rfl,Hw2,B2.stepTwo G2,?_⟩
   obtain ⟨A',c',e,hI⟩:=ho
   cases e
   refine ⟨A,c,rfl,?_⟩
   refine v7n hI ?_
   rcases hF with h | ⟨b,h,hb⟩
   ·exact .inl h
   ·exact .inr ⟨b,h,fun o hbo=>G2.keep b o hbo hb⟩
  rintro Hw2 m4 e3 hc3 ⟨B4,ho4⟩
  have hcov5:=k1d (j:=j) (ps:=ps) (x0:=x0) (x1:=x1) (x2:=x2) (x3:=x3) (N:=(n:Int)) (av:=av) (B:=(Hw2 0).a) (d:=(Hw2 0).c) (en:=(runS C M sh n s).ended) (B4.two.cell rfl) B4.two.outCells ho4 B4.two.outAt hpl (Q:=q6b (fun _:Unit=>pl5 av x0 x1 x2 x3 pw j ps) (fun _ m'=>m'=m4)) fun e' hc=>⟨rfl,(),hc,rfl⟩
  refine z7m hcov5 hc3 ?_
  rintro _ _ e4 hc4 rfl
  exact ⟨.inl rfl,(ps,H2,Hw2,runS C M sh n s,k+401 * n),hc4,B4,hG',by show k+401 * n≤kmax;omega⟩
 ·refine cutN (v1n (n:=0) (kd:=0) (vl:=0) (er:=2) (en:=false) (inv:=fun x m'=>x=(none,0)∧m'=m) (j5c B.one hB1 N hN) ?_) ⟨rfl,rfl,rfl,rfl,rfl,rfl,trivial⟩ ?_
  ·rintro _ _ ⟨rfl,rfl⟩
   exact ⟨none,0,rfl,rfl,rfl⟩
  rintro _ m2 e' hcov ⟨rfl,rfl⟩
  have hb:=j6v (av:=av) (x0:=x0) (x1:=x1) (x2:=x2) (x3:=x3) (pw:=pw) (j:=j) (ps:=ps) (m:=m2) (Q:=fun ex e m'=>ex=.exit 2∧q3i e (pl5 av x0 x1 x2 x3 pw j ps)∧m'=m2) hN fun e' hc=>⟨rfl,hc,rfl⟩
  refine q4l (a:=plR2) (q8w hcov) ?_ hb
  rintro ex a b m' hsub ⟨rfl,hc,rfl⟩
  exact ⟨.inr rfl,(ps,H,Hw,s,k),q7v hsub hc,B,hG,by show k≤kmax;omega⟩
theorem v1x (hG:Good C s k) (hB:q1m mb V C M sv sh) (hk:k≤1000000):∀ j,numS s j≤1000000000:=fun j=>by
 have hrg:=hB.ok.rg
 have hsp:=hB.ok.sp
 have hl:=hG.lim
 match j with
 | 0=>have:=hl.prints;show s.prints.length≤_;omega
 | 1=>have:=hG.ok.regs;show s.regs.length≤_;omega
 | 2=>have:=hG.ok.kept;show s.kept.length≤_;omega
 | 3 =>
  have:=congrArg List.length hG.ok.arr
  simp only [List.length_map] at this
  have:=hB.ok.szl
  show s.arr.length≤_;omega
 | 4=>have:=hl.way;show s.way.length≤_;omega
 | j+5 =>
  show (s.arr.getD j []).length≤_
  have e:(s.arr.map List.length)[j]? = (C.sz.map Int.toNat)[j]?:=by rw [hG.ok.arr]
  rw [List.getElem?_map,List.getElem?_map] at e
  rw [List.getD_eq_getElem?_getD]
  cases hh:s.arr[j]? with
  | none=>simp
  | some r =>
   rw [hh] at e
   cases hz:C.sz[j]? with
   | none=>rw [hz] at e;cases e
   | some q =>
    rw [hz] at e
    simp only [Option.map_some,Option.some.injEq] at e
    have:=hB.ok.sz q (List.mem_of_getElem? hz)
    show r.length≤_
    omega
theorem j7s (hB1:q1m mb V C M sv sh) (hB2:q1m mr V1 C M sw sh) (B:Both mb mr m V V1 C M sv sw ps pw H Hw s s) (hG:Good C s k) (hk:k≤kmax) (hkm:kmax≤400000) {z:Int} :
  wpI Tryz.prog j9w (z9r 2 (fun x:RSt=>pl5 av x0 x1 x2 x3 pw j x.1) (PInv mb mr V V1 C M sv sw pw kmax)) (envL [(4,.val av),(11,.var [i x0,i x1,i x2,i x3]),(15,.val (ptr ps)),(18,.val (ptr pw)),(19,.val (i j)),(111,.val (.int .u8 z))]) m:=by
 have hw:=hG.lim.way
 have htk:=hG.lim.took
 have hwr:∀ w∈s.way,w.rg<s.regs.length:=fun w hw=>by rw [hG.ok.regs];exact (hG.ok.way w hw).1
 refine Br.mk (fun h2=>?_) (fun h2=>?_)
 ·conv=>whnf
  refine q0a.mk (v0v B.two hwr (by omega)) ?_
  rintro _ m2 ⟨rfl,G2⟩
  have B2:=B.stepTwo G2
  conv=>whnf
  refine q0a.mk (z9t B2.one hB1 hG (by omega)) ?_
  rintro _ m3 ⟨rfl,H3,G3⟩
  have B3:=B2.stepOne G3
  refine Br.mk (fun h=>by cases h) (fun _=>?_)
  conv=>whnf
  exact ⟨.inl rfl,(ps,H3,_,q4y s,k),⟨rfl,rfl,rfl,rfl,rfl,trivial⟩,B3,hG.settle,hk⟩
 ·refine Br.mk (fun h3=>?_) (fun h3=>?_)
  ·conv=>whnf
   refine q0a.mk (v6h B.one hB1 (v1x hG hB1 (by omega))) ?_
   rintro _ m2 ⟨p',H',rfl,hle,hS,hf⟩
   refine Br.mk (fun h=>by cases h) (fun _=>?_)
   conv=>whnf
   exact ⟨.inl rfl,(p',H',Hw,s,k),⟨rfl,rfl,rfl,rfl,rfl,trivial⟩,B.copy hle hS hf,hG,hk⟩
  ·conv=>whnf
   refine q0a.mk (v6h B.one hB1 (v1x hG hB1 (by omega))) ?_
   rintro _ m2 ⟨p',H',rfl,hle,hS,hf⟩
   have hG':=Good.run (M:=M) (sh:=sh) hB1.ok (n:=30) hG
   refine Br.mk (fun h=>by cases h) (fun _=>?_)
   conv=>whnf
   refine q0a.mk (v5s hS hB1 hG 30 (by omega) (by decide) (by omega)) ?_
   rintro _ m3 ⟨H3,v,G3,rfl,ho⟩
   conv=>whnf
   refine q0a.mk (z9t G3.at' hB1 hG' (by omega)) ?_
   rintro _ m4 ⟨rfl,H4,G4⟩
   have hle4:=k1t hle hf (G3.trans G4)
   conv=>whnf
   exact ⟨.inl rfl,(ps,H,Hw,s,k),⟨rfl,rfl,rfl,rfl,rfl,trivial⟩,B.mono hle4,hG,hk⟩
def q6o (m:Mem) (v:Value) (L:List (Int×Int)):Prop:=∃ a c,v=.slice a L.length c∧(a=none→L=[])∧(∀ ad,a=some ad→∀ k (hk:k<L.length),q0q m ((ad.add (k * 2)).add 0) (.int .u8 L[k].1)∧q0q m ((ad.add (k * 2)).add 1) (i L[k].2))∧L.length≤c
theorem q6o.mono {m m':Mem} {v:Value} {L:List (Int×Int)} (h:q6o m v L) (hle:Mem.le m m'):q6o m' v L:=by
 obtain ⟨a,c,e,h0,h1,h2⟩:=h
 exact ⟨a,c,e,h0,fun ad ha k hk=>⟨(h1 ad ha k hk).1.mono hle,(h1 ad ha k hk).2.mono hle⟩,h2⟩
def q7d (n:Int):Int:=if (decide (n>60)&&decide (n≤4194304))=true then n.tmod 60 else n
theorem j6i (n:Int):(0≤q7d n∧q7d n≤60)∨q7d n<0∨q7d n>4194304:=by
 unfold q7d
 split
 ·rename_i h
  rw [Bool.and_eq_true,decide_eq_true_eq,decide_eq_true_eq] at h
  have h1:=Int.tmod_nonneg 60 (show (0:Int)≤n by omega)
  have h2:=Int.tmod_lt_of_pos n (show (0:Int)<60 by decide)
  omega
 ·rename_i h
  rw [Bool.and_eq_true,decide_eq_true_eq,decide_eq_true_eq] at h
  omega
theorem w3g {aa:Option Addr} {ca:Nat} {L:List (Int×Int)} (hA:q6o m (.slice aa L.length ca) L) (hj:j<L.length) :
  wpI Tryz.prog plS1 (q6b (fun _:Unit=>[(4,.val (.slice aa L.length ca)),(11,.var [i x0,i x1,i x2,i x3]),(15,.val (ptr ps)),(18,.val (ptr pw)),(19,.val (i j)),(20,.val (i L[j].2))]) (fun _ m'=>m'=m)) (envL (pl5 (.slice aa L.length ca) x0 x1 x2 x3 pw j ps)) m:=by
 obtain ⟨a,c,e,h0,h1,h2⟩:=hA
 injection e with e1 _ e3
 subst e1;subst e3
 obtain ⟨ad,rfl⟩:∃ ad,aa=some ad:=by
  cases aa with
  | none=>rw [h0 rfl] at hj;simp at hj
  | some ad=>exact ⟨ad,rfl⟩
 unfold pl5
 refine WIdx.mk ad rfl ⟨by omega,by omega⟩ ?_
 refine WLd.mk (i L[j].2) (by simpa using (h1 ad rfl j hj).2) ?_
 conv=>whnf
 exact ⟨rfl,(),⟨rfl,rfl,rfl,rfl,rfl,rfl,trivial⟩,rfl⟩
theorem k3c {n:Int}:wpI Tryz.prog plS2 (q6b (fun _:Unit=>[(4,.val av),(11,.var [i x0,i x1,i x2,i x3]),(15,.val (ptr ps)),(18,.val (ptr pw)),(19,.val (i j)),(20,.val (i (q7d n)))]) (fun _ m'=>m'=m)) (envL [(4,.val av),(11,.var [i x0,i x1,i x2,i x3]),(15,.val (ptr ps)),(18,.val (ptr pw)),(19,.val (i j)),(20,.val (i n))]) m:=by
 refine WSc.mk (v:=decide (n≤4194304)) (fun _=>And.intro (Mem.le.refl _) rfl) ?_
 refine Br.mk (fun h=>?_) (fun h=>?_)
 ·have e:q7d n=n.tmod 60:=by unfold q7d;exact if_pos h
  rw [e]
  refine WNe.mk (by decide) ?_
  conv=>whnf
  exact ⟨rfl,(),⟨rfl,rfl,rfl,rfl,rfl,rfl,trivial⟩,rfl⟩
 ·have e:q7d n=n:=by unfold q7d;rw [show (decide (n>60)&&decide (n≤4194304))=false from h];rfl
  rw [e]
  conv=>whnf
  exact ⟨rfl,(),⟨rfl,rfl,rfl,rfl,rfl,rfl,trivial⟩,rfl⟩
theorem w1h (hB1:q1m mb V C M sv sh) (hB2:q1m mr V1 C M sw sh) (B:Both mb mr m V V1 C M sv sw ps pw H Hw s s) (hG:Good C s k) (hk:k+24060≤kmax) (hkm:kmax≤400000) (hN:(0≤N∧N≤60)∨N<0∨N>4194304)
  {aa:Option Addr} {ca:Nat} {L:List (Int×Int)} (hA:q6o m (.slice aa L.length ca) L) (hj:j<L.length) :
  wpI Tryz.prog plS3 (q6b (fun x:RSt=>pl5 (.slice aa L.length ca) x0 x1 x2 x3 pw j x.1) (PInv mb mr V V1 C M sv sw pw kmax)) (envL [(4,.val (.slice aa L.length ca)),(11,.var [i x0,i x1,i x2,i x3]),(15,.val (ptr ps)),(18,.val (ptr pw)),(19,.val (i j)),(20,.val (i N))]) m:=by
 obtain ⟨a,c,e,h0,h1,h2⟩:=hA
 injection e with e1 _ e3
 subst e1;subst e3
 obtain ⟨ad,rfl⟩:∃ ad,aa=some ad:=by
  cases aa with
  | none=>rw [h0 rfl] at hj;simp at hj
  | some ad=>exact ⟨ad,rfl⟩
 have hkd:=(h1 ad rfl j hj).1
 generalize L[j].1=kd at hkd
 have hrun:=k6v (av:=.slice (some ad) L.length ca) (x0:=x0) (x1:=x1) (x2:=x2) (x3:=x3) (j:=j) hB1 hB2 B hG hk hkm hN
 have hrest:=fun z=>j7s (av:=.slice (some ad) L.length ca) (x0:=x0) (x1:=x1) (x2:=x2) (x3:=x3) (j:=j) (z:=z) hB1 hB2 B hG (show k≤kmax by omega) hkm
 refine WIdx.mk ad rfl ⟨by omega,by omega⟩ ?_
 refine WLd.mk (.int .u8 kd) (by simpa using hkd) ?_
 refine WNe.mk (by decide) ?_
 refine Br.mk (fun h0=>?_) (fun h0=>?_)
 ·refine Br.mk (fun _=>?_) (fun h=>by cases h)
  exact z8g hrun ⟨rfl,rfl,rfl,rfl,rfl,rfl,trivial⟩ fun x m' e' hc hi=>⟨rfl,x,hc,hi⟩
 ·refine Br.mk (fun h1=>?_) (fun h1=>?_)
  ·exact z8g hrun ⟨rfl,rfl,rfl,rfl,rfl,rfl,trivial⟩ fun x m' e' hc hi=>⟨rfl,x,hc,hi⟩
  ·exact z8g (hrest _) ⟨rfl,rfl,rfl,rfl,rfl,rfl,trivial⟩ fun x m' e' hc hi=>⟨rfl,x,hc,hi⟩
theorem j5k (hB1:q1m mb V C M sv sh) (B:Both mb mr m V V1 C M sv sw ps pw H Hw s s) :
  wpI Tryz.prog plS4 (q6b (fun _:Unit=>[(15,.val (ptr ps)),(19,.val (i j))]) (fun _ m'=>m'=m)) (envL (pl5 av x0 x1 x2 x3 pw j ps)) m:=by
 unfold pl5
 conv=>whnf
 refine q0a.pure (j1n B.one hB1 B.two x0 x1 x2 x3) ?_
 refine Br.mk (fun h=>by cases h) (fun _=>?_)
 conv=>whnf
 exact ⟨rfl,(),⟨rfl,rfl,trivial⟩,rfl⟩
theorem j9s (hj:j<1000):wpI Tryz.prog z6j (q6b (fun _:Unit=>[(15,.val (ptr ps)),(19,.val (i ((j+1:Nat):Int)))]) (fun _ m'=>m'=m)) (envL [(15,.val (ptr ps)),(19,.val (i j))]) m:=by
 refine WRng.mk (by apply wrap_i64<;>omega) ?_
 conv=>whnf
 exact ⟨rfl,(),⟨rfl,rfl,trivial⟩,rfl⟩
end
end Go.Proofs.YtleofbpepfmfgaaGreatDoor
