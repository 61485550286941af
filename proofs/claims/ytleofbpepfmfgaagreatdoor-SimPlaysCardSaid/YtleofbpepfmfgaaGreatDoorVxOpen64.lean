import Derived.Test.YtleofbpepfmfgaaGreatDoorVxPushG
import Derived.Test.YtleofbpepfmfgaaGreatDoorVxEnvM
import GoSem.ClaimJoined
import Derived.ChangeSlices
import Derived.ChangeArms
set_option linter.unusedSimpArgs false
set_option linter.unusedVariables false
set_option maxRecDepth 100000
namespace Go.Proofs.YtleofbpepfmfgaaGreatDoor
open Go Go.Vx
open Go.Vx.IOp Go.Vx.IR Go.Vx.Opd
def cutW (W Q:Nat) (C:q0c):q0c:={ C with sz:=C.sz.take 17,ws:=(C.ws.take W).map fun w=>{ w with ops:=w.ops.take Q } }
theorem j8o (O:List OpR) (k:Nat):ocs (O.take k)=(ocs O).take (k * 7):=by
 induction O generalizing k with
 | nil=>simp [ocs]
 | cons e E ih =>
  cases k with
  | zero=>simp [ocs]
  | succ k =>
   have h1:ocs (e :: E)=e.cells++ocs E:=by simp [ocs]
   have h2:ocs (e :: E.take k)=e.cells++ocs (E.take k):=by simp [ocs]
   have hl:e.cells.length=7:=rfl
   rw [List.take_succ_cons,h2,ih,h1,List.take_append,hl,show (k+1) * 7 - 7=k * 7 by omega,List.take_of_length_le (l:=e.cells) (by rw [hl];omega)]
theorem WNew.ab {m:Mem} {o:Obj} {K:Nat→Mem→Prop} (h:∀ b m',m b=none→Mem.le m m'→m' b=some o→K b m'):WNew m o K:=WNew.mk fun b hb=>h b _ hb (Mem.le_set hb) (Mem.set_same _ _ _)
theorem WApp.copyE {m:Mem} {T sz bytes:Nat} {zero:List Value} {b1:Nat} {A A':Option Addr} {n n':Nat} {K:Value→Mem→Prop} (hb1:m b1=some (Cells [] T)) (hA':A'=A) (hn:n'=n) (new:List Value) (h:q2v m A (n * sz) new) (hA:A=none→n=0)
  (hb:n * bytes≤35184372088832) (k:∀ b c m' rest,Mem.le m m'→n≤c→m' b=some (Cells (new++rest) T)→K (.slice (some ⟨b,0,none⟩) n c) m') :
  WApp m T sz bytes zero (some ⟨b1,0,none⟩) 0 0 A' n' K:=by
 subst hA';subst hn
 by_cases h0:n'=0
 ·subst h0
  have hnew:new=[]:=List.length_eq_zero_iff.1 (by rw [h.1];simp)
  subst hnew
  refine WApp.in [] h (fun _=>rfl) [] T (by omega) hb1 rfl (by simp) rfl ?_
  refine k b1 0 _ [] (fun b o hbo=>?_) (Nat.le_refl _) (Mem.set_same _ _ _)
  by_cases e:b=b1
  ·subst e;rw [Mem.set_same];rw [hb1] at hbo;exact hbo
  ·rw [Mem.set_other _ _ e];exact hbo
 ·refine WApp.grow new h hA (by omega) (by rw [Nat.zero_add];exact hb) [] ⟨by simp,fun ad _ j v hj=>by simp at hj⟩ (fun _=>rfl) fun b c hbn hc=>?_
  rw [Nat.zero_add]
  exact k b c _ _ (Mem.le_set hbn) (by omega) (Mem.set_same _ _ _)
def OwnO (m:Mem) (v:Value) (O:List OpR):Prop:=∃ b c rest,v=.slice (some ⟨b,0,none⟩) O.length c∧O.length≤c∧m b=some (Cells (ocs O++rest) 110)
theorem OwnO.mono {m m':Mem} {v:Value} {O:List OpR} (h:OwnO m v O) (hle:Mem.le m m'):OwnO m' v O:=by
 obtain ⟨b,c,rest,h1,h2,h3⟩:=h
 exact ⟨b,c,rest,h1,h2,hle _ _ h3⟩
theorem OwnO.oat {m:Mem} {v:Value} {O:List OpR} (h:OwnO m v O):OAt m v O:=by
 obtain ⟨b,c,rest,h1,h2,h3⟩:=h
 exact ⟨_,c,h1,(fun h=>by cases h),fun ad ha=>by cases ha;exact q0g.blk h3 fun j v hj=>by rw [Nat.zero_add,List.getElem?_append_left (List.getElem?_eq_some_iff.1 hj).1];exact hj,h2⟩
def WOwn (m:Mem) (L:List Value) (ws:List q3g):Prop:=L.length=ws.length * 2∧∀ k (hk:k<ws.length),∃ v,L[k * 2]? = some v∧L[k * 2+1]? = some (i (ws[k]).ct)∧OwnO m v (ws[k]).ops
theorem WOwn.mono {m m':Mem} {L:List Value} {ws:List q3g} (h:WOwn m L ws) (hle:Mem.le m m'):WOwn m' L ws:=⟨h.1,fun k hk=>by
 obtain ⟨v,h1,h2,h3⟩:=h.2 k hk
 exact ⟨v,h1,h2,h3.mono hle⟩⟩
theorem WOwn.snoc {m:Mem} {L:List Value} {ws:List q3g} {v:Value} {w:q3g} (h:WOwn m L ws) (hv:OwnO m v w.ops):WOwn m (L++[v,i w.ct]) (ws++[w]):=by
 refine ⟨by rw [List.length_append,List.length_append,h.1];simp;omega,fun k hk=>?_⟩
 by_cases e:k<ws.length
 ·obtain ⟨u,h1,h2,h3⟩:=h.2 k e
  refine ⟨u,?_,?_,?_⟩
  ·rw [List.getElem?_append_left (by rw [h.1];omega)];exact h1
  ·rw [List.getElem?_append_left (by rw [h.1];omega),List.getElem_append_left e];exact h2
  ·rw [List.getElem_append_left e];exact h3
 ·have e2:k=ws.length:=by simp at hk;omega
  subst e2
  have hg:(ws++[w])[ws.length]=w:=by simp
  refine ⟨v,?_,?_,by rw [hg];exact hv⟩
  ·rw [List.getElem?_append_right (by rw [h.1];omega),h.1];simp
  ·rw [List.getElem?_append_right (by rw [h.1];omega),h.1,hg,show ws.length * 2+1 - ws.length * 2=1 by omega];rfl
theorem WOwn.keep {m m':Mem} {L:List Value} {ws:List q3g} {b':Nat} (h:WOwn m L ws) (hT:m b'=none∨∃ L',m b'=some (Cells L' 103)) (hk:∀ b,b≠b'→m' b=m b):WOwn m' L ws:=⟨h.1,fun k hkk=>by
 obtain ⟨v,h1,h2,b,c,rest,g1,g2,g3⟩:=h.2 k hkk
 refine ⟨v,h1,h2,b,c,rest,g1,g2,?_⟩
 rw [hk b (fun e=>?_)]
 ·exact g3
 ·subst e
  rcases hT with hT | ⟨L',hT⟩
  ·rw [hT] at g3;cases g3
  ·rw [hT] at g3;injection g3 with g3;injection g3 with _ g3;cases g3⟩
theorem v9k {m0 m:Mem} {A:Option Addr} {c n:Nat} {L:List Value} {ws:List q3g} (hp:q5t 103 2 [ns,i 0] m0 m A c n L) (hw:WOwn m L ws) (hn:n=ws.length):WAt m (.slice A n c) ws:=by
 subst hn
 obtain ⟨h1,h2⟩:=hp
 refine ⟨A,c,rfl,?_,?_,?_⟩
 ·rcases h2 with ⟨_,h⟩ | ⟨b,hb,_⟩
  ·exact fun _=>List.length_eq_zero_iff.1 h
  ·exact fun e=>by rw [hb] at e;cases e
 ·intro ad ha k hk
  rcases h2 with ⟨_,h⟩ | ⟨b,hb,_,_,hm⟩
  ·omega
  ·rw [hb] at ha;cases ha
   obtain ⟨v,g1,g2,g3⟩:=hw.2 k hk
   have g3':=g3
   obtain ⟨b3,c3,rest,rfl,_,_⟩:=g3'
   refine ⟨some ⟨b3,0,none⟩,(ws[k]).ops.length,c3,?_,g3.oat⟩
   rw [add0]
   refine q0g.blk hm fun j v hj=>?_
   have hj2:j<2:=(List.getElem?_eq_some_iff.1 hj).1
   rw [List.getElem?_append_left (by rw [h1];omega)]
   match j,hj2 with
   | 0,_=>cases hj;exact g1
   | 1,_=>cases hj;exact g2
 ·rcases h2 with ⟨h,h'⟩ | ⟨b,hb,h,_⟩<;>omega

def z7n:IR:=(match z2n.body with | .seq _ (.seq _ r)=>r | r=>r)
def cutA:IR:=(match z2n.body with | .seq a (.seq _ r)=>a | r=>r)
def cutB:IR:=(match z2n.body with | .seq _ (.seq b r)=>b | r=>r)
theorem k9p:z2n.body=.seq cutA (.seq cutB z7n):=rfl
set_option maxHeartbeats 4000000 in
theorem k2c {m0 m1:Mem} (V:CV) {C:q0c} (hV:q1q m0 V C) (W Q:Nat) (hW:W≤1000000) (hQ:Q≤100000000000) (hle1:Mem.le m0 m1) {a':Option Addr} {n' c':Nat} (hs:IAt m1 (.slice a' n' c') (C.sz.take 17)) :
  wpI Tryz.prog z7n (q0i [.c 6 6 true] fun e m'=>∃ V',e=.returned (V'.val (cutW W Q C))∧Mem.le m0 m'∧q1q m' V' (cutW W Q C))
   (envL [(0,.val (V.val C)),(1,.val (i W)),(2,.val (i Q)),(3,.var (V.cells C)),(6,.var [ns,i 0,i 0,i 0,i 0,ns]),(7,.var [.slice a' n' c',i C.pr,i C.rg,i C.cd,i C.sp,ns])]) m1:=by
 have hn2:=hV.n2
 have hwsl:=hV.wsl
 obtain ⟨a2',c2',e2,hw0,hw1,hw2⟩:=hV.ws
 have ea2:V.a2=a2':=by injection e2
 subst ea2
 conv=>whnf
 refine q0v.mk (Nat×Option Addr×Nat) (fun s=>[(7,.var [.slice a' n' c',i C.pr,i C.rg,i C.cd,i C.sp,.slice s.2.1 s.1 s.2.2]),(8,.val (i s.1))])
  (fun s m'=>s.1≤C.ws.length∧s.1≤W∧(s.1=0→s.2.1=none)∧Mem.le m1 m'∧∃ L,q5t 103 2 [ns,i 0] m1 m' s.2.1 s.2.2 s.1 L∧WOwn m' L ((C.ws.take s.1).map fun w=>{ w with ops:=w.ops.take Q })) (fun s=>C.ws.length - s.1) (0,none,0)
  ⟨rfl,rfl,trivial⟩ ⟨Nat.zero_le _,Nat.zero_le _,fun _=>rfl,Mem.le.refl _,[],⟨rfl,.inl ⟨rfl,rfl⟩⟩,rfl,fun k hk=>by simp at hk⟩ ?_
 rintro ⟨k,A,cA⟩ m ⟨hk,hkW,hA0,hle,L,hp,hw⟩
 simp only at hk hkW hA0 hp hw
 have fin:∀ mm A2 c2 L2 n2,n2=(cutW W Q C).ws.length→Mem.le m1 mm→q5t 103 2 [ns,i 0] m1 mm A2 c2 n2 L2→WOwn mm L2 (cutW W Q C).ws→q1q mm ⟨a',n',c',A2,n2,c2⟩ (cutW W Q C):=fun mm A2 c2 L2 n2 hn hl h1 h2=>by
  have h3:n2≤C.ws.length:=by rw [hn];simp [cutW];omega
  refine ⟨IAt.mono hl hs,?_,?_,?_⟩
  ·exact v9k h1 h2 hn
  ·have:=hV.szl;simp [cutW];omega
  ·rw [← hn];omega
 refine WSc.mk (fun _=>And.intro (Mem.le.refl _) rfl) ?_
 rw [hn2]
 refine Br.mk (fun hb=>?_) (fun hb=>?_)
 ·have hb':k<C.ws.length∧k<W:=by
   simp only [scB,Bool.and_eq_true,decide_eq_true_eq] at hb
   omega
  obtain ⟨ad,had⟩:∃ ad,V.a2=some ad:=by
   cases hh:V.a2 with
   | none=>have:=hw0 hh;rw [this] at hb';simp at hb'
   | some ad=>exact ⟨ad,rfl⟩
  obtain ⟨a3,n3,c3,hcells,hops⟩:=hw1 ad had k hb'.1
  have hops':=hops
  obtain ⟨a3',c3',e3,ho0,ho1,ho2⟩:=hops'
  injection e3 with e31 e32 e33
  subst e31;subst e32;subst e33
  have hl3:(C.ws[k].ops.take Q).length=min C.ws[k].ops.length Q:=by rw [List.length_take,Nat.min_comm]
  have c0:∀ mm,Mem.le m1 mm→q0q mm ((ad.add (k * 2)).add 0) (.slice a3 C.ws[k].ops.length c3):=fun mm h=>((hcells.mono (hle1.trans h)) 0 _ rfl)
  have c1:∀ mm,Mem.le m1 mm→q0q mm ((ad.add (k * 2)).add 1) (i C.ws[k].ct):=fun mm h=>(hcells.mono (hle1.trans h)) 1 _ rfl
  have hsn:(C.ws.take (k+1)).map (fun w=>{ w with ops:=w.ops.take Q })=(C.ws.take k).map (fun w=>{ w with ops:=w.ops.take Q })++[{ C.ws[k] with ops:=C.ws[k].ops.take Q }]:=by
   rw [List.take_succ_eq_append_getElem hb'.1,List.map_append];rfl
  have apO:∀ (mm:Mem) (b1:Nat) (A':Option Addr) (n':Nat) (K:Value→Mem→Prop),Mem.le m1 mm→mm b1=some (Cells [] 110)→A'=a3→n'=min C.ws[k].ops.length Q→(∀ b c m',Mem.le mm m'→OwnO m' (.slice (some ⟨b,0,none⟩) (C.ws[k].ops.take Q).length c) (C.ws[k].ops.take Q)→K (.slice (some ⟨b,0,none⟩) (C.ws[k].ops.take Q).length c) m')→WApp mm 110 7 56 [i 0,i 0,i 0,i 0,i 0,i 0,i 0] (some ⟨b1,0,none⟩) 0 0 A' n' K :=
   fun mm b1 A' n' K hl hb hA hn kk=>WApp.copyE hb hA (hn.trans hl3.symm) (ocs (C.ws[k].ops.take Q)) ⟨z9a _,fun ad ha=>by rw [j8o];exact q0g.take ((ho1 ad ha).mono (hle1.trans hl)) _⟩ (fun ha=>by rw [ho0 ha];simp) (by rw [hl3];omega)
    fun b c m' rest h1 h2 h3=>kk b c m' h1 ⟨b,c,rest,rfl,h2,h3⟩
  have apW:∀ (mm:Mem) (bx:Nat) (v:Value) (K:Value→Mem→Prop),Mem.le m1 mm→q5t 103 2 [ns,i 0] m1 mm A cA k L→WOwn mm L ((C.ws.take k).map fun w=>{ w with ops:=w.ops.take Q })→mm bx=some (Cells [v,i C.ws[k].ct] 103)→OwnO mm v (C.ws[k].ops.take Q) →
    (∀ b' c' m',Mem.le m1 m'→q5t 103 2 [ns,i 0] m1 m' (some ⟨b',0,none⟩) c' (k+1) (L++[v,i C.ws[k].ct])→WOwn m' (L++[v,i C.ws[k].ct]) ((C.ws.take (k+1)).map fun w=>{ w with ops:=w.ops.take Q })→K (.slice (some ⟨b',0,none⟩) (k+1) c') m')→WApp mm 103 2 32 [ns,i 0] A k cA (some ⟨bx,0,none⟩) 1 K :=
   fun mm bx v K hl hp hw hx hO kk=>w1b rfl (by decide) hl hp hx rfl (by obtain ⟨_,_,_,rfl,_⟩:=hO;rfl) rfl (by omega) fun b' c' m' h1 h2 h3 h4 h5=>by
    have hT:mm b'=none∨∃ L',mm b'=some (Cells L' 103):=by
     rcases h4 with h4 | h4
     ·exact .inl h4
     ·rcases hp.2 with ⟨_,g0⟩ | ⟨b,g1,g2,g3,g4⟩
      ·rw [hA0 g0] at h4;cases h4
      ·rw [g1] at h4;cases h4;exact .inr ⟨_,g4⟩
    refine kk b' c' m' h1 h2 ?_
    have hw2:=hw.snoc (w:={ C.ws[k] with ops:=C.ws[k].ops.take Q }) hO
    rw [← hsn] at hw2
    exact hw2.keep hT h5
  have sl3:(0:Int)≤0∧(0:Int)≤(if (Q:Int)<(C.ws[k].ops.length:Int) then (Q:Int) else (C.ws[k].ops.length:Int))∧(if (Q:Int)<(C.ws[k].ops.length:Int) then (Q:Int) else (C.ws[k].ops.length:Int))≤(c3:Int):=by split<;>omega
  have sN:(if (Q:Int)<(C.ws[k].ops.length:Int) then (Q:Int) else (C.ws[k].ops.length:Int)).toNat - 0=min C.ws[k].ops.length Q:=by split<;>omega
  repeat' (conv=>whnf
           first
           | exact trivial
           | (refine WIdx.mk ad had ⟨by omega,by omega⟩ ?_;simp only [Int.toNat_natCast])
           | (refine WLd.mk _ (c0 _ hle) ?_)
           | (refine WLd.mk _ (c1 _ hle) ?_)
           | (refine WSl.mk sl3 ?_)
           | (refine WNew.ab (o:=Cells [] 110) fun bE mE hbE lE cE=>?_;(replace hle:=Mem.le.trans hle lE);(replace hp:=q5t.mono hp lE);(replace hw:=WOwn.mono hw lE);(try replace cE:=lE _ _ cE);(try replace hO:=OwnO.mono hO lE);(try replace cX:=lE _ _ cX))
           | (refine apO _ _ _ _ _ hle cE (q8r rfl) sN fun bO cO mO lO hO=>?_;(replace hle:=Mem.le.trans hle lO);(replace hp:=q5t.mono hp lO);(replace hw:=WOwn.mono hw lO);(try replace cE:=lO _ _ cE);(try replace hO:=OwnO.mono hO lO);(try replace cX:=lO _ _ cX))
           | (refine WNew.ab fun bX mX hbX lX cX=>?_;(replace hle:=Mem.le.trans hle lX);(replace hp:=q5t.mono hp lX);(replace hw:=WOwn.mono hw lX);(try replace cE:=lX _ _ cE);(try replace hO:=OwnO.mono hO lX);(try replace cX:=lX _ _ cX))
           | (refine apW _ _ _ _ hle hp hw cX hO fun b' c' m' hle hp hw=>?_)
           | (refine WRng.mk (by apply wrap_i64<;>omega) ?_)
           | (exact ⟨(k+1,some ⟨b',0,none⟩,c'),⟨rfl,rfl,trivial⟩,⟨hb'.1,hb'.2,(fun h=>by cases h),hle,_,hp,hw⟩,Nat.sub_lt_sub_left hb'.1 (Nat.lt_succ_self k)⟩)
           | (refine And.intro ?_ ?_))
 ·have hk2:k=(cutW W Q C).ws.length:=by
   simp only [scB,Bool.and_eq_false_iff,decide_eq_false_iff_not] at hb
   simp [cutW];omega
  have hws:(C.ws.take k).map (fun w=>{ w with ops:=w.ops.take Q })=(cutW W Q C).ws:=by
   have h1:k=min W C.ws.length:=by rw [hk2];simp [cutW]
   show _=(C.ws.take W).map _
   rw [h1,← List.take_eq_take_min]
  rw [hws] at hw
  refine WRet.same ⟨⟨a',n',c',A,k,cA⟩,?_,hle1.trans hle,fin _ _ _ _ _ hk2 hle hp hw⟩
  rfl
attribute [irreducible] z7n
theorem v4f {m:Mem} (V:CV) {C:q0c} (hV:q1q m V C) (W Q:Nat) (hW:W≤1000000) (hQ:Q≤100000000000) :
  q0f Tryz.prog 44 [V.val C,i W,i Q] m fun e m'=>∃ V',e=.returned (V'.val (cutW W Q C))∧Mem.le m m'∧q1q m' V' (cutW W Q C):=by
 refine q0e q0d Tryz.func44 j1f rfl ?_
 unfold Fn.asks
 rw [k9p]
 have hn1:=hV.n1
 have hszl:=hV.szl
 obtain ⟨a1',c1',e1,hs0,hs1,hs2⟩:=hV.sz
 have ea1:V.a1=a1':=by injection e1
 subst ea1
 have ec1:V.c1=c1':=by injection e1
 subst ec1
 have s1:(if (17:Int)<(C.sz.length:Int) then (17:Int) else (C.sz.length:Int)).toNat - 0=(C.sz.take 17).length:=by
  rw [List.length_take];split<;>omega
 have sl1:(0:Int)≤0∧(0:Int)≤(if (17:Int)<(C.sz.length:Int) then (17:Int) else (C.sz.length:Int))∧(if (17:Int)<(C.sz.length:Int) then (17:Int) else (C.sz.length:Int))≤(V.c1:Int):=by split<;>omega
 have ap1:∀ (mm:Mem) (b1:Nat) (A':Option Addr) (n':Nat) (K:Value→Mem→Prop),Mem.le m mm→mm b1=some (Cells [] 3)→A'=V.a1→n'=(C.sz.take 17).length→(∀ b c m',Mem.le mm m'→IAt m' (.slice (some ⟨b,0,none⟩) (C.sz.take 17).length c) (C.sz.take 17)→K (.slice (some ⟨b,0,none⟩) (C.sz.take 17).length c) m')→WApp mm 3 1 8 [i 0] (some ⟨b1,0,none⟩) 0 0 A' n' K :=
  fun mm b1 A' n' K hl hb hA hn kk=>WApp.copyE hb hA hn ((C.sz.take 17).map i) ⟨by simp,fun ad ha=>by rw [List.map_take];exact q0g.take ((hs1 ad ha).mono hl) _⟩ (fun ha=>by rw [hs0 ha];rfl) (by rw [List.length_take];omega)
   fun b c m' rest h1 h2 h3=>kk b c m' h1 ⟨_,c,rfl,(fun h=>by cases h),(fun ad ha=>by cases ha;exact q0g.blk h3 fun j v hj=>by rw [Nat.zero_add,List.getElem?_append_left (List.getElem?_eq_some_iff.1 hj).1];exact hj),h2⟩
 have hle:=Mem.le.refl m
 repeat' (conv=>whnf
          first
          | exact trivial
          | (rw [hn1];refine WSl.mk sl1 ?_)
          | (refine WNew.ab (o:=Cells [] 3) fun bE mE hbE lE cE=>?_;replace hle:=hle.trans lE)
          | (refine ap1 _ _ _ _ _ hle cE (q8r rfl) s1 fun bS cS mS lS hS=>?_;replace hle:=hle.trans lS)
          | (refine q0x (k2c V hV W Q hW hQ hle hS) ?_;exact ⟨rfl,rfl,rfl,rfl,rfl,rfl,trivial⟩)
          | (refine And.intro ?_ ?_))
def k3w:Vx.Fn:={ nt:=36,res:=[.c 2 6 true,.t 3],body:=seq (ops (.run [x 1 (vb (t 0)),x 2 (va [ns,i 0,i 0,i 0,i 0,ns]),x 3 (mv (c (.bool false)))]<|.nil)) (seq (ops (.run [x 4 (mv (c (i 0)))]<|.nil)) (seq (seq (ops (.run [x 5 (mv (c (i 0)))]<|.nil)) (block 0 (loop [(4,21)] (seq (seq (ops (.run [x 6 (mv (t 5)),x 7 (fa (t 1) 0),x 8 (vld 1 7),x 9 (len (t 8)),x 10 (bin .lss (t 6) (t 9))]<|.nil)) (cond (t 10) (skip) (exit 0))) (seq (block 1 (ops (.run [x 13 (mv (t 4)),x 14 (fa (t 1) 0),x 15 (vld 1 14),x 16 (mv (t 5)),x 17 (ia (t 15) (t 16) 1),x 18 (ld (t 17)),x 19 (mm true [t 18,c (i 0)]),x 20 (mm false [t 19,c (i 100000)]),x 21 (bin .add (t 13) (t 20)),x 4 (mv (t 21))]<|.nil))) (ops (.run [x 11 (mv (t 5)),x 12 (binN .add (t 11) (c (i 1))),x 5 (mv (t 12))]<|.nil))))))) (seq (tree [x 22 (vlds 1 1 6),x 23 (call 44 [t 22,c (i 40),c (i 20)]),x 24 (mv (t 4)),x 25 (bin .leq (t 24) (c (i 3000))),xs 26 (mv (t 25)),E.mk (some 27) (fa (t 1) 4) (some (26,true)) false,E.mk (some 28) (vld 1 27) (some (26,true)) false,E.mk (some 29) (bin .leq (t 28) (c (i 200))) (some (26,true)) false,x 30 (pick (t 26) (t 29) (c (.bool false))),xs 31 (mv (t 30)),E.mk (some 32) (fa (t 1) 2) (some (31,true)) false,E.mk (some 33) (vld 1 32) (some (31,true)) false,E.mk (some 34) (bin .leq (t 33) (c (i 200))) (some (31,true)) false,x 35 (pick (t 31) (t 34) (c (.bool false))),x 2 (vst 2 2 (t 23) 6),x 3 (mv (t 35))] (.pure 0 (.pure 2 (.pure 3 (.alt 1 (.pure 4 (.pure 5 (.pure 6 (.pure 7 (.pure 8 (.pure 9 (.pure 10 (.pure 11 (.pure 12 (.pure 13 (.alt 14 (.pure 15 (RT.nil)) (.done)))))))))))) (.done)))))) (ret)))) }
theorem k7e:okFn Tryz.prog Tryz.f13 k3w=true:=by kernel_rfl
abbrev q3a (C:q0c):q0c:=cutW 40 20 C
def v3z (n x:Int):Int:=IntKind.i64.wrap (n+(if 100000<(if 0>x then 0 else x) then 100000 else (if 0>x then 0 else x)))
def sumC (L:List Int):Int:=L.foldl v3z 0
theorem w0o {L:List Int} {k:Nat} (hk:k<L.length):sumC (L.take (k+1))=v3z (sumC (L.take k)) L[k]:=by
 unfold sumC;rw [List.take_succ_eq_append_getElem hk,List.foldl_append];rfl
def okC (C:q0c):Bool:=(decide (sumC C.sz≤3000)&&decide (C.sp≤200))&&decide (C.rg≤200)
theorem w3z {m:Mem} (V:CV) {C:q0c} (hV:q1q m V C) :
  q0f Tryz.prog 13 [V.val C] m fun e m'=>∃ V',e=.returned (.tuple ⟨[V'.val (q3a C),.bool (okC C)]⟩)∧Mem.le m m'∧q1q m' V' (q3a C):=by
 refine q0e q0d Tryz.func13 k7e rfl ?_
 have hn1:=hV.n1
 have hszl:=hV.szl
 obtain ⟨a1',c1',e1,hs0,hs1,hs2⟩:=hV.sz
 have ea1:V.a1=a1':=by injection e1
 subst ea1
 conv=>whnf
 refine q0v.mk (Nat×Int) (fun s=>[(4,.val (i s.2)),(5,.val (i s.1))]) (fun s m'=>m=m'∧s.1≤C.sz.length∧s.2=sumC (C.sz.take s.1)) (fun s=>C.sz.length - s.1) (0,0) ⟨rfl,rfl,trivial⟩ ⟨rfl,Nat.zero_le _,rfl⟩ ?_
 rintro ⟨k,n⟩ m' ⟨rfl,hk,hn⟩
 simp only at hk hn
 conv=>whnf
 rw [hn1]
 refine Br.mk (fun hb=>?_) (fun hb=>?_)
 ·have hk2:k<C.sz.length:=by
   have:(k:Int)<C.sz.length:=of_decide_eq_true hb
   omega
  obtain ⟨ad,had⟩:∃ ad,V.a1=some ad:=by
   cases hh:V.a1 with
   | none=>rw [hs0 hh] at hk2;simp at hk2
   | some ad=>exact ⟨ad,rfl⟩
  have hcell:=IAt.cell (hs1 ad had) hk2
  conv=>whnf
  rw [hn1]
  refine WIdx.mk ad had ⟨by omega,by omega⟩ ?_
  refine WLd.mk (i C.sz[k]) (by simpa using hcell) ?_
  refine WRng.mk (by apply wrap_i64<;>omega) ?_
  conv=>whnf
  exact ⟨(k+1,sumC (C.sz.take (k+1))),⟨by rw [w0o hk2,← hn];rfl,rfl,trivial⟩,⟨rfl,hk2,rfl⟩,Nat.sub_lt_sub_left hk2 (Nat.lt_succ_self k)⟩
 ·have hk3:k=C.sz.length:=by
   have:¬ (k:Int)<C.sz.length:=of_decide_eq_false hb
   omega
  rw [hk3,List.take_length] at hn
  subst hn
  have hle:=Mem.le.refl m
  repeat' (conv=>whnf
           first
           | exact trivial
           | (refine q0a.mk (v4f V hV 40 20 (by decide) (by decide)) ?_;rintro _ m2 ⟨V',rfl,hle,hV'⟩)
           | (refine Br.mk (fun hh=>?_) (fun hh=>?_)<;>try (cases hh;done))
           | (exact WRet.same ⟨V',by first | (rw [show okC C=false by unfold okC;simp_all<;>omega];rfl) | (rw [show okC C=decide (C.rg≤200) by unfold okC;simp_all<;>omega];rfl) | (rw [show okC C=true by unfold okC;simp_all<;>omega];rfl),hle,hV'⟩)
           | (refine And.intro ?_ ?_))
theorem v4g {m:Mem} (V:CV) {C:q0c} (hV:q1q m V C) :
  q0f Tryz.prog 15 [V.val C] m fun e m'=>∃ V',e=.returned (V'.val (q3a C))∧Mem.le m m'∧q1q m' V' (q3a C):=by
 refine q0e q0d Tryz.func15 v9n rfl ?_
 conv=>whnf
 refine q0a.mk (v4f V hV 40 20 (by decide) (by decide)) ?_
 rintro _ m2 ⟨V',rfl,hle,hV'⟩
 exact WRet.same ⟨V',rfl,hle,hV'⟩
end Go.Proofs.YtleofbpepfmfgaaGreatDoor
namespace Go.Vx
open Go
mutual
def z2l {H:Type}:DataW H→List Value
 | .lit l=>[l.value]
 | .agg xs=>z0k xs
 | _=>[]
def z0k {H:Type}:List (DataW H)→List Value
 | []=>[]
 | x :: xs=>z2l x++z0k xs
end
def z2r (P:Program) (ok:TypeId→Bool) (total:Nat):Nat→List Field→Bool
 | o,[]=>Nat.beq o total
 | o,f :: fs=>Nat.beq f.offset o&&ok f.type&&z2r P ok total (o+P.cellsOf f.type) fs
def z3b (P:Program):Nat→TypeId→Bool
 | 0,_=>false
 | n+1,t=>match P.underlying t with
  | some (.int _)=>Nat.beq (P.cellsOf t) 1
  | some .string=>Nat.beq (P.cellsOf t) 1
  | some (.struct fs)=>z2r P (z3b P n) (P.cellsOf t) 0 fs.toList
  | some (.array m e)=>z3b P n e&&Nat.beq (P.cellsOf t) (m * P.cellsOf e)
  | _=>false
variable {P:Program} {w:World} {enc:TypeId×Value→Unit} {base:Nat} {spare:Nat→Bool}
theorem w1f {ok:TypeId→Bool} {total F:Nat} {cs:List Value} (hlen:cs.length=total)
  (ih:∀ t cs d p,ok t=true→DataW.trod enc P w base spare false F t cs=some (d,p)→cs=z2l d) :
  ∀ (fs:List Field) (o:Nat) (xs:List (DataW Unit×List MemPlace)),z2r P ok total o fs=true →
   (fs.mapM fun f=>DataW.trod enc P w base spare false F f.type ((cs.drop f.offset).take (P.cellsOf f.type)))=some xs→cs.drop o=z0k (xs.map (·.1)):=by
 intro fs
 induction fs with
 | nil =>
  intro o xs h hm
  simp only [z2r] at h
  have:=q0n h
  simp only [List.mapM_nil] at hm
  cases hm
  rw [List.drop_eq_nil_iff.2 (by omega)];rfl
 | cons f fs ih2 =>
  intro o xs h hm
  simp only [z2r,Bool.and_eq_true] at h
  obtain rfl:=q0n h.1.1
  rw [List.mapM_cons] at hm
  cases h1:DataW.trod enc P w base spare false F f.type ((cs.drop f.offset).take (P.cellsOf f.type)) with
  | none=>rw [h1] at hm;cases hm
  | some y =>
   rw [h1] at hm
   cases h2:(fs.mapM fun f=>DataW.trod enc P w base spare false F f.type ((cs.drop f.offset).take (P.cellsOf f.type))) with
   | none=>rw [h2] at hm;cases hm
   | some ys =>
    rw [h2] at hm
    cases hm
    have e1:=ih f.type _ y.1 y.2 h.1.2 h1
    have e2:=ih2 _ ys h.2 h2
    simp only [List.map_cons,z0k]
    rw [← e1,← e2,← List.drop_drop]
    exact (List.take_append_drop _ _).symm
theorem k6j {e F k:Nat} {cs:List Value} (ih:∀ cs d p,DataW.trod enc P w base spare false F e cs=some (d,p)→cs=z2l d) :
  ∀ (n s:Nat) (xs:List (DataW Unit×List MemPlace)),cs.length=(s+n) * k →
   ((List.range' s n).mapM fun i=>DataW.trod enc P w base spare false F e ((cs.drop (i * k)).take k))=some xs→cs.drop (s * k)=z0k (xs.map (·.1)):=by
 intro n
 induction n with
 | zero =>
  intro s xs hlen hm
  simp only [List.range'_zero,List.mapM_nil] at hm
  cases hm
  rw [List.drop_eq_nil_iff.2 (by simp at hlen;omega)];rfl
 | succ n ih2 =>
  intro s xs hlen hm
  rw [List.range'_succ,List.mapM_cons] at hm
  cases h1:DataW.trod enc P w base spare false F e ((cs.drop (s * k)).take k) with
  | none=>rw [h1] at hm;cases hm
  | some y =>
   rw [h1] at hm
   cases h2:((List.range' (s+1) n).mapM fun i=>DataW.trod enc P w base spare false F e ((cs.drop (i * k)).take k)) with
   | none=>rw [h2] at hm;cases hm
   | some ys =>
    rw [h2] at hm
    cases hm
    have e1:=ih _ y.1 y.2 h1
    have e2:=ih2 (s+1) ys (by rw [hlen];congr 1;omega) h2
    simp only [List.map_cons,z0k]
    rw [← e1,← e2,Nat.add_mul,Nat.one_mul,← List.drop_drop]
    exact (List.take_append_drop _ _).symm
theorem j0e:∀ (n:Nat) (t:TypeId) (F:Nat) (cs:List Value) (d:DataW Unit) (p:List MemPlace),z3b P n t=true→DataW.trod enc P w base spare false F t cs=some (d,p)→cs=z2l d:=by
 intro n
 induction n with
 | zero=>intro t F cs d p h;cases h
 | succ n ih =>
  intro t F cs d p h hd
  cases F with
  | zero=>cases hd
  | succ F =>
   unfold z3b at h
   split at h
   ·rename_i k hu
    unfold DataW.trod at hd
    rw [hu] at hd
    match cs,hd with
    | [.int k' m],hd =>
     simp only at hd
     split at hd<;>try (cases hd;done)
     rename_i hc;cases hd
     rw [hc.1];rfl
   ·rename_i hu
    unfold DataW.trod at hd
    rw [hu] at hd
    match cs,hd with
    | [.string s],hd =>
     simp only at hd
     split at hd<;>try (cases hd;done)
     cases hd;rfl
   ·rename_i fs hu
    unfold DataW.trod at hd
    rw [hu] at hd
    simp only at hd
    split at hd<;>try (cases hd;done)
    rename_i hlen
    cases hm:(fs.toList.mapM fun f=>DataW.trod enc P w base spare false F f.type ((cs.drop f.offset).take (P.cellsOf f.type))) with
    | none=>rw [hm] at hd;cases hd
    | some xs =>
     rw [hm] at hd;cases hd
     exact w1f hlen (fun t cs d p h1 h2=>ih t F cs d p h1 h2) fs.toList 0 xs h hm
   ·rename_i m e hu
    rw [Bool.and_eq_true] at h
    unfold DataW.trod at hd
    rw [hu] at hd
    simp only at hd
    split at hd<;>try (cases hd;done)
    rename_i hlen
    rw [List.range_eq_range'] at hd
    cases hm:((List.range' 0 m).mapM fun i=>DataW.trod enc P w base spare false F e ((cs.drop (i * P.cellsOf e)).take (P.cellsOf e))) with
    | none=>rw [hm] at hd;cases hd
    | some xs =>
     rw [hm] at hd;cases hd
     have:=k6j (fun cs d p h2=>ih e F cs d p h.1 h2) m 0 xs (by rw [hlen,q0n h.2];congr 1;omega) hm
     simp only [Nat.zero_mul,List.drop_zero] at this
     exact this
   ·cases h
end Go.Vx
set_option maxRecDepth 100000
namespace Go.Proofs.YtleofbpepfmfgaaGreatDoor
open Go Go.Vx
open Go.Vx.IOp Go.Vx.IR Go.Vx.Opd
def q3p (w:World):Mem:=fun b=>w.heap[b]?
theorem j4w (w:World):Sub (q3p w) w:=fun _ _ h=>h
theorem z1t {w:World} {a:Addr} {v:Value} (h:w.cell? a=some v):q0q (q3p w) a v:=by
 unfold World.cell? at h
 split at h<;>try (cases h;done)
 rename_i c T fr hh
 split at h<;>try (cases h;done)
 rename_i hs
 exact ⟨c,T,fr,hh,by simpa using hs,h⟩
theorem z6k {α:Type} {Q:Nat→α→Prop}:∀ (n:Nat),(∀ k<n,∃ e,Q k e)→∃ E:List α,E.length=n∧∀ k (h:k<E.length),Q k E[k]
 | 0,_=>⟨[],rfl,fun k h=>by simp at h⟩
 | n+1,h=>by
  obtain ⟨E,h1,h2⟩:=z6k n fun k hk=>h k (by omega)
  obtain ⟨e,he⟩:=h n (by omega)
  refine ⟨E++[e],by simp [h1],fun k hk=>?_⟩
  by_cases hkn:k<n
  ·rw [List.getElem_append_left (by omega)];exact h2 k (by omega)
  ·have:k=n:=by simp [h1] at hk;omega
   subst this
   rw [List.getElem_append_right (by omega)];simpa [h1] using he
variable {H:Type} {enc:TypeId×Value→H} {w:World} {base:Nat} {spare:Nat→Bool} {held:Bool} {fuel:Nat} {cs:List Value} {x:DataW H×List MemPlace}
theorem v5i (h:DataW.trod enc Tryz.prog w base spare held fuel 22 cs=some x) :
  cs=[.slice none 0 0]∨∃ (a:Addr) (len cap:Nat) (C:List Int),cs=[.slice (some a) len cap]∧len≤cap∧cap≤maxLen∧C.length=len∧q0g (q3p w) a (C.map i):=by
 rcases ChangeShapes.open_ints Tryz.underlying22 Tryz.underlying3 (by kernel_rfl) h with ⟨h0,_⟩ | ⟨a,len,cap,zs,rfl,_,hl,hm,hz,_,hcell,_⟩
 ·exact .inl h0
 right
 refine ⟨a,len,cap,zs.take len,rfl,hl,hm,?_,fun q v hq=>?_⟩
 ·rw [List.length_take,hz];split<;>omega
 ·have hql:=(List.getElem?_eq_some_iff.1 hq).1
  simp only [List.length_map,List.length_take] at hql
  have hql2:q<zs.length:=by omega
  rw [List.getElem?_map,List.getElem?_take,if_pos (by omega),List.getElem?_eq_getElem hql2] at hq
  simp only [Option.map_some,Option.some.injEq] at hq
  have:=hcell q hql2
  rw [List.getD_eq_getElem?_getD,List.getElem?_eq_getElem hql2] at this
  rw [← hq];exact z1t (by simpa using this)
theorem z4u {v:Value} (h:v.cells.toList=[.slice none 0 0]∨∃ (a:Addr) (len cap:Nat) (C:List Int),v.cells.toList=[.slice (some a) len cap]∧len≤cap∧cap≤maxLen∧C.length=len∧q0g (q3p w) a (C.map i)) {A:Option Addr} {n c:Nat} (hv:v=.slice A n c):∃ C,IAt (q3p w) v C∧C.length<2 ^ 63:=by
 subst hv
 rcases h with h | ⟨a,len,cap,E,h,hl,hm,hE,hc⟩
 ·simp [Value.cells] at h
  obtain ⟨rfl,rfl,rfl⟩:=h
  exact ⟨[],⟨none,0,rfl,fun _=>rfl,(fun ad h=>by cases h),Nat.le_refl _⟩,by decide⟩
 ·simp [Value.cells] at h
  obtain ⟨rfl,rfl,rfl⟩:=h
  subst hE
  exact ⟨E,⟨some a,_,rfl,(fun h=>by cases h),(fun ad h=>by cases h;exact hc),hl⟩,by unfold maxLen at hm;omega⟩
end Go.Proofs.YtleofbpepfmfgaaGreatDoor
set_option maxRecDepth 100000
namespace Go.Proofs.YtleofbpepfmfgaaGreatDoor
open Go Go.Vx
open Go.Vx.IOp Go.Vx.IR Go.Vx.Opd
variable {H:Type} {enc:TypeId×Value→H} {w:World} {base:Nat} {spare:Nat→Bool} {held:Bool} {fuel:Nat} {cs:List Value} {x:DataW H×List MemPlace}
theorem k6h (h:DataW.trod enc Tryz.prog w base spare held fuel 29 cs=some x) :
  cs=[.slice none 0 0]∨∃ (a:Addr) (len cap:Nat) (C:List Int),cs=[.slice (some a) len cap]∧len≤cap∧cap≤maxLen∧C.length=len∧q0g (q3p w) a (C.map i):=by
 rcases ChangeShapes.open_ints Tryz.underlying29 Tryz.underlying2 (by kernel_rfl) h with ⟨h0,_⟩ | ⟨a,len,cap,zs,rfl,_,hl,hm,hz,_,hcell,_⟩
 ·exact .inl h0
 right
 refine ⟨a,len,cap,zs.take len,rfl,hl,hm,?_,fun q v hq=>?_⟩
 ·rw [List.length_take,hz];split<;>omega
 ·have hql:=(List.getElem?_eq_some_iff.1 hq).1
  simp only [List.length_map,List.length_take] at hql
  have hql2:q<zs.length:=by omega
  rw [List.getElem?_map,List.getElem?_take,if_pos (by omega),List.getElem?_eq_getElem hql2] at hq
  simp only [Option.map_some,Option.some.injEq] at hq
  have:=hcell q hql2
  rw [List.getD_eq_getElem?_getD,List.getElem?_eq_getElem hql2] at this
  rw [← hq];exact z1t (by simpa using this)
end Go.Proofs.YtleofbpepfmfgaaGreatDoor
